/- The abstract values that Go values stand for, and the relation between the two. -/
import Derived.WalkKit
set_option linter.unusedVariables false
set_option linter.unusedSimpArgs false
namespace Go.Mu
open Go.RowKit (Below)

inductive AV where
  | v (x : Value)
  | vs (sz : Nat) (es : List (List AV))
  | vp (cs : List AV)
  | bp (k off : Nat)
  | rp (k ver i off : Nat)
  | hs (k off n ver : Nat)
  | hm (k : Nat)
  | hi (k : Nat)
  | fn (f : Fn) (first captured : List AV)
  | ifc (t : TypeId) (x : AV)
  | agg (cs : List AV)
  | tup (xs : List AV)
  | junk

inductive Blk where
  | box (t : TypeId) (cs : List AV)
  | row (t : TypeId) (sz : Nat) (es : List (List AV))
  | map (es : List (Value × AV))
  | pend
  | gone

def Blk.fixed : Blk → Bool
  | .box .. | .map .. | .gone => true
  | _ => false
def Blk.live : Blk → Bool
  | .box .. | .map .. | .row .. => true
  | _ => false

structure Cx where
  w : World
  Φ : Nat → Prop
  κ : Nat → Nat
  γ : Nat → Nat
  H : List Blk

/-- 'true': a value that leads to no block of the call's own. -/
inductive Rep (cx : Cx) : Bool → AV → Value → Prop
  | v {z : Bool} (x : Value) : Rep cx z (.v x) x
  | vs0 {z : Bool} (sz : Nat) (a : Option Addr) (cap : Nat) : Rep cx z (.vs sz []) (.slice a 0 cap)
  | vs {z : Bool} (sz : Nat) (es : List (List AV)) (b o cap : Nat) (vals : List Value) (hf : cx.Φ b) (hz : 0 < sz) (hcap : es.length ≤ cap) (hl : ∀ e ∈ es, e.length = sz)
      (hn : es.flatten.length = vals.length) (ho : ∀ x ∈ vals, x.oneCell' = true) (hc : ∀ (j : Nat) x, vals[j]? = some x → cx.w.cell? ⟨b, o + j, none⟩ = some x)
      (hr : ∀ (j : Nat) c x, es.flatten[j]? = some c → vals[j]? = some x → Rep cx true c x) : Rep cx z (.vs sz es) (.slice (some ⟨b, o, none⟩) es.length cap)
  | vp {z : Bool} (cs : List AV) (b o : Nat) (vals : List Value) (hf : cx.Φ b)
      (hn : cs.length = vals.length) (hc : ∀ (j : Nat) x, vals[j]? = some x → cx.w.cell? ⟨b, o + j, none⟩ = some x)
      (hr : ∀ (j : Nat) c x, cs[j]? = some c → vals[j]? = some x → Rep cx true c x) : Rep cx z (.vp cs) (.pointer (some ⟨b, o, none⟩))
  | bp (k off : Nat) (bl : Blk) (hk : cx.H[k]? = some bl) (hf : bl.fixed = true) : Rep cx false (.bp k off) (.pointer (some ⟨cx.κ k, off, none⟩))
  | rp (k ver i off : Nat) (y : Value) (ho : y.oneCell' = true) (bl : Blk) (hk : cx.H[k]? = some bl) (hp : bl.fixed = true ∨ ∃ t sz es, bl = .row t sz es ∧ ver ≤ es.length ∧
        (es.length = ver → y = .pointer (some ⟨cx.κ k, i * sz + off, none⟩))) : Rep cx false (.rp k ver i off) y
  | hs (k off n ver : Nat) (y : Value) (ho : y.oneCell' = true) (bl : Blk) (hk : cx.H[k]? = some bl) (hp : bl.fixed = true ∨ ∃ t sz es, bl = .row t sz es ∧ ver ≤ es.length ∧
        (es.length = ver → off + n ≤ ver ∧ y = .slice (some ⟨cx.κ k, off * sz, none⟩) n (cx.γ k - off))) : Rep cx false (.hs k off n ver) y
  | hm (k : Nat) (bl : Blk) (hk : cx.H[k]? = some bl) (hf : bl.fixed = true) : Rep cx false (.hm k) (.map (some (cx.κ k)))
  | hi (k : Nat) (bl : Blk) (hk : cx.H[k]? = some bl) (hf : bl.fixed = true) : Rep cx false (.hi k) (.pointer (some ⟨cx.κ k, 0, none⟩))
  | fn {z : Bool} (f : Fn) (fs cs : List AV) (vf vc : List Value) (hnf : fs.length = vf.length) (hrf : ∀ (j : Nat) c x, fs[j]? = some c → vf[j]? = some x → Rep cx z c x)
      (hnc : cs.length = vc.length) (hrc : ∀ (j : Nat) c x, cs[j]? = some c → vc[j]? = some x → Rep cx z c x) : Rep cx z (.fn f fs cs) (.func f vf.toArray vc.toArray)
  | ifc {z : Bool} (t : TypeId) (x : AV) (y : Value) (h : Rep cx z x y) : Rep cx z (.ifc t x) (.iface t y)
  | agg {z : Bool} (cs : List AV) (vals : List Value) (hn : cs.length = vals.length) (hr : ∀ (j : Nat) c x, cs[j]? = some c → vals[j]? = some x → Rep cx z c x) :
      Rep cx z (.agg cs) (.agg vals.toArray)
  | tup {z : Bool} (cs : List AV) (vals : List Value) (hn : cs.length = vals.length) (hr : ∀ (j : Nat) c x, cs[j]? = some c → vals[j]? = some x → Rep cx z c x) :
      Rep cx z (.tup cs) (.tuple vals.toArray)
  | junk {z : Bool} (y : Value) : Rep cx z .junk y

/-- Cell by cell. -/
structure RepL (cx : Cx) (z : Bool) (cs : List AV) (vals : List Value) : Prop where
  len : cs.length = vals.length
  rep : ∀ (j : Nat) c x, cs[j]? = some c → vals[j]? = some x → Rep cx z c x

theorem RepL.nil (cx : Cx) (z : Bool) : RepL cx z [] [] := ⟨rfl, fun j c x h => by simp at h⟩
theorem RepL.cons {cx : Cx} {z : Bool} {c : AV} {cs : List AV} {x : Value} {xs : List Value} (h : Rep cx z c x) (hs : RepL cx z cs xs) : RepL cx z (c :: cs) (x :: xs) := by
  refine ⟨by simp [hs.len], fun j c' x' h1 h2 => ?_⟩
  cases j with
  | zero => simp at h1 h2; subst h1; subst h2; exact h
  | succ j => exact hs.rep j c' x' (by simpa using h1) (by simpa using h2)
theorem RepL.head {cx : Cx} {z : Bool} {c : AV} {cs : List AV} {x : Value} {xs : List Value} (h : RepL cx z (c :: cs) (x :: xs)) : Rep cx z c x := h.rep 0 _ _ rfl rfl
theorem RepL.tail {cx : Cx} {z : Bool} {c : AV} {cs : List AV} {x : Value} {xs : List Value} (h : RepL cx z (c :: cs) (x :: xs)) : RepL cx z cs xs :=
  ⟨by simpa using h.len, fun j c' x' h1 h2 => h.rep (j + 1) c' x' (by simpa using h1) (by simpa using h2)⟩
theorem RepL.cons_inv {cx : Cx} {z : Bool} {c : AV} {cs : List AV} {vals : List Value} (h : RepL cx z (c :: cs) vals) : ∃ x xs, vals = x :: xs ∧ Rep cx z c x ∧ RepL cx z cs xs := by
  cases vals with
  | nil => have := h.len; simp at this
  | cons x xs => exact ⟨x, xs, rfl, h.head, h.tail⟩
theorem RepL.nil_inv {cx : Cx} {z : Bool} {vals : List Value} (h : RepL cx z [] vals) : vals = [] := by
  have := h.len; simp at this; exact List.eq_nil_of_length_eq_zero this.symm
theorem RepL.append {cx : Cx} {z : Bool} {cs ds : List AV} {xs ys : List Value} (h : RepL cx z cs xs) (k : RepL cx z ds ys) : RepL cx z (cs ++ ds) (xs ++ ys) := by
  induction cs generalizing xs with
  | nil => obtain rfl := h.nil_inv; simpa using k
  | cons c cs ih => obtain ⟨x, xs', rfl, hx, hxs⟩ := h.cons_inv; exact (ih hxs).cons hx
theorem RepL.take {cx : Cx} {z : Bool} {cs : List AV} {xs : List Value} (h : RepL cx z cs xs) (n : Nat) : RepL cx z (cs.take n) (xs.take n) := by
  refine ⟨by simp [h.len], fun j c x h1 h2 => ?_⟩
  rw [List.getElem?_take] at h1 h2
  split at h1
  · rename_i hj; rw [if_pos hj] at h2; exact h.rep j c x h1 h2
  · simp at h1
theorem RepL.drop {cx : Cx} {z : Bool} {cs : List AV} {xs : List Value} (h : RepL cx z cs xs) (n : Nat) : RepL cx z (cs.drop n) (xs.drop n) := by
  refine ⟨by simp [h.len], fun j c x h1 h2 => ?_⟩
  rw [List.getElem?_drop] at h1 h2
  exact h.rep _ c x h1 h2
theorem RepL.get {cx : Cx} {z : Bool} {cs : List AV} {xs : List Value} (h : RepL cx z cs xs) {j : Nat} {c : AV} (hc : cs[j]? = some c) : ∃ x, xs[j]? = some x ∧ Rep cx z c x := by
  have hj : j < xs.length := by
    have := (List.getElem?_eq_some_iff.1 hc).1
    rw [h.len] at this; exact this
  exact ⟨xs[j], List.getElem?_eq_getElem hj, h.rep j c _ hc (List.getElem?_eq_getElem hj)⟩
theorem RepL.set {cx : Cx} {z : Bool} {cs : List AV} {xs : List Value} (h : RepL cx z cs xs) (n : Nat) {c : AV} {x : Value} (hx : Rep cx z c x) : RepL cx z (cs.set n c) (xs.set n x) := by
  refine ⟨by simp [h.len], fun j c' x' h1 h2 => ?_⟩
  rw [List.getElem?_set] at h1 h2
  by_cases hj : n = j
  · subst hj
    have hl := h.len
    by_cases hlt : n < cs.length
    · have hlt' : n < xs.length := by omega
      simp [hlt] at h1; simp [hlt'] at h2; subst h1; subst h2; exact hx
    · simp [hlt] at h1
  · rw [if_neg hj] at h1 h2; exact h.rep j c' x' h1 h2

theorem Rep.weak {cx : Cx} {z : Bool} {a : AV} {y : Value} (h : Rep cx z a y) : Rep cx false a y := by
  cases z with
  | false => exact h
  | true =>
    generalize hb : true = b at h
    induction h with
    | v x => exact .v x
    | vs0 sz a cap => exact .vs0 sz a cap
    | vs sz es b o cap vals hf hz hcap hl hn ho hc hr _ => exact .vs sz es b o cap vals hf hz hcap hl hn ho hc hr
    | vp cs b o vals hf hn hc hr _ => exact .vp cs b o vals hf hn hc hr
    | bp => cases hb
    | rp => cases hb
    | hs => cases hb
    | hm => cases hb
    | hi => cases hb
    | fn f fs cs vf vc hnf hrf hnc hrc ihf ihc => exact .fn f fs cs vf vc hnf (fun j c x a b => ihf j c x a b hb) hnc (fun j c x a b => ihc j c x a b hb)
    | ifc t x y h ih => exact .ifc t x y (ih hb)
    | agg cs vals hn hr ih => exact .agg cs vals hn (fun j c x a b => ih j c x a b hb)
    | tup cs vals hn hr ih => exact .tup cs vals hn (fun j c x a b => ih j c x a b hb)
    | junk y => exact .junk y
theorem RepL.weak {cx : Cx} {z : Bool} {cs : List AV} {xs : List Value} (h : RepL cx z cs xs) : RepL cx false cs xs := ⟨h.len, fun j c x a b => (h.rep j c x a b).weak⟩

/-- What is known of 'cx' stays true in 'cx''. -/
structure Le (cx cx' : Cx) : Prop where
  cell : ∀ b o x, cx.Φ b → cx.w.cell? ⟨b, o, none⟩ = some x → cx'.w.cell? ⟨b, o, none⟩ = some x
  fr : ∀ b, cx.Φ b → cx'.Φ b
  fixed : ∀ k bl, cx.H[k]? = some bl → bl.fixed = true → ∃ bl', cx'.H[k]? = some bl' ∧ bl'.fixed = true ∧ cx'.κ k = cx.κ k
  row : ∀ k t sz es, cx.H[k]? = some (.row t sz es) → (∃ bl', cx'.H[k]? = some bl' ∧ bl'.fixed = true) ∨
    ∃ es', cx'.H[k]? = some (.row t sz es') ∧ es.length ≤ es'.length ∧ (es'.length = es.length → cx'.κ k = cx.κ k ∧ cx'.γ k = cx.γ k)

theorem Le.refl (cx : Cx) : Le cx cx :=
  ⟨fun _ _ _ _ h => h, fun _ h => h, fun k bl h hf => ⟨bl, h, hf, rfl⟩, fun k t sz es h => .inr ⟨es, h, Nat.le_refl _, fun _ => ⟨rfl, rfl⟩⟩⟩
theorem Le.trans {a b c : Cx} (h : Le a b) (k : Le b c) : Le a c := by
  refine ⟨fun b' o x hf hc => k.cell b' o x (h.fr _ hf) (h.cell b' o x hf hc), fun b' hf => k.fr _ (h.fr _ hf), fun i bl hi hf => ?_, fun i t sz es hi => ?_⟩
  · obtain ⟨bl', h1, h2, h3⟩ := h.fixed i bl hi hf
    obtain ⟨bl'', k1, k2, k3⟩ := k.fixed i bl' h1 h2
    exact ⟨bl'', k1, k2, k3.trans h3⟩
  · rcases h.row i t sz es hi with ⟨bl', h1, h2⟩ | ⟨es', h1, h2, h3⟩
    · obtain ⟨bl'', k1, k2, _⟩ := k.fixed i bl' h1 h2
      exact .inl ⟨bl'', k1, k2⟩
    · rcases k.row i t sz es' h1 with hh | ⟨es'', k1, k2, k3⟩
      · exact .inl hh
      · refine .inr ⟨es'', k1, by omega, fun he => ?_⟩
        have e1 : es'.length = es.length := by omega
        have := h3 e1
        have := k3 (by omega)
        simp_all

theorem Rep.mono {cx cx' : Cx} (hle : Le cx cx') {z : Bool} {a : AV} {y : Value} (h : Rep cx z a y) : Rep cx' z a y := by
  induction h with
  | v x => exact .v x
  | vs0 sz a cap => exact .vs0 sz a cap
  | vs sz es b o cap vals hf hz hcap hl hn ho hc hr ih => exact .vs sz es b o cap vals (hle.fr _ hf) hz hcap hl hn ho (fun j x hx => hle.cell _ _ _ hf (hc j x hx)) ih
  | vp cs b o vals hf hn hc hr ih => exact .vp cs b o vals (hle.fr _ hf) hn (fun j x hx => hle.cell _ _ _ hf (hc j x hx)) ih
  | bp k off bl hk hf => obtain ⟨bl', h1, h2, h3⟩ := hle.fixed k bl hk hf; rw [← h3]; exact .bp k off bl' h1 h2
  | rp k ver i off y ho bl hk hp =>
    rcases hp with hf | ⟨t, sz, es, rfl, hv, hy⟩
    · obtain ⟨bl', h1, h2, h3⟩ := hle.fixed k bl hk hf; exact .rp k ver i off y ho bl' h1 (.inl h2)
    · rcases hle.row k t sz es hk with ⟨bl', h1, h2⟩ | ⟨es', h1, h2, h3⟩
      · exact .rp k ver i off y ho bl' h1 (.inl h2)
      · refine .rp k ver i off y ho _ h1 (.inr ⟨t, sz, es', rfl, by omega, fun he => ?_⟩)
        obtain ⟨e1, e2⟩ := h3 (by omega)
        rw [e1]; exact hy (by omega)
  | hs k off n ver y ho bl hk hp =>
    rcases hp with hf | ⟨t, sz, es, rfl, hv, hy⟩
    · obtain ⟨bl', h1, h2, h3⟩ := hle.fixed k bl hk hf; exact .hs k off n ver y ho bl' h1 (.inl h2)
    · rcases hle.row k t sz es hk with ⟨bl', h1, h2⟩ | ⟨es', h1, h2, h3⟩
      · exact .hs k off n ver y ho bl' h1 (.inl h2)
      · refine .hs k off n ver y ho _ h1 (.inr ⟨t, sz, es', rfl, by omega, fun he => ?_⟩)
        obtain ⟨e1, e2⟩ := h3 (by omega)
        rw [e1, e2]; exact hy (by omega)
  | hm k bl hk hf => obtain ⟨bl', h1, h2, h3⟩ := hle.fixed k bl hk hf; rw [← h3]; exact .hm k bl' h1 h2
  | hi k bl hk hf => obtain ⟨bl', h1, h2, h3⟩ := hle.fixed k bl hk hf; rw [← h3]; exact .hi k bl' h1 h2
  | fn f fs cs vf vc hnf hrf hnc hrc ihf ihc => exact .fn f fs cs vf vc hnf ihf hnc ihc
  | ifc t x y h ih => exact .ifc t x y ih
  | agg cs vals hn hr ih => exact .agg cs vals hn ih
  | tup cs vals hn hr ih => exact .tup cs vals hn ih
  | junk y => exact .junk y
theorem RepL.mono {cx cx' : Cx} (hle : Le cx cx') {z : Bool} {cs : List AV} {xs : List Value} (h : RepL cx z cs xs) : RepL cx' z cs xs := ⟨h.len, fun j c x a b => (h.rep j c x a b).mono hle⟩

/-- A block of the call's own, as it lies in memory. -/
def BRel (B : Nat) (cx : Cx) (k : Nat) : Blk → Prop
  | .box t cs => B ≤ cx.κ k ∧ ¬ cx.Φ (cx.κ k) ∧ ∃ vals : List Value, cx.w.heap[cx.κ k]? = some (.cells vals.toArray t (0, 0)) ∧ RepL cx false cs vals
  | .row t sz es => B ≤ cx.κ k ∧ ¬ cx.Φ (cx.κ k) ∧ 0 < sz ∧ (∀ e ∈ es, e.length = sz) ∧ es.length ≤ cx.γ k ∧ cx.γ k ≤ maxLen ∧
      ∃ vals : List Value, cx.w.heap[cx.κ k]? = some (.cells vals.toArray t (0, 0)) ∧ vals.length = cx.γ k * sz ∧ RepL cx false es.flatten (vals.take (es.length * sz)) ∧ (∀ x ∈ vals, x.oneCell' = true)
  | .map es => B ≤ cx.κ k ∧ ¬ cx.Φ (cx.κ k) ∧ ∃ (ents : List MapEntry) (clock : Nat), cx.w.heap[cx.κ k]? = some (.map ents.toArray clock) ∧
      es.length = ents.length ∧ (∀ (j : Nat) p e, es[j]? = some p → ents[j]? = some e → p.1 = e.key ∧ Rep cx false p.2 e.val ∧ e.born < clock) ∧ (ents.map (·.born)).Pairwise (· < ·)
  | .pend => True
  | .gone => True

structure HRel (B : Nat) (w0 : World) (cx : Cx) : Prop where
  below : Below B w0 cx.w
  base : B ≤ cx.w.heap.size
  frz : ∀ b, cx.Φ b → b < cx.w.heap.size
  blk : ∀ k bl, cx.H[k]? = some bl → BRel B cx k bl
  inj : ∀ k k' bl bl', cx.H[k]? = some bl → cx.H[k']? = some bl' → bl.live = true → bl'.live = true → cx.κ k = cx.κ k' → k = k'

theorem BRel.lt {B : Nat} {cx : Cx} {k : Nat} {bl : Blk} (h : BRel B cx k bl) (hl : bl.live = true) : B ≤ cx.κ k ∧ cx.κ k < cx.w.heap.size ∧ ¬ cx.Φ (cx.κ k) := by
  cases bl <;> simp [Blk.live] at hl
  · obtain ⟨h1, h2, vals, h3, _⟩ := h; exact ⟨h1, (Array.getElem?_eq_some_iff.1 h3).1, h2⟩
  · obtain ⟨h1, h2, _, _, _, _, vals, h3, _⟩ := h; exact ⟨h1, (Array.getElem?_eq_some_iff.1 h3).1, h2⟩
  · obtain ⟨h1, h2, ents, clock, h3, _⟩ := h; exact ⟨h1, (Array.getElem?_eq_some_iff.1 h3).1, h2⟩

/-- A block stays what it is where its own memory does. -/
theorem BRel.mono {B : Nat} {cx cx' : Cx} {k : Nat} {bl : Blk} (h : BRel B cx k bl) (hle : Le cx cx') (hl : bl.live = true → cx'.κ k = cx.κ k ∧ cx'.γ k = cx.γ k ∧ cx'.w.heap[cx.κ k]? = cx.w.heap[cx.κ k]? ∧ ¬ cx'.Φ (cx.κ k)) :
    BRel B cx' k bl := by
  cases bl with
  | box t cs =>
    obtain ⟨e1, e2, e3, e4⟩ := hl rfl
    obtain ⟨h1, h2, vals, h3, h4⟩ := h
    refine ⟨by rw [e1]; exact h1, by rw [e1]; exact e4, vals, by rw [e1, e3]; exact h3, h4.mono hle⟩
  | row t sz es =>
    obtain ⟨e1, e2, e3, e4⟩ := hl rfl
    obtain ⟨h1, h2, h3, h4, h5, h6, vals, h7, h8, h9, h10⟩ := h
    refine ⟨by rw [e1]; exact h1, by rw [e1]; exact e4, h3, h4, by rw [e2]; exact h5, by rw [e2]; exact h6, vals, by rw [e1, e3]; exact h7, by rw [e2]; exact h8, h9.mono hle, h10⟩
  | map es =>
    obtain ⟨e1, e2, e3, e4⟩ := hl rfl
    obtain ⟨h1, h2, ents, clock, h3, h4, h5, h6⟩ := h
    refine ⟨by rw [e1]; exact h1, by rw [e1]; exact e4, ents, clock, by rw [e1, e3]; exact h3, h4, fun j p e a b => ?_, h6⟩
    obtain ⟨x1, x2, x3⟩ := h5 j p e a b
    exact ⟨x1, x2.mono hle, x3⟩
  | pend => trivial
  | gone => trivial

end Go.Mu
