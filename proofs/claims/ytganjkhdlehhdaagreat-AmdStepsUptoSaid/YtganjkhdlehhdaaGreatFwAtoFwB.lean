/- The abstract values that Go values stand for, and the relation between the two. -/
import Derived.WalkKit
set_option linter.unusedVariables false
set_option linter.unusedSimpArgs false
namespace Go.Mu
open Go.RowKit (Below)
inductive AV where
  | v (x : Value)
  | vs (sz : Nat) (es : List (List AV))
  | vx (sz : Nat) (es : List (List AV))
  | vp (cs : List AV)
  | bp (k off : Nat)
  | rp (k ver i off : Nat)
  | hs (k off n ver : Nat)
  | hm (k : Nat)
  | hg (k : Nat)
  | hi (k : Nat)
  | yl (k : Nat)
  | bs (k off n : Nat)
  | fn (f : Fn) (first captured : List AV)
  | ifc (t : TypeId) (x : AV)
  | agg (cs : List AV)
  | tup (xs : List AV)
  | junk
inductive Blk where
  | box (t : TypeId) (cs : List AV)
  | row (t : TypeId) (sz : Nat) (es : List (List AV))
  | map (es : List (Value × AV))
  | mapg (es : List (Value × AV))
  | pend
  | gone
  | dfr (o : Bool)
  | lp (st : LoopState) (pend : Option Code) (n : Nat) (f : Nat → AV) (ps : Array Tmp) (assign body : Code)
  | it (km : Option Nat) (n : Nat) (seen : List Nat)
def Blk.fixed : Blk → Bool
  | .box .. | .map .. | .mapg .. | .gone | .dfr .. | .lp .. | .it .. => true
  | _ => false
def Blk.live : Blk → Bool
  | .box .. | .map .. | .mapg .. | .row .. | .dfr .. | .lp .. | .it .. => true
  | _ => false
structure Cx where
  w : World
  Φ : Nat → Prop
  κ : Nat → Nat
  γ : Nat → Nat
  H : List Blk
inductive Rep (cx : Cx) : Bool → AV → Value → Prop
  | v {z : Bool} (x : Value) : Rep cx z (.v x) x
  | vs0 {z : Bool} (sz : Nat) (a : Option Addr) (cap : Nat) : Rep cx z (.vs sz []) (.slice a 0 cap)
  | vs {z : Bool} (sz : Nat) (es : List (List AV)) (b o cap : Nat) (vals : List Value) (hf : cx.Φ b) (hz : 0 < sz) (hcap : es.length ≤ cap) (hl : ∀ e ∈ es, e.length = sz)
      (hn : es.flatten.length = vals.length) (ho : ∀ x ∈ vals, x.oneCell' = true) (hc : ∀ (j : Nat) x, vals[j]? = some x → cx.w.cell? ⟨b, o + j, none⟩ = some x)
      (hr : ∀ (j : Nat) c x, es.flatten[j]? = some c → vals[j]? = some x → Rep cx true c x) : Rep cx z (.vs sz es) (.slice (some ⟨b, o, none⟩) es.length cap)
  | vx {z : Bool} (sz : Nat) (es : List (List AV)) (b o : Nat) (vals : List Value) (hf : cx.Φ b) (hz : 0 < sz) (hl : ∀ e ∈ es, e.length = sz)
      (hn : es.flatten.length = vals.length) (ho : ∀ x ∈ vals, x.oneCell' = true) (hc : ∀ (j : Nat) x, vals[j]? = some x → cx.w.cell? ⟨b, o + j, none⟩ = some x)
      (hr : ∀ (j : Nat) c x, es.flatten[j]? = some c → vals[j]? = some x → Rep cx true c x) : Rep cx z (.vx sz es) (.slice (some ⟨b, o, none⟩) es.length es.length)
  | vp {z : Bool} (cs : List AV) (b o : Nat) (vals : List Value) (hf : cx.Φ b)
      (hn : cs.length = vals.length) (hc : ∀ (j : Nat) x, vals[j]? = some x → cx.w.cell? ⟨b, o + j, none⟩ = some x)
      (hr : ∀ (j : Nat) c x, cs[j]? = some c → vals[j]? = some x → Rep cx true c x) : Rep cx z (.vp cs) (.pointer (some ⟨b, o, none⟩))
  | bp (k off : Nat) (bl : Blk) (hk : cx.H[k]? = some bl) (hf : bl.fixed = true) : Rep cx false (.bp k off) (.pointer (some ⟨cx.κ k, off, none⟩))
  | rp (k ver i off : Nat) (y : Value) (ho : y.oneCell' = true) (bl : Blk) (hk : cx.H[k]? = some bl) (hp : bl.fixed = true ∨ ∃ t sz es, bl = .row t sz es ∧ ver ≤ es.length ∧
        (es.length = ver → y = .pointer (some ⟨cx.κ k, i * sz + off, none⟩))) : Rep cx false (.rp k ver i off) y
  | hs (k off n ver : Nat) (y : Value) (ho : y.oneCell' = true) (bl : Blk) (hk : cx.H[k]? = some bl) (hp : bl.fixed = true ∨ ∃ t sz es, bl = .row t sz es ∧ ver ≤ es.length ∧
        (es.length = ver → off + n ≤ ver ∧ y = .slice (some ⟨cx.κ k, off * sz, none⟩) n (cx.γ k - off))) : Rep cx false (.hs k off n ver) y
  | hm (k : Nat) (bl : Blk) (hk : cx.H[k]? = some bl) (hf : bl.fixed = true) : Rep cx false (.hm k) (.map (some (cx.κ k)))
  | hg (k : Nat) (bl : Blk) (hk : cx.H[k]? = some bl) (hf : bl.fixed = true) : Rep cx false (.hg k) (.map (some (cx.κ k)))
  | hi (k : Nat) (bl : Blk) (hk : cx.H[k]? = some bl) (hf : bl.fixed = true) : Rep cx false (.hi k) (.pointer (some ⟨cx.κ k, 0, none⟩))
  | yl (k : Nat) (bl : Blk) (hk : cx.H[k]? = some bl) (hf : bl.fixed = true) : Rep cx false (.yl k) (.func (.yield (cx.κ k)) #[] #[])
  | bs (k off n cap : Nat) (bl : Blk) (hk : cx.H[k]? = some bl) (hf : bl.fixed = true) (hc : n ≤ cap) : Rep cx false (.bs k off n) (.slice (some ⟨cx.κ k, off, none⟩) n cap)
  | fn {z : Bool} (f : Fn) (fs cs : List AV) (vf vc : List Value) (hnf : fs.length = vf.length) (hrf : ∀ (j : Nat) c x, fs[j]? = some c → vf[j]? = some x → Rep cx z c x)
      (hnc : cs.length = vc.length) (hrc : ∀ (j : Nat) c x, cs[j]? = some c → vc[j]? = some x → Rep cx z c x) : Rep cx z (.fn f fs cs) (.func f vf.toArray vc.toArray)
  | ifc {z : Bool} (t : TypeId) (x : AV) (y : Value) (h : Rep cx z x y) : Rep cx z (.ifc t x) (.iface t y)
  | agg {z : Bool} (cs : List AV) (vals : List Value) (hn : cs.length = vals.length) (hr : ∀ (j : Nat) c x, cs[j]? = some c → vals[j]? = some x → Rep cx z c x) :
      Rep cx z (.agg cs) (.agg vals.toArray)
  | tup {z : Bool} (cs : List AV) (vals : List Value) (hn : cs.length = vals.length) (hr : ∀ (j : Nat) c x, cs[j]? = some c → vals[j]? = some x → Rep cx z c x) :
      Rep cx z (.tup cs) (.tuple vals.toArray)
  | junk {z : Bool} (y : Value) : Rep cx z .junk y
structure RepL (cx : Cx) (z : Bool) (cs : List AV) (vals : List Value) : Prop where
  len : cs.length = vals.length
  rep : ∀ (j : Nat) c x, cs[j]? = some c → vals[j]? = some x → Rep cx z c x
theorem RepL.nil (cx : Cx) (z : Bool) : RepL cx z [] [] := ⟨rfl, fun j c x h => by simp at h⟩
theorem RepL.cons {cx : Cx} {z : Bool} {c : AV} {cs : List AV} {x : Value} {xs : List Value} (h : Rep cx z c x) (hs : RepL cx z cs xs) : RepL cx z (c :: cs) (x :: xs) := by
  refine ⟨by simp [hs.len], fun j c' x' h1 h2 => ?_⟩
  cases j with
  | zero => simp at h1 h2; subst h1; subst h2; exact h
  | succ j => exact hs.rep j c' x' (by simpa using h1) (by simpa using h2)
theorem RepL.head {cx : Cx} {z : Bool} {c : AV} {cs : List AV} {x : Value} {xs : List Value} (h : RepL cx z (c :: cs) (x :: xs)) : Rep cx z c x := h.rep 0 _ _ rfl rfl
theorem RepL.tail {cx : Cx} {z : Bool} {c : AV} {cs : List AV} {x : Value} {xs : List Value} (h : RepL cx z (c :: cs) (x :: xs)) : RepL cx z cs xs :=
  ⟨by simpa using h.len, fun j c' x' h1 h2 => h.rep (j + 1) c' x' (by simpa using h1) (by simpa using h2)⟩
theorem RepL.cons_inv {cx : Cx} {z : Bool} {c : AV} {cs : List AV} {vals : List Value} (h : RepL cx z (c :: cs) vals) : ∃ x xs, vals = x :: xs ∧ Rep cx z c x ∧ RepL cx z cs xs := by
  cases vals with
  | nil => have := h.len; simp at this
  | cons x xs => exact ⟨x, xs, rfl, h.head, h.tail⟩
theorem RepL.nil_inv {cx : Cx} {z : Bool} {vals : List Value} (h : RepL cx z [] vals) : vals = [] := by
  have := h.len; simp at this; exact List.eq_nil_of_length_eq_zero this.symm
theorem RepL.append {cx : Cx} {z : Bool} {cs ds : List AV} {xs ys : List Value} (h : RepL cx z cs xs) (k : RepL cx z ds ys) : RepL cx z (cs ++ ds) (xs ++ ys) := by
  induction cs generalizing xs with
  | nil => obtain rfl := h.nil_inv; simpa using k
  | cons c cs ih => obtain ⟨x, xs', rfl, hx, hxs⟩ := h.cons_inv; exact (ih hxs).cons hx
theorem RepL.take {cx : Cx} {z : Bool} {cs : List AV} {xs : List Value} (h : RepL cx z cs xs) (n : Nat) : RepL cx z (cs.take n) (xs.take n) := by
  refine ⟨by simp [h.len], fun j c x h1 h2 => ?_⟩
  rw [List.getElem?_take] at h1 h2
  split at h1
  · rename_i hj; rw [if_pos hj] at h2; exact h.rep j c x h1 h2
  · simp at h1
theorem RepL.drop {cx : Cx} {z : Bool} {cs : List AV} {xs : List Value} (h : RepL cx z cs xs) (n : Nat) : RepL cx z (cs.drop n) (xs.drop n) := by
  refine ⟨by simp [h.len], fun j c x h1 h2 => ?_⟩
  rw [List.getElem?_drop] at h1 h2
  exact h.rep _ c x h1 h2
theorem RepL.get {cx : Cx} {z : Bool} {cs : List AV} {xs : List Value} (h : RepL cx z cs xs) {j : Nat} {c : AV} (hc : cs[j]? = some c) : ∃ x, xs[j]? = some x ∧ Rep cx z c x := by
  have hj : j < xs.length := by
    have := (List.getElem?_eq_some_iff.1 hc).1
    rw [h.len] at this; exact this
  exact ⟨xs[j], List.getElem?_eq_getElem hj, h.rep j c _ hc (List.getElem?_eq_getElem hj)⟩
theorem Rep.weak {cx : Cx} {z : Bool} {a : AV} {y : Value} (h : Rep cx z a y) : Rep cx false a y := by
  cases z with
  | false => exact h
  | true =>
    generalize hb : true = b at h
    induction h with
    | v x => exact .v x
    | vs0 sz a cap => exact .vs0 sz a cap
    | vs sz es b o cap vals hf hz hcap hl hn ho hc hr _ => exact .vs sz es b o cap vals hf hz hcap hl hn ho hc hr
    | vx sz es b o vals hf hz hl hn ho hc hr _ => exact .vx sz es b o vals hf hz hl hn ho hc hr
    | vp cs b o vals hf hn hc hr _ => exact .vp cs b o vals hf hn hc hr
    | bp => cases hb
    | rp => cases hb
    | hs => cases hb
    | hm => cases hb
    | hg => cases hb
    | hi => cases hb
    | yl => cases hb
    | bs => cases hb
    | fn f fs cs vf vc hnf hrf hnc hrc ihf ihc => exact .fn f fs cs vf vc hnf (fun j c x a b => ihf j c x a b hb) hnc (fun j c x a b => ihc j c x a b hb)
    | ifc t x y h ih => exact .ifc t x y (ih hb)
    | agg cs vals hn hr ih => exact .agg cs vals hn (fun j c x a b => ih j c x a b hb)
    | tup cs vals hn hr ih => exact .tup cs vals hn (fun j c x a b => ih j c x a b hb)
    | junk y => exact .junk y
theorem RepL.weak {cx : Cx} {z : Bool} {cs : List AV} {xs : List Value} (h : RepL cx z cs xs) : RepL cx false cs xs := ⟨h.len, fun j c x a b => (h.rep j c x a b).weak⟩
structure Le (cx cx' : Cx) : Prop where
  cell : ∀ b o x, cx.Φ b → cx.w.cell? ⟨b, o, none⟩ = some x → cx'.w.cell? ⟨b, o, none⟩ = some x
  fr : ∀ b, cx.Φ b → cx'.Φ b
  fixed : ∀ k bl, cx.H[k]? = some bl → bl.fixed = true → ∃ bl', cx'.H[k]? = some bl' ∧ bl'.fixed = true ∧ cx'.κ k = cx.κ k
  row : ∀ k t sz es, cx.H[k]? = some (.row t sz es) → (∃ bl', cx'.H[k]? = some bl' ∧ bl'.fixed = true) ∨
    ∃ es', cx'.H[k]? = some (.row t sz es') ∧ es.length ≤ es'.length ∧ (es'.length = es.length → cx'.κ k = cx.κ k ∧ cx'.γ k = cx.γ k)
theorem Le.refl (cx : Cx) : Le cx cx :=
  ⟨fun _ _ _ _ h => h, fun _ h => h, fun k bl h hf => ⟨bl, h, hf, rfl⟩, fun k t sz es h => .inr ⟨es, h, Nat.le_refl _, fun _ => ⟨rfl, rfl⟩⟩⟩
theorem Le.trans {a b c : Cx} (h : Le a b) (k : Le b c) : Le a c := by
  refine ⟨fun b' o x hf hc => k.cell b' o x (h.fr _ hf) (h.cell b' o x hf hc), fun b' hf => k.fr _ (h.fr _ hf), fun i bl hi hf => ?_, fun i t sz es hi => ?_⟩
  · obtain ⟨bl', h1, h2, h3⟩ := h.fixed i bl hi hf
    obtain ⟨bl'', k1, k2, k3⟩ := k.fixed i bl' h1 h2
    exact ⟨bl'', k1, k2, k3.trans h3⟩
  · rcases h.row i t sz es hi with ⟨bl', h1, h2⟩ | ⟨es', h1, h2, h3⟩
    · obtain ⟨bl'', k1, k2, _⟩ := k.fixed i bl' h1 h2
      exact .inl ⟨bl'', k1, k2⟩
    · rcases k.row i t sz es' h1 with hh | ⟨es'', k1, k2, k3⟩
      · exact .inl hh
      · refine .inr ⟨es'', k1, by omega, fun he => ?_⟩
        have e1 : es'.length = es.length := by omega
        have := h3 e1
        have := k3 (by omega)
        simp_all
theorem Rep.mono {cx cx' : Cx} (hle : Le cx cx') {z : Bool} {a : AV} {y : Value} (h : Rep cx z a y) : Rep cx' z a y := by
  induction h with
  | v x => exact .v x
  | vs0 sz a cap => exact .vs0 sz a cap
  | vs sz es b o cap vals hf hz hcap hl hn ho hc hr ih => exact .vs sz es b o cap vals (hle.fr _ hf) hz hcap hl hn ho (fun j x hx => hle.cell _ _ _ hf (hc j x hx)) ih
  | vx sz es b o vals hf hz hl hn ho hc hr ih => exact .vx sz es b o vals (hle.fr _ hf) hz hl hn ho (fun j x hx => hle.cell _ _ _ hf (hc j x hx)) ih
  | vp cs b o vals hf hn hc hr ih => exact .vp cs b o vals (hle.fr _ hf) hn (fun j x hx => hle.cell _ _ _ hf (hc j x hx)) ih
  | bp k off bl hk hf => obtain ⟨bl', h1, h2, h3⟩ := hle.fixed k bl hk hf; rw [← h3]; exact .bp k off bl' h1 h2
  | rp k ver i off y ho bl hk hp =>
    rcases hp with hf | ⟨t, sz, es, rfl, hv, hy⟩
    · obtain ⟨bl', h1, h2, h3⟩ := hle.fixed k bl hk hf; exact .rp k ver i off y ho bl' h1 (.inl h2)
    · rcases hle.row k t sz es hk with ⟨bl', h1, h2⟩ | ⟨es', h1, h2, h3⟩
      · exact .rp k ver i off y ho bl' h1 (.inl h2)
      · refine .rp k ver i off y ho _ h1 (.inr ⟨t, sz, es', rfl, by omega, fun he => ?_⟩)
        obtain ⟨e1, e2⟩ := h3 (by omega)
        rw [e1]; exact hy (by omega)
  | hs k off n ver y ho bl hk hp =>
    rcases hp with hf | ⟨t, sz, es, rfl, hv, hy⟩
    · obtain ⟨bl', h1, h2, h3⟩ := hle.fixed k bl hk hf; exact .hs k off n ver y ho bl' h1 (.inl h2)
    · rcases hle.row k t sz es hk with ⟨bl', h1, h2⟩ | ⟨es', h1, h2, h3⟩
      · exact .hs k off n ver y ho bl' h1 (.inl h2)
      · refine .hs k off n ver y ho _ h1 (.inr ⟨t, sz, es', rfl, by omega, fun he => ?_⟩)
        obtain ⟨e1, e2⟩ := h3 (by omega)
        rw [e1, e2]; exact hy (by omega)
  | hm k bl hk hf => obtain ⟨bl', h1, h2, h3⟩ := hle.fixed k bl hk hf; rw [← h3]; exact .hm k bl' h1 h2
  | hg k bl hk hf => obtain ⟨bl', h1, h2, h3⟩ := hle.fixed k bl hk hf; rw [← h3]; exact .hg k bl' h1 h2
  | hi k bl hk hf => obtain ⟨bl', h1, h2, h3⟩ := hle.fixed k bl hk hf; rw [← h3]; exact .hi k bl' h1 h2
  | yl k bl hk hf => obtain ⟨bl', h1, h2, h3⟩ := hle.fixed k bl hk hf; rw [← h3]; exact .yl k bl' h1 h2
  | bs k off n cap bl hk hf hc => obtain ⟨bl', h1, h2, h3⟩ := hle.fixed k bl hk hf; rw [← h3]; exact .bs k off n cap bl' h1 h2 hc
  | fn f fs cs vf vc hnf hrf hnc hrc ihf ihc => exact .fn f fs cs vf vc hnf ihf hnc ihc
  | ifc t x y h ih => exact .ifc t x y ih
  | agg cs vals hn hr ih => exact .agg cs vals hn ih
  | tup cs vals hn hr ih => exact .tup cs vals hn ih
  | junk y => exact .junk y
theorem RepL.mono {cx cx' : Cx} (hle : Le cx cx') {z : Bool} {cs : List AV} {xs : List Value} (h : RepL cx z cs xs) : RepL cx' z cs xs := ⟨h.len, fun j c x a b => (h.rep j c x a b).mono hle⟩
def BRel (B : Nat) (cx : Cx) (k : Nat) : Blk → Prop
  | .box t cs => B ≤ cx.κ k ∧ ¬ cx.Φ (cx.κ k) ∧ ∃ vals : List Value, cx.w.heap[cx.κ k]? = some (.cells vals.toArray t (0, 0)) ∧ RepL cx false cs vals
  | .row t sz es => B ≤ cx.κ k ∧ ¬ cx.Φ (cx.κ k) ∧ 0 < sz ∧ (∀ e ∈ es, e.length = sz) ∧ es.length ≤ cx.γ k ∧ cx.γ k ≤ maxLen ∧
      ∃ vals : List Value, cx.w.heap[cx.κ k]? = some (.cells vals.toArray t (0, 0)) ∧ vals.length = cx.γ k * sz ∧ RepL cx false es.flatten (vals.take (es.length * sz)) ∧ (∀ x ∈ vals, x.oneCell' = true)
  | .map es => B ≤ cx.κ k ∧ ¬ cx.Φ (cx.κ k) ∧ ∃ (ents : List MapEntry), cx.w.heap[cx.κ k]? = some (.map ents.toArray ents.length) ∧
      es.length = ents.length ∧ (∀ (j : Nat) p e, es[j]? = some p → ents[j]? = some e → p.1 = e.key ∧ Rep cx false p.2 e.val ∧ e.born = j)
  | .mapg es => B ≤ cx.κ k ∧ ¬ cx.Φ (cx.κ k) ∧ ∃ (ents : List MapEntry) (c : Nat), cx.w.heap[cx.κ k]? = some (.map ents.toArray c) ∧
      es.length = ents.length ∧ (∀ (j : Nat) p e, es[j]? = some p → ents[j]? = some e → p.1 = e.key ∧ Rep cx false p.2 e.val) ∧ (∀ x ∈ ents, x.born < c) ∧ (ents.map (·.born)).Nodup
  | .pend => True
  | .gone => True
  | .dfr o => B ≤ cx.κ k ∧ ¬ cx.Φ (cx.κ k) ∧ cx.w.heap[cx.κ k]? = some (.deferred (if o = true then some [] else none))
  | .lp st pend n f ps assign body => B ≤ cx.κ k ∧ ¬ cx.Φ (cx.κ k) ∧ ∃ (fn : FuncId) (tmps : Array Value) (d : Nat), cx.w.heap[cx.κ k]? = some (.loop { state := st, pending := pend, fn := fn, tmps := tmps, params := ps, assign := assign, body := body, defers := d }) ∧
      tmps.size = n ∧ ∀ t, t < n → Rep cx false (f t) (tmps.getD t undef)
  | .it km n seen => B ≤ cx.κ k ∧ ¬ cx.Φ (cx.κ k) ∧ cx.w.heap[cx.κ k]? = some (.mapIter (km.map cx.κ) n seen.toArray n) ∧ ∀ m, km = some m → ∃ bl, cx.H[m]? = some bl ∧ bl.fixed = true
structure HRel (B : Nat) (w0 : World) (cx : Cx) : Prop where
  below : Below B w0 cx.w
  base : B ≤ cx.w.heap.size
  frz : ∀ b, cx.Φ b → b < cx.w.heap.size
  blk : ∀ k bl, cx.H[k]? = some bl → BRel B cx k bl
  inj : ∀ k k' bl bl', cx.H[k]? = some bl → cx.H[k']? = some bl' → bl.live = true → bl'.live = true → cx.κ k = cx.κ k' → k = k'
theorem BRel.lt {B : Nat} {cx : Cx} {k : Nat} {bl : Blk} (h : BRel B cx k bl) (hl : bl.live = true) : B ≤ cx.κ k ∧ cx.κ k < cx.w.heap.size ∧ ¬ cx.Φ (cx.κ k) := by
  cases bl <;> simp [Blk.live] at hl
  · obtain ⟨h1, h2, vals, h3, _⟩ := h; exact ⟨h1, (Array.getElem?_eq_some_iff.1 h3).1, h2⟩
  · obtain ⟨h1, h2, _, _, _, _, vals, h3, _⟩ := h; exact ⟨h1, (Array.getElem?_eq_some_iff.1 h3).1, h2⟩
  · obtain ⟨h1, h2, ents, h3, _⟩ := h; exact ⟨h1, (Array.getElem?_eq_some_iff.1 h3).1, h2⟩
  · obtain ⟨h1, h2, ents, c, h3, _⟩ := h; exact ⟨h1, (Array.getElem?_eq_some_iff.1 h3).1, h2⟩
  · obtain ⟨h1, h2, h3⟩ := h; exact ⟨h1, (Array.getElem?_eq_some_iff.1 h3).1, h2⟩
  · obtain ⟨h1, h2, fn, tmps, d, h3, _⟩ := h; exact ⟨h1, (Array.getElem?_eq_some_iff.1 h3).1, h2⟩
  · obtain ⟨h1, h2, h3, _⟩ := h; exact ⟨h1, (Array.getElem?_eq_some_iff.1 h3).1, h2⟩
theorem BRel.mono {B : Nat} {cx cx' : Cx} {k : Nat} {bl : Blk} (h : BRel B cx k bl) (hle : Le cx cx') (hl : bl.live = true → cx'.κ k = cx.κ k ∧ cx'.γ k = cx.γ k ∧ cx'.w.heap[cx.κ k]? = cx.w.heap[cx.κ k]? ∧ ¬ cx'.Φ (cx.κ k)) :
    BRel B cx' k bl := by
  cases bl with
  | box t cs =>
    obtain ⟨e1, e2, e3, e4⟩ := hl rfl
    obtain ⟨h1, h2, vals, h3, h4⟩ := h
    refine ⟨by rw [e1]; exact h1, by rw [e1]; exact e4, vals, by rw [e1, e3]; exact h3, h4.mono hle⟩
  | row t sz es =>
    obtain ⟨e1, e2, e3, e4⟩ := hl rfl
    obtain ⟨h1, h2, h3, h4, h5, h6, vals, h7, h8, h9, h10⟩ := h
    refine ⟨by rw [e1]; exact h1, by rw [e1]; exact e4, h3, h4, by rw [e2]; exact h5, by rw [e2]; exact h6, vals, by rw [e1, e3]; exact h7, by rw [e2]; exact h8, h9.mono hle, h10⟩
  | map es =>
    obtain ⟨e1, e2, e3, e4⟩ := hl rfl
    obtain ⟨h1, h2, ents, h3, h4, h5⟩ := h
    refine ⟨by rw [e1]; exact h1, by rw [e1]; exact e4, ents, by rw [e1, e3]; exact h3, h4, fun j p e a b => ?_⟩
    obtain ⟨x1, x2, x3⟩ := h5 j p e a b
    exact ⟨x1, x2.mono hle, x3⟩
  | mapg es =>
    obtain ⟨e1, e2, e3, e4⟩ := hl rfl
    obtain ⟨h1, h2, ents, c, h3, h4, h5, h6⟩ := h
    refine ⟨by rw [e1]; exact h1, by rw [e1]; exact e4, ents, c, by rw [e1, e3]; exact h3, h4, fun j p e a b => ?_, h6⟩
    obtain ⟨x1, x2⟩ := h5 j p e a b
    exact ⟨x1, x2.mono hle⟩
  | pend => trivial
  | gone => trivial
  | dfr o =>
    obtain ⟨e1, e2, e3, e4⟩ := hl rfl
    obtain ⟨h1, h2, h3⟩ := h
    exact ⟨by rw [e1]; exact h1, by rw [e1]; exact e4, by rw [e1, e3]; exact h3⟩
  | lp st pend n f ps assign body =>
    obtain ⟨e1, e2, e3, e4⟩ := hl rfl
    obtain ⟨h1, h2, fn, tmps, d, h3, h4, h5⟩ := h
    exact ⟨by rw [e1]; exact h1, by rw [e1]; exact e4, fn, tmps, d, by rw [e1, e3]; exact h3, h4, fun t ht => (h5 t ht).mono hle⟩
  | it km n seen =>
    obtain ⟨e1, e2, e3, e4⟩ := hl rfl
    obtain ⟨h1, h2, h3, h4⟩ := h
    have hm : km.map cx'.κ = km.map cx.κ := by
      cases km with
      | none => rfl
      | some m => obtain ⟨bl, a, b⟩ := h4 m rfl; obtain ⟨_, _, _, c⟩ := hle.fixed m bl a b; simp [c]
    refine ⟨by rw [e1]; exact h1, by rw [e1]; exact e4, by rw [e1, e3, hm]; exact h3, fun m hmm => ?_⟩
    obtain ⟨bl, a, b⟩ := h4 m hmm
    obtain ⟨bl', a', b', _⟩ := hle.fixed m bl a b
    exact ⟨bl', a', b'⟩
end Go.Mu
namespace Go.Mu
open Go.RowKit (Below)
def updN (f : Nat → Nat) (k v : Nat) : Nat → Nat := fun i => if i = k then v else f i
@[simp] theorem updN_same (f : Nat → Nat) (k v : Nat) : updN f k v k = v := by simp [updN]
theorem updN_ne (f : Nat → Nat) (k v i : Nat) (h : i ≠ k) : updN f k v i = f i := by simp [updN, h]
theorem cell_lt {w : World} {b o : Nat} {x : Value} (h : w.cell? ⟨b, o, none⟩ = some x) : b < w.heap.size := block_lt_of_cell h
theorem le_of_ext {cx : Cx} {w' : World} (hx : ∀ k, k < cx.w.heap.size → w'.heap[k]? = cx.w.heap[k]?) : Le cx { cx with w := w' } := by
  refine ⟨fun b o x _ hc => ?_, fun _ h => h, fun k bl h hf => ⟨bl, h, hf, rfl⟩, fun k t sz es h => .inr ⟨es, h, Nat.le_refl _, fun _ => ⟨rfl, rfl⟩⟩⟩
  show w'.cell? _ = _
  rw [World.cell?_of_block (w := cx.w) (hx b (cell_lt hc))]; exact hc
theorem hrel_ext {B : Nat} {w0 : World} {cx : Cx} (h : HRel B w0 cx) {w' : World} (hb : Below cx.w.heap.size cx.w w') : HRel B w0 { cx with w := w' } := by
  have hle := le_of_ext (cx := cx) (w' := w') hb.block
  refine ⟨h.below.trans (hb.mono h.base), Nat.le_trans h.base hb.size, fun b hf => Nat.lt_of_lt_of_le (h.frz b hf) hb.size, fun k bl hk => ?_, h.inj⟩
  exact (h.blk k bl hk).mono hle fun hl => ⟨rfl, rfl, hb.block _ ((h.blk k bl hk).lt hl).2.1, ((h.blk k bl hk).lt hl).2.2⟩
def Cx.push (cx : Cx) (o : Obj) (bl : Blk) (g : Nat) : Cx :=
  { w := cx.w.alloc o, Φ := cx.Φ, κ := updN cx.κ cx.H.length cx.w.heap.size, γ := updN cx.γ cx.H.length g, H := cx.H ++ [bl] }
theorem getElem?_append_some {α : Type} {l l' : List α} {k : Nat} {x : α} (h : l[k]? = some x) : (l ++ l')[k]? = some x := by
  rw [List.getElem?_append_left (List.getElem?_eq_some_iff.1 h).1]; exact h
theorem le_push (cx : Cx) (o : Obj) (bl : Blk) (g : Nat) : Le cx (cx.push o bl g) := by
  refine ⟨fun b off x _ hc => ?_, fun _ h => h, fun k bl' h hf => ⟨bl', getElem?_append_some h, hf, ?_⟩, fun k t sz es h => .inr ⟨es, getElem?_append_some h, Nat.le_refl _, fun _ => ⟨?_, ?_⟩⟩⟩
  · show (cx.w.alloc o).cell? _ = _
    rw [World.cell?_of_block (w := cx.w) (heap_alloc_old cx.w o (cell_lt hc))]; exact hc
  all_goals (have hk := (List.getElem?_eq_some_iff.1 h).1; exact updN_ne _ _ _ _ (by omega))
theorem hrel_push {B : Nat} {w0 : World} {cx : Cx} (h : HRel B w0 cx) (o : Obj) (bl : Blk) (g : Nat) (hb : BRel B (cx.push o bl g) cx.H.length bl) : HRel B w0 (cx.push o bl g) := by
  have hle := le_push cx o bl g
  have hlen : ∀ k bl', (cx.push o bl g).H[k]? = some bl' → (k = cx.H.length ∧ bl' = bl) ∨ cx.H[k]? = some bl' := by
    intro k bl' hk
    simp only [Cx.push] at hk
    rw [List.getElem?_append] at hk
    split at hk
    · exact .inr hk
    · rename_i hge
      have : k - cx.H.length = 0 := by
        rcases Nat.eq_zero_or_pos (k - cx.H.length) with h0 | h0
        · exact h0
        · rw [List.getElem?_eq_none (by simp; omega)] at hk; cases hk
      rw [this] at hk; simp at hk
      exact .inl ⟨by omega, hk.symm⟩
  refine ⟨h.below.alloc h.base o, ?_, fun b hf => ?_, fun k bl' hk => ?_, fun k k' bl1 bl2 h1 h2 l1 l2 he => ?_⟩
  · show B ≤ (cx.w.alloc o).heap.size
    have := h.base; simp; omega
  · show b < (cx.w.alloc o).heap.size
    have := h.frz b hf; simp; omega
  · rcases hlen k bl' hk with ⟨rfl, rfl⟩ | hk'
    · exact hb
    · have hb' := h.blk k bl' hk'
      have hkl := (List.getElem?_eq_some_iff.1 hk').1
      refine hb'.mono hle fun hl => ⟨updN_ne _ _ _ _ (by omega), updN_ne _ _ _ _ (by omega), heap_alloc_old _ _ (hb'.lt hl).2.1, (hb'.lt hl).2.2⟩
  · have key : ∀ k bl', cx.H[k]? = some bl' → bl'.live = true → (cx.push o bl g).κ k = cx.κ k ∧ cx.κ k < cx.w.heap.size := fun k bl' hk hl =>
      ⟨updN_ne _ _ _ _ (by have := (List.getElem?_eq_some_iff.1 hk).1; omega), ((h.blk k bl' hk).lt hl).2.1⟩
    have new : (cx.push o bl g).κ cx.H.length = cx.w.heap.size := updN_same _ _ _
    rcases hlen k bl1 h1 with ⟨rfl, rfl⟩ | hk1 <;> rcases hlen k' bl2 h2 with ⟨rfl, rfl⟩ | hk2
    · rfl
    · have := key k' bl2 hk2 l2; omega
    · have := key k bl1 hk1 l1; omega
    · have a1 := key k bl1 hk1 l1; have a2 := key k' bl2 hk2 l2
      exact h.inj k k' bl1 bl2 hk1 hk2 l1 l2 (by omega)
theorem push_box {B : Nat} {w0 : World} {cx : Cx} (h : HRel B w0 cx) (t : TypeId) {cs : List AV} {vals : List Value} (hr : RepL cx false cs vals) :
    HRel B w0 (cx.push (.cells vals.toArray t (0, 0)) (.box t cs) 0) := by
  refine hrel_push h _ _ _ ⟨?_, ?_, vals, ?_, hr.mono (le_push cx _ _ _)⟩
  · show B ≤ updN _ _ _ _; simp; exact h.base
  · show ¬ cx.Φ (updN _ _ _ _); simp; exact fun hf => Nat.lt_irrefl _ (h.frz _ hf)
  · show (cx.w.alloc _).heap[updN _ _ _ _]? = _; simp only [updN_same]; exact heap_alloc_new _ _
theorem push_row {B : Nat} {w0 : World} {cx : Cx} (h : HRel B w0 cx) (t : TypeId) (sz g : Nat) {es : List (List AV)} {vals : List Value} (hz : 0 < sz) (hl : ∀ e ∈ es, e.length = sz)
    (hg : es.length ≤ g) (hm : g ≤ maxLen) (hv : vals.length = g * sz) (hr : RepL cx false es.flatten (vals.take (es.length * sz))) (ho : ∀ x ∈ vals, x.oneCell' = true) :
    HRel B w0 (cx.push (.cells vals.toArray t (0, 0)) (.row t sz es) g) := by
  refine hrel_push h _ _ _ ⟨?_, ?_, hz, hl, ?_, ?_, vals, ?_, ?_, hr.mono (le_push cx _ _ _), ho⟩
  · show B ≤ updN _ _ _ _; simp; exact h.base
  · show ¬ cx.Φ (updN _ _ _ _); simp; exact fun hf => Nat.lt_irrefl _ (h.frz _ hf)
  · show _ ≤ updN _ _ _ _; simpa using hg
  · show updN _ _ _ _ ≤ _; simpa using hm
  · show (cx.w.alloc _).heap[updN _ _ _ _]? = _; simp only [updN_same]; exact heap_alloc_new _ _
  · show _ = updN _ _ _ _ * _; simpa using hv
theorem push_map {B : Nat} {w0 : World} {cx : Cx} (h : HRel B w0 cx) : HRel B w0 (cx.push (.map #[] 0) (.map []) 0) := by
  refine hrel_push h _ _ _ ⟨?_, ?_, [], ?_, rfl, fun j p e hp => by simp at hp⟩
  · show B ≤ updN _ _ _ _; simp; exact h.base
  · show ¬ cx.Φ (updN _ _ _ _); simp; exact fun hf => Nat.lt_irrefl _ (h.frz _ hf)
  · show (cx.w.alloc _).heap[updN _ _ _ _]? = _; simp only [updN_same]; exact heap_alloc_new _ _
def Cx.frozen (cx : Cx) (o : Obj) : Cx := { cx with w := cx.w.alloc o, Φ := fun b => cx.Φ b ∨ b = cx.w.heap.size }
theorem le_frozen (cx : Cx) (o : Obj) : Le cx (cx.frozen o) := by
  refine ⟨fun b off x _ hc => ?_, fun _ h => .inl h, fun k bl' h hf => ⟨bl', h, hf, rfl⟩, fun k t sz es h => .inr ⟨es, h, Nat.le_refl _, fun _ => ⟨rfl, rfl⟩⟩⟩
  show (cx.w.alloc o).cell? _ = _
  rw [World.cell?_of_block (w := cx.w) (heap_alloc_old cx.w o (cell_lt hc))]; exact hc
theorem hrel_frozen {B : Nat} {w0 : World} {cx : Cx} (h : HRel B w0 cx) (o : Obj) : HRel B w0 (cx.frozen o) := by
  have hle := le_frozen cx o
  refine ⟨h.below.alloc h.base o, ?_, fun b hf => ?_, fun k bl hk => ?_, h.inj⟩
  · show B ≤ (cx.w.alloc o).heap.size
    have := h.base; simp; omega
  · show b < (cx.w.alloc o).heap.size
    rcases hf with hf | rfl
    · have := h.frz b hf; simp; omega
    · simp
  · have hb := h.blk k bl hk
    refine hb.mono hle fun hl => ⟨rfl, rfl, heap_alloc_old _ _ (hb.lt hl).2.1, ?_⟩
    rintro (hf | he)
    · exact (hb.lt hl).2.2 hf
    · exact absurd he (by have := (hb.lt hl).2.1; omega)
def Cx.put (cx : Cx) (k : Nat) (w' : World) (bl : Blk) : Cx := { cx with w := w', H := cx.H.set k bl }
theorem set_some {α : Type} {l : List α} {k : Nat} {x : α} (h : l[k]? = some x) (y : α) : (l.set k y)[k]? = some y := by
  rw [List.getElem?_set]; simp [(List.getElem?_eq_some_iff.1 h).1]
theorem set_other {α : Type} {l : List α} {k i : Nat} (h : k ≠ i) (y : α) : (l.set k y)[i]? = l[i]? := by
  rw [List.getElem?_set, if_neg h]
theorem le_put {cx : Cx} {k : Nat} {old : Blk} {w' : World} {bl : Blk} (hk : cx.H[k]? = some old)
    (hw : ∀ i, i ≠ cx.κ k → i < cx.w.heap.size → w'.heap[i]? = cx.w.heap[i]?) (hnf : ¬ cx.Φ (cx.κ k))
    (hto : (old.fixed = true ∧ bl.fixed = true) ∨ (∃ t sz es es', old = .row t sz es ∧ bl = .row t sz es' ∧ es.length ≤ es'.length) ∨ (∃ t sz es, old = .row t sz es ∧ bl.fixed = true)) :
    Le cx (cx.put k w' bl) := by
  refine ⟨fun b off x hf hc => ?_, fun _ h => h, fun i bl' h hf => ?_, fun i t sz es h => ?_⟩
  · show w'.cell? _ = _
    rw [World.cell?_of_block (w := cx.w) (hw b (fun e => hnf (e ▸ hf)) (cell_lt hc))]; exact hc
  · by_cases hi : k = i
    · subst hi
      rw [hk] at h; cases h
      rcases hto with ⟨_, h2⟩ | ⟨t, sz, es, es', rfl, rfl, _⟩ | ⟨t, sz, es, rfl, h2⟩
      · exact ⟨bl, set_some hk bl, h2, rfl⟩
      · simp [Blk.fixed] at hf
      · simp [Blk.fixed] at hf
    · exact ⟨bl', by show (cx.H.set k bl)[i]? = _; rw [set_other hi]; exact h, hf, rfl⟩
  · by_cases hi : k = i
    · subst hi
      rw [hk] at h; cases h
      rcases hto with ⟨h1, _⟩ | ⟨t, sz, es, es', he, rfl, hle⟩ | ⟨t, sz, es, he, h2⟩
      · simp [Blk.fixed] at h1
      · cases he; exact .inr ⟨es', set_some hk _, hle, fun _ => ⟨rfl, rfl⟩⟩
      · exact .inl ⟨bl, set_some hk bl, h2⟩
    · exact .inr ⟨es, by show (cx.H.set k bl)[i]? = _; rw [set_other hi]; exact h, Nat.le_refl _, fun _ => ⟨rfl, rfl⟩⟩
theorem hrel_put {B : Nat} {w0 : World} {cx : Cx} (h : HRel B w0 cx) {k : Nat} {old : Blk} {w' : World} {bl : Blk} (hk : cx.H[k]? = some old) (hlive : old.live = true)
    (hb : Below B cx.w w') (hw : ∀ i, i ≠ cx.κ k → i < cx.w.heap.size → w'.heap[i]? = cx.w.heap[i]?)
    (hle : Le cx (cx.put k w' bl)) (hB : BRel B (cx.put k w' bl) k bl) : HRel B w0 (cx.put k w' bl) := by
  have hbk := h.blk k old hk
  have hsome : ∀ i bl', (cx.put k w' bl).H[i]? = some bl' → (i = k ∧ bl' = bl) ∨ (i ≠ k ∧ cx.H[i]? = some bl') := by
    intro i bl' hi
    by_cases he : k = i
    · subst he
      have : (cx.put k w' bl).H[k]? = some bl := set_some hk bl
      rw [this] at hi; cases hi; exact .inl ⟨rfl, rfl⟩
    · refine .inr ⟨fun e => he e.symm, ?_⟩
      have : (cx.put k w' bl).H[i]? = cx.H[i]? := set_other he bl
      rwa [this] at hi
  refine ⟨h.below.trans hb, Nat.le_trans h.base hb.size, fun b hf => Nat.lt_of_lt_of_le (h.frz b hf) hb.size, fun i bl' hi => ?_, fun i j b1 b2 h1 h2 l1 l2 he => ?_⟩
  · rcases hsome i bl' hi with ⟨rfl, rfl⟩ | ⟨hne, hi'⟩
    · exact hB
    · have hbi := h.blk i bl' hi'
      exact hbi.mono hle fun hl => ⟨rfl, rfl, hw _ (fun e => hne (h.inj i k bl' old hi' hk hl hlive e)) (hbi.lt hl).2.1, (hbi.lt hl).2.2⟩
  · rcases hsome i b1 h1 with ⟨rfl, rfl⟩ | ⟨hne, hi'⟩ <;> rcases hsome j b2 h2 with ⟨rfl, rfl⟩ | ⟨hne', hj'⟩
    · rfl
    · exact h.inj i j old b2 hk hj' hlive l2 he
    · exact h.inj i j b1 old hi' hk l1 hlive he
    · exact h.inj i j b1 b2 hi' hj' l1 l2 he
theorem put_box {B : Nat} {w0 : World} {cx : Cx} (h : HRel B w0 cx) {k : Nat} {t : TypeId} {cs cs' : List AV} {vals' : List Value} (hk : cx.H[k]? = some (.box t cs)) (hr : RepL cx false cs' vals') :
    Le cx (cx.put k (cx.w.setRow (cx.κ k) vals'.toArray) (.box t cs')) ∧ HRel B w0 (cx.put k (cx.w.setRow (cx.κ k) vals'.toArray) (.box t cs')) := by
  obtain ⟨h1, h2, vals, h3, h4⟩ := h.blk k _ hk
  have hw : ∀ i, i ≠ cx.κ k → i < cx.w.heap.size → (cx.w.setRow (cx.κ k) vals'.toArray).heap[i]? = cx.w.heap[i]? := fun i hi _ => setRow_other _ _ _ _ hi
  have hle := le_put (cx := cx) (bl := .box t cs') (w' := cx.w.setRow (cx.κ k) vals'.toArray) hk hw h2 (.inl ⟨rfl, rfl⟩)
  refine ⟨hle, hrel_put h hk rfl ⟨rfl, rfl, rfl, by simp, fun i hi => setRow_other _ _ _ _ (by omega)⟩ hw hle ⟨h1, h2, vals', ?_, hr.mono hle⟩⟩
  exact setRow_heap _ _ _ _ _ _ h3
theorem put_row {B : Nat} {w0 : World} {cx : Cx} (h : HRel B w0 cx) {k : Nat} {t : TypeId} {sz : Nat} {es es' : List (List AV)} {vals' : List Value} (hk : cx.H[k]? = some (.row t sz es))
    (hl : ∀ e ∈ es', e.length = sz) (hle' : es.length ≤ es'.length) (hg : es'.length ≤ cx.γ k) (hv : vals'.length = cx.γ k * sz) (hr : RepL cx false es'.flatten (vals'.take (es'.length * sz))) (ho : ∀ x ∈ vals', x.oneCell' = true) :
    Le cx (cx.put k (cx.w.setRow (cx.κ k) vals'.toArray) (.row t sz es')) ∧ HRel B w0 (cx.put k (cx.w.setRow (cx.κ k) vals'.toArray) (.row t sz es')) := by
  obtain ⟨h1, h2, h3, h4, h5, h6, vals, h7, h8, h9, h10⟩ := h.blk k _ hk
  have hw : ∀ i, i ≠ cx.κ k → i < cx.w.heap.size → (cx.w.setRow (cx.κ k) vals'.toArray).heap[i]? = cx.w.heap[i]? := fun i hi _ => setRow_other _ _ _ _ hi
  have hle := le_put (cx := cx) (bl := .row t sz es') (w' := cx.w.setRow (cx.κ k) vals'.toArray) hk hw h2 (.inr (.inl ⟨t, sz, es, es', rfl, rfl, hle'⟩))
  refine ⟨hle, hrel_put h hk rfl ⟨rfl, rfl, rfl, by simp, fun i hi => setRow_other _ _ _ _ (by omega)⟩ hw hle ⟨h1, h2, h3, hl, hg, h6, vals', ?_, hv, hr.mono hle, ho⟩⟩
  exact setRow_heap _ _ _ _ _ _ h7
def Cx.regrow (cx : Cx) (k : Nat) (o : Obj) (bl : Blk) (g : Nat) : Cx :=
  { w := cx.w.drew.alloc o, Φ := cx.Φ, κ := updN cx.κ k cx.w.heap.size, γ := updN cx.γ k g, H := cx.H.set k bl }
theorem regrow_row {B : Nat} {w0 : World} {cx : Cx} (h : HRel B w0 cx) {k : Nat} {t : TypeId} {sz g : Nat} {es es' : List (List AV)} {vals' : List Value} (hk : cx.H[k]? = some (.row t sz es))
    (hl : ∀ e ∈ es', e.length = sz) (hlt : es.length < es'.length) (hg : es'.length ≤ g) (hm : g ≤ maxLen) (hv : vals'.length = g * sz) (hr : RepL cx false es'.flatten (vals'.take (es'.length * sz))) (ho : ∀ x ∈ vals', x.oneCell' = true) :
    Le cx (cx.regrow k (.cells vals'.toArray t (0, 0)) (.row t sz es') g) ∧ HRel B w0 (cx.regrow k (.cells vals'.toArray t (0, 0)) (.row t sz es') g) := by
  obtain ⟨h1, h2, h3, h4, h5, h6, vals, h7, h8, h9, h10⟩ := h.blk k _ hk
  have hold : ∀ i, i < cx.w.heap.size → (cx.w.drew.alloc (.cells vals'.toArray t (0, 0))).heap[i]? = cx.w.heap[i]? := fun i hi => heap_alloc_old cx.w.drew _ hi
  have hle : Le cx (cx.regrow k (.cells vals'.toArray t (0, 0)) (.row t sz es') g) := by
    refine ⟨fun b off x _ hc => ?_, fun _ h => h, fun i bl' hi hf => ?_, fun i t' sz' es'' hi => ?_⟩
    · show (cx.w.drew.alloc _).cell? _ = _
      rw [World.cell?_of_block (w := cx.w) (hold b (cell_lt hc))]; exact hc
    · have hne : k ≠ i := fun e => by subst e; rw [hk] at hi; cases hi; simp [Blk.fixed] at hf
      exact ⟨bl', by show (cx.H.set k _)[i]? = _; rw [set_other hne]; exact hi, hf, updN_ne _ _ _ _ (fun e => hne e.symm)⟩
    · by_cases hne : k = i
      · subst hne
        rw [hk] at hi; cases hi
        exact .inr ⟨es', set_some hk _, Nat.le_of_lt hlt, fun he => by omega⟩
      · exact .inr ⟨es'', by show (cx.H.set k _)[i]? = _; rw [set_other hne]; exact hi, Nat.le_refl _, fun _ => ⟨updN_ne _ _ _ _ (fun e => hne e.symm), updN_ne _ _ _ _ (fun e => hne e.symm)⟩⟩
  refine ⟨hle, ?_⟩
  have hsome : ∀ i bl', (cx.regrow k (.cells vals'.toArray t (0, 0)) (.row t sz es') g).H[i]? = some bl' → (i = k ∧ bl' = .row t sz es') ∨ (i ≠ k ∧ cx.H[i]? = some bl') := by
    intro i bl' hi
    by_cases he : k = i
    · subst he
      have : (cx.regrow k (.cells vals'.toArray t (0, 0)) (.row t sz es') g).H[k]? = some (.row t sz es') := set_some hk _
      rw [this] at hi; cases hi; exact .inl ⟨rfl, rfl⟩
    · refine .inr ⟨fun e => he e.symm, ?_⟩
      have : (cx.regrow k (.cells vals'.toArray t (0, 0)) (.row t sz es') g).H[i]? = cx.H[i]? := set_other he _
      rwa [this] at hi
  have hΦ : (cx.regrow k (.cells vals'.toArray t (0, 0)) (.row t sz es') g).Φ = cx.Φ := rfl
  have hκ : (cx.regrow k (.cells vals'.toArray t (0, 0)) (.row t sz es') g).κ k = cx.w.heap.size := updN_same _ _ _
  have hγ : (cx.regrow k (.cells vals'.toArray t (0, 0)) (.row t sz es') g).γ k = g := updN_same _ _ _
  have hne : ∀ i, i ≠ k → (cx.regrow k (.cells vals'.toArray t (0, 0)) (.row t sz es') g).κ i = cx.κ i := fun i hi => updN_ne _ _ _ _ hi
  refine ⟨(h.below.drew).alloc h.base _, ?_, fun b hf => ?_, fun i bl' hi => ?_, fun i j b1 b2 a1 a2 l1 l2 he => ?_⟩
  · show B ≤ (cx.w.drew.alloc _).heap.size
    have := h.base; simp; omega
  · show b < (cx.w.drew.alloc _).heap.size
    have := h.frz b hf; simp; omega
  · rcases hsome i bl' hi with ⟨rfl, rfl⟩ | ⟨hne', hi'⟩
    · refine ⟨by rw [hκ]; exact h.base, by rw [hκ, hΦ]; exact fun hf => Nat.lt_irrefl _ (h.frz _ hf), h3, hl, by rw [hγ]; exact hg, by rw [hγ]; exact hm, vals', ?_, by rw [hγ]; exact hv, hr.mono hle, ho⟩
      rw [hκ]; exact heap_alloc_new cx.w.drew _
    · have hbi := h.blk i bl' hi'
      exact hbi.mono hle fun hl => ⟨updN_ne _ _ _ _ hne', updN_ne _ _ _ _ hne', hold _ (hbi.lt hl).2.1, (hbi.lt hl).2.2⟩
  · rcases hsome i b1 a1 with ⟨rfl, rfl⟩ | ⟨n1, a1'⟩ <;> rcases hsome j b2 a2 with ⟨rfl, rfl⟩ | ⟨n2, a2'⟩
    · rfl
    · rw [hκ, hne j n2] at he; have := ((h.blk j b2 a2').lt l2).2.1; omega
    · rw [hκ, hne i n1] at he; have := ((h.blk i b1 a1').lt l1).2.1; omega
    · rw [hne i n1, hne j n2] at he; exact h.inj i j b1 b2 a1' a2' l1 l2 he
theorem fill_row {B : Nat} {w0 : World} {cx : Cx} (h : HRel B w0 cx) {k : Nat} {t : TypeId} {sz g : Nat} {es' : List (List AV)} {vals' : List Value} (hk : cx.H[k]? = some .pend) (h3 : 0 < sz)
    (hl : ∀ e ∈ es', e.length = sz) (hg : es'.length ≤ g) (hm : g ≤ maxLen) (hv : vals'.length = g * sz) (hr : RepL cx false es'.flatten (vals'.take (es'.length * sz))) (ho : ∀ x ∈ vals', x.oneCell' = true) :
    Le cx (cx.regrow k (.cells vals'.toArray t (0, 0)) (.row t sz es') g) ∧ HRel B w0 (cx.regrow k (.cells vals'.toArray t (0, 0)) (.row t sz es') g) := by
  have hold : ∀ i, i < cx.w.heap.size → (cx.w.drew.alloc (.cells vals'.toArray t (0, 0))).heap[i]? = cx.w.heap[i]? := fun i hi => heap_alloc_old cx.w.drew _ hi
  have hle : Le cx (cx.regrow k (.cells vals'.toArray t (0, 0)) (.row t sz es') g) := by
    refine ⟨fun b off x _ hc => ?_, fun _ h => h, fun i bl' hi hf => ?_, fun i t' sz' es'' hi => ?_⟩
    · show (cx.w.drew.alloc _).cell? _ = _
      rw [World.cell?_of_block (w := cx.w) (hold b (cell_lt hc))]; exact hc
    · have hne : k ≠ i := fun e => by subst e; rw [hk] at hi; cases hi; simp [Blk.fixed] at hf
      exact ⟨bl', by show (cx.H.set k _)[i]? = _; rw [set_other hne]; exact hi, hf, updN_ne _ _ _ _ (fun e => hne e.symm)⟩
    · by_cases hne : k = i
      · subst hne
        rw [hk] at hi; cases hi
      · exact .inr ⟨es'', by show (cx.H.set k _)[i]? = _; rw [set_other hne]; exact hi, Nat.le_refl _, fun _ => ⟨updN_ne _ _ _ _ (fun e => hne e.symm), updN_ne _ _ _ _ (fun e => hne e.symm)⟩⟩
  refine ⟨hle, ?_⟩
  have hsome : ∀ i bl', (cx.regrow k (.cells vals'.toArray t (0, 0)) (.row t sz es') g).H[i]? = some bl' → (i = k ∧ bl' = .row t sz es') ∨ (i ≠ k ∧ cx.H[i]? = some bl') := by
    intro i bl' hi
    by_cases he : k = i
    · subst he
      have : (cx.regrow k (.cells vals'.toArray t (0, 0)) (.row t sz es') g).H[k]? = some (.row t sz es') := set_some hk _
      rw [this] at hi; cases hi; exact .inl ⟨rfl, rfl⟩
    · refine .inr ⟨fun e => he e.symm, ?_⟩
      have : (cx.regrow k (.cells vals'.toArray t (0, 0)) (.row t sz es') g).H[i]? = cx.H[i]? := set_other he _
      rwa [this] at hi
  have hΦ : (cx.regrow k (.cells vals'.toArray t (0, 0)) (.row t sz es') g).Φ = cx.Φ := rfl
  have hκ : (cx.regrow k (.cells vals'.toArray t (0, 0)) (.row t sz es') g).κ k = cx.w.heap.size := updN_same _ _ _
  have hγ : (cx.regrow k (.cells vals'.toArray t (0, 0)) (.row t sz es') g).γ k = g := updN_same _ _ _
  have hne : ∀ i, i ≠ k → (cx.regrow k (.cells vals'.toArray t (0, 0)) (.row t sz es') g).κ i = cx.κ i := fun i hi => updN_ne _ _ _ _ hi
  refine ⟨(h.below.drew).alloc h.base _, ?_, fun b hf => ?_, fun i bl' hi => ?_, fun i j b1 b2 a1 a2 l1 l2 he => ?_⟩
  · show B ≤ (cx.w.drew.alloc _).heap.size
    have := h.base; simp; omega
  · show b < (cx.w.drew.alloc _).heap.size
    have := h.frz b hf; simp; omega
  · rcases hsome i bl' hi with ⟨rfl, rfl⟩ | ⟨hne', hi'⟩
    · refine ⟨by rw [hκ]; exact h.base, by rw [hκ, hΦ]; exact fun hf => Nat.lt_irrefl _ (h.frz _ hf), h3, hl, by rw [hγ]; exact hg, by rw [hγ]; exact hm, vals', ?_, by rw [hγ]; exact hv, hr.mono hle, ho⟩
      rw [hκ]; exact heap_alloc_new cx.w.drew _
    · have hbi := h.blk i bl' hi'
      exact hbi.mono hle fun hl => ⟨updN_ne _ _ _ _ hne', updN_ne _ _ _ _ hne', hold _ (hbi.lt hl).2.1, (hbi.lt hl).2.2⟩
  · rcases hsome i b1 a1 with ⟨rfl, rfl⟩ | ⟨n1, a1'⟩ <;> rcases hsome j b2 a2 with ⟨rfl, rfl⟩ | ⟨n2, a2'⟩
    · rfl
    · rw [hκ, hne j n2] at he; have := ((h.blk j b2 a2').lt l2).2.1; omega
    · rw [hκ, hne i n1] at he; have := ((h.blk i b1 a1').lt l1).2.1; omega
    · rw [hne i n1, hne j n2] at he; exact h.inj i j b1 b2 a1' a2' l1 l2 he
def Cx.drew (cx : Cx) : Cx := { cx with w := cx.w.drew }
theorem le_drew (cx : Cx) : Le cx cx.drew := le_of_ext (w' := cx.w.drew) fun _ _ => rfl
theorem hrel_drew {B : Nat} {w0 : World} {cx : Cx} (h : HRel B w0 cx) : HRel B w0 cx.drew := hrel_ext h (w' := cx.w.drew) ((Below.refl _ _).drew)
end Go.Mu
