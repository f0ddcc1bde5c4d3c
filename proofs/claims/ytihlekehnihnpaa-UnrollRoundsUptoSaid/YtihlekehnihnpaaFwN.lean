/- What is given away is never written again; and what a call leaves behind in memory of its own. -/
import Derived.Test.YtihlekehnihnpaaFwMtoFwL
set_option linter.unusedVariables false
set_option linter.unusedSimpArgs false
namespace Go.Mu
open Go.RowKit (Below)

mutual
/-- The slices of a row, that is given away, as lists. -/
def AV.frz (k sz : Nat) (es : List (List AV)) : AV → AV
  | .hs k' off n ver => if k' = k ∧ ver = es.length then .vs sz ((es.drop off).take n) else .hs k' off n ver
  | .fn f a b => .fn f (frzL k sz es a) (frzL k sz es b)
  | .ifc t x => .ifc t (AV.frz k sz es x)
  | .agg cs => .agg (frzL k sz es cs)
  | .tup cs => .tup (frzL k sz es cs)
  | x => x
def frzL (k sz : Nat) (es : List (List AV)) : List AV → List AV
  | [] => []
  | c :: cs => AV.frz k sz es c :: frzL k sz es cs
end
theorem frzL_map (k sz : Nat) (es : List (List AV)) (l : List AV) : frzL k sz es l = l.map (AV.frz k sz es) := by
  induction l with
  | nil => simp [frzL]
  | cons c cs ih => simp [frzL, ih]
def Blk.frz (k sz : Nat) (es : List (List AV)) : Blk → Blk
  | .box t cs => .box t (frzL k sz es cs)
  | .row t z rs => .row t z (rs.map (frzL k sz es))
  | .map ms => .map (ms.map fun p => (p.1, AV.frz k sz es p.2))
  | b => b
def frzH (k sz : Nat) (es : List (List AV)) (H : List Blk) : List Blk := (H.map (Blk.frz k sz es)).set k .gone

theorem frz_fixed {k sz : Nat} {es : List (List AV)} (b : Blk) : (b.frz k sz es).fixed = b.fixed := by cases b <;> rfl
theorem frz_live {k sz : Nat} {es : List (List AV)} (b : Blk) : (b.frz k sz es).live = b.live := by cases b <;> rfl

theorem frzH_get {k sz : Nat} {es : List (List AV)} {H : List Blk} {i : Nat} {bl : Blk} (h : (frzH k sz es H)[i]? = some bl) : (i = k ∧ bl = .gone ∧ k < H.length) ∨ (i ≠ k ∧ ∃ b, H[i]? = some b ∧ bl = b.frz k sz es) := by
  unfold frzH at h
  rw [List.getElem?_set] at h
  by_cases hi : k = i
  · subst hi
    simp at h
    exact .inl ⟨rfl, h.2.symm, h.1⟩
  · rw [if_neg hi, List.getElem?_map] at h
    cases hb : H[i]? with
    | none => rw [hb] at h; cases h
    | some b => rw [hb] at h; cases h; exact .inr ⟨fun e => hi e.symm, b, rfl, rfl⟩
theorem frzH_other {k sz : Nat} {es : List (List AV)} {H : List Blk} {i : Nat} {b : Blk} (hi : i ≠ k) (h : H[i]? = some b) : (frzH k sz es H)[i]? = some (b.frz k sz es) := by
  unfold frzH
  rw [List.getElem?_set, if_neg (fun e => hi e.symm), List.getElem?_map, h]; rfl
theorem frzH_self {k sz : Nat} {es : List (List AV)} {H : List Blk} {b : Blk} (h : H[k]? = some b) : (frzH k sz es H)[k]? = some .gone := by
  unfold frzH
  have : k < (H.map (Blk.frz k sz es)).length := by simpa using (List.getElem?_eq_some_iff.1 h).1
  simp [List.getElem?_set, (List.getElem?_eq_some_iff.1 h).1]

def Cx.frz (cx : Cx) (k sz : Nat) (es : List (List AV)) : Cx := { cx with Φ := fun b => cx.Φ b ∨ b = cx.κ k, H := frzH k sz es cx.H }

theorem le_frz {cx : Cx} {k sz : Nat} {es : List (List AV)} {b : Blk} (hk : cx.H[k]? = some b) : Le cx (cx.frz k sz es) := by
  refine ⟨fun b off x _ hc => hc, fun _ h => .inl h, fun i bl h hf => ?_, fun i t z rs h => ?_⟩
  · by_cases hi : i = k
    · subst hi; exact ⟨.gone, frzH_self hk, rfl, rfl⟩
    · exact ⟨_, frzH_other hi h, by rw [frz_fixed]; exact hf, rfl⟩
  · by_cases hi : i = k
    · subst hi; exact .inl ⟨.gone, frzH_self hk, rfl⟩
    · exact .inr ⟨_, frzH_other hi h, by simp, fun _ => ⟨rfl, rfl⟩⟩

theorem rep_frz {B : Nat} {w0 : World} {cx : Cx} (h : HRel B w0 cx) {k sz : Nat} {t : TypeId} {es : List (List AV)} (hk : cx.H[k]? = some (.row t sz es)) (hz : es.flatten.all AV.frzB = true) {z : Bool} {a : AV} {y : Value} (hr : Rep cx z a y) :
    Rep (cx.frz k sz es) z (a.frz k sz es) y := by
  have hle : Le cx (cx.frz k sz es) := le_frz hk
  induction hr with
  | v x => exact .v x
  | vs0 s a cap => exact .vs0 s a cap
  | vs s rs b o cap vals hf hz hcap hl hn ho hc hr ih => exact Rep.mono hle (.vs s rs b o cap vals hf hz hcap hl hn ho hc hr)
  | vx s rs b o vals hf hz hl hn ho hc hr ih => exact Rep.mono hle (.vx s rs b o vals hf hz hl hn ho hc hr)
  | vp cs b o vals hf hn hc hr ih => exact Rep.mono hle (.vp cs b o vals hf hn hc hr)
  | bp k' off bl hk' hf => exact Rep.mono hle (.bp k' off bl hk' hf)
  | rp k' ver i off y ho bl hk' hp => exact Rep.mono hle (.rp k' ver i off y ho bl hk' hp)
  | hm k' bl hk' hf => exact Rep.mono hle (.hm k' bl hk' hf)
  | hi k' bl hk' hf => exact Rep.mono hle (.hi k' bl hk' hf)
  | yl k' bl hk' hf => exact Rep.mono hle (.yl k' bl hk' hf)
  | hs k' off n ver y ho bl hk' hp =>
    simp only [AV.frz]
    split
    · rename_i hc
      obtain ⟨rfl, rfl⟩ := hc
      rw [hk] at hk'; cases hk'
      rcases hp with hf | ⟨t', sz', es', he, hv, hy⟩
      · simp [Blk.fixed] at hf
      · cases he
        obtain ⟨hoff, rfl⟩ := hy rfl
        obtain ⟨b1, b2, b3, b4, b5, b6, cur, b7, b8, b9, b10⟩ := h.blk _ _ hk
        have hlen : ((es.drop off).take n).length = n := by simp; omega
        have hl2 : ∀ e ∈ (es.drop off).take n, e.length = sz := fun e he => b4 e (List.mem_of_mem_drop (List.mem_of_mem_take he))
        have hrep : RepL cx false ((es.drop off).take n).flatten (((cur.take (es.length * sz)).drop (off * sz)).take (n * sz)) := by
          rw [flatten_take _ sz _ (fun e he => b4 e (List.mem_of_mem_drop he)), flatten_drop _ sz _ b4]
          exact (b9.drop _).take _
        have hst : RepL (cx.frz k' sz es) true ((es.drop off).take n).flatten (((cur.take (es.length * sz)).drop (off * sz)).take (n * sz)) := by
          refine (hrep.strong ?_).mono hle
          refine List.all_eq_true.2 fun x hx => List.all_eq_true.1 hz x ?_
          obtain ⟨e, he, hxe⟩ := List.mem_flatten.1 hx
          exact List.mem_flatten.2 ⟨e, List.mem_of_mem_drop (List.mem_of_mem_take he), hxe⟩
        have hfin := Rep.vs (cx := cx.frz k' sz es) (z := false) sz ((es.drop off).take n) (cx.κ k') (off * sz) (cx.γ k' - off) (((cur.take (es.length * sz)).drop (off * sz)).take (n * sz)) (.inr rfl) b3 (by rw [hlen]; omega) hl2 hst.len
          (fun v hv' => b10 v (List.mem_of_mem_take (List.mem_of_mem_drop (List.mem_of_mem_take hv')))) (fun j x hj => by
            show cx.w.cell? _ = _
            rw [List.getElem?_take] at hj
            split at hj
            · rw [List.getElem?_drop, List.getElem?_take] at hj
              split at hj
              · rw [cell_of_row _ _ _ _ _ _ b7]; simpa using hj
              · cases hj
            · cases hj) hst.rep
        rw [hlen] at hfin
        exact hfin
    · exact Rep.mono hle (.hs k' off n ver y ho bl hk' hp)
  | fn f fs cs vf vc hnf hrf hnc hrc ihf ihc =>
    simp only [AV.frz, frzL_map]
    refine .fn f _ _ vf vc (by simpa using hnf) (fun j c x h1 h2 => ?_) (by simpa using hnc) (fun j c x h1 h2 => ?_)
    · rw [List.getElem?_map] at h1
      cases hc : fs[j]? with
      | none => rw [hc] at h1; cases h1
      | some c' => rw [hc] at h1; cases h1; exact ihf j c' x hc h2
    · rw [List.getElem?_map] at h1
      cases hc : cs[j]? with
      | none => rw [hc] at h1; cases h1
      | some c' => rw [hc] at h1; cases h1; exact ihc j c' x hc h2
  | ifc t x y h ih => simp only [AV.frz]; exact .ifc t _ y ih
  | agg cs vals hn hr ih =>
    simp only [AV.frz, frzL_map]
    refine .agg _ vals (by simpa using hn) fun j c x h1 h2 => ?_
    rw [List.getElem?_map] at h1
    cases hc : cs[j]? with
    | none => rw [hc] at h1; cases h1
    | some c' => rw [hc] at h1; cases h1; exact ih j c' x hc h2
  | tup cs vals hn hr ih =>
    simp only [AV.frz, frzL_map]
    refine .tup _ vals (by simpa using hn) fun j c x h1 h2 => ?_
    rw [List.getElem?_map] at h1
    cases hc : cs[j]? with
    | none => rw [hc] at h1; cases h1
    | some c' => rw [hc] at h1; cases h1; exact ih j c' x hc h2
  | junk y => exact .junk y

theorem repL_frz {B : Nat} {w0 : World} {cx : Cx} (h : HRel B w0 cx) {k sz : Nat} {t : TypeId} {es : List (List AV)} (hk : cx.H[k]? = some (.row t sz es)) (hz : es.flatten.all AV.frzB = true) {z : Bool} {cs : List AV} {vals : List Value} (hr : RepL cx z cs vals) :
    RepL (cx.frz k sz es) z (frzL k sz es cs) vals := by
  rw [frzL_map]
  refine ⟨by simpa using hr.len, fun j c x h1 h2 => ?_⟩
  rw [List.getElem?_map] at h1
  cases hc : cs[j]? with
  | none => rw [hc] at h1; cases h1
  | some c' => rw [hc] at h1; cases h1; exact rep_frz h hk hz (hr.rep j c' x hc h2)

theorem flatten_frzL (k sz : Nat) (es : List (List AV)) (rs : List (List AV)) : (rs.map (frzL k sz es)).flatten = frzL k sz es rs.flatten := by
  rw [frzL_map, List.map_flatten]
  congr 1
  refine List.map_congr_left fun r _ => frzL_map k sz es r

theorem hrel_frz {B : Nat} {w0 : World} {cx : Cx} (h : HRel B w0 cx) {k sz : Nat} {t : TypeId} {es : List (List AV)} (hk : cx.H[k]? = some (.row t sz es)) (hz : es.flatten.all AV.frzB = true) : HRel B w0 (cx.frz k sz es) := by
  have hle : Le cx (cx.frz k sz es) := le_frz hk
  refine ⟨h.below, h.base, fun b hf => ?_, fun i bl hi => ?_, fun i j b1 b2 a1 a2 l1 l2 he => ?_⟩
  · rcases hf with hf | rfl
    · exact h.frz b hf
    · exact ((h.blk k _ hk).lt rfl).2.1
  · rcases frzH_get hi with ⟨rfl, rfl, _⟩ | ⟨hne, b, hb, rfl⟩
    · trivial
    · have hbi := h.blk i b hb
      have hΦ : b.live = true → ¬ (cx.frz k sz es).Φ (cx.κ i) := by
        rintro hl (hf | he)
        · exact (hbi.lt hl).2.2 hf
        · exact hne (h.inj i k b _ hb hk hl rfl he)
      cases b with
      | box t' cs =>
        obtain ⟨h1, h2, vals, h3, h4⟩ := hbi
        exact ⟨h1, hΦ rfl, vals, h3, repL_frz h hk hz h4⟩
      | row t' z rs =>
        obtain ⟨h1, h2, h3, h4, h5, h6, vals, h7, h8, h9, h10⟩ := hbi
        refine ⟨h1, hΦ rfl, h3, fun e he => ?_, by rw [List.length_map]; exact h5, h6, vals, h7, h8, ?_, h10⟩
        · obtain ⟨e', he', rfl⟩ := List.mem_map.1 he
          rw [frzL_map]; simpa using h4 e' he'
        · rw [flatten_frzL]; simpa using repL_frz h hk hz h9
      | map ms =>
        obtain ⟨h1, h2, ents, clock, h3, h4, h5, h6⟩ := hbi
        refine ⟨h1, hΦ rfl, ents, clock, h3, by simpa using h4, fun j p e a b => ?_, h6⟩
        rw [List.getElem?_map] at a
        cases hc : ms[j]? with
        | none => rw [hc] at a; cases a
        | some p' =>
          rw [hc] at a; cases a
          obtain ⟨x1, x2, x3⟩ := h5 j p' e hc b
          exact ⟨x1, rep_frz h hk hz x2, x3⟩
      | pend => trivial
      | gone => trivial
      | dfr o => obtain ⟨h1, h2, h3⟩ := hbi; exact ⟨h1, hΦ rfl, h3⟩
      | lp st pend n f ps assign body => obtain ⟨h1, h2, fn, tmps, d, h3, h4, h5⟩ := hbi; exact ⟨h1, hΦ rfl, fn, tmps, d, h3, h4, fun t ht => (h5 t ht).mono hle⟩
  · rcases frzH_get a1 with ⟨rfl, rfl, _⟩ | ⟨n1, c1, d1, rfl⟩
    · simp [Blk.live] at l1
    · rcases frzH_get a2 with ⟨rfl, rfl, _⟩ | ⟨n2, c2, d2, rfl⟩
      · simp [Blk.live] at l2
      · rw [frz_live] at l1 l2
        exact h.inj i j c1 c2 d1 d2 l1 l2 he

/-! ### What a value leads to -/
mutual
def AV.under (n : Nat) : AV → Bool
  | .bp k _ => k < n
  | .rp k _ _ _ => k < n
  | .hs k _ _ _ => k < n
  | .hm k => k < n
  | .hi k => k < n
  | .yl k => k < n
  | .fn _ a b => underL n a && underL n b
  | .ifc _ x => AV.under n x
  | .agg cs => underL n cs
  | .tup cs => underL n cs
  | _ => true
def underL (n : Nat) : List AV → Bool
  | [] => true
  | c :: cs => AV.under n c && underL n cs
end
theorem underL_all (n : Nat) (l : List AV) : underL n l = l.all (AV.under n) := by
  induction l with
  | nil => simp [underL]
  | cons c cs ih => simp [underL, ih]
def Blk.under (n : Nat) : Blk → Bool
  | .box _ cs => underL n cs
  | .row _ _ rs => rs.all (underL n)
  | .map ms => ms.all fun p => p.2.under n
  | .lp _ _ m f _ _ _ => (List.range m).all fun t => (f t).under n
  | _ => true
def underH (n : Nat) (H : List Blk) : Bool := H.all (Blk.under n)

theorem Rep.under {cx : Cx} {z : Bool} {a : AV} {y : Value} (h : Rep cx z a y) : a.under cx.H.length = true := by
  have lt : ∀ {k : Nat} {bl : Blk}, cx.H[k]? = some bl → k < cx.H.length := fun hk => (List.getElem?_eq_some_iff.1 hk).1
  have lst : ∀ {cs : List AV} {vals : List Value}, cs.length = vals.length → (∀ (j : Nat) c x, cs[j]? = some c → vals[j]? = some x → c.under cx.H.length = true) → underL cx.H.length cs = true := by
    intro cs vals hn ih
    rw [underL_all, List.all_eq_true]
    intro c hc
    obtain ⟨j, hj, rfl⟩ := List.getElem_of_mem hc
    exact ih j _ _ (List.getElem?_eq_getElem hj) (List.getElem?_eq_getElem (by omega))
  induction h with
  | bp k off bl hk hf => simpa [AV.under] using lt hk
  | rp k ver i off y ho bl hk hp => simpa [AV.under] using lt hk
  | hs k off n ver y ho bl hk hp => simpa [AV.under] using lt hk
  | hm k bl hk hf => simpa [AV.under] using lt hk
  | hi k bl hk hf => simpa [AV.under] using lt hk
  | yl k bl hk hf => simpa [AV.under] using lt hk
  | fn f fs cs vf vc hnf hrf hnc hrc ihf ihc => simp only [AV.under, Bool.and_eq_true]; exact ⟨lst hnf ihf, lst hnc ihc⟩
  | ifc t x y h ih => simpa [AV.under] using ih
  | agg cs vals hn hr ih => simp only [AV.under]; exact lst hn ih
  | tup cs vals hn hr ih => simp only [AV.under]; exact lst hn ih
  | _ => simp [AV.under]
theorem RepL.under {cx : Cx} {z : Bool} {cs : List AV} {vals : List Value} (h : RepL cx z cs vals) : underL cx.H.length cs = true := by
  rw [underL_all, List.all_eq_true]
  intro c hc
  obtain ⟨j, hj, rfl⟩ := List.getElem_of_mem hc
  have := h.len
  exact (h.rep j _ _ (List.getElem?_eq_getElem hj) (List.getElem?_eq_getElem (by omega))).under
theorem HRel.under {B : Nat} {w0 : World} {cx : Cx} (h : HRel B w0 cx) : underH cx.H.length cx.H = true := by
  rw [underH, List.all_eq_true]
  intro bl hbl
  obtain ⟨i, hi, rfl⟩ := List.getElem_of_mem hbl
  have hb := h.blk i _ (List.getElem?_eq_getElem hi)
  generalize cx.H[i] = bl at hb
  cases bl with
  | box t cs => obtain ⟨_, _, vals, _, h4⟩ := hb; exact h4.under
  | row t z rs =>
    obtain ⟨_, _, h3, h4, h5, h6, vals, h7, h8, h9, h10⟩ := hb
    simp only [Blk.under, List.all_eq_true]
    intro r hr
    have := h9.under
    rw [underL_all, List.all_eq_true] at this ⊢
    exact fun c hc => this c (List.mem_flatten.2 ⟨r, hr, hc⟩)
  | map ms =>
    obtain ⟨_, _, ents, clock, h3, h4, h5, h6⟩ := hb
    simp only [Blk.under, List.all_eq_true]
    intro p hp
    obtain ⟨j, hj, rfl⟩ := List.getElem_of_mem hp
    exact (h5 j _ _ (List.getElem?_eq_getElem hj) (List.getElem?_eq_getElem (by omega))).2.1.under
  | pend => rfl
  | gone => rfl
  | dfr o => rfl
  | lp st pend n f ps assign body =>
    obtain ⟨_, _, fn, tmps, d, h3, h4, h5⟩ := hb
    simp only [Blk.under, List.all_eq_true, List.mem_range]
    exact fun t ht => (h5 t ht).under

/-- The last blocks are forgotten, where nothing leads to them. -/
def Cx.cut (cx : Cx) (H1 : List Blk) : Cx := { cx with H := H1 }
theorem rep_true {cx cx' : Cx} (hw : cx'.w = cx.w) (hf : cx'.Φ = cx.Φ) {a : AV} {y : Value} (h : Rep cx true a y) : Rep cx' true a y := by
  generalize hb : true = b at h
  induction h with
  | v x => exact .v x
  | vs0 sz a cap => exact .vs0 sz a cap
  | vs sz es b o cap vals hfr hz hcap hl hn ho hc hr ih => exact .vs sz es b o cap vals (by rw [hf]; exact hfr) hz hcap hl hn ho (by rw [hw]; exact hc) (fun j c x a b => ih j c x a b rfl)
  | vx sz es b o vals hfr hz hl hn ho hc hr ih => exact .vx sz es b o vals (by rw [hf]; exact hfr) hz hl hn ho (by rw [hw]; exact hc) (fun j c x a b => ih j c x a b rfl)
  | vp cs b o vals hfr hn hc hr ih => exact .vp cs b o vals (by rw [hf]; exact hfr) hn (by rw [hw]; exact hc) (fun j c x a b => ih j c x a b rfl)
  | bp => cases hb
  | rp => cases hb
  | hs => cases hb
  | hm => cases hb
  | hi => cases hb
  | yl => cases hb
  | fn f fs cs vf vc hnf hrf hnc hrc ihf ihc => subst hb; exact .fn f fs cs vf vc hnf (fun j c x a b => ihf j c x a b rfl) hnc (fun j c x a b => ihc j c x a b rfl)
  | ifc t x y h ih => exact .ifc t x y (ih hb)
  | agg cs vals hn hr ih => subst hb; exact .agg cs vals hn (fun j c x a b => ih j c x a b rfl)
  | tup cs vals hn hr ih => subst hb; exact .tup cs vals hn (fun j c x a b => ih j c x a b rfl)
  | junk y => exact .junk y
theorem rep_cut {cx : Cx} {H1 L : List Blk} (hH : cx.H = H1 ++ L) {z : Bool} {a : AV} {y : Value} (hr : Rep cx z a y) (hu : a.under H1.length = true) : Rep (cx.cut H1) z a y := by
  have get : ∀ {k : Nat} {bl : Blk}, cx.H[k]? = some bl → k < H1.length → (cx.cut H1).H[k]? = some bl := by
    intro k bl hk hlt
    rw [hH, List.getElem?_append_left hlt] at hk; exact hk
  have lst : ∀ {cs : List AV} {j : Nat} {c : AV}, underL H1.length cs = true → cs[j]? = some c → c.under H1.length = true := by
    intro cs j c hu hc
    rw [underL_all, List.all_eq_true] at hu
    exact hu c (List.mem_of_getElem? hc)
  induction hr with
  | v x => exact .v x
  | vs0 s a cap => exact .vs0 s a cap
  | vs s rs b o cap vals hf hz hcap hl hn ho hc hr ih => exact .vs s rs b o cap vals hf hz hcap hl hn ho hc fun j c x h1 h2 => rep_true (cx := cx) (cx' := cx.cut H1) rfl rfl (hr j c x h1 h2)
  | vx s rs b o vals hf hz hl hn ho hc hr ih => exact .vx s rs b o vals hf hz hl hn ho hc fun j c x h1 h2 => rep_true (cx := cx) (cx' := cx.cut H1) rfl rfl (hr j c x h1 h2)
  | vp cs b o vals hf hn hc hr ih => exact .vp cs b o vals hf hn hc fun j c x h1 h2 => rep_true (cx := cx) (cx' := cx.cut H1) rfl rfl (hr j c x h1 h2)
  | bp k off bl hk hf => exact .bp k off bl (get hk (by simpa [AV.under] using hu)) hf
  | rp k ver i off y ho bl hk hp => exact .rp k ver i off y ho bl (get hk (by simpa [AV.under] using hu)) hp
  | hs k off n ver y ho bl hk hp => exact .hs k off n ver y ho bl (get hk (by simpa [AV.under] using hu)) hp
  | hm k bl hk hf => exact .hm k bl (get hk (by simpa [AV.under] using hu)) hf
  | hi k bl hk hf => exact .hi k bl (get hk (by simpa [AV.under] using hu)) hf
  | yl k bl hk hf => exact .yl k bl (get hk (by simpa [AV.under] using hu)) hf
  | fn f fs cs vf vc hnf hrf hnc hrc ihf ihc =>
    simp only [AV.under, Bool.and_eq_true] at hu
    exact .fn f fs cs vf vc hnf (fun j c x a b => ihf j c x a b (lst hu.1 a)) hnc (fun j c x a b => ihc j c x a b (lst hu.2 a))
  | ifc t x y h ih => simp only [AV.under] at hu; exact .ifc t x y (ih hu)
  | agg cs vals hn hr ih => simp only [AV.under] at hu; exact .agg cs vals hn (fun j c x a b => ih j c x a b (lst hu a))
  | tup cs vals hn hr ih => simp only [AV.under] at hu; exact .tup cs vals hn (fun j c x a b => ih j c x a b (lst hu a))
  | junk y => exact .junk y
theorem repL_cut {cx : Cx} {H1 L : List Blk} (hH : cx.H = H1 ++ L) {z : Bool} {cs : List AV} {vals : List Value} (hr : RepL cx z cs vals) (hu : underL H1.length cs = true) : RepL (cx.cut H1) z cs vals := by
  rw [underL_all, List.all_eq_true] at hu
  exact ⟨hr.len, fun j c x h1 h2 => rep_cut hH (hr.rep j c x h1 h2) (hu c (List.mem_of_getElem? h1))⟩
theorem hrel_cut {B : Nat} {w0 : World} {cx : Cx} (h : HRel B w0 cx) {H1 L : List Blk} (hH : cx.H = H1 ++ L) (hu : underH H1.length H1 = true) : HRel B w0 (cx.cut H1) := by
  have get : ∀ {k : Nat} {bl : Blk}, H1[k]? = some bl → cx.H[k]? = some bl := by
    intro k bl hk
    rw [hH, List.getElem?_append_left (List.getElem?_eq_some_iff.1 hk).1]; exact hk
  refine ⟨h.below, h.base, h.frz, fun i bl hi => ?_, fun i j b1 b2 a1 a2 l1 l2 he => h.inj i j b1 b2 (get a1) (get a2) l1 l2 he⟩
  have hb := h.blk i bl (get hi)
  have hub : bl.under H1.length = true := List.all_eq_true.1 hu bl (List.mem_of_getElem? hi)
  cases bl with
  | box t cs => obtain ⟨h1, h2, vals, h3, h4⟩ := hb; exact ⟨h1, h2, vals, h3, repL_cut hH h4 hub⟩
  | row t z rs =>
    obtain ⟨h1, h2, h3, h4, h5, h6, vals, h7, h8, h9, h10⟩ := hb
    refine ⟨h1, h2, h3, h4, h5, h6, vals, h7, h8, repL_cut hH h9 ?_, h10⟩
    simp only [Blk.under, List.all_eq_true] at hub
    rw [underL_all, List.all_eq_true]
    intro c hc
    obtain ⟨r, hr, hcr⟩ := List.mem_flatten.1 hc
    have := hub r hr
    rw [underL_all, List.all_eq_true] at this
    exact this c hcr
  | map ms =>
    obtain ⟨h1, h2, ents, clock, h3, h4, h5, h6⟩ := hb
    refine ⟨h1, h2, ents, clock, h3, h4, fun j p e a b => ?_, h6⟩
    obtain ⟨x1, x2, x3⟩ := h5 j p e a b
    simp only [Blk.under, List.all_eq_true] at hub
    exact ⟨x1, rep_cut hH x2 (hub p (List.mem_of_getElem? a)), x3⟩
  | pend => trivial
  | gone => trivial
  | dfr o => exact hb
  | lp st pend n f ps assign body =>
    obtain ⟨h1, h2, fn, tmps, d, h3, h4, h5⟩ := hb
    simp only [Blk.under, List.all_eq_true, List.mem_range] at hub
    exact ⟨h1, h2, fn, tmps, d, h3, h4, fun t ht => rep_cut hH (h5 t ht) (hub t ht)⟩
theorem le_cut {cx0 cx : Cx} (hle : Le cx0 cx) {H1 L : List Blk} (hH : cx.H = H1 ++ L) (hl : cx0.H.length ≤ H1.length) : Le cx0 (cx.cut H1) := by
  have get : ∀ {k : Nat} {bl bl' : Blk}, cx0.H[k]? = some bl → cx.H[k]? = some bl' → H1[k]? = some bl' := by
    intro k bl bl' h0 hk
    rw [hH, List.getElem?_append_left (by have := (List.getElem?_eq_some_iff.1 h0).1; omega)] at hk; exact hk
  refine ⟨hle.cell, hle.fr, fun k bl h hf => ?_, fun k t sz es h => ?_⟩
  · obtain ⟨bl', h1, h2, h3⟩ := hle.fixed k bl h hf
    exact ⟨bl', get h h1, h2, h3⟩
  · rcases hle.row k t sz es h with ⟨bl', h1, h2⟩ | ⟨es', h1, h2, h3⟩
    · exact .inl ⟨bl', get h h1, h2⟩
    · exact .inr ⟨es', get h h1, h2, h3⟩

/-! ### What a call tells, put plainly -/
/-- From memory and a value to memory and a value, by giving rows away. -/
inductive Give : List Blk → AV → List Blk → AV → Prop
  | refl (H : List Blk) (a : AV) : Give H a H a
  | step (H : List Blk) (a : AV) (k sz : Nat) (t : TypeId) (es : List (List AV)) (H' : List Blk) (a' : AV) (hk : H[k]? = some (.row t sz es)) (hz : es.flatten.all AV.frzB = true) (h : Give (frzH k sz es H) (a.frz k sz es) H' a') : Give H a H' a'
theorem give_sound {H H' : List Blk} {a a' : AV} (g : Give H a H' a') {B : Nat} {w0 : World} {cx : Cx} {y : Value} (h : HRel B w0 cx) (hH : cx.H = H) (hr : Rep cx false a y) :
    ∃ cx', cx'.w = cx.w ∧ HRel B w0 cx' ∧ Le cx cx' ∧ cx'.H = H' ∧ Rep cx' false a' y := by
  induction g generalizing cx with
  | refl H a => exact ⟨cx, rfl, h, Le.refl _, hH, hr⟩
  | step H a k sz t es H' a' hk hz _ ih =>
    rw [← hH] at hk
    obtain ⟨cx', h1, h2, h3, h4, h5⟩ := ih (cx := cx.frz k sz es) (hrel_frz h hk hz) (by show frzH k sz es cx.H = _; rw [hH]) (rep_frz h hk hz hr)
    exact ⟨cx', h1, h2, (le_frz hk).trans h3, h4, h5⟩

/-- What is told of memory that is the call's own alone is forgotten. -/
def Tidy (H : List Blk) (R : AE → List Blk → Prop) : AE → List Blk → Prop := fun e H' =>
  match e with
  | .ret r => ∃ H1 r1, Give H' r H1 r1 ∧ ∃ H2 L, H1 = H2 ++ L ∧ H.length ≤ H2.length ∧ (underH H.length H = true → underH H2.length H2 = true) ∧ r1.under H2.length = true ∧ R (.ret r1) H2
  | .pan x => ∃ H1 x1, Give H' x H1 x1 ∧ ∃ H2 L, H1 = H2 ++ L ∧ H.length ≤ H2.length ∧ (underH H.length H = true → underH H2.length H2 = true) ∧ x1.under H2.length = true ∧ R (.pan x1) H2
theorem acalls_tidy {P : Program} {fid : FuncId} {args : List AV} {H : List Blk} {R : AE → List Blk → Prop} (h : ACalls P fid args H (Tidy H R)) : ACalls P fid args H R := by
  intro B w0 cx vals h1 h2 h3
  have hu := h1.under
  rw [h2] at hu
  refine (h B w0 cx vals h1 h2 h3).mono fun e w' he => ?_
  cases e with
  | returned y =>
    obtain ⟨cx', r, rfl, b1, b2, b3, H1, r1, g, H2, L, e1, e2, e3, e4, e5⟩ := he
    obtain ⟨cx2, c1, c2, c3, c4, c5⟩ := give_sound g b1 rfl b3
    rw [e1] at c4
    have hle : Le cx (cx2.cut H2) := le_cut (b2.trans c3) c4 (by rw [h2]; exact e2)
    exact ⟨cx2.cut H2, r1, c1, hrel_cut c2 c4 (e3 hu), hle, rep_cut c4 c5 e4, e5⟩
  | panicked ch =>
    obtain ⟨cx', x, y, rfl, b1, b2, hch, b3, H1, x1, g, H2, L, e1, e2, e3, e4, e5⟩ := he
    obtain ⟨cx2, c1, c2, c3, c4, c5⟩ := give_sound g b1 rfl b3
    rw [e1] at c4
    have hle : Le cx (cx2.cut H2) := le_cut (b2.trans c3) c4 (by rw [h2]; exact e2)
    exact ⟨cx2.cut H2, x1, y, c1, hrel_cut c2 c4 (e3 hu), hle, hch, rep_cut c4 c5 e4, e5⟩
  | outgrown => exact he
/-- Arguments may be given away ahead of a call. -/
theorem acalls_give {P : Program} {fid : FuncId} {args : List AV} {H : List Blk} {R : AE → List Blk → Prop} (k sz : Nat) (t : TypeId) (es : List (List AV)) (hk : H[k]? = some (.row t sz es)) (hz : es.flatten.all AV.frzB = true)
    (h : ACalls P fid (frzL k sz es args) (frzH k sz es H) R) : ACalls P fid args H R := by
  intro B w0 cx vals h1 h2 h3
  subst h2
  refine (h B w0 (cx.frz k sz es) vals (hrel_frz h1 hk hz) rfl (repL_frz h1 hk hz h3)).mono fun e w' he => ?_
  cases e with
  | returned y => obtain ⟨cx', r, b0, b1, b2, b3, b4⟩ := he; exact ⟨cx', r, b0, b1, (le_frz hk).trans b2, b3, b4⟩
  | panicked ch => obtain ⟨cx', x, y, b0, b1, b2, b3, b4, b5⟩ := he; exact ⟨cx', x, y, b0, b1, (le_frz hk).trans b2, b3, b4, b5⟩
  | outgrown => exact he
@[simp ↓] theorem callK_ret (K pan : AV → List Blk → Prop) (r : AV) (H : List Blk) : callK K pan (.ret r) H = K r H := (rfl)
@[simp ↓] theorem callK_pan (K pan : AV → List Blk → Prop) (r : AV) (H : List Blk) : callK K pan (.pan r) H = pan r H := (rfl)
theorem acallsW_of {P : Program} {g : FuncId} {args : List AV} {H : List Blk} {R R' : AE → List Blk → Prop} {w : Wit R} (h : ACalls P g args H R') (k : ∀ e H', R' e H' → R e H') : ACallsW P g args H R w := h.mono k
theorem acallsW_det {P : Program} {g : FuncId} {args : List AV} {H : List Blk} {R : AE → List Blk → Prop} {w : Wit R} {r : AV} (h : ACalls P g args H (fun e H' => e = .ret r ∧ H' = H)) (k : R (.ret r) H) : ACallsW P g args H R w :=
  h.mono fun e H' he => by obtain ⟨rfl, rfl⟩ := he; exact k
theorem tidy_same {H L : List Blk} {R : AE → List Blk → Prop} {r : AV} (hu : r.under H.length = true) (h : R (.ret r) H) : Tidy H R (.ret r) (H ++ L) := ⟨_, _, .refl _ _, H, L, rfl, Nat.le_refl _, id, hu, h⟩
@[simp] theorem set_app_here {α : Type} (H L : List α) (x y : α) : (H ++ x :: L).set H.length y = H ++ y :: L := by simp [List.set_append]
@[simp] theorem get_app_here {α : Type} (H L : List α) (x : α) : (H ++ x :: L)[H.length]? = some x := by simp
@[simp] theorem get_app_next {α : Type} (H L : List α) (i : Nat) : (H ++ L)[H.length + i]? = L[i]? := by rw [List.getElem?_append_right (by omega)]; simp
@[simp] theorem set_app_next {α : Type} (H L : List α) (i : Nat) (y : α) : (H ++ L).set (H.length + i) y = H ++ L.set i y := by rw [List.set_append, if_neg (by omega)]; simp
theorem get_app_old {α : Type} {H : List α} {k : Nat} {x : α} (h : H[k]? = some x) (L : List α) : (H ++ L)[k]? = some x := by rw [List.getElem?_append_left (List.getElem?_eq_some_iff.1 h).1]; exact h
/-! ### Tests, by what they ask -/
theorem ne_b {a b : Int} (h : (a == b) = false) : a ≠ b ∧ (a == b) = false ∧ (a != b) = true := ⟨by simpa using h, h, by simp [bne, h]⟩
theorem condVW_introE {a b : Int} {y n : Prop} {w : Wit y} {w' : Wit n} (hy : a = b → y) (hn : a ≠ b → (a == b) = false → (a != b) = true → n) : condVW (.v (.bool (a == b))) y n w w' :=
  condVW_intro (fun h => hy (by simpa using h)) (fun h => hn (ne_b h).1 (ne_b h).2.1 (ne_b h).2.2)
theorem condVW_introNE {a b : Int} {y n : Prop} {w : Wit y} {w' : Wit n} (hy : a ≠ b → (a == b) = false → (a != b) = true → y) (hn : a = b → n) : condVW (.v (.bool (a != b))) y n w w' :=
  condVW_intro (fun h => (fun h => hy (ne_b h).1 (ne_b h).2.1 (ne_b h).2.2) (by simpa using h)) (fun h => hn (by simpa using h))
theorem condVW_introB {b : Bool} {y n : Prop} {w : Wit y} {w' : Wit n} (hy : b = false → y) (hn : b = true → n) : condVW (.v (.bool (!b))) y n w w' :=
  condVW_intro (fun h => hy (by simpa using h)) (fun h => hn (by simpa using h))
theorem guardVW_introTE {a b : Int} {y n : Prop} {w : Wit y} {w' : Wit n} (hy : a = b → y) (hn : a ≠ b → (a == b) = false → (a != b) = true → n) : guardVW (.v (.bool (a == b))) true y n w w' :=
  guardVW_introT (fun h => hy (by simpa using h)) (fun h => hn (ne_b h).1 (ne_b h).2.1 (ne_b h).2.2)
theorem guardVW_introTNE {a b : Int} {y n : Prop} {w : Wit y} {w' : Wit n} (hy : a ≠ b → (a == b) = false → (a != b) = true → y) (hn : a = b → n) : guardVW (.v (.bool (a != b))) true y n w w' :=
  guardVW_introT (fun h => (fun h => hy (ne_b h).1 (ne_b h).2.1 (ne_b h).2.2) (by simpa using h)) (fun h => hn (by simpa using h))
theorem guardVW_introTB {b : Bool} {y n : Prop} {w : Wit y} {w' : Wit n} (hy : b = false → y) (hn : b = true → n) : guardVW (.v (.bool (!b))) true y n w w' :=
  guardVW_introT (fun h => hy (by simpa using h)) (fun h => hn (by simpa using h))
theorem guardVW_introFE {a b : Int} {y n : Prop} {w : Wit y} {w' : Wit n} (hy : a = b → n) (hn : a ≠ b → (a == b) = false → (a != b) = true → y) : guardVW (.v (.bool (a == b))) false y n w w' :=
  guardVW_introF (fun h => hy (by simpa using h)) (fun h => hn (ne_b h).1 (ne_b h).2.1 (ne_b h).2.2)
theorem guardVW_introFNE {a b : Int} {y n : Prop} {w : Wit y} {w' : Wit n} (hy : a ≠ b → (a == b) = false → (a != b) = true → n) (hn : a = b → y) : guardVW (.v (.bool (a != b))) false y n w w' :=
  guardVW_introF (fun h => (fun h => hy (ne_b h).1 (ne_b h).2.1 (ne_b h).2.2) (by simpa using h)) (fun h => hn (by simpa using h))
theorem guardVW_introFB {b : Bool} {y n : Prop} {w : Wit y} {w' : Wit n} (hy : b = false → n) (hn : b = true → y) : guardVW (.v (.bool (!b))) false y n w w' :=
  guardVW_introF (fun h => hy (by simpa using h)) (fun h => hn (by simpa using h))
end Go.Mu
