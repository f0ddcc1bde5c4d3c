/- A box of the call's own, that is never written again, is given away: pointers to it become pointers to what it holds. -/
import Derived.Test.YteoimifnfkpdeaaGreatFwYtoL9
import Derived.Test.YteoimifnfkpdeaaGreatG2toG3
import Derived.Test.YteoimifnfkpdeaaGreatME5toRM7
import Derived.Test.YteoimifnfkpdeaaGreatCL2toCZ1
set_option linter.unusedVariables false
set_option linter.unusedSimpArgs false
set_option maxHeartbeats 4000000
set_option maxRecDepth 100000
namespace Go.Mu
open Go.RowKit (Below)
mutual
def AV.bfz (k : Nat) (cs : List AV) : AV → AV
  | .bp k' off => if k' = k then .vp (cs.drop off) else .bp k' off
  | .fn f a b => .fn f (bfzL k cs a) (bfzL k cs b)
  | .ifc t x => .ifc t (AV.bfz k cs x)
  | .agg a => .agg (bfzL k cs a)
  | .tup a => .tup (bfzL k cs a)
  | x => x
def bfzL (k : Nat) (cs : List AV) : List AV → List AV
  | [] => []
  | c :: l => AV.bfz k cs c :: bfzL k cs l
end
theorem bfzL_map (k : Nat) (cs : List AV) (l : List AV) : bfzL k cs l = l.map (AV.bfz k cs) := by
  induction l with
  | nil => simp [bfzL]
  | cons c l ih => simp [bfzL, ih]
def Blk.bfz (k : Nat) (cs : List AV) : Blk → Blk
  | .box t a => .box t (bfzL k cs a)
  | .row t z rs => .row t z (rs.map (bfzL k cs))
  | .map ms => .map (ms.map fun p => (p.1, AV.bfz k cs p.2))
  | .mapg ms => .mapg (ms.map fun p => (p.1, AV.bfz k cs p.2))
  | b => b
def bfzH (k : Nat) (cs : List AV) (H : List Blk) : List Blk := (H.map (Blk.bfz k cs)).set k .gone
theorem bfz_fixed {k : Nat} {cs : List AV} (b : Blk) : (b.bfz k cs).fixed = b.fixed := by cases b <;> rfl
theorem bfz_live {k : Nat} {cs : List AV} (b : Blk) : (b.bfz k cs).live = b.live := by cases b <;> rfl
theorem bfzH_get {k : Nat} {cs : List AV} {H : List Blk} {i : Nat} {bl : Blk} (h : (bfzH k cs H)[i]? = some bl) : (i = k ∧ bl = .gone ∧ k < H.length) ∨ (i ≠ k ∧ ∃ b, H[i]? = some b ∧ bl = b.bfz k cs) := by
  unfold bfzH at h
  rw [List.getElem?_set] at h
  by_cases hi : k = i
  · subst hi
    simp at h
    exact .inl ⟨rfl, h.2.symm, h.1⟩
  · rw [if_neg hi, List.getElem?_map] at h
    cases hb : H[i]? with
    | none => rw [hb] at h; cases h
    | some b => rw [hb] at h; cases h; exact .inr ⟨fun e => hi e.symm, b, rfl, rfl⟩
theorem bfzH_other {k : Nat} {cs : List AV} {H : List Blk} {i : Nat} {b : Blk} (hi : i ≠ k) (h : H[i]? = some b) : (bfzH k cs H)[i]? = some (b.bfz k cs) := by
  unfold bfzH
  rw [List.getElem?_set, if_neg (fun e => hi e.symm), List.getElem?_map, h]; rfl
theorem bfzH_self {k : Nat} {cs : List AV} {H : List Blk} {b : Blk} (h : H[k]? = some b) : (bfzH k cs H)[k]? = some .gone := by
  unfold bfzH
  simp [List.getElem?_set, (List.getElem?_eq_some_iff.1 h).1]
def Cx.bfz (cx : Cx) (k : Nat) (cs : List AV) : Cx := { cx with Φ := fun b => cx.Φ b ∨ b = cx.κ k, H := bfzH k cs cx.H }
theorem le_bfz {cx : Cx} {k : Nat} {cs : List AV} {b : Blk} (hk : cx.H[k]? = some b) : Le cx (cx.bfz k cs) := by
  refine ⟨fun b off x _ hc => hc, fun _ h => .inl h, fun i bl h hf => ?_, fun i t z rs h => ?_⟩
  · by_cases hi : i = k
    · subst hi; exact ⟨.gone, bfzH_self hk, rfl, rfl⟩
    · exact ⟨_, bfzH_other hi h, by rw [bfz_fixed]; exact hf, rfl⟩
  · by_cases hi : i = k
    · subst hi; exact .inl ⟨.gone, bfzH_self hk, rfl⟩
    · exact .inr ⟨_, bfzH_other hi h, by simp, fun _ => ⟨rfl, rfl⟩⟩
def AV.frzF : AV → Bool
  | .fn _ fs cs => fs.all AV.frzB && cs.all AV.frzB
  | a => a.frzB
theorem Rep.strongF {cx : Cx} {a : AV} {y : Value} (h : Rep cx false a y) (ha : a.frzF = true) : Rep cx true a y := by
  cases h with
  | fn f fs cs vf vc hnf hrf hnc hrc =>
    simp only [AV.frzF, Bool.and_eq_true, List.all_eq_true] at ha
    exact .fn f fs cs vf vc hnf (fun j c x h1 h2 => (hrf j c x h1 h2).strong (ha.1 c (List.mem_of_getElem? h1))) hnc (fun j c x h1 h2 => (hrc j c x h1 h2).strong (ha.2 c (List.mem_of_getElem? h1)))
  | v => exact .v _
  | vs0 sz a cap => exact .vs0 sz a cap
  | vs sz es b o cap vals hf hz hcap hl hn ho hc hr => exact .vs sz es b o cap vals hf hz hcap hl hn ho hc hr
  | vx sz es b o vals hf hz hl hn ho hc hr => exact .vx sz es b o vals hf hz hl hn ho hc hr
  | vp cs b o vals hf hn hc hr => exact .vp cs b o vals hf hn hc hr
  | bp k off bl hk hf => simp [AV.frzF, AV.frzB] at ha
  | rp k ver i off y ho bl hk hp => simp [AV.frzF, AV.frzB] at ha
  | hs k off n ver y ho bl hk hp => simp [AV.frzF, AV.frzB] at ha
  | hm k bl hk hf => simp [AV.frzF, AV.frzB] at ha
  | hg k bl hk hf => simp [AV.frzF, AV.frzB] at ha
  | hi k bl hk hf => simp [AV.frzF, AV.frzB] at ha
  | yl k bl hk hf => simp [AV.frzF, AV.frzB] at ha
  | bs k off n cap bl hk hf hc => simp [AV.frzF, AV.frzB] at ha
  | ifc t x y h => exact Rep.strong (.ifc t x y h) (by simpa [AV.frzF] using ha)
  | agg cs vals hn hr => exact Rep.strong (.agg cs vals hn hr) (by simpa [AV.frzF] using ha)
  | tup cs vals hn hr => simp [AV.frzF, AV.frzB] at ha
  | junk y => exact .junk y
theorem RepL.strongF {cx : Cx} {cs : List AV} {vals : List Value} (h : RepL cx false cs vals) (ha : cs.all AV.frzF = true) : RepL cx true cs vals :=
  ⟨h.len, fun j c x h1 h2 => (h.rep j c x h1 h2).strongF (List.all_eq_true.1 ha _ (List.mem_of_getElem? h1))⟩
theorem rep_bfz {B : Nat} {w0 : World} {cx : Cx} (h : HRel B w0 cx) {k : Nat} {t : TypeId} {es : List AV} (hk : cx.H[k]? = some (.box t es)) (hz : es.all AV.frzF = true) {z : Bool} {a : AV} {y : Value} (hr : Rep cx z a y) :
    Rep (cx.bfz k es) z (a.bfz k es) y := by
  have hle : Le cx (cx.bfz k es) := le_bfz hk
  induction hr with
  | v x => exact .v x
  | vs0 s a cap => exact .vs0 s a cap
  | vs s rs b o cap vals hf hz hcap hl hn ho hc hr ih => exact Rep.mono hle (.vs s rs b o cap vals hf hz hcap hl hn ho hc hr)
  | vx s rs b o vals hf hz hl hn ho hc hr ih => exact Rep.mono hle (.vx s rs b o vals hf hz hl hn ho hc hr)
  | vp cs b o vals hf hn hc hr ih => exact Rep.mono hle (.vp cs b o vals hf hn hc hr)
  | bp k' off bl hk' hf =>
    simp only [AV.bfz]
    split
    · rename_i he
      subst he
      obtain ⟨b1, b2, vals, b3, b4⟩ := h.blk _ _ hk
      have b5 := (b4.strongF hz).mono hle
      refine .vp (es.drop off) (cx.κ k') off (vals.drop off) (.inr rfl) (by have := b4.len; simp; omega) (fun j x hj => ?_) (fun j c x h1 h2 => ?_)
      · show cx.w.cell? _ = _
        rw [List.getElem?_drop] at hj
        rw [cell_of_row _ _ _ _ _ _ b3]; simpa using hj
      · rw [List.getElem?_drop] at h1 h2
        exact b5.rep _ c x h1 h2
    · exact Rep.mono hle (.bp k' off bl hk' hf)
  | rp k' ver i off y ho bl hk' hp => exact Rep.mono hle (.rp k' ver i off y ho bl hk' hp)
  | hm k' bl hk' hf => exact Rep.mono hle (.hm k' bl hk' hf)
  | hg k' bl hk' hf => exact Rep.mono hle (.hg k' bl hk' hf)
  | hi k' bl hk' hf => exact Rep.mono hle (.hi k' bl hk' hf)
  | yl k' bl hk' hf => exact Rep.mono hle (.yl k' bl hk' hf)
  | bs k' off n cap bl hk' hf hc => exact Rep.mono hle (.bs k' off n cap bl hk' hf hc)
  | hs k' off n ver y ho bl hk' hp => exact Rep.mono hle (.hs k' off n ver y ho bl hk' hp)
  | fn f fs cs vf vc hnf hrf hnc hrc ihf ihc =>
    simp only [AV.bfz, bfzL_map]
    refine .fn f _ _ vf vc (by simpa using hnf) (fun j c x h1 h2 => ?_) (by simpa using hnc) (fun j c x h1 h2 => ?_)
    · rw [List.getElem?_map] at h1
      cases hc : fs[j]? with
      | none => rw [hc] at h1; cases h1
      | some c' => rw [hc] at h1; cases h1; exact ihf j c' x hc h2
    · rw [List.getElem?_map] at h1
      cases hc : cs[j]? with
      | none => rw [hc] at h1; cases h1
      | some c' => rw [hc] at h1; cases h1; exact ihc j c' x hc h2
  | ifc t x y h ih => simp only [AV.bfz]; exact .ifc t _ y ih
  | agg cs vals hn hr ih =>
    simp only [AV.bfz, bfzL_map]
    refine .agg _ vals (by simpa using hn) fun j c x h1 h2 => ?_
    rw [List.getElem?_map] at h1
    cases hc : cs[j]? with
    | none => rw [hc] at h1; cases h1
    | some c' => rw [hc] at h1; cases h1; exact ih j c' x hc h2
  | tup cs vals hn hr ih =>
    simp only [AV.bfz, bfzL_map]
    refine .tup _ vals (by simpa using hn) fun j c x h1 h2 => ?_
    rw [List.getElem?_map] at h1
    cases hc : cs[j]? with
    | none => rw [hc] at h1; cases h1
    | some c' => rw [hc] at h1; cases h1; exact ih j c' x hc h2
  | junk y => exact .junk y
theorem repL_bfz {B : Nat} {w0 : World} {cx : Cx} (h : HRel B w0 cx) {k : Nat} {t : TypeId} {es : List AV} (hk : cx.H[k]? = some (.box t es)) (hz : es.all AV.frzF = true) {z : Bool} {cs : List AV} {vals : List Value} (hr : RepL cx z cs vals) :
    RepL (cx.bfz k es) z (bfzL k es cs) vals := by
  rw [bfzL_map]
  refine ⟨by simpa using hr.len, fun j c x h1 h2 => ?_⟩
  rw [List.getElem?_map] at h1
  cases hc : cs[j]? with
  | none => rw [hc] at h1; cases h1
  | some c' => rw [hc] at h1; cases h1; exact rep_bfz h hk hz (hr.rep j c' x hc h2)
theorem flatten_bfzL (k : Nat) (es : List AV) (rs : List (List AV)) : (rs.map (bfzL k es)).flatten = bfzL k es rs.flatten := by
  rw [bfzL_map, List.map_flatten]
  congr 1
  refine List.map_congr_left fun r _ => bfzL_map k es r
theorem hrel_bfz {B : Nat} {w0 : World} {cx : Cx} (h : HRel B w0 cx) {k : Nat} {t : TypeId} {es : List AV} (hk : cx.H[k]? = some (.box t es)) (hz : es.all AV.frzF = true) : HRel B w0 (cx.bfz k es) := by
  have hle : Le cx (cx.bfz k es) := le_bfz hk
  refine ⟨h.below, h.base, fun b hf => ?_, fun i bl hi => ?_, fun i j b1 b2 a1 a2 l1 l2 he => ?_⟩
  · rcases hf with hf | rfl
    · exact h.frz b hf
    · exact ((h.blk k _ hk).lt rfl).2.1
  · rcases bfzH_get hi with ⟨rfl, rfl, _⟩ | ⟨hne, b, hb, rfl⟩
    · trivial
    · have hbi := h.blk i b hb
      have hΦ : b.live = true → ¬ (cx.bfz k es).Φ (cx.κ i) := by
        rintro hl (hf | he)
        · exact (hbi.lt hl).2.2 hf
        · exact hne (h.inj i k b _ hb hk hl rfl he)
      cases b with
      | box t' cs =>
        obtain ⟨h1, h2, vals, h3, h4⟩ := hbi
        exact ⟨h1, hΦ rfl, vals, h3, repL_bfz h hk hz h4⟩
      | row t' z rs =>
        obtain ⟨h1, h2, h3, h4, h5, h6, vals, h7, h8, h9, h10⟩ := hbi
        refine ⟨h1, hΦ rfl, h3, fun e he => ?_, by rw [List.length_map]; exact h5, h6, vals, h7, h8, ?_, h10⟩
        · obtain ⟨e', he', rfl⟩ := List.mem_map.1 he
          rw [bfzL_map]; simpa using h4 e' he'
        · rw [flatten_bfzL]; simpa using repL_bfz h hk hz h9
      | map ms =>
        obtain ⟨h1, h2, ents, h3, h4, h5⟩ := hbi
        refine ⟨h1, hΦ rfl, ents, h3, by simpa using h4, fun j p e a b => ?_⟩
        rw [List.getElem?_map] at a
        cases hc : ms[j]? with
        | none => rw [hc] at a; cases a
        | some p' =>
          rw [hc] at a; cases a
          obtain ⟨x1, x2, x3⟩ := h5 j p' e hc b
          exact ⟨x1, rep_bfz h hk hz x2, x3⟩
      | mapg ms =>
        obtain ⟨h1, h2, ents, c, h3, h4, h5, h6⟩ := hbi
        refine ⟨h1, hΦ rfl, ents, c, h3, by simpa using h4, fun j p e a b => ?_, h6⟩
        rw [List.getElem?_map] at a
        cases hc : ms[j]? with
        | none => rw [hc] at a; cases a
        | some p' =>
          rw [hc] at a; cases a
          obtain ⟨x1, x2⟩ := h5 j p' e hc b
          exact ⟨x1, rep_bfz h hk hz x2⟩
      | pend => trivial
      | gone => trivial
      | dfr o => obtain ⟨h1, h2, h3⟩ := hbi; exact ⟨h1, hΦ rfl, h3⟩
      | lp st pend n f ps assign body => obtain ⟨h1, h2, fn, tmps, d, h3, h4, h5⟩ := hbi; exact ⟨h1, hΦ rfl, fn, tmps, d, h3, h4, fun t ht => (h5 t ht).mono hle⟩
      | it km n seen =>
        obtain ⟨h1, h2, h3, h4⟩ := hbi
        refine ⟨h1, hΦ rfl, h3, fun m hm => ?_⟩
        obtain ⟨bl, a, b⟩ := h4 m hm
        obtain ⟨bl', a', b', _⟩ := hle.fixed m bl a b
        exact ⟨bl', a', b'⟩
  · rcases bfzH_get a1 with ⟨rfl, rfl, _⟩ | ⟨n1, c1, d1, rfl⟩
    · simp [Blk.live] at l1
    · rcases bfzH_get a2 with ⟨rfl, rfl, _⟩ | ⟨n2, c2, d2, rfl⟩
      · simp [Blk.live] at l2
      · rw [bfz_live] at l1 l2
        exact h.inj i j c1 c2 d1 d2 l1 l2 he
mutual
theorem bfz_under {k n : Nat} (h : n ≤ k) (cs : List AV) : ∀ (a : AV), a.under n = true → a.bfz k cs = a
  | .v _, _ => rfl
  | .vs _ _, _ => rfl
  | .vx _ _, _ => rfl
  | .vp _, _ => rfl
  | .bp k' _, hu => by simp only [AV.under, decide_eq_true_eq] at hu; simp only [AV.bfz]; rw [if_neg (by omega)]
  | .rp _ _ _ _, _ => rfl
  | .hs _ _ _ _, _ => rfl
  | .hm _, _ => rfl
  | .hg _, _ => rfl
  | .hi _, _ => rfl
  | .yl _, _ => rfl
  | .bs _ _ _, _ => rfl
  | .fn _ a b, hu => by simp only [AV.under, Bool.and_eq_true] at hu; simp only [AV.bfz]; rw [bfzL_under h cs a hu.1, bfzL_under h cs b hu.2]
  | .ifc _ x, hu => by simp only [AV.under] at hu; simp only [AV.bfz]; rw [bfz_under h cs x hu]
  | .agg a, hu => by simp only [AV.under] at hu; simp only [AV.bfz]; rw [bfzL_under h cs a hu]
  | .tup a, hu => by simp only [AV.under] at hu; simp only [AV.bfz]; rw [bfzL_under h cs a hu]
  | .junk, _ => rfl
theorem bfzL_under {k n : Nat} (h : n ≤ k) (cs : List AV) : ∀ (l : List AV), underL n l = true → bfzL k cs l = l
  | [], _ => rfl
  | a :: l, hu => by simp only [underL, Bool.and_eq_true] at hu; simp only [bfzL]; rw [bfz_under h cs a hu.1, bfzL_under h cs l hu.2]
end
theorem blk_bfz_under {k n : Nat} (h : n ≤ k) (cs : List AV) (b : Blk) (hu : b.under n = true) : b.bfz k cs = b := by
  cases b with
  | box t a => simp only [Blk.under] at hu; simp only [Blk.bfz]; rw [bfzL_under h cs a hu]
  | row t z rs =>
    simp only [Blk.under, List.all_eq_true] at hu
    simp only [Blk.bfz]
    rw [List.map_congr_left (g := id) (fun r hr => bfzL_under h cs r (hu r hr)), List.map_id]
  | map ms =>
    simp only [Blk.under, List.all_eq_true] at hu
    simp only [Blk.bfz]
    rw [List.map_congr_left (g := id) (fun p hp => by rw [bfz_under h cs p.2 (hu p hp)]; rfl), List.map_id]
  | mapg ms =>
    simp only [Blk.under, List.all_eq_true] at hu
    simp only [Blk.bfz]
    rw [List.map_congr_left (g := id) (fun p hp => by rw [bfz_under h cs p.2 (hu p hp)]; rfl), List.map_id]
  | _ => rfl
theorem acalls_boxed {P : Program} {fid : FuncId} {args : List AV} {H : List Blk} {a : AV} {t : TypeId} {cs : List AV} (hz : cs.all AV.frzF = true) (hu2 : (a.bfz H.length cs).under H.length = true)
    (h : ACalls P fid args H (fun e H' => e = .ret a ∧ H' = H ++ [.box t cs])) : ACalls P fid args H (fun e H' => e = .ret (a.bfz H.length cs) ∧ H' = H) := by
  intro B w0 cx vals h1 h2 h3
  have hu := h1.under
  rw [h2] at hu
  refine (h B w0 cx vals h1 h2 h3).mono fun e w' he => ?_
  cases e with
  | returned y =>
    obtain ⟨cx', r, rfl, b1, b2, b3, b4, b5⟩ := he
    cases b4
    have hk : cx'.H[H.length]? = some (.box t cs) := by rw [b5]; simp
    have c1 := hrel_bfz b1 hk hz
    have c2 := le_bfz (cs := cs) hk
    have c3 := rep_bfz b1 hk hz b3
    have c4 : (cx'.bfz H.length cs).H = H ++ [.gone] := by
      show bfzH H.length cs cx'.H = _
      rw [b5, bfzH, List.map_append]
      have e1 : H.map (Blk.bfz H.length cs) = H := by
        rw [List.map_congr_left (g := id) (fun b hb => blk_bfz_under (Nat.le_refl _) cs b (List.all_eq_true.1 hu b hb)), List.map_id]
      rw [e1]; simp
    have hle : Le cx ((cx'.bfz H.length cs).cut H) := le_cut (b2.trans c2) c4 (by rw [h2]; exact Nat.le_refl _)
    exact ⟨(cx'.bfz H.length cs).cut H, _, rfl, hrel_cut c1 c4 hu, hle, rep_cut c4 c3 hu2, rfl, rfl⟩
  | panicked ch =>
    obtain ⟨cx', x, y, rfl, b1, b2, hch, b3, b4, b5⟩ := he
    cases b4
  | outgrown => exact he
theorem acalls_bgive {P : Program} {fid : FuncId} {args : List AV} {H : List Blk} {R : AE → List Blk → Prop} (k : Nat) (t : TypeId) (cs : List AV) (hk : H[k]? = some (.box t cs)) (hz : cs.all AV.frzF = true)
    (h : ACalls P fid (bfzL k cs args) (bfzH k cs H) R) : ACalls P fid args H R := by
  intro B w0 cx vals h1 h2 h3
  subst h2
  refine (h B w0 (cx.bfz k cs) vals (hrel_bfz h1 hk hz) rfl (repL_bfz h1 hk hz h3)).mono fun e w' he => ?_
  cases e with
  | returned y => obtain ⟨cx', r, b0, b1, b2, b3, b4⟩ := he; exact ⟨cx', r, b0, b1, (le_bfz hk).trans b2, b3, b4⟩
  | panicked ch => obtain ⟨cx', x, y, b0, b1, b2, b3, b4, b5⟩ := he; exact ⟨cx', x, y, b0, b1, (le_bfz hk).trans b2, b3, b4, b5⟩
  | outgrown => exact he
end Go.Mu
namespace Go.Mu
section
variable {P : Program} {n : Nat} {pu : Nat → Bool} {ops : Array Oper} {Q : AQ}
theorem all_mem {α : Type} {p : α → Bool} {a b : List α} (h : ∀ x, x ∈ a ↔ x ∈ b) : a.all p = b.all p := by
  rw [Bool.eq_iff_iff, List.all_eq_true, List.all_eq_true]
  exact ⟨fun q x hx => q x ((h x).2 hx), fun q x hx => q x ((h x).1 hx)⟩
theorem contains_mem {a b : List Nat} (h : ∀ x, x ∈ a ↔ x ∈ b) (i : Nat) : a.contains i = b.contains i := by
  rw [Bool.eq_iff_iff, List.contains_iff_mem, List.contains_iff_mem]; exact h i
theorem planX_mem {hf : Oper → Bool} {tab : List (Nat × Oper × Nat)} : ∀ (p : OPlan) (d1 d2 r1 r2 : List Nat), (∀ x, x ∈ d1 ↔ x ∈ d2) → (∀ x, x ∈ r1 ↔ x ∈ r2) → r1.Nodup → r2.Nodup → planX pu hf ops tab d1 r1 p = planX pu hf ops tab d2 r2 p
  | [], d1, d2, r1, r2, hd, hr, _, _ => by
    rw [planX, planX, Bool.eq_iff_iff, List.isEmpty_iff, List.isEmpty_iff]
    constructor
    · intro h; refine List.eq_nil_iff_forall_not_mem.2 fun x hx => ?_; have := (hr x).2 hx; rw [h] at this; cases this
    · intro h; refine List.eq_nil_iff_forall_not_mem.2 fun x hx => ?_; have := (hr x).1 hx; rw [h] at this; cases this
  | (i, late) :: rest, d1, d2, r1, r2, hd, hr, n1, n2 => by
    have e1 : readyB ops r1 i = readyB ops r2 i := by
      unfold readyB
      rw [contains_mem hr]
      cases ops[i]? with
      | none => rfl
      | some o => simp only [contains_mem hr]
    have e2 := planX_mem (hf := hf) (tab := tab) rest (i :: d1) (i :: d2) (r1.erase i) (r2.erase i) (fun x => by simp [hd x]) (fun x => by rw [n1.mem_erase_iff, n2.mem_erase_iff, hr x]) (n1.erase i) (n2.erase i)
    rw [planX, planX, e1, e2]
    cases ops[i]? with
    | none => rfl
    | some oi =>
      simp only
      congr 2
      split
      · rfl
      · rw [all_mem hr, all_mem hd]
def bagOk (pu : Nat → Bool) (hf : Oper → Bool) (ops : Array Oper) (tab : List (Nat × Oper × Nat)) (bag lt : List Nat) (post : OPlan) (done rem : List Nat) : Bool :=
  (bag.all fun i => rem.contains i && !pu i && (match ops[i]? with
    | none => false
    | some oi => (oi.after.toList.all fun e => !Region.binds .any e || (!rem.contains e.on && decide (e.on < ops.size))) &&
      (done.all fun j => (maskOf tab i).testBit j || !pu j || (match ops[j]? with | none => false | some oj => pu j && !lookB ops oj oi && (lt.contains j || hf oj))))) &&
  (rem.all fun x => bag.contains x || bag.all fun b => (maskOf tab x).testBit b) && !bag.isEmpty && planX pu hf ops tab (bag ++ done) (rem.filter fun x => !bag.contains x) post
structure BagV (P : Program) (pu : Nat → Bool) (hf : Oper → Bool) (ops : Array Oper) (Q : AQ) (ds : List ADef) (bag lt : List Nat) (post : OPlan) (I : List Nat → Fr → List Blk → Prop) : Prop where
  step : ∀ S i f H o, i ∈ bag → i ∉ S → S ⊆ bag → ops[i]? = some o → I S f H → StepB P ops o f H ds Q (fun f' H' => I (i :: S) f' H')
  late : ∀ S f H, S ⊆ bag → I S f H → ∀ j ∈ lt, ∀ oj, ops[j]? = some oj → ∃ r, StepD P ops oj f H r ∧ ∀ d, oj.dst = some d → f d = r
  fin : ∀ S f H, (∀ x, x ∈ S ↔ x ∈ bag) → I S f H → VX P pu hf ops Q ds post f H
theorem bag_sound {tab : List (Nat × Oper × Nat)} (htab : TabOk ops tab) {hf : Oper → Bool} (hsm : ∀ (i : Nat) (o : Oper), ops[i]? = some o → smallO n ops o = true)
    (hlt : ∀ (j : Nat) (o : Oper), ops[j]? = some o → ∀ e ∈ o.after, Region.binds .any e = true → e.on < j) {ds : List ADef} {bag lt : List Nat} {post : OPlan} {I : List Nat → Fr → List Blk → Prop} (hv : BagV P pu hf ops Q ds bag lt post I) (done0 rem0 : List Nat) (hok : bagOk pu hf ops tab bag lt post done0 rem0 = true) (hrn : rem0.Nodup) :
    ∀ (fuel : Nat) (done rem L : List Nat) (listed : Array Bool) (f fa : Fr) (H : List Blk) (S : List Nat), S ⊆ bag → (∀ x, x ∈ done ↔ x ∈ S ∨ x ∈ done0) → (∀ x, x ∈ rem ↔ x ∈ rem0 ∧ x ∉ S) → SInv P pu hf ops done rem L listed f fa H → rem.length + L.length ≤ fuel → I S f H → AA P pu ops Q ds fuel listed fa H := by
  simp only [bagOk, Bool.and_eq_true, List.all_eq_true, Bool.not_eq_true', Bool.or_eq_true, List.contains_iff_mem] at hok
  obtain ⟨⟨⟨h1, h2⟩, h3⟩, h4⟩ := hok
  intro fuel
  induction fuel with
  | zero =>
    intro done rem L listed f fa H S hS hd hr hi hfu hI
    have hrem : rem = [] := List.eq_nil_of_length_eq_zero (by omega)
    have hall : ∀ x, x ∈ S ↔ x ∈ bag := fun x => ⟨fun h => hS h, fun h => by
      by_cases hxs : x ∈ S
      · exact hxs
      · have := (hr x).2 ⟨(h1 x h).1.1, hxs⟩
        rw [hrem] at this; cases this⟩
    refine vx_sound htab hsm hlt post 0 done rem L listed f fa H ?_ hi hfu (hv.fin S f H hall hI)
    rw [planX_mem post done (bag ++ done0) rem (rem0.filter fun x => !bag.contains x) (fun x => by rw [hd x, List.mem_append, hall x]) (fun x => by rw [hr x, List.mem_filter, hall x]; simp) hi.rnodup (hrn.filter _)]
    exact h4
  | succ fuel ih =>
    intro done rem L listed f fa H S hS hd hr hi hfu hI
    by_cases hall : ∀ x, x ∈ bag → x ∈ S
    · have hall : ∀ x, x ∈ S ↔ x ∈ bag := fun x => ⟨fun h => hS h, hall x⟩
      refine vx_sound htab hsm hlt post (fuel + 1) done rem L listed f fa H ?_ hi hfu (hv.fin S f H hall hI)
      rw [planX_mem post done (bag ++ done0) rem (rem0.filter fun x => !bag.contains x) (fun x => by rw [hd x, List.mem_append, hall x]) (fun x => by rw [hr x, List.mem_filter, hall x]; simp) hi.rnodup (hrn.filter _)]
      exact h4
    · obtain ⟨b, hb, hbS⟩ : ∃ b, b ∈ bag ∧ b ∉ S := by
        refine Classical.byContradiction fun hn => hall fun x hx => Classical.byContradiction fun hxs => hn ⟨x, hx, hxs⟩
      have hbr : b ∈ rem := (hr b).2 ⟨(h1 b hb).1.1, hbS⟩
      refine ⟨fun hn => ?_, fun x hir => ?_⟩
      · obtain ⟨rfl, _⟩ := sinv_ready hsm hlt hi hn
        cases hbr
      · obtain ⟨m1, o, m2, m3⟩ := mem_ready.1 hir
        have hil := (Array.getElem?_eq_some_iff.1 m2).1
        rw [getD_tf (by rw [hi.size]; exact hil)] at m1
        rcases (hi.un x hil).1 m1 with hm | hm
        · have hx0 := (hr x).1 hm
          rcases h2 x hx0.1 with hxb | hxm
          · obtain ⟨⟨g1, g2⟩, g3⟩ := h1 x hxb
            rw [m2] at g3
            simp only [Bool.and_eq_true, List.all_eq_true] at g3
            obtain ⟨g4, g5⟩ := g3
            refine ⟨o, m2, ?_⟩
            rw [if_neg (by simp [g2])]
            have hrd : readyB ops rem x = true := by
              unfold readyB
              rw [m2, Bool.and_eq_true, List.contains_iff_mem, List.all_eq_true]
              refine ⟨hm, fun e he => ?_⟩
              have := g4 e he
              simp only [Bool.or_eq_true, Bool.not_eq_true', Bool.and_eq_true] at this ⊢
              rcases this with h | ⟨h, h'⟩
              · exact .inl h
              · refine .inr ⟨?_, h'⟩
                rw [← Bool.not_eq_true, List.contains_iff_mem] at h ⊢
                exact fun q => h ((hr _).1 q).1
            have hop2 : (done.all fun j => (maskOf tab x).testBit j || !pu j || (match ops[j]? with | none => false | some oj => pu j && !lookB ops oj o && (lt.contains j || hf oj))) = true := by
              rw [List.all_eq_true]
              intro j hj
              rcases (hd j).1 hj with h | h
              · have := (h1 j (hS h)).1.2
                simp [this]
              · exact g5 j h
            refine vx_impK htab hsm hlt (K := I (x :: S)) hi hir m2 g2 hrd hop2 (fun L' listed' f' fa' H' hi' hl' hk' => ?_) hfu ?_
            · refine ih _ _ L' listed' f' fa' H' (x :: S) (fun y hy => ?_) (fun y => ?_) (fun y => ?_) hi' hl' hk'
              · rcases List.mem_cons.1 hy with rfl | hy
                · exact hxb
                · exact hS hy
              · simp only [List.mem_cons, hd y, or_assoc]
              · rw [hi.rnodup.mem_erase_iff, hr y, List.mem_cons, not_or]
                exact ⟨fun ⟨a, b, c⟩ => ⟨b, a, c⟩, fun ⟨a, b, c⟩ => ⟨b, a, c⟩⟩
            · refine stepB_mono (fun f' H' hk => ⟨hv.late (x :: S) f' H' (fun y hy => ?_) hk, hk⟩) (hv.step S x f H o hxb hx0.2 hS m2 hI)
              rcases List.mem_cons.1 hy with rfl | hy
              · exact hxb
              · exact hS hy
          · exfalso
            have := reach_listed hi.closed (maskOf_spec htab (hxm b hb)) fun o' ho' e he hb' => m3 e (by rw [m2] at ho'; cases ho'; exact he) hb'
            have h5 := (hi.un b (hi.remlt b hbr)).2 (.inl hbr)
            rw [this] at h5; cases h5
        · obtain ⟨o', r, ho, hpu', hst, hinv⟩ := sinv_late hsm hlt hi hir hm
          refine ⟨o', ho, ?_⟩
          rw [if_pos hpu']
          have hlen := List.length_erase_of_mem hm
          have hpos := List.length_pos_of_mem hm
          exact ⟨r, hst, ih done rem (L.erase x) _ f _ H S hS hd hr hinv (by omega) hI⟩
def oneBagOk (pu : Nat → Bool) (hf : Oper → Bool) (ops : Array Oper) (tab : List (Nat × Oper × Nat)) (i0 : Nat) (lt0 bag lt : List Nat) (post : OPlan) (done rem : List Nat) : Bool :=
  readyB ops rem i0 && !pu i0 && (match ops[i0]? with
    | none => false
    | some oi => done.all fun j => (maskOf tab i0).testBit j || !pu j || (match ops[j]? with | none => false | some oj => pu j && !lookB ops oj oi && (lt0.contains j || hf oj))) &&
  (rem.all fun x => x == i0 || (maskOf tab x).testBit i0) && bagOk pu hf ops tab bag lt post (i0 :: done) (rem.erase i0)
def OneBagV (P : Program) (pu : Nat → Bool) (hf : Oper → Bool) (ops : Array Oper) (Q : AQ) (ds : List ADef) (i0 : Nat) (lt0 bag lt : List Nat) (post : OPlan) (f : Fr) (H : List Blk) : Prop := match ops[i0]? with
  | none => False
  | some o => StepB P ops o f H ds Q (fun f' H' => (∀ j ∈ lt0, ∀ oj, ops[j]? = some oj → ∃ r, StepD P ops oj f' H' r ∧ ∀ d, oj.dst = some d → f' d = r) ∧ ∃ I : List Nat → Fr → List Blk → Prop, I [] f' H' ∧ BagV P pu hf ops Q ds bag lt post I)
theorem oneBag_sound {tab : List (Nat × Oper × Nat)} (htab : TabOk ops tab) {hf : Oper → Bool} (hsm : ∀ (i : Nat) (o : Oper), ops[i]? = some o → smallO n ops o = true)
    (hlt : ∀ (j : Nat) (o : Oper), ops[j]? = some o → ∀ e ∈ o.after, Region.binds .any e = true → e.on < j) {ds : List ADef} {i0 : Nat} {lt0 bag lt : List Nat} {post : OPlan} : ∀ (fuel : Nat) (done rem L : List Nat) (listed : Array Bool) (f fa : Fr) (H : List Blk), oneBagOk pu hf ops tab i0 lt0 bag lt post done rem = true → SInv P pu hf ops done rem L listed f fa H → rem.length + L.length ≤ fuel →
    OneBagV P pu hf ops Q ds i0 lt0 bag lt post f H → AA P pu ops Q ds fuel listed fa H := by
  intro fuel
  induction fuel with
  | zero =>
    intro done rem L listed f fa H hc hi hfu hv
    exfalso
    simp only [oneBagOk, readyB, Bool.and_eq_true, List.contains_iff_mem] at hc
    have := List.length_pos_of_mem hc.1.1.1.1.1
    omega
  | succ fuel ih =>
    intro done rem L listed f fa H hc hi hfu hv
    have hc0 := hc
    simp only [oneBagOk, Bool.and_eq_true, Bool.not_eq_true', List.all_eq_true, Bool.or_eq_true, beq_iff_eq] at hc
    obtain ⟨⟨⟨⟨hrd, hpu⟩, hop⟩, hall⟩, hbag⟩ := hc
    have hi0r : i0 ∈ rem := by simp only [readyB, Bool.and_eq_true, List.contains_iff_mem] at hrd; exact hrd.1
    refine ⟨fun hn => ?_, fun x hir => ?_⟩
    · obtain ⟨rfl, _⟩ := sinv_ready hsm hlt hi hn
      cases hi0r
    · obtain ⟨m1, o, m2, m3⟩ := mem_ready.1 hir
      have hil := (Array.getElem?_eq_some_iff.1 m2).1
      rw [getD_tf (by rw [hi.size]; exact hil)] at m1
      rcases (hi.un x hil).1 m1 with hm | hm
      · rcases hall x hm with rfl | hx
        · rw [m2] at hop
          unfold OneBagV at hv
          rw [m2] at hv
          refine ⟨o, m2, ?_⟩
          rw [if_neg (by simp [hpu])]
          refine vx_impK htab hsm hlt (K := fun f' H' => ∃ I : List Nat → Fr → List Blk → Prop, I [] f' H' ∧ BagV P pu hf ops Q ds bag lt post I) hi hir m2 hpu hrd (by
            have h := hc0
            simp only [oneBagOk, Bool.and_eq_true] at h
            have h := h.1.1.2
            rw [m2] at h
            exact h) (fun L' listed' f' fa' H' hi' hl' ⟨I, hI, hV⟩ => ?_) hfu hv
          exact bag_sound htab hsm hlt hV (x :: done) (rem.erase x) hbag (hi.rnodup.erase x) fuel (x :: done) (rem.erase x) L' listed' f' fa' H' [] (fun y hy => (by cases hy)) (fun y => by simp) (fun y => by simp) hi' hl' hI
        · exfalso
          have := reach_listed hi.closed (maskOf_spec htab hx) fun o' ho' e he hb => m3 e (by rw [m2] at ho'; cases ho'; exact he) hb
          have h5 := (hi.un i0 (hi.remlt i0 hi0r)).2 (.inl hi0r)
          rw [this] at h5; cases h5
      · obtain ⟨o', r, ho, hpu', hst, hinv⟩ := sinv_late hsm hlt hi hir hm
        refine ⟨o', ho, ?_⟩
        rw [if_pos hpu']
        have hlen := List.length_erase_of_mem hm
        have hpos := List.length_pos_of_mem hm
        exact ⟨r, hst, ih done rem (L.erase x) _ f _ H hc0 hinv (by omega) hv⟩
variable {hn : Nat → Bool}
structure BagW (P : Program) (hn : Nat → Bool) (ops : Array Oper) (Q : AQ) (ds : List ADef) (bag lt : List Nat) (post : OPlan) (I : List Nat → Fr → List Blk → Prop) : Prop where
  step : ∀ S i f H, i ∈ bag → i ∉ S → S ⊆ bag → I S f H → vcL P hn true ops (opsAt ops [i]) (thenQ (fun f' H' _ => I (i :: S) f' H') Q) f H ds
  late : ∀ S f H, S ⊆ bag → I S f H → lateV P hn ops f H (opsAt ops lt)
  fin : ∀ S f H, (∀ x, x ∈ S ↔ x ∈ bag) → I S f H → vcX P hn ops Q ds post f H
def bagAll (hn : Nat → Bool) (n : Nat) (ops : Array Oper) (pre : List Nat) (i0 : Nat) (lt0 bag lt : List Nat) (post : OPlan) : Bool :=
  ops.toList.all (smallO n ops) && planP (puOf (pureOp hn) ops) ops (mkTab ops [] (List.range ops.size)) (oneBagOk (puOf (pureOp hn) ops) hfreeOp ops (mkTab ops [] (List.range ops.size)) i0 lt0 bag lt post) [] (List.range ops.size) pre && lateB (puOf (pureOp hn) ops) ops post && lateB (puOf (pureOp hn) ops) ops [(0, lt), (0, lt0)] &&
  ((List.range ops.size).all fun j => match ops[j]? with
    | none => true
    | some o => o.after.toList.all fun e => !Region.binds .any e || decide (e.on < j)) && ops.all noDefer
theorem bagV_of {ops : Array Oper} {Q : AQ} {ds : List ADef} (hnd : ops.all noDefer = true) {tab : List (Nat × Oper × Nat)} {bag lt : List Nat} {post : OPlan} {done rem : List Nat} {I : List Nat → Fr → List Blk → Prop} (hok : bagOk (puOf (pureOp hn) ops) hfreeOp ops tab bag lt post done rem = true)
    (hl : ∀ j ∈ lt, ∀ o, ops[j]? = some o → puOf (pureOp hn) ops j = true) (hp : ∀ x ∈ post, ∀ j ∈ x.2, ∀ o, ops[j]? = some o → puOf (pureOp hn) ops j = true) (h : BagW P hn ops Q ds bag lt post I) : BagV P (puOf (pureOp hn) ops) hfreeOp ops Q ds bag lt post I := by
  refine ⟨fun S i f H o hi hiS hS ho hI => ?_, fun S f H hS hI j hj oj hoj => ?_, fun S f H hS hI => ?_⟩
  · have hndo : noDefer o = true := Array.all_eq_true_iff_forall_mem.1 hnd _ (Array.mem_of_getElem? ho)
    have hone : opsAt ops [i] = [o] := by simp [opsAt, ho]
    have v1 := h.step S i f H hi hiS hS hI
    rw [hone] at v1
    exact stepB_mono (fun f' H' hk => hk) (one_bar (Q := Q) (Q' := thenQ (fun f' H' _ => I (i :: S) f' H') Q) (fun _ _ _ _ h => h) hndo v1)
  · have hpj := hl j hj oj hoj
    have hndj : noDefer oj = true := Array.all_eq_true_iff_forall_mem.1 hnd _ (Array.mem_of_getElem? hoj)
    have hv := lateV_mem (h.late S f H hS hI) oj (by simp only [opsAt, List.mem_filterMap]; exact ⟨j, hj, hoj⟩)
    obtain ⟨r, h1, _, h3⟩ := one_det hndj (pureOf_pu hoj hpj) hv
    refine ⟨r, h1, fun d hd => ?_⟩
    simp only [lateQ, hd] at h3
    have := h3.2
    simpa [updO, upd] using this.symm
  · simp only [bagOk, Bool.and_eq_true] at hok
    exact vx_of_vcX hnd post _ _ _ _ hok.2 hp (h.fin S f H hS hI)
theorem oneBagV_of {ops : Array Oper} {Q : AQ} {ds : List ADef} (hnd : ops.all noDefer = true) {tab : List (Nat × Oper × Nat)} {i0 : Nat} {lt0 bag lt : List Nat} {post : OPlan} {done rem : List Nat} {f : Fr} {H : List Blk} (hok : oneBagOk (puOf (pureOp hn) ops) hfreeOp ops tab i0 lt0 bag lt post done rem = true)
    (hl0 : ∀ j ∈ lt0, ∀ o, ops[j]? = some o → puOf (pureOp hn) ops j = true) (hl : ∀ j ∈ lt, ∀ o, ops[j]? = some o → puOf (pureOp hn) ops j = true) (hp : ∀ x ∈ post, ∀ j ∈ x.2, ∀ o, ops[j]? = some o → puOf (pureOp hn) ops j = true)
    (h : vcL P hn true ops (opsAt ops [i0]) (thenQ (fun f' H' _ => lateV P hn ops f' H' (opsAt ops lt0) ∧ ∃ I : List Nat → Fr → List Blk → Prop, I [] f' H' ∧ BagW P hn ops Q ds bag lt post I) Q) f H ds) : OneBagV P (puOf (pureOp hn) ops) hfreeOp ops Q ds i0 lt0 bag lt post f H := by
  simp only [oneBagOk, Bool.and_eq_true] at hok
  unfold OneBagV
  cases ho : ops[i0]? with
  | none => have := hok.1.1.2; rw [ho] at this; cases this
  | some o =>
    have hndo : noDefer o = true := Array.all_eq_true_iff_forall_mem.1 hnd _ (Array.mem_of_getElem? ho)
    have hone : opsAt ops [i0] = [o] := by simp [opsAt, ho]
    rw [hone] at h
    refine stepB_mono (fun f' H' hk => ⟨fun j hj oj hoj => ?_, ?_⟩) (one_bar (Q := Q) (Q' := thenQ (fun f' H' _ => lateV P hn ops f' H' (opsAt ops lt0) ∧ ∃ I : List Nat → Fr → List Blk → Prop, I [] f' H' ∧ BagW P hn ops Q ds bag lt post I) Q) (fun _ _ _ _ h => h) hndo h)
    · have hpj := hl0 j hj oj hoj
      have hndj : noDefer oj = true := Array.all_eq_true_iff_forall_mem.1 hnd _ (Array.mem_of_getElem? hoj)
      have hv := lateV_mem hk.1 oj (by simp only [opsAt, List.mem_filterMap]; exact ⟨j, hj, hoj⟩)
      obtain ⟨r, h1, _, h3⟩ := one_det hndj (pureOf_pu hoj hpj) hv
      refine ⟨r, h1, fun d hd => ?_⟩
      simp only [lateQ, hd] at h3
      have := h3.2
      simpa [updO, upd] using this.symm
    · obtain ⟨I, h1, h2⟩ := hk.2
      exact ⟨I, h1, bagV_of hnd hok.2 hl hp h2⟩
def bagQ (P : Program) (hn : Nat → Bool) (ops : Array Oper) (Q : AQ) (ds : List ADef) (i0 : Nat) (lt0 bag lt : List Nat) (post : OPlan) : AQ := fun x f' H' ds' => match x with
  | .normal => vcL P hn true ops (opsAt ops [i0]) (thenQ (fun f' H' _ => lateV P hn ops f' H' (opsAt ops lt0) ∧ ∃ I : List Nat → Fr → List Blk → Prop, I [] f' H' ∧ BagW P hn ops Q ds bag lt post I) Q) f' H' ds
  | x => Q x f' H' ds'
theorem awp_region_bag (hn : Nat → Bool) (pre : List Nat) (i0 : Nat) (lt0 bag lt : List Nat) (post : OPlan) {id : Nat} {ops : Array Oper} {Q : AQ} {f : Fr} {H : List Blk} {ds : List ADef} (hs : (bagAll hn n ops pre i0 lt0 bag lt post && P.follows .mixedOrders) = true)
    (h : vcXW P hn (pre.map fun i => (i, [])) ops (bagQ P hn ops Q ds i0 lt0 bag lt post) f H ds (wit _)) : AWP P n (.region id ops true) Q f H ds := by
  simp only [bagAll, Bool.and_eq_true, List.all_eq_true] at hs
  obtain ⟨⟨⟨⟨⟨⟨hs1, hs2⟩, hs3⟩, hs4⟩, hs5⟩, hs6⟩, hm⟩ := hs
  have hsm : ∀ (i : Nat) (o : Oper), ops[i]? = some o → smallO n ops o = true := fun i o ho => hs1 o (by simpa using Array.mem_of_getElem? ho)
  have lt' : ∀ j ∈ lt, ∀ o, ops[j]? = some o → puOf (pureOp hn) ops j = true := fun j hj o ho => by
    simp only [lateB, List.all_eq_true] at hs4
    have := hs4 (0, lt) (by simp) j hj
    rw [ho] at this; exact this
  have lt0' : ∀ j ∈ lt0, ∀ o, ops[j]? = some o → puOf (pureOp hn) ops j = true := fun j hj o ho => by
    simp only [lateB, List.all_eq_true] at hs4
    have := hs4 (0, lt0) (by simp) j hj
    rw [ho] at this; exact this
  have hltE : ∀ (j : Nat) (o : Oper), ops[j]? = some o → ∀ e ∈ o.after, Region.binds .any e = true → e.on < j := fun j o ho e he hb => by
    have := hs5 j (List.mem_range.2 (Array.getElem?_eq_some_iff.1 ho).1)
    rw [ho] at this
    simp only [List.all_eq_true] at this
    have := this e (by simpa using he)
    simpa [hb] using this
  have hv := vp_of_vcX (P := P) (hn := hn) (Q := Q) (ds := ds) hs6 (kb := oneBagOk (puOf (pureOp hn) ops) hfreeOp ops (mkTab ops [] (List.range ops.size)) i0 lt0 bag lt post) (kv := fun f' H' => OneBagV P (puOf (pureOp hn) ops) hfreeOp ops Q ds i0 lt0 bag lt post f' H')
    (kv' := fun f' H' => vcL P hn true ops (opsAt ops [i0]) (thenQ (fun f' H' _ => lateV P hn ops f' H' (opsAt ops lt0) ∧ ∃ I : List Nat → Fr → List Blk → Prop, I [] f' H' ∧ BagW P hn ops Q ds bag lt post I) Q) f' H' ds) pre [] (List.range ops.size) f H hs2 (fun done rem f H hb h => oneBagV_of hs6 hb lt0' lt' (fun x hx j hj o ho => by
      simp only [lateB, List.all_eq_true] at hs3
      have := hs3 x hx j hj
      rw [ho] at this; exact this) h) h
  intro ro hro B w0 cx0 cx a h1 h2 h3 h4 h5
  subst h3
  refine wpIn_region_any hm ?_
  refine aa_sound (P := P) (pu := puOf (pureOp hn) ops) (Q := Q) (B := B) (w0 := w0) (cx0 := cx0) (ro := ro) (fun i o ho hs => by have := hro hs; simp only [noDefC, List.all_eq_true] at this; exact this o (by simpa using Array.mem_of_getElem? ho)) hsm ops.size (Array.replicate ops.size false) f cx.drew a ?_ (hrel_drew h1) (h2.trans (le_drew cx)) (h4.mono (le_drew cx)) (h5.mono (le_drew cx))
  refine vp_sound (hf := hfreeOp) (mkTab_ok (List.range ops.size) [] (fun d hd => (by cases hd))) hsm hltE (kb := oneBagOk (puOf (pureOp hn) ops) hfreeOp ops (mkTab ops [] (List.range ops.size)) i0 lt0 bag lt post) (kv := fun f' H' => OneBagV P (puOf (pureOp hn) ops) hfreeOp ops Q ds i0 lt0 bag lt post f' H')
    (fun fuel done rem L listed f fa H hb hi hfu hV => oneBag_sound (mkTab_ok (List.range ops.size) [] (fun d hd => (by cases hd))) hsm hltE fuel done rem L listed f fa H hb hi hfu hV)
    pre ops.size [] (List.range ops.size) [] _ f f cx.H hs2 ⟨by simp, fun i hi => ?_, fun i hi => by simpa using hi, fun i o ho hl => ?_, fun i hi => by simp [hi], fun i o ho hn => ?_, List.nodup_nil, List.nodup_range, fun j hj => (by cases hj), fun t _ => rfl⟩ (by simp) hv
  · simp [Array.getD_eq_getD_getElem?, Array.getElem?_replicate, hi]
  · exfalso
    have hlt : i < ops.size := (Array.getElem?_eq_some_iff.1 ho).1
    simp [Array.getD_eq_getD_getElem?, Array.getElem?_replicate, hlt] at hl
  · exfalso
    exact hn (by simpa using (Array.getElem?_eq_some_iff.1 ho).1)
@[simp ↓] theorem QW_bagN (l : List Oper) (Q : AQ) (ds0 : List ADef) (i0 : Nat) (lt0 bag lt : List Nat) (post : OPlan) (f : Fr) (H : List Blk) (ds : List ADef) (w : Wit (bagQ P hn l.toArray Q ds0 i0 lt0 bag lt post, AX.normal, f, H, ds)) : QW (bagQ P hn l.toArray Q ds0 i0 lt0 bag lt post) .normal f H ds w =
    vcDW P hn (opsL l [i0]) l.toArray (thenQ (fun f' H' _ => lateW P hn (opsL l lt0) l.toArray f' H' (wit _) ∧ ∃ I : List Nat → Fr → List Blk → Prop, I [] f' H' ∧ BagW P hn l.toArray Q ds0 bag lt post I) Q) f H ds0 (wit _) := by
  show vcL P hn true l.toArray (opsAt l.toArray [i0]) _ f H ds0 = _
  simp only [vcDW, lateW, opsAt, opsL_eq, List.getElem?_toArray]
theorem bagW_mk {l : List Oper} {Q : AQ} {ds : List ADef} {bag lt : List Nat} {post : OPlan} {I : List Nat → Fr → List Blk → Prop}
    (step : ∀ S i f H, i ∈ bag → i ∉ S → S ⊆ bag → I S f H → vcDW P hn (opsL l [i]) l.toArray (thenQ (fun f' H' _ => I (i :: S) f' H') Q) f H ds (wit _))
    (late : ∀ S f H, S ⊆ bag → I S f H → lateW P hn (opsL l lt) l.toArray f H (wit _))
    (fin : ∀ S f H, (∀ x, x ∈ S ↔ x ∈ bag) → I S f H → vcXW P hn post l.toArray Q f H ds (wit _)) : BagW P hn l.toArray Q ds bag lt post I := by
  refine ⟨fun S i f H h1 h2 h3 h4 => ?_, fun S f H h1 h2 => ?_, fin⟩
  · have := step S i f H h1 h2 h3 h4
    simpa only [vcDW, opsAt, opsL_eq, List.getElem?_toArray] using this
  · have := late S f H h1 h2
    simpa only [lateW, opsAt, opsL_eq, List.getElem?_toArray] using this
end
end Go.Mu
namespace Go.Proofs
open Go.Mu
def mod6 (b : Int) : Nat := (b % 64).toNat
theorem mod6_lt (b : Int) : mod6 b < 64 := by unfold mod6; omega
theorem and63 (x : Nat) : x &&& 63 = x % 64 := Nat.and_two_pow_sub_one_eq_mod (n := 6) x
theorem sh6 (b : Int) : IntKind.u64.wrap ↑((b % 2 ^ IntKind.u64.bits).toNat &&& 63 % 2 ^ IntKind.u64.bits) = (mod6 b : Int) := by
  have h1 : (63 : Nat) % 2 ^ IntKind.u64.bits = 63 := by decide
  rw [h1, and63]
  have h2 : (b % 2 ^ IntKind.u64.bits).toNat % 64 = mod6 b := by
    unfold mod6
    have : (2 : Int) ^ IntKind.u64.bits = 18446744073709551616 := by decide
    rw [this]; omega
  rw [h2]
  have := mod6_lt b
  rw [IntKind.wrap]
  have h3 : IntKind.u64.signed = false := rfl
  simp only [h3]
  have : (2 : Int) ^ IntKind.u64.bits = 18446744073709551616 := by decide
  simp [this]
  omega
theorem sh6n (b : Int) : ¬ ((mod6 b : Int) < 0) := by omega
theorem sh6m (b : Int) : min (mod6 b) IntKind.u64.bits = mod6 b := by have := mod6_lt b; exact Nat.min_eq_left (by show mod6 b ≤ 64; omega)
theorem sh6i (b : Int) : min (mod6 b) IntKind.i64.bits = mod6 b := by have := mod6_lt b; exact Nat.min_eq_left (by show mod6 b ≤ 64; omega)
abbrev wU (n : Int) : Int := IntKind.u64.wrap n
def notU (a : Int) : Int := IntKind.u64.wrap ((BitVec.ofInt IntKind.u64.bits (if IntKind.u64.signed then -1 else IntKind.u64.max) ^^^ BitVec.ofInt IntKind.u64.bits a).toNat)
theorem unx (a : Int) : unA .xor (U a) = some (U (notU a)) := rfl
def andU (a b : Int) : Int := IntKind.u64.wrap ↑((a % 2 ^ IntKind.u64.bits).toNat &&& (b % 2 ^ IntKind.u64.bits).toNat)
def orU (a b : Int) : Int := IntKind.u64.wrap ↑((a % 2 ^ IntKind.u64.bits).toNat ||| (b % 2 ^ IntKind.u64.bits).toNat)
def xorU (a b : Int) : Int := IntKind.u64.wrap ↑((a % 2 ^ IntKind.u64.bits).toNat ^^^ (b % 2 ^ IntKind.u64.bits).toNat)
def shlU (a : Int) (n : Nat) : Int := IntKind.u64.wrap (a * 2 ^ n)
def shrU (a : Int) (n : Nat) : Int := a.fdiv (2 ^ n)
def sarU (a : Int) (n : Nat) : Int := IntKind.u64.wrap ((IntKind.i64.wrap a).fdiv (2 ^ n))
def rotU (a k : Int) : Int := orU (shlU a (mod6 (IntKind.u64.wrap k))) (shrU a (64 - mod6 (IntKind.u64.wrap k)))
def ev2 (op a b : Int) : Int :=
  if op = 6 then wU (a + b) else if op = 7 then wU (a - b) else if op = 8 then wU (a * b) else if op = 9 then andU a b else if op = 10 then orU a b else if op = 11 then xorU a b
  else if op = 12 then shlU a (mod6 b) else if op = 13 then shrU a (mod6 b) else if op = 14 then sarU a (mod6 b) else if op = 15 then rotU a (mod6 b) else if op = 16 then rotU a (-(mod6 b : Int))
  else if op = 17 then (if a = b then 1 else 0) else if op = 18 then (if a = b then 0 else 1) else if op = 19 then (if a < b then 1 else 0) else (if a ≤ b then 1 else 0)
def evalE (op : Int) : List Int → Int
  | [a] => if op = 4 then notU a else wU (0 - a)
  | [a, b] => ev2 op a b
  | [a, b, c] => if a = 0 then c else b
  | _ => 0
theorem rot_ok (a k : Int) (H : List Blk) : ACalls Tryz.prog 161 [U a, I k] H (fun e H' => e = .ret (U (rotU a k)) ∧ H' = H) := by
  refine acalls_tidy (acalls_of_vc (hn := fun _ => false) (od := fun _ => none) Tryz.func161 rfl (by kernel_rfl) ?_)
  obtain ⟨b, hb⟩ : ∃ b, b = IntKind.u64.wrap k := ⟨_, rfl⟩
  have hm := mod6_lt b
  have e1 : IntKind.u64.wrap (64 - (mod6 b : Int)) = ((64 - mod6 b : Nat) : Int) := by
    rw [IntKind.wrap]
    have h3 : IntKind.u64.signed = false := rfl
    have : (2 : Int) ^ IntKind.u64.bits = 18446744073709551616 := by decide
    simp only [h3, this]
    simp
    omega
  have e2 : ¬ (((64 - mod6 b : Nat) : Int) < 0) := by omega
  have e3 : min (64 - mod6 b) IntKind.u64.bits = 64 - mod6 b := Nat.min_eq_left (by show 64 - mod6 b ≤ 64; omega)
  have e4 : rotU a k = orU (shlU a (mod6 b)) (shrU a (64 - mod6 b)) := by rw [rotU, hb]
  rw [e4]
  clear e4
  simp -dsimp [← hb, sh6, sh6n, sh6m, e1, e2, e3]
  exact tidy_now rfl ⟨rfl, rfl⟩
theorem ev5_ok (a b : Int) (H : List Blk) : ACalls Tryz.prog 151 [U a, U b] H (fun e H' => e = .ret (U (wU (a + b))) ∧ H' = H) := by
  refine acalls_tidy (acalls_of_vc (hn := fun _ => false) (od := fun _ => none) Tryz.func151 rfl (by kernel_rfl) ?_)
  simp -dsimp
  exact tidy_now rfl ⟨rfl, rfl⟩
theorem ev6_ok (a b : Int) (H : List Blk) : ACalls Tryz.prog 152 [U a, U b] H (fun e H' => e = .ret (U (wU (a - b))) ∧ H' = H) := by
  refine acalls_tidy (acalls_of_vc (hn := fun _ => false) (od := fun _ => none) Tryz.func152 rfl (by kernel_rfl) ?_)
  simp -dsimp
  exact tidy_now rfl ⟨rfl, rfl⟩
theorem ev7_ok (a b : Int) (H : List Blk) : ACalls Tryz.prog 153 [U a, U b] H (fun e H' => e = .ret (U (wU (a * b))) ∧ H' = H) := by
  refine acalls_tidy (acalls_of_vc (hn := fun _ => false) (od := fun _ => none) Tryz.func153 rfl (by kernel_rfl) ?_)
  simp -dsimp
  exact tidy_now rfl ⟨rfl, rfl⟩
theorem ev8_ok (a b : Int) (H : List Blk) : ACalls Tryz.prog 154 [U a, U b] H (fun e H' => e = .ret (U (andU a b)) ∧ H' = H) := by
  refine acalls_tidy (acalls_of_vc (hn := fun _ => false) (od := fun _ => none) Tryz.func154 rfl (by kernel_rfl) ?_)
  simp -dsimp
  exact tidy_now rfl ⟨rfl, rfl⟩
theorem ev9_ok (a b : Int) (H : List Blk) : ACalls Tryz.prog 155 [U a, U b] H (fun e H' => e = .ret (U (orU a b)) ∧ H' = H) := by
  refine acalls_tidy (acalls_of_vc (hn := fun _ => false) (od := fun _ => none) Tryz.func155 rfl (by kernel_rfl) ?_)
  simp -dsimp
  exact tidy_now rfl ⟨rfl, rfl⟩
theorem ev10_ok (a b : Int) (H : List Blk) : ACalls Tryz.prog 156 [U a, U b] H (fun e H' => e = .ret (U (xorU a b)) ∧ H' = H) := by
  refine acalls_tidy (acalls_of_vc (hn := fun _ => false) (od := fun _ => none) Tryz.func156 rfl (by kernel_rfl) ?_)
  simp -dsimp
  exact tidy_now rfl ⟨rfl, rfl⟩
theorem ev11_ok (a b : Int) (H : List Blk) : ACalls Tryz.prog 157 [U a, U b] H (fun e H' => e = .ret (U (shlU a (mod6 b))) ∧ H' = H) := by
  refine acalls_tidy (acalls_of_vc (hn := fun _ => false) (od := fun _ => none) Tryz.func157 rfl (by kernel_rfl) ?_)
  simp -dsimp [sh6, sh6n, sh6m]
  exact tidy_now rfl ⟨rfl, rfl⟩
theorem ev12_ok (a b : Int) (H : List Blk) : ACalls Tryz.prog 158 [U a, U b] H (fun e H' => e = .ret (U (shrU a (mod6 b))) ∧ H' = H) := by
  refine acalls_tidy (acalls_of_vc (hn := fun _ => false) (od := fun _ => none) Tryz.func158 rfl (by kernel_rfl) ?_)
  simp -dsimp [sh6, sh6n, sh6m]
  exact tidy_now rfl ⟨rfl, rfl⟩
theorem ev13_ok (a b : Int) (H : List Blk) : ACalls Tryz.prog 159 [U a, U b] H (fun e H' => e = .ret (U (sarU a (mod6 b))) ∧ H' = H) := by
  refine acalls_tidy (acalls_of_vc (hn := fun _ => false) (od := fun _ => none) Tryz.func159 rfl (by kernel_rfl) ?_)
  simp -dsimp [sh6, sh6n, sh6i]
  exact tidy_now rfl ⟨rfl, rfl⟩
theorem ev14_ok (a b : Int) (H : List Blk) : ACalls Tryz.prog 160 [U a, U b] H (fun e H' => e = .ret (U (rotU a (mod6 b : Int))) ∧ H' = H) := by
  refine acalls_tidy (acalls_of_vc (hn := fun _ => false) (od := fun _ => none) Tryz.func160 rfl (by kernel_rfl) ?_)
  have hm := mod6_lt b
  have e1 : IntKind.i64.wrap (mod6 b : Int) = (mod6 b : Int) := wrapI (by omega) (by omega)
  have e2 : IntKind.i64.wrap (0 - (mod6 b : Int)) = -(mod6 b : Int) := by rw [wrapI (by omega) (by omega)]; omega
  have e3 : IntKind.i64.wrap (-(mod6 b : Int)) = -(mod6 b : Int) := wrapI (by omega) (by omega)
  have c := fun k H => rot_ok a k H
  simp -dsimp [sh6, e1, e2, e3]
  refine acallsW_det (c _ _) ?_
  simp -dsimp
  exact tidy_now rfl ⟨rfl, rfl⟩
theorem ev15_ok (a b : Int) (H : List Blk) : ACalls Tryz.prog 162 [U a, U b] H (fun e H' => e = .ret (U (rotU a (-(mod6 b : Int)))) ∧ H' = H) := by
  refine acalls_tidy (acalls_of_vc (hn := fun _ => false) (od := fun _ => none) Tryz.func162 rfl (by kernel_rfl) ?_)
  have hm := mod6_lt b
  have e1 : IntKind.i64.wrap (mod6 b : Int) = (mod6 b : Int) := wrapI (by omega) (by omega)
  have e2 : IntKind.i64.wrap (0 - (mod6 b : Int)) = -(mod6 b : Int) := by rw [wrapI (by omega) (by omega)]; omega
  have e3 : IntKind.i64.wrap (-(mod6 b : Int)) = -(mod6 b : Int) := wrapI (by omega) (by omega)
  have c := fun k H => rot_ok a k H
  simp -dsimp [sh6, e1, e2, e3]
  refine acallsW_det (c _ _) ?_
  simp -dsimp
  exact tidy_now rfl ⟨rfl, rfl⟩
theorem ev16_ok (a b : Int) (H : List Blk) : ACalls Tryz.prog 163 [U a, U b] H (fun e H' => e = .ret (Bo (a == b)) ∧ H' = H) := by
  refine acalls_tidy (acalls_of_vc (hn := fun _ => false) (od := fun _ => none) Tryz.func163 rfl (by kernel_rfl) ?_)
  simp -dsimp
  exact tidy_now rfl ⟨rfl, rfl⟩
theorem ev17_ok (a b : Int) (H : List Blk) : ACalls Tryz.prog 164 [U a, U b] H (fun e H' => e = .ret (Bo (a != b)) ∧ H' = H) := by
  refine acalls_tidy (acalls_of_vc (hn := fun _ => false) (od := fun _ => none) Tryz.func164 rfl (by kernel_rfl) ?_)
  simp -dsimp
  exact tidy_now rfl ⟨rfl, rfl⟩
theorem ev18_ok (a b : Int) (H : List Blk) : ACalls Tryz.prog 165 [U a, U b] H (fun e H' => e = .ret (Bo (decide (a < b))) ∧ H' = H) := by
  refine acalls_tidy (acalls_of_vc (hn := fun _ => false) (od := fun _ => none) Tryz.func165 rfl (by kernel_rfl) ?_)
  simp -dsimp
  exact tidy_now rfl ⟨rfl, rfl⟩
theorem ev19_ok (a b : Int) (H : List Blk) : ACalls Tryz.prog 166 [U a, U b] H (fun e H' => e = .ret (Bo (decide (a ≤ b))) ∧ H' = H) := by
  refine acalls_tidy (acalls_of_vc (hn := fun _ => false) (od := fun _ => none) Tryz.func166 rfl (by kernel_rfl) ?_)
  simp -dsimp
  exact tidy_now rfl ⟨rfl, rfl⟩
theorem ev3_ok (a : Int) (l : List Int) (H : List Blk) : ACalls Tryz.prog 149 [.vs 1 ((a :: l).map fun x => [U x])] H (fun e H' => e = .ret (U (notU a)) ∧ H' = H) := by
  refine acalls_tidy (acalls_of_vc (hn := fun _ => false) (od := fun _ => none) Tryz.func149 rfl (by kernel_rfl) ?_)
  have hu := unx a
  simp -dsimp [hu]
  exact tidy_now rfl ⟨rfl, rfl⟩
theorem ev4_ok (a : Int) (l : List Int) (H : List Blk) : ACalls Tryz.prog 150 [.vs 1 ((a :: l).map fun x => [U x])] H (fun e H' => e = .ret (U (wU (0 - a))) ∧ H' = H) := by
  refine acalls_tidy (acalls_of_vc (hn := fun _ => false) (od := fun _ => none) Tryz.func150 rfl (by kernel_rfl) ?_)
  simp -dsimp
  exact tidy_now rfl ⟨by simp [wU], rfl⟩
theorem ev20_ok (a b c : Int) (l : List Int) (H : List Blk) : ACalls Tryz.prog 167 [.vs 1 ((a :: b :: c :: l).map fun x => [U x])] H (fun e H' => e = .ret (U (if a = 0 then c else b)) ∧ H' = H) := by
  refine acalls_tidy (acalls_of_vc (hn := fun _ => false) (od := fun _ => none) Tryz.func167 rfl (by kernel_rfl) ?_)
  simp -dsimp
  refine condVW_introNE (fun h h1 h2 => ?_) (fun h => ?_)
  · simp -dsimp
    exact tidy_now rfl ⟨by rw [if_neg h], rfl⟩
  · simp -dsimp
    exact tidy_now rfl ⟨by rw [if_pos h], rfl⟩
theorem two1_ok (g : FuncId) (hok : okFn Tryz.prog g = true) (a b r : Int) (l : List Int) (hg : ∀ H, ACalls Tryz.prog g [U a, U b] H (fun e H' => e = .ret (U r) ∧ H' = H)) (H : List Blk) :
    ACalls Tryz.prog 146 [.vs 1 ((a :: b :: l).map fun x => [U x]), .vp [.fn (.func g) [] []]] H (fun e H' => e = .ret (U r) ∧ H' = H) := by
  refine acalls_tidy (acalls_of_vc (hn := fun _ => false) (od := fun _ => none) Tryz.func146 rfl (by kernel_rfl) ?_)
  simp -dsimp [hok]
  refine callDW_intro (hg _) ?_
  simp -dsimp
  exact tidy_now rfl ⟨rfl, rfl⟩
theorem two1is_ok (a b r : Int) (l : List Int) (v : AV) (hg : ∀ H, ACalls Tryz.prog 148 [U a, U b, .vp [v]] H (fun e H' => e = .ret (U r) ∧ H' = H)) (H : List Blk) :
    ACalls Tryz.prog 146 [.vs 1 ((a :: b :: l).map fun x => [U x]), .vp [.fn (.func 148) [] [.vp [v]]]] H (fun e H' => e = .ret (U r) ∧ H' = H) := by
  have hok : okFn Tryz.prog 148 = true := by kernel_rfl
  refine acalls_tidy (acalls_of_vc (hn := fun _ => false) (od := fun _ => none) Tryz.func146 rfl (by kernel_rfl) ?_)
  simp -dsimp [hok]
  refine callDW_intro (hg _) ?_
  simp -dsimp
  exact tidy_now rfl ⟨rfl, rfl⟩
theorem is1_ok (g : FuncId) (hok : okFn Tryz.prog g = true) (a b : Int) (q : Bool) (hg : ∀ H, ACalls Tryz.prog g [U a, U b] H (fun e H' => e = .ret (Bo q) ∧ H' = H)) (H : List Blk) :
    ACalls Tryz.prog 148 [U a, U b, .vp [.fn (.func g) [] []]] H (fun e H' => e = .ret (U (if q = true then 1 else 0)) ∧ H' = H) := by
  refine acalls_tidy (acalls_of_vc (hn := fun _ => false) (od := fun _ => none) Tryz.func148 rfl (by kernel_rfl) ?_)
  simp -dsimp [hok]
  refine acallsW_det (hg _) ?_
  cases q
  · simp -dsimp
    exact tidy_now rfl ⟨rfl, rfl⟩
  · simp -dsimp
    exact tidy_now rfl ⟨rfl, rfl⟩
theorem two_ok (g : FuncId) (cs : List AV) (hv : cs.all AV.frzB = true) (H : List Blk) : ACalls Tryz.prog 145 [.fn (.func g) [] cs] H (fun e H' => e = .ret (.fn (.func 146) [] [.vp [.fn (.func g) [] cs]]) ∧ H' = H) := by
  have h0 : ACalls Tryz.prog 145 [.fn (.func g) [] cs] H (fun e H' => e = .ret (.fn (.func 146) [] [.bp H.length 0]) ∧ H' = H ++ [.box 247 [.fn (.func g) [] cs]]) := by
    refine acalls_of_vc (hn := fun _ => false) (od := fun _ => none) Tryz.func145 rfl (by kernel_rfl) ?_
    simp -dsimp
  have h1 := acalls_boxed (by simp [AV.frzF, hv]) (by simp [AV.bfz, bfzL, AV.under, underL]) h0
  simpa [AV.bfz, bfzL] using h1
theorem is_ok (g : FuncId) (b : Nat) (H : List Blk) (hb : H[b]? = some (.box 248 [.fn (.func 145) [] []])) :
    ACalls Tryz.prog 147 [.fn (.func g) [] [], .bp b 0] H (fun e H' => e = .ret (.fn (.func 146) [] [.vp [.fn (.func 148) [] [.vp [.fn (.func g) [] []]]]]) ∧ H' = H) := by
  have hok : okFn Tryz.prog 145 = true := by kernel_rfl
  refine acalls_under fun hu _ => acalls_tidy (acalls_of_vc (hn := fun _ => false) (od := fun _ => none) Tryz.func147 rfl (by kernel_rfl) ?_)
  have hbL := fun L => get_app_old hb L
  simp -dsimp [hbL, hok]
  have hz : [AV.fn (.func g) [] []].all AV.frzF = true := by simp [AV.frzF]
  have hk : (H ++ [Blk.box 249 [.fn (.func g) [] []]])[H.length]? = some (.box 249 [.fn (.func g) [] []]) := by simp
  have hbf : bfzL H.length [AV.fn (.func g) [] []] [AV.fn (.func 148) [] [.bp H.length 0]] = [AV.fn (.func 148) [] [.vp [.fn (.func g) [] []]]] := by simp [bfzL, AV.bfz]
  have ct := fun H => two_ok 148 [.vp [.fn (.func g) [] []]] (by simp [AV.frzB]) H
  rw [← hbf] at ct
  refine acallsW_of (acalls_bgive H.length _ _ hk hz (ct _)) ?_
  rintro r H' ⟨rfl, rfl⟩
  have e1 : bfzH H.length [AV.fn (.func g) [] []] (H ++ [Blk.box 249 [.fn (.func g) [] []]]) = H ++ [.gone] := by
    rw [bfzH, List.map_append, List.map_congr_left (g := id) (fun b hb => blk_bfz_under (Nat.le_refl _) _ b (List.all_eq_true.1 hu b hb)), List.map_id]
    simp
  rw [e1, hbf]
  simp -dsimp
  exact tidy_same (by simp [AV.under, underL]) ⟨rfl, rfl⟩
end Go.Proofs
namespace Go.Proofs
open Go.Mu
def intMW (l : List (Int × AV)) : List (Value × AV) := l.map fun x => (.int .i64 x.1, x.2)
theorem mset_consW (n m : Int) (x v : AV) (rest : List (Value × AV)) : mset (.int .i64) (.int .i64 n) x ((.int .i64 m, v) :: rest) = if n = m then some ((.int .i64 n, x) :: rest) else (mset (.int .i64) (.int .i64 n) x rest).map ((.int .i64 m, v) :: ·) := by
  rw [mset]
  have : Instr.sameNow (.int .i64) (.int .i64 n) (.int .i64 m) = some (decide (n = m)) := by
    simp [Instr.sameNow, Instr.sameBits]; rfl
  rw [this]
  by_cases h : n = m
  · simp [h]
  · simp [h]
theorem mfind_consW (n m : Int) (v : AV) (rest : List (Value × AV)) : mfind (.int .i64) (.int .i64 n) ((.int .i64 m, v) :: rest) = if n = m then some (some v) else mfind (.int .i64) (.int .i64 n) rest := by
  rw [mfind]
  have : Instr.sameNow (.int .i64) (.int .i64 n) (.int .i64 m) = some (decide (n = m)) := by
    simp [Instr.sameNow, Instr.sameBits]; rfl
  rw [this]
  by_cases h : n = m
  · simp [h]
  · simp [h]
theorem mset_new (n : Int) (v : AV) : ∀ l : List (Int × AV), n ∉ l.map Prod.fst → mset (.int .i64) (.int .i64 n) v (intMW l) = some (intMW (l ++ [(n, v)]))
  | [], _ => rfl
  | (m, x) :: l, h => by
    simp only [List.map_cons, List.mem_cons, not_or] at h
    show mset (.int .i64) (.int .i64 n) v ((.int .i64 m, x) :: intMW l) = _
    rw [mset_consW, if_neg h.1, mset_new n v l h.2]; rfl
theorem mfind_in (n : Int) (v : AV) : ∀ l : List (Int × AV), (l.map Prod.fst).Nodup → (n, v) ∈ l → mfind (.int .i64) (.int .i64 n) (intMW l) = some (some v)
  | [], _, h => by cases h
  | (m, x) :: l, hn, h => by
    simp only [List.map_cons, List.nodup_cons] at hn
    show mfind (.int .i64) (.int .i64 n) ((.int .i64 m, x) :: intMW l) = _
    rw [mfind_consW]
    rcases List.mem_cons.1 h with h | h
    · cases h; rw [if_pos rfl]
    · have : n ≠ m := fun e => hn.1 (List.mem_map.2 ⟨(n, v), h, e⟩)
      rw [if_neg this]
      exact mfind_in n v l hn.2 h
abbrev twoFnV (g : FuncId) : AV := .fn (.func 146) [] [.vp [.fn (.func g) [] []]]
abbrev isFnV (g : FuncId) : AV := .fn (.func 146) [] [.vp [.fn (.func 148) [] [.vp [.fn (.func g) [] []]]]]
def kvO (i : Nat) : Int × AV := if i = 1 then (4, .fn (.func 149) [] []) else if i = 2 then (5, .fn (.func 150) [] []) else if i = 5 then (6, twoFnV 151) else if i = 8 then (7, twoFnV 152) else if i = 11 then (8, twoFnV 153) else if i = 14 then (9, twoFnV 154) else if i = 17 then (10, twoFnV 155) else if i = 20 then (11, twoFnV 156) else if i = 23 then (12, twoFnV 157) else if i = 26 then (13, twoFnV 158) else if i = 29 then (14, twoFnV 159) else if i = 32 then (15, twoFnV 160) else if i = 35 then (16, twoFnV 162) else if i = 38 then (17, isFnV 163) else if i = 41 then (18, isFnV 164) else if i = 44 then (19, isFnV 165) else if i = 47 then (20, isFnV 166) else (21, .fn (.func 167) [] [])
def evTab : List (Int × AV) := [(4, .fn (.func 149) [] []), (5, .fn (.func 150) [] []), (6, twoFnV 151), (7, twoFnV 152), (8, twoFnV 153), (9, twoFnV 154), (10, twoFnV 155), (11, twoFnV 156), (12, twoFnV 157), (13, twoFnV 158), (14, twoFnV 159), (15, twoFnV 160), (16, twoFnV 162), (17, isFnV 163), (18, isFnV 164), (19, isFnV 165), (20, isFnV 166), (21, .fn (.func 167) [] [])]
structure EvI (H N : List Blk) (S : List Nat) (f : Fr) (M : List Blk) : Prop where
  fr : f 1 = .bp H.length 0 ∧ f 2 = .fn (.func 147) [] [.bp H.length 0] ∧ f 4 = .hm (H.length + 1) ∧ f 5 = .fn (.func 145) [] [] ∧ f 6 = twoFnV 151 ∧ f 7 = .fn (.func 145) [] [] ∧ f 8 = twoFnV 152 ∧ f 9 = .fn (.func 145) [] [] ∧ f 10 = twoFnV 153 ∧ f 11 = .fn (.func 145) [] [] ∧ f 12 = twoFnV 154 ∧ f 13 = .fn (.func 145) [] [] ∧ f 14 = twoFnV 155 ∧ f 15 = .fn (.func 145) [] [] ∧ f 16 = twoFnV 156 ∧ f 17 = .fn (.func 145) [] [] ∧ f 18 = twoFnV 157 ∧ f 19 = .fn (.func 145) [] [] ∧ f 20 = twoFnV 158 ∧ f 21 = .fn (.func 145) [] [] ∧ f 22 = twoFnV 159 ∧ f 23 = .fn (.func 145) [] [] ∧ f 24 = twoFnV 160 ∧ f 25 = .fn (.func 145) [] [] ∧ f 26 = twoFnV 162 ∧ f 27 = .fn (.func 147) [] [.bp H.length 0] ∧ f 28 = isFnV 163 ∧ f 29 = .fn (.func 147) [] [.bp H.length 0] ∧ f 30 = isFnV 164 ∧ f 31 = .fn (.func 147) [] [.bp H.length 0] ∧ f 32 = isFnV 165 ∧ f 33 = .fn (.func 147) [] [.bp H.length 0] ∧ f 34 = isFnV 166
  mem : ∃ l, M = N ++ [.map (intMW l)] ∧ (∀ x, x ∈ l ↔ ∃ i ∈ S, kvO i = x) ∧ (l.map Prod.fst).Nodup
def bagO : List Nat := [1, 2, 5, 8, 11, 14, 17, 20, 23, 26, 29, 32, 35, 38, 41, 44, 47, 48]
theorem kv_key : ∀ i ∈ bagO, ∀ j ∈ bagO, (kvO i).1 = (kvO j).1 → i = j := by decide
theorem evals_ok (H : List Blk) : ACalls Tryz.prog 119 [] H (fun e M => e = .ret (.hm (H.length + 1)) ∧ ∃ l, M = H ++ [.box 248 [.fn (.func 145) [] []], .map (intMW l)] ∧ (l.map Prod.fst).Nodup ∧ ∀ x ∈ evTab, x ∈ l) := by
  refine acalls_of_awp Tryz.func119 rfl (by kernel_rfl) ?_
  have hok1 : okFn Tryz.prog 145 = true := by kernel_rfl
  have hok2 : okFn Tryz.prog 147 = true := by kernel_rfl
  obtain ⟨b1, hb1⟩ : ∃ b1, b1 = Blk.box 248 [.fn (.func 145) [] []] := ⟨_, rfl⟩
  refine awp_cut (fun _ => false) (fun _ => none) (fun f M => M = H ++ [] ∧ True) (by kernel_rfl) ?_ ?_
  · simp -dsimp
  rintro g _ ⟨rfl, _⟩
  refine awp_cut (fun _ => false) (fun _ => none) (fun f M' => M' = H ++ [b1] ∧ f 1 = .bp H.length 0) (by kernel_rfl) ?_ ?_
  · rw [hb1]
    simp -dsimp
  clear g
  rintro g _ ⟨rfl, g1⟩
  refine awp_cut (fun _ => false) (fun _ => none) (fun f M' => M' = H ++ [b1] ∧ f 1 = .bp H.length 0 ∧ f 2 = .fn (.func 147) [] [.bp H.length 0]) (by kernel_rfl) ?_ ?_
  · simp -dsimp [g1]
  clear g g1
  rintro g _ ⟨rfl, g1, g2⟩
  refine awp_cutA (fun f M' => f 0 = .hm (H.length + 1) ∧ ∃ l, M' = H ++ [b1, .map (intMW l)] ∧ (l.map Prod.fst).Nodup ∧ ∀ x ∈ evTab, x ∈ l) ?_ ?_
  rotate_left
  · clear g g1 g2
    rintro g _ ⟨g0, l, rfl, hl, hx⟩
    refine awp_all (fun _ => false) (fun _ => none) (by kernel_rfl) ?_
    simp -dsimp [g0]
    exact ⟨l, ⟨by rw [hb1], rfl⟩, hl, fun a b h => hx (a, b) h⟩
  refine awp_region_bag (fun _ => false) [3, 4, 6, 7, 9, 10, 12, 13, 15, 16, 18, 19, 21, 22, 24, 25, 27, 28, 30, 31, 33, 34, 36, 37, 39, 40, 42, 43, 45, 46] 0 [3, 4, 6, 7, 9, 10, 12, 13, 15, 16, 18, 19, 21, 22, 24, 25, 27, 28, 30, 31, 33, 34, 36, 37, 39, 40, 42, 43, 45, 46] [1, 2, 5, 8, 11, 14, 17, 20, 23, 26, 29, 32, 35, 38, 41, 44, 47, 48] [3, 4, 6, 7, 9, 10, 12, 13, 15, 16, 18, 19, 21, 22, 24, 25, 27, 28, 30, 31, 33, 34, 36, 37, 39, 40, 42, 43, 45, 46] [(49, []), (50, [])] (by kernel_rfl) ?_
  obtain ⟨N, hN⟩ : ∃ N, N = H ++ [b1] := ⟨_, rfl⟩
  have hb0 : N[H.length]? = some (.box 248 [.fn (.func 145) [] []]) := by rw [hN, hb1]; simp
  have hbL : ∀ X, (N ++ [X])[H.length]? = some (.box 248 [.fn (.func 145) [] []]) := fun X => get_app_old hb0 _
  have hNl : N.length = H.length + 1 := by rw [hN]; simp
  have hNa : ∀ X, N ++ [X] = H ++ [b1, X] := fun X => by rw [hN]; simp
  rw [← hN]
  clear hN
  have ct := fun g M => two_ok g [] rfl M
  have ci := fun g => is_ok g H.length N hb0
  have ciL := fun g X => is_ok g H.length (N ++ [X]) (hbL X)
  simp -dsimp [g1, g2, hb0, hok1, hok2]
  repeat (refine callDW_intro (ct _ _) ?_; simp -dsimp [g1, g2, hb0, hok1, hok2])
  repeat (refine callDW_intro (ci _) ?_; simp -dsimp [g1, g2, hb0, hok1, hok2])
  refine ⟨?_, EvI H N, ⟨?_, [], rfl, by simp, by simp⟩, bagW_mk ?_ ?_ ?_⟩
  · simp -dsimp [g1, g2, hbL, hok1, hok2]
    repeat' first
      | with_reducible refine And.intro ?_ ?_
      | (refine callDW_intro (ct _ _) ?_; simp -dsimp [g1, g2, hbL, hok1, hok2])
      | (refine callDW_intro (ciL _ _) ?_; simp -dsimp [g1, g2, hbL, hok1, hok2])
  · simp -dsimp [g1, g2, hNl]
  · intro S i f M hi hiS hS hI
    obtain ⟨hf, l, rfl, hl, hnd⟩ := hI
    have hfresh : ∀ j, (kvO j) = kvO i → i ∈ bagO → (kvO i).1 ∉ l.map Prod.fst := by
      intro j _ hi h
      obtain ⟨x, hx, hxe⟩ := List.mem_map.1 h
      obtain ⟨k, hk, rfl⟩ := (hl x).1 hx
      exact hiS (kv_key k (hS hk) i hi hxe ▸ hk)
    have hget : (N ++ [Blk.map (intMW l)])[H.length + 1]? = some (.map (intMW l)) := by rw [← hNl]; simp
    have hset : ∀ X, (N ++ [Blk.map (intMW l)]).set (H.length + 1) X = N ++ [X] := by intro X; rw [← hNl]; simp
    have hms : ∀ n v, kvO i = (n, v) → mset (.int .i64) (.int .i64 n) v (intMW l) = some (intMW (l ++ [(n, v)])) := by
      intro n v e
      have := hfresh i rfl hi
      rw [e] at this
      exact mset_new n v l this
    have hfin : ∀ n v, kvO i = (n, v) → EvI H N (i :: S) f (N ++ [.map (intMW (l ++ [(n, v)]))]) := by
      intro n v e
      have := hfresh i rfl hi
      rw [e] at this
      refine ⟨hf, _, rfl, fun x => ?_, ?_⟩
      · rw [List.mem_append, hl x, List.mem_singleton]
        constructor
        · rintro (⟨j, hj, hx⟩ | rfl)
          · exact ⟨j, List.mem_cons_of_mem _ hj, hx⟩
          · exact ⟨i, List.mem_cons_self, e⟩
        · rintro ⟨j, hj, hx⟩
          rcases List.mem_cons.1 hj with rfl | hj
          · right; rw [← hx, e]
          · left; exact ⟨j, hj, hx⟩
      · rw [List.map_append, List.nodup_append]
        refine ⟨hnd, by simp, ?_⟩
        intro a ha b hb hab
        simp only [List.map_cons, List.map_nil, List.mem_singleton] at hb
        subst hb; subst hab
        exact this ha
    simp only [bagO, List.mem_cons, List.not_mem_nil, or_false] at hi
    rcases hi with rfl | rfl | rfl | rfl | rfl | rfl | rfl | rfl | rfl | rfl | rfl | rfl | rfl | rfl | rfl | rfl | rfl | rfl
    all_goals
      have hms := hms _ _ rfl
      have hfin := hfin _ _ rfl
      simp -dsimp [hf, hget, hset, hms]
      exact hfin
  · intro S f M hS hI
    obtain ⟨hf, l, rfl, hl, hnd⟩ := hI
    simp -dsimp [hf, hbL, hok1, hok2]
    repeat' first
      | with_reducible refine And.intro ?_ ?_
      | (refine callDW_intro (ct _ _) ?_; simp -dsimp [hf, hbL, hok1, hok2])
      | (refine callDW_intro (ciL _ _) ?_; simp -dsimp [hf, hbL, hok1, hok2])
  · intro S f M hS hI
    obtain ⟨hf, l, rfl, hl, hnd⟩ := hI
    simp -dsimp [hf]
    refine ⟨l, hNa _, hnd, fun a b h => ?_⟩
    have h2 : ∀ x ∈ evTab, ∃ i ∈ bagO, kvO i = x := by
      intro x hx
      simp only [evTab, List.mem_cons, List.not_mem_nil, or_false] at hx
      rcases hx with rfl | rfl | rfl | rfl | rfl | rfl | rfl | rfl | rfl | rfl | rfl | rfl | rfl | rfl | rfl | rfl | rfl | rfl
      · exact ⟨1, by decide, rfl⟩
      · exact ⟨2, by decide, rfl⟩
      · exact ⟨5, by decide, rfl⟩
      · exact ⟨8, by decide, rfl⟩
      · exact ⟨11, by decide, rfl⟩
      · exact ⟨14, by decide, rfl⟩
      · exact ⟨17, by decide, rfl⟩
      · exact ⟨20, by decide, rfl⟩
      · exact ⟨23, by decide, rfl⟩
      · exact ⟨26, by decide, rfl⟩
      · exact ⟨29, by decide, rfl⟩
      · exact ⟨32, by decide, rfl⟩
      · exact ⟨35, by decide, rfl⟩
      · exact ⟨38, by decide, rfl⟩
      · exact ⟨41, by decide, rfl⟩
      · exact ⟨44, by decide, rfl⟩
      · exact ⟨47, by decide, rfl⟩
      · exact ⟨48, by decide, rfl⟩
    obtain ⟨i, hi, hx⟩ := h2 _ h
    exact (hl _).2 ⟨i, (hS i).2 hi, hx⟩
end Go.Proofs
namespace Go.Proofs
open Go.Mu
def wArgN (op : Int) : Int := if op = 4 ∨ op = 5 then 1 else if 6 ≤ op ∧ op ≤ 20 then 2 else if op = 21 then 3 else -1
theorem wargs_ok (op : Int) (H : List Blk) : ACalls Tryz.prog 83 [I op] H (fun e H' => e = .ret (I (wArgN op)) ∧ H' = H) := by
  refine acalls_tidy (acalls_of_vc (hn := fun _ => false) (od := fun _ => none) Tryz.func83 rfl (by kernel_rfl) ?_)
  simp -dsimp
  repeat' first
    | exact tidy_now rfl ⟨congrArg (fun n : Int => AE.ret (I n)) (by unfold wArgN; first | (subst_vars; rfl) | ((repeat' split) <;> omega)), rfl⟩
    | (refine guardVW_introFE (fun h => ?_) (fun h h1 h2 => ?_) <;> simp -dsimp [*])
    | (refine guardVW_introTD (fun h => ?_) (fun h => ?_) <;> simp -dsimp [*])
    | (refine condVW_introE (fun h => ?_) (fun h h1 h2 => ?_) <;> simp -dsimp [*])
    | (refine condVW_introD (fun h => ?_) (fun h => ?_) <;> simp -dsimp [*])
theorem ev_row (op : Int) (l : List Int) (h : wArgN op = l.length) : ∃ g cs, (op, AV.fn (.func g) [] cs) ∈ evTab ∧ okFn Tryz.prog g = true ∧ ∀ H, ACalls Tryz.prog g (.vs 1 (l.map fun x => [U x]) :: cs) H (fun e H' => e = .ret (U (evalE op l)) ∧ H' = H) := by
  match l, h with
  | [], h => exfalso; simp only [wArgN] at h; split at h <;> (try split at h) <;> (try split at h) <;> simp at h
  | [a], h =>
    have : op = 4 ∨ op = 5 := by
      simp only [wArgN] at h
      split at h
      · assumption
      · split at h <;> (try split at h) <;> simp at h
    rcases this with rfl | rfl
    · exact ⟨149, [], by simp [evTab], by kernel_rfl, fun H => ev3_ok a [] H⟩
    · exact ⟨150, [], by simp [evTab], by kernel_rfl, fun H => ev4_ok a [] H⟩
  | [a, b], h =>
    have : 6 ≤ op ∧ op ≤ 20 := by
      simp only [wArgN] at h
      split at h
      · simp at h
      · split at h
        · assumption
        · split at h <;> simp at h
    have : op = 6 ∨ op = 7 ∨ op = 8 ∨ op = 9 ∨ op = 10 ∨ op = 11 ∨ op = 12 ∨ op = 13 ∨ op = 14 ∨ op = 15 ∨ op = 16 ∨ op = 17 ∨ op = 18 ∨ op = 19 ∨ op = 20 := by omega
    have hk1 : okFn Tryz.prog 146 = true := by kernel_rfl
    rcases this with rfl | rfl | rfl | rfl | rfl | rfl | rfl | rfl | rfl | rfl | rfl | rfl | rfl | rfl | rfl
    · exact ⟨146, _, by simp [evTab], hk1, fun H => two1_ok 151 (by kernel_rfl) a b _ [] (ev5_ok a b) H⟩
    · exact ⟨146, _, by simp [evTab], hk1, fun H => two1_ok 152 (by kernel_rfl) a b _ [] (ev6_ok a b) H⟩
    · exact ⟨146, _, by simp [evTab], hk1, fun H => two1_ok 153 (by kernel_rfl) a b _ [] (ev7_ok a b) H⟩
    · exact ⟨146, _, by simp [evTab], hk1, fun H => two1_ok 154 (by kernel_rfl) a b _ [] (ev8_ok a b) H⟩
    · exact ⟨146, _, by simp [evTab], hk1, fun H => two1_ok 155 (by kernel_rfl) a b _ [] (ev9_ok a b) H⟩
    · exact ⟨146, _, by simp [evTab], hk1, fun H => two1_ok 156 (by kernel_rfl) a b _ [] (ev10_ok a b) H⟩
    · exact ⟨146, _, by simp [evTab], hk1, fun H => two1_ok 157 (by kernel_rfl) a b _ [] (ev11_ok a b) H⟩
    · exact ⟨146, _, by simp [evTab], hk1, fun H => two1_ok 158 (by kernel_rfl) a b _ [] (ev12_ok a b) H⟩
    · exact ⟨146, _, by simp [evTab], hk1, fun H => two1_ok 159 (by kernel_rfl) a b _ [] (ev13_ok a b) H⟩
    · exact ⟨146, _, by simp [evTab], hk1, fun H => two1_ok 160 (by kernel_rfl) a b _ [] (ev14_ok a b) H⟩
    · exact ⟨146, _, by simp [evTab], hk1, fun H => two1_ok 162 (by kernel_rfl) a b _ [] (ev15_ok a b) H⟩
    · refine ⟨146, _, by simp [evTab]; rfl, hk1, fun H => two1is_ok a b _ [] _ (fun H => ?_) H⟩
      have := is1_ok 163 (by kernel_rfl) a b _ (ev16_ok a b) H
      simpa [evalE, ev2, bne] using this
    · refine ⟨146, _, by simp [evTab]; rfl, hk1, fun H => two1is_ok a b _ [] _ (fun H => ?_) H⟩
      have := is1_ok 164 (by kernel_rfl) a b _ (ev17_ok a b) H
      simpa [evalE, ev2, bne] using this
    · refine ⟨146, _, by simp [evTab]; rfl, hk1, fun H => two1is_ok a b _ [] _ (fun H => ?_) H⟩
      have := is1_ok 165 (by kernel_rfl) a b _ (ev18_ok a b) H
      simpa [evalE, ev2, bne] using this
    · refine ⟨146, _, by simp [evTab]; rfl, hk1, fun H => two1is_ok a b _ [] _ (fun H => ?_) H⟩
      have := is1_ok 166 (by kernel_rfl) a b _ (ev19_ok a b) H
      simpa [evalE, ev2, bne] using this
  | [a, b, c], h =>
    have : op = 21 := by
      simp only [wArgN] at h
      split at h
      · simp at h
      · split at h
        · simp at h
        · split at h
          · assumption
          · simp at h
    subst this
    exact ⟨167, [], by simp [evTab], by kernel_rfl, fun H => ev20_ok a b c [] H⟩
  | a :: b :: c :: d :: l, h =>
    exfalso
    simp only [wArgN, List.length_cons] at h
    split at h <;> (try split at h) <;> (try split at h) <;> omega
def evalR (op : Int) (l : List Int) : List AV := if wArgN op = l.length then [U (evalE op l), I 0] else [U 0, I 2]
theorem weval_ok (op : Int) (l : List Int) (x : AV) (hx : Gv 1 (l.map fun x => [U x]) x) (H : List Blk) : ACalls Tryz.prog 82 [I op, x] H (fun e H' => e = .ret (.tup (evalR op l)) ∧ H' = H) := by
  refine acalls_tidy (acalls_of_vc (hn := fun _ => false) (od := fun _ => none) Tryz.func82 rfl (by kernel_rfl) ?_)
  have ca := fun H => wargs_ok op H
  by_cases h : wArgN op = l.length
  · have e : evalR op l = [U (evalE op l), I 0] := if_pos h
    rw [e]
    have hne : l ≠ [] := by
      rintro rfl
      simp only [wArgN] at h; split at h <;> (try split at h) <;> (try split at h) <;> simp at h
    rcases hx with ⟨_, h0⟩ | rfl
    · exact absurd (List.map_eq_nil_iff.1 h0) hne
    have hn0 : ¬ ((l.length : Int) < 0) := by omega
    obtain ⟨g, cs, hin, hok, hg⟩ := ev_row op l h
    simp -dsimp
    refine acallsW_det (ca _) ?_
    rw [h]
    simp -dsimp [hn0]
    refine acallsW_of (evals_ok _) ?_
    rintro r M ⟨rfl, m, rfl, hnd, hx⟩
    have hget : (H ++ [Blk.box 248 [.fn (.func 145) [] []], .map (intMW m)])[H.length + 1]? = some (.map (intMW m)) := by rw [List.getElem?_append_right (by omega)]; simp
    have hf := mfind_in op _ m hnd (hx _ hin)
    simp -dsimp [hget, hf, hok]
    refine acallsW_det (hg _) ?_
    simp -dsimp
    exact tidy_same rfl ⟨rfl, rfl⟩
  · have e : evalR op l = [U 0, I 2] := if_neg h
    rw [e]
    rcases hx with ⟨rfl, h0⟩ | rfl
    · have h0 := List.map_eq_nil_iff.1 h0
      subst h0
      have hb : (wArgN op != 0) = true := by rw [bne_iff_ne]; exact h
      simp -dsimp
      refine acallsW_det (ca _) ?_
      simp -dsimp
      refine guardVW_introFD (fun hn => ?_) (fun hn => ?_)
      · simp -dsimp [hn]
        exact tidy_now rfl ⟨rfl, rfl⟩
      · simp -dsimp [hn, hb]
        exact tidy_now rfl ⟨rfl, rfl⟩
    · have hb : (wArgN op != (l.length : Int)) = true := by rw [bne_iff_ne]; exact h
      simp -dsimp
      refine acallsW_det (ca _) ?_
      simp -dsimp
      refine guardVW_introFD (fun hn => ?_) (fun hn => ?_)
      · simp -dsimp [hn]
        exact tidy_now rfl ⟨rfl, rfl⟩
      · simp -dsimp [hn, hb]
        exact tidy_now rfl ⟨rfl, rfl⟩
end Go.Proofs
namespace Go.Proofs
open Go.Mu
def vg (V : List Int) (i : Int) : Int := V.getD i.toNat 0
def insAddr (x : Ins) (stk : Int) (V : List Int) : Int :=
  if 0 ≤ x.a then wU ((if x.stack = true then wU (x.word + stk) else x.word) + wU (8 * vg V x.a)) else if x.stack = true then wU (x.word + stk) else x.word
structure DoR where
  (V b : List Int)
  addr : Int
  seen : Bool
  err : Int
def doM (lay : List Rg) (x : Ins) (stk : Int) (V b : List Int) : DoR :=
  if x.kind = 1 then ⟨V.set x.d.toNat x.word, b, 0, false, 0⟩
  else if x.kind = 2 then ⟨V.set x.d.toNat (vg V x.a), b, 0, false, 0⟩
  else if x.kind = 3 then ⟨V.set x.d.toNat (evalE x.op ([vg V x.a, vg V x.b, vg V x.c].take (wArgN x.op).toNat)), b, 0, false, 0⟩
  else if askE lay (insAddr x stk V) = 0 then
    (if x.kind = 4 then ⟨V.set x.d.toNat (getW b (insAddr x stk V).toNat), b, insAddr x stk V, true, 0⟩
     else ⟨V, putW b (insAddr x stk V).toNat (vg V x.b), insAddr x stk V, true, 0⟩)
  else ⟨V, b, 0, false, 14⟩
theorem doM_V (lay : List Rg) (x : Ins) (stk : Int) (V b : List Int) : (doM lay x stk V b).V.length = V.length := by
  unfold doM
  split
  · simp
  · split
    · simp
    · split
      · simp
      · split
        · split <;> simp
        · rfl
theorem doM_b (lay : List Rg) (x : Ins) (stk : Int) (V b : List Int) : (doM lay x stk V b).b.length = b.length := by
  unfold doM
  split
  · rfl
  · split
    · rfl
    · split
      · rfl
      · split
        · split
          · rfl
          · exact putTo_len _ _ _ _
        · rfl
theorem doM_quiet (lay : List Rg) (x : Ins) (stk : Int) (V b : List Int) (h : (doM lay x stk V b).err ≠ 0) : (doM lay x stk V b).seen = false := by
  unfold doM at *
  split at h
  · exact absurd rfl h
  · rename_i h1
    split at h
    · exact absurd rfl h
    · rename_i h2
      split at h
      · exact absurd rfl h
      · rename_i h3
        split at h
        · split at h <;> exact absurd rfl h
        · rename_i h4
          rw [if_neg h1, if_neg h2, if_neg h3, if_neg h4]
structure Se where
  (jump taken : Bool)
  addr : Int
deriving DecidableEq
@[simp] def Se.cells (s : Se) : List AV := [Bo s.jump, Bo s.taken, U s.addr]
abbrev Se.sl (l : List Se) : AV := .vs 3 (l.map Se.cells)
structure RSt where
  (V b : List Int)
  i : Nat
  seen : List Se
structure Ran where
  rets : List Int
  seen : List Se
  steps : Nat
  err : Int
  b : List Int
@[simp] def Ran.cells (r : Ran) : List AV := [.vs 1 (r.rets.map fun w => [U w]), Se.sl r.seen, I r.steps, I r.err]
def lstep (lay : List Rg) (l : Linear) (stk : Int) (x : Line) (s : RSt) : RSt × Int :=
  if x.kind = 1 then
    (⟨(doM lay x.ins stk s.V s.b).V, (doM lay x.ins stk s.V s.b).b, s.i + 1, if (doM lay x.ins stk s.V s.b).seen = true then s.seen ++ [⟨false, false, (doM lay x.ins stk s.V s.b).addr⟩] else s.seen⟩, (doM lay x.ins stk s.V s.b).err)
  else if x.kind = 4 then (⟨s.V, s.b, if vg s.V x.var = 0 then whr l.code x.label else s.i + 1, s.seen ++ [⟨true, decide (vg s.V x.var = 0), 0⟩]⟩, 0)
  else if x.kind = 3 then (⟨s.V, s.b, whr l.code x.label, s.seen⟩, 0)
  else if x.kind = 5 then (⟨s.V, s.b, l.code.length, s.seen⟩, 0)
  else (⟨s.V, s.b, s.i + 1, s.seen⟩, 0)
def lrun (lay : List Rg) (l : Linear) (stk : Int) (fuel : Nat) : Nat → RSt → Ran
  | n, s => match l.code[s.i]? with
    | none => ⟨l.rets.map (vg s.V), s.seen, fuel - n, 0, s.b⟩
    | some x => match n with
      | 0 => ⟨[], s.seen, fuel, 7, s.b⟩
      | n + 1 => if (lstep lay l stk x s).2 = 0 then lrun lay l stk fuel n (lstep lay l stk x s).1 else ⟨[], (lstep lay l stk x s).1.seen, fuel - n, (lstep lay l stk x s).2, (lstep lay l stk x s).1.b⟩
def argsTo (V : List Int) (ps args : List Int) : Nat → List Int
  | 0 => V
  | i + 1 => (argsTo V ps args i).set (ps.getD i 0).toNat (args.getD i 0)
theorem argsTo_len (V ps args : List Int) : ∀ i, (argsTo V ps args i).length = V.length
  | 0 => rfl
  | i + 1 => by rw [argsTo, List.length_set, argsTo_len V ps args i]
def varN (l : Linear) : Nat := (max l.vars 1).toNat
def runV (l : Linear) (args : List Int) : List Int := argsTo (List.replicate (varN l) 0) l.params args l.params.length
def runM (lay : List Rg) (l : Linear) (args : List Int) (b : List Int) (stk : Int) (fuel : Nat) : Ran := lrun lay l stk fuel fuel ⟨runV l args, b, 0, []⟩
theorem wU_rng (n : Int) : 0 ≤ wU n ∧ wU n < 2^64 := by
  unfold wU
  simp only [IntKind.wrap, IntKind.bits, IntKind.signed]
  have h : (2 : Int) ^ 64 = 18446744073709551616 := by decide
  simp only [Bool.false_and, Bool.false_eq_true, if_false]
  omega
theorem insAddr_rng {x : Ins} {stk : Int} {V : List Int} (hw : 0 ≤ x.word ∧ x.word ≤ 18446744073709551615) : 0 ≤ insAddr x stk V ∧ insAddr x stk V < 2^64 := by
  unfold insAddr
  split
  · exact wU_rng _
  · split
    · exact wU_rng _
    · have h : (2 : Int) ^ 64 = 18446744073709551616 := by decide
      omega
end Go.Proofs
namespace Go.Proofs
open Go.Mu
abbrev rowU (V : List Int) : Blk := .row 29 1 (V.map fun x => [U x])
structure GG (M : List Blk) (k kb kv n : Nat) (lay : List Rg) (G : List Int → List Int → List Blk) : Prop where
  len : ∀ V b, (G V b).length = M.length
  v : ∀ V b L, (G V b ++ L)[kv]? = some (rowU V)
  m : ∀ V b L, b.length = 65536 → MemAt (G V b ++ L) k kb lay b
  sv : ∀ V V' b L, (G V b ++ L).set kv (rowU V') = G V' b ++ L
  sb : ∀ V b b' L, (G V b ++ L).set kb (byB b') = G V b' ++ L
  get : ∀ V b L i, i ≠ kv → i ≠ kb → i < M.length → (G V b ++ L)[i]? = M[i]?
  und : ∀ V b, underH M.length M = true → underH (G V b).length (G V b) = true
theorem plain_under (n : Nat) (t : TypeId) (sz : Nat) (es : List (List AV)) (h : es.flatten.all AV.frzB = true) : (Blk.row t sz es).under n = true := by
  rw [List.all_eq_true] at h
  simp only [Blk.under, List.all_eq_true]
  intro e he
  exact underL_frzB _ e (fun c hc => h c (List.mem_flatten.2 ⟨e, he, hc⟩))
theorem u_frzB (l : List Int) : (l.map fun x => [U x]).flatten.all AV.frzB = true := by
  induction l with
  | nil => rfl
  | cons x l ih => rw [List.map_cons, List.flatten_cons, List.all_append, ih]; simp [AV.frzB]
theorem by_under (n : Nat) (b : List Int) : (byB b).under n = true := by
  simp only [Blk.under]
  exact underL_frzB _ _ (fun c hc => by obtain ⟨x, _, rfl⟩ := List.mem_map.1 hc; rfl)
theorem GG.mk' {M : List Blk} {k kb kv n : Nat} {lay : List Rg} {V b : List Int} (hm : MemAt M k kb lay b) (hv : M[kv]? = some (rowU V)) : GG M k kb kv n lay (fun V b => (M.set kv (rowU V)).set kb (byB b)) ∧ M = (M.set kv (rowU V)).set kb (byB b) := by
  obtain ⟨m1, m2, m3⟩ := hm
  have l1 := lt_of_get m1
  have l2 := lt_of_get m2
  have l3 := lt_of_get hv
  have n1 : k ≠ kb := fun e => by subst e; rw [m1] at m2; simp at m2
  have n2 : kv ≠ kb := fun e => by subst e; rw [m2] at hv; simp at hv
  have n3 : kv ≠ k := fun e => by subst e; rw [m1] at hv; simp at hv
  have old : ∀ {A L : List Blk} {i : Nat}, i < A.length → (A ++ L)[i]? = A[i]? := fun h => List.getElem?_append_left h
  have gl : ∀ V b, ((M.set kv (rowU V)).set kb (byB b)).length = M.length := fun V b => by simp
  refine ⟨⟨gl, fun V b L => ?_, fun V b L hb => ⟨?_, ?_, hb⟩, fun V V' b L => ?_, fun V b b' L => ?_, fun V b L i h1 h2 h3 => ?_, fun V b hu => ?_⟩, ?_⟩
  · rw [old (by rw [gl]; exact l3), List.getElem?_set_ne (fun e => n2 e.symm), List.getElem?_set_self l3]
  · rw [old (by rw [gl]; exact l1), List.getElem?_set_ne (fun e => n1 e.symm), List.getElem?_set_ne n3, m1]
  · rw [old (by rw [gl]; exact l2), List.getElem?_set_self (by simpa using l2)]
  · rw [List.set_append_left _ _ (by rw [gl]; exact l3), List.set_comm _ _ n2.symm, List.set_set]
  · rw [List.set_append_left _ _ (by rw [gl]; exact l2), List.set_set]
  · rw [old (by rw [gl]; exact h3), List.getElem?_set_ne (fun e => h2 e.symm), List.getElem?_set_ne (fun e => h1 e.symm)]
  · rw [gl]
    exact underH_set (underH_set hu (plain_under _ _ _ _ (u_frzB V))) (by_under _ b)
  · rw [setSelf hv, setSelf m2]
theorem vg_at {V : List Int} {i : Int} (h0 : 0 ≤ i) (h : i < V.length) : V[i.toNat]? = some (vg V i) := getD_at (by omega)
theorem arity_n (op : Int) (h : arityI op = 1 ∨ arityI op = 2 ∨ arityI op = 3) : wArgN op = arityI op := by
  unfold arityI wArgN at *
  split
  · rfl
  · split
    · rfl
    · split
      · rfl
      · rename_i a b c
        rw [if_neg a, if_neg b, if_neg c] at h
        simp at h
inductive InsK (vars : Int) (x : Ins) : Prop
  | word (h : x.kind = 1) (d : 0 ≤ x.d ∧ x.d < vars) (s : x.stack = false)
  | move (h : x.kind = 2) (d : 0 ≤ x.d ∧ x.d < vars) (a : 0 ≤ x.a ∧ x.a < vars) (s : x.stack = false)
  | op (h : x.kind = 3) (d : 0 ≤ x.d ∧ x.d < vars) (a : 0 ≤ x.a ∧ x.a < vars) (b : 0 ≤ x.b ∧ x.b < vars) (c : 0 ≤ x.c ∧ x.c < vars) (r : wArgN x.op = 1 ∨ wArgN x.op = 2 ∨ wArgN x.op = 3) (s : x.stack = false)
  | load (h : x.kind = 4) (d : 0 ≤ x.d ∧ x.d < vars) (a : x.a = -1 ∨ 0 ≤ x.a ∧ x.a < vars)
  | store (h : x.kind = 5) (a : x.a = -1 ∨ 0 ≤ x.a ∧ x.a < vars) (b : 0 ≤ x.b ∧ x.b < vars)
theorem insK {vars : Int} {x : Ins} (h : insOk vars x = true) : InsK vars x := by
  unfold insOk at h
  simp only [Bool.or_eq_true, Bool.and_eq_true, beq_iff_eq, isVr_iff, Bool.not_eq_true'] at h
  rcases h with (((h | h) | h) | h) | h
  · exact .word h.1.1.1.1.1.1 h.1.1.1.1.1.2 h.2
  · exact .move h.1.1.1.1.1.1.1 h.1.1.1.1.1.1.2 h.1.1.1.1.1.2 h.2
  · obtain ⟨⟨⟨⟨⟨h1, h2⟩, h3⟩, h4⟩, h5⟩, h6⟩ := h
    rcases h6 with (h6 | h6) | h6
    · exact .op h1 h2 h3 (by omega) (by omega) (by rw [arity_n _ (by omega)]; omega) h5
    · exact .op h1 h2 h3 h6.1.2 (by omega) (by rw [arity_n _ (by omega)]; omega) h5
    · exact .op h1 h2 h3 h6.1.2 h6.2 (by rw [arity_n _ (by omega)]; omega) h5
  · exact .load h.1.1.1.1.1 h.1.1.1.1.2 h.1.1.1.2
  · exact .store h.1.1.1.1.1 h.1.1.1.2 h.1.1.2
theorem ldo_ok (x : Ins) (vars : Int) (hx : insOk vars x = true) (hw : 0 ≤ x.word ∧ x.word ≤ 18446744073709551615) (V b : List Int) (n : Nat) (hV : V.length = n) (hn : vars ≤ n) (h1 : 1 ≤ n) (stk : Int) {M : List Blk} {k kb kv : Nat} {lay : List Rg}
    (hl : lay.length ≤ 16) (ho : ∀ r ∈ lay, r.Ok) (hm : MemAt M k kb lay b) (hv : M[kv]? = some (rowU V)) :
    ACalls Tryz.prog 47 [.agg x.cells, .hs kv 0 n n, .bp k 0, U stk] M (fun e M' => e = .ret (.tup [U (doM lay x stk V b).addr, Bo (doM lay x stk V b).seen, I (doM lay x stk V b).err]) ∧ M' = (M.set kv (rowU (doM lay x stk V b).V)).set kb (byB (doM lay x stk V b).b)) := by
  refine acalls_tidy (acalls_of_vc (hn := fun _ => false) (od := fun _ => none) Tryz.func47 rfl (by kernel_rfl) ?_)
  obtain ⟨gg, g0⟩ := GG.mk' (n := n) hm hv
  have hb := hm.len
  obtain ⟨G, hG⟩ : ∃ G : List Int → List Int → List Blk, G = fun V b => (M.set kv (rowU V)).set kb (byB b) := ⟨_, rfl⟩
  rw [← hG] at gg
  have hGa : ∀ V b, (M.set kv (rowU V)).set kb (byB b) = G V b := fun V b => by rw [hG]
  rw [hGa] at g0 ⊢
  have fin : ∀ (R : AE → List Blk → Prop) (r : AV) (V' b' : List Int) (L : List Blk), r.under M.length = true → R (.ret r) (G V' b') → Tidy M R (.ret r) (G V' b' ++ L) := fun R r V' b' L hr h => tidy_to (by rw [gg.len]; exact Nat.le_refl _) (fun hu => gg.und V' b' hu) (by rw [gg.len]; exact hr) h
  clear hGa hG
  have ik := insK hx
  have hrng := insAddr_rng (x := x) (stk := stk) (V := V) hw
  have hR : doM lay x stk V b = doM lay x stk V b := rfl
  obtain ⟨R, hRe⟩ : ∃ R, R = doM lay x stk V b := ⟨_, rfl⟩
  rw [← hRe]
  clear hR
  unfold doM at hRe
  obtain ⟨X, hX⟩ : ∃ X, X = Blk.box 65 x.cells := ⟨_, rfl⟩
  have bx : ∀ V b L, (G V b ++ X :: L)[M.length]? = some (.box 65 x.cells) := fun V b L => by rw [List.getElem?_append_right (by rw [gg.len]; exact Nat.le_refl _), gg.len, hX]; simp
  have bv : ∀ V b L, (G V b ++ X :: L)[kv]? = some (rowU V) := fun V b L => gg.v V b _
  have hst : ∀ (V b : List Int) (L : List Blk) (i : Nat) (w : Int), V.length = n → i < n → astore (G V b ++ X :: L) (.rp kv n i 0) [U w] = some (G (V.set i w) b ++ X :: L) := fun V b L i w hV hi => by
    have hh := getD_at (b := V) (i := i) (by omega)
    rw [astore_one (c := U (V.getD i 0)) (bv V b L) (by simpa using hV) (by rw [List.getElem?_map, hh]; rfl)]
    congr 1
    have := gg.sv V (V.set i w) b (X :: L)
    rw [← this]
    congr 2
    simp [rowU, List.map_set]
  have hMX : M ++ [X] = G V b ++ [X] := by rw [← g0]
  have hVl : (V.map fun x => [U x]).length = n := by simpa using hV
  have hgv : ∀ i : Int, 0 ≤ i → i < n → V[i.toNat]? = some (vg V i) := fun i h0 h => vg_at h0 (by omega)
  obtain ⟨kind, op, d, a, bb, c, word, stack⟩ := x
  simp only [Ins.cells] at hX bx
  cases ik with
  | word h hd hs =>
    change kind = 1 at h
    change 0 ≤ d ∧ d < vars at hd
    change stack = false at hs
    subst h hs
    rw [if_pos rfl] at hRe
    subst hRe
    obtain ⟨j, rfl⟩ : ∃ j : Nat, d = j := ⟨d.toNat, by omega⟩
    have hj : j < n := by omega
    have st := hst V b [] j word hV hj
    simp -dsimp
    rw [← hX, hMX]
    simp -dsimp [bx, bv, hVl, hV]
    refine andVW_intro hj ?_
    simp -dsimp [bx, bv, hVl, hV, st]
    exact fin _ _ (V.set j word) b [X] rfl ⟨rfl, rfl⟩
  | move h hd ha hs =>
    change kind = 2 at h
    change 0 ≤ d ∧ d < vars at hd
    change 0 ≤ a ∧ a < vars at ha
    change stack = false at hs
    subst h hs
    rw [if_neg (show ¬ (2 : Int) = 1 by decide), if_pos rfl] at hRe
    subst hRe
    obtain ⟨j, rfl⟩ : ∃ j : Nat, d = j := ⟨d.toNat, by omega⟩
    obtain ⟨p, rfl⟩ : ∃ j : Nat, a = j := ⟨a.toNat, by omega⟩
    have hj : j < n := by omega
    have hp : p < n := by omega
    have gp : V[p]? = some (vg V p) := hgv p (by omega) (by omega)
    have st := hst V b [] j (vg V p) hV hj
    simp -dsimp
    rw [← hX, hMX]
    simp -dsimp [bx, bv, hVl, hV]
    refine andVW_intro hp ?_
    simp -dsimp [bx, bv, hVl, hV, gp]
    refine andVW_intro hj ?_
    simp -dsimp [bx, bv, hVl, hV, gp, st]
    exact fin _ _ (V.set j (vg V p)) b [X] rfl ⟨rfl, rfl⟩
  | op h hd ha hb' hc hr hs =>
    change kind = 3 at h
    change 0 ≤ d ∧ d < vars at hd
    change 0 ≤ a ∧ a < vars at ha
    change 0 ≤ bb ∧ bb < vars at hb'
    change 0 ≤ c ∧ c < vars at hc
    change stack = false at hs
    change wArgN op = 1 ∨ wArgN op = 2 ∨ wArgN op = 3 at hr
    subst h hs
    rw [if_neg (show ¬ (3 : Int) = 1 by decide), if_neg (show ¬ (3 : Int) = 2 by decide), if_pos rfl] at hRe
    obtain ⟨j, rfl⟩ : ∃ j : Nat, d = j := ⟨d.toNat, by omega⟩
    obtain ⟨p, rfl⟩ : ∃ j : Nat, a = j := ⟨a.toNat, by omega⟩
    obtain ⟨q, rfl⟩ : ∃ j : Nat, bb = j := ⟨bb.toNat, by omega⟩
    obtain ⟨r, rfl⟩ : ∃ j : Nat, c = j := ⟨c.toNat, by omega⟩
    have hj : j < n := by omega
    have hp : p < n := by omega
    have hq : q < n := by omega
    have hr' : r < n := by omega
    have gp : V[p]? = some (vg V p) := hgv p (by omega) (by omega)
    have gq : V[q]? = some (vg V q) := hgv q (by omega) (by omega)
    have gr : V[r]? = some (vg V r) := hgv r (by omega) (by omega)
    have ca := fun H => wargs_ok op H
    have ce := fun l x hx H => weval_ok op l x hx H
    have ev : ∀ l : List Int, wArgN op = l.length → evalR op l = [U (evalE op l), I 0] := fun l h => if_pos h
    have go : ∀ w, R = ⟨V.set j w, b, 0, false, 0⟩ → R.addr = 0 ∧ R.seen = false ∧ R.err = 0 ∧ R.V = V.set j w ∧ R.b = b := fun w h => by subst h; exact ⟨rfl, rfl, rfl, rfl, rfl⟩
    obtain ⟨va, hva⟩ : ∃ v, v = vg V p := ⟨_, rfl⟩
    obtain ⟨vb, hvb⟩ : ∃ v, v = vg V q := ⟨_, rfl⟩
    obtain ⟨vc, hvc⟩ : ∃ v, v = vg V r := ⟨_, rfl⟩
    rw [← hva] at gp
    rw [← hvb] at gq
    rw [← hvc] at gr
    have hRe : R = ⟨V.set j (evalE op ([va, vb, vc].take (wArgN op).toNat)), b, 0, false, 0⟩ := by rw [hRe, hva, hvb, hvc]; rfl
    clear hva hvb hvc
    obtain ⟨e1, e2, e3, e4, e5⟩ := go _ hRe
    have st := fun w => hst V b [] j w hV hj
    rw [e1, e2, e3, e4, e5]
    clear go hRe e1 e2 e3 e4 e5
    simp -dsimp
    rw [← hX, hMX]
    simp -dsimp [bx, bv, hVl, hV]
    refine andVW_intro hp ?_
    simp -dsimp [bx, bv, hVl, hV, gp]
    refine andVW_intro hq ?_
    simp -dsimp [bx, bv, hVl, hV, gp, gq]
    refine andVW_intro hr' ?_
    simp -dsimp [bx, bv, hVl, hV, gp, gq, gr]
    refine callDW_intro (ca _) ?_
    rcases hr with hr | hr | hr
    · have ev := ev [va] (by rw [hr]; rfl)
      have ce := fun H => ce [va] (.vs 1 ([va].map fun x => [U x])) (.inr rfl) H
      rw [ev] at ce
      simp only [List.map_cons, List.map_nil] at ce
      rw [hr]
      simp -dsimp [bx, bv, hVl, hV]
      refine callDW_intro (ce _) ?_
      simp -dsimp [bx, bv, hVl, hV]
      refine andVW_intro hj ?_
      simp -dsimp [bx, bv, hVl, hV, st]
      exact fin _ _ _ b [X] rfl ⟨rfl, rfl⟩
    · have ev := ev [va, vb] (by rw [hr]; rfl)
      have ce := fun H => ce [va, vb] (.vs 1 ([va, vb].map fun x => [U x])) (.inr rfl) H
      rw [ev] at ce
      simp only [List.map_cons, List.map_nil] at ce
      rw [hr]
      simp -dsimp [bx, bv, hVl, hV]
      refine callDW_intro (ce _) ?_
      simp -dsimp [bx, bv, hVl, hV]
      refine andVW_intro hj ?_
      simp -dsimp [bx, bv, hVl, hV, st]
      exact fin _ _ _ b [X] rfl ⟨rfl, rfl⟩
    · have ev := ev [va, vb, vc] (by rw [hr]; rfl)
      have ce := fun H => ce [va, vb, vc] (.vs 1 ([va, vb, vc].map fun x => [U x])) (.inr rfl) H
      rw [ev] at ce
      simp only [List.map_cons, List.map_nil] at ce
      rw [hr]
      simp -dsimp [bx, bv, hVl, hV]
      refine callDW_intro (ce _) ?_
      simp -dsimp [bx, bv, hVl, hV]
      refine andVW_intro hj ?_
      simp -dsimp [bx, bv, hVl, hV, st]
      exact fin _ _ _ b [X] rfl ⟨rfl, rfl⟩
  | load h hd ha =>
    change kind = 4 at h
    change 0 ≤ d ∧ d < vars at hd
    change a = -1 ∨ 0 ≤ a ∧ a < vars at ha
    subst h
    rw [if_neg (show ¬ (4 : Int) = 1 by decide), if_neg (show ¬ (4 : Int) = 2 by decide), if_neg (show ¬ (4 : Int) = 3 by decide)] at hRe
    rw [if_pos (show (4 : Int) = 4 from rfl)] at hRe
    obtain ⟨j, rfl⟩ : ∃ j : Nat, d = j := ⟨d.toNat, by omega⟩
    have hj : j < n := by omega
    have st := fun w => hst V b [] j w hV hj
    have mm := gg.m V b [X] hb
    cases stack
    · rcases ha with rfl | ha
      · have hAD : insAddr ⟨4, op, j, -1, bb, c, word, false⟩ stk V = word := by
          unfold insAddr
          simp
        rw [hAD] at hRe hrng
        clear hAD
        have cl := mload_ok mm hl ho word hrng.1 hrng.2
        by_cases he : askE lay word = 0
        · rw [if_pos he] at hRe
          subst hRe
          rw [if_pos he, he] at cl
          simp -dsimp
          rw [← hX, hMX]
          try simp -dsimp [bx, bv, hVl, hV]
          refine acallsW_det cl ?_
          simp -dsimp [bx, bv, hVl, hV]
          refine andVW_intro hj ?_
          simp -dsimp [bx, bv, hVl, hV, st]
          exact fin _ _ _ b [X] rfl ⟨rfl, rfl⟩
        · rw [if_neg he] at hRe
          subst hRe
          rw [if_neg he] at cl
          have hd1 : (askE lay word == 0) = false := by simp [he]
          have hd2 : (askE lay word != 0) = true := by simp [he]
          obtain ⟨e, hee⟩ : ∃ e, e = askE lay word := ⟨_, rfl⟩
          rw [← hee] at cl hd1 hd2
          simp -dsimp
          rw [← hX, hMX]
          try simp -dsimp [bx, bv, hVl, hV]
          refine acallsW_det cl ?_
          simp -dsimp [bx, bv, hVl, hV, hd1, hd2]
          exact fin _ _ V b [X] rfl ⟨rfl, rfl⟩
      · obtain ⟨p, rfl⟩ : ∃ j : Nat, a = j := ⟨a.toNat, by omega⟩
        have hp : p < n := by omega
        have gp : V[p]? = some (vg V p) := hgv p (by omega) (by omega)
        have dp : decide ((0 : Int) ≤ (p : Int)) = true := decide_eq_true (by omega)
        have hAD : insAddr ⟨4, op, j, p, bb, c, word, false⟩ stk V = IntKind.u64.wrap (word + IntKind.u64.wrap (8 * vg V p)) := by
          unfold insAddr
          simp [wU]
        rw [hAD] at hRe hrng
        obtain ⟨A, hA⟩ : ∃ A, A = IntKind.u64.wrap (word + IntKind.u64.wrap (8 * vg V p)) := ⟨_, rfl⟩
        rw [← hA] at hRe hrng
        have hA := hA.symm
        clear hAD
        have cl := mload_ok mm hl ho A hrng.1 hrng.2
        by_cases he : askE lay A = 0
        · rw [if_pos he] at hRe
          subst hRe
          rw [if_pos he, he] at cl
          simp -dsimp
          rw [← hX, hMX]
          try simp -dsimp [bx, bv, hVl, hV, gp, dp, hA]
          refine andVW_intro hp ?_
          simp -dsimp [bx, bv, hVl, hV, gp, dp, hA]
          refine acallsW_det cl ?_
          simp -dsimp [bx, bv, hVl, hV, gp, dp, hA]
          refine andVW_intro hj ?_
          simp -dsimp [bx, bv, hVl, hV, st]
          exact fin _ _ _ b [X] rfl ⟨rfl, rfl⟩
        · rw [if_neg he] at hRe
          subst hRe
          rw [if_neg he] at cl
          have hd1 : (askE lay A == 0) = false := by simp [he]
          have hd2 : (askE lay A != 0) = true := by simp [he]
          obtain ⟨e, hee⟩ : ∃ e, e = askE lay A := ⟨_, rfl⟩
          rw [← hee] at cl hd1 hd2
          simp -dsimp
          rw [← hX, hMX]
          try simp -dsimp [bx, bv, hVl, hV, gp, dp, hA]
          refine andVW_intro hp ?_
          simp -dsimp [bx, bv, hVl, hV, gp, dp, hA]
          refine acallsW_det cl ?_
          simp -dsimp [bx, bv, hVl, hV, gp, dp, hA, hd1, hd2]
          exact fin _ _ V b [X] rfl ⟨rfl, rfl⟩
    · rcases ha with rfl | ha
      · have hAD : insAddr ⟨4, op, j, -1, bb, c, word, true⟩ stk V = IntKind.u64.wrap (word + stk) := by
          unfold insAddr
          simp
        rw [hAD] at hRe hrng
        obtain ⟨A, hA⟩ : ∃ A, A = IntKind.u64.wrap (word + stk) := ⟨_, rfl⟩
        rw [← hA] at hRe hrng
        have hA := hA.symm
        clear hAD
        have cl := mload_ok mm hl ho A hrng.1 hrng.2
        by_cases he : askE lay A = 0
        · rw [if_pos he] at hRe
          subst hRe
          rw [if_pos he, he] at cl
          simp -dsimp
          rw [← hX, hMX]
          try simp -dsimp [bx, bv, hVl, hV, hA]
          refine acallsW_det cl ?_
          simp -dsimp [bx, bv, hVl, hV, hA]
          refine andVW_intro hj ?_
          simp -dsimp [bx, bv, hVl, hV, st]
          exact fin _ _ _ b [X] rfl ⟨rfl, rfl⟩
        · rw [if_neg he] at hRe
          subst hRe
          rw [if_neg he] at cl
          have hd1 : (askE lay A == 0) = false := by simp [he]
          have hd2 : (askE lay A != 0) = true := by simp [he]
          obtain ⟨e, hee⟩ : ∃ e, e = askE lay A := ⟨_, rfl⟩
          rw [← hee] at cl hd1 hd2
          simp -dsimp
          rw [← hX, hMX]
          try simp -dsimp [bx, bv, hVl, hV, hA]
          refine acallsW_det cl ?_
          simp -dsimp [bx, bv, hVl, hV, hA, hd1, hd2]
          exact fin _ _ V b [X] rfl ⟨rfl, rfl⟩
      · obtain ⟨p, rfl⟩ : ∃ j : Nat, a = j := ⟨a.toNat, by omega⟩
        have hp : p < n := by omega
        have gp : V[p]? = some (vg V p) := hgv p (by omega) (by omega)
        have dp : decide ((0 : Int) ≤ (p : Int)) = true := decide_eq_true (by omega)
        have hAD : insAddr ⟨4, op, j, p, bb, c, word, true⟩ stk V = IntKind.u64.wrap (IntKind.u64.wrap (word + stk) + IntKind.u64.wrap (8 * vg V p)) := by
          unfold insAddr
          simp [wU]
        rw [hAD] at hRe hrng
        obtain ⟨A, hA⟩ : ∃ A, A = IntKind.u64.wrap (IntKind.u64.wrap (word + stk) + IntKind.u64.wrap (8 * vg V p)) := ⟨_, rfl⟩
        rw [← hA] at hRe hrng
        have hA := hA.symm
        clear hAD
        have cl := mload_ok mm hl ho A hrng.1 hrng.2
        by_cases he : askE lay A = 0
        · rw [if_pos he] at hRe
          subst hRe
          rw [if_pos he, he] at cl
          simp -dsimp
          rw [← hX, hMX]
          try simp -dsimp [bx, bv, hVl, hV, gp, dp, hA]
          refine andVW_intro hp ?_
          simp -dsimp [bx, bv, hVl, hV, gp, dp, hA]
          refine acallsW_det cl ?_
          simp -dsimp [bx, bv, hVl, hV, gp, dp, hA]
          refine andVW_intro hj ?_
          simp -dsimp [bx, bv, hVl, hV, st]
          exact fin _ _ _ b [X] rfl ⟨rfl, rfl⟩
        · rw [if_neg he] at hRe
          subst hRe
          rw [if_neg he] at cl
          have hd1 : (askE lay A == 0) = false := by simp [he]
          have hd2 : (askE lay A != 0) = true := by simp [he]
          obtain ⟨e, hee⟩ : ∃ e, e = askE lay A := ⟨_, rfl⟩
          rw [← hee] at cl hd1 hd2
          simp -dsimp
          rw [← hX, hMX]
          try simp -dsimp [bx, bv, hVl, hV, gp, dp, hA]
          refine andVW_intro hp ?_
          simp -dsimp [bx, bv, hVl, hV, gp, dp, hA]
          refine acallsW_det cl ?_
          simp -dsimp [bx, bv, hVl, hV, gp, dp, hA, hd1, hd2]
          exact fin _ _ V b [X] rfl ⟨rfl, rfl⟩
  | store h ha hb' =>
    change kind = 5 at h
    change 0 ≤ bb ∧ bb < vars at hb'
    change a = -1 ∨ 0 ≤ a ∧ a < vars at ha
    subst h
    rw [if_neg (show ¬ (5 : Int) = 1 by decide), if_neg (show ¬ (5 : Int) = 2 by decide), if_neg (show ¬ (5 : Int) = 3 by decide)] at hRe
    rw [if_neg (show ¬ (5 : Int) = 4 by decide)] at hRe
    obtain ⟨q, rfl⟩ : ∃ j : Nat, bb = j := ⟨bb.toNat, by omega⟩
    have hq : q < n := by omega
    have gq : V[q]? = some (vg V q) := hgv q (by omega) (by omega)
    have mm := gg.m V b [X] hb
    cases stack
    · rcases ha with rfl | ha
      · have hAD : insAddr ⟨5, op, d, -1, q, c, word, false⟩ stk V = word := by
          unfold insAddr
          simp
        rw [hAD] at hRe hrng
        clear hAD
        have cl := mstore_ok mm hl ho word hrng.1 hrng.2 (vg V q)
        by_cases he : askE lay word = 0
        · rw [if_pos he] at hRe
          subst hRe
          rw [if_pos he, he] at cl
          simp -dsimp
          rw [← hX, hMX]
          try simp -dsimp [bx, bv, hVl, hV]
          refine andVW_intro hq ?_
          simp -dsimp [bx, bv, hVl, hV, gq]
          refine acallsW_of cl ?_
          rintro e _ ⟨rfl, rfl⟩
          rw [gg.sb]
          simp -dsimp [bx, bv, hVl, hV]
          exact fin _ _ V _ [X] rfl ⟨rfl, rfl⟩
        · rw [if_neg he] at hRe
          subst hRe
          rw [if_neg he] at cl
          have hd1 : (askE lay word == 0) = false := by simp [he]
          have hd2 : (askE lay word != 0) = true := by simp [he]
          obtain ⟨e, hee⟩ : ∃ e, e = askE lay word := ⟨_, rfl⟩
          rw [← hee] at cl hd1 hd2
          simp -dsimp
          rw [← hX, hMX]
          try simp -dsimp [bx, bv, hVl, hV]
          refine andVW_intro hq ?_
          simp -dsimp [bx, bv, hVl, hV, gq]
          refine acallsW_of cl ?_
          rintro e _ ⟨rfl, rfl⟩
          rw [gg.sb]
          simp -dsimp [bx, bv, hVl, hV, hd1, hd2]
          exact fin _ _ V b [X] rfl ⟨rfl, rfl⟩
      · obtain ⟨p, rfl⟩ : ∃ j : Nat, a = j := ⟨a.toNat, by omega⟩
        have hp : p < n := by omega
        have gp : V[p]? = some (vg V p) := hgv p (by omega) (by omega)
        have dp : decide ((0 : Int) ≤ (p : Int)) = true := decide_eq_true (by omega)
        have hAD : insAddr ⟨5, op, d, p, q, c, word, false⟩ stk V = IntKind.u64.wrap (word + IntKind.u64.wrap (8 * vg V p)) := by
          unfold insAddr
          simp [wU]
        rw [hAD] at hRe hrng
        obtain ⟨A, hA⟩ : ∃ A, A = IntKind.u64.wrap (word + IntKind.u64.wrap (8 * vg V p)) := ⟨_, rfl⟩
        rw [← hA] at hRe hrng
        have hA := hA.symm
        clear hAD
        have cl := mstore_ok mm hl ho A hrng.1 hrng.2 (vg V q)
        by_cases he : askE lay A = 0
        · rw [if_pos he] at hRe
          subst hRe
          rw [if_pos he, he] at cl
          simp -dsimp
          rw [← hX, hMX]
          try simp -dsimp [bx, bv, hVl, hV, gp, dp, hA]
          refine andVW_intro hp ?_
          simp -dsimp [bx, bv, hVl, hV, gp, dp, hA]
          refine andVW_intro hq ?_
          simp -dsimp [bx, bv, hVl, hV, gp, dp, hA, gq]
          refine acallsW_of cl ?_
          rintro e _ ⟨rfl, rfl⟩
          rw [gg.sb]
          simp -dsimp [bx, bv, hVl, hV, gp, dp, hA]
          exact fin _ _ V _ [X] rfl ⟨rfl, rfl⟩
        · rw [if_neg he] at hRe
          subst hRe
          rw [if_neg he] at cl
          have hd1 : (askE lay A == 0) = false := by simp [he]
          have hd2 : (askE lay A != 0) = true := by simp [he]
          obtain ⟨e, hee⟩ : ∃ e, e = askE lay A := ⟨_, rfl⟩
          rw [← hee] at cl hd1 hd2
          simp -dsimp
          rw [← hX, hMX]
          try simp -dsimp [bx, bv, hVl, hV, gp, dp, hA]
          refine andVW_intro hp ?_
          simp -dsimp [bx, bv, hVl, hV, gp, dp, hA]
          refine andVW_intro hq ?_
          simp -dsimp [bx, bv, hVl, hV, gp, dp, hA, gq]
          refine acallsW_of cl ?_
          rintro e _ ⟨rfl, rfl⟩
          rw [gg.sb]
          simp -dsimp [bx, bv, hVl, hV, gp, dp, hA, hd1, hd2]
          exact fin _ _ V b [X] rfl ⟨rfl, rfl⟩
    · rcases ha with rfl | ha
      · have hAD : insAddr ⟨5, op, d, -1, q, c, word, true⟩ stk V = IntKind.u64.wrap (word + stk) := by
          unfold insAddr
          simp
        rw [hAD] at hRe hrng
        obtain ⟨A, hA⟩ : ∃ A, A = IntKind.u64.wrap (word + stk) := ⟨_, rfl⟩
        rw [← hA] at hRe hrng
        have hA := hA.symm
        clear hAD
        have cl := mstore_ok mm hl ho A hrng.1 hrng.2 (vg V q)
        by_cases he : askE lay A = 0
        · rw [if_pos he] at hRe
          subst hRe
          rw [if_pos he, he] at cl
          simp -dsimp
          rw [← hX, hMX]
          try simp -dsimp [bx, bv, hVl, hV, hA]
          refine andVW_intro hq ?_
          simp -dsimp [bx, bv, hVl, hV, hA, gq]
          refine acallsW_of cl ?_
          rintro e _ ⟨rfl, rfl⟩
          rw [gg.sb]
          simp -dsimp [bx, bv, hVl, hV, hA]
          exact fin _ _ V _ [X] rfl ⟨rfl, rfl⟩
        · rw [if_neg he] at hRe
          subst hRe
          rw [if_neg he] at cl
          have hd1 : (askE lay A == 0) = false := by simp [he]
          have hd2 : (askE lay A != 0) = true := by simp [he]
          obtain ⟨e, hee⟩ : ∃ e, e = askE lay A := ⟨_, rfl⟩
          rw [← hee] at cl hd1 hd2
          simp -dsimp
          rw [← hX, hMX]
          try simp -dsimp [bx, bv, hVl, hV, hA]
          refine andVW_intro hq ?_
          simp -dsimp [bx, bv, hVl, hV, hA, gq]
          refine acallsW_of cl ?_
          rintro e _ ⟨rfl, rfl⟩
          rw [gg.sb]
          simp -dsimp [bx, bv, hVl, hV, hA, hd1, hd2]
          exact fin _ _ V b [X] rfl ⟨rfl, rfl⟩
      · obtain ⟨p, rfl⟩ : ∃ j : Nat, a = j := ⟨a.toNat, by omega⟩
        have hp : p < n := by omega
        have gp : V[p]? = some (vg V p) := hgv p (by omega) (by omega)
        have dp : decide ((0 : Int) ≤ (p : Int)) = true := decide_eq_true (by omega)
        have hAD : insAddr ⟨5, op, d, p, q, c, word, true⟩ stk V = IntKind.u64.wrap (IntKind.u64.wrap (word + stk) + IntKind.u64.wrap (8 * vg V p)) := by
          unfold insAddr
          simp [wU]
        rw [hAD] at hRe hrng
        obtain ⟨A, hA⟩ : ∃ A, A = IntKind.u64.wrap (IntKind.u64.wrap (word + stk) + IntKind.u64.wrap (8 * vg V p)) := ⟨_, rfl⟩
        rw [← hA] at hRe hrng
        have hA := hA.symm
        clear hAD
        have cl := mstore_ok mm hl ho A hrng.1 hrng.2 (vg V q)
        by_cases he : askE lay A = 0
        · rw [if_pos he] at hRe
          subst hRe
          rw [if_pos he, he] at cl
          simp -dsimp
          rw [← hX, hMX]
          try simp -dsimp [bx, bv, hVl, hV, gp, dp, hA]
          refine andVW_intro hp ?_
          simp -dsimp [bx, bv, hVl, hV, gp, dp, hA]
          refine andVW_intro hq ?_
          simp -dsimp [bx, bv, hVl, hV, gp, dp, hA, gq]
          refine acallsW_of cl ?_
          rintro e _ ⟨rfl, rfl⟩
          rw [gg.sb]
          simp -dsimp [bx, bv, hVl, hV, gp, dp, hA]
          exact fin _ _ V _ [X] rfl ⟨rfl, rfl⟩
        · rw [if_neg he] at hRe
          subst hRe
          rw [if_neg he] at cl
          have hd1 : (askE lay A == 0) = false := by simp [he]
          have hd2 : (askE lay A != 0) = true := by simp [he]
          obtain ⟨e, hee⟩ : ∃ e, e = askE lay A := ⟨_, rfl⟩
          rw [← hee] at cl hd1 hd2
          simp -dsimp
          rw [← hX, hMX]
          try simp -dsimp [bx, bv, hVl, hV, gp, dp, hA]
          refine andVW_intro hp ?_
          simp -dsimp [bx, bv, hVl, hV, gp, dp, hA]
          refine andVW_intro hq ?_
          simp -dsimp [bx, bv, hVl, hV, gp, dp, hA, gq]
          refine acallsW_of cl ?_
          rintro e _ ⟨rfl, rfl⟩
          rw [gg.sb]
          simp -dsimp [bx, bv, hVl, hV, gp, dp, hA, hd1, hd2]
          exact fin _ _ V b [X] rfl ⟨rfl, rfl⟩
end Go.Proofs
