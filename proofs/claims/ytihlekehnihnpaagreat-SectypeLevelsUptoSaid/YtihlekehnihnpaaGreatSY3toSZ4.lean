/- The document's layer 9: where a name stands; what is kept of memory. -/
import Derived.Test.YtihlekehnihnpaaGreatSX13toSZ1
import Derived.Test.YtihlekehnihnpaaGreatFwXtoV7
set_option linter.unusedVariables false
set_option linter.unusedSimpArgs false
set_option maxHeartbeats 4000000
set_option maxRecDepth 100000
namespace Go.Proofs
open Go.Mu
def findN (rs : List Rg) (vs : List Vr) (n : ByteArray) : Nat := if findV vs n = 0 then (if findR rs n = 0 then 0 else idxR rs n) else idxV vs n
theorem find2_ok (p : Pg) (k : Nat) (n : ByteArray) (hp : p.Ok) (hk : k < p.funcs.length) (H : List Blk) : ACalls Tryz.prog 73 [.agg p.cells, I k, St n] H (fun e H' => e = .ret (.tup [I (findK p.regions (allV (fcAt p k)) n), I (findN p.regions (allV (fcAt p k)) n)]) ∧ H' = H) := by
  refine acalls_tidy (acalls_of_awp Tryz.func73 rfl (by kernel_rfl) ?_)
  obtain ⟨M, hM⟩ : ∃ M, M = H ++ [.box 25 p.cells] := ⟨_, rfl⟩
  have hMb : M[H.length]? = some (.box 25 p.cells) := by rw [hM]; simp
  have hFe : fcAt p k = p.funcs[k] := by rw [fcAt, List.getElem?_eq_getElem hk]; rfl
  rw [hFe]
  obtain ⟨F, hF⟩ : ∃ F, F = p.funcs[k] := ⟨_, rfl⟩
  have h1 := hp.params _ (List.getElem_mem hk)
  have h2 := hp.vars _ (List.getElem_mem hk)
  have h3 := hp.regions
  rw [← hF] at h1 h2 ⊢
  obtain ⟨vs, hvs⟩ : ∃ vs, vs = F.params ++ F.vars := ⟨_, rfl⟩
  have hvl : vs.length ≤ 2^40 := by rw [hvs]; simp; omega
  have cv := fun H => rvars_ok F h1 h2 H
  simp only [Fc.cells] at cv
  rw [← hvs] at cv
  rw [show allV F = vs from hvs.symm]
  obtain ⟨K, hK⟩ : ∃ K, K = findK p.regions vs n := ⟨_, rfl⟩
  obtain ⟨N, hN⟩ : ∃ N, N = findN p.regions vs n := ⟨_, rfl⟩
  rw [← hK, ← hN]
  have fin : ∀ c i : Int, c = K → i = (N : Int) → Tidy H (fun e H' => e = .ret (.tup [I K, I N]) ∧ H' = H) (.ret (.tup [I c, I i])) M := fun c i hc hi => by rw [hM, hc, hi]; exact tidy_same rfl ⟨rfl, rfl⟩
  simp only [Pg.cells] at hM hMb
  refine awp_cut (fun _ => false) (fun _ => none) (fun f H' => M = H' ∧ f 3 = .bp H.length 0 ∧ f 1 = I k ∧ f 2 = St n) (by kernel_rfl) ?_ ?_
  · simp -dsimp [hM]
  clear hM
  rintro g _ ⟨rfl, g3, g1, g2⟩
  refine awp_cut (fun _ => false) (fun _ => none) (fun f H' => M = H' ∧ f 3 = .bp H.length 0 ∧ f 2 = St n ∧ f 8 = Vr.sl vs) (by kernel_rfl) ?_ ?_
  · simp -dsimp [g1, g2, g3, hMb, List.getElem?_eq_getElem, hk, ← hF]
    refine acallsW_det (cv _) ?_
    simp -dsimp [g1, g2, g3]
  clear g g1 g2 g3 hF cv hvs h1 h2 hFe
  rintro g _ ⟨rfl, g3, g2, g8⟩
  refine awp_cut (fun _ => false) (fun _ => none) (fun f H' => M = H' ∧ f 3 = .bp H.length 0 ∧ f 2 = St n ∧ findV vs n = 0) (by kernel_rfl) ?_ ?_
  · simp -dsimp [g2, g3, g8]
    refine loop_rule (hn := fun _ => false) (od := fun _ => none) (fun (i : Nat) f H' => M = H' ∧ f 3 = .bp H.length 0 ∧ f 2 = St n ∧ f 8 = Vr.sl vs ∧ f 9 = I i ∧ i ≤ vs.length ∧ findV (vs.drop i) n = findV vs n ∧ i + idxV (vs.drop i) n = idxV vs n) (fun i => vs.length - i) (by kernel_rfl) 0 (by simp [g2, g3, g8]) ?_
    clear g g2 g3 g8
    rintro i g _ ⟨rfl, g3, g2, g8, g9, hi, hinv, hidx⟩
    simp -dsimp [g2, g3, g8, g9]
    refine condVW_introD (fun hlt => ?_) (fun hlt => ?_)
    · rw [drop_cons hlt, findV] at hinv
      rw [drop_cons hlt, idxV] at hidx
      simp -dsimp [g2, g3, g8, g9, List.getElem?_eq_getElem, hlt]
      refine condVW_introD (fun hp => ?_) (fun hp => ?_)
      · rw [if_pos hp] at hinv hidx
        have hne : findV vs n ≠ 0 := by rw [← hinv]; split <;> decide
        simp -dsimp [g2, g3, g8, g9, List.getElem?_eq_getElem, hlt]
        refine condVW_introE (fun hk1 => ?_) (fun hk1 _ _ => ?_)
        · rw [if_pos hk1] at hinv
          simp -dsimp [g2, g3, g8, g9]
          exact fin _ _ (by rw [hK, findK, ← hinv]; rfl) (by rw [hN, findN, if_neg hne, ← hidx]; rfl)
        · rw [if_neg hk1] at hinv
          simp -dsimp [g2, g3, g8, g9]
          exact fin _ _ (by rw [hK, findK, ← hinv]; rfl) (by rw [hN, findN, if_neg hne, ← hidx]; rfl)
      · rw [if_neg hp] at hinv hidx
        simp -dsimp [g2, g3, g8, g9]
        exact ⟨i + 1, by omega, wrapS (by omega), by omega, hinv, by omega⟩
    · rw [drop_end hlt, findV] at hinv
      simp -dsimp [g2, g3]
      exact hinv.symm
  clear g g2 g3 g8
  rintro g _ ⟨rfl, g3, g2, h0⟩
  rw [findK, if_pos h0] at hK
  rw [findN, if_pos h0] at hN
  refine awp_all (fun _ => false) (fun _ => none) (by kernel_rfl) ?_
  simp -dsimp [g2, g3]
  refine loop_rule (hn := fun _ => false) (od := fun _ => none) (fun (i : Nat) f H' => M = H' ∧ f 3 = .bp H.length 0 ∧ f 2 = St n ∧ f 10 = I i ∧ i ≤ p.regions.length ∧ findR (p.regions.drop i) n = K ∧ i + idxR (p.regions.drop i) n = idxR p.regions n) (fun i => p.regions.length - i) (by kernel_rfl) 0 (by simp [g2, g3, hK]) ?_
  clear g g2 g3
  rintro i g _ ⟨rfl, g3, g2, g10, hi, hinv, hidx⟩
  simp -dsimp [g2, g3, g10, hMb]
  refine condVW_introD (fun hlt => ?_) (fun hlt => ?_)
  · rw [drop_cons hlt, findR] at hinv
    rw [drop_cons hlt, idxR] at hidx
    simp -dsimp [g2, g3, g10, hMb, List.getElem?_eq_getElem, hlt]
    refine condVW_introD (fun hp => ?_) (fun hp => ?_)
    · rw [if_pos hp] at hinv hidx
      simp -dsimp [g2, g3, g10]
      exact fin _ _ hinv (by rw [hN, if_neg (by rw [← hK, ← hinv]; decide), ← hidx]; rfl)
    · rw [if_neg hp] at hinv hidx
      simp -dsimp [g2, g3, g10]
      exact ⟨i + 1, by omega, wrapS (by omega), by omega, hinv, by omega⟩
  · rw [drop_end hlt, findR] at hinv
    simp -dsimp [g2, g3]
    exact fin _ _ hinv (by rw [hN, if_pos (by rw [← hK, ← hinv])]; rfl)
def rowX (h : Option Nat) (n : Nat) : AV := match h with | none => nilS | some k => .hs k 0 n n
def bRow (l : List Bool) : Blk := .row 4 1 (l.map fun b => [Bo b])
def chkC (p : Pg) (f : Nat) (x : AV) (e g : Int) : List AV := [Rg.sl p.regions, Fc.sl p.funcs, I f, x, I e, I g]
abbrev chkB (p : Pg) (f : Nat) (x : AV) (e g : Int) : Blk := .box 64 (chkC p f x e g)
structure BRow (M : List Blk) (h : Option Nat) (l : List Bool) : Prop where
  row : ∀ k, h = some k → M[k]? = some (bRow l)
  nil : h = none → l = []
structure DIn (M : List Blk) (kc : Nat) (h : Option Nat) (p : Pg) (f : Nat) (l : List Bool) (e g : Int) : Prop where
  box : M[kc]? = some (chkB p f (rowX h l.length) e g)
  row : BRow M h l
structure DKeep (M M' : List Blk) (kc : Nat) (h : Option Nat) : Prop where
  len : M.length ≤ M'.length
  get : ∀ i, i < M.length → i ≠ kc → h ≠ some i → M'[i]? = M[i]?
theorem BRow.app {M : List Blk} {h : Option Nat} {l : List Bool} (hr : BRow M h l) (L : List Blk) : BRow (M ++ L) h l := ⟨fun k hk => get_app_old (hr.row k hk) L, hr.nil⟩
variable {M M' : List Blk} {kc : Nat} {h : Option Nat} {p : Pg} {f : Nat} {l : List Bool} {e g : Int}
theorem DIn.app (hd : DIn M kc h p f l e g) (L : List Blk) : DIn (M ++ L) kc h p f l e g := ⟨get_app_old hd.box L, hd.row.app L⟩
theorem BRow.ne_box {t : TypeId} {c : List AV} {k : Nat} (hr : BRow M h l) (hb : M[k]? = some (.box t c)) : h ≠ some k := fun e => by
  have := (hr.row k e).symm.trans hb; simp [bRow] at this
theorem DIn.ne (hd : DIn M kc h p f l e g) : h ≠ some kc := hd.row.ne_box hd.box
theorem BRow.setK {k : Nat} (hr : BRow M h l) (hne : h ≠ some k) (X : Blk) : BRow (M.set k X) h l := ⟨fun i hi => by rw [get_set_ne (fun e => hne (by rw [e]; exact hi))]; exact hr.row i hi, hr.nil⟩
theorem DIn.setE (hd : DIn M kc h p f l e g) (e' g' : Int) : DIn (M.set kc (chkB p f (rowX h l.length) e' g')) kc h p f l e' g' := ⟨get_set_eq hd.box, hd.row.setK hd.ne _⟩
theorem DIn.setL (hd : DIn M kc h p f l e g) {k : Nat} (hk : h = some k) {l' : List Bool} (hl : l'.length = l.length) : DIn (M.set k (bRow l')) kc h p f l' e g := by
  subst hk
  refine ⟨?_, fun i hi => ?_, fun hn => by cases hn⟩
  · rw [get_set_ne (fun e => hd.ne (by rw [e]))]; rw [hl]; exact hd.box
  · cases hi; exact get_set_eq (hd.row.row k rfl)
structure RIn (p : Pg) : Prop where
  ok : p.Ok
  sec : SecIn p
  fn : ∀ k, k < p.funcs.length → FnN p (fcAt p k)
theorem rIn_of {p : Pg} (hp : p.Ok2) (hm : mayE p = 0) : RIn p ∧ 1 ≤ p.funcs.length := by
  obtain ⟨h1, h2, h3, h4⟩ := may_nm hm
  have hb := hp.body36
  refine ⟨⟨hp.ok, secIn_of hm (by omega) (by omega) (fun f hf => ?_), h1⟩, h4⟩
  obtain ⟨k, hk, rfl⟩ := List.mem_iff_getElem.1 hf
  have e : fcAt p k = p.funcs[k] := by rw [fcAt, List.getElem?_eq_getElem hk]; rfl
  have := (h1 k hk).words
  have := hb _ hf
  rw [e] at *
  exact ⟨by omega, by omega, by omega⟩
theorem findN_word {p : Pg} {k : Nat} (hp : RIn p) (hk : k < p.funcs.length) {n : ByteArray} (hn : n ∈ Keys (enterT (fcAt p k))) :
    findK p.regions (allV (fcAt p k)) n = 1 ∧ findN p.regions (allV (fcAt p k)) n = idxV (allV (fcAt p k)) n ∧ ∃ v, (allV (fcAt p k))[idxV (allV (fcAt p k)) n]? = some v ∧ v.name = n := by
  obtain ⟨v, h1, h2, h3⟩ := find_word (hp.fn k hk).nm hn
  refine ⟨?_, ?_, v, h1, h2⟩
  · rw [findK, h3]; rfl
  · rw [findN, h3]; rfl
end Go.Proofs
namespace Go.Proofs
open Go.Mu
mutual
def Ex.has (K : List ByteArray) : Ex → Bool
  | .mk op _ name args => if op = 2 then inK name K else exsHas K args
def exsHas (K : List ByteArray) : List Ex → Bool
  | [] => true
  | e :: l => e.has K && exsHas K l
end
theorem Ex.has_eq (K : List ByteArray) (e : Ex) : e.has K = if e.op = 2 then inK e.name K else exsHas K e.args := by cases e; rw [Ex.has]; rfl
theorem exsHas_any (K : List ByteArray) : ∀ l : List Ex, exsHas K l = !(l.any fun a => !a.has K)
  | [] => rfl
  | e :: l => by rw [exsHas, exsHas_any K l, List.any_cons]; cases e.has K <;> cases l.any (fun a => !a.has K) <;> rfl
mutual
def Ex.lacks (rs : List Rg) (vs : List Vr) (n : Int) : Ex → Bool
  | .mk op _ name args => if op = 2 then (decide (findK rs vs name = 1) && decide (n ≤ (findN rs vs name : Int))) else exsLacks rs vs n args
def exsLacks (rs : List Rg) (vs : List Vr) (n : Int) : List Ex → Bool
  | [] => false
  | e :: l => e.lacks rs vs n || exsLacks rs vs n l
end
theorem Ex.lacks_eq (rs : List Rg) (vs : List Vr) (n : Int) (e : Ex) : e.lacks rs vs n = if e.op = 2 then (decide (findK rs vs e.name = 1) && decide (n ≤ (findN rs vs e.name : Int))) else exsLacks rs vs n e.args := by cases e; rw [Ex.lacks]; rfl
mutual
def Ex.ari : Ex → Bool
  | .mk op _ _ args => (!(op == 2) || args.isEmpty) && exsAri args
def exsAri : List Ex → Bool
  | [] => true
  | e :: l => e.ari && exsAri l
end
theorem Ex.ari_eq (e : Ex) : e.ari = ((!(e.op == 2) || e.args.isEmpty) && exsAri e.args) := by cases e; rw [Ex.ari]; rfl
theorem chk_ari {tv : List (ByteArray × Vr)} {ta : List (ByteArray × Bool)} (m : Nat) : ∀ l : List Ex, exsCount l ≤ m → ∀ deep : Nat, exsChk tv ta deep l = 0 → exsAri l = true := by
  induction m with
  | zero => intro l hl _ _; have := exs_len l; obtain rfl : l = [] := List.eq_nil_of_length_eq_zero (by omega); rfl
  | succ m ih =>
    intro l
    induction l with
    | nil => intro _ _ _; rfl
    | cons e l ihl =>
      intro hl deep h
      simp only [exsCount] at hl
      have he := Ex.count_eq e
      rw [exsChk] at h
      obtain ⟨h1, h2⟩ := thenE_0 h
      rw [exsAri, ihl (by omega) deep h2, Bool.and_true, Ex.ari_eq]
      rw [Ex.chk_eq] at h1
      obtain ⟨_, h1⟩ := thenE_0 h1
      obtain ⟨h3, h1⟩ := thenE_0 h1
      obtain ⟨_, h1⟩ := thenE_0 h1
      obtain ⟨_, h1⟩ := thenE_0 h1
      rw [ih _ (by omega) _ h1, Bool.and_true]
      have h3 := mustE_0 (by decide) h3
      rw [Bool.and_eq_true, beq_iff_eq] at h3
      by_cases k : e.op = 2
      · have := h3.2
        rw [k] at this
        have e0 : e.args = [] := List.eq_nil_of_length_eq_zero (by simp [argsN] at this; simp [this])
        rw [e0]; simp
      · simp [k]
def atL (x : List (Vr × Bool)) : Tab := setsT ((x.filter fun y => y.1.kind == 1).map fun y => (y.1.name, y.2)) []
def atR (x : List (Vr × Bool)) (t : Tab) : Tab := setsT (x.map fun y => (y.1.name, y.2)) t
theorem atL_snoc (x : List (Vr × Bool)) (v : Vr) (b : Bool) : atL (x ++ [(v, b)]) = if v.kind = 1 then aset v.name b (atL x) else atL x := by
  unfold atL
  rw [List.filter_append, List.map_append, setsT_app]
  by_cases h : v.kind = 1
  · simp [h, setsT]
  · simp [h, setsT]
theorem atR_snoc (x : List (Vr × Bool)) (v : Vr) (b : Bool) (t : Tab) : atR (x ++ [(v, b)]) t = aset v.name b (atR x t) := by
  unfold atR
  rw [List.map_append, setsT_app]; rfl
variable {p : Pg} {F : Fc}
theorem zip_fst {vs : List Vr} {bs : List Bool} : ((vs.zip bs).map fun y => y.1) = vs.take bs.length := by
  induction vs generalizing bs with
  | nil => simp
  | cons v vs ih => cases bs with
    | nil => simp
    | cons b bs => simp [ih]
theorem at_word (h : NmF p F) (bs : List Bool) {n : ByteArray} (hn : n ∈ Keys (enterT F)) (t : Tab) :
    (inK n (Keys (atL ((allV F).zip bs))) = decide (idxV (allV F) n < bs.length)) ∧ (idxV (allV F) n < bs.length → lookB n (atL ((allV F).zip bs)) = lookB n (atR ((allV F).zip bs) t)) := by
  obtain ⟨v, hv, hvn, hk⟩ : ∃ v, (allV F)[idxV (allV F) n]? = some v ∧ v.name = n ∧ v.kind = 1 := by
    obtain ⟨v, h1, rfl, h3⟩ := (enter_mem h.words).1 hn
    obtain ⟨i, hi⟩ := mem_at h1
    obtain ⟨h4, h5⟩ := find_at h.nd hi
    rw [h4]
    exact ⟨v, hi, rfl, h3⟩
  obtain ⟨i, hi⟩ : ∃ i, i = idxV (allV F) n := ⟨_, rfl⟩
  rw [← hi] at hv ⊢
  have hndz : (((allV F).zip bs).map fun y => y.1.name).Nodup := by
    have e : ((allV F).zip bs).map (fun y => y.1.name) = (((allV F).zip bs).map fun y => y.1).map Vr.name := by rw [List.map_map]; rfl
    rw [e, zip_fst]
    exact h.nd.sublist ((List.take_sublist ..).map _)
  have mem : ∀ y ∈ (allV F).zip bs, y.1.name = n → ∃ hb : i < bs.length, y = (v, bs[i]) := by
    intro y hy hyn
    obtain ⟨j, hj⟩ := mem_at hy
    obtain ⟨h1, h2⟩ := List.getElem?_zip_eq_some.1 hj
    obtain ⟨h3, _⟩ := find_at h.nd h1
    rw [hyn, ← hi] at h3
    subst h3
    rw [hv] at h1
    obtain ⟨hb, h4⟩ := List.getElem?_eq_some_iff.1 h2
    exact ⟨hb, Prod.ext (Option.some.inj h1).symm h4.symm⟩
  have hin : ∀ hb : i < bs.length, (v, bs[i]) ∈ (allV F).zip bs := fun hb => List.mem_of_getElem? ((List.getElem?_zip_eq_some (z := (v, bs[i]))).2 ⟨hv, List.getElem?_eq_getElem hb⟩)
  constructor
  · rw [Bool.eq_iff_iff, inK_iff, decide_eq_true_eq]
    unfold atL
    rw [sets_mem]
    simp only [Keys, List.map_nil, List.not_mem_nil, or_false, List.map_map, List.mem_map, List.mem_filter, Function.comp_apply]
    constructor
    · rintro ⟨y, ⟨hy, _⟩, hyn⟩
      exact (mem y hy hyn).1
    · intro hb
      exact ⟨(v, bs[i]), ⟨hin hb, by simpa using hk⟩, hvn⟩
  · intro hb
    have e1 : alook n (atL ((allV F).zip bs)) = some bs[i] := by
      unfold atL
      refine alook_sets n _ _ _ ?_ (List.mem_map.2 ⟨(v, bs[i]), List.mem_filter.2 ⟨hin hb, by simpa using hk⟩, by rw [← hvn]⟩)
      rw [List.map_map]
      exact hndz.sublist ((List.filter_sublist).map _)
    have e2 : alook n (atR ((allV F).zip bs) t) = some bs[i] := by
      unfold atR
      refine alook_sets n _ _ _ ?_ (List.mem_map.2 ⟨(v, bs[i]), hin hb, by rw [← hvn]⟩)
      rw [List.map_map]
      exact hndz
    unfold lookB
    rw [e1, e2]
theorem has_lacks (hp : NmF p F) (bs : List Bool) (t ar : Tab) (A : List ByteArray) (m : Nat) : ∀ l : List Ex, exsCount l ≤ m → exsNm (Keys (enterT F)) A l = true → exsAri l = true →
    (exsHas (Keys (atL ((allV F).zip bs))) l = !(exsLacks p.regions (allV F) bs.length l)) ∧ (exsLacks p.regions (allV F) bs.length l = false → exsM (atR ((allV F).zip bs) t) ar l = exsM (atL ((allV F).zip bs)) ar l) := by
  induction m with
  | zero => intro l hl _ _; have := exs_len l; obtain rfl : l = [] := List.eq_nil_of_length_eq_zero (by omega); exact ⟨rfl, fun _ => rfl⟩
  | succ m ih =>
    intro l
    induction l with
    | nil => intro _ _ _; exact ⟨rfl, fun _ => rfl⟩
    | cons e l ihl =>
      intro hl hn ha
      simp only [exsCount] at hl
      have he := Ex.count_eq e
      rw [exsNm, Bool.and_eq_true, nm_iff] at hn
      obtain ⟨hn1, hn2⟩ := hn
      rw [exsAri, Bool.and_eq_true, Ex.ari_eq, Bool.and_eq_true] at ha
      obtain ⟨⟨ha1, ha2⟩, ha3⟩ := ha
      obtain ⟨i1, i2⟩ := ihl (by omega) hn2 ha3
      obtain ⟨j1, j2⟩ := ih e.args (by omega) hn1.args ha2
      have key : e.has (Keys (atL ((allV F).zip bs))) = !(e.lacks p.regions (allV F) bs.length) ∧ (e.lacks p.regions (allV F) bs.length = false → e.exM (atR ((allV F).zip bs) t) ar = e.exM (atL ((allV F).zip bs)) ar) := by
        rw [Ex.has_eq, Ex.lacks_eq, Ex.exM_eq, Ex.exM_eq]
        by_cases h2 : e.op = 2
        · obtain ⟨k1, k2⟩ := at_word hp bs (hn1.word h2) t
          obtain ⟨v, _, _, k3⟩ := find_word hp (hn1.word h2)
          have f1 : findK p.regions (allV F) e.name = 1 := by rw [findK, k3]; rfl
          have f2 : findN p.regions (allV F) e.name = idxV (allV F) e.name := by rw [findN, k3]; rfl
          rw [if_pos h2, if_pos h2, if_pos h2, if_pos h2, k1, f1, f2]
          have e0 : e.args = [] := by rw [h2] at ha1; simpa using ha1
          constructor
          · by_cases q : idxV (allV F) e.name < bs.length
            · rw [decide_eq_true q, decide_eq_false (show ¬ ((bs.length : Int) ≤ (idxV (allV F) e.name : Nat)) by omega)]; rfl
            · rw [decide_eq_false q, decide_eq_true (show ((bs.length : Int)) ≤ (idxV (allV F) e.name : Nat) by omega)]; rfl
          · intro q
            have q2 : idxV (allV F) e.name < bs.length := by
              rw [Bool.and_eq_false_iff] at q
              rcases q with q | q
              · simp at q
              · rw [decide_eq_false_iff_not] at q; omega
            rw [e0, k2 q2]; rfl
        · rw [if_neg h2, if_neg h2, if_neg h2, if_neg h2]
          refine ⟨j1, fun q => ?_⟩
          rw [j2 q]
      rw [exsHas, exsLacks, exsM, exsM, key.1, i1]
      refine ⟨by rw [Bool.not_or], fun q => ?_⟩
      rw [Bool.or_eq_false_iff] at q
      rw [key.2 q.1, i2 q.2]
end Go.Proofs
namespace Go.Proofs
open Go.Mu
theorem ex_indexF (l : List Ex) (p : Ex → Bool) (g : FuncId) (cap : List AV) (hok : okFn Tryz.prog g = true) (hl : l.length ≤ 2^40) (H : List Blk) (hg : ∀ x ∈ l, ACalls Tryz.prog g (.agg x.cells :: cap) H (fun e H' => e = .ret (Bo (p x)) ∧ H' = H)) :
    ACalls Tryz.prog 151 [Ex.sl l, .fn (.func g) [] cap] H (fun e H' => e = .ret (I (idxP p l 0)) ∧ H' = H) := by
  refine acalls_tidy (acalls_of_vc (hn := fun _ => false) (od := fun _ => none) Tryz.func151 rfl (by kernel_rfl) ?_)
  simp -dsimp
  refine loop_rule (hn := fun _ => false) (od := fun _ => none) (fun (i : Nat) f H' => H' = H ∧ f 0 = Ex.sl l ∧ f 1 = .fn (.func g) [] cap ∧ f 7 = I l.length ∧ f 8 = I i ∧ i ≤ l.length ∧ idxP p (l.drop i) i = idxP p l 0) (fun i => l.length - i) (by kernel_rfl) 0 (by simp) ?_
  rintro i f H' ⟨rfl, h0, h1, h7, h8, hi, hinv⟩
  simp -dsimp [h0, h1, h7, h8]
  refine condVW_introD (fun hlt => ?_) (fun hlt => ?_)
  · rw [drop_cons hlt, idxP] at hinv
    have hx := hg l[i] (List.getElem_mem hlt)
    simp only [Ex.cells_eq] at hx
    have hc : (l.map Ex.cells)[i]? = some [I l[i].op, U l[i].word, St l[i].name, Ex.sl l[i].args] := by rw [List.getElem?_map, List.getElem?_eq_getElem hlt, Option.map_some, Ex.cells_eq]
    simp -dsimp [h0, h1, h7, h8, hc, hok]
    refine acallsW_det hx ?_
    simp -dsimp
    refine condVW_intro (fun hp => ?_) (fun hp => ?_)
    · simp -dsimp
      rw [if_pos hp] at hinv
      exact tidy_now rfl ⟨by rw [hinv], rfl⟩
    · simp -dsimp [h0, h1, h7, h8]
      rw [if_neg (by simp [hp])] at hinv
      exact ⟨i + 1, by omega, wrapS (by omega), by omega, by simpa using hinv⟩
  · simp -dsimp
    rw [drop_end hlt, idxP] at hinv
    exact tidy_now rfl ⟨by rw [hinv], rfl⟩
theorem ex_containsF (l : List Ex) (p : Ex → Bool) (g : FuncId) (cap : List AV) (hok : okFn Tryz.prog g = true) (hl : l.length ≤ 2^40) (H : List Blk) (hg : ∀ x ∈ l, ACalls Tryz.prog g (.agg x.cells :: cap) H (fun e H' => e = .ret (Bo (p x)) ∧ H' = H)) :
    ACalls Tryz.prog 114 [Ex.sl l, .fn (.func g) [] cap] H (fun e H' => e = .ret (Bo (l.any p)) ∧ H' = H) := by
  refine acalls_tidy (acalls_of_vc (hn := fun _ => false) (od := fun _ => none) Tryz.func114 rfl (by kernel_rfl) ?_)
  simp -dsimp
  refine acallsW_det (ex_indexF l p g cap hok hl _ hg) ?_
  simp -dsimp
  exact tidy_now rfl ⟨by rw [idxP_any _ _ _ (Int.le_refl 0)], rfl⟩
theorem look_in (n : ByteArray) : ∀ t : Tab, (alook n t).isSome = inK n (Keys t)
  | [] => rfl
  | (m, x) :: t => by
    have ih := look_in n t
    unfold inK at ih ⊢
    rw [alook]
    by_cases e : n = m
    · subst e; simp [Keys]
    · rw [if_neg e, ih]
      have : decide (m = n) = false := by rw [decide_eq_false_iff_not]; exact fun h => e h.symm
      simp only [Keys, List.map_cons, List.any_cons, this, Bool.false_or]
theorem shas_ok (t : Tab) (n : Nat) : ∀ (e : Ex), e.count ≤ n → e.count ≤ 2^40 → ∀ (M : List Blk) (kt : Nat), M[kt]? = some (.map (tabM t)) → ACalls Tryz.prog 66 [.agg e.cells, .hm kt] M (fun r M' => r = .ret (Bo (e.has (Keys t))) ∧ M' = M) := by
  induction n with
  | zero => intro e he; rw [Ex.count_eq] at he; omega
  | succ n ih =>
    intro e he he40 M kt hkt
    have hlen := exs_len e.args
    have hcnt := Ex.count_eq e
    obtain ⟨bE, hbE⟩ : ∃ bE, bE = Blk.box 53 e.cells := ⟨_, rfl⟩
    obtain ⟨V, hV⟩ : ∃ V, V = M ++ [bE, .box 58 [.hm kt]] := ⟨_, rfl⟩
    have v0 : V[M.length]? = some (.box 53 [I e.op, U e.word, St e.name, Ex.sl e.args]) := by rw [hV, hbE, Ex.cells_eq]; simp
    have v1 : V[M.length + 1]? = some (.box 58 [.hm kt]) := by rw [hV]; simp
    have vt : V[kt]? = some (.map (tabM t)) := by rw [hV]; exact get_app_old hkt _
    have hcl : ∀ x ∈ e.args, ACalls Tryz.prog 115 (.agg x.cells :: [.bp (M.length + 1) 0]) V (fun r M' => r = .ret (Bo (!x.has (Keys t))) ∧ M' = V) := fun x hx => by
      refine acalls_tidy (acalls_of_vc (hn := fun _ => false) (od := fun _ => none) Tryz.func115 rfl (by kernel_rfl) ?_)
      obtain ⟨i, hi, rfl⟩ := List.mem_iff_getElem.1 hx
      have hb := exs_parts e hi
      obtain ⟨x, hx⟩ : ∃ x, x = e.args[i] := ⟨_, rfl⟩
      rw [← hx] at hb ⊢
      have c := fun L => ih x (by omega) (by omega) (V ++ L) kt (get_app_old vt L)
      have v1' := fun L => get_app_old v1 L
      simp only [Ex.cells_eq] at c
      simp -dsimp [v1']
      refine acallsW_det (c _) ?_
      simp -dsimp
      exact tidy_same rfl ⟨rfl, rfl⟩
    have hcf := ex_containsF e.args (fun x => !x.has (Keys t)) 115 [.bp (M.length + 1) 0] (by kernel_rfl) (by omega) V hcl
    have hok : okFn Tryz.prog 115 = true := by kernel_rfl
    refine acalls_tidy (acalls_of_vc (hn := fun _ => false) (od := fun _ => none) Tryz.func66 rfl (by kernel_rfl) ?_)
    obtain ⟨B, hB⟩ : ∃ B, B = e.has (Keys t) := ⟨_, rfl⟩
    rw [← hB]
    have fin : ∀ b, b = B → Tidy M (fun r M' => r = .ret (Bo B) ∧ M' = M) (.ret (Bo b)) V := fun b hb => by rw [hb, hV]; exact tidy_same rfl ⟨rfl, rfl⟩
    rw [Ex.has_eq] at hB
    have hmf := mfind_str BoA e.name t
    have hlk := look_in e.name t
    have hVe : M ++ [Blk.box 53 [I e.op, U e.word, St e.name, Ex.sl e.args], .box 58 [.hm kt]] = V := by rw [hV, hbE, Ex.cells_eq]
    clear hV
    simp -dsimp
    rw [hVe]
    by_cases h2 : e.op = 2
    · rw [if_pos h2] at hB
      simp -dsimp [v0, v1, vt, h2, hmf, hlk]
      exact fin _ hB.symm
    · rw [if_neg h2, exsHas_any] at hB
      have h2b : (e.op == 2) = false := by simpa using h2
      simp -dsimp [v0, v1, h2b, hok]
      refine acallsW_det hcf ?_
      simp -dsimp
      exact fin _ hB.symm
theorem weakR_app {b b' : List (List AV)} (h : WeakR b b') : ∀ (a : List (List AV)), WeakR (a ++ b) (a ++ b')
  | [] => h
  | r :: a => .cons (.refl r) (weakR_app h a)
theorem lv_ok2 {p : Pg} (hp : p.Ok2) {f : Nat} (hf : f < p.funcs.length) {e : Ex} (he : e.count ≤ 2^30) : (lvQ p f e).Ok2 := by
  obtain ⟨g1, g2⟩ := fcAt_get hf
  have hb : smsCount (lvF p f e).body = e.count + 2 := by
    simp only [lvF, smsCount, lvS, Sm.count, exN, Ex.count, exsCount, List.length_nil]; omega
  have hmem : ∀ F ∈ (lvQ p f e).funcs, F ∈ p.funcs ∨ F = lvF p f e := fun F hF => by
    rw [lvQ] at hF
    rcases List.mem_append.1 hF with h | h
    · exact .inl (List.mem_of_mem_take h)
    · exact .inr (List.mem_singleton.1 h)
  have h1 := hp.ok.funcs
  refine ⟨⟨hp.ok.regions, ?_, ?_, ?_, ?_, ?_⟩, ⟨hp.nok.regions, ?_⟩, ?_⟩
  · rw [lvQ]; simp; omega
  · intro F hF; rcases hmem F hF with h | rfl; exact hp.ok.body F h; omega
  · intro F hF; rcases hmem F hF with h | rfl; exact hp.ok.params F h; exact (hp.ok.params (fcAt p f) g2 :)
  · intro F hF; rcases hmem F hF with h | rfl; exact hp.ok.vars F h; exact (hp.ok.vars (fcAt p f) g2 :)
  · intro F hF; rcases hmem F hF with h | rfl; exact hp.ok.rets F h; exact (hp.ok.rets (fcAt p f) g2 :)
  · intro F hF; rcases hmem F hF with h | rfl; exact hp.nok.funcs F h; exact (hp.nok.funcs (fcAt p f) g2 :)
  · intro F hF; rcases hmem F hF with h | rfl; exact hp.body36 F h; omega
def lvRow (p : Pg) (f : Nat) (b : AV) : List (List AV) := (p.funcs.map Fc.cells).set f [St (fcAt p f).name, Vr.sl (fcAt p f).params, Vr.sl (fcAt p f).vars, St.sl (fcAt p f).rets, b]
theorem lvmay_ok {p : Pg} (hp : p.Ok2) {f : Nat} (hf : f < p.funcs.length) {e : Ex} (he : e.count ≤ 2^30) (b : AV) (hb : Weak b (Sm.sl [lvS e])) (hz : b.frzB = true) (M : List Blk) (kq : Nat) (hq : M[kq]? = some (.row 37 5 (lvRow p f b))) :
    ACalls Tryz.prog 56 [.agg [Rg.sl p.regions, .hs kq 0 (f + 1) p.funcs.length]] M (fun r M' => r = .ret (I (mayE (lvQ p f e))) ∧ M' = M) := by
  have hl : (lvRow p f b).length = p.funcs.length := by rw [lvRow]; simp
  refine acalls_apart (args' := [.agg [Rg.sl p.regions, .vs 5 ((lvRow p f b).take (f + 1))]]) ?_ rfl ?_
  · refine .row kq 5 37 _ hq ?_ ?_
    · rw [List.all_eq_true]
      intro c hc
      obtain ⟨r, hr, hcr⟩ := List.mem_flatten.1 hc
      rw [lvRow] at hr
      rcases List.mem_or_eq_of_mem_set hr with h | h
      · obtain ⟨F, _, rfl⟩ := List.mem_map.1 h
        simp at hcr
        rcases hcr with rfl | rfl | rfl | rfl | rfl <;> rfl
      · subst h
        simp at hcr
        rcases hcr with rfl | rfl | rfl | rfl | rfl
        all_goals first | rfl | exact hz
    · have ee : frzL kq 5 (lvRow p f b) [.agg [Rg.sl p.regions, .hs kq 0 (f + 1) p.funcs.length]] = [.agg [Rg.sl p.regions, .vs 5 ((lvRow p f b).take (f + 1))]] := by
        simp only [frzL, AV.frz, hl, and_self, if_true, List.drop_zero]
      rw [ee]
      exact .refl _ _
  · have ht : (lvRow p f b).take (f + 1) = (p.funcs.take f).map Fc.cells ++ [[St (fcAt p f).name, Vr.sl (fcAt p f).params, Vr.sl (fcAt p f).vars, St.sl (fcAt p f).rets, b]] := by
      rw [take_getZ (x := [St (fcAt p f).name, Vr.sl (fcAt p f).params, Vr.sl (fcAt p f).vars, St.sl (fcAt p f).rets, b]) (by rw [lvRow, List.getElem?_set_self (by simpa using hf)])]
      rw [lvRow, List.take_set_of_le (by omega), List.map_take]
    rw [ht]
    refine acalls_weak (args' := [.agg (lvQ p f e).cells]) (.cons (.aggL (.cons (.refl _) (.cons (.vsR ?_) .nil))) .nil) ?_
    · have : (lvQ p f e).funcs.map Fc.cells = (p.funcs.take f).map Fc.cells ++ [[St (fcAt p f).name, Vr.sl (fcAt p f).params, Vr.sl (fcAt p f).vars, St.sl (fcAt p f).rets, Sm.sl [lvS e]]] := by
        rw [lvQ, List.map_append]; rfl
      rw [this]
      exact weakR_app (.cons (.cons (.refl _) (.cons (.refl _) (.cons (.refl _) (.cons (.refl _) (.cons hb .nil))))) .nil) _
    · exact may_ok _ (lv_ok2 hp hf he) []
end Go.Proofs
namespace Go.Proofs
open Go.Mu
theorem lvl1_ok (p : Pg) (e : Ex) (he : e.count ≤ 2^40) (ar t : Tab) (g : Int) (M : List Blk) (kc ka kg kt k1 k2 k3 : Nat) (hC : CIn M kc ka kg kt p ar t g) (h1 : M[k1]? = some (pcB kc)) (h2 : M[k2]? = some (.box 53 e.cells)) (h3 : M[k3]? = some (.box 4 [Bo false])) :
    ACalls Tryz.prog 68 [.bp k1 0, .bp k2 0, .bp k3 0] M (fun r M' => match e.lev t ar with | none => r = .pan (refX 10) ∧ M' = M | some b => r = .ret (.tup []) ∧ M' = M.set k3 (.box 4 [Bo b])) := by
  refine acalls_of_vc (hn := fun _ => false) (od := fun _ => none) Tryz.func68 rfl (by kernel_rfl) ?_
  have cl := lev_ok p ar t _ e (Nat.le_refl _) he hC
  simp only [Ex.cells_eq] at cl h2
  simp -dsimp [h1, h2]
  refine acallsW_of cl ?_
  rintro r M' ⟨rfl, hr⟩
  cases hl : e.lev t ar with
  | none =>
    rw [hl] at hr
    simp only at hr
    subst hr
    simp -dsimp
  | some b =>
    rw [hl] at hr
    simp only at hr
    subst hr
    simp -dsimp [h3]
def lvlM (p : Pg) (f : Int) (e : Ex) (t : Tab) : Bool × Int :=
  if mayE p ≠ 0 then (false, mayE p) else if f < 0 ∨ (p.funcs.length : Int) ≤ f then (false, 2) else
    if mayE (lvQ p f.toNat e) ≠ 0 then (false, mayE (lvQ p f.toNat e)) else if e.has (Keys t) = false then (false, 2) else
      match e.lev t (arrT p.regions (fcAt p f.toNat)) with | none => (false, 10) | some b => (b, 0)
theorem slevel_ok (p : Pg) (hp : p.Ok2) (hpc : p.OkC) (f : Int) (e : Ex) (he : e.count ≤ 2^30) (t : Tab) (M : List Blk) (kt : Nat) (hkt : M[kt]? = some (.map (tabM t))) :
    ACalls Tryz.prog 22 [.agg p.cells, I f, .agg e.cells, .hm kt] M (fun r M' => r = .ret (.tup [Bo (lvlM p f e t).1, I (lvlM p f e t).2]) ∧ M' = M) := by
  refine acalls_tidy (acalls_of_vc (hn := fun _ => false) (od := fun _ => none) Tryz.func22 rfl (by kernel_rfl) ?_)
  obtain ⟨Z, hZ⟩ : ∃ Z, Z = lvlM p f e t := ⟨_, rfl⟩
  rw [← hZ]
  unfold lvlM at hZ
  have fin : ∀ b c W, (b, c) = Z → (∃ L, W = M ++ L) → Tidy M (fun r M' => r = .ret (.tup [Bo Z.1, I Z.2]) ∧ M' = M) (.ret (.tup [Bo b, I c])) W := fun b c W h ⟨L, hL⟩ => by
    rw [← h, hL]; exact tidy_same rfl ⟨rfl, rfl⟩
  have cm := fun H => may_ok p hp H
  obtain ⟨W, hW⟩ : ∃ W, W = M ++ [.box 25 p.cells, .box 53 e.cells] := ⟨_, rfl⟩
  have w0 : W[M.length]? = some (.box 25 p.cells) := by rw [hW]; simp
  have w1 : W[M.length + 1]? = some (.box 53 e.cells) := by rw [hW]; simp
  have wt : W[kt]? = some (.map (tabM t)) := by rw [hW]; exact get_app_old hkt _
  have wl : W.length = M.length + 2 := by rw [hW]; simp
  have wM : ∃ L, W = M ++ L := ⟨_, hW⟩
  simp only [Pg.cells, Ex.cells_eq] at cm hW w0
  have w1e : W[M.length + 1]? = some (.box 53 [I e.op, U e.word, St e.name, Ex.sl e.args]) := by rw [w1, Ex.cells_eq]
  simp -dsimp
  rw [← hW]
  refine acallsW_det (cm _) ?_
  by_cases hm : mayE p = 0
  rotate_left
  · rw [if_pos hm] at hZ
    have hne : (mayE p != 0) = true := by simpa using hm
    simp -dsimp [hne]
    exact fin _ _ _ hZ.symm wM
  rw [if_neg (fun h => h hm)] at hZ
  simp -dsimp [hm]
  have two : ∀ {q : Prop} [Decidable q], q → (if q then ((false, 2) : Bool × Int) else (match (0 : Nat) with | _ => Z)) = (false, 2) := fun h => if_pos h
  clear two
  refine guardVW_introFD (fun hlt => ?_) (fun hge => ?_)
  · rw [if_pos (.inl hlt)] at hZ
    simp -dsimp [hlt]
    exact fin _ _ _ hZ.symm wM
  simp -dsimp [hge, w0]
  refine condVW_introD (fun hle => ?_) (fun hle => ?_)
  · rw [if_pos (.inr hle)] at hZ
    simp -dsimp
    exact fin _ _ _ hZ.symm wM
  rw [if_neg (by omega)] at hZ
  obtain ⟨k, rfl⟩ : ∃ k : Nat, f = k := ⟨f.toNat, by omega⟩
  rw [Int.toNat_natCast] at hZ
  have hk : k < p.funcs.length := by omega
  have hfl := hpc.funcs
  obtain ⟨es, hes⟩ : ∃ es, es = p.funcs.map Fc.cells := ⟨_, rfl⟩
  have hesl : es.length = p.funcs.length := by rw [hes]; simp
  have hesn : es ≠ [] := fun h => by rw [h] at hesl; simp at hesl; omega
  have cc := cloneP_ok p hpc W
  have hB : fcB p.funcs = .row 37 5 es := by show ownB _ _ _ = _; rw [← hes, ownB, if_neg hesn]
  have hS : fcS W.length p.funcs = .hs W.length 0 p.funcs.length p.funcs.length := by show ownS _ _ = _; rw [← hes, ownS, if_neg hesn, hesl]
  rw [hB, hS] at cc
  simp only [Pg.cells] at cc
  simp -dsimp [w0]
  refine acallsW_of cc ?_
  rintro r M1 ⟨rfl, hM1⟩
  have a0 : M1[M.length]? = some (.box 25 [Rg.sl p.regions, Fc.sl p.funcs]) := by rw [hM1]; exact get_app_old w0 _
  have a1 : M1[M.length + 1]? = some (.box 53 e.cells) := by rw [hM1]; exact get_app_old w1 _
  have at' : M1[kt]? = some (.map (tabM t)) := by rw [hM1]; exact get_app_old wt _
  have aq : M1[W.length]? = some (.row 37 5 es) := by rw [hM1]; simp
  have al : M1.length = M.length + 3 := by rw [hM1]; simp; omega
  have aM : ∃ L, M1 = M ++ L := by obtain ⟨L, hL⟩ := wM; exact ⟨L ++ [.row 37 5 es], by rw [hM1, hL]; simp⟩
  clear hM1 cc
  have aq' : ∀ X, (M1 ++ [X])[W.length]? = some (.row 37 5 es) := fun X => get_app_old aq _
  have hw1 : IntKind.i64.wrap ((k : Int) + 1) = ((k + 1 : Nat) : Int) := wrapS (by omega)
  have htn : ((k : Int) + 1).toNat = k + 1 := by omega
  have hes0 : ∀ x, (M1 ++ [x])[M1.length]? = some x := fun x => by simp
  simp -dsimp [aq', hw1, hesl]
  refine ⟨⟨by omega, by omega⟩, ?_⟩
  simp -dsimp [aq', hw1, hesl, htn, hes0]
  obtain ⟨M2, hM2⟩ : ∃ M2, M2 = M1 ++ [.box 25 [Rg.sl p.regions, .hs W.length 0 (k + 1) p.funcs.length]] := ⟨_, rfl⟩
  have b0 : M2[M.length]? = some (.box 25 [Rg.sl p.regions, Fc.sl p.funcs]) := by rw [hM2]; exact get_app_old a0 _
  have b1 : M2[M.length + 1]? = some (.box 53 e.cells) := by rw [hM2]; exact get_app_old a1 _
  have bt : M2[kt]? = some (.map (tabM t)) := by rw [hM2]; exact get_app_old at' _
  have bq : M2[W.length]? = some (.row 37 5 es) := by rw [hM2]; exact get_app_old aq _
  have b3 : M2[M1.length]? = some (.box 25 [Rg.sl p.regions, .hs W.length 0 (k + 1) p.funcs.length]) := by rw [hM2]; simp
  have bl : M2.length = M.length + 4 := by rw [hM2]; simp; omega
  have bM : ∃ L, M2 = M ++ L := by obtain ⟨L, hL⟩ := aM; exact ⟨L ++ [.box 25 [Rg.sl p.regions, .hs W.length 0 (k + 1) p.funcs.length]], by rw [hM2, hL]; simp⟩
  rw [← hM2]
  clear hM2 hes0 aq'
  have hFk : p.funcs[k]? = some (fcAt p k) := (fcAt_get hk).1
  have hek : es[k]? = some [St (fcAt p k).name, Vr.sl (fcAt p k).params, Vr.sl (fcAt p k).vars, St.sl (fcAt p k).rets, Sm.sl (fcAt p k).body] := by rw [hes, List.getElem?_map, hFk]; rfl
  have hst : ∀ X, astore M2 (.rp W.length p.funcs.length k 4) [X] = some (M2.set W.length (.row 37 5 (lvRow p k X))) := fun X => by
    unfold astore
    simp only [bq]
    rw [if_pos hesl, hek]
    simp only [List.length_cons, List.length_nil]
    rw [if_pos (by omega), lvRow, ← hes]
    rfl
  have b1e := b1
  simp only [Ex.cells_eq] at b1e
  simp -dsimp [b3, b1e, bq, hesl, hst]
  refine ⟨by omega, ?_⟩
  have c3 : ∀ X, (M2.set W.length X)[M1.length]? = some (.box 25 [Rg.sl p.regions, .hs W.length 0 (k + 1) p.funcs.length]) := fun X => by rw [get_set_ne (by omega)]; exact b3
  simp -dsimp [bq, hesl, hek, hst, c3]
  obtain ⟨X, hX⟩ : ∃ X : AV, X = .vs 16 [[I 3, St ByteArray.empty, nilS, I e.op, U e.word, St e.name, Ex.sl e.args, I 0, U 0, St ByteArray.empty, nilS, nilS, U 0, U 0, nilS, nilS]] := ⟨_, rfl⟩
  rw [← hX]
  obtain ⟨M3, hM3⟩ : ∃ M3, M3 = M2.set W.length (.row 37 5 (lvRow p k X)) := ⟨_, rfl⟩
  rw [← hM3]
  have cmq := fun b hb hz M hM => lvmay_ok hp hk he b hb hz M W.length hM
  have cmq2 := cmq X (by
    rw [hX]
    refine Weak.vsR (WeakR.cons ?_ WeakR.nil)
    rw [lvS, Sm.cells_eq]
    repeat first | exact Weak.refl _ | exact Weak.nil _ | exact WeakL.nil | exact WeakR.nil | apply Weak.aggL | apply Weak.vsR | apply WeakL.cons | apply WeakR.cons) (by rw [hX]; simp [AV.frzB]) M3 (by rw [hM3]; exact get_set_eq bq)
  have d0 : M3[M.length]? = some (.box 25 [Rg.sl p.regions, Fc.sl p.funcs]) := by rw [hM3, get_set_ne (by omega)]; exact b0
  have d1 : M3[M.length + 1]? = some (.box 53 e.cells) := by rw [hM3, get_set_ne (by omega)]; exact b1
  have hktl := lt_of_get hkt
  have dt : M3[kt]? = some (.map (tabM t)) := by rw [hM3, get_set_ne (by omega)]; exact bt
  have dM : ∃ L, M3 = M ++ L := by
    obtain ⟨L, hL⟩ := bM
    rw [hM3, hL, List.set_append, if_neg (by omega)]
    exact ⟨_, rfl⟩
  have dl : M3.length = M.length + 4 := by rw [hM3, List.length_set]; exact bl
  clear hM3 hX cmq hst c3 bq b3 b0 b1 b1e bt bM hek
  refine acallsW_det cmq2 ?_
  clear cmq2
  by_cases hq : mayE (lvQ p k e) = 0
  rotate_left
  · rw [if_pos hq] at hZ
    have hne : (mayE (lvQ p k e) != 0) = true := by simpa using hq
    simp -dsimp [hne]
    exact fin _ _ _ hZ.symm dM
  rw [if_neg (fun h => h hq)] at hZ
  have hFm := (fcAt_get hk).2
  have eok := fun kg g H hg => enter_ok p k (fcAt p k) hFk (by omega) (by have := hpc.regions; omega) (by have := hpc.params _ hFm; omega) (by have := hpc.vars _ hFm; omega) kg g H hg
  simp only [Pg.cells] at eok
  obtain ⟨M4, hM4⟩ : ∃ M4, M4 = M3 ++ [.box 3 [I 0]] := ⟨_, rfl⟩
  have g4 : M4[M3.length]? = some (.box 3 [I 0]) := by rw [hM4]; simp
  simp -dsimp [hq, d0]
  rw [← hM4]
  refine acallsW_of (eok M3.length 0 M4 g4) ?_
  rintro r M5 ⟨L5, rfl, hM5, hC5⟩
  obtain ⟨kc, hkc⟩ : ∃ kc, kc = M4.length + 3 := ⟨_, rfl⟩
  obtain ⟨ka, hka⟩ : ∃ ka, ka = M4.length + 1 := ⟨_, rfl⟩
  obtain ⟨kw, hkw⟩ : ∃ kw, kw = M4.length + 2 := ⟨_, rfl⟩
  obtain ⟨kg, hkg⟩ : ∃ kg, kg = M3.length := ⟨_, rfl⟩
  have hM4l : M4.length = M.length + 5 := by rw [hM4]; simp; omega
  rw [← hkc, ← hka, ← hkw, ← hkg] at hC5
  have e1 : M5[M.length + 1]? = some (.box 53 e.cells) := by rw [hM5, hM4]; exact get_app_old (get_app_old d1 _) _
  have et : M5[kt]? = some (.map (tabM t)) := by rw [hM5, hM4]; exact get_app_old (get_app_old dt _) _
  have eM : ∃ L, M5 = M ++ L := by obtain ⟨L, hL⟩ := dM; rw [hM5, hM4, hL]; exact ⟨L ++ [.box 3 [I 0]] ++ L5, by simp⟩
  rw [← hkc]
  clear hM5 hM4 g4
  obtain ⟨M6, hM6⟩ : ∃ M6, M6 = M5 ++ [pcB kc] := ⟨_, rfl⟩
  have hC6 : CIn M6 kc ka kg kw p (arrT p.regions (fcAt p k)) (enterT (fcAt p k)) 0 := by rw [hM6]; exact hC5.app _
  have f1 : M6[M.length + 1]? = some (.box 53 e.cells) := by rw [hM6]; exact get_app_old e1 _
  have ft : M6[kt]? = some (.map (tabM t)) := by rw [hM6]; exact get_app_old et _
  have fp : M6[M5.length]? = some (pcB kc) := by rw [hM6]; simp
  have fM : ∃ L, M6 = M ++ L := by obtain ⟨L, hL⟩ := eM; rw [hM6, hL]; exact ⟨L ++ [pcB kc], by simp⟩
  have fl : M6.length = M5.length + 1 := by rw [hM6]; simp
  have ch := shas_ok t _ e (Nat.le_refl _) (by omega) M6 kt ft
  have f1e := f1
  simp only [Ex.cells_eq] at ch f1e
  simp -dsimp
  rw [show M5 ++ [Blk.box 138 [.bp kc 0]] = M6 from hM6.symm]
  clear hM6
  simp -dsimp [f1e]
  refine acallsW_det ch ?_
  cases hh : e.has (Keys t)
  · rw [if_pos hh] at hZ
    simp -dsimp
    exact fin _ _ _ hZ.symm fM
  rw [if_neg (by rw [hh]; decide)] at hZ
  have hkak : ka ≠ kt := by omega
  have hC7 := hC6.setC ft hkak
  obtain ⟨M7, hM7⟩ : ∃ M7, M7 = M6.set kc (.box 144 [Rg.sl p.regions, Fc.sl p.funcs, .hm ka, .hm kt, .bp kg 0]) := ⟨_, rfl⟩
  rw [← hM7] at hC7
  obtain ⟨l1, l2, l3, l4⟩ := hC5.lt
  have g1 : M7[M.length + 1]? = some (.box 53 e.cells) := by rw [hM7, get_set_ne (by omega)]; exact f1
  have gp : M7[M5.length]? = some (pcB kc) := by rw [hM7, get_set_ne (by omega)]; exact fp
  have gM : ∃ L, M7 = M ++ L := by
    obtain ⟨L, hL⟩ := fM
    rw [hM7, hL, List.set_append, if_neg (by omega)]
    exact ⟨_, rfl⟩
  have f6b := hC6.box
  simp -dsimp [fp, f6b]
  rw [← hM7]
  have hl7 : M7.length = M6.length := by rw [hM7, List.length_set]
  clear hM7
  obtain ⟨M8, hM8⟩ : ∃ M8, M8 = M7 ++ [.box 4 [Bo false]] := ⟨_, rfl⟩
  have hC8 : ∀ L, CIn (M8 ++ L) kc ka kg kt p (arrT p.regions (fcAt p k)) t 0 := fun L => by rw [hM8]; exact (hC7.app _).app _
  have i1 : M8[M.length + 1]? = some (.box 53 e.cells) := by rw [hM8]; exact get_app_old g1 _
  have ip : M8[M5.length]? = some (pcB kc) := by rw [hM8]; exact get_app_old gp _
  have ib : M8[M7.length]? = some (.box 4 [Bo false]) := by rw [hM8]; simp
  have iM : ∃ L, M8 = M ++ L := by obtain ⟨L, hL⟩ := gM; rw [hM8, hL]; exact ⟨L ++ [.box 4 [Bo false]], by simp⟩
  have il : M8.length = M7.length + 1 := by rw [hM8]; simp
  have hMl : M.length ≤ M7.length := by obtain ⟨L, hL⟩ := gM; rw [hL]; simp
  have hok1 : okFn Tryz.prog 68 = true := by kernel_rfl
  obtain ⟨y, hy⟩ : ∃ y : Rs, y = match e.lev t (arrT p.regions (fcAt p k)) with | none => .err 10 | some b => .ok t 0 := ⟨_, rfl⟩
  have ck := skept_ok 68 [.bp M5.length 0, .bp (M.length + 1) 0, .bp M7.length 0] M8 hok1 y (fun M' => ∃ L, M' = M ++ L)
    (fun M' => (∃ L, M' = M ++ L) ∧ ∀ b, e.lev t (arrT p.regions (fcAt p k)) = some b → M'[M7.length]? = some (.box 4 [Bo b]))
    (fun N X L h => by
      obtain ⟨L', rfl⟩ := h
      rw [List.set_append, if_neg (by omega), List.append_assoc]
      exact ⟨_, rfl⟩)
    (by
      refine ACalls.mono (lvl1_ok p e (by omega) (arrT p.regions (fcAt p k)) t 0 _ kc ka kg kt M5.length (M.length + 1) M7.length (hC8 _) (get_app_old ip _) (get_app_old i1 _) (get_app_old ib _)) ?_
      intro r M' hr
      have hM9 : ∃ L, M8 ++ [.box 40 [I 0]] = M ++ L := by obtain ⟨L, hL⟩ := iM; rw [hL]; exact ⟨L ++ [.box 40 [I 0]], by simp⟩
      cases hl : e.lev t (arrT p.regions (fcAt p k)) with
      | none =>
        rw [hl] at hr hy
        simp only at hr hy
        obtain ⟨rfl, rfl⟩ := hr
        subst hy
        exact ⟨by simp, rfl, hM9⟩
      | some b =>
        rw [hl] at hr hy
        simp only at hr hy
        obtain ⟨rfl, rfl⟩ := hr
        subst hy
        refine ⟨by rw [get_set_ne (by omega)]; simp, rfl, ?_, fun b' hb' => ?_⟩
        · obtain ⟨L, hL⟩ := hM9
          rw [hL, List.set_append, if_neg (by omega)]
          exact ⟨_, rfl⟩
        · obtain rfl := Option.some.inj hb'
          exact get_set_eq (get_app_old ib _))
  rw [← hM8]
  rw [hl7] at ck
  refine acallsW_of ck ?_
  intro r M9 h9
  cases hl : e.lev t (arrT p.regions (fcAt p k)) with
  | none =>
    rw [hl] at hy hZ
    simp only at hy hZ
    subst hy
    obtain ⟨rfl, hM9⟩ := h9
    simp -dsimp
    exact fin _ _ _ hZ.symm hM9
  | some b =>
    rw [hl] at hy hZ
    simp only at hy hZ
    subst hy
    obtain ⟨rfl, hM9, h9⟩ := h9
    have h9 := h9 b hl
    simp -dsimp [h9]
    exact fin _ _ _ hZ.symm hM9
end Go.Proofs
