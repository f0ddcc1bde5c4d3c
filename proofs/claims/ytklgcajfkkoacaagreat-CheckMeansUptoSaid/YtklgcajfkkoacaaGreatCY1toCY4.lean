/- Registers checked, by the program: its parts. -/
import Derived.Test.YtklgcajfkkoacaaGreatCWBtoRL6
set_option linter.unusedVariables false
set_option linter.unusedSimpArgs false
set_option maxHeartbeats 4000000
set_option maxRecDepth 100000
namespace Go.Proofs
open Go.Mu
abbrev ckB (l : Linear) (regs : List Int) (lv : AV) : Blk := .box 79 [I l.vars, Int.sl l.params, Int.sl l.rets, I l.frame, Line.sl l.code, Int.sl regs, lv]
abbrev wrongV (n : Int) : AV := .ifc 143 (.agg [I n])
def mustR (n : Int) (b : Bool) : AE := if b = true then .ret (.tup []) else .pan (wrongV n)
theorem cmust_ok (p : AV) (n : Int) (b : Bool) (H : List Blk) : ACalls Tryz.prog 77 [p, I n, Bo b] H (fun e H' => e = mustR n b ∧ H' = H) := by
  refine acalls_of_vc (hn := fun _ => false) (od := fun _ => none) Tryz.func77 rfl (by kernel_rfl) ?_
  cases b <;> simp -dsimp [mustR]
theorem chas1_ok (l : Linear) (regs : List Int) (lv : AV) (kp k tp : Nat) (v : Int) (hl : (regs.length : Int) = l.vars) (hv : 0 ≤ v ∧ v < l.vars) (H : List Blk) (hp : H[kp]? = some (.box tp [.bp k 0])) (hk : H[k]? = some (ckB l regs lv)) : ACalls Tryz.prog 114 [I v, .bp kp 0] H (fun e H' => e = .ret (Bo (decide (rg regs v < 0))) ∧ H' = H) := by
  refine acalls_of_vc (hn := fun _ => false) (od := fun _ => none) Tryz.func114 rfl (by kernel_rfl) ?_
  obtain ⟨r1, r2, r3⟩ := rg_at hl hv
  simp -dsimp [hp, hk]
  refine ⟨r2, ?_⟩
  simp -dsimp [hp, hk, r1]
theorem chas_ok (l : Linear) (regs : List Int) (lv : AV) (k : Nat) (vs : List Int) (hl : (regs.length : Int) = l.vars) (hv : ∀ v ∈ vs, 0 ≤ v ∧ v < l.vars) (hvl : vs.length ≤ 2^40) (H : List Blk) (hk : H[k]? = some (ckB l regs lv)) : ACalls Tryz.prog 78 [.bp k 0, Int.sl vs] H (fun e H' => e = .ret (Bo (vs.all fun v => decide (0 ≤ rg regs v))) ∧ H' = H) := by
  refine acalls_tidy (acalls_of_vc (hn := fun _ => false) (od := fun _ => none) Tryz.func78 rfl (by kernel_rfl) ?_)
  have hkl := lt_of_get hk
  have cf := int_containsF vs (fun v => decide (rg regs v < 0)) 114 [.bp H.length 0] (by kernel_rfl) hvl (H ++ [.box 77 [.bp k 0]]) (fun v hvm => chas1_ok l regs lv H.length k 77 v hl (hv v hvm) _ (by simp) (get_app_old hk _))
  have e : (vs.any fun v => decide (rg regs v < 0)) = !(vs.all fun v => decide (0 ≤ rg regs v)) := by
    rw [Bool.eq_iff_iff]
    simp only [List.any_eq_true, decide_eq_true_eq, Bool.not_eq_true', List.all_eq_false]
    exact ⟨fun ⟨x, hx, h⟩ => ⟨x, hx, by omega⟩, fun ⟨x, hx, h⟩ => ⟨x, hx, by omega⟩⟩
  rw [e] at cf
  simp -dsimp
  refine acallsW_det cf ?_
  simp -dsimp
  exact tidy_same rfl ⟨rfl, rfl⟩
theorem cahead_ok (l : Linear) (regs : List Int) (k : Nat) (i : Nat) (hi : i ≤ l.code.length) (H : List Blk) (hk : H[k]? = some (ckB l regs (Ints.sl (lvL l)))) : ACalls Tryz.prog 112 [.bp k 0, I i] H (fun e H' => e = .ret (Int.sl (if i = l.code.length then l.rets else liveL l i)) ∧ H' = H) := by
  refine acalls_of_vc (hn := fun _ => false) (od := fun _ => none) Tryz.func112 rfl (by kernel_rfl) ?_
  have hll : (lvL l).length = l.code.length := by unfold lvL; simp
  by_cases h : i = l.code.length
  · have hd : decide (l.code.length ≤ i) = true := decide_eq_true (by omega)
    rw [if_pos h]
    simp -dsimp [hk, hll, hd]
  · have hd : decide (l.code.length ≤ i) = false := decide_eq_false (by omega)
    have hg : (lvL l)[i]? = some (liveL l i) := by unfold lvL; rw [List.getElem?_map, List.getElem?_range (by omega)]; rfl
    rw [if_neg h]
    have hll := Hid.mk hll
    simp -dsimp [hk, hll.out, hd]
    simp -dsimp [hk, hg]
theorem cbeg1_ok (n : Int) (H : List Blk) : ACalls Tryz.prog 111 [I n] H (fun e H' => e = .ret (Bo (!(decide (-1 ≤ n) && decide (n < 11)))) ∧ H' = H) := by
  refine acalls_of_vc (hn := fun _ => false) (od := fun _ => none) Tryz.func111 rfl (by kernel_rfl) ?_
  by_cases h1 : n < -1
  · have d1 : decide (n < -1) = true := decide_eq_true h1
    have d2 : decide (-1 ≤ n) = false := decide_eq_false (by omega)
    simp -dsimp [d1, d2]
  · have d1 : decide (n < -1) = false := decide_eq_false h1
    have d2 : decide (-1 ≤ n) = true := decide_eq_true (by omega)
    have d3 : decide (11 ≤ n) = !decide (n < 11) := by rw [Bool.eq_iff_iff]; simp
    simp -dsimp [d1, d2, d3]
noncomputable def behRaw (l : Linear) (i : Nat) (x : Line) : List Int := if x.kind = 5 then l.rets else (nxt l i).flatMap fun k => if k.toNat = l.code.length then l.rets else liveL l k.toNat
theorem behRaw_mem {l : Linear} (ho : LinOk l) {i : Nat} {x : Line} (hx : l.code[i]? = some x) {v : Int} : v ∈ behRaw l i x ↔ v ∈ behL l i := by
  rw [behL_mem ho]
  unfold behRaw
  have hend : v ∈ l.rets ↔ LiveAt l l.code.length v := live_end.symm
  by_cases h5 : x.kind = 5
  · rw [if_pos h5]
    have : nxt l i = [(l.code.length : Int)] := by unfold nxt; rw [hx]; simp [h5]
    rw [this, hend]; simp
  · rw [if_neg h5, List.mem_flatMap]
    constructor
    · rintro ⟨k, hk, hv⟩
      refine ⟨k, hk, ?_⟩
      split at hv
      · rename_i e; rw [e]; exact hend.1 hv
      · exact (live_mem ho).1 hv
    · rintro ⟨k, hk, hv⟩
      refine ⟨k, hk, ?_⟩
      split
      · rename_i e; rw [e] at hv; exact hend.2 hv
      · exact (live_mem ho).2 hv
theorem behRaw_len (l : Linear) (hs : l.Sm) (ho : LinOk l) (i : Nat) (x : Line) (q : Nat) : (((nxt l i).take q).flatMap fun k => if k.toNat = l.code.length then l.rets else liveL l k.toNat).length ≤ 2^38 := by
  have h1 : ∀ (s : List Int), (s.flatMap fun k => if k.toNat = l.code.length then l.rets else liveL l k.toNat).length ≤ s.length * 2^36 := by
    intro s
    induction s with
    | nil => simp
    | cons a s ih =>
      have h2 : (if a.toNat = l.code.length then l.rets else liveL l a.toNat).length ≤ 2^36 := by
        split
        · exact hs.rets
        · have := liveL_len l a.toNat
          have := ho.vars
          omega
      rw [List.flatMap_cons, List.length_append, List.length_cons, Nat.succ_mul]
      omega
  have h3 := h1 ((nxt l i).take q)
  have h4 := nxt_len l i
  have h5 : ((nxt l i).take q).length ≤ 2 := by simp; omega
  have : ((nxt l i).take q).length * 2^36 ≤ 2 * 2^36 := Nat.mul_le_mul_right _ h5
  omega
theorem cbehind_ok (l : Linear) (hs : l.Sm) (hok : l.ok = true) (regs : List Int) (k : Nat) (i : Nat) (x : Line) (hx : l.code[i]? = some x) (H : List Blk) (hk : H[k]? = some (ckB l regs (Ints.sl (lvL l)))) : ACalls Tryz.prog 113 [.bp k 0, I i] H (fun e H' => e = .ret (Int.sl (behRaw l i x)) ∧ H' = H) := by
  have ho := ((ok_iff l).1 hok).1
  refine acalls_under fun hu _ => acalls_weakE (acalls_tidy (acalls_of_vc (hn := fun d => d == 44) (od := fun _ => none) Tryz.func113 rfl (by kernel_rfl) ?_))
  have hi : i < l.code.length := (List.getElem?_eq_some_iff.1 hx).1
  have hc := hs.code
  have cn := fun H => nexts_ok l hs hok i hi H
  simp only [Linear.cells] at cn
  have hi2 := Hid.mk hi
  have nl := nxt_len l i
  obtain ⟨E, hE⟩ : ∃ E, E = behRaw l i x := ⟨_, rfl⟩
  rw [← hE]
  unfold behRaw at hE
  by_cases h5 : x.kind = 5
  · have hkb : (x.kind == 5) = true := by simpa using h5
    rw [if_pos h5] at hE
    have hE := Hid.mk hE
    simp -dsimp [hk, hx, hkb]
    exact tidy_now rfl ⟨_, .refl _, by rw [hE.out], rfl⟩
  have hkb : (x.kind == 5) = false := by simpa using h5
  rw [if_neg h5] at hE
  have hE := Hid.mk hE
  simp -dsimp [hk, hx, hkb]
  refine acallsW_det (cn _) ?_
  simp -dsimp [hk, hx, hkb]
  refine loop_rule (hn := fun d => d == 44) (od := fun _ => none) (fun (q : Nat) f M => f 0 = .bp k 0 ∧ f 34 = Int.sl (nxt l i) ∧ f 35 = I (nxt l i).length ∧ f 36 = I q ∧ q ≤ (nxt l i).length ∧ ∃ h, f 7 = hrow h (((nxt l i).take q).flatMap fun k => if k.toNat = l.code.length then l.rets else liveL l k.toNat).length ∧ OwnI H M h (((nxt l i).take q).flatMap fun k => if k.toNat = l.code.length then l.rets else liveL l k.toNat)) (fun q => (nxt l i).length - q) (by kernel_rfl) 0 ⟨by simp, by simp, by simp, by simp, by omega, none, rfl, .nil1 _ _ _⟩ ?_
  rintro q f M ⟨f0, f34, f35, f36, hq, h, f7, ow⟩
  have r1 := ow.old hk
  simp -dsimp [f0, f34, f35, f36]
  refine condVW_introD (fun hlt => ?_) (fun hlt => ?_)
  · have hlt' : q < (nxt l i).length := by omega
    have hgk := List.getElem?_eq_getElem hlt'
    have hkm : (nxt l i)[q] ∈ nxt l i := List.getElem_mem hlt'
    have hki := nxt_in ho hkm
    have htk : (nxt l i).take (q + 1) = (nxt l i).take q ++ [(nxt l i)[q]] := List.take_succ_eq_append_getElem hlt'
    obtain ⟨kz, hkz⟩ : ∃ kz, kz = (nxt l i)[q] := ⟨_, rfl⟩
    rw [← hkz] at hgk hkm hki htk
    clear hkz
    obtain ⟨j, rfl⟩ : ∃ j : Nat, kz = j := ⟨kz.toNat, by omega⟩
    have ca := cahead_ok l regs k j (by omega) M r1
    have b0 := behRaw_len l hs ho i x q
    have b1 : (if j = l.code.length then l.rets else liveL l j).length ≤ 2^36 := by
      split
      · exact hs.rets
      · have := liveL_len l j
        have := ho.vars
        omega
    have hsucc : (((nxt l i).take (q + 1)).flatMap fun k => if k.toNat = l.code.length then l.rets else liveL l k.toNat) = (((nxt l i).take q).flatMap fun k => if k.toNat = l.code.length then l.rets else liveL l k.toNat) ++ (if j = l.code.length then l.rets else liveL l j) := by rw [htk]; simp
    obtain ⟨pr, hpr⟩ : ∃ pr, pr = ((nxt l i).take q).flatMap fun k => if k.toNat = l.code.length then l.rets else liveL l k.toNat := ⟨_, rfl⟩
    obtain ⟨ad, had⟩ : ∃ ad, ad = if j = l.code.length then l.rets else liveL l j := ⟨_, rfl⟩
    rw [← hpr, ← had] at hsucc
    rw [← hpr] at ow f7 b0
    rw [← had] at ca b1
    have hsucc := Hid.mk hsucc
    have hpr := Hid.mk hpr
    have had := Hid.mk had
    simp -dsimp [f0, f7, f34, f35, f36, hgk]
    refine acallsW_det ca ?_
    simp -dsimp [f0, f7, f34, f35, f36, hgk]
    refine app_own ow (by simp) rfl rfl (by simp; omega) (by simp; omega) ?_
    intro h' M' ow' _
    have ow2 : OwnI H M' h' (pr ++ ad) := by unfold OwnI; rw [List.map_append]; exact ow'
    have e : (pr.map (fun n => [I n]) ++ ad.map (fun n => [I n])).length = (pr ++ ad).length := by simp
    rw [e]
    rw [← hsucc.out] at ow2 ⊢
    simp -dsimp [f0, f34, f35, f36]
    exact ⟨q + 1, by omega, wrapS (by omega), by omega, h', rfl, ow2⟩
  · rw [List.take_of_length_le (by omega), ← hE.out] at ow f7
    simp -dsimp [f7]
    exact tidy_rowA hu ow (int_frzB _) (by simp) ⟨rfl, rfl⟩
end Go.Proofs
namespace Go.Proofs
open Go.Mu
def OfI (l : Linear) (regs : List Int) (i : Nat) (t : List (Int × Int)) : Prop := ∀ r p, ilook r t = some p ↔ p ∈ l.params.take i ∧ rg regs p = r
def OfM (l : Linear) (regs : List Int) (H : List Blk) (i : Nat) (M : List Blk) : Prop := ∃ t, M = H ++ [.map (atM t)] ∧ OfI l regs i t
theorem mustR_t (n : Int) : mustR n true = .ret (.tup []) := rfl
theorem mustR_f (n : Int) : mustR n false = .pan (wrongV n) := rfl
theorem cmust_to (p : AV) (n : Int) (b : Bool) (H : List Blk) : ACalls Tryz.prog 77 [p, I n, Bo b] H (fun e H' => e = mustR n b ∧ H = H') := (cmust_ok p n b H).mono fun e H' h => ⟨h.1, h.2.symm⟩
def BegR (l : Linear) (regs : List Int) (H : List Blk) (e : AE) (M : List Blk) : Prop := e = mustR (-1) (begOk l regs) ∧ ∃ L, M = H ++ L
theorem cbeg_ok (l : Linear) (hs : l.Sm) (hok : l.ok = true) (regs : List Int) (hrl : regs.length ≤ 2^36) (k : Nat) (H : List Blk) (hk : H[k]? = some (ckB l regs (Ints.sl (lvL l)))) : ACalls Tryz.prog 75 [.bp k 0] H (BegR l regs H) := by
  have ho := ((ok_iff l).1 hok).1
  refine acalls_of_vc (hn := fun d => d == 23) (od := fun _ => none) Tryz.func75 rfl (by kernel_rfl) ?_
  have hv := ho.vars
  have hp := hs.params
  have e23 : (fun d => d == 23 : Nat → Bool) 23 = true := rfl
  have cm := fun b H => cmust_to (.bp k 0) (-1) b H
  have hEQ := @beg_iff l ho regs
  obtain ⟨E, hE⟩ : ∃ E, E = begOk l regs := ⟨_, rfl⟩
  rw [← hE] at hEQ
  have yes : RBeg l regs → ∀ L, BegR l regs H (.ret (.tup [])) (H ++ L) := fun h L => ⟨by rw [← hE, hEQ.2 h]; rfl, L, rfl⟩
  have no : ¬ RBeg l regs → ∀ L, BegR l regs H (.pan (wrongV (-1))) (H ++ L) := fun h L => ⟨by
    have : E = false := by rw [Bool.eq_false_iff]; exact fun q => h (hEQ.1 q)
    rw [← hE, this]; rfl, L, rfl⟩
  have yes0 := fun h => yes h []
  have no0 := fun h => no h []
  rw [List.append_nil] at yes0 no0
  replace yes := Hid.mk yes
  replace no := Hid.mk no
  replace yes0 := Hid.mk yes0
  replace no0 := Hid.mk no0
  clear hEQ
  replace hE := Hid.mk hE
  simp -dsimp [hk]
  refine acallsW_of (cm _ _) ?_
  rintro e _ ⟨rfl, rfl⟩
  by_cases hlen : (regs.length : Int) = l.vars
  rotate_left
  · have hlb : ((regs.length : Int) == l.vars) = false := by simpa using hlen
    simp -dsimp [hlb, mustR_f]
    exact no0.out (fun h => hlen h.len)
  have hlb : ((regs.length : Int) == l.vars) = true := by simpa using hlen
  have hlen := Hid.mk hlen
  -- each is a register's number, or none
  have cf := fun H => int_containsF regs (fun n => !(decide (-1 ≤ n) && decide (n < 11))) 111 [] (by kernel_rfl) (by omega) H (fun n _ => cbeg1_ok n H)
  obtain ⟨R1, hR1⟩ : ∃ R1, R1 = regs.any fun n => !(decide (-1 ≤ n) && decide (n < 11)) := ⟨_, rfl⟩
  rw [← hR1] at cf
  simp -dsimp [hlb, mustR_t, hk]
  refine acallsW_det (cf _) ?_
  simp -dsimp [hk]
  refine acallsW_of (cm _ _) ?_
  rintro e _ ⟨rfl, rfl⟩
  cases R1
  rotate_left
  · simp -dsimp [mustR_f]
    refine no0.out (fun h => ?_)
    obtain ⟨n, hn, hb⟩ := List.any_eq_true.1 hR1.symm
    have := h.rng n hn
    simp at hb; omega
  have hrng : Hid (∀ n ∈ regs, -1 ≤ n ∧ n < 11) := ⟨fun n hn => by
    have := List.any_eq_false.1 hR1.symm n hn
    simpa using this⟩
  clear hR1 cf
  -- parameters have registers, and what is live
  have c1 := fun H h => chas_ok l regs (Ints.sl (lvL l)) k l.params hlen.out ho.params (by omega) H h
  have cah := cahead_ok l regs k 0 (by omega) H hk
  obtain ⟨li, hli⟩ : ∃ li, li = if 0 = l.code.length then l.rets else liveL l 0 := ⟨_, rfl⟩
  have hlm : ∀ v, v ∈ li ↔ v ∈ liveL l 0 := fun v => by
    rw [hli]
    split
    · rename_i h0
      rw [live_mem ho, h0]; exact live_end.symm
    · exact Iff.rfl
  have hlil : li.length ≤ 2^36 := by
    rw [hli]
    split
    · exact hs.rets
    · have := liveL_len l 0
      omega
  have hlin : ∀ v ∈ li, 0 ≤ v ∧ v < l.vars := fun v hv => ((liveL_mem l 0 v).1 ((hlm v).1 hv)).1
  rw [← hli] at cah
  have hliE := Hid.mk hli
  clear hli
  have c2 := fun H h => chas_ok l regs (Ints.sl (lvL l)) k li hlen.out hlin (by omega) H h
  have rgp := fun p hp => rg_at hlen.out (ho.params p hp)
  have rgl := fun v hv => rg_at hlen.out (hlin v hv)
  replace rgp := Hid.mk rgp
  replace rgl := Hid.mk rgl
  have hlm := Hid.mk hlm
  have hlin := Hid.mk hlin
  obtain ⟨P1, hP1⟩ : ∃ P1, P1 = l.params.all fun v => decide (0 ≤ rg regs v) := ⟨_, rfl⟩
  obtain ⟨P2, hP2⟩ : ∃ P2, P2 = li.all fun v => decide (0 ≤ rg regs v) := ⟨_, rfl⟩
  rw [← hP1] at c1
  rw [← hP2] at c2
  simp -dsimp [mustR_t, hk]
  refine acallsW_det (c1 _ hk) ?_
  cases P1
  · simp -dsimp [hk]
    refine acallsW_of (cm _ _) ?_
    rintro e _ ⟨rfl, rfl⟩
    simp -dsimp [mustR_f]
    refine no0.out (fun h => ?_)
    obtain ⟨p, hp, hb⟩ := List.all_eq_false.1 hP1.symm
    have := h.has p hp
    simp at hb; omega
  have hhas : Hid (∀ p ∈ l.params, 0 ≤ rg regs p) := ⟨fun p hp => by simpa using List.all_eq_true.1 hP1.symm p hp⟩
  clear hP1 c1
  simp -dsimp [hk]
  refine acallsW_det cah ?_
  simp -dsimp [hk]
  refine acallsW_det (c2 _ hk) ?_
  simp -dsimp [hk]
  refine acallsW_of (cm _ _) ?_
  rintro e _ ⟨rfl, rfl⟩
  cases P2
  · simp -dsimp [mustR_f]
    refine no0.out (fun h => ?_)
    obtain ⟨v, hv, hb⟩ := List.all_eq_false.1 hP2.symm
    have h2 : 0 ≤ rg regs v := by
      by_cases hvp : v ∈ l.params
      · exact h.has v hvp
      · exact (h.live v ((hlm.out v).1 hv) hvp).1
    simp at hb; omega
  have hlive : Hid (∀ v ∈ li, 0 ≤ rg regs v) := ⟨fun p hp => by simpa using List.all_eq_true.1 hP2.symm p hp⟩
  clear hP2 c2
  have hkL : ∀ X, (H ++ [X])[k]? = some (ckB l regs (Ints.sl (lvL l))) := fun X => get_app_old hk _
  simp -dsimp [mustR_t, hk, hkL]
  refine loop_rule (hn := fun d => d == 23) (od := fun _ => none) (fun (i : Nat) f M => OfM l regs H i M ∧ f 0 = .bp k 0 ∧ f 2 = .hm H.length ∧ f 52 = Int.sl l.params ∧ f 53 = I l.params.length ∧ f 54 = I i ∧ i ≤ l.params.length ∧ Hid ((l.params.take i).map (rg regs)).Nodup) (fun i => l.params.length - i) (by kernel_rfl) 0 (by refine ⟨⟨[], by simp [atM], fun r p => by simp [ilook]⟩, by simp, by simp, by simp, by simp, by simp, by omega, ⟨by simp⟩⟩) ?_
  rintro i f _ ⟨⟨t, rfl, hof⟩, f0, f2, f52, f53, f54, hi, hnd⟩
  have hme : ∀ t, mapEs (H ++ [.map (atM t)]) (.hm H.length) = some (atM t) := fun t => by simp [mapEs]
  have hset : ∀ X Y : Blk, (H ++ [X]).set H.length Y = H ++ [Y] := fun X Y => by simp
  simp -dsimp [f0, f2, f52, f53, f54]
  refine condVW_introD (fun hlt => ?_) (fun hlt => ?_)
  · have hlt' : i < l.params.length := by omega
    have hx := List.getElem?_eq_getElem hlt'
    have hm := List.getElem_mem hlt'
    have htk : l.params.take (i + 1) = l.params.take i ++ [l.params[i]] := List.take_succ_eq_append_getElem hlt'
    obtain ⟨p, hpp⟩ : ∃ p, p = l.params[i] := ⟨_, rfl⟩
    rw [← hpp] at hx hm htk
    clear hpp
    obtain ⟨r1, r2, r3⟩ := rgp.out p hm
    have hf := atM_find (rg regs p) t
    have hst := atM_set (rg regs p) p t
    have hm := Hid.mk hm
    simp -dsimp [f0, f2, f52, f53, f54, hx, hkL]
    refine ⟨r2, ?_⟩
    simp -dsimp [f0, f2, f52, f53, f54, hx, hkL, r1, hme, hf]
    refine acallsW_of (cm _ _) ?_
    rintro e _ ⟨rfl, rfl⟩
    cases hlk : ilook (rg regs p) t with
    | some q =>
      simp -dsimp [mustR_f]
      refine no.out (fun h => ?_) _
      obtain ⟨q1, q2⟩ := (hof _ _).1 hlk
      obtain ⟨j, hj⟩ := List.mem_iff_getElem?.1 q1
      have hji : j < i := by have := (List.getElem?_eq_some_iff.1 hj).1; simp at this; omega
      rw [List.getElem?_take_of_lt hji] at hj
      exact h.once i j p q hx hj (by omega) q2
    | none =>
      simp -dsimp [mustR_t, f0, f2, f52, f53, f54, hx, hkL]
      refine ⟨r2, ?_⟩
      simp -dsimp [f0, f2, f52, f53, f54, hx, hkL, r1, hme, hst, hset]
      refine ⟨i + 1, by omega, ⟨iset (rg regs p) p t, rfl, fun r q => ?_⟩, wrapS (by omega), by omega, ⟨?_⟩⟩
      · rw [ilook_set, htk]
        by_cases e : r = rg regs p
        · rw [if_pos e]
          constructor
          · intro h
            rw [Option.some.injEq] at h
            subst h; exact ⟨by simp, e.symm⟩
          · rintro ⟨h1, h2⟩
            rcases List.mem_append.1 h1 with h1 | h1
            · have := (hof r q).2 ⟨h1, h2⟩
              rw [e, hlk] at this; cases this
            · rw [List.mem_singleton] at h1; rw [h1]
        · rw [if_neg e, hof]
          constructor
          · exact fun h => ⟨List.mem_append_left _ h.1, h.2⟩
          · rintro ⟨h1, h2⟩
            rcases List.mem_append.1 h1 with h1 | h1
            · exact ⟨h1, h2⟩
            · rw [List.mem_singleton] at h1; subst h1; exact absurd h2.symm e
      · first | rw [← List.map_take] | skip
        rw [htk, List.map_append, List.nodup_append]
        refine ⟨hnd.out, by simp, fun a ha b hb e => ?_⟩
        obtain ⟨q, hq, rfl⟩ := List.mem_map.1 ha
        have := (hof (rg regs q) q).2 ⟨hq, rfl⟩
        simp only [List.map_cons, List.map_nil, List.mem_singleton] at hb
        rw [e, hb, hlk] at this; cases this
  have hond : Hid (l.params.map (rg regs)).Nodup := ⟨by have := hnd.out; rwa [List.take_of_length_le (by omega)] at this⟩
  replace hof : Hid (∀ r p, ilook r t = some p ↔ p ∈ l.params ∧ rg regs p = r) := ⟨fun r p => by have := hof r p; rwa [List.take_of_length_le (by omega)] at this⟩
  clear hnd
  have cah2 := cahead_ok l regs k 0 (by omega) (H ++ [.map (atM t)]) (hkL _)
  simp -dsimp [f0, f2]
  have cah3 : ACalls Tryz.prog 112 [.bp k 0, I 0] (H ++ [.map (atM t)]) (fun e H' => e = .ret (Int.sl li) ∧ H' = H ++ [.map (atM t)]) := by rw [← hliE.out] at cah2; exact cah2
  refine acallsW_det cah3 ?_
  simp -dsimp [f0, f2]
  refine loop_rule (hn := fun d => d == 23) (od := fun _ => none) (fun (n : Nat) f M => H ++ [.map (atM t)] = M ∧ f 0 = .bp k 0 ∧ f 2 = .hm H.length ∧ f 85 = Int.sl li ∧ f 86 = I li.length ∧ f 87 = I n ∧ n ≤ li.length ∧ Hid (∀ v ∈ li.take n, ∀ p, ilook (rg regs v) t = some p → p = v)) (fun n => li.length - n) (by kernel_rfl) 0 (by refine ⟨rfl, by simp [f0], by simp [f2], by simp, by simp, by simp, by omega, ⟨by simp⟩⟩) ?_
  clear f0 f2 f52 f53 f54 f
  rintro n f _ ⟨rfl, f0, f2, f85, f86, f87, hn, hall⟩
  simp -dsimp [f0, f2, f85, f86, f87]
  refine condVW_introD (fun hlt2 => ?_) (fun hlt2 => ?_)
  · have hlt2' : n < li.length := by omega
    have hx := List.getElem?_eq_getElem hlt2'
    have hm := List.getElem_mem hlt2'
    obtain ⟨v, hvv⟩ : ∃ v, v = li[n] := ⟨_, rfl⟩
    rw [← hvv] at hx hm
    clear hvv
    obtain ⟨r1, r2, r3⟩ := rgl.out v hm
    have hf := atM_find (rg regs v) t
    have hm := Hid.mk hm
    have nx := fun hp => snoc_all hx hall.out hp
    replace nx := Hid.mk nx
    simp -dsimp [f0, f2, f85, f86, f87, hx, hkL]
    refine ⟨r2, ?_⟩
    cases hlk : ilook (rg regs v) t with
    | none =>
      rw [hlk] at hf
      simp -dsimp [f0, f2, f85, f86, f87, hx, hkL, r1, hme, hf]
      refine acallsW_of (cm _ _) ?_
      rintro e _ ⟨rfl, rfl⟩
      simp -dsimp [mustR_t, f0, f2, f85, f86, f87]
      exact ⟨n + 1, by omega, wrapS (by omega), by omega, ⟨nx.out (fun p h => by rw [hlk] at h; cases h)⟩⟩
    | some p =>
      rw [hlk] at hf
      simp -dsimp [f0, f2, f85, f86, f87, hx, hkL, r1, hme, hf]
      refine acallsW_of (cm _ _) ?_
      rintro e _ ⟨rfl, rfl⟩
      by_cases hpv : p = v
      · have e1 : (p == v) = true := by simpa using hpv
        simp -dsimp [e1, mustR_t, f0, f2, f85, f86, f87]
        exact ⟨n + 1, by omega, wrapS (by omega), by omega, ⟨nx.out (fun q h => by rw [hlk, Option.some.injEq] at h; rw [← h]; exact hpv)⟩⟩
      · have e1 : (p == v) = false := by simpa using hpv
        simp -dsimp [e1, mustR_f]
        refine no.out (fun h => ?_) _
        obtain ⟨q1, q2⟩ := (hof.out _ _).1 hlk
        by_cases hvp : v ∈ l.params
        · obtain ⟨i1, hi1⟩ := List.mem_iff_getElem?.1 hvp
          obtain ⟨i2, hi2⟩ := List.mem_iff_getElem?.1 q1
          exact h.once i1 i2 v p hi1 hi2 (fun e => hpv (by rw [e, hi1, Option.some.injEq] at hi2; exact hi2.symm)) q2
        · exact (h.live v ((hlm.out v).1 hm.out) hvp).2 p q1 q2
  · simp -dsimp
    refine yes.out ⟨hlen.out, hrng.out, hhas.out, fun i1 i2 p q h1 h2 hne he => ?_, fun v hv hvp => ⟨hlive.out v ((hlm.out v).2 hv), fun p hp he => ?_⟩⟩ _
    · have e1 : (l.params.map (rg regs))[i1]? = some (rg regs p) := by rw [List.getElem?_map, h1]; rfl
      have e2 : (l.params.map (rg regs))[i2]? = some (rg regs p) := by rw [List.getElem?_map, h2, ← he]; rfl
      obtain ⟨a1, a2⟩ := List.getElem?_eq_some_iff.1 e1
      obtain ⟨b1, b2⟩ := List.getElem?_eq_some_iff.1 e2
      exact hne ((List.getElem_inj hond.out).1 (b2.trans a2.symm))
    · have := hall.out v (by rw [List.take_of_length_le (by omega)]; exact (hlm.out v).2 hv) p ((hof.out _ _).2 ⟨hp, he⟩)
      subst this
      exact hvp hp
end Go.Proofs
namespace Go.Proofs
open Go.Mu
def LineR (l : Linear) (regs : List Int) (i : Nat) (H : List Blk) (e : AE) (M : List Blk) : Prop := e = mustR i (rightOk l regs i) ∧ ∃ L, M = H ++ L
theorem cline_ok (l : Linear) (hs : l.Sm) (hok : l.ok = true) (regs : List Int) (hrl : regs.length ≤ 2^36) (hlen : (regs.length : Int) = l.vars) (k : Nat) (i : Nat) (hi : i < l.code.length) (H : List Blk) (hk : H[k]? = some (ckB l regs (Ints.sl (lvL l)))) : ACalls Tryz.prog 76 [.bp k 0, I i] H (LineR l regs i H) := by
  have ho := ((ok_iff l).1 hok).1
  refine acalls_of_vc (hn := fun d => d == 86) (od := fun _ => none) Tryz.func76 rfl (by kernel_rfl) ?_
  obtain ⟨x, hx⟩ : ∃ x, l.code[i]? = some x := ⟨_, List.getElem?_eq_getElem hi⟩
  have hlx := ho.lines x (List.mem_of_getElem? hx)
  obtain ⟨_, ui, di⟩ := line_in hlx
  have hv := ho.vars
  have ul := uses_len x
  have dl := defs_len x
  have cu := fun H => uses_ok x H
  have cm := fun b H => cmust_to (.bp k 0) i b H
  have c1 := fun H h => chas_ok l regs (Ints.sl (lvL l)) k x.uses hlen (fun v hv => ui v ((riseL_mem _ _).1 hv)) (by omega) H h
  have c2 := fun H h => chas_ok l regs (Ints.sl (lvL l)) k x.defs hlen di (by omega) H h
  have cb := fun H h => cbehind_ok l hs hok regs k i x hx H h
  have bin := fun v (hv : v ∈ behRaw l i x) => rg_at hlen (behL_in ho ((behRaw_mem ho hx).1 hv))
  have din := fun v (hv : v ∈ x.defs) => rg_at hlen (di v hv)
  have bll : (behRaw l i x).length ≤ 2^38 := by
    unfold behRaw
    split
    · have := hs.rets; omega
    · have := behRaw_len l hs ho i x (nxt l i).length
      rwa [List.take_of_length_le (Nat.le_refl _)] at this
  have bm := fun v => behRaw_mem (v := v) ho hx
  simp only [Line.cells] at cu
  have hEQ := @right_iff l regs i x hx
  obtain ⟨E, hE⟩ : ∃ E, E = rightOk l regs i := ⟨_, rfl⟩
  rw [← hE] at hEQ
  have yes : RRight l regs i x → ∀ L, LineR l regs i H (.ret (.tup [])) (H ++ L) := fun h L => ⟨by rw [← hE, hEQ.2 h]; rfl, L, rfl⟩
  have no : ¬ RRight l regs i x → ∀ L, LineR l regs i H (.pan (wrongV i)) (H ++ L) := fun h L => ⟨by
    have : E = false := by rw [Bool.eq_false_iff]; exact fun q => h (hEQ.1 q)
    rw [← hE, this]; rfl, L, rfl⟩
  replace yes := Hid.mk yes
  replace no := Hid.mk no
  have ui := Hid.mk ui
  have di := Hid.mk di
  have bin := Hid.mk bin
  have din := Hid.mk din
  have bm := Hid.mk bm
  have hi2 := Hid.mk hi
  have hE := Hid.mk hE
  clear hEQ
  obtain ⟨us, hus⟩ : ∃ us, us = x.uses := ⟨_, rfl⟩
  obtain ⟨df, hdf⟩ : ∃ df, df = x.defs := ⟨_, rfl⟩
  obtain ⟨bh, hbh⟩ : ∃ bh, bh = behRaw l i x := ⟨_, rfl⟩
  rw [← hus, ← hdf] at cu
  rw [← hus] at c1
  rw [← hdf] at c2 din dl
  rw [← hbh] at cb bin bll bm
  have hus := Hid.mk hus
  have hdf := Hid.mk hdf
  have hbh := Hid.mk hbh
  obtain ⟨P1, hP1⟩ : ∃ P1, P1 = us.all fun v => decide (0 ≤ rg regs v) := ⟨_, rfl⟩
  obtain ⟨P2, hP2⟩ : ∃ P2, P2 = df.all fun v => decide (0 ≤ rg regs v) := ⟨_, rfl⟩
  rw [← hP1] at c1
  rw [← hP2] at c2
  obtain ⟨N, hN⟩ : ∃ N, N = H ++ [Blk.box 67 [I x.kind, I x.ins.kind, I x.ins.op, I x.ins.d, I x.ins.a, I x.ins.b, I x.ins.c, U x.ins.word, Bo x.ins.stack, I x.var, I x.label]] := ⟨_, rfl⟩
  have hkL : N[k]? = some (ckB l regs (Ints.sl (lvL l))) := by rw [hN]; exact get_app_old hk _
  have hXL : N[H.length]? = some (Blk.box 67 [I x.kind, I x.ins.kind, I x.ins.op, I x.ins.d, I x.ins.a, I x.ins.b, I x.ins.c, U x.ins.word, Bo x.ins.stack, I x.var, I x.label]) := by rw [hN]; simp
  simp -dsimp [hk, hx]
  rw [← hN]
  have hN := Hid.mk hN
  refine acallsW_det (cu _) ?_
  simp -dsimp [hk, hx, hXL]
  refine acallsW_det (c1 _ hkL) ?_
  cases P1
  · simp -dsimp
    refine acallsW_of (cm _ _) ?_
    rintro e _ ⟨rfl, rfl⟩
    simp -dsimp [mustR_f]
    rw [hN.out]
    refine no.out (fun h => ?_) _
    obtain ⟨v, hv, hb⟩ := List.all_eq_false.1 hP1.symm
    have := h.uses v (by rw [← hus.out]; exact hv)
    simp at hb; omega
  have huses : Hid (∀ v ∈ us, 0 ≤ rg regs v) := ⟨fun p hp => by simpa using List.all_eq_true.1 hP1.symm p hp⟩
  clear hP1 c1
  simp -dsimp
  refine acallsW_det (c2 _ hkL) ?_
  simp -dsimp
  refine acallsW_of (cm _ _) ?_
  rintro e _ ⟨rfl, rfl⟩
  cases P2
  · simp -dsimp [mustR_f]
    rw [hN.out]
    refine no.out (fun h => ?_) _
    obtain ⟨v, hv, hb⟩ := List.all_eq_false.1 hP2.symm
    have := (h.defs v (by rw [← hdf.out]; exact hv)).1
    simp at hb; omega
  have hdefs : Hid (∀ v ∈ df, 0 ≤ rg regs v) := ⟨fun p hp => by simpa using List.all_eq_true.1 hP2.symm p hp⟩
  clear hP2 c2
  simp -dsimp [mustR_t]
  refine loop_rule (hn := fun d => d == 86) (od := fun _ => none) (fun (n : Nat) f M => N = M ∧ f 0 = .bp k 0 ∧ f 1 = I i ∧ f 4 = .bp H.length 0 ∧ f 36 = Int.sl df ∧ f 37 = I df.length ∧ f 38 = I n ∧ n ≤ df.length ∧ Hid (∀ d ∈ df.take n, ∀ b ∈ bh, b ≠ d → rg regs b = rg regs d → x.ins.kind = 2 ∧ x.ins.a = b)) (fun n => df.length - n) (by kernel_rfl) 0 (by refine ⟨rfl, by simp, by simp, by simp, by simp, by simp, by simp, by omega, ⟨by simp⟩⟩) ?_
  rintro n f _ ⟨rfl, f0, f1, f4, f36, f37, f38, hn, hall⟩
  simp -dsimp [f0, f1, f4, f36, f37, f38]
  refine condVW_introD (fun hlt => ?_) (fun hlt => ?_)
  rotate_left
  · simp -dsimp
    rw [hN.out]
    refine yes.out ⟨fun v hv => huses.out v (by rw [hus.out]; exact hv), fun d hd => ⟨hdefs.out d (by rw [hdf.out]; exact hd), fun b hb => ?_⟩⟩ _
    exact hall.out d (by rw [List.take_of_length_le (by omega), hdf.out]; exact hd) b ((bm.out b).2 hb)
  have hlt' : n < df.length := by omega
  have hxn := List.getElem?_eq_getElem hlt'
  have hm := List.getElem_mem hlt'
  obtain ⟨d, hd⟩ : ∃ d, d = df[n] := ⟨_, rfl⟩
  rw [← hd] at hxn hm
  clear hd
  obtain ⟨r1, r2, r3⟩ := din.out d hm
  have hm := Hid.mk hm
  have nx := fun hp => snoc_all hxn hall.out hp
  replace nx := Hid.mk nx
  simp -dsimp [f0, f1, f4, f36, f37, f38, hxn]
  refine acallsW_det (cb _ hkL) ?_
  simp -dsimp [f0, f1, f4, f36, f37, f38, hxn]
  refine loop_rule (hn := fun d => d == 86) (od := fun _ => none) (fun (q : Nat) f M => N = M ∧ f 0 = .bp k 0 ∧ f 1 = I i ∧ f 4 = .bp H.length 0 ∧ f 8 = I d ∧ f 36 = Int.sl df ∧ f 37 = I df.length ∧ f 38 = I n ∧ f 44 = Int.sl bh ∧ f 45 = I bh.length ∧ f 46 = I q ∧ q ≤ bh.length ∧ Hid (∀ b ∈ bh.take q, b ≠ d → rg regs b = rg regs d → x.ins.kind = 2 ∧ x.ins.a = b)) (fun q => bh.length - q) (by kernel_rfl) 0 (by refine ⟨rfl, by simp [f0], by simp [f1], by simp [f4], by simp, by simp [f36], by simp [f37], by simp [f38], by simp, by simp, by simp, by omega, ⟨by simp⟩⟩) ?_
  clear f0 f1 f4 f36 f37 f38 f
  rintro q f _ ⟨rfl, f0, f1, f4, f8, f36, f37, f38, f44, f45, f46, hq, hin⟩
  simp -dsimp [f0, f1, f4, f8, f36, f37, f38, f44, f45, f46]
  refine condVW_introD (fun hlt2 => ?_) (fun hlt2 => ?_)
  rotate_left
  · simp -dsimp [f0, f1, f4, f36, f37, f38]
    exact ⟨n + 1, by omega, wrapS (by omega), by omega, ⟨nx.out (fun b hb => hin.out b (by rw [List.take_of_length_le (by omega)]; exact hb))⟩⟩
  have hlt2' : q < bh.length := by omega
  have hy := List.getElem?_eq_getElem hlt2'
  have hmy := List.getElem_mem hlt2'
  obtain ⟨b, hbb⟩ : ∃ b, b = bh[q] := ⟨_, rfl⟩
  rw [← hbb] at hy hmy
  clear hbb
  obtain ⟨s1, s2, s3⟩ := bin.out b hmy
  have hmy := Hid.mk hmy
  have nxk := fun hp => snoc_all hy hin.out hp
  replace nxk := Hid.mk nxk
  have bad : ¬ (x.ins.kind = 2 ∧ x.ins.a = b) → b ≠ d → rg regs b = rg regs d → ¬ RRight l regs i x := fun h h1 h2 q => h ((q.defs d (by rw [← hdf.out]; exact hm.out)).2 b ((bm.out b).1 hmy.out) h1 h2)
  replace bad := Hid.mk bad
  have next : (b ≠ d → rg regs b = rg regs d → x.ins.kind = 2 ∧ x.ins.a = b) → ∃ y, bh.length - y < bh.length - q ∧ IntKind.i64.wrap ((q : Int) + 1) = (y : Int) ∧ y ≤ bh.length ∧ Hid (∀ b ∈ bh.take y, b ≠ d → rg regs b = rg regs d → x.ins.kind = 2 ∧ x.ins.a = b) := fun h => ⟨q + 1, by omega, wrapS (by omega), by omega, ⟨nxk.out h⟩⟩
  replace next := Hid.mk next
  have w1 : (x.ins.kind = 2 ∧ x.ins.a = b) ∨ ¬ (x.ins.kind = 2 ∧ x.ins.a = b) := Classical.em _
  rcases w1 with hsr | hsr
  · have k2 : (x.ins.kind == 2) = true := by simpa using hsr.1
    have a2 : (x.ins.a == b) = true := by simpa using hsr.2
    have hsr := Hid.mk hsr
    by_cases hbd : b = d
    · have e1 : (b == d) = true := by simpa using hbd
      simp -dsimp [f0, f1, f4, f8, f36, f37, f38, f44, f45, f46, hy, hXL, hkL, k2, a2, e1]
      refine acallsW_of (cm _ _) ?_
      rintro e _ ⟨rfl, rfl⟩
      simp -dsimp [mustR_t, f0, f1, f4, f8, f36, f37, f38, f44, f45, f46, hy, hXL, hkL]
      exact next.out (fun _ _ => hsr.out)
    · have e1 : (b == d) = false := by simpa using hbd
      simp -dsimp [f0, f1, f4, f8, f36, f37, f38, f44, f45, f46, hy, hXL, hkL, k2, a2, e1]
      refine acallsW_of (cm _ _) ?_
      rintro e _ ⟨rfl, rfl⟩
      simp -dsimp [mustR_t, f0, f1, f4, f8, f36, f37, f38, f44, f45, f46, hy, hXL, hkL]
      exact next.out (fun _ _ => hsr.out)
  have hsr2 := Hid.mk hsr
  by_cases hk2 : x.ins.kind = 2
  · have k2 : (x.ins.kind == 2) = true := by simpa using hk2
    have a2 : (x.ins.a == b) = false := by simpa using fun h => hsr ⟨hk2, h⟩
    clear hsr
    by_cases hbd : b = d
    · have e1 : (b == d) = true := by simpa using hbd
      have hbd := Hid.mk hbd
      simp -dsimp [f0, f1, f4, f8, f36, f37, f38, f44, f45, f46, hy, hXL, hkL, k2, a2, e1]
      refine acallsW_of (cm _ _) ?_
      rintro e _ ⟨rfl, rfl⟩
      simp -dsimp [mustR_t, f0, f1, f4, f8, f36, f37, f38, f44, f45, f46, hy, hXL, hkL]
      exact next.out (fun h _ => absurd hbd.out h)
    · have e1 : (b == d) = false := by simpa using hbd
      have hbd := Hid.mk hbd
      simp -dsimp [f0, f1, f4, f8, f36, f37, f38, f44, f45, f46, hy, hXL, hkL, k2, a2, e1]
      refine ⟨s2, ?_⟩
      simp -dsimp [f0, f1, f4, f8, f36, f37, f38, f44, f45, f46, hy, hXL, hkL, k2, a2, e1, s1]
      refine ⟨r2, ?_⟩
      by_cases hrr : rg regs b = rg regs d
      · have e2 : (rg regs b != rg regs d) = false := by simp [hrr]
        have hrr := Hid.mk hrr
        simp -dsimp [f0, f1, f4, f8, f36, f37, f38, f44, f45, f46, hy, hXL, hkL, k2, a2, e1, s1, r1, e2]
        refine acallsW_of (cm _ _) ?_
        rintro e _ ⟨rfl, rfl⟩
        simp -dsimp [mustR_f]
        rw [hN.out]
        exact no.out (bad.out hsr2.out hbd.out hrr.out) _
      · have e2 : (rg regs b != rg regs d) = true := by simpa using hrr
        have hrr := Hid.mk hrr
        simp -dsimp [f0, f1, f4, f8, f36, f37, f38, f44, f45, f46, hy, hXL, hkL, k2, a2, e1, s1, r1, e2]
        refine acallsW_of (cm _ _) ?_
        rintro e _ ⟨rfl, rfl⟩
        simp -dsimp [mustR_t, f0, f1, f4, f8, f36, f37, f38, f44, f45, f46, hy, hXL, hkL]
        exact next.out (fun _ h => absurd h hrr.out)
  · have k2 : (x.ins.kind == 2) = false := by simpa using hk2
    clear hsr
    by_cases hbd : b = d
    · have e1 : (b == d) = true := by simpa using hbd
      have hbd := Hid.mk hbd
      simp -dsimp [f0, f1, f4, f8, f36, f37, f38, f44, f45, f46, hy, hXL, hkL, k2, e1]
      refine acallsW_of (cm _ _) ?_
      rintro e _ ⟨rfl, rfl⟩
      simp -dsimp [mustR_t, f0, f1, f4, f8, f36, f37, f38, f44, f45, f46, hy, hXL, hkL]
      exact next.out (fun h _ => absurd hbd.out h)
    · have e1 : (b == d) = false := by simpa using hbd
      have hbd := Hid.mk hbd
      simp -dsimp [f0, f1, f4, f8, f36, f37, f38, f44, f45, f46, hy, hXL, hkL, k2, e1]
      refine ⟨s2, ?_⟩
      simp -dsimp [f0, f1, f4, f8, f36, f37, f38, f44, f45, f46, hy, hXL, hkL, k2, e1, s1]
      refine ⟨r2, ?_⟩
      by_cases hrr : rg regs b = rg regs d
      · have e2 : (rg regs b != rg regs d) = false := by simp [hrr]
        have hrr := Hid.mk hrr
        simp -dsimp [f0, f1, f4, f8, f36, f37, f38, f44, f45, f46, hy, hXL, hkL, k2, e1, s1, r1, e2]
        refine acallsW_of (cm _ _) ?_
        rintro e _ ⟨rfl, rfl⟩
        simp -dsimp [mustR_f]
        rw [hN.out]
        exact no.out (bad.out hsr2.out hbd.out hrr.out) _
      · have e2 : (rg regs b != rg regs d) = true := by simpa using hrr
        have hrr := Hid.mk hrr
        simp -dsimp [f0, f1, f4, f8, f36, f37, f38, f44, f45, f46, hy, hXL, hkL, k2, e1, s1, r1, e2]
        refine acallsW_of (cm _ _) ?_
        rintro e _ ⟨rfl, rfl⟩
        simp -dsimp [mustR_t, f0, f1, f4, f8, f36, f37, f38, f44, f45, f46, hy, hXL, hkL]
        exact next.out (fun _ h => absurd h hrr.out)
end Go.Proofs
namespace Go.Proofs
open Go.Mu
@[simp] theorem nil20 : binE Tryz.prog .eql 20 (.v .nilIface) (.v .nilIface) = some (.v (.bool true)) := by kernel_rfl
@[simp] theorem ifc20 (t : Nat) (x : AV) : binE Tryz.prog .eql 20 (.ifc t x) (.v .nilIface) = some (.v (.bool false)) := by kernel_rfl
theorem crec_none (a b : Nat) (H : List Blk) : RecSem Tryz.prog ⟨74, [.bp a 0, .bp b 0], none⟩ (.v .nilIface) H (fun H' => H' = H) := by
  refine recSem_of_vc (hn := fun _ => false) (od := fun _ => none) Tryz.func74 rfl rfl (by kernel_rfl) ?_
  show vcC _ _ _ _ _ (recQ _) _ _ _
  simp -dsimp
theorem crec_some (a b : Nat) (H : List Blk) (n x y : Int) (ha : H[a]? = some (.box 3 [I x])) (hb : H[b]? = some (.box 34 [I y])) (hab : a ≠ b) : RecSem Tryz.prog ⟨74, [.bp a 0, .bp b 0], none⟩ (wrongV n) H (fun H' => ∃ L, H' = (H.set a (.box 3 [I n])).set b (.box 34 [I 16]) ++ L) := by
  refine recSem_of_vc (hn := fun _ => false) (od := fun _ => none) Tryz.func74 rfl rfl (by kernel_rfl) ?_
  show vcC _ _ _ _ _ (recQ _) _ _ _
  have hla := lt_of_get ha
  have hlb := lt_of_get hb
  have haL := fun L => get_app_old ha L
  have hbL := fun L => get_app_old hb L
  have hs1 : ∀ L X, (H ++ L).set a X = H.set a X ++ L := fun L X => by rw [List.set_append, if_pos hla]
  have hs2 : ∀ X L, (H.set a X ++ L)[b]? = some (.box 34 [I y]) := fun X L => by rw [List.getElem?_append_left (by simpa using hlb), List.getElem?_set_ne hab, hb]
  have hs3 : ∀ L X Y, (H.set a X ++ L).set b Y = (H.set a X).set b Y ++ L := fun L X Y => by rw [List.set_append, if_pos (by simpa using hlb)]
  simp -dsimp [assertV, haL, hbL, hs1, hs2, hs3]
theorem call_ok (l : Linear) (hs : l.Sm) (hok : l.ok = true) (regs : List Int) (hrl : regs.length ≤ 2^36) (k : Nat) (H : List Blk) (hk : H[k]? = some (ckB l regs (Ints.sl (lvL l)))) : ACalls Tryz.prog 32 [.bp k 0] H (fun e H' => e = .ret (.tup [I (chkM l regs).1, I (chkM l regs).2]) ∧ H' = H) := by
  refine acalls_tidy (acalls_of_vcD (hn := fun d => d == 35) (od := fun _ => none) Tryz.func32 rfl (by kernel_rfl) ?_)
  have ho := ((ok_iff l).1 hok).1
  have hcl := hs.code
  have hrt := hs.rets
  obtain ⟨E, hE⟩ : ∃ E, E = chkM l regs := ⟨_, rfl⟩
  rw [← hE]
  unfold chkM at hE
  rw [if_neg (by rw [hok]; decide)] at hE
  have fin : ∀ (a b : Int) L, E = (a, b) → Tidy H (fun e H' => e = .ret (.tup [I E.1, I E.2]) ∧ H' = H) (.ret (.tup [I a, I b])) (H ++ L) := fun a b L h => by
    rw [h]; exact tidy_same rfl ⟨rfl, rfl⟩
  replace fin := Hid.mk fin
  obtain ⟨N, hN⟩ : ∃ N : Int → Int → List Blk, ∀ a b, N a b = H ++ [.box 3 [I a], .box 34 [I b]] := ⟨_, fun _ _ => rfl⟩
  have hkL : ∀ a b L, (N a b ++ L)[k]? = some (ckB l regs (Ints.sl (lvL l))) := fun a b L => by rw [hN, List.append_assoc]; exact get_app_old hk _
  have hk0 : ∀ a b, (N a b)[k]? = some (ckB l regs (Ints.sl (lvL l))) := fun a b => by rw [hN]; exact get_app_old hk _
  have ha : ∀ a b L, (N a b ++ L)[H.length]? = some (.box 3 [I a]) := fun a b L => by rw [hN]; simp
  have hb : ∀ a b L, (N a b ++ L)[H.length + 1]? = some (.box 34 [I b]) := fun a b L => by rw [hN]; simp
  have sab : ∀ a b a' b' L, ((N a b ++ L).set H.length (.box 3 [I a'])).set (H.length + 1) (.box 34 [I b']) = N a' b' ++ L := fun a b a' b' L => by rw [hN, hN]; simp
  have fin2 : Hid (∀ a b L, E = (a, b) → Tidy H (fun e H' => e = .ret (.tup [I E.1, I E.2]) ∧ H' = H) (.ret (.tup [I a, I b])) (N a b ++ L)) := ⟨fun a b L h => by rw [hN, List.append_assoc]; exact fin.out a b _ h⟩
  simp -dsimp
  rw [← hN]
  have hN := Hid.mk hN
  have cb := cbeg_ok l hs hok regs hrl k (N 0 0) (hk0 _ _)
  have hE := Hid.mk hE
  refine acallsW_of cb ?_
  rintro e M ⟨rfl, L, rfl⟩
  have cm := fun (b : Bool) H => cmust_to (.bp k 0) l.code.length b H
  cases hbg : begOk l regs
  · simp -dsimp [mustR_f]
    refine recW_of (crec_some H.length (H.length + 1) (N 0 0 ++ L) (-1) 0 0 (ha _ _ _) (hb _ _ _) (by omega)) ?_
    rintro H' ⟨L', rfl⟩
    rw [sab, List.append_assoc]
    simp -dsimp [ha, hb]
    exact fin2.out _ _ _ (by rw [hE.out, if_pos hbg])
  have hlen := ((beg_iff ho).1 hbg).len
  replace hE : Hid (E = match (List.range l.code.length).find? fun i => !rightOk l regs i with | some i => ((i : Int), 16) | none => if l.rets.all (fun v => decide (0 ≤ rg regs v)) = true then (0, 0) else ((l.code.length : Int), 16)) := ⟨by rw [hE.out, if_neg (by rw [hbg]; decide)]; rfl⟩
  have cl := fun i hi H h => cline_ok l hs hok regs hrl hlen k i hi H h
  have ch := fun H h => chas_ok l regs (Ints.sl (lvL l)) k l.rets hlen ho.rets (by omega) H h
  have hlen := Hid.mk hlen
  simp -dsimp [mustR_t, hkL]
  refine loop_rule (hn := fun d => d == 35) (od := fun _ => none) (fun (n : Nat) f M => (∃ L, M = N 0 0 ++ L) ∧ f 0 = .bp k 0 ∧ f 2 = .bp H.length 0 ∧ f 3 = .bp (H.length + 1) 0 ∧ f 13 = I l.code.length ∧ f 14 = I n ∧ n ≤ l.code.length ∧ Hid (∀ i, i < n → rightOk l regs i = true)) (fun n => l.code.length - n) (by kernel_rfl) 0 (by refine ⟨⟨L, rfl⟩, by simp, by simp, by simp, by simp, by simp, by omega, ⟨fun i hi => by omega⟩⟩) ?_
  clear L cb
  rintro n f _ ⟨⟨L, rfl⟩, f0, f2, f3, f13, f14, hn, hall⟩
  simp -dsimp [f0, f2, f3, f13, f14]
  refine condVW_introD (fun hlt => ?_) (fun hlt => ?_)
  · have hlt' : n < l.code.length := by omega
    simp -dsimp [f0, f2, f3, f13, f14]
    refine acallsW_of (cl n hlt' _ (hkL _ _ _)) ?_
    rintro e M ⟨rfl, L2, rfl⟩
    rw [List.append_assoc]
    cases hr : rightOk l regs n
    · simp -dsimp [mustR_f, f0, f2, f3]
      refine recW_of (crec_some H.length (H.length + 1) (N 0 0 ++ (L ++ L2)) n 0 0 (ha _ _ _) (hb _ _ _) (by omega)) ?_
      rintro H' ⟨L', rfl⟩
      rw [sab, List.append_assoc]
      simp -dsimp [f0, f2, f3, ha, hb]
      refine fin2.out _ _ _ ?_
      have hf : (List.range l.code.length).find? (fun i => !rightOk l regs i) = some n := by
        rw [List.find?_range_eq_some]
        exact ⟨by rw [hr]; rfl, List.mem_range.2 hlt', fun j hj => by rw [hall.out j hj]; rfl⟩
      rw [hE.out, hf]
    · simp -dsimp [mustR_t, f0, f2, f3, f13, f14]
      refine ⟨n + 1, by omega, wrapS (by omega), by omega, ⟨fun i hi => ?_⟩⟩
      by_cases e : i = n
      · rw [e, hr]
      · exact hall.out i (by omega)
  have hf : (List.range l.code.length).find? (fun i => !rightOk l regs i) = none := by
    rw [List.find?_eq_none]
    intro i hi
    rw [hall.out i (by have := List.mem_range.1 hi; omega)]; decide
  replace hE : Hid (E = if l.rets.all (fun v => decide (0 ≤ rg regs v)) = true then (0, 0) else ((l.code.length : Int), 16)) := ⟨by rw [hE.out, hf]⟩
  clear hf hall
  obtain ⟨P1, hP1⟩ : ∃ P1, P1 = l.rets.all fun v => decide (0 ≤ rg regs v) := ⟨_, rfl⟩
  rw [← hP1] at ch hE
  clear hP1
  simp -dsimp [f0, f2, f3, hkL]
  refine callDW_intro (ch _ (hkL _ _ _)) ?_
  simp -dsimp [f0, f2, f3, hkL]
  refine acallsW_of (cm _ _) ?_
  rintro e _ ⟨rfl, rfl⟩
  cases P1
  · simp -dsimp [mustR_f, f0, f2, f3]
    refine recW_of (crec_some H.length (H.length + 1) (N 0 0 ++ L) l.code.length 0 0 (ha _ _ _) (hb _ _ _) (by omega)) ?_
    rintro H' ⟨L', rfl⟩
    rw [sab, List.append_assoc]
    simp -dsimp [f0, f2, f3, ha, hb]
    exact fin2.out _ _ _ (by rw [hE.out]; rfl)
  · have s1 := sab 0 0 0 0
    simp -dsimp [mustR_t, f0, f2, f3, ha, hb, s1]
    refine recW_of (crec_none _ _ _) ?_
    rintro H' rfl
    simp -dsimp [f0, f2, f3, ha, hb]
    exact fin2.out _ _ _ (by rw [hE.out]; rfl)
theorem ccheck_ok (l : Linear) (hs : l.Sm) (regs : List Int) (hrl : regs.length ≤ 2^36) (H : List Blk) : ACalls Tryz.prog 10 [.agg l.cells, Int.sl regs] H (fun e H' => e = .ret (.tup [I (chkM l regs).1, I (chkM l regs).2]) ∧ H' = H) := by
  refine acalls_tidy (acalls_of_vc (hn := fun _ => false) (od := fun _ => none) Tryz.func10 rfl (by kernel_rfl) ?_)
  cases hok : l.ok
  · have cl := fun H => live_no l hs hok H
    simp only [Linear.cells] at cl
    have e : chkM l regs = (0, 2) := by unfold chkM; rw [if_pos hok]
    rw [e]
    simp -dsimp
    refine acallsW_det (cl _) ?_
    simp -dsimp
    exact tidy_same rfl ⟨rfl, rfl⟩
  · have cl := fun H => live_ok l hs hok H
    simp only [Linear.cells] at cl
    have ca := fun k H h => call_ok l hs hok regs hrl k H h
    simp -dsimp
    refine acallsW_det (cl _) ?_
    simp -dsimp
    refine acallsW_det (ca _ _ (by simp)) ?_
    simp -dsimp
    exact tidy_same rfl ⟨rfl, rfl⟩
end Go.Proofs
