/- Products of words of 64 bits; operations of two words. -/
import Derived.Test.YtganjkhdlehhdaaGreatAM3
import Derived.Test.YtganjkhdlehhdaaGreatFS7
import Derived.Shelf.Bits.Mul64
set_option linter.unusedVariables false
set_option linter.unusedSimpArgs false
set_option maxHeartbeats 4000000
set_option maxRecDepth 100000
namespace Go.Proofs
open Go.Mu
theorem mulg_ok (a b : Int) (ha : Wd a) (hb : Wd b) (H : List Blk) : ACalls Tryz.prog 147 [U a, U b] H (fun e H' => e = .ret (.tup [U (a * b / 18446744073709551616), U (a * b % 18446744073709551616)]) ∧ H' = H) := by
  obtain ⟨ha0, ha1⟩ := ha
  obtain ⟨hb0, hb1⟩ := hb
  obtain ⟨A, rfl⟩ := Int.eq_ofNat_of_zero_le ha0
  obtain ⟨B', rfl⟩ := Int.eq_ofNat_of_zero_le hb0
  have key := fun w => Any.bits_Mul64 Tryz.mul64 A B' (by omega) (by omega) w
  change ∀ w, Calls Tryz.prog 147 _ _ _ at key
  intro B w0 cx vals hR hH hA
  subst hH
  obtain ⟨v1, vs1, rfl, r1, hA1⟩ := hA.cons_inv
  obtain ⟨v2, vs2, rfl, r2, hA2⟩ := hA1.cons_inv
  obtain rfl := hA2.nil_inv
  obtain rfl := r1.v_inv
  obtain rfl := r2.v_inv
  refine (key cx.w).mono ?_
  rintro e w' ⟨rfl, rfl⟩
  refine ⟨cx, _, rfl, hR, Le.refl _, ?_, rfl, rfl⟩
  have hm : (A : Int) * B' = ((A * B' : Nat) : Int) := (Int.natCast_mul _ _).symm
  rw [hm]
  generalize A * B' = n
  rw [show (n : Int) / 18446744073709551616 = ((n / 18446744073709551616 : Nat) : Int) by omega, show (n : Int) % 18446744073709551616 = ((n % 18446744073709551616 : Nat) : Int) by omega]
  exact .tup _ _ rfl (fun i x y hx hy => by
    match i with
    | 0 => simp at hx hy; subst hx hy; exact .v _
    | 1 => simp at hx hy; subst hx hy; exact .v _
    | n + 2 => simp at hx)
def mulH (a b : Int) : Int := wU (a * b / 18446744073709551616 - wU ((if hiB a then b else 0) + (if hiB b then a else 0)))
def mulV (a b : Int) : Int := a * b % 18446744073709551616
def mulC (a b : Int) : Bool := mulH a b != (if hiB (mulV a b) then 18446744073709551615 else 0)
theorem wd_mul (a b : Int) : Wd (mulV a b) := by unfold mulV Wd; omega
theorem i64_fd {a : Int} (h : Wd a) : (IntKind.i64.wrap a).fdiv 9223372036854775808 = if hiB a then -1 else 0 := by
  obtain ⟨h0, h1⟩ := h
  rw [Int.fdiv_eq_ediv_of_nonneg _ (by omega), IntKind.wrap_i64]
  unfold hiB
  split
  · rename_i h; have := of_decide_eq_true h; omega
  · rename_i h; have : ¬ 9223372036854775808 ≤ a := by simpa using h
    omega
theorem and_all {b : Int} (h : Wd b) : andU 18446744073709551615 b = b := by
  obtain ⟨h0, h1⟩ := h
  unfold andU
  obtain ⟨n, rfl⟩ := Int.eq_ofNat_of_zero_le h0
  have e : (((18446744073709551615 : Int) % 2 ^ IntKind.u64.bits).toNat) = 2 ^ 64 - 1 := by decide
  have e2 : (((n : Int) % 2 ^ IntKind.u64.bits).toNat) = n := by
    have : (2 : Int) ^ IntKind.u64.bits = 18446744073709551616 := by decide
    rw [this]; omega
  rw [e, e2, Nat.and_comm, Nat.and_two_pow_sub_one_eq_mod, IntKind.wrap_u64]
  omega
theorem and_none (b : Int) : andU 0 b = 0 := by
  unfold andU
  have e : (((0 : Int) % 2 ^ IntKind.u64.bits).toNat) = 0 := by decide
  rw [e, Nat.zero_and]; decide
theorem and_x {b : Int} (h : Wd b) (x : Bool) : IntKind.u64.wrap ↑((IntKind.u64.wrap (if x = true then -1 else 0) % 18446744073709551616).toNat &&& (b % 18446744073709551616).toNat) = if x = true then b else 0 := by
  cases x
  · have := and_none b
    exact this
  · have := and_all h
    exact this
theorem wtimes_ok (a b c : Int) (ha : Wd a) (hb : Wd b) (H : List Blk) : ACalls Tryz.prog 139 [I 64, U a, U b, U c] H (fun e H' => e = .ret (.tup [U (mulV a b), Bo (mulC a b), Bo (mulC a b)]) ∧ H' = H) := by
  refine acalls_tidy (acalls_of_vc (hn := fun _ => false) (od := fun _ => none) Tryz.func139 rfl (by kernel_rfl) ?_)
  have cs := wsigned_ok
  have cl := fun H => wlow_ok (mulV a b) (wd_mul a b) H
  have cm := fun H => mulg_ok a b ha hb H
  have hl := wd_mul a b
  have ea := wd_signed ha
  have eb := wd_signed hb
  have fa := i64_fd ha
  have fb := i64_fd hb
  have fl := i64_fd hl
  simp -dsimp
  refine acallsW_det (cs a ha _) ?_
  simp -dsimp
  refine acallsW_det (cs b hb _) ?_
  simp -dsimp [ea, eb]
  refine acallsW_det (cm _) ?_
  rw [show a * b % 18446744073709551616 = mulV a b from rfl]
  simp -dsimp [IntKind.bits, fa, fb]
  refine acallsW_det (cl _) ?_
  simp -dsimp
  refine acallsW_det (cs _ hl _) ?_
  simp -dsimp [IntKind.bits, fl, ea, eb, and_x ha, and_x hb]
  have e : mulC a b = (IntKind.u64.wrap (a * b / 18446744073709551616 - IntKind.u64.wrap ((if hiB a = true then b else 0) + if hiB b = true then a else 0)) != IntKind.u64.wrap (if hiB (mulV a b) = true then -1 else 0)) := by
    unfold mulC mulH
    cases hiB (mulV a b) <;> rfl
  rw [← e]
  exact tidy_now rfl ⟨rfl, rfl⟩
def bopV (op a b c : Int) : Int := if op = 1 ∨ op = 2 then addV a b c else if op = 3 ∨ op = 4 then subV a b c else if op = 5 then andU a b else if op = 6 then orU a b else if op = 7 then xorU a b else mulV a b
def bopC (op a b c : Int) : Bool := if op = 1 ∨ op = 2 then addC a b c else if op = 3 ∨ op = 4 then subC a b c else if op = 5 ∨ op = 6 ∨ op = 7 then false else mulC a b
def bopO (op a b c : Int) : Bool := if op = 1 ∨ op = 2 then addO a b c else if op = 3 ∨ op = 4 then subO a b c else if op = 5 ∨ op = 6 ∨ op = 7 then false else mulC a b
theorem wd_wU (n : Int) : Wd (wU n) := by unfold Wd wU; rw [IntKind.wrap_u64]; omega
theorem wd_and (a b : Int) : Wd (andU a b) := wd_wU _
theorem wd_or (a b : Int) : Wd (orU a b) := wd_wU _
theorem wd_xor (a b : Int) : Wd (xorU a b) := wd_wU _
theorem bin1_ok (g : FuncId) (hg : okFn Tryz.prog g = true) (a b c r : Int) (he : ∀ H, ACalls Tryz.prog g [U a, U b] H (fun e H' => e = .ret (U r) ∧ H' = H)) (H : List Blk) :
    ACalls Tryz.prog 136 [I 64, U a, U b, U c, .vp [.fn (.func g) [] []]] H (fun e H' => e = .ret (.tup [U r, Bo false, Bo false]) ∧ H' = H) := by
  refine acalls_tidy (acalls_of_vc (hn := fun _ => false) (od := fun _ => none) Tryz.func136 rfl (by kernel_rfl) ?_)
  simp -dsimp [hg]
  refine acallsW_det (he _) ?_
  simp -dsimp
  exact tidy_now rfl ⟨rfl, rfl⟩
theorem and2_ok (a b : Int) (H : List Blk) : ACalls Tryz.prog 140 [U a, U b] H (fun e H' => e = .ret (U (andU a b)) ∧ H' = H) := by
  refine acalls_tidy (acalls_of_vc (hn := fun _ => false) (od := fun _ => none) Tryz.func140 rfl (by kernel_rfl) ?_)
  simp -dsimp
  exact tidy_now rfl ⟨rfl, rfl⟩
theorem or2_ok (a b : Int) (H : List Blk) : ACalls Tryz.prog 141 [U a, U b] H (fun e H' => e = .ret (U (orU a b)) ∧ H' = H) := by
  refine acalls_tidy (acalls_of_vc (hn := fun _ => false) (od := fun _ => none) Tryz.func141 rfl (by kernel_rfl) ?_)
  simp -dsimp
  exact tidy_now rfl ⟨rfl, rfl⟩
theorem xor2_ok (a b : Int) (H : List Blk) : ACalls Tryz.prog 142 [U a, U b] H (fun e H' => e = .ret (U (xorU a b)) ∧ H' = H) := by
  refine acalls_tidy (acalls_of_vc (hn := fun _ => false) (od := fun _ => none) Tryz.func142 rfl (by kernel_rfl) ?_)
  simp -dsimp
  exact tidy_now rfl ⟨rfl, rfl⟩
theorem bins1_ok (g : FuncId) (H : List Blk) : ACalls Tryz.prog 135 [.fn (.func g) [] []] H (fun e H' => e = .ret (.fn (.func 136) [] [.vp [.fn (.func g) [] []]]) ∧ H' = H) := by
  have h0 : ACalls Tryz.prog 135 [.fn (.func g) [] []] H (fun e H' => e = .ret (.fn (.func 136) [] [.bp H.length 0]) ∧ H' = H ++ [.box 198 [.fn (.func g) [] []]]) := by
    refine acalls_of_vc (hn := fun _ => false) (od := fun _ => none) Tryz.func135 rfl (by kernel_rfl) ?_
    simp -dsimp
  have h1 := acalls_boxed (by simp [AV.frzF, AV.frzB]) (by simp [AV.bfz, bfzL, AV.under, underL]) h0
  simpa [AV.bfz, bfzL] using h1
abbrev binFn (g : FuncId) : AV := .fn (.func 136) [] [.vp [.fn (.func g) [] []]]
abbrev plFn (g : FuncId) : AV := .fn (.func g) [] []
def binMap : List (Value × AV) := [(.int .i64 1, plFn 137), (.int .i64 2, plFn 137), (.int .i64 3, plFn 138), (.int .i64 4, plFn 138), (.int .i64 8, plFn 139), (.int .i64 5, binFn 140), (.int .i64 6, binFn 141), (.int .i64 7, binFn 142)]
theorem msetA_nil (k : Value) (x : AV) : mset (.int .i64) k x [] = some [(k, x)] := (rfl)
theorem msetA_cons (n m : Int) (x v : AV) (rest : List (Value × AV)) : mset (.int .i64) (.int .i64 n) x ((.int .i64 m, v) :: rest) = if n = m then some ((.int .i64 n, x) :: rest) else (mset (.int .i64) (.int .i64 n) x rest).map ((.int .i64 m, v) :: ·) := by
  rw [mset]
  have : Instr.sameNow (.int .i64) (.int .i64 n) (.int .i64 m) = some (decide (n = m)) := by
    simp [Instr.sameNow, Instr.sameBits]; rfl
  rw [this]
  by_cases h : n = m
  · simp [h]
  · simp [h]
theorem mfindA_nil (k : Value) : mfind (.int .i64) k [] = some none := (rfl)
theorem mfindA_cons (n m : Int) (v : AV) (rest : List (Value × AV)) : mfind (.int .i64) (.int .i64 n) ((.int .i64 m, v) :: rest) = if n = m then some (some v) else mfind (.int .i64) (.int .i64 n) rest := by
  rw [mfind]
  have : Instr.sameNow (.int .i64) (.int .i64 n) (.int .i64 m) = some (decide (n = m)) := by
    simp [Instr.sameNow, Instr.sameBits]; rfl
  rw [this]
  by_cases h : n = m
  · simp [h]
  · simp [h]
theorem bbins_ok (H : List Blk) : ACalls Tryz.prog 123 [] H (fun e H' => e = .ret (.hm H.length) ∧ H' = H ++ [.map binMap]) := by
  refine acalls_of_vc (hn := fun _ => false) (od := fun _ => none) Tryz.func123 rfl (by kernel_rfl) ?_
  have c2 := fun H => bins1_ok 140 H
  have c3 := fun H => bins1_ok 141 H
  have c4 := fun H => bins1_ok 142 H
  have ok1 : okFn Tryz.prog 135 = true := by kernel_rfl
  simp -dsimp [msetA_nil, msetA_cons, ok1]
  refine acallsW_det (c2 _) ?_
  simp -dsimp [msetA_nil, msetA_cons, ok1]
  refine acallsW_det (c3 _) ?_
  simp -dsimp [msetA_nil, msetA_cons, ok1]
  refine acallsW_det (c4 _) ?_
  simp -dsimp [msetA_nil, msetA_cons, ok1]
  rfl
theorem bin_row (op : Int) (h : 1 ≤ op ∧ op ≤ 8) (a b c : Int) (ha : Wd a) (hb : Wd b) (hc : c = 0 ∨ c = 1) : ∃ g cs, mfind (.int .i64) (.int .i64 op) binMap = some (some (.fn (.func g) [] cs)) ∧ okFn Tryz.prog g = true ∧ ∀ H, ACalls Tryz.prog g ([I 64, U a, U b, U c] ++ cs) H (fun e H' => e = .ret (.tup [U (bopV op a b c), Bo (bopC op a b c), Bo (bopO op a b c)]) ∧ H' = H) := by
  have hk1 : okFn Tryz.prog 136 = true := by kernel_rfl
  have : op = 1 ∨ op = 2 ∨ op = 3 ∨ op = 4 ∨ op = 5 ∨ op = 6 ∨ op = 7 ∨ op = 8 := by omega
  rcases this with rfl | rfl | rfl | rfl | rfl | rfl | rfl | rfl
  · exact ⟨137, [], by simp [binMap, mfindA_cons, mfindA_nil], by kernel_rfl, fun H => wsums_ok a b c ha hb hc H⟩
  · exact ⟨137, [], by simp [binMap, mfindA_cons, mfindA_nil], by kernel_rfl, fun H => wsums_ok a b c ha hb hc H⟩
  · exact ⟨138, [], by simp [binMap, mfindA_cons, mfindA_nil], by kernel_rfl, fun H => wless_ok a b c ha hb hc H⟩
  · exact ⟨138, [], by simp [binMap, mfindA_cons, mfindA_nil], by kernel_rfl, fun H => wless_ok a b c ha hb hc H⟩
  · exact ⟨136, _, by simp [binMap, mfindA_cons, mfindA_nil], hk1, fun H => bin1_ok 140 (by kernel_rfl) a b c _ (and2_ok a b) H⟩
  · exact ⟨136, _, by simp [binMap, mfindA_cons, mfindA_nil], hk1, fun H => bin1_ok 141 (by kernel_rfl) a b c _ (or2_ok a b) H⟩
  · exact ⟨136, _, by simp [binMap, mfindA_cons, mfindA_nil], hk1, fun H => bin1_ok 142 (by kernel_rfl) a b c _ (xor2_ok a b) H⟩
  · exact ⟨139, [], by simp [binMap, mfindA_cons, mfindA_nil], by kernel_rfl, fun H => wtimes_ok a b c ha hb H⟩
theorem wd_bin (op a b c : Int) : Wd (bopV op a b c) := by
  unfold bopV
  split
  · unfold addV Wd; omega
  · split
    · unfold subV Wd; omega
    · split
      · exact wd_and a b
      · split
        · exact wd_or a b
        · split
          · exact wd_xor a b
          · exact wd_mul a b
def cIn (op : Int) (f : Fl) : Int := if f.c = true ∧ (op = 2 ∨ op = 4) then 1 else 0
def doV (op a b : Int) (f : Fl) : Int := bopV op a b (cIn op f)
def doF (op a b : Int) (f : Fl) : Fl := byF (doV op a b f) ⟨bopC op a b (cIn op f), false, false, bopO op a b (cIn op f), false⟩
theorem bin_fn (P : Program) (op : BinOp) (t : TypeId) (c ns : Bool) (f : Fn) (a b : List AV) (y : AV) (hy : isNilSl y = false) (K : AV → Prop) (w : Wit K) : Mu.binV P op t c ns (.fn f a b) y K w = bindOW (binE P op t (.fn f a b) y) K (wit _) := by simp [Mu.binV, isNum, hy, nnB, andV]; rfl
theorem eq_done (g : FuncId) (cs : List AV) : binE Tryz.prog .eql 187 (.fn (.func g) [] cs) (.v .nilFunc) = some (.v (.bool false)) := by kernel_rfl
theorem wdo_ok (op : Int) (h : 1 ≤ op ∧ op ≤ 8) (a b : Int) (ha : Wd a) (hb : Wd b) (f : Fl) (H : List Blk) : ACalls Tryz.prog 103 [I op, I 64, U a, U b, .agg f.cells] H (fun e H' => e = .ret (.tup [U (doV op a b f), .agg (doF op a b f).cells, I 0]) ∧ H' = H) := by
  refine acalls_tidy (acalls_of_vc (hn := fun _ => false) (od := fun _ => none) Tryz.func103 rfl (by kernel_rfl) ?_)
  have hcc : cIn op f = 0 ∨ cIn op f = 1 := by unfold cIn; split <;> simp
  obtain ⟨g, cs, hf, hok, hg⟩ := bin_row op h a b (cIn op f) ha hb hcc
  have cb := fun H => bbins_ok H
  have cm := fun H => wmay_ok H
  have cl := wlow_ok
  obtain ⟨c, z, s, o, p⟩ := f
  have hby := fun q => wby_ok (doV op a b ⟨c, z, s, o, p⟩) (wd_bin _ _ _ _) q
  simp -dsimp
  refine acallsW_of (cb _) ?_
  rintro e _ ⟨rfl, rfl⟩
  have hn := fun (K : AV → Prop) (w : Wit K) => bin_fn Tryz.prog .eql 187 true false (.func g) [] cs (.v .nilFunc) rfl K w
  simp -dsimp [hf, hn, eq_done]
  refine acallsW_det (cm _) ?_
  have hci : cIn op ⟨c, z, s, o, p⟩ = if (c && ((op == 2) || (op == 4))) = true then 1 else 0 := by
    unfold cIn
    by_cases h2 : op = 2
    · subst h2; cases c <;> rfl
    · by_cases h4 : op = 4
      · subst h4; cases c <;> rfl
      · have e2 : (op == 2) = false := by simp [h2]
        have e4 : (op == 4) = false := by simp [h4]
        rw [e2, e4, if_neg (by simp [h2, h4]), if_neg (by simp)]
  have hR : doV op a b ⟨c, z, s, o, p⟩ = bopV op a b (cIn op ⟨c, z, s, o, p⟩) := rfl
  have hF : doF op a b ⟨c, z, s, o, p⟩ = byF (bopV op a b (cIn op ⟨c, z, s, o, p⟩)) ⟨bopC op a b (cIn op ⟨c, z, s, o, p⟩), false, false, bopO op a b (cIn op ⟨c, z, s, o, p⟩), false⟩ := rfl
  rw [hR] at hby
  generalize bopV op a b (cIn op ⟨c, z, s, o, p⟩) = V at *
  generalize bopC op a b (cIn op ⟨c, z, s, o, p⟩) = VC at *
  generalize bopO op a b (cIn op ⟨c, z, s, o, p⟩) = VO at *
  have hby := fun H => hby ⟨VC, false, false, VO, false⟩ H
  rw [hR, hF]
  generalize byF V ⟨VC, false, false, VO, false⟩ = F at *
  simp only [Fl.cells] at hby
  clear hR hF hcc hf
  rw [hci] at hg
  clear hci
  obtain ⟨b2, h2⟩ : ∃ b2, (op == 2) = b2 := ⟨_, rfl⟩
  obtain ⟨b4, h4⟩ : ∃ b4, (op == 4) = b4 := ⟨_, rfl⟩
  rw [h2, h4] at hg
  cases c <;> cases b2 <;> cases b4
  all_goals simp only [Bool.false_and, Bool.true_and, Bool.false_or, Bool.true_or, Bool.or_false, if_false, if_true, Bool.false_eq_true, List.cons_append, List.nil_append] at hg
  all_goals simp -dsimp [h2, h4]
  all_goals refine acallsW_det (cl a ha _) ?_
  all_goals simp -dsimp
  all_goals refine acallsW_det (cl b hb _) ?_
  all_goals simp -dsimp [hok]
  all_goals refine acallsW_det (hg _) ?_
  all_goals simp -dsimp
  all_goals refine acallsW_det (hby _) ?_
  all_goals simp -dsimp
  all_goals exact tidy_same rfl ⟨rfl, rfl⟩
theorem wneg_ok (a : Int) (ha : Wd a) (H : List Blk) : ACalls Tryz.prog 105 [I 64, U a] H (fun e H' => e = .ret (.tup [U (doV 3 0 a ⟨false, false, false, false, false⟩), .agg (doF 3 0 a ⟨false, false, false, false, false⟩).cells, I 0]) ∧ H' = H) := by
  refine acalls_tidy (acalls_of_vc (hn := fun _ => false) (od := fun _ => none) Tryz.func105 rfl (by kernel_rfl) ?_)
  have c := fun H => wdo_ok 3 (by omega) 0 a (by unfold Wd; omega) ha ⟨false, false, false, false, false⟩ H
  simp only [Fl.cells] at c
  simp -dsimp
  refine acallsW_det (c _) ?_
  simp -dsimp
  exact tidy_same rfl ⟨rfl, rfl⟩
end Go.Proofs
namespace Go.Proofs
open Go.Mu
def holdsB (c : Int) (f : Fl) : Bool :=
  (if c / 2 = 0 then f.o else if c / 2 = 1 then f.c else if c / 2 = 2 then f.z else if c / 2 = 3 then f.c || f.z else if c / 2 = 4 then f.s else if c / 2 = 5 then f.p else if c / 2 = 6 then f.s != f.o else f.z || f.s != f.o) != (c % 2 == 1)
theorem anot1 (c : Int) (h : 0 ≤ c ∧ c ≤ 15) : binI .andNot .i64 c 1 = some (.int .i64 (c - c % 2)) := by
  have : c = 0 ∨ c = 1 ∨ c = 2 ∨ c = 3 ∨ c = 4 ∨ c = 5 ∨ c = 6 ∨ c = 7 ∨ c = 8 ∨ c = 9 ∨ c = 10 ∨ c = 11 ∨ c = 12 ∨ c = 13 ∨ c = 14 ∨ c = 15 := by omega
  rcases this with rfl | rfl | rfl | rfl | rfl | rfl | rfl | rfl | rfl | rfl | rfl | rfl | rfl | rfl | rfl | rfl <;> rfl
theorem nqB (a b : Bool) : binE Tryz.prog .neq 4 (.v (.bool a)) (.v (.bool b)) = some (.v (.bool (a != b))) := by cases a <;> cases b <;> kernel_rfl
theorem eqB (a b : Bool) : binE Tryz.prog .eql 4 (.v (.bool a)) (.v (.bool b)) = some (.v (.bool (a == b))) := by cases a <;> cases b <;> kernel_rfl
theorem wholds_ok (c : Int) (h : 0 ≤ c ∧ c ≤ 15) (f : Fl) (H : List Blk) : ACalls Tryz.prog 106 [I c, .agg f.cells] H (fun e H' => e = .ret (.tup [Bo (holdsB c f), I 0]) ∧ H' = H) := by
  refine acalls_tidy (acalls_of_vc (hn := fun _ => false) (od := fun _ => none) Tryz.func106 rfl (by kernel_rfl) ?_)
  obtain ⟨cc, z, s, o, p⟩ := f
  have an := anot1 c h
  have : c = 0 ∨ c = 1 ∨ c = 2 ∨ c = 3 ∨ c = 4 ∨ c = 5 ∨ c = 6 ∨ c = 7 ∨ c = 8 ∨ c = 9 ∨ c = 10 ∨ c = 11 ∨ c = 12 ∨ c = 13 ∨ c = 14 ∨ c = 15 := by omega
  rcases this with rfl | rfl | rfl | rfl | rfl | rfl | rfl | rfl | rfl | rfl | rfl | rfl | rfl | rfl | rfl | rfl
  all_goals cases z
  all_goals simp -dsimp [an, nqB, eqB, IntKind.bits, IntKind.wrap, IntKind.signed]
  all_goals exact tidy_same rfl ⟨by simp [holdsB], rfl⟩
def shV (op a : Int) (n : Nat) : Int :=
  if op = 1 then shlU a n else if op = 2 then shrU a n else if op = 3 then sarU a n else if op = 4 then orU (shlU a n) (shrU a (64 - n)) else orU (shlU a (64 - n)) (shrU a n)
def bit0 (a : Int) : Bool := a % 2 == 1
def shC (op a : Int) (n : Nat) : Bool :=
  if op = 1 then hiB (shlU a (n - 1)) else if op = 2 then bit0 (shrU a (n - 1)) else if op = 3 then bit0 ((IntKind.i64.wrap a).fdiv (2 ^ (n - 1))) else if op = 4 then bit0 (shV op a n) else hiB (shV op a n)
def shO (op a : Int) (n : Nat) : Bool :=
  if op = 1 then shC op a n != hiB (shV op a n) else if op = 2 then hiB a else if op = 3 then false else if op = 4 then shC op a n != hiB (shV op a n) else shC op a n != bit62 (shV op a n)
def shF (op a : Int) (n : Nat) (f : Fl) : Fl := if op ≤ 3 then byF (shV op a n) ⟨shC op a n, f.z, f.s, shO op a n, f.p⟩ else ⟨shC op a n, f.z, f.s, shO op a n, f.p⟩
def shiftV (op a k : Int) : Int := if mod6 k = 0 then a else shV op a (mod6 k)
def shiftF (op a k : Int) (f : Fl) : Fl := if mod6 k = 0 then f else shF op a (mod6 k) f
theorem and1n (x : Int) : ((x % 18446744073709551616).toNat &&& 1) = (x % 2).toNat := by
  have : (x % 18446744073709551616).toNat &&& 1 = (x % 18446744073709551616).toNat % 2 := Nat.and_two_pow_sub_one_eq_mod (n := 1) _
  rw [this]; omega
theorem band1 (x : Int) : (IntKind.u64.wrap ↑((x % 2 ^ IntKind.u64.bits).toNat &&& 1 % 2 ^ IntKind.u64.bits) == 1) = bit0 x := by
  have e : (IntKind.u64.wrap ↑((x % 2 ^ IntKind.u64.bits).toNat &&& 1 % 2 ^ IntKind.u64.bits)) = x % 2 := by
    show IntKind.u64.wrap ↑((x % 18446744073709551616).toNat &&& 1) = x % 2
    rw [and1n, IntKind.wrap_u64]; omega
  rw [e]; rfl
theorem band1i (x : Int) : (IntKind.i64.wrap ↑((x % 2 ^ IntKind.i64.bits).toNat &&& 1 % 2 ^ IntKind.i64.bits) == 1) = bit0 x := by
  have e : (IntKind.i64.wrap ↑((x % 2 ^ IntKind.i64.bits).toNat &&& 1 % 2 ^ IntKind.i64.bits)) = x % 2 := by
    show IntKind.i64.wrap ↑((x % 18446744073709551616).toNat &&& 1) = x % 2
    rw [and1n, IntKind.wrap_i64]; omega
  rw [e]; rfl
theorem wd_shr {a : Int} (h : Wd a) (n : Nat) : Wd (shrU a n) := by
  obtain ⟨h0, h1⟩ := h
  unfold shrU
  have hp : (0 : Int) < 2 ^ n := Int.pow_pos (by decide)
  rw [Int.fdiv_eq_ediv_of_nonneg _ (by omega)]
  exact ⟨Int.ediv_nonneg h0 (by omega), Int.lt_of_le_of_lt (Int.ediv_le_self _ h0) h1⟩
theorem wd_sh (op a : Int) (n : Nat) (h : Wd a) : Wd (shV op a n) := by
  unfold shV
  split
  · exact wd_wU _
  · split
    · exact wd_shr h n
    · split
      · exact wd_wU _
      · split
        · exact wd_or _ _
        · exact wd_or _ _
theorem wshift_ok (op a k : Int) (h : 1 ≤ op ∧ op ≤ 5) (ha : Wd a) (f : Fl) (H : List Blk) : ACalls Tryz.prog 104 [I op, I 64, U a, U k, .agg f.cells] H (fun e H' => e = .ret (.tup [U (shiftV op a k), .agg (shiftF op a k f).cells, I 0]) ∧ H' = H) := by
  refine acalls_tidy (acalls_of_vc (hn := fun _ => false) (od := fun _ => none) Tryz.func104 rfl (by kernel_rfl) ?_)
  obtain ⟨cc, z, s, o, p⟩ := f
  have cm := fun H => wmay_ok H
  have cl := wlow_ok
  have cs := wsigned_ok
  have ct := wtop_ok
  have ct62 := wtop63_ok
  have hn := mod6_lt k
  have hw : IntKind.i64.wrap (mod6 k : Int) = (mod6 k : Int) := wrapI (by omega) (by omega)
  have h1 : (op < 1) = False := by simp; omega
  have h5 : (5 < op) = False := by simp; omega
  simp -dsimp
  refine acallsW_det (cm _) ?_
  simp -dsimp [h1, h5, sh6, hw]
  refine acallsW_det (cl a ha _) ?_
  by_cases hk : mod6 k = 0
  · simp -dsimp [h1, h5, sh6, hw, hk]
    exact tidy_same rfl ⟨by simp [shiftV, shiftF, hk], rfl⟩
  · have hk0 : ((mod6 k : Int) == 0) = false := by simp; omega
    have hkd : ¬ ((mod6 k : Int) = 0) := by omega
    have hr : ((mod6 k : Int)).tmod 64 = (mod6 k : Int) := by rw [Int.tmod_eq_emod_of_nonneg (by omega)]; omega
    have : op = 1 ∨ op = 2 ∨ op = 3 ∨ op = 4 ∨ op = 5 := by omega
    have eV : shiftV op a k = shV op a (mod6 k) := if_neg hk
    have eF : shiftF op a k ⟨cc, z, s, o, p⟩ = shF op a (mod6 k) ⟨cc, z, s, o, p⟩ := if_neg hk
    rw [eV, eF]
    clear eV eF
    generalize mod6 k = n at *
    have hneg : ((n : Int) < 0) = False := by simp
    have hmu : min n IntKind.u64.bits = n := Nat.min_eq_left (by show n ≤ 64; omega)
    have hmi : min n IntKind.i64.bits = n := Nat.min_eq_left (by show n ≤ 64; omega)
    have hle : decide ((n : Int) ≤ 64) = true := decide_eq_true (by omega)
    obtain ⟨q, hq⟩ : ∃ q, q = n - 1 := ⟨_, rfl⟩
    have hwq : IntKind.i64.wrap ((n : Int) - 1) = (q : Int) := by rw [show (n : Int) - 1 = (q : Int) by omega]; exact wrapI (by omega) (by omega)
    have hqneg : ((q : Int) < 0) = False := by simp
    have hqu : min q IntKind.u64.bits = q := Nat.min_eq_left (by show q ≤ 64; omega)
    have hqi : min q IntKind.i64.bits = q := Nat.min_eq_left (by show q ≤ 64; omega)
    obtain ⟨t, ht⟩ : ∃ t, t = 64 - n := ⟨_, rfl⟩
    have hwt : IntKind.i64.wrap (64 - (n : Int)) = (t : Int) := by rw [show 64 - (n : Int) = (t : Int) by omega]; exact wrapI (by omega) (by omega)
    have hwt2 : IntKind.i64.wrap (t : Int) = (t : Int) := wrapI (by omega) (by omega)
    have htr : ((t : Int)).tmod 64 = (t : Int) := by rw [Int.tmod_eq_emod_of_nonneg (by omega)]; omega
    have hwn : IntKind.i64.wrap (64 - (t : Int)) = (n : Int) := by rw [show 64 - (t : Int) = (n : Int) by omega]; exact wrapI (by omega) (by omega)
    have htneg : ((t : Int) < 0) = False := by simp
    have htu : min t IntKind.u64.bits = t := Nat.min_eq_left (by show t ≤ 64; omega)
    have wd1 : Wd (shlU a n) := wd_wU _
    have wq1 : Wd (shlU a q) := wd_wU _
    have wd2 : Wd (shrU a n) := wd_shr ha n
    have wd3 : Wd (sarU a n) := wd_wU _
    have wd4 : Wd (orU (shlU a n) (shrU a t)) := wd_or _ _
    have wd5 : Wd (orU (shlU a t) (shrU a n)) := wd_or _ _
    rcases this with rfl | rfl | rfl | rfl | rfl
    · simp -dsimp [hk0, hkd, hw, hr, hneg, hmu, hle, hwq, hqneg, hqu]
      refine acallsW_det (cl _ wd1 _) ?_
      simp -dsimp [hk0, hkd, hw, hr, hneg, hmu, hle, hwq, hqneg, hqu]
      refine acallsW_det (ct _ wq1 _) ?_
      simp -dsimp [hk0, hkd, hw, hr, hneg, hmu, hle, hwq, hqneg, hqu]
      refine callDW_intro (ct _ wd1 _) ?_
      simp -dsimp [nqB]
      refine acallsW_det (wby_ok _ wd1 ⟨hiB (shlU a q), z, s, hiB (shlU a q) != hiB (shlU a n), p⟩ _) ?_
      simp -dsimp
      refine tidy_same rfl ⟨?_, rfl⟩
      simp [shF, shV, shC, shO, ← hq]
    · simp -dsimp [hk0, hkd, hw, hr, hneg, hmu, hle, hwq, hqneg, hqu]
      refine callDW_intro (ct _ ha _) ?_
      simp -dsimp [hk0, hkd, hw, hr, hneg, hmu, hle, hwq, hqneg, hqu, band1]
      refine acallsW_det (wby_ok _ wd2 ⟨bit0 (shrU a q), z, s, hiB a, p⟩ _) ?_
      simp -dsimp
      refine tidy_same rfl ⟨?_, rfl⟩
      simp [shF, shV, shC, shO, ← hq]
      rfl
    · simp -dsimp [hk0, hkd, hw, hr, hneg, hmi, hle, hwq, hqneg, hqi]
      refine acallsW_det (cs a ha _) ?_
      simp -dsimp [hk0, hkd, hw, hr, hneg, hmi, hle, hwq, hqneg, hqi]
      refine acallsW_det (cl _ wd3 _) ?_
      simp -dsimp [hk0, hkd, hw, hr, hneg, hmi, hle, hwq, hqneg, hqi, band1i]
      refine acallsW_det (wby_ok _ wd3 ⟨bit0 ((IntKind.i64.wrap a).fdiv (2 ^ q)), z, s, false, p⟩ _) ?_
      simp -dsimp
      refine tidy_same rfl ⟨?_, rfl⟩
      simp [shF, shV, shC, shO, ← hq]
    · simp -dsimp [hk0, hkd, hw, hr, hneg, hmu, hle, hwq, hqneg, hqu, hwt, htneg, htu]
      refine callDW_intro (cl _ wd4 _) ?_
      simp -dsimp [band1]
      refine callDW_intro (ct _ wd4 _) ?_
      simp -dsimp [nqB]
      refine tidy_same rfl ⟨?_, rfl⟩
      simp [shF, shV, shC, shO, ← ht]
    · simp -dsimp [hk0, hkd, hw, hr, hneg, hmu, hle, hwq, hqneg, hqu, hwt, htneg, htu, hwt2, htr, hwn]
      refine callDW_intro (cl _ wd5 _) ?_
      simp -dsimp
      refine acallsW_det (ct _ wd5 _) ?_
      simp -dsimp [i64_63]
      refine callDW_intro (ct62 _ wd5 _) ?_
      simp -dsimp [nqB]
      refine tidy_same rfl ⟨?_, rfl⟩
      simp [shF, shV, shC, shO, ← ht]
end Go.Proofs
