/- Great arrays: what is nought, as the kit tells it. -/
import Derived.Test.YtganjkhdlehhdaaGreatFwQtoFwT
import Derived.Test.YtganjkhdlehhdaaGreatG1toG3
import Derived.Test.YtganjkhdlehhdaaGreatFwUtoFwBox
set_option linter.unusedVariables false
set_option linter.unusedSimpArgs false
set_option maxHeartbeats 4000000
set_option maxRecDepth 100000
namespace Go.Mu
theorem zeroOf_of_run {P : Program} {t : TypeId} {z : Value} (w : World) (h : (zeroValue t).run P w = .ok z w) : zeroOf P t = some z := by
  unfold zeroOf
  cases hi : P.info? t with
  | none => simp [zeroValue, typeInfo, hi] at h
  | some i =>
    cases hz : i.zero with
    | none => simp [zeroValue, typeInfo, hi, hz] at h
    | some z' =>
      simp [zeroValue, typeInfo, hi, hz] at h
      simp [hz, h]
theorem bldOf_arr {P : Program} {t e : TypeId} {n s : Nat} {z : Value} (hz : zeroOf P t = some z) (ha : arOf P t = some (n, e)) (hs : szOf P e = some s) : bldOf P t = some (z.cells.toList, (List.range n).map fun i => (i * s, s)) := by
  unfold zeroOf at hz
  unfold arOf at ha
  unfold szOf at hs
  unfold bldOf
  cases hi : P.info? t with
  | none => rw [hi] at hz; cases hz
  | some i =>
    rw [hi] at hz
    simp only [Option.bind_some] at hz
    cases hu : P.underlying t with
    | none => rw [hu] at ha; cases ha
    | some d =>
      rw [hu] at ha
      cases d <;> simp at ha
      obtain ⟨h1, h2⟩ := ha
      rw [h1, h2]
      cases he : P.info? e with
      | none => simp [he] at hs
      | some ie =>
        simp [he] at hs
        simp [hz, he, hs]
theorem spl_one {α : Type} (cs : List α) (i : Nat) (x : α) (h : i < cs.length) : spl cs i [x] = cs.set i x := by
  unfold spl
  rw [List.set_eq_take_append_cons_drop, if_pos h]
  simp
theorem astore_box1 {M : List Blk} {k t i : Nat} {cs : List AV} {x : AV} (hk : M[k]? = some (.box t cs)) (h : i < cs.length) : astore M (.bp k i) [x] = some (M.set k (.box t (cs.set i x))) := by
  simp only [astore, hk, List.length_singleton]
  rw [if_pos (by omega), spl_one _ _ _ h]
@[simp] theorem binV_bp (P : Program) (op : BinOp) (t : TypeId) (c : Bool) (k o : Nat) (b : AV) (K : AV → Prop) (w : Wit K) : binV P op t c false (.bp k o) b K w = bindOW (binE P op t (.bp k o) b) K (wit _) := by simp [binV, isNum, isNilSl, nnB, andV]; rfl
theorem setSelf {α : Type} {l : List α} {k : Nat} {x : α} (h : l[k]? = some x) : l.set k x = l := by
  apply List.ext_getElem?
  intro j
  by_cases e : j = k
  · subst e; rw [List.getElem?_set_self (List.getElem?_eq_some_iff.1 h).1, h]
  · rw [List.getElem?_set_ne (fun q => e q.symm)]
end Go.Mu
namespace Go.Proofs
open Go.Mu
abbrev Y (n : Int) : AV := .v (.int .u8 n)
abbrev byB (b : List Int) : Blk := .box 127 (b.map Y)
abbrev meB (lay : List Rg) (kb : Nat) : Blk := .box 129 [Rg.sl lay, .bp kb 0]
structure MemAt (M : List Blk) (k kb : Nat) (lay : List Rg) (b : List Int) : Prop where
  me : M[k]? = some (meB lay kb)
  bytes : M[kb]? = some (byB b)
  len : b.length = 65536
theorem zeroBig_all : (Tryz.zeroCells127.toList.all fun v => match v with | .int .u8 _ => true | _ => false) = true := by kernel_rfl
theorem zeroBig_ex : ∃ b : List Int, Tryz.zeroCells127.toList = b.map (Value.int .u8) ∧ b.length = 65536 := by
  have h := zeroBig_all
  have hl : Tryz.zeroCells127.toList.length = 65536 := by rw [Array.length_toList]; exact Tryz.zeroCells127_size
  generalize Tryz.zeroCells127.toList = l at h hl
  refine ⟨l.map fun v => match v with | .int _ n => n | _ => 0, ?_, by simpa using hl⟩
  rw [List.map_map]
  rw [List.all_eq_true] at h
  clear hl
  induction l with
  | nil => rfl
  | cons x l ih =>
    rw [List.map_cons, ← ih (fun y hy => h y (List.mem_cons_of_mem _ hy))]
    congr 1
    have := h x (List.mem_cons_self ..)
    cases x with
    | int k n => cases k <;> first | rfl | simp at this
    | _ => simp at this
noncomputable def zeroB : List Int := zeroBig_ex.choose
theorem zeroB_len : zeroB.length = 65536 := zeroBig_ex.choose_spec.2
theorem bldBig : bldOf Tryz.prog 127 = some (zeroB.map (Value.int .u8), (List.range 65536).map fun i => (i * 1, 1)) := by
  have hz : zeroOf Tryz.prog 127 = some (.agg Tryz.zeroCells127) := zeroOf_of_run ⟨#[], fun _ _ => 0, 0, default, #[]⟩ (Tryz.zeroValue127 _)
  rw [bldOf_arr hz Tryz.ar127 Tryz.sz5]
  have e : (Value.agg Tryz.zeroCells127).cells.toList = zeroB.map (Value.int .u8) := zeroBig_ex.choose_spec.1
  rw [e]
def or64 (a b : Int) : Int := IntKind.u64.wrap ((BitVec.ofInt 64 a ||| BitVec.ofInt 64 b).toNat : Nat)
def getTo (b : List Int) (at_ : Nat) : Nat → Int
  | 0 => 0
  | n + 1 => or64 (getTo b at_ n) (IntKind.u64.wrap (IntKind.u64.wrap (b.getD (at_ + n) 0) * 2 ^ (8 * n)))
def getW (b : List Int) (at_ : Nat) : Int := getTo b at_ 8
def putTo (b : List Int) (at_ : Nat) (x : Int) : Nat → List Int
  | 0 => b
  | n + 1 => (putTo b at_ x n).set (at_ + n) (IntKind.u8.wrap (x.fdiv (2 ^ (8 * n))))
def putW (b : List Int) (at_ : Nat) (x : Int) : List Int := putTo b at_ x 8
theorem putTo_len (b : List Int) (at_ : Nat) (x : Int) : ∀ n, (putTo b at_ x n).length = b.length
  | 0 => rfl
  | n + 1 => by rw [putTo, List.length_set, putTo_len b at_ x n]
theorem getD_at {b : List Int} {i : Nat} (h : i < b.length) : b[i]? = some (b.getD i 0) := by
  rw [List.getD_eq_getElem?_getD, List.getElem?_eq_getElem h]; rfl
theorem mget_ok {M : List Blk} {k kb : Nat} {lay : List Rg} {b : List Int} (m : MemAt M k kb lay b) (at_ : Nat) (ha : at_ ≤ 65528) : ACalls Tryz.prog 65 [.bp k 0, I at_] M (fun e M' => e = .ret (U (getW b at_)) ∧ M' = M) := by
  refine acalls_of_vc (hn := fun _ => false) (od := fun _ => none) Tryz.func65 rfl (by kernel_rfl) ?_
  obtain ⟨m1, m2, m3⟩ := m
  simp -dsimp
  refine loop_rule (hn := fun _ => false) (od := fun _ => none) (fun (i : Nat) f M' => M = M' ∧ f 0 = .bp k 0 ∧ f 1 = I at_ ∧ f 5 = U (getTo b at_ i) ∧ f 7 = I i ∧ i ≤ 8) (fun i => 8 - i) (by kernel_rfl) 0 (by refine ⟨rfl, by simp, by simp, by simp [getTo], by simp, by omega⟩) ?_
  rintro i f _ ⟨rfl, f0, f1, f5, f7, hi⟩
  simp -dsimp [f0, f1, f5, f7]
  by_cases h8 : i < 8
  · have d8 : decide ((i : Int) < 8) = true := decide_eq_true (by omega)
    obtain ⟨q, hq⟩ : ∃ q, q = at_ + i := ⟨_, rfl⟩
    have w1 : IntKind.i64.wrap ((at_ : Int) + i) = (q : Int) := by rw [wrapI (by omega) (by omega)]; omega
    obtain ⟨s, hs⟩ : ∃ s, s = 8 * i := ⟨_, rfl⟩
    have w2 : IntKind.i64.wrap (8 * (i : Int)) = (s : Int) := by rw [wrapI (by omega) (by omega)]; omega
    have hx := getD_at (b := b) (i := q) (by omega)
    have ds : ((s : Int) < 0) = False := eq_false (by omega)
    have ms : min s IntKind.u64.bits = s := by show min s 64 = s; omega
    obtain ⟨X, hX⟩ : ∃ X, X = getTo b at_ i := ⟨_, rfl⟩
    have hn : getTo b at_ (i + 1) = or64 (getTo b at_ i) (IntKind.u64.wrap (IntKind.u64.wrap (b.getD (at_ + i) 0) * 2 ^ (8 * i))) := rfl
    rw [← hX, ← hq, ← hs] at hn
    rw [← hX] at f5
    have hn := Hid.mk hn
    have m3 := Hid.mk m3
    have hlt : q < 65536 := by omega
    obtain ⟨x, hxe⟩ : ∃ x, x = b.getD q 0 := ⟨_, rfl⟩
    rw [← hxe] at hx hn
    clear hX hq hxe
    have hs := Hid.mk hs
    simp -dsimp [f0, f1, f5, f7, d8, m1, m2, w1, w2, hx]
    refine andVW_intro (by omega) ?_
    simp -dsimp [f0, f1, f5, f7, d8, m1, m2, w1, w2, hx, ds, ms]
    refine ⟨i + 1, by omega, ?_, wrapS (by omega), by omega⟩
    rw [hn.out]; rfl
  · have d8 : decide ((i : Int) < 8) = false := decide_eq_false (by omega)
    have h8' : i = 8 := by omega
    subst h8'
    simp -dsimp [d8, f5]
    rfl
theorem mput_ok {M : List Blk} {k kb : Nat} {lay : List Rg} {b : List Int} (m : MemAt M k kb lay b) (at_ : Nat) (ha : at_ ≤ 65528) (x : Int) : ACalls Tryz.prog 66 [.bp k 0, I at_, U x] M (fun e M' => e = .ret (.tup []) ∧ M' = M.set kb (byB (putW b at_ x))) := by
  refine acalls_of_vc (hn := fun _ => false) (od := fun _ => none) Tryz.func66 rfl (by kernel_rfl) ?_
  obtain ⟨m1, m2, m3⟩ := m
  have hne : k ≠ kb := fun e => by subst e; rw [m1] at m2; simp at m2
  have hkb := lt_of_get m2
  obtain ⟨G, hG⟩ : ∃ G : List Int → List Blk, ∀ c, G c = M.set kb (byB c) := ⟨_, fun _ => rfl⟩
  have g1 : ∀ c, (G c)[k]? = some (meB lay kb) := fun c => by rw [hG, List.getElem?_set_ne (fun e => hne e.symm)]; exact m1
  have g2 : ∀ c, (G c)[kb]? = some (byB c) := fun c => by rw [hG, List.getElem?_set_self hkb]
  have g3 : ∀ c d, (G c).set kb (byB d) = G d := fun c d => by rw [hG, hG, List.set_set]
  have g0 : M = G b := by rw [hG]; exact (setSelf m2).symm
  have gE : M.set kb (byB (putW b at_ x)) = G (putTo b at_ x 8) := (hG _).symm
  rw [gE, g0]
  clear gE g0
  have m3 := Hid.mk m3
  simp -dsimp
  refine loop_rule (hn := fun _ => false) (od := fun _ => none) (fun (i : Nat) f M' => G (putTo b at_ x i) = M' ∧ f 0 = .bp k 0 ∧ f 1 = I at_ ∧ f 2 = U x ∧ f 7 = I i ∧ i ≤ 8) (fun i => 8 - i) (by kernel_rfl) 0 (by refine ⟨rfl, by simp, by simp, by simp, by simp, by omega⟩) ?_
  rintro i f _ ⟨rfl, f0, f1, f2, f7, hi⟩
  simp -dsimp [f0, f1, f2, f7]
  by_cases h8 : i < 8
  · have d8 : decide ((i : Int) < 8) = true := decide_eq_true (by omega)
    obtain ⟨q, hq⟩ : ∃ q, q = at_ + i := ⟨_, rfl⟩
    have w1 : IntKind.i64.wrap ((at_ : Int) + i) = (q : Int) := by rw [wrapI (by omega) (by omega)]; omega
    obtain ⟨s, hs⟩ : ∃ s, s = 8 * i := ⟨_, rfl⟩
    have w2 : IntKind.i64.wrap (8 * (i : Int)) = (s : Int) := by rw [wrapI (by omega) (by omega)]; omega
    have ds : ((s : Int) < 0) = False := eq_false (by omega)
    have ms : min s IntKind.u64.bits = s := by show min s 64 = s; omega
    have hn : putTo b at_ x (i + 1) = (putTo b at_ x i).set (at_ + i) (IntKind.u8.wrap (x.fdiv (2 ^ (8 * i)))) := rfl
    have hl : (putTo b at_ x i).length = 65536 := by rw [putTo_len]; exact m3.out
    obtain ⟨c, hc⟩ : ∃ c, c = putTo b at_ x i := ⟨_, rfl⟩
    rw [← hc] at hn hl ⊢
    rw [← hq, ← hs] at hn
    have hlt : q < 65536 := by omega
    have c1 := g1 c
    have c2 := g2 c
    have hst : ∀ v : Int, astore (G c) (.bp kb q) [Y v] = some (G (c.set q v)) := fun v => by
      rw [astore_box1 c2 (by rw [List.length_map]; omega), ← g3 c (c.set q v)]
      congr 2
      rw [byB, List.map_set]
    have hn := Hid.mk hn
    have hl := Hid.mk hl
    have hs := Hid.mk hs
    clear hc hq
    simp -dsimp [f0, f1, f2, f7, d8, c1, c2, w1, w2, ds, ms]
    refine andVW_intro (by omega) ?_
    simp -dsimp [f0, f1, f2, f7, d8, c1, c2, w1, w2, ds, ms, hst]
    exact ⟨i + 1, by omega, by rw [hn.out], wrapS (by omega), by omega⟩
  · have d8 : decide ((i : Int) < 8) = false := decide_eq_false (by omega)
    have h8' : i = 8 := by omega
    subst h8'
    simp -dsimp [d8]
theorem neqM (k o : Nat) : binE Tryz.prog .neq 34 (.bp k o) (.v (.pointer none)) = some (.v (.bool true)) := by kernel_rfl
theorem neqB (k o : Nat) : binE Tryz.prog .neq 126 (.bp k o) (.v (.pointer none)) = some (.v (.bool true)) := by kernel_rfl
theorem mthere_ok {M : List Blk} {k kb : Nat} {lay : List Rg} {b : List Int} (m : MemAt M k kb lay b) : ACalls Tryz.prog 68 [.bp k 0] M (fun e M' => e = .ret (Bo true) ∧ M' = M) := by
  refine acalls_of_vc (hn := fun _ => false) (od := fun _ => none) Tryz.func68 rfl (by kernel_rfl) ?_
  obtain ⟨m1, m2, m3⟩ := m
  simp -dsimp [m1, neqM, neqB]
theorem bclone_ok {M : List Blk} {kb o n : Nat} {b : List Int} (hb : M[kb]? = some (byB b)) (hl : o + n ≤ b.length) (hn : n ≤ 2^40) (h0 : 0 < n) : ACalls Tryz.prog 85 [.bs kb o n] M (fun e M' => e = .ret (.vs 1 (((b.drop o).take n).map fun x => [Y x])) ∧ M' = M) := by
  have hlen : (((b.drop o).take n).map fun x => [Y x]).length = n := by simp; omega
  have hfz : (((b.drop o).take n).map fun x => [Y x]).flatten.all AV.frzB = true := by
    rw [List.all_eq_true]
    intro c hc
    obtain ⟨e, he, hce⟩ := List.mem_flatten.1 hc
    obtain ⟨x, _, rfl⟩ := List.mem_map.1 he
    simp at hce
    subst hce
    rfl
  have hsrc : ((((b.map Y).drop o).take n).map fun c => [c]) = ((b.drop o).take n).map fun x => [Y x] := by
    rw [← List.map_drop, ← List.map_take, List.map_map]
    rfl
  obtain ⟨E, hE⟩ : ∃ E, E = ((b.drop o).take n).map fun x => [Y x] := ⟨_, rfl⟩
  rw [← hE] at hlen hfz hsrc ⊢
  refine acalls_under fun hu _ => acalls_tidy (acalls_weakE (acalls_of_vc (hn := fun d => d == 5 || d == 7) (od := fun _ => none) Tryz.func85 rfl (by kernel_rfl) ?_))
  simp -dsimp
  refine bindOW_intro (b := E) ?_ ?_
  · simp only [get_app_old hb]
    rw [if_pos ⟨by rw [List.length_map]; exact hl, fun c hc => by obtain ⟨x, _, rfl⟩ := List.mem_map.1 hc; rfl⟩]
    rw [← hsrc, List.map_take, List.map_drop]
  refine appendVW_hs (es := []) (by simp) rfl rfl (by rw [hlen]; show (0 + n) * 1 ≤ _; omega) (by rw [hlen]; show 0 + n ≤ _; omega) ?_
  simp -dsimp
  refine tidy_weak (.refl _) ?_
  refine tidy_give1 hu 1 _ _ hfz ?_ ?_
  · simp [AV.frz, AV.under]
  · have : (AV.hs M.length 0 E.length E.length).frz M.length 1 E = .vs 1 E := by simp [AV.frz]
    rw [this]
    exact ⟨rfl, rfl⟩
end Go.Proofs
namespace Go.Proofs
open Go.Mu
def Rg.fin (r : Rg) : Int := IntKind.i64.wrap (r.addr + IntKind.i64.wrap (8 * r.size))
def Rg.may (r : Rg) : Bool := decide (1 ≤ r.name.size) && decide (r.name.size ≤ 16) && decide (1 ≤ r.size) && decide (r.size ≤ 512) && decide (0 ≤ r.addr) && decide (r.addr.tmod 8 = 0) && decide (r.addr ≤ 49152 - 8 * r.size)
def Rg.clash (a b : Rg) : Bool := decide (a.name = b.name) || (decide (a.addr < b.addr + 8 * b.size) && decide (b.addr < a.addr + 8 * a.size))
def mayAt (l : List Rg) (i : Nat) : Bool := match l[i]? with | none => true | some a => a.may && (l.take i).all fun b => !a.clash b
def mayL (l : List Rg) : Bool := decide (l.length ≤ 16) && (List.range l.length).all (mayAt l)
structure Rg.Ok (r : Rg) : Prop where
  n1 : 1 ≤ r.name.size
  n2 : r.name.size ≤ 16
  s1 : 1 ≤ r.size
  s2 : r.size ≤ 512
  a1 : 0 ≤ r.addr
  a2 : r.addr.tmod 8 = 0
  a3 : r.addr ≤ 49152 - 8 * r.size
theorem Rg.may_iff (r : Rg) : r.may = true ↔ r.Ok := by
  unfold Rg.may
  simp only [Bool.and_eq_true, decide_eq_true_eq]
  exact ⟨fun ⟨⟨⟨⟨⟨⟨a, b⟩, c⟩, d⟩, e⟩, f⟩, g⟩ => ⟨a, b, c, d, e, f, g⟩, fun ⟨a, b, c, d, e, f, g⟩ => ⟨⟨⟨⟨⟨⟨a, b⟩, c⟩, d⟩, e⟩, f⟩, g⟩⟩
theorem Rg.fin_ok {r : Rg} (h : r.Ok) : r.fin = r.addr + 8 * r.size := by
  have h1 := h.s1; have h2 := h.s2; have h3 := h.a1; have h4 := h.a3
  unfold Rg.fin
  rw [wrapI (n := 8 * r.size) (by omega) (by omega), wrapI (by omega) (by omega)]
theorem mend_ok (r : Rg) (H : List Blk) : ACalls Tryz.prog 99 [.agg r.cells] H (fun e H' => e = .ret (I r.fin) ∧ H' = H) := by
  refine acalls_tidy (acalls_of_vc (hn := fun _ => false) (od := fun _ => none) Tryz.func99 rfl (by kernel_rfl) ?_)
  simp -dsimp [Rg.cells]
  exact tidy_same rfl ⟨rfl, rfl⟩
theorem mmay1_ok (r : Rg) (H : List Blk) : ACalls Tryz.prog 98 [.agg r.cells] H (fun e H' => e = .ret (Bo r.may) ∧ H' = H) := by
  refine acalls_tidy (acalls_of_vc (hn := fun _ => false) (od := fun _ => none) Tryz.func98 rfl (by kernel_rfl) ?_)
  obtain ⟨E, hE⟩ : ∃ E, E = r.may := ⟨_, rfl⟩
  rw [← hE]
  unfold Rg.may at hE
  obtain ⟨c1, h1⟩ : ∃ c, c = decide (1 ≤ r.name.size) := ⟨_, rfl⟩
  obtain ⟨c2, h2⟩ : ∃ c, c = decide (r.name.size ≤ 16) := ⟨_, rfl⟩
  obtain ⟨c3, h3⟩ : ∃ c, c = decide (1 ≤ r.size) := ⟨_, rfl⟩
  obtain ⟨c4, h4⟩ : ∃ c, c = decide (r.size ≤ 512) := ⟨_, rfl⟩
  obtain ⟨c5, h5⟩ : ∃ c, c = decide (0 ≤ r.addr) := ⟨_, rfl⟩
  obtain ⟨c6, h6⟩ : ∃ c, c = decide (r.addr.tmod 8 = 0) := ⟨_, rfl⟩
  obtain ⟨c7, h7⟩ : ∃ c, c = decide (r.addr ≤ 49152 - 8 * r.size) := ⟨_, rfl⟩
  rw [← h1, ← h2, ← h3, ← h4, ← h5, ← h6, ← h7] at hE
  have d1 : decide ((1 : Int) ≤ (r.name.size : Int)) = c1 := by rw [h1]; exact decide_eq_decide.2 (by omega)
  have d2 : decide ((r.name.size : Int) ≤ 16) = c2 := by rw [h2]; exact decide_eq_decide.2 (by omega)
  have d3 := h3.symm
  have d4 := h4.symm
  have d5 := h5.symm
  have d6 : (r.addr.tmod 8 == 0) = c6 := by rw [h6]; rfl
  have d7 : c3 = true → c4 = true → decide (r.addr ≤ IntKind.i64.wrap (49152 - IntKind.i64.wrap (8 * r.size))) = c7 := fun e3 e4 => by
    rw [h3, decide_eq_true_eq] at e3
    rw [h4, decide_eq_true_eq] at e4
    rw [h7, wrapI (n := 8 * r.size) (by omega) (by omega), wrapI (by omega) (by omega)]
  clear h1 h2 h3 h4 h5 h6 h7
  cases c1
  · simp -dsimp [Rg.cells, d1, d2, d3, d4, d5, d6]
    rw [show E = false by simp [hE]]
    exact tidy_same rfl ⟨rfl, rfl⟩
  cases c2
  · simp -dsimp [Rg.cells, d1, d2, d3, d4, d5, d6]
    rw [show E = false by simp [hE]]
    exact tidy_same rfl ⟨rfl, rfl⟩
  cases c3
  · simp -dsimp [Rg.cells, d1, d2, d3, d4, d5, d6]
    rw [show E = false by simp [hE]]
    exact tidy_same rfl ⟨rfl, rfl⟩
  cases c4
  · simp -dsimp [Rg.cells, d1, d2, d3, d4, d5, d6]
    rw [show E = false by simp [hE]]
    exact tidy_same rfl ⟨rfl, rfl⟩
  cases c5
  · simp -dsimp [Rg.cells, d1, d2, d3, d4, d5, d6]
    rw [show E = false by simp [hE]]
    exact tidy_same rfl ⟨rfl, rfl⟩
  cases c6
  · simp -dsimp [Rg.cells, d1, d2, d3, d4, d5, d6]
    rw [show E = false by simp [hE]]
    exact tidy_same rfl ⟨rfl, rfl⟩
  have d7 := d7 rfl rfl
  cases c7
  · simp -dsimp [Rg.cells, d1, d2, d3, d4, d5, d6, d7]
    rw [show E = false by simp [hE]]
    exact tidy_same rfl ⟨rfl, rfl⟩
  simp -dsimp [Rg.cells, d1, d2, d3, d4, d5, d6, d7]
  rw [show E = true by simp [hE]]
  exact tidy_same rfl ⟨rfl, rfl⟩
end Go.Proofs
