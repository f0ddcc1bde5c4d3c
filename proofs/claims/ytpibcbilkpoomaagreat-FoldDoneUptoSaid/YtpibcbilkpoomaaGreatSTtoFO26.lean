/- The same terms, as the document has it: of a list with itself. -/
import Derived.Test.YtpibcbilkpoomaaGreatFwXtoLR
import Derived.Test.YtpibcbilkpoomaaGreatGD
import Derived.Test.YtpibcbilkpoomaaGreatFwZtoFO3
import Derived.Test.YtpibcbilkpoomaaGreatU13toFO23
import Derived.Test.YtpibcbilkpoomaaGreatSS1toFO18
import Derived.Test.YtpibcbilkpoomaaGreatFwVtoG37
set_option linter.unusedVariables false
set_option linter.unusedSimpArgs false
set_option maxHeartbeats 4000000
set_option maxRecDepth 100000
namespace Go.Proofs
open Go.Mu
end Go.Proofs
namespace Go.Proofs
open Go.Mu
end Go.Proofs
namespace Go.Proofs
open Go.Mu
theorem thenE_of {a b : Int} (ha : a = 0) (hb : b = 0) : thenE a b = 0 := by rw [thenE, if_pos ha]; exact hb
theorem mustE_of {b : Bool} {e : Int} (h : b = true) : mustE b e = 0 := by rw [mustE, h]; rfl
section
variable {tv : List (ByteArray × Vr)} {ta : List (ByteArray × Bool)}
theorem exsChk_iff {deep : Nat} : ∀ {l : List Ex}, exsChk tv ta deep l = 0 ↔ ∀ e ∈ l, e.chk tv ta deep = 0
  | [] => by simp [exsChk]
  | e :: l => by
    rw [exsChk]
    constructor
    · intro h x hx
      obtain ⟨h1, h2⟩ := thenE_0 h
      rcases List.mem_cons.1 hx with rfl | hx
      · exact h1
      · exact exsChk_iff.1 h2 x hx
    · intro h
      exact thenE_of (h e (List.mem_cons_self ..)) (exsChk_iff.2 fun x hx => h x (List.mem_cons_of_mem _ hx))
structure ExC (tv : List (ByteArray × Vr)) (ta : List (ByteArray × Bool)) (d : Nat) (e : Ex) : Prop where
  deep : d ≤ 64
  argn : 0 ≤ argsN e.op ∧ (e.args.length : Int) = argsN e.op
  wrd : e.op = 1 ∨ e.word = 0
  nam : (if e.op = 2 then wordE tv ta e.name else if e.op = 3 then arrayE tv ta e.name else mustE e.name.toList.isEmpty 9) = 0
  all : ∀ a ∈ e.args, a.chk tv ta (d + 1) = 0
theorem ex_chk_iff {d : Nat} {e : Ex} : e.chk tv ta d = 0 ↔ ExC tv ta d e := by
  rw [Ex.chk_eq]
  constructor
  · intro h
    obtain ⟨h1, h⟩ := thenE_0 h
    obtain ⟨h2, h⟩ := thenE_0 h
    obtain ⟨h3, h⟩ := thenE_0 h
    obtain ⟨h4, h⟩ := thenE_0 h
    have h1 := mustE_0 (by decide) h1
    have h2 := mustE_0 (by decide) h2
    have h3 := mustE_0 (by decide) h3
    simp only [decide_eq_true_eq, Bool.and_eq_true, Bool.or_eq_true, beq_iff_eq] at h1 h2 h3
    exact ⟨by omega, h2, h3, h4, exsChk_iff.1 h⟩
  · intro h
    refine thenE_of (mustE_of ?_) (thenE_of (mustE_of ?_) (thenE_of (mustE_of ?_) (thenE_of h.nam (exsChk_iff.2 h.all))))
    · have := h.deep; simp; omega
    · simpa using h.argn
    · simpa using h.wrd
theorem exsNum_map (f : Ex → Ex) (d deep : Nat) : ∀ l : List Ex, (∀ a ∈ l, (f a).num d ≤ a.num deep) → exsNum d (l.map f) ≤ exsNum deep l
  | [], _ => by simp [exsNum]
  | e :: l, h => by
    rw [List.map_cons, exsNum, exsNum]
    have h1 := h e (List.mem_cons_self ..)
    have h2 := exsNum_map f d deep l fun a ha => h a (List.mem_cons_of_mem _ ha)
    omega
theorem exsNum_mem {d : Nat} {a : Ex} : ∀ {l : List Ex}, a ∈ l → a.num d ≤ exsNum d l
  | e :: l, h => by
    rw [exsNum]
    rcases List.mem_cons.1 h with rfl | h
    · omega
    · have := exsNum_mem (d := d) h; omega
theorem ex_fold_chk (K : KEnv) (m : Nat) : ∀ e : Ex, e.count ≤ m → ∀ deep d, d ≤ deep → e.chk tv ta deep = 0 → (e.fold K).chk tv ta d = 0 ∧ (e.fold K).num d ≤ e.num deep := by
  induction m with
  | zero => intro e h; rw [Ex.count_eq] at h; omega
  | succ m ih =>
    intro e hc deep d hd h
    have hcc := Ex.count_eq e
    have h := ex_chk_iff.1 h
    have hdd := h.deep
    have hl : ∀ a ∈ e.args, a.count ≤ m := fun a ha => by have := exs_mem_count ha; omega
    have hn : e.num deep = 1 + exsNum (deep + 1) e.args := by rw [Ex.num_eq, if_neg (by omega)]
    rw [Ex.fold_eq, hn]
    rcases top_cases K e.op e.word e.name (exsFold K e.args) with ⟨x, h1⟩ | h1 | h1
    · rw [h1]
      refine ⟨ex_chk_iff.2 ⟨by omega, ⟨by show 0 ≤ argsN 1; decide, by rfl⟩, .inl rfl, mustE_of (by kernel_rfl), fun a ha => absurd ha (by simp [cEx, Ex.args])⟩, ?_⟩
      rw [cEx, Ex.num_eq, if_neg (by omega)]
      simp [Ex.args, exsNum]
    · rw [exsFold_map] at h1
      obtain ⟨a, ha, e1⟩ := List.mem_map.1 h1
      rw [exsFold_map, ← e1]
      obtain ⟨q1, q2⟩ := ih a (hl a ha) (deep + 1) d (by omega) (h.all a ha)
      have := exsNum_mem (d := deep + 1) ha
      exact ⟨q1, by omega⟩
    · rw [h1]
      refine ⟨ex_chk_iff.2 ⟨by omega, ⟨h.argn.1, ?_⟩, h.wrd, h.nam, fun x hx => ?_⟩, ?_⟩
      · rw [exsFold_map]
        show ((e.args.map (Ex.fold K)).length : Int) = argsN e.op
        rw [List.length_map]
        exact h.argn.2
      · rw [exsFold_map] at hx
        obtain ⟨a, ha, rfl⟩ := List.mem_map.1 hx
        exact (ih a (hl a ha) (deep + 1) (d + 1) (by omega) (h.all a ha)).1
      · rw [Ex.num_eq, if_neg (by omega), exsFold_map]
        have := exsNum_map (Ex.fold K) (d + 1) (deep + 1) e.args fun a ha => (ih a (hl a ha) (deep + 1) (d + 1) (by omega) (h.all a ha)).2
        show 1 + exsNum (d + 1) (e.args.map _) ≤ _
        omega
theorem chk_notblank {d : Nat} {e : Ex} (h : e.chk tv ta d = 0) : blankB e = false := by
  have h := ex_chk_iff.1 h
  cases hb : blankB e
  · rfl
  · unfold blankB at hb
    simp only [Bool.and_eq_true, beq_iff_eq] at hb
    have := h.argn.1
    rw [hb.1.1.1] at this
    exact absurd this (by decide)
theorem kind_kept {s : Sm} (hk : kindE s = 0) (h4 : s.kind ≤ 4) (e' a' : Ex) (b' el' : List Sm) (ha : a' = s.a ∨ s.kind = 2) (hb : b' = s.body ∨ s.kind = 3 ∨ s.kind = 4) (hel : el' = s.els ∨ s.kind = 3) :
    kindE (.mk s.kind s.name s.names e' a' s.args s.low s.high b' el') = 0 := by
  unfold kindE at hk ⊢
  have hk := mustE_0 (by decide) hk
  refine mustE_of ?_
  simp only [Bool.and_eq_true] at hk ⊢
  obtain ⟨⟨⟨⟨⟨⟨⟨k1, k2⟩, k3⟩, k4⟩, k5⟩, k6⟩, k7⟩, k8⟩ := hk
  have h1 : 1 ≤ s.kind := by unfold kd1 at k1; simp at k1; omega
  have e1 : (Sm.mk s.kind s.name s.names e' a' s.args s.low s.high b' el').kind = s.kind := rfl
  have e2 : (Sm.mk s.kind s.name s.names e' a' s.args s.low s.high b' el').name = s.name := rfl
  have e3 : (Sm.mk s.kind s.name s.names e' a' s.args s.low s.high b' el').names = s.names := rfl
  have e4 : (Sm.mk s.kind s.name s.names e' a' s.args s.low s.high b' el').a = a' := rfl
  have e5 : (Sm.mk s.kind s.name s.names e' a' s.args s.low s.high b' el').args = s.args := rfl
  have e6 : (Sm.mk s.kind s.name s.names e' a' s.args s.low s.high b' el').low = s.low := rfl
  have e7 : (Sm.mk s.kind s.name s.names e' a' s.args s.low s.high b' el').high = s.high := rfl
  have e8 : (Sm.mk s.kind s.name s.names e' a' s.args s.low s.high b' el').body = b' := rfl
  have e9 : (Sm.mk s.kind s.name s.names e' a' s.args s.low s.high b' el').els = el' := rfl
  have hh : ∀ l k, k ∈ l → s.kind = k → hasK s.kind l = true := fun l k hk h => by unfold hasK; rw [List.any_eq_true]; exact ⟨k, hk, by simp [h]⟩
  refine ⟨⟨⟨⟨⟨⟨⟨k1, k2⟩, ?_⟩, ?_⟩, k5⟩, k6⟩, ?_⟩, ?_⟩
  · unfold kd3; rw [e1]
    have : hasK s.kind [1, 2, 3, 4] = true := by
      rcases (by omega : s.kind = 1 ∨ s.kind = 2 ∨ s.kind = 3 ∨ s.kind = 4) with h | h | h | h
      · exact hh _ 1 (by simp) h
      · exact hh _ 2 (by simp) h
      · exact hh _ 3 (by simp) h
      · exact hh _ 4 (by simp) h
    rw [this, Bool.or_true]
  · rcases ha with rfl | h
    · exact k4
    · unfold kd4; rw [e1, hh [2] 2 (by simp) h, Bool.or_true]
  · rcases hb with rfl | h | h
    · exact k7
    · unfold kd7; rw [e1, hh [3, 4, 5] 3 (by simp) h, Bool.or_true]
    · unfold kd7; rw [e1, hh [3, 4, 5] 4 (by simp) h, Bool.or_true]
  · rcases hel with rfl | h
    · exact k8
    · unfold kd8; rw [e1, hh [3] 3 (by simp) h, Bool.or_true]
theorem kind_parts {s : Sm} (hk : kindE s = 0) (h4 : s.kind ≤ 4) : (s.kind = 2 ∨ blankB s.a = true) ∧ s.args = [] ∧ (s.kind = 3 ∨ s.kind = 4 ∨ s.body = []) ∧ (s.kind = 3 ∨ s.els = []) := by
  unfold kindE at hk
  have hk := mustE_0 (by decide) hk
  simp only [Bool.and_eq_true] at hk
  obtain ⟨⟨⟨⟨⟨⟨⟨k1, k2⟩, k3⟩, k4⟩, k5⟩, k6⟩, k7⟩, k8⟩ := hk
  unfold kd4 hasK at k4
  unfold kd5 hasK at k5
  unfold kd7 hasK at k7
  unfold kd8 hasK at k8
  simp at k4 k5 k7 k8
  refine ⟨?_, ?_, ?_, ?_⟩
  · rcases k4 with h | h
    · exact .inr h
    · exact .inl h
  · rcases k5 with h | h
    · exact h.1
    · omega
  · rcases k7 with h | h | h | h
    · exact .inr (.inr h)
    · exact .inl h
    · exact .inr (.inl h)
    · omega
  · rcases k8 with h | h
    · exact .inr h
    · exact .inl h
theorem smsChk_app {p : Pg} {f : Int} {F : Fc} {all : List ByteArray} {d : Nat} {ar : List ByteArray} : ∀ {a b : List Sm}, smsChk p f F tv ta all d ar a = 0 → smsChk p f F tv ta all d ar b = 0 → smsChk p f F tv ta all d ar (a ++ b) = 0
  | [], _, _, h => h
  | s :: a, b, h, h2 => by
    rw [smsChk] at h
    obtain ⟨c1, c2⟩ := thenE_0 h
    rw [List.cons_append, smsChk]
    exact thenE_of c1 (smsChk_app c2 h2)
theorem smsNum_app {d : Nat} (h : d ≤ 64) : ∀ a b : List Sm, smsNum d (a ++ b) = smsNum d a + smsNum d b
  | [], b => by simp [smsNum]
  | s :: a, b => by
    rw [List.cons_append, smsNum, smsNum, if_neg (by omega), if_neg (by omega), smsNum_app h a b]
    omega
theorem nz_le (e : Ex) (d : Nat) : e.nz d ≤ e.num d := by unfold Ex.nz; split <;> omega
theorem sms_fold_chk (p p' : Pg) (f f' : Int) (F F' : Fc) (all N : List ByteArray) (m : Nat) : ∀ l, smsCount l ≤ m → ∀ (K : KEnv) (deep d : Nat) (ar : List ByteArray), d ≤ deep → smsFOk N l = true → smsChk p f F tv ta all deep ar l = 0 →
    smsChk p' f' F' tv ta [] d [] (smsFold l K).1 = 0 ∧ smsNum d (smsFold l K).1 ≤ smsNum deep l := by
  induction m with
  | zero => intro l hl K deep d ar _ _ _; have := sms_len l; obtain rfl : l = [] := List.eq_nil_of_length_eq_zero (by omega); simp [smsFold, smsChk, smsNum]
  | succ m ih =>
    intro l
    induction l with
    | nil => intro _ K deep d ar _ _ _; simp [smsFold, smsChk, smsNum]
    | cons s l ihl =>
      intro h K deep d ar hd hF hc
      simp only [smsCount] at h
      have hcc := Sm.count_eq s
      rw [smsFOk, Bool.and_eq_true, fOk_iff] at hF
      obtain ⟨hs, hF2⟩ := hF
      have h4 := hs.hi
      have h1 := hs.lo
      rw [smsChk] at hc
      obtain ⟨c1, c2⟩ := thenE_0 hc
      obtain ⟨q1, q2⟩ := ihl (by omega) (s.fold K).2.2 deep d ar hd hF2 c2
      rw [Sm.chk_eq] at c1
      obtain ⟨c0, c1⟩ := thenE_0 c1
      have c0 := mustE_0 (by decide) c0
      simp only [decide_eq_true_eq] at c0
      have hd64 : deep ≤ 64 := by omega
      obtain ⟨ck, c1⟩ := thenE_0 c1
      obtain ⟨pa, pg, pb, pe⟩ := kind_parts ck h4
      rw [smsFold, smsNum, if_neg (by omega), smsNum_app (by omega)]
      suffices hone : smsChk p' f' F' tv ta [] d [] (s.fold K).1 = 0 ∧ smsNum d (s.fold K).1 ≤ s.num deep by
        exact ⟨smsChk_app hone.1 q1, Nat.add_le_add hone.2 q2⟩
      have ex := fun K => ex_fold_chk (tv := tv) (ta := ta) K _ s.e (Nat.le_refl _) deep d hd
      have xa := fun K => ex_fold_chk (tv := tv) (ta := ta) K _ s.a (Nat.le_refl _) deep d hd
      have one : ∀ s', Sm.chk p' f' F' tv ta [] d [] s' = 0 → s'.num d ≤ s.num deep → smsChk p' f' F' tv ta [] d [] [s'] = 0 ∧ smsNum d [s'] ≤ s.num deep := fun s' a b => by
        rw [smsChk, smsNum, if_neg (by omega)]
        exact ⟨thenE_of a (by rw [smsChk]), by rw [smsNum]; omega⟩
      have hm : mustE (decide ((d : Int) ≤ 64)) 12 = 0 := mustE_of (by simp; omega)
      rw [Sm.fold_eq, Sm.foldE]
      by_cases k1 : s.kind = 1
      · rw [if_pos k1] at c1 ⊢
        obtain ⟨cw, c1⟩ := thenE_0 c1
        obtain ⟨_, ce⟩ := thenE_0 c1
        obtain ⟨e1, e2⟩ := ex K ce
        have hb : s.body = [] := by rcases pb with h | h | h <;> first | omega | exact h
        have hel : s.els = [] := by rcases pe with h | h <;> first | omega | exact h
        have hbl : blankB s.a = true := by rcases pa with h | h <;> first | omega | exact h
        refine one _ ?_ ?_
        · rw [Sm.chk_eq, if_pos (by exact k1)]
          exact thenE_of hm (thenE_of (kind_kept ck h4 _ _ _ _ (.inl rfl) (.inl rfl) (.inl rfl)) (thenE_of cw (thenE_of (mustE_of rfl) e1)))
        · have e3 := nz_le (s.e.fold K) d
          have e4 : s.e.nz deep = s.e.num deep := by rw [Ex.nz, chk_notblank ce]; rfl
          rw [Sm.num_eq, Sm.num_eq]
          simp only [Sm.e, Sm.a, Sm.args, Sm.body, Sm.els] at hb hel hbl pg e3 e4 e2 ⊢
          rw [hb, hel, pg, e4]
          simp only [Ex.nz, hbl, exsNz, smsNum] at e3 ⊢
          simp only [if_true] at e3 ⊢
          omega
      rw [if_neg k1] at c1 ⊢
      by_cases k2 : s.kind = 2
      · rw [if_pos k2] at c1 ⊢
        obtain ⟨cw, c1⟩ := thenE_0 c1
        obtain ⟨ca, c1⟩ := thenE_0 c1
        obtain ⟨ce, c1⟩ := thenE_0 c1
        obtain ⟨e1, e2⟩ := ex K ce
        obtain ⟨a1, a2⟩ := xa K ca
        have hb : s.body = [] := by rcases pb with h | h | h <;> first | omega | exact h
        have hel : s.els = [] := by rcases pe with h | h <;> first | omega | exact h
        refine one _ ?_ ?_
        · rw [Sm.chk_eq, if_neg (by exact k1), if_pos (by exact k2)]
          refine thenE_of hm (thenE_of (kind_kept ck h4 _ _ _ _ (.inr k2) (.inl rfl) (.inl rfl)) (thenE_of cw (thenE_of a1 (thenE_of e1 (thenE_of ?_ ?_)))))
          · show smsChk _ _ _ _ _ _ _ _ s.body = 0
            rw [hb, smsChk]
          · show smsChk _ _ _ _ _ _ _ _ s.els = 0
            rw [hel, smsChk]
        · have e3 := nz_le (s.e.fold K) d
          have e4 : s.e.nz deep = s.e.num deep := by rw [Ex.nz, chk_notblank ce]; rfl
          have a3 := nz_le (s.a.fold K) d
          have a4 : s.a.nz deep = s.a.num deep := by rw [Ex.nz, chk_notblank ca]; rfl
          rw [Sm.num_eq, Sm.num_eq]
          simp only [Sm.e, Sm.a, Sm.args, Sm.body, Sm.els] at hb hel pg e3 e4 e2 a2 a3 a4 ⊢
          rw [hb, hel, pg, e4, a4]
          simp only [exsNz, smsNum]
          omega
      rw [if_neg k2] at c1 ⊢
      have k34 : s.kind = 3 ∨ s.kind = 4 := by omega
      rw [if_pos k34] at c1
      obtain ⟨ce, c1⟩ := thenE_0 c1
      obtain ⟨cb, cel⟩ := thenE_0 c1
      have hbl : blankB s.a = true := by rcases pa with h | h <;> first | omega | exact h
      have hnum : s.num deep = 1 + s.e.num deep + smsNum (deep + 1) s.body + smsNum (deep + 1) s.els := by
        rw [Sm.num_eq, pg]
        have e4 : s.e.nz deep = s.e.num deep := by rw [Ex.nz, chk_notblank ce]; rfl
        have a4 : s.a.nz deep = 0 := by rw [Ex.nz, hbl]; rfl
        rw [e4, a4]; simp only [exsNz]; omega
      have num' : ∀ (e' : Ex) (b' el' : List Sm), (Sm.mk s.kind s.name s.names e' s.a s.args s.low s.high b' el').num d ≤ 1 + e'.num d + smsNum (d + 1) b' + smsNum (d + 1) el' := fun e' b' el' => by
        rw [Sm.num, pg]
        have e3 := nz_le e' d
        have a4 : s.a.nz d = 0 := by rw [Ex.nz, hbl]; rfl
        rw [a4]; simp only [exsNz]; omega
      have hfb := hs.body
      have hfe := hs.els
      have ib := fun K d' (hd' : d' ≤ deep + 1) => ih s.body (by omega) K (deep + 1) d' ar hd' hfb cb
      have ie := fun K d' (hd' : d' ≤ deep + 1) => ih s.els (by omega) K (deep + 1) d' ar hd' hfe cel
      by_cases k3 : s.kind = 3
      · rw [if_pos k3]
        split
        · split
          · obtain ⟨b1, b2⟩ := ie K d (by omega)
            exact ⟨b1, Nat.le_trans b2 (by omega)⟩
          · obtain ⟨b1, b2⟩ := ib K d (by omega)
            exact ⟨b1, Nat.le_trans b2 (by omega)⟩
        · obtain ⟨e1, e2⟩ := ex K ce
          obtain ⟨b1, b2⟩ := ib K (d + 1) (by omega)
          obtain ⟨l1, l2⟩ := ie K (d + 1) (by omega)
          refine one _ ?_ ?_
          · rw [Sm.chk_eq, if_neg (by exact k1), if_neg (by exact k2), if_pos (by exact k34)]
            exact thenE_of hm (thenE_of (kind_kept ck h4 _ _ _ _ (.inl rfl) (.inr (.inl k3)) (.inr k3)) (thenE_of e1 (thenE_of b1 l1)))
          · have := num' (s.e.fold K) (smsFold s.body K).1 (smsFold s.els K).1
            omega
      · rw [if_neg k3]
        have k4 : s.kind = 4 := by omega
        rw [if_pos k4]
        have hel : s.els = [] := by rcases pe with h | h <;> first | omega | exact h
        obtain ⟨e1, e2⟩ := ex (kLess K (smsSets s.body)) ce
        obtain ⟨b1, b2⟩ := ib (kLess K (smsSets s.body)) (d + 1) (by omega)
        refine one _ ?_ ?_
        · rw [Sm.chk_eq, if_neg (by exact k1), if_neg (by exact k2), if_pos (by exact k34)]
          refine thenE_of hm (thenE_of (kind_kept ck h4 _ _ _ _ (.inl rfl) (.inr (.inr k4)) (.inl rfl)) (thenE_of e1 (thenE_of b1 ?_)))
          show smsChk _ _ _ _ _ _ _ _ s.els = 0
          rw [hel, smsChk]
        · have := num' (s.e.fold (kLess K (smsSets s.body))) (smsFold s.body (kLess K (smsSets s.body))).1 s.els
          rw [hel] at this hnum ⊢
          simp only [smsNum] at this hnum
          omega
end
theorem fok_words {N : List ByteArray} (m : Nat) : ∀ (l : List Sm) (d : Nat), smsCount l ≤ m → smsFOk N l = true → smsWords d l = [] := by
  induction m with
  | zero => intro l d hl _; have := sms_len l; obtain rfl : l = [] := List.eq_nil_of_length_eq_zero (by omega); simp [smsWords]
  | succ m ih =>
    intro l
    induction l with
    | nil => intro d _ _; simp [smsWords]
    | cons s l ihl =>
      intro d h hF
      simp only [smsCount] at h
      have hcc := Sm.count_eq s
      rw [smsFOk, Bool.and_eq_true, fOk_iff] at hF
      obtain ⟨hs, hF2⟩ := hF
      have h4 := hs.hi
      rw [smsWords]
      split
      · rfl
      · rw [ihl d (by omega) hF2, Sm.words_eq, if_neg (by omega), ih _ _ (by omega) hs.body, ih _ _ (by omega) hs.els]; rfl
theorem fok_uses {N : List ByteArray} {k : Int} (hk : 4 < k) (m : Nat) : ∀ (l : List Sm), smsCount l ≤ m → smsFOk N l = true → smsUses k l = false := by
  induction m with
  | zero => intro l hl _; have := sms_len l; obtain rfl : l = [] := List.eq_nil_of_length_eq_zero (by omega); simp [smsUses]
  | succ m ih =>
    intro l
    induction l with
    | nil => intro _ _; simp [smsUses]
    | cons s l ihl =>
      intro h hF
      simp only [smsCount] at h
      have hcc := Sm.count_eq s
      rw [smsFOk, Bool.and_eq_true, fOk_iff] at hF
      obtain ⟨hs, hF2⟩ := hF
      have h4 := hs.hi
      have : (s.kind == k) = false := by rw [beq_eq_false_iff_ne]; omega
      rw [smsUses, Sm.uses_eq, ihl (by omega) hF2, ih _ (by omega) hs.body, ih _ (by omega) hs.els, this]; rfl
theorem may_fold {rs : List Rg} {F : Fc} (hN : ∃ N, smsFOk N F.body = true) (h : askF (onePg rs F) = 0) : askF (onePg rs F.fold1) = 0 := by
  obtain ⟨N, hN⟩ := hN
  have hm : mayE (onePg rs F) = 0 := by
    unfold askF at h
    by_cases hm : mayE (onePg rs F) = 0
    · exact hm
    · rw [if_neg hm] at h; exact h
  have hN' := fold_fok N _ F.body (zeroK F.vars) (Nat.le_refl _) hN
  have hN1 : smsFOk N F.fold1.body = true := hN'
  obtain ⟨h1, h2⟩ := thenE_0 hm
  obtain ⟨h2, h3⟩ := thenE_0 h2
  obtain ⟨h3, h4⟩ := thenE_0 h3
  obtain ⟨h4, h5⟩ := thenE_0 h4
  unfold onePg at h1 h2 h3 h4 h5
  rw [asksE] at h5
  obtain ⟨h5, _⟩ := thenE_0 h5
  unfold askE at h5
  obtain ⟨q1, q2⟩ := sms_fold_chk _ (onePg rs F.fold1) _ 0 _ F.fold1 _ N _ F.body (Nat.le_refl _) (zeroK F.vars) 1 1 _ (Nat.le_refl _) hN h5
  have hm' : mayE (onePg rs F.fold1) = 0 := by
    unfold manyE at h1
    obtain ⟨a1, a2⟩ := thenE_0 h1
    obtain ⟨a2, a3⟩ := thenE_0 a2
    obtain ⟨a3, a4⟩ := thenE_0 a3
    have a4 := mustE_0 (by decide) a4
    rw [decide_eq_true_eq, sizeM_num] at a4
    refine thenE_of (thenE_of a1 (thenE_of a2 (thenE_of a3 (mustE_of ?_)))) (thenE_of h2 (thenE_of h3 (thenE_of h4 ?_)))
    · rw [decide_eq_true_eq, sizeM_num]
      simp only [onePg, funcsNum] at a4 ⊢
      have : smsNum 1 F.fold1.body ≤ smsNum 1 F.body := q2
      omega
    · show asksE (onePg rs F.fold1) 0 [F.fold1] = 0
      rw [asksE, asksE, askE, fok_words _ F.fold1.body 1 (Nat.le_refl _) hN1]
      exact thenE_of q1 rfl
  unfold askF
  rw [if_pos hm', if_neg]
  have u5 := fok_uses (k := 5) (by omega) _ F.fold1.body (Nat.le_refl _) hN1
  have u6 := fok_uses (k := 6) (by omega) _ F.fold1.body (Nat.le_refl _) hN1
  unfold formT
  simp [onePg, fcsUse, u5, u6]
theorem rounds_end {rs : List Rg} (n : Nat) : ∀ F : Fc, RdOk rs F → askF (onePg rs F) = 0 → (roundsF rs n F).2.length < n →
    askF (onePg rs (roundsF rs n F).1) = 0 ∧ RdOk rs (roundsF rs n F).1 ∧ (onePg rs (roundsF rs n F).1).eqB (onePg rs (roundsF rs n F).1.fold1) = true := by
  induction n with
  | zero => intro F _ _ h; omega
  | succ n ih =>
    intro F hR h hl
    rw [roundsF] at hl ⊢
    split at hl
    · rename_i he
      rw [if_pos he]
      exact ⟨h, hR, he⟩
    · rename_i he
      rw [if_neg he]
      obtain ⟨K, hK, _⟩ := hR.ask.kinds
      exact ih F.fold1 hR.fold (may_fold ⟨K, hK⟩ h) (by simpa using hl)
theorem noK_top {o w : Int} {n : ByteArray} (os : List Ex) : (exsFold noK os = os) → (foldTop noK o w n os).fold noK = foldTop noK o w n os := by
  intro h
  have hm : ∀ a ∈ os, a.fold noK = a := by
    rw [exsFold_map] at h
    intro a ha
    obtain ⟨i, hi, rfl⟩ := List.mem_iff_getElem.1 ha
    have := congrArg (fun l => l[i]?) h
    simpa [hi] using this
  rcases top_cases noK o w n os with ⟨x, h1⟩ | h1 | h1
  · rw [h1]; unfold cEx; rw [Ex.fold_eq]; simp [Ex.op, Ex.word, Ex.name, Ex.args, exsFold, foldTop, wArgN]
  · exact hm _ h1
  · rw [h1, Ex.fold_eq]
    show foldTop noK o w n (exsFold noK os) = _
    rw [h, h1]
theorem noK_twice (m : Nat) : (∀ e : Ex, e.count ≤ m → (e.fold noK).fold noK = e.fold noK) ∧ (∀ l : List Ex, exsCount l ≤ m → exsFold noK (exsFold noK l) = exsFold noK l) := by
  induction m with
  | zero =>
    refine ⟨fun e h => by rw [Ex.count_eq] at h; omega, fun l hl => ?_⟩
    have := exs_len l; obtain rfl : l = [] := List.eq_nil_of_length_eq_zero (by omega); simp [exsFold]
  | succ m ih =>
    have he : ∀ e : Ex, e.count ≤ m + 1 → (e.fold noK).fold noK = e.fold noK := fun e h => by
      have hc := Ex.count_eq e
      rw [Ex.fold_eq noK e]
      exact noK_top _ (ih.2 e.args (by omega))
    refine ⟨he, fun l => ?_⟩
    induction l with
    | nil => intro _; simp [exsFold]
    | cons e l ihl =>
      intro h
      simp only [exsCount] at h
      rw [exsFold, exsFold, he e (by omega), ihl (by rw [Ex.count_eq] at h; omega)]
theorem fold_safe (K : KEnv) (m : Nat) : ∀ e : Ex, e.count ≤ m → e.safe = true → (e.fold K).safe = true := by
  induction m with
  | zero => intro e h; rw [Ex.count_eq] at h; omega
  | succ m ih =>
    intro e hc h
    have hcc := Ex.count_eq e
    rw [Ex.safe_eq, exsSafe_all, Bool.and_eq_true, List.all_eq_true] at h
    have hall : ∀ x ∈ exsFold K e.args, x.safe = true := fun x hx => by
      rw [exsFold_map] at hx
      obtain ⟨a, ha, rfl⟩ := List.mem_map.1 hx
      exact ih a (by have := exs_mem_count ha; omega) (h.1 a ha)
    rw [Ex.fold_eq]
    rcases top_cases K e.op e.word e.name (exsFold K e.args) with ⟨x, h1⟩ | h1 | h1
    · rw [h1]; rfl
    · exact hall _ h1
    · rw [h1, Ex.safe_eq, exsSafe_all, Bool.and_eq_true, List.all_eq_true]
      exact ⟨hall, h.2⟩
end Go.Proofs
