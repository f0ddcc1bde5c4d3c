/- The names that statements set: sorted. -/
import Derived.Test.YtpibcbilkpoomaaGreatU11toFO8
import Derived.Sort.Walk0
import Derived.Test.YtpibcbilkpoomaaGreatFO12
import Derived.Test.YtpibcbilkpoomaaGreatFwZtoFO3
set_option linter.unusedVariables false
set_option linter.unusedSimpArgs false
set_option maxHeartbeats 4000000
set_option maxRecDepth 100000
namespace Go.Proofs
open Go.Mu
def bLe (a b : ByteArray) : Prop := a.data.toList ≤ b.data.toList
theorem ba_ext {a b : ByteArray} (h : a.data.toList = b.data.toList) : a = b := by
  cases a; cases b
  simp only [Array.toList_inj] at h
  rw [h]
theorem bLe_antisymm {a b : ByteArray} (h1 : bLe a b) (h2 : bLe b a) : a = b := ba_ext (List.le_antisymm h1 h2)
theorem sortB_sorted (l : List ByteArray) : (sortB l).Pairwise bLe := by
  unfold sortB
  rw [List.pairwise_map]
  have := List.pairwise_mergeSort (le := fun x y : List UInt8 => decide (x ≤ y)) (fun a b c h1 h2 => by simp only [decide_eq_true_eq] at *; exact List.le_trans h1 h2) (fun a b => by simp only [Bool.or_eq_true, decide_eq_true_eq]; exact List.le_total a b) (l.map fun n => n.data.toList)
  exact this.imp fun {a b} h => by simpa [bLe] using h
theorem sorted_unique {a b : List ByteArray} (ha : a.Pairwise bLe) (hb : b.Pairwise bLe) (hp : a.Perm b) : a = b :=
  List.Perm.eq_of_pairwise (fun x y _ _ h1 h2 => bLe_antisymm h1 h2) ha hb hp
theorem sortB_eq {a b : List ByteArray} (h : a.Perm b) : sortB a = sortB b :=
  sorted_unique (sortB_sorted a) (sortB_sorted b) ((sortB_perm a).trans (h.trans (sortB_perm b).symm))
def setsN (l : List Sm) : List ByteArray := sortB ((addT (smsSets l) []).map (·.1))
theorem setsN_mem (l : List Sm) (n : ByteArray) : n ∈ setsN l ↔ n ∈ smsSets l := by
  unfold setsN
  rw [(sortB_perm _).mem_iff, addT_mem]; simp
theorem setsN_len (l : List Sm) : (setsN l).length ≤ smsCount l := by
  unfold setsN
  rw [(sortB_perm _).length_eq, List.length_map]
  have h1 := addT_len (smsSets l) []
  have h2 := sets_count _ l (Nat.le_refl _)
  simp only [List.length_nil] at h1
  omega
theorem fsets_ok (l : List Sm) (hc : smsCount l ≤ 2^36) (H : List Blk) : ACalls Tryz.prog 17 [Sm.sl l] H (fun e H' => e = .ret (St.sl (setsN l)) ∧ H' = H) := by
  refine acalls_under fun hu _ => acalls_weakE (acalls_tidy (acalls_of_awp Tryz.func17 rfl (by kernel_rfl) ?_))
  obtain ⟨t, ht⟩ : ∃ t, t = addT (smsSets l) [] := ⟨_, rfl⟩
  have htl : t.length ≤ 2^40 := by
    have h1 := addT_len (smsSets l) []
    have h2 := sets_count _ l (Nat.le_refl _)
    rw [ht]; simp only [List.length_nil] at h1; omega
  have hN : setsN l = sortB (t.map (·.1)) := by rw [setsN, ht]
  rw [hN]
  refine awp_cut (fun _ => false) (fun _ => none) (fun f H' => H' = H ++ [] ∧ f 0 = Sm.sl l) (by kernel_rfl) ?_ ?_
  · simp -dsimp
  rintro g _ ⟨rfl, g0⟩
  rw [List.append_nil]
  refine awp_cut (fun _ => false) (fun _ => none) (fun f H' => H' = H ++ [.map (strM okA []), .box 107 [.hm H.length]] ∧ f 0 = Sm.sl l ∧ f 3 = .bp (H.length + 1) 0) (by kernel_rfl) ?_ ?_
  · simp -dsimp [g0, strM]
  clear g g0
  rintro g _ ⟨rfl, g0, g3⟩
  refine awp_cut (fun _ => false) (fun _ => none) (fun f H' => H' = H ++ [.map (strM okA []), .box 107 [.hm H.length], .box 108 [.v .nilFunc]] ∧ f 0 = Sm.sl l ∧ f 3 = .bp (H.length + 1) 0 ∧ f 4 = .bp (H.length + 2) 0) (by kernel_rfl) ?_ ?_
  · simp -dsimp [g0, g3]
  clear g g0 g3
  rintro g _ ⟨rfl, g0, g3, g4⟩
  refine awp_cut (fun _ => false) (fun _ => none) (fun f H' => H' = H ++ [.map (strM okA []), .box 107 [.hm H.length], setsF (H.length + 1) (H.length + 2)] ∧ f 0 = Sm.sl l ∧ f 3 = .bp (H.length + 1) 0 ∧ f 4 = .bp (H.length + 2) 0) (by kernel_rfl) ?_ ?_
  · simp -dsimp [g0, g3, g4]
  clear g g0 g3 g4
  rintro g _ ⟨rfl, g0, g3, g4⟩
  obtain ⟨G, hG⟩ : ∃ G : KeyT → List Blk, ∀ t, G t = H ++ [.map (strM okA t), .box 107 [.hm H.length], setsF (H.length + 1) (H.length + 2)] := ⟨_, fun _ => rfl⟩
  have g00 : ∀ t, (G t)[H.length]? = some (.map (strM okA t)) := fun t => by rw [hG]; simp
  have g01 : ∀ t, (G t)[H.length + 1]? = some (.box 107 [.hm H.length]) := fun t => by rw [hG]; simp
  have g02 : ∀ t, (G t)[H.length + 2]? = some (setsF (H.length + 1) (H.length + 2)) := fun t => by rw [hG]; simp
  have gs : ∀ t t', (G t).set H.length (.map (strM okA t')) = G t' := fun t t' => by rw [hG, hG]; simp
  rw [← hG]
  refine awp_cut (fun _ => false) (fun _ => none) (fun f H' => H' = G t ∧ f 3 = .bp (H.length + 1) 0) (by kernel_rfl) ?_ ?_
  · have c1 := sets1_ok _ l [] (Nat.lt_succ_self _) hc (G []) (H.length + 1) (H.length + 2) H.length (by omega) (by omega) (g01 _) (g02 _) (g00 _)
    rw [gs, ← ht] at c1
    simp -dsimp [g0, g3, g4, g02]
    refine acallsW_of c1 ?_
    rintro e _ ⟨rfl, rfl⟩
    simp -dsimp [g3]
  clear g g0 g3 g4
  rintro g _ ⟨rfl, g3⟩
  have ck := mkeys_ok H.length (G t)
  have cs := sorted_ok t H.length (G t).length htl (G t ++ [.box 107 [.hm H.length]]) (by simp) (get_app_old (g00 t) _)
  refine awp_all (fun _ => false) (fun _ => none) (by kernel_rfl) ?_
  simp -dsimp [g3, g01]
  refine acallsW_of ck ?_
  rintro e _ ⟨rfl, rfl⟩
  simp -dsimp
  refine acallsW_of cs ?_
  rintro e _ ⟨ns, hp, rfl, rfl⟩
  rw [sortB_eq hp]
  obtain ⟨S, hS⟩ : ∃ S, S = sortB (t.map (·.1)) := ⟨_, rfl⟩
  rw [← hS]
  obtain ⟨j, hj⟩ : ∃ j, j = 4 := ⟨_, rfl⟩
  have hlen : (G t ++ [Blk.box 107 [.hm H.length]]).length = H.length + j := by rw [hG, hj]; simp
  rw [hlen]
  simp -dsimp
  have hM : G t ++ [Blk.box 107 [.hm H.length], stsB S] = H ++ [.map (strM okA t), .box 107 [.hm H.length], setsF (H.length + 1) (H.length + 2), .box 107 [.hm H.length], stsB S] := by rw [hG]; simp
  rw [hM]
  refine tidy_giveO (f := fun x => x) hu j 1 9 _ (by rw [hj]; rfl) (sts_frzB _) (fun x => rfl) (fun x L' hx _ => ?_)
  refine tidy_same ?_ (tidy_weak hx.weak ⟨rfl, rfl⟩)
  rcases hx with ⟨rfl, _⟩ | rfl <;> rfl
end Go.Proofs
namespace Go.Proofs
open Go.Mu
def adel (n : ByteArray) : KL → KL
  | [] => []
  | (m, x) :: t => if n = m then t else (m, x) :: adel n t
theorem mdel_str (n : ByteArray) : ∀ t : KL, mdel .string (.string n) (strM kA t) = some (strM kA (adel n t))
  | [] => rfl
  | (m, x) :: t => by
    have e : strM kA ((m, x) :: t) = (.string m, kA x) :: strM kA t := rfl
    rw [e, mdel, sameNow_str, adel]
    by_cases h : n = m
    · subst h; simp
    · have h' : decide (n = m) = false := by simp [h]
      simp only [h', if_neg h]
      rw [mdel_str n t]; rfl
theorem adel_sub (n : ByteArray) : ∀ t : KL, (adel n t).Sublist t
  | [] => .slnil
  | (m, x) :: t => by
    rw [adel]
    split
    · exact List.sublist_cons_self _ _
    · exact (adel_sub n t).cons_cons _
theorem adel_look (n : ByteArray) : ∀ {t : KL}, (t.map (·.1)).Nodup → ∀ m, alook m (adel n t) = if m = n then none else alook m t
  | [], _, m => by simp [adel, alook]
  | (a, x) :: t, hn, m => by
    simp only [List.map_cons, List.nodup_cons] at hn
    rw [adel]
    by_cases h : n = a
    · subst h
      rw [if_pos rfl, alook]
      by_cases h2 : m = n
      · subst h2
        rw [if_pos rfl]
        cases hl : alook m t with
        | none => rfl
        | some y => exact absurd (List.mem_map.2 ⟨_, (alook_mem hn.2).1 hl, rfl⟩) hn.1
      · rw [if_neg h2, if_neg h2]
    · rw [if_neg h, alook, alook, adel_look n hn.2]
      by_cases h2 : m = a
      · subst h2; rw [if_pos rfl, if_neg (Ne.symm h), if_pos rfl]
      · rw [if_neg h2, if_neg h2]
theorem KG.del {K : KEnv} {t : KL} (h : KG K t) (n : ByteArray) : KG (kDel K n) (adel n t) := by
  refine ⟨h.nd.sublist ((adel_sub n t).map _), fun m => ?_, fun x hx => h.size x ((adel_sub n t).mem hx)⟩
  rw [adel_look n h.nd, h.look]; rfl
theorem adel_len (n : ByteArray) (t : KL) : (adel n t).length ≤ t.length := (adel_sub n t).length_le
theorem asetI_keys (n : ByteArray) (v : Int) (t : KL) : (n ∈ t.map (·.1) ∧ (aset n v t).map (·.1) = t.map (·.1)) ∨ (n ∉ t.map (·.1) ∧ (aset n v t).map (·.1) = t.map (·.1) ++ [n]) := by
  induction t with
  | nil => right; simp [aset]
  | cons x t ih =>
    obtain ⟨m, y⟩ := x
    rw [aset]
    by_cases h : n = m
    · left; subst h; simp
    · rw [if_neg h]
      rcases ih with ⟨h2, e⟩ | ⟨h2, e⟩
      · left; exact ⟨by simp only [List.map_cons, List.mem_cons]; exact .inr h2, by rw [List.map_cons, e]; rfl⟩
      · right; exact ⟨by simp only [List.map_cons, List.mem_cons, not_or]; exact ⟨h, h2⟩, by rw [List.map_cons, e]; rfl⟩
theorem asetI_len (n : ByteArray) (v : Int) (t : KL) : (aset n v t).length ≤ t.length + 1 := by
  rcases asetI_keys n v t with ⟨_, e⟩ | ⟨_, e⟩ <;>
  · have := congrArg List.length e
    simp at this
    omega
theorem KG.put {K : KEnv} {t : KL} (h : KG K t) (n : ByteArray) (v : Int) (hs : n.size ≤ maxLen) : KG (fun m => if m = n then some v else K m) (aset n v t) := by
  have hnd : ((aset n v t).map (·.1)).Nodup := by
    rcases asetI_keys n v t with ⟨_, e⟩ | ⟨hn, e⟩
    · rw [e]; exact h.nd
    · rw [e, List.nodup_append]
      exact ⟨h.nd, by simp, fun a ha b hb e => hn (by rw [List.mem_singleton] at hb; rw [← hb, ← e]; exact ha)⟩
  refine ⟨hnd, fun m => ?_, fun x hx => ?_⟩
  · rw [alook_set, h.look]
  · have hm : x.1 ∈ (aset n v t).map (·.1) := List.mem_map_of_mem hx
    have : x.1 = n ∨ x.1 ∈ t.map (·.1) := by
      rcases asetI_keys n v t with ⟨_, e⟩ | ⟨_, e⟩
      · rw [e] at hm; exact .inr hm
      · rw [e, List.mem_append, List.mem_singleton] at hm; exact hm.symm
    rcases this with e | hm
    · rw [e]; exact hs
    · obtain ⟨y, hy, e⟩ := List.mem_map.1 hm
      rw [← e]; exact h.size y hy
theorem kSet_eq (K : KEnv) (n : ByteArray) (e : Ex) : kSet K n e = if e.op = 1 then (fun m => if m = n then some e.word else kDel K n m) else kDel K n := by
  funext m
  unfold kSet kDel
  by_cases h : e.op = 1 <;> by_cases h2 : m = n <;> simp [h, h2]
theorem KG.kset1 {K : KEnv} {t : KL} (h : KG K t) (n : ByteArray) (e : Ex) (he : e.op = 1) (hs : n.size ≤ maxLen) : KG (kSet K n e) (aset n e.word (adel n t)) := by
  rw [kSet_eq, if_pos he]; exact (h.del n).put n e.word hs
theorem KG.kset0 {K : KEnv} {t : KL} (h : KG K t) (n : ByteArray) (e : Ex) (he : ¬ e.op = 1) : KG (kSet K n e) (adel n t) := by
  rw [kSet_eq, if_neg he]; exact h.del n
theorem knAt_of {K : KEnv} {t : KL} {H : List Blk} {k : Nat} (hk : H[k]? = some (.mapg (strM kA t))) (h : KG K t) : KnAt K H (.hg k) := by
  refine ⟨t, fun L => ?_, h.look⟩
  simp only [mapEs]
  rw [get_app_old hk L]
def adels (l : List ByteArray) (t : KL) : KL := l.foldl (fun t n => adel n t) t
theorem adels_take {l : List ByteArray} {i : Nat} (h : i < l.length) (t : KL) : adels (l.take (i + 1)) t = adel l[i] (adels (l.take i) t) := by rw [take_succ' h, adels, List.foldl_append]; rfl
theorem KG.dels (l : List ByteArray) : ∀ {K : KEnv} {t : KL}, KG K t → KG (kLess K l) (adels l t) := by
  induction l with
  | nil => intro K t h; exact h
  | cons n l ih => intro K t h; exact ih (h.del n)
theorem adels_len (l : List ByteArray) : ∀ t, (adels l t).length ≤ t.length := by
  induction l with
  | nil => intro t; exact Nat.le_refl _
  | cons n l ih => intro t; exact Nat.le_trans (ih (adel n t)) (adel_len n t)
theorem kLess_sets (K : KEnv) (l : List Sm) : kLess K (setsN l) = kLess K (smsSets l) := kLess_same K (setsN_mem l)
abbrev stB (l : List Sm) : Blk := ownB 82 16 (l.map Sm.cells)
abbrev stS (k : Nat) (l : List Sm) : AV := ownS k (l.map Sm.cells)
abbrev tmB (l : List Tm) : Blk := ownB 90 4 (l.map Tm.cells)
abbrev tmS (k : Nat) (l : List Tm) : AV := ownS k (l.map Tm.cells)
theorem tms_frzB (l : List Tm) : (l.map Tm.cells).flatten.all AV.frzB = true := map_frzB _ (fun x => by simp [AV.frzB]) l
theorem ownS_len (k : Nat) {es es' : List (List AV)} (h : es.length = es'.length) : ownS k es = ownS k es' := by
  unfold ownS
  cases es <;> cases es' <;> simp at h ⊢
  omega
abbrev kmB (t : KL) : Blk := .mapg (strM kA t)
def FldI (H : List Blk) (k N : Nat) (E : FR) (rest : List Sm) (i : Nat) (f4 f5 : AV) (H' : List Blk) : Prop :=
  ∃ out ts t K L, H' = M2 H k (kmB t) (stB out) (tmB ts) L ∧ f4 = stS H.length out ∧ f5 = tmS (H.length + 1) ts ∧ KG K t ∧ t.length + smsCount rest ≤ N ∧ ts.length = i ∧ (out ++ (smsFold rest K).1, ts ++ (smsFold rest K).2.1, (smsFold rest K).2.2) = E
def FldF (H : List Blk) (k N : Nat) (E : FR) (f4 f5 : AV) (H' : List Blk) : Prop :=
  ∃ out ts t K L, H' = M2 H k (kmB t) (stB out) (tmB ts) L ∧ f4 = stS H.length out ∧ f5 = tmS (H.length + 1) ts ∧ KG K t ∧ t.length ≤ N ∧ (out, ts, K) = E
def FldR (k N : Nat) (H : List Blk) (E : FR) (e : AE) (H' : List Blk) : Prop := e = .ret (.tup [Sm.sl E.1, Tm.sl E.2.1]) ∧ ∃ t, KG E.2.2 t ∧ t.length ≤ N ∧ H' = H.set k (kmB t)
end Go.Proofs
namespace Go.Proofs
open Go.Mu
theorem sms_sets_sub {l : List Sm} {x : Sm} (h : x ∈ l) : ∀ n ∈ x.sets, n ∈ smsSets l := by
  induction l with
  | nil => cases h
  | cons s l ih =>
    intro n hn
    rw [smsSets, List.mem_append]
    rcases List.mem_cons.1 h with rfl | h
    · exact .inl hn
    · exact .inr (ih h n hn)
def FldY (H : List Blk) (k n : Nat) (out : List Sm) (ts : List Tm) (L : List Blk) (R : List Sm × Tm × KEnv) (H' : List Blk) : Prop :=
  ∃ y tm t' cs L', H' = M2 H k (kmB t') (stB out) (tmB ts) (L ++ .box 82 y.cells :: .box 90 cs :: L') ∧ WeakL cs tm.cells ∧ R.1 = [y] ∧ R.2.1 = tm ∧ KG R.2.2 t' ∧ t'.length ≤ n
def KnS (F : KL → List Blk) (K : KEnv) (n : Nat) (H' : List Blk) : Prop := ∃ t', H' = F t' ∧ KG K t' ∧ t'.length ≤ n
def tmIf (a b : List Tm) : Tm := .mk 3 [] false [a, b]
def tmLoop (a : List Tm) : Tm := .mk 5 [] false [a]
def tmTake (b : Bool) (a : List Tm) : Tm := .mk 4 [] b [a]
theorem fstmts_ok (m : Nat) : ∀ (l : List Sm) (K0 : KEnv) (t0 : KL), smsCount l < m → smsCount l ≤ 2^36 → (∀ n ∈ smsSets l, n.size ≤ maxLen) → KG K0 t0 → t0.length + smsCount l ≤ 2^38 → ∀ (H : List Blk) (k : Nat), H[k]? = some (kmB t0) →
    ACalls Tryz.prog 71 [Sm.sl l, .hg k] H (FldR k (t0.length + smsCount l) H (smsFold l K0)) := by
  induction m with
  | zero => intro l K0 t0 h; omega
  | succ m ih =>
    intro l K0 t0 hm hcl hnm hKG ht0 H k hk
    refine acalls_under fun hu _ => acalls_tidy (acalls_weakE (acalls_spare 2 (acalls_of_awp Tryz.func71 rfl (by kernel_rfl) ?_)))
    have hlen := sms_len l
    have hkH := lt_of_get hk
    obtain ⟨E, hE⟩ : ∃ E, E = smsFold l K0 := ⟨_, rfl⟩
    obtain ⟨N, hN⟩ : ∃ N, N = t0.length + smsCount l := ⟨_, rfl⟩
    have hE1 : E.1.length ≤ smsCount l := by rw [hE]; exact Nat.le_trans (sms_len _) (fold_cnt l K0)
    have hE2 : E.2.1.length = l.length := by rw [hE]; exact fold_terms l K0
    rw [← hE, ← hN]
    have hGu : ∀ t, underH (H.set k (kmB t)).length (H.set k (kmB t)) = true := fun t => by rw [List.length_set]; exact underH_set hu (by simp [kmB, Blk.under, strM, AV.under])
    have fin : ∀ out ts t K L, (out, ts, K) = E → KG K t → t.length ≤ N → WeakE (Tidy H (FldR k N H E)) (.ret (.tup [stS H.length out, tmS (H.length + 1) ts])) (M2 H k (kmB t) (stB out) (tmB ts) L) := fun out ts t K L h h1 h2 =>
      tidy_own2 (by simp) (hGu t) _ _ 16 4 _ _ (sms_frzB out) (tms_frzB ts) (by rw [← h]; exact ⟨rfl, t, h1, h2, rfl⟩)
    have hM0 : H ++ List.replicate 2 Blk.pend = M2 H k (kmB t0) (stB []) (tmB []) [] := by rw [w2_eq, set_same hk]; simp [ownB]
    rw [hM0]
    have gC := fun X o t L => w2_get (H := H) (o := o) (t := t) (L := L) hkH X
    have sC := fun X Y o t L => w2_set (H := H) (o := o) (t := t) (L := L) hkH X Y
    refine awp_cut (fun _ => false) (fun _ => none) (fun f H' => H' = M2 H k (kmB t0) (stB []) (tmB []) [] ∧ f 0 = Sm.sl l ∧ f 1 = .hg k ∧ f 4 = nilS ∧ f 5 = nilS) (by kernel_rfl) ?_ ?_
    · simp -dsimp
    clear hM0
    rintro g _ ⟨rfl, g0, g1, g4, g5⟩
    refine awp_cutA (fun f H' => FldF H k N E (f 4) (f 5) H') ?_ ?_
    rotate_left
    · clear g g0 g1 g4 g5
      rintro g _ ⟨out, ts, t, K, L, rfl, g4, g5, h1, h2, h⟩
      refine awp_all (fun _ => false) (fun _ => none) (by kernel_rfl) ?_
      simp -dsimp [g4, g5]
      exact fin _ _ _ _ _ h h1 h2
    refine awp_cut (fun _ => false) (fun _ => none) (fun f H' => H' = M2 H k (kmB t0) (stB []) (tmB []) [] ∧ f 1 = .hg k ∧ f 18 = Sm.sl l ∧ f 19 = I l.length ∧ f 20 = I 0 ∧ f 4 = nilS ∧ f 5 = nilS) (by kernel_rfl) ?_ ?_
    · simp -dsimp [g0, g1, g4, g5]
    clear g g0 g1 g4 g5
    rintro g _ ⟨rfl, g1, g18, g19, g20, g4, g5⟩
    refine awp_block ?_
    refine awp_loopI (fun (i : Nat) f H' => FldI H k N E (l.drop i) i (f 4) (f 5) H' ∧ f 1 = .hg k ∧ f 18 = Sm.sl l ∧ f 19 = I l.length ∧ f 20 = I i ∧ i ≤ l.length) (fun i => l.length - i) 0
      ⟨⟨[], [], t0, K0, [], rfl, by rw [g4]; exact (ownS_nil _).symm, by rw [g5]; exact (ownS_nil _).symm, hKG, by rw [hN]; exact Nat.le_refl _, rfl, by rw [hE]; rfl⟩, g1, g18, g19, g20, by omega⟩ ?_
    clear g g1 g18 g19 g20 g4 g5 hE hKG
    rintro i g _ ⟨⟨out, ts, t, K, L, rfl, g4, g5, hKG, htN, htl, hinv⟩, g1, g18, g19, g20, hi⟩
    obtain ⟨V, hV⟩ : ∃ V, V = M2 H k (kmB t) (stB out) (tmB ts) L := ⟨_, rfl⟩
    rw [← hV]
    refine awp_cut (fun _ => false) (fun _ => none) (fun f H' => V = H' ∧ f 1 = .hg k ∧ f 4 = stS H.length out ∧ f 5 = tmS (H.length + 1) ts ∧ f 18 = Sm.sl l ∧ f 19 = I l.length ∧ f 20 = I i ∧ f 21 = Bo (decide ((i : Int) < l.length))) (by kernel_rfl) ?_ ?_
    · simp -dsimp [g1, g18, g19, g20, g4, g5]
    clear g g1 g18 g19 g20 g4 g5
    rintro g _ ⟨rfl, g1, g4, g5, g18, g19, g20, g21⟩
    refine awp_cut (fun _ => false) (fun _ => none) (fun f H' => V = H' ∧ f 1 = .hg k ∧ f 4 = stS H.length out ∧ f 5 = tmS (H.length + 1) ts ∧ f 18 = Sm.sl l ∧ f 19 = I l.length ∧ f 20 = I i ∧ i < l.length) (by kernel_rfl) ?_ ?_
    · simp -dsimp [g21]
      refine condVW_introD (fun hlt => ?_) (fun hlt => ?_)
      · simp -dsimp [g1, g18, g19, g20, g4, g5]
        omega
      · rw [drop_end hlt] at hinv htN
        simp -dsimp [g4, g5]
        exact ⟨out, ts, t, K, L, hV, rfl, rfl, hKG, by omega, by rw [← hinv]; simp [smsFold]⟩
    clear g g1 g18 g19 g20 g4 g5 g21
    rintro g _ ⟨rfl, g1, g4, g5, g18, g19, g20, hlt⟩
    have hlx : l[i]? = some l[i] := List.getElem?_eq_getElem hlt
    have hgx := sms_get hlt
    have hsx := sms_sets_sub (List.getElem_mem hlt)
    rw [drop_cons hlt] at hinv htN
    obtain ⟨x, hx⟩ : ∃ x, x = l[i] := ⟨_, rfl⟩
    rw [← hx] at hlx hgx hsx hinv htN
    clear hx
    have hcx := Sm.count_eq x
    have hnx : ∀ n ∈ x.sets, n.size ≤ maxLen := fun n hn => hnm n (hsx n hn)
    rw [smsFold] at hinv
    rw [smsCount] at htN
    obtain ⟨rest, hrest⟩ : ∃ rest, rest = l.drop (i + 1) := ⟨_, rfl⟩
    rw [← hrest] at hinv htN
    have hol : out.length ≤ smsCount l := by rw [← hinv] at hE1; simp only [List.length_append] at hE1; omega
    refine awp_cutA (fun f H' => FldI H k N E rest (i + 1) (f 4) (f 5) H' ∧ f 1 = .hg k ∧ f 18 = Sm.sl l ∧ f 19 = I l.length ∧ f 20 = I i) ?_ ?_
    rotate_left
    · clear g g1 g18 g19 g20 g4 g5
      rintro g H' ⟨ho, g1, g18, g19, g20⟩
      rw [hrest] at ho
      replace ho := Hid.mk ho
      refine awp_all (fun _ => false) (fun _ => none) (by kernel_rfl) ?_
      simp -dsimp [g1, g18, g19, g20]
      exact ⟨i + 1, by omega, ho.out, wrapS (by omega), by omega⟩
    clear hrest
    refine awp_block ?_
    obtain ⟨bX, hbX⟩ : ∃ bX, bX = Blk.box 82 x.cells := ⟨_, rfl⟩
    simp only [Sm.cells_eq] at hbX
    refine awp_cut (fun _ => false) (fun _ => none) (fun f H' => H' = V ++ [bX] ∧ f 1 = .hg k ∧ f 4 = stS H.length out ∧ f 5 = tmS (H.length + 1) ts ∧ f 18 = Sm.sl l ∧ f 19 = I l.length ∧ f 20 = I i ∧ f 7 = .bp V.length 0) (by kernel_rfl) ?_ ?_
    · simp -dsimp [g1, g18, g19, g20, g4, g5, hlx, hbX]
    clear g g1 g18 g19 g20 g4 g5
    obtain ⟨k1, hk1⟩ : ∃ k1, k1 = H.length + 2 + L.length := ⟨_, rfl⟩
    rw [hV, w2_len, ← hk1, w2_app]
    clear hV V
    rintro g _ ⟨rfl, g1, g4, g5, g18, g19, g20, g7⟩
    obtain ⟨V, hV⟩ : ∃ V, V = M2 H k (kmB t) (stB out) (tmB ts) (L ++ [bX]) := ⟨_, rfl⟩
    obtain ⟨kt, hkt⟩ : ∃ kt, kt = k1 + 1 := ⟨_, rfl⟩
    have hVl : V.length = kt := by rw [hV, w2_len, hkt, hk1]; simp; omega
    rw [← hV]
    refine awp_cut (fun _ => false) (fun _ => none) (fun f H' => H' = V ++ [.box 90 [I 1, nilS, Bo false, nilS]] ∧ f 1 = .hg k ∧ f 4 = stS H.length out ∧ f 5 = tmS (H.length + 1) ts ∧ f 7 = .bp k1 0 ∧ f 18 = Sm.sl l ∧ f 19 = I l.length ∧ f 20 = I i ∧ f 8 = .bp V.length 0) (by kernel_rfl) ?_ ?_
    · simp -dsimp [g1, g18, g19, g20, g4, g5, g7]
    clear g g1 g18 g19 g20 g4 g5 g7
    rw [hVl, hV, w2_app]
    clear hV hVl V
    rintro g _ ⟨rfl, g1, g4, g5, g7, g18, g19, g20, g8⟩
    rw [List.append_assoc]
    show AWP _ _ _ _ _ (M2 H k (kmB t) (stB out) (tmB ts) (L ++ [bX, .box 90 [I 1, nilS, Bo false, nilS]]))  _
    obtain ⟨bT, hbT⟩ : ∃ bT, bT = Blk.box 90 [I 1, nilS, Bo false, nilS] := ⟨_, rfl⟩
    rw [← hbT]
    have gX : ∀ X o u b R, (M2 H k X o u (L ++ b :: R))[k1]? = some b := fun X o u b R => by rw [hk1, w2_getN]; simp
    have sX : ∀ X o u b R Y, (M2 H k X o u (L ++ b :: R)).set k1 Y = M2 H k X o u (L ++ Y :: R) := fun X o u b R Y => by rw [hk1, w2_setN]; simp
    have gT : ∀ X o u b y R, (M2 H k X o u (L ++ b :: y :: R))[kt]? = some y := fun X o u b y R => by rw [hkt, hk1, show H.length + 2 + L.length + 1 = H.length + 2 + (L.length + 1) from by omega, w2_getN]; simp
    have sT : ∀ X o u b y R Y, (M2 H k X o u (L ++ b :: y :: R)).set kt Y = M2 H k X o u (L ++ b :: Y :: R) := fun X o u b y R Y => by rw [hkt, hk1, show H.length + 2 + L.length + 1 = H.length + 2 + (L.length + 1) from by omega, w2_setN]; simp
    have gA : ∀ X o u b y z R, (M2 H k X o u (L ++ b :: y :: z :: R))[kt + 1]? = some z := fun X o u b y z R => by rw [hkt, hk1, show H.length + 2 + L.length + 1 + 1 = H.length + 2 + (L.length + 2) from by omega, w2_getN]; simp
    have sA : ∀ X o u b y z R Y, (M2 H k X o u (L ++ b :: y :: z :: R)).set (kt + 1) Y = M2 H k X o u (L ++ b :: y :: Y :: R) := fun X o u b y z R Y => by rw [hkt, hk1, show H.length + 2 + L.length + 1 + 1 = H.length + 2 + (L.length + 2) from by omega, w2_setN]; simp
    have gB : ∀ X o u b y z a R, (M2 H k X o u (L ++ b :: y :: z :: a :: R))[kt + 2]? = some a := fun X o u b y z a R => by rw [hkt, hk1, show H.length + 2 + L.length + 1 + 2 = H.length + 2 + (L.length + 3) from by omega, w2_getN]; simp
    have lenA : ∀ X o u b y, (M2 H k X o u (L ++ [b, y])).length = kt + 1 := fun X o u b y => by rw [w2_len, hkt, hk1]; simp; omega
    have kmA : ∀ t L', mapEs (M2 H k (kmB t) (stB out) (tmB ts) L') (.hg k) = some (strM kA t) := fun t L' => by simp only [mapEs]; rw [gC]
    have hkk1 : k ≠ k1 := by omega
    have hkk2 : k ≠ kt := by omega
    -- what the statement becomes
    refine awp_cutA (fun f H' => FldY H k (t.length + x.count) out ts L (x.fold K) H' ∧ f 1 = .hg k ∧ f 4 = stS H.length out ∧ f 5 = tmS (H.length + 1) ts ∧ f 7 = .bp k1 0 ∧ f 8 = .bp kt 0 ∧ f 18 = Sm.sl l ∧ f 19 = I l.length ∧ f 20 = I i) ?_ ?_
    rotate_left
    · clear g g1 g4 g5 g7 g8 g18 g19 g20
      rintro g _ ⟨⟨y, tm, t', cs, L', rfl, hw, h1, h2, hKG', ht'⟩, g1, g4, g5, g7, g8, g18, g19, g20⟩
      rw [h1, h2] at hinv
      obtain ⟨K', hK'⟩ : ∃ K', K' = (x.fold K).2.2 := ⟨_, rfl⟩
      rw [← hK'] at hinv hKG'
      clear hK' h1 h2
      refine awp_weakbox kt 90 cs _ (gT _ _ _ _ _ _) hw ?_
      rw [sT]
      clear hw cs
      have hyc := Sm.cells_eq y
      have htc := Tm.cells_eq tm
      have gX' := gX (kmB t') (stB out) (tmB ts) (.box 82 y.cells) (.box 90 tm.cells :: L')
      have gT' := gT (kmB t') (stB out) (tmB ts) (.box 82 y.cells) (.box 90 tm.cells) L'
      have gX2 : ∀ o u, (M2 H k (kmB t') o u (L ++ .box 82 y.cells :: .box 90 tm.cells :: L'))[k1]? = some (.box 82 y.cells) := fun o u => gX _ _ _ _ _
      have gT2 : ∀ o u, (M2 H k (kmB t') o u (L ++ .box 82 y.cells :: .box 90 tm.cells :: L'))[kt]? = some (.box 90 tm.cells) := fun o u => gT _ _ _ _ _ _
      rw [hyc, htc] at gX2 gT2
      rw [hyc, htc]
      refine awp_all (fun d => d == 155 || d == 159) (fun i => if i = 38 then some [(0, []), (1, []), (2, []), (4, []), (5, []), (6, []), (3, [5, 6]), (7, []), (8, []), (9, [])] else none) (by kernel_rfl) ?_
      simp -dsimp [g1, g4, g5, g7, g8, g18, g19, g20, gX2, gT2]
      refine appendVW_own (k := H.length) (es := out.map Sm.cells) (by rw [w2_getO]) (by simp; omega) (by simp; omega) ?_
      rw [w2_setO]
      simp -dsimp [g1, g4, g5, g7, g8, g18, g19, g20, gX2, gT2]
      refine appendVW_own (k := H.length + 1) (es := ts.map Tm.cells) (by rw [w2_getT]) (by simp; omega) (by simp; omega) ?_
      rw [w2_setT]
      simp -dsimp [g1, g4, g5, g7, g8, g18, g19, g20]
      have ho1 : out.map Sm.cells ++ [[I y.kind, St y.name, St.sl y.names, I y.e.op, U y.e.word, St y.e.name, Ex.sl y.e.args, I y.a.op, U y.a.word, St y.a.name, Ex.sl y.a.args, Ex.sl y.args, U y.low, U y.high, Sm.sl y.body, Sm.sl y.els]] = (out ++ [y]).map Sm.cells := by rw [List.map_append, List.map_cons, hyc]; rfl
      have ht1 : ts.map Tm.cells ++ [[I tm.kind, Pk.sls tm.lines, Bo tm.taken, Tm.sls tm.subs]] = (ts ++ [tm]).map Tm.cells := by rw [List.map_append, List.map_cons, htc]; rfl
      exact ⟨out ++ [y], ts ++ [tm], t', K', _, by rw [stB, tmB, ← ho1, ← ht1], by rw [stS, ← ho1], by rw [tmS, ← ht1], hKG', by omega, by simp [htl], by rw [← hinv]; simp⟩
    refine awp_cut (fun _ => false) (fun _ => none) (fun f H' => H' = M2 H k (kmB t) (stB out) (tmB ts) (L ++ [bX, bT]) ∧ f 1 = .hg k ∧ f 4 = stS H.length out ∧ f 5 = tmS (H.length + 1) ts ∧ f 7 = .bp k1 0 ∧ f 8 = .bp kt 0 ∧ f 18 = Sm.sl l ∧ f 19 = I l.length ∧ f 20 = I i ∧ f 26 = I x.kind) (by kernel_rfl) ?_ ?_
    · simp -dsimp [g1, g4, g5, g7, g8, g18, g19, g20, gX, hbX]
    clear g g1 g4 g5 g7 g8 g18 g19 g20
    rintro g _ ⟨rfl, g1, g4, g5, g7, g8, g18, g19, g20, g26⟩
    refine awp_block ?_
    refine awp_cut (fun _ => false) (fun _ => none) (fun f H' => H' = M2 H k (kmB t) (stB out) (tmB ts) (L ++ [bX, bT]) ∧ f 1 = .hg k ∧ f 4 = stS H.length out ∧ f 5 = tmS (H.length + 1) ts ∧ f 7 = .bp k1 0 ∧ f 8 = .bp kt 0 ∧ f 18 = Sm.sl l ∧ f 19 = I l.length ∧ f 20 = I i ∧ f 26 = I x.kind ∧ f 27 = Bo (x.kind == 1)) (by kernel_rfl) ?_ ?_
    · simp -dsimp [g1, g4, g5, g7, g8, g18, g19, g20, g26]
    clear g g1 g4 g5 g7 g8 g18 g19 g20 g26
    rintro g _ ⟨rfl, g1, g4, g5, g7, g8, g18, g19, g20, g26, g27⟩
    have hfe := Sm.fold_eq x K
    unfold Sm.foldE at hfe
    have ce := fun (K : KEnv) (t : KL) (hKG : KG K t) L' => fexpr_ok K _ x.e (Nat.lt_succ_self _) (by omega) (M2 H k (kmB t) (stB out) (tmB ts) L') (.hg k) (knAt_of (gC _ _ _ _) hKG)
    have ca := fun L' => fexpr_ok K _ x.a (Nat.lt_succ_self _) (by omega) (M2 H k (kmB t) (stB out) (tmB ts) L') (.hg k) (knAt_of (gC _ _ _ _) hKG)
    simp only [Ex.cells_eq] at ce ca
    have hset := fun (n : ByteArray) (v : Int) t => mset_str kA n v t
    have hsub : ∀ n ∈ smsSets x.body, n.size ≤ maxLen := fun n hn => hnx n (by rw [Sm.sets_eq]; simp [hn])
    have hsue : ∀ n ∈ smsSets x.els, n.size ≤ maxLen := fun n hn => hnx n (by rw [Sm.sets_eq]; simp [hn])
    by_cases h1 : x.kind = 1
    · rw [if_pos h1] at hfe
      have cE := ce K t hKG
      have hxn := hnx x.name (by rw [Sm.sets_eq]; simp [h1])
      obtain ⟨e, he⟩ : ∃ e, e = x.e.fold K := ⟨_, rfl⟩
      rw [← he] at hfe cE
      clear ce ca he
      refine awp_condT (by kernel_rfl) (by show g 27 = _; rw [g27]; simp [h1]) ?_
      obtain ⟨bY, hbY⟩ : ∃ bY, bY = Blk.box 82 [I x.kind, St x.name, St.sl x.names, I e.op, U e.word, St e.name, Ex.sl e.args, I x.a.op, U x.a.word, St x.a.name, Ex.sl x.a.args, Ex.sl x.args, U x.low, U x.high, Sm.sl x.body, Sm.sl x.els] := ⟨_, rfl⟩
      refine awp_cut (fun _ => false) (fun _ => none) (fun f H' => H' = M2 H k (kmB t) (stB out) (tmB ts) (L ++ [bY, bT]) ∧ f 1 = .hg k ∧ f 4 = stS H.length out ∧ f 5 = tmS (H.length + 1) ts ∧ f 7 = .bp k1 0 ∧ f 8 = .bp kt 0 ∧ f 18 = Sm.sl l ∧ f 19 = I l.length ∧ f 20 = I i) (by kernel_rfl) ?_ ?_
      · simp -dsimp [g1, g4, g5, g7, g8, g18, g19, g20, gX, sX, hbX, hbY]
        refine acallsW_det (cE _) ?_
        simp -dsimp [g1, g4, g5, g7, g8, g18, g19, g20, gX, sX, hbX, hbY]
      clear g g1 g4 g5 g7 g8 g18 g19 g20 g26 g27
      rintro g _ ⟨rfl, g1, g4, g5, g7, g8, g18, g19, g20⟩
      refine awp_cut (fun _ => false) (fun _ => none) (fun f H' => H' = M2 H k (kmB (adel x.name t)) (stB out) (tmB ts) (L ++ [bY, bT]) ∧ f 1 = .hg k ∧ f 4 = stS H.length out ∧ f 5 = tmS (H.length + 1) ts ∧ f 7 = .bp k1 0 ∧ f 8 = .bp kt 0 ∧ f 18 = Sm.sl l ∧ f 19 = I l.length ∧ f 20 = I i) (by kernel_rfl) ?_ ?_
      · simp -dsimp [g1, g4, g5, g7, g8, g18, g19, g20, gX, sX, gC, sC, mdel_str, hbY]
      clear g g1 g4 g5 g7 g8 g18 g19 g20
      rintro g _ ⟨rfl, g1, g4, g5, g7, g8, g18, g19, g20⟩
      refine awp_cut (fun _ => false) (fun _ => none) (fun f H' => H' = M2 H k (kmB (adel x.name t)) (stB out) (tmB ts) (L ++ [bY, bT]) ∧ f 1 = .hg k ∧ f 4 = stS H.length out ∧ f 5 = tmS (H.length + 1) ts ∧ f 7 = .bp k1 0 ∧ f 8 = .bp kt 0 ∧ f 18 = Sm.sl l ∧ f 19 = I l.length ∧ f 20 = I i ∧ f 40 = Bo (e.op == 1)) (by kernel_rfl) ?_ ?_
      · simp -dsimp [g1, g4, g5, g7, g8, g18, g19, g20, gX, hbY]
      clear g g1 g4 g5 g7 g8 g18 g19 g20
      rintro g _ ⟨rfl, g1, g4, g5, g7, g8, g18, g19, g20, g40⟩
      have fin1 : ∀ t', KG (kSet K x.name e) t' → t'.length ≤ t.length + x.count → FldY H k (t.length + x.count) out ts L (x.fold K) (M2 H k (kmB t') (stB out) (tmB ts) (L ++ [bY, bT])) := fun t' a b =>
        ⟨Sm.mk x.kind x.name x.names e x.a x.args x.low x.high x.body x.els, tSame, t', [I 1, nilS, Bo false, nilS], [], by rw [hbY, hbT, Sm.cells_eq]; rfl, by rw [Tm.cells_eq]; exact .cons (.refl _) (.cons (.nil 1) (.cons (.refl _) (.cons (.nil 1) .nil))), by rw [hfe], by rw [hfe], by rw [hfe]; exact a, b⟩
      have hdl := adel_len x.name t
      have hcp : 1 ≤ x.count := by omega
      by_cases h4 : e.op = 1
      · have hsl := asetI_len x.name e.word (adel x.name t)
        have q := hKG.kset1 x.name e h4 hxn
        refine awp_condT (by kernel_rfl) (by show g 40 = _; rw [g40]; simp [h4]) ?_
        refine awp_all (fun _ => false) (fun _ => none) (by kernel_rfl) ?_
        simp -dsimp [g1, g4, g5, g7, g8, g18, g19, g20, gX, gC, sC, hset, hbY]
        rw [← hbY]
        exact fin1 _ q (by omega)
      · have q := hKG.kset0 x.name e h4
        refine awp_condF (by kernel_rfl) (by show g 40 = _; rw [g40]; simp [h4]) ?_
        refine awp_all (fun _ => false) (fun _ => none) (by kernel_rfl) ?_
        simp -dsimp [g1, g4, g5, g7, g8, g18, g19, g20]
        exact fin1 _ q (by omega)
    rw [if_neg h1] at hfe
    refine awp_condF (by kernel_rfl) (by show g 27 = _; rw [g27]; simp [h1]) ?_
    refine awp_cut (fun _ => false) (fun _ => none) (fun f H' => H' = M2 H k (kmB t) (stB out) (tmB ts) (L ++ [bX, bT]) ∧ f 1 = .hg k ∧ f 4 = stS H.length out ∧ f 5 = tmS (H.length + 1) ts ∧ f 7 = .bp k1 0 ∧ f 8 = .bp kt 0 ∧ f 18 = Sm.sl l ∧ f 19 = I l.length ∧ f 20 = I i ∧ f 26 = I x.kind ∧ f 47 = Bo (x.kind == 2)) (by kernel_rfl) ?_ ?_
    · simp -dsimp [g1, g4, g5, g7, g8, g18, g19, g20, g26]
    clear g g1 g4 g5 g7 g8 g18 g19 g20 g26 g27
    rintro g _ ⟨rfl, g1, g4, g5, g7, g8, g18, g19, g20, g26, g47⟩
    by_cases h2 : x.kind = 2
    · rw [if_pos h2] at hfe
      have cE := ce K t hKG
      obtain ⟨e, he⟩ : ∃ e, e = x.e.fold K := ⟨_, rfl⟩
      obtain ⟨a, ha⟩ : ∃ a, a = x.a.fold K := ⟨_, rfl⟩
      rw [← he, ← ha] at hfe
      rw [← he] at cE
      rw [← ha] at ca
      clear ce he ha
      refine awp_condT (by kernel_rfl) (by show g 47 = _; rw [g47]; simp [h2]) ?_
      obtain ⟨bY, hbY⟩ : ∃ bY, bY = Blk.box 82 [I x.kind, St x.name, St.sl x.names, I e.op, U e.word, St e.name, Ex.sl e.args, I a.op, U a.word, St a.name, Ex.sl a.args, Ex.sl x.args, U x.low, U x.high, Sm.sl x.body, Sm.sl x.els] := ⟨_, rfl⟩
      refine awp_all (fun _ => false) (fun _ => none) (by kernel_rfl) ?_
      simp -dsimp [g1, g4, g5, g7, g8, g18, g19, g20, gX, sX, hbX]
      refine callDW_intro (ca _) ?_
      simp -dsimp [g1, g4, g5, g7, g8, g18, g19, g20, gX, sX, hbX]
      refine callDW_intro (cE _) ?_
      simp -dsimp [g1, g4, g5, g7, g8, g18, g19, g20, gX, sX, hbX]
      exact ⟨Sm.mk x.kind x.name x.names e a x.args x.low x.high x.body x.els, tSame, t, [I 1, nilS, Bo false, nilS], [], by rw [hbT, Sm.cells_eq]; rfl, by rw [Tm.cells_eq]; exact .cons (.refl _) (.cons (.nil 1) (.cons (.refl _) (.cons (.nil 1) .nil))), by rw [hfe], by rw [hfe], by rw [hfe]; exact hKG, by omega⟩
    rw [if_neg h2] at hfe
    clear ca
    refine awp_condF (by kernel_rfl) (by show g 47 = _; rw [g47]; simp [h2]) ?_
    refine awp_cut (fun _ => false) (fun _ => none) (fun f H' => H' = M2 H k (kmB t) (stB out) (tmB ts) (L ++ [bX, bT]) ∧ f 1 = .hg k ∧ f 4 = stS H.length out ∧ f 5 = tmS (H.length + 1) ts ∧ f 7 = .bp k1 0 ∧ f 8 = .bp kt 0 ∧ f 18 = Sm.sl l ∧ f 19 = I l.length ∧ f 20 = I i ∧ f 26 = I x.kind ∧ f 59 = Bo (x.kind == 3)) (by kernel_rfl) ?_ ?_
    · simp -dsimp [g1, g4, g5, g7, g8, g18, g19, g20, g26]
    clear g g1 g4 g5 g7 g8 g18 g19 g20 g26 g47
    rintro g _ ⟨rfl, g1, g4, g5, g7, g8, g18, g19, g20, g26, g59⟩
    by_cases h3 : x.kind = 3
    · rw [if_pos h3] at hfe
      have cE := ce K t hKG
      obtain ⟨e, he⟩ : ∃ e, e = x.e.fold K := ⟨_, rfl⟩
      rw [← he] at hfe cE
      clear ce he
      refine awp_condT (by kernel_rfl) (by show g 59 = _; rw [g59]; simp [h3]) ?_
      obtain ⟨bY, hbY⟩ : ∃ bY, bY = Blk.box 82 [I x.kind, St x.name, St.sl x.names, I e.op, U e.word, St e.name, Ex.sl e.args, I x.a.op, U x.a.word, St x.a.name, Ex.sl x.a.args, Ex.sl x.args, U x.low, U x.high, Sm.sl x.body, Sm.sl x.els] := ⟨_, rfl⟩
      refine awp_cut (fun _ => false) (fun _ => none) (fun f H' => H' = M2 H k (kmB t) (stB out) (tmB ts) (L ++ [bY, bT]) ∧ f 1 = .hg k ∧ f 4 = stS H.length out ∧ f 5 = tmS (H.length + 1) ts ∧ f 7 = .bp k1 0 ∧ f 8 = .bp kt 0 ∧ f 18 = Sm.sl l ∧ f 19 = I l.length ∧ f 20 = I i) (by kernel_rfl) ?_ ?_
      · simp -dsimp [g1, g4, g5, g7, g8, g18, g19, g20, gX, sX, hbX, hbY]
        refine acallsW_det (cE _) ?_
        simp -dsimp [g1, g4, g5, g7, g8, g18, g19, g20, gX, sX, hbX, hbY]
      clear g g1 g4 g5 g7 g8 g18 g19 g20 g26 g59
      rintro g _ ⟨rfl, g1, g4, g5, g7, g8, g18, g19, g20⟩
      refine awp_cutA (fun f H' => H' = M2 H k (kmB t) (stB out) (tmB ts) (L ++ [bY, bT]) ∧ f 1 = .hg k ∧ f 4 = stS H.length out ∧ f 5 = tmS (H.length + 1) ts ∧ f 7 = .bp k1 0 ∧ f 8 = .bp kt 0 ∧ f 18 = Sm.sl l ∧ f 19 = I l.length ∧ f 20 = I i ∧ ¬ e.op = 1) ?_ ?_
      · refine awp_cut (fun _ => false) (fun _ => none) (fun f H' => H' = M2 H k (kmB t) (stB out) (tmB ts) (L ++ [bY, bT]) ∧ f 1 = .hg k ∧ f 4 = stS H.length out ∧ f 5 = tmS (H.length + 1) ts ∧ f 7 = .bp k1 0 ∧ f 8 = .bp kt 0 ∧ f 18 = Sm.sl l ∧ f 19 = I l.length ∧ f 20 = I i ∧ f 69 = Bo (e.op == 1)) (by kernel_rfl) ?_ ?_
        · simp -dsimp [g1, g4, g5, g7, g8, g18, g19, g20, gX, hbY]
        clear g g1 g4 g5 g7 g8 g18 g19 g20
        rintro g _ ⟨rfl, g1, g4, g5, g7, g8, g18, g19, g20, g69⟩
        by_cases h4 : e.op = 1
        · rw [if_pos h4] at hfe
          refine awp_condT (by kernel_rfl) (by show g 69 = _; rw [g69]; simp [h4]) ?_
          obtain ⟨way, hway⟩ : ∃ way, way = if e.word = 0 then x.els else x.body := ⟨_, rfl⟩
          have hwc : smsCount way ≤ x.count - 1 := by rw [hway]; split <;> omega
          have hwn : ∀ n ∈ smsSets way, n.size ≤ maxLen := by
            rw [hway]; split
            · exact hsue
            · exact hsub
          have hfw : x.fold K = ((smsFold way K).1, tmTake (!decide (e.word = 0)) (smsFold way K).2.1, (smsFold way K).2.2) := by
            rw [hfe, hway]
            by_cases hw : e.word = 0
            · rw [if_pos hw, if_pos hw]; simp [tmTake, hw]
            · rw [if_neg hw, if_neg hw]; simp [tmTake, hw]
          refine awp_cut (fun _ => false) (fun _ => none) (fun f H' => H' = M2 H k (kmB t) (stB out) (tmB ts) (L ++ [bY, bT]) ∧ f 1 = .hg k ∧ f 4 = stS H.length out ∧ f 5 = tmS (H.length + 1) ts ∧ f 7 = .bp k1 0 ∧ f 8 = .bp kt 0 ∧ f 18 = Sm.sl l ∧ f 19 = I l.length ∧ f 20 = I i ∧ f 9 = Sm.sl x.els) (by kernel_rfl) ?_ ?_
          · simp -dsimp [g1, g4, g5, g7, g8, g18, g19, g20, gX, hbY]
          clear g g1 g4 g5 g7 g8 g18 g19 g20 g69
          rintro g _ ⟨rfl, g1, g4, g5, g7, g8, g18, g19, g20, g9⟩
          refine awp_cutA (fun f H' => H' = M2 H k (kmB t) (stB out) (tmB ts) (L ++ [bY, bT]) ∧ f 1 = .hg k ∧ f 4 = stS H.length out ∧ f 5 = tmS (H.length + 1) ts ∧ f 7 = .bp k1 0 ∧ f 8 = .bp kt 0 ∧ f 18 = Sm.sl l ∧ f 19 = I l.length ∧ f 20 = I i ∧ f 9 = Sm.sl way) ?_ ?_
          · refine awp_cut (fun _ => false) (fun _ => none) (fun f H' => H' = M2 H k (kmB t) (stB out) (tmB ts) (L ++ [bY, bT]) ∧ f 1 = .hg k ∧ f 4 = stS H.length out ∧ f 5 = tmS (H.length + 1) ts ∧ f 7 = .bp k1 0 ∧ f 8 = .bp kt 0 ∧ f 18 = Sm.sl l ∧ f 19 = I l.length ∧ f 20 = I i ∧ f 9 = Sm.sl x.els ∧ f 75 = Bo (e.word != 0)) (by kernel_rfl) ?_ ?_
            · simp -dsimp [g1, g4, g5, g7, g8, g18, g19, g20, g9, gX, hbY]
            clear g g1 g4 g5 g7 g8 g18 g19 g20 g9
            rintro g _ ⟨rfl, g1, g4, g5, g7, g8, g18, g19, g20, g9, g75⟩
            by_cases hw : e.word = 0
            · refine awp_condF (by kernel_rfl) (by show g 75 = _; rw [g75]; simp [hw]) ?_
              refine awp_all (fun _ => false) (fun _ => none) (by kernel_rfl) ?_
              rw [if_pos hw] at hway
              simp -dsimp [g1, g4, g5, g7, g8, g18, g19, g20, g9, hway]
            · refine awp_condT (by kernel_rfl) (by show g 75 = _; rw [g75]; simp [hw]) ?_
              refine awp_all (fun _ => false) (fun _ => none) (by kernel_rfl) ?_
              rw [if_neg hw] at hway
              simp -dsimp [g1, g4, g5, g7, g8, g18, g19, g20, g9, hway, gX, hbY]
          clear g g1 g4 g5 g7 g8 g18 g19 g20 g9
          rintro g _ ⟨rfl, g1, g4, g5, g7, g8, g18, g19, g20, g9⟩
          have hE5 := hE1
          rw [← hinv, hfw] at hE5
          simp only [List.length_append] at hE5
          have cw := fun L' => ih way K t (by omega) (by omega) hwn hKG (by omega) (M2 H k (kmB t) (stB out) (tmB ts) L') k (gC _ _ _ _)
          rw [hfw] at hinv
          obtain ⟨b, tb, K', hR⟩ : ∃ b tb K', (b, tb, K') = smsFold way K := ⟨_, _, _, rfl⟩
          rw [← hR] at hinv cw hE5
          simp only [FldR] at hinv hE5 cw
          refine awp_cut (fun _ => false) (fun _ => none) (fun f H' => KnS (fun t' => M2 H k (kmB t') (stB out) (tmB ts) (L ++ [bY, bT])) K' (t.length + smsCount way) H' ∧ f 1 = .hg k ∧ f 4 = stS H.length out ∧ f 5 = tmS (H.length + 1) ts ∧ f 7 = .bp k1 0 ∧ f 8 = .bp kt 0 ∧ f 18 = Sm.sl l ∧ f 19 = I l.length ∧ f 20 = I i ∧ f 10 = Sm.sl b ∧ f 11 = Tm.sl tb) (by kernel_rfl) ?_ ?_
          · simp -dsimp [g1, g4, g5, g7, g8, g18, g19, g20, g9]
            refine acallsW_of (cw _) ?_
            rintro r M' ⟨rfl, t', hK', ht', rfl⟩
            rw [sC]
            simp -dsimp [g1, g4, g5, g7, g8, g18, g19, g20, g9]
            exact ⟨t', rfl, hK', ht'⟩
          clear g g1 g4 g5 g7 g8 g18 g19 g20 g9
          rintro g _ ⟨⟨t', rfl, hK', ht'⟩, g1, g4, g5, g7, g8, g18, g19, g20, g10, g11⟩
          refine awp_cut (fun d => d == 86) (fun _ => none) (fun f H' => H' = M2 H k (kmB t') (stB (out ++ b)) (tmB ts) (L ++ [bY, bT]) ∧ f 1 = .hg k ∧ f 4 = stS H.length (out ++ b) ∧ f 5 = tmS (H.length + 1) ts ∧ f 7 = .bp k1 0 ∧ f 18 = Sm.sl l ∧ f 19 = I l.length ∧ f 20 = I i ∧ f 11 = Tm.sl tb) (by kernel_rfl) ?_ ?_
          · simp -dsimp [g1, g4, g5, g7, g8, g18, g19, g20, g10, g11]
            refine appendVW_own (k := H.length) (es := out.map Sm.cells) (by rw [w2_getO]) (by simp; omega) (by simp; omega) ?_
            rw [w2_setO, ← List.map_append]
            simp -dsimp [g1, g4, g5, g7, g8, g18, g19, g20, g10, g11]
            exact ⟨by rw [stB, List.map_append], by rw [stS, List.map_append]⟩
          clear g g1 g4 g5 g7 g8 g18 g19 g20 g10 g11
          rintro g _ ⟨rfl, g1, g4, g5, g7, g18, g19, g20, g11⟩
          obtain ⟨raw, hraw⟩ : ∃ raw, raw = [I 4, nilS, Bo (e.word != 0), .vs 1 [[Tm.sl tb]]] := ⟨_, rfl⟩
          refine awp_cut (fun d => d == 96) (fun _ => none) (fun f H' => H' = M2 H k (kmB t') (stB (out ++ b)) (ownB 90 4 (ts.map Tm.cells ++ [raw])) (L ++ [bY, bT]) ∧ f 1 = .hg k ∧ f 4 = stS H.length (out ++ b) ∧ f 5 = ownS (H.length + 1) (ts.map Tm.cells ++ [raw]) ∧ f 18 = Sm.sl l ∧ f 19 = I l.length ∧ f 20 = I i) (by kernel_rfl) ?_ ?_
          · simp -dsimp [g1, g4, g5, g7, g18, g19, g20, g11, gX, hbY]
            rw [← hbY]
            refine appendVW_own (k := H.length + 1) (es := ts.map Tm.cells) (by rw [w2_getT]) (by simp; omega) (by simp; omega) ?_
            rw [w2_setT]
            simp -dsimp [g1, g4, g5, g7, g18, g19, g20, hraw]
          clear g g1 g4 g5 g7 g18 g19 g20 g11
          rintro g _ ⟨rfl, g1, g4, g5, g18, g19, g20⟩
          obtain ⟨tm, htm⟩ : ∃ tm, tm = tmTake (!decide (e.word = 0)) tb := ⟨_, rfl⟩
          rw [← htm] at hinv
          refine awp_weakO (H.length + 1) 90 4 (ts.map Tm.cells ++ [raw]) ((ts ++ [tm]).map Tm.cells) (by rw [w2_getT]) (by
            rw [List.map_append]
            refine weakR_app (weakR_refl _) (.cons ?_ .nil)
            rw [hraw, htm, tmTake, Tm.cells_eq]
            have hb : (e.word != 0) = !decide (e.word = 0) := by by_cases h : e.word = 0 <;> simp [h]
            rw [hb]
            exact .cons (.refl _) (.cons (.nil 1) (.cons (.refl _) (.cons (.refl _) .nil)))) ?_
          rw [w2_setT]
          have g5' : g 5 = tmS (H.length + 1) (ts ++ [tm]) := by rw [g5]; exact ownS_len _ (by simp)
          have hfinal : FldI H k N E rest (i + 1) (g 4) (g 5) (M2 H k (kmB t') (stB (out ++ b)) (tmB (ts ++ [tm])) (L ++ [bY, bT])) := ⟨out ++ b, ts ++ [tm], t', K', _, rfl, g4, g5', hK', by omega, by simp [htl], by rw [← hinv]; simp⟩
          obtain ⟨MM, hMM⟩ : ∃ MM, MM = M2 H k (kmB t') (stB (out ++ b)) (tmB (ts ++ [tm])) (L ++ [bY, bT]) := ⟨_, rfl⟩
          rw [← hMM] at hfinal ⊢
          rw [g4] at hfinal
          replace hfinal := Hid.mk hfinal
          refine awp_all (fun _ => false) (fun _ => none) (by kernel_rfl) ?_
          simp -dsimp [g1, g4, g18, g19, g20]
          exact hfinal.out
        · rw [if_neg h4] at hfe
          refine awp_condF (by kernel_rfl) (by show g 69 = _; rw [g69]; simp [h4]) ?_
          refine awp_all (fun _ => false) (fun _ => none) (by kernel_rfl) ?_
          simp -dsimp [g1, g4, g5, g7, g8, g18, g19, g20]
          exact h4
      clear g g1 g4 g5 g7 g8 g18 g19 g20
      rintro g _ ⟨rfl, g1, g4, g5, g7, g8, g18, g19, g20, h4⟩
      rw [if_neg h4] at hfe
      obtain ⟨b, tb, Kb, hRb⟩ : ∃ b tb Kb, (b, tb, Kb) = smsFold x.body K := ⟨_, _, _, rfl⟩
      obtain ⟨el, te, Ke, hRe⟩ : ∃ b tb Kb, (b, tb, Kb) = smsFold x.els K := ⟨_, _, _, rfl⟩
      have c1 := fun L' => ih x.body K t (by omega) (by omega) hsub hKG (by omega) (M2 H k (kmB t) (stB out) (tmB ts) L') k (gC _ _ _ _)
      have c2 := fun X b y R => ih x.els K t (by omega) (by omega) hsue hKG (by omega) (M2 H k X (stB out) (tmB ts) (L ++ b :: y :: kmB t :: R)) (kt + 1) (gA _ _ _ _ _ _ _)
      rw [← hRb] at hfe c1
      rw [← hRe] at hfe c2
      clear hRb hRe
      obtain ⟨V, hV⟩ : ∃ V, V = M2 H k (kmB t) (stB out) (tmB ts) (L ++ [bY, bT, kmB t]) := ⟨_, rfl⟩
      have hVl : V.length = kt + 2 := by rw [hV, w2_len, hkt, hk1]; simp; omega
      have ck : ACalls Tryz.prog 113 [.hg k] (M2 H k (kmB t) (stB out) (tmB ts) (L ++ [bY, bT])) (fun e H' => e = .ret (.hg (kt + 1)) ∧ H' = V) := by
        have := kclone_ok (strM kA t) k _ (gC (kmB t) (stB out) (tmB ts) (L ++ [bY, bT]))
        rw [lenA, w2_app, List.append_assoc] at this
        rw [hV]; exact this
      refine awp_cut (fun _ => false) (fun _ => none) (fun f H' => H' = V ++ [.box 129 [.hg (kt + 1)]] ∧ f 1 = .hg k ∧ f 4 = stS H.length out ∧ f 5 = tmS (H.length + 1) ts ∧ f 7 = .bp k1 0 ∧ f 8 = .bp kt 0 ∧ f 18 = Sm.sl l ∧ f 19 = I l.length ∧ f 20 = I i ∧ f 12 = .bp V.length 0) (by kernel_rfl) ?_ ?_
      · simp -dsimp [g1, g4, g5, g7, g8, g18, g19, g20]
        refine acallsW_of ck ?_
        rintro r M' ⟨rfl, rfl⟩
        simp -dsimp [g1, g4, g5, g7, g8, g18, g19, g20]
      clear g g1 g4 g5 g7 g8 g18 g19 g20
      rw [hVl, hV, w2_app, List.append_assoc]
      show ∀ (g : Fr) (M' : List Blk), _ → _
      clear hV hVl V ck
      rintro g _ ⟨rfl, g1, g4, g5, g7, g8, g18, g19, g20, g12⟩
      obtain ⟨bO, hbO⟩ : ∃ bO, bO = Blk.box 129 [.hg (kt + 1)] := ⟨_, rfl⟩
      rw [← hbO]
      show AWP _ _ _ _ _ (M2 H k (kmB t) (stB out) (tmB ts) (L ++ [bY, bT, kmB t, bO])) _
      refine awp_cut (fun _ => false) (fun _ => none) (fun f H' => H' = M2 H k (kmB t) (stB out) (tmB ts) (L ++ [bY, bT, kmB t, bO]) ∧ f 1 = .hg k ∧ f 4 = stS H.length out ∧ f 5 = tmS (H.length + 1) ts ∧ f 7 = .bp k1 0 ∧ f 8 = .bp kt 0 ∧ f 18 = Sm.sl l ∧ f 19 = I l.length ∧ f 20 = I i ∧ f 12 = .bp (kt + 2) 0) (by kernel_rfl) ?_ ?_
      · simp -dsimp [g1, g4, g5, g7, g8, g18, g19, g20, g12]
      clear g g1 g4 g5 g7 g8 g18 g19 g20 g12
      rintro g _ ⟨rfl, g1, g4, g5, g7, g8, g18, g19, g20, g12⟩
      obtain ⟨bW, hbW⟩ : ∃ bW, bW = Blk.box 82 [I x.kind, St x.name, St.sl x.names, I e.op, U e.word, St e.name, Ex.sl e.args, I x.a.op, U x.a.word, St x.a.name, Ex.sl x.a.args, Ex.sl x.args, U x.low, U x.high, Sm.sl b, Sm.sl x.els] := ⟨_, rfl⟩
      refine awp_cut (fun _ => false) (fun _ => none) (fun f H' => KnS (fun t' => M2 H k (kmB t') (stB out) (tmB ts) (L ++ [bW, bT, kmB t, bO])) Kb (t.length + smsCount x.body) H' ∧ f 1 = .hg k ∧ f 4 = stS H.length out ∧ f 5 = tmS (H.length + 1) ts ∧ f 7 = .bp k1 0 ∧ f 8 = .bp kt 0 ∧ f 18 = Sm.sl l ∧ f 19 = I l.length ∧ f 20 = I i ∧ f 12 = .bp (kt + 2) 0 ∧ f 13 = Tm.sl tb) (by kernel_rfl) ?_ ?_
      · simp -dsimp [g1, g4, g5, g7, g8, g18, g19, g20, g12, gX, hbY]
        rw [← hbY]
        refine acallsW_of (c1 _) ?_
        rintro r M' ⟨rfl, t', hK', ht', rfl⟩
        rw [sC]
        simp -dsimp [g1, g4, g5, g7, g8, g18, g19, g20, g12, gX, sX, hbY]
        rw [← hbW]
        exact ⟨t', rfl, hK', ht'⟩
      clear g g1 g4 g5 g7 g8 g18 g19 g20 g12 hKG
      rintro g _ ⟨⟨t1, rfl, hKb, ht1⟩, g1, g4, g5, g7, g8, g18, g19, g20, g12, g13⟩
      obtain ⟨bZ, hbZ⟩ : ∃ bZ, bZ = Blk.box 82 [I x.kind, St x.name, St.sl x.names, I e.op, U e.word, St e.name, Ex.sl e.args, I x.a.op, U x.a.word, St x.a.name, Ex.sl x.a.args, Ex.sl x.args, U x.low, U x.high, Sm.sl b, Sm.sl el] := ⟨_, rfl⟩
      refine awp_cut (fun _ => false) (fun _ => none) (fun f H' => KnS (fun u => M2 H k (kmB t1) (stB out) (tmB ts) (L ++ [bZ, bT, kmB u, bO])) Ke (t.length + smsCount x.els) H' ∧ f 1 = .hg k ∧ f 4 = stS H.length out ∧ f 5 = tmS (H.length + 1) ts ∧ f 7 = .bp k1 0 ∧ f 8 = .bp kt 0 ∧ f 18 = Sm.sl l ∧ f 19 = I l.length ∧ f 20 = I i ∧ f 12 = .bp (kt + 2) 0 ∧ f 13 = Tm.sl tb ∧ f 14 = Tm.sl te) (by kernel_rfl) ?_ ?_
      · have gBO := gB (kmB t1) (stB out) (tmB ts) bW bT (kmB t) bO []
        rw [hbO] at gBO
        simp -dsimp [g1, g4, g5, g7, g8, g18, g19, g20, g12, g13, gX, gB, hbW, hbO]
        rw [← hbW, ← hbO]
        refine acallsW_of (c2 _ _ _ _) ?_
        rintro r M' ⟨rfl, u, hK', hu', rfl⟩
        rw [sA]
        simp -dsimp [g1, g4, g5, g7, g8, g18, g19, g20, g12, g13, gX, sX, hbW]
        rw [← hbZ]
        exact ⟨u, rfl, hK', hu'⟩
      clear g g1 g4 g5 g7 g8 g18 g19 g20 g12 g13
      rintro g _ ⟨⟨u, rfl, hKe, hu1⟩, g1, g4, g5, g7, g8, g18, g19, g20, g12, g13, g14⟩
      have cd := delU_ok (H := M2 H k (kmB t1) (stB out) (tmB ts) (L ++ [bZ, bT, kmB u, bO])) (ka := k) (jb := kt + 2) (kb := kt + 1) (by omega) (by omega) (gC _ _ _ _) (by rw [gB, hbO]) (gA _ _ _ _ _ _ _) hKb hKe (by omega)
      refine awp_cut (fun _ => false) (fun _ => none) (fun f H' => KnS (fun t' => M2 H k (kmB t') (stB out) (tmB ts) (L ++ [bZ, bT, kmB u, bO])) (kBoth Kb Ke) t1.length H' ∧ f 1 = .hg k ∧ f 4 = stS H.length out ∧ f 5 = tmS (H.length + 1) ts ∧ f 7 = .bp k1 0 ∧ f 8 = .bp kt 0 ∧ f 18 = Sm.sl l ∧ f 19 = I l.length ∧ f 20 = I i ∧ f 13 = Tm.sl tb ∧ f 14 = Tm.sl te) (by kernel_rfl) ?_ ?_
      · simp -dsimp [g1, g4, g5, g7, g8, g18, g19, g20, g12, g13, g14]
        refine acallsW_of cd ?_
        rintro r M' ⟨rfl, t3, rfl, hK3, ht3⟩
        rw [sC]
        simp -dsimp [g1, g4, g5, g7, g8, g18, g19, g20, g13, g14]
        exact ⟨t3, rfl, hK3, ht3⟩
      clear g g1 g4 g5 g7 g8 g18 g19 g20 g12 g13 g14 cd
      rintro g _ ⟨⟨t3, rfl, hK3, ht3⟩, g1, g4, g5, g7, g8, g18, g19, g20, g13, g14⟩
      refine awp_all (fun _ => false) (fun _ => none) (by kernel_rfl) ?_
      simp -dsimp [g1, g4, g5, g7, g8, g18, g19, g20, g13, g14, gT, sT, hbT]
      refine ⟨Sm.mk x.kind x.name x.names e x.a x.args x.low x.high b el, tmIf tb te, t3, _, [kmB u, bO], by rw [hbZ, Sm.cells_eq]; rfl, ?_, by rw [hfe], by rw [hfe]; rfl, by rw [hfe]; exact hK3, by omega⟩
      rw [tmIf, Tm.cells_eq]
      exact .cons (.refl _) (.cons (.nil 1) (.cons (.refl _) (.cons (.refl _) .nil)))
    rw [if_neg h3] at hfe
    refine awp_condF (by kernel_rfl) (by show g 59 = _; rw [g59]; simp [h3]) ?_
    refine awp_cut (fun _ => false) (fun _ => none) (fun f H' => H' = M2 H k (kmB t) (stB out) (tmB ts) (L ++ [bX, bT]) ∧ f 1 = .hg k ∧ f 4 = stS H.length out ∧ f 5 = tmS (H.length + 1) ts ∧ f 7 = .bp k1 0 ∧ f 8 = .bp kt 0 ∧ f 18 = Sm.sl l ∧ f 19 = I l.length ∧ f 20 = I i ∧ f 122 = Bo (x.kind == 4)) (by kernel_rfl) ?_ ?_
    · simp -dsimp [g1, g4, g5, g7, g8, g18, g19, g20, g26]
    clear g g1 g4 g5 g7 g8 g18 g19 g20 g26 g59
    rintro g _ ⟨rfl, g1, g4, g5, g7, g8, g18, g19, g20, g122⟩
    by_cases h4 : x.kind = 4
    · rw [if_pos h4] at hfe
      refine awp_condT (by kernel_rfl) (by show g 122 = _; rw [g122]; simp [h4]) ?_
      obtain ⟨S, hS⟩ : ∃ S, S = setsN x.body := ⟨_, rfl⟩
      have hSl : S.length ≤ smsCount x.body := by rw [hS]; exact setsN_len x.body
      have hK2 := hKG.dels S
      have ht2 := adels_len S t
      have cs := fun M => fsets_ok x.body (by omega) M
      rw [← hS] at cs
      rw [hS, kLess_sets, ← hS] at hK2
      obtain ⟨K2, hK2e⟩ : ∃ K2, K2 = kLess K (smsSets x.body) := ⟨_, rfl⟩
      rw [← hK2e] at hK2 hfe
      have gS := fun j => gC (kmB (adels (S.take j) t)) (stB out) (tmB ts) (L ++ [bX, bT])
      refine awp_cutA (fun f H' => H' = M2 H k (kmB (adels S t)) (stB out) (tmB ts) (L ++ [bX, bT]) ∧ f 1 = .hg k ∧ f 4 = stS H.length out ∧ f 5 = tmS (H.length + 1) ts ∧ f 7 = .bp k1 0 ∧ f 8 = .bp kt 0 ∧ f 18 = Sm.sl l ∧ f 19 = I l.length ∧ f 20 = I i) ?_ ?_
      · refine awp_cut (fun _ => false) (fun _ => none) (fun f H' => H' = M2 H k (kmB t) (stB out) (tmB ts) (L ++ [bX, bT]) ∧ f 1 = .hg k ∧ f 4 = stS H.length out ∧ f 5 = tmS (H.length + 1) ts ∧ f 7 = .bp k1 0 ∧ f 8 = .bp kt 0 ∧ f 18 = Sm.sl l ∧ f 19 = I l.length ∧ f 20 = I i ∧ f 126 = St.sl S ∧ f 127 = I S.length ∧ f 128 = I 0) (by kernel_rfl) ?_ ?_
        · simp -dsimp [g1, g4, g5, g7, g8, g18, g19, g20, gX, hbX]
          refine acallsW_det (cs _) ?_
          simp -dsimp [g1, g4, g5, g7, g8, g18, g19, g20]
        clear g g1 g4 g5 g7 g8 g18 g19 g20 g122
        rintro g _ ⟨rfl, g1, g4, g5, g7, g8, g18, g19, g20, g126, g127, g128⟩
        refine awp_all (fun _ => false) (fun _ => none) (by kernel_rfl) ?_
        simp -dsimp [g1, g4, g5, g7, g8, g18, g19, g20, g126, g127, g128]
        refine loop_rule (hn := fun _ => false) (od := fun _ => none) (fun (j : Nat) f H' => H' = M2 H k (kmB (adels (S.take j) t)) (stB out) (tmB ts) (L ++ [bX, bT]) ∧ f 1 = .hg k ∧ f 4 = stS H.length out ∧ f 5 = tmS (H.length + 1) ts ∧ f 7 = .bp k1 0 ∧ f 8 = .bp kt 0 ∧ f 18 = Sm.sl l ∧ f 19 = I l.length ∧ f 20 = I i ∧ f 126 = St.sl S ∧ f 127 = I S.length ∧ f 128 = I j ∧ j ≤ S.length) (fun j => S.length - j) (by kernel_rfl) 0 (by simp [g1, g4, g5, g7, g8, g18, g19, g20, g126, g127, g128, adels]) ?_
        clear g g1 g4 g5 g7 g8 g18 g19 g20 g126 g127 g128
        rintro j g _ ⟨rfl, g1, g4, g5, g7, g8, g18, g19, g20, g126, g127, g128, hj⟩
        simp -dsimp [g1, g4, g5, g7, g8, g18, g19, g20, g126, g127, g128]
        refine condVW_introD (fun hlt2 => ?_) (fun hlt2 => ?_)
        · have hlt3 : j < S.length := by omega
          have hT := adels_take hlt3 t
          have hn := List.getElem?_eq_getElem hlt3
          obtain ⟨n, hne⟩ : ∃ n, n = S[j] := ⟨_, rfl⟩
          rw [← hne] at hn hT
          simp -dsimp [g1, g4, g5, g7, g8, g18, g19, g20, g126, g127, g128, hn, gS, sC, mdel_str]
          exact ⟨j + 1, by omega, by rw [hT], wrapS (by omega), by omega⟩
        · have hall : S.take j = S := List.take_of_length_le (by omega)
          rw [hall]
          simp -dsimp [g1, g4, g5, g7, g8, g18, g19, g20]
      clear g g1 g4 g5 g7 g8 g18 g19 g20 g122 gS
      rintro g _ ⟨rfl, g1, g4, g5, g7, g8, g18, g19, g20⟩
      obtain ⟨t2, ht2e⟩ : ∃ t2, t2 = adels S t := ⟨_, rfl⟩
      rw [← ht2e] at hK2 ht2 ⊢
      clear ht2e hK2e cs hS
      have cE := ce K2 t2 hK2
      obtain ⟨e, he⟩ : ∃ e, e = x.e.fold K2 := ⟨_, rfl⟩
      rw [← he] at hfe cE
      clear ce he
      obtain ⟨bY, hbY⟩ : ∃ bY, bY = Blk.box 82 [I x.kind, St x.name, St.sl x.names, I e.op, U e.word, St e.name, Ex.sl e.args, I x.a.op, U x.a.word, St x.a.name, Ex.sl x.a.args, Ex.sl x.args, U x.low, U x.high, Sm.sl x.body, Sm.sl x.els] := ⟨_, rfl⟩
      refine awp_cut (fun _ => false) (fun _ => none) (fun f H' => H' = M2 H k (kmB t2) (stB out) (tmB ts) (L ++ [bY, bT]) ∧ f 1 = .hg k ∧ f 4 = stS H.length out ∧ f 5 = tmS (H.length + 1) ts ∧ f 7 = .bp k1 0 ∧ f 8 = .bp kt 0 ∧ f 18 = Sm.sl l ∧ f 19 = I l.length ∧ f 20 = I i) (by kernel_rfl) ?_ ?_
      · simp -dsimp [g1, g4, g5, g7, g8, g18, g19, g20, gX, sX, hbX, hbY]
        refine acallsW_det (cE _) ?_
        simp -dsimp [g1, g4, g5, g7, g8, g18, g19, g20, gX, sX, hbX, hbY]
      clear g g1 g4 g5 g7 g8 g18 g19 g20
      rintro g _ ⟨rfl, g1, g4, g5, g7, g8, g18, g19, g20⟩
      obtain ⟨b, tb, Kb, hRb⟩ : ∃ b tb Kb, (b, tb, Kb) = smsFold x.body K2 := ⟨_, _, _, rfl⟩
      have c1 := fun X b y R => ih x.body K2 t2 (by omega) (by omega) hsub hK2 (by omega) (M2 H k X (stB out) (tmB ts) (L ++ b :: y :: kmB t2 :: R)) (kt + 1) (gA _ _ _ _ _ _ _)
      rw [← hRb] at hfe c1
      clear hRb
      have ck : ACalls Tryz.prog 113 [.hg k] (M2 H k (kmB t2) (stB out) (tmB ts) (L ++ [bY, bT])) (fun e H' => e = .ret (.hg (kt + 1)) ∧ H' = M2 H k (kmB t2) (stB out) (tmB ts) (L ++ [bY, bT, kmB t2])) := by
        have := kclone_ok (strM kA t2) k _ (gC (kmB t2) (stB out) (tmB ts) (L ++ [bY, bT]))
        rw [lenA, w2_app, List.append_assoc] at this
        exact this
      refine awp_cut (fun _ => false) (fun _ => none) (fun f H' => H' = M2 H k (kmB t2) (stB out) (tmB ts) (L ++ [bY, bT]) ∧ f 1 = .hg k ∧ f 4 = stS H.length out ∧ f 5 = tmS (H.length + 1) ts ∧ f 7 = .bp k1 0 ∧ f 8 = .bp kt 0 ∧ f 18 = Sm.sl l ∧ f 19 = I l.length ∧ f 20 = I i ∧ f 17 = nilS) (by kernel_rfl) ?_ ?_
      · simp -dsimp [g1, g4, g5, g7, g8, g18, g19, g20]
      clear g g1 g4 g5 g7 g8 g18 g19 g20
      rintro g _ ⟨rfl, g1, g4, g5, g7, g8, g18, g19, g20, g17⟩
      obtain ⟨bW, hbW⟩ : ∃ bW, bW = Blk.box 82 [I x.kind, St x.name, St.sl x.names, I e.op, U e.word, St e.name, Ex.sl e.args, I x.a.op, U x.a.word, St x.a.name, Ex.sl x.a.args, Ex.sl x.args, U x.low, U x.high, Sm.sl b, Sm.sl x.els] := ⟨_, rfl⟩
      refine awp_cut (fun d => d == 144 || d == 145) (fun i => if i = 36 then some [(0, []), (1, []), (2, []), (3, [0, 1]), (4, []), (5, []), (6, []), (7, []), (8, []), (9, []), (10, [])] else none) (fun f H' => KnS (fun u => M2 H k (kmB t2) (stB out) (tmB ts) (L ++ [bW, bT, kmB u])) Kb (t2.length + smsCount x.body) H' ∧ f 1 = .hg k ∧ f 4 = stS H.length out ∧ f 5 = tmS (H.length + 1) ts ∧ f 7 = .bp k1 0 ∧ f 8 = .bp kt 0 ∧ f 18 = Sm.sl l ∧ f 19 = I l.length ∧ f 20 = I i ∧ f 17 = Tm.sl tb) (by kernel_rfl) ?_ ?_
      · simp -dsimp [g1, g4, g5, g7, g8, g18, g19, g20, g17, gX, hbY]
        rw [← hbY]
        refine acallsW_of ck ?_
        rintro r M' ⟨rfl, rfl⟩
        simp -dsimp [g1, g4, g5, g7, g8, g18, g19, g20, gX, hbY]
        rw [← hbY]
        refine acallsW_of (c1 _ _ _ _) ?_
        rintro r M' ⟨rfl, u, hK', hu', rfl⟩
        rw [sA]
        simp -dsimp [g1, g4, g5, g7, g8, g18, g19, g20, gX, sX, hbY]
        rw [← hbW]
        exact ⟨u, rfl, hK', hu'⟩
      clear g g1 g4 g5 g7 g8 g18 g19 g20 g17
      rintro g _ ⟨⟨u, rfl, hKb, hu1⟩, g1, g4, g5, g7, g8, g18, g19, g20, g17⟩
      refine awp_all (fun _ => false) (fun _ => none) (by kernel_rfl) ?_
      simp -dsimp [g1, g4, g5, g7, g8, g18, g19, g20, g17, gT, sT, hbT]
      refine ⟨Sm.mk x.kind x.name x.names e x.a x.args x.low x.high b x.els, tmLoop tb, t2, _, [kmB u], by rw [hbW, Sm.cells_eq]; rfl, ?_, by rw [hfe], by rw [hfe]; rfl, by rw [hfe]; exact hK2, by omega⟩
      rw [tmLoop, Tm.cells_eq]
      exact .cons (.refl _) (.cons (.nil 1) (.cons (.refl _) (.cons (.refl _) .nil)))
    rw [if_neg h4] at hfe
    refine awp_condF (by kernel_rfl) (by show g 122 = _; rw [g122]; simp [h4]) ?_
    refine awp_all (fun _ => false) (fun _ => none) (by kernel_rfl) ?_
    simp -dsimp [g1, g4, g5, g7, g8, g18, g19, g20]
    exact ⟨x, tSame, t, [I 1, nilS, Bo false, nilS], [], by rw [hbT, hbX, Sm.cells_eq], by rw [Tm.cells_eq]; exact .cons (.refl _) (.cons (.nil 1) (.cons (.refl _) (.cons (.nil 1) .nil))), by rw [hfe], by rw [hfe], by rw [hfe]; exact hKG, by omega⟩
end Go.Proofs
