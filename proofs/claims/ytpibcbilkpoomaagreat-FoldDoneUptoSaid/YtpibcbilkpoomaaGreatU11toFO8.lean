/- What a program uses. -/
import Derived.Test.YtpibcbilkpoomaaGreatFwUtoG24
import Derived.Test.YtpibcbilkpoomaaGreatFwZtoFO3
import Derived.Test.YtpibcbilkpoomaaGreatFS2toFO7
set_option linter.unusedVariables false
set_option linter.unusedSimpArgs false
set_option maxHeartbeats 4000000
set_option maxRecDepth 100000
namespace Go.Proofs
open Go.Mu
mutual
def Sm.uses (k : Int) : Sm → Bool
  | .mk kd _ _ _ _ _ _ _ b el => kd == k || (smsUses k b || smsUses k el)
def smsUses (k : Int) : List Sm → Bool
  | [] => false
  | s :: l => s.uses k || smsUses k l
end
theorem Sm.uses_eq (k : Int) (s : Sm) : s.uses k = (s.kind == k || (smsUses k s.body || smsUses k s.els)) := by cases s; rw [Sm.uses]; rfl
abbrev formB (a b c d : Bool) : Blk := .box 93 [Bo a, Bo b, Bo c, Bo d]
def FormI (G : Bool → Bool → List Blk) (A B : Bool) (l : List Sm) (H' : List Blk) : Prop := ∃ a' b' L, H' = G a' b' ++ L ∧ (a' || smsUses 6 l) = A ∧ (b' || smsUses 5 l) = B
theorem form1_ok (m : Nat) : ∀ (l : List Sm) (a b cc dd : Bool), smsCount l < m → smsCount l ≤ 2^36 → ∀ (H : List Blk) (c w : Nat), c ≠ w → H[c]? = some (formB a b cc dd) → H[w]? = some (.box 108 [.fn (.func 111) [] [.bp c 0, .bp w 0]]) →
    ACalls Tryz.prog 111 [Sm.sl l, .bp c 0, .bp w 0] H (fun e H' => e = .ret (.tup []) ∧ H' = H.set c (formB (a || smsUses 6 l) (b || smsUses 5 l) cc dd)) := by
  induction m with
  | zero => intro l a b cc dd h; omega
  | succ m ih =>
    intro l a b cc dd hm hcl H c w hcw hc hw
    refine acalls_tidy (acalls_of_awp Tryz.func111 rfl (by kernel_rfl) ?_)
    have hlen := sms_len l
    have hcH := lt_of_get hc
    have hwH := lt_of_get hw
    obtain ⟨G, hG⟩ : ∃ G : Bool → Bool → List Blk, ∀ a b, G a b = H.set c (formB a b cc dd) := ⟨_, fun _ _ => rfl⟩
    have gl : ∀ a b, (G a b).length = H.length := fun a b => by rw [hG]; simp
    have gg : ∀ a b L, (G a b ++ L)[c]? = some (formB a b cc dd) := fun n k L => by rw [hG]; exact s1_get hcH _ _
    have gw : ∀ a b L, (G a b ++ L)[w]? = some (.box 108 [.fn (.func 111) [] [.bp c 0, .bp w 0]]) := fun n k L => by rw [hG, List.getElem?_append_left (by simpa using hwH), List.getElem?_set_ne hcw]; exact hw
    have gs : ∀ a b a' b' L, (G a b ++ L).set c (formB a' b' cc dd) = G a' b' ++ L := fun n k n' k' L => by rw [hG, hG]; exact s1_set hcH _ _ _
    have done : ∀ a' b' L, a' = (a || smsUses 6 l) → b' = (b || smsUses 5 l) → Tidy H (fun x H' => x = AE.ret (.tup []) ∧ H' = H.set c (formB (a || smsUses 6 l) (b || smsUses 5 l) cc dd)) (.ret (.tup [])) (G a' b' ++ L) := fun a' b' L h1 h2 => by
      rw [hG, h1, h2]; exact tidy_s1 (fun _ => rfl) rfl ⟨rfl, rfl⟩
    have hH : H = G a b := by rw [hG, s1_same hc]
    clear hG
    refine awp_cut (fun _ => false) (fun _ => none) (fun f H' => H' = G a b ++ [] ∧ f 1 = .bp c 0 ∧ f 2 = .bp w 0 ∧ f 6 = Sm.sl l ∧ f 7 = I l.length ∧ f 8 = I 0) (by kernel_rfl) ?_ ?_
    · simp -dsimp
      exact hH
    rintro g _ ⟨rfl, g1, g2, g6, g7, g8⟩
    refine awp_block ?_
    refine awp_loopI (fun (i : Nat) f H' => FormI G (a || smsUses 6 l) (b || smsUses 5 l) (l.drop i) H' ∧ f 1 = .bp c 0 ∧ f 2 = .bp w 0 ∧ f 6 = Sm.sl l ∧ f 7 = I l.length ∧ f 8 = I i ∧ i ≤ l.length) (fun i => l.length - i) 0
      ⟨⟨a, b, [], rfl, rfl, rfl⟩, g1, g2, g6, g7, g8, by omega⟩ ?_
    clear g g1 g2 g6 g7 g8
    rintro i g _ ⟨⟨a', b', L, rfl, ha, hb⟩, g1, g2, g6, g7, g8, hi⟩
    refine awp_cut (fun _ => false) (fun _ => none) (fun f H' => H' = G a' b' ++ L ∧ f 1 = .bp c 0 ∧ f 2 = .bp w 0 ∧ f 6 = Sm.sl l ∧ f 7 = I l.length ∧ f 8 = I i ∧ f 9 = Bo (decide ((i : Int) < l.length))) (by kernel_rfl) ?_ ?_
    · simp -dsimp [g1, g2, g6, g7, g8]
    clear g g1 g2 g6 g7 g8
    rintro g _ ⟨rfl, g1, g2, g6, g7, g8, g9⟩
    refine awp_cut (fun _ => false) (fun _ => none) (fun f H' => H' = G a' b' ++ L ∧ f 1 = .bp c 0 ∧ f 2 = .bp w 0 ∧ f 6 = Sm.sl l ∧ f 7 = I l.length ∧ f 8 = I i ∧ i < l.length) (by kernel_rfl) ?_ ?_
    · simp -dsimp [g9]
      refine condVW_introD (fun hlt => ?_) (fun hlt => ?_)
      · simp -dsimp [g1, g2, g6, g7, g8]
        omega
      · rw [drop_end hlt, smsUses, Bool.or_false] at ha hb
        simp -dsimp
        exact done _ _ _ ha hb
    clear g g1 g2 g6 g7 g8 g9
    rintro g _ ⟨rfl, g1, g2, g6, g7, g8, hlt⟩
    have hlx := List.getElem?_eq_getElem hlt
    have hgx := sms_get hlt
    rw [drop_cons hlt, smsUses, Sm.uses_eq] at ha hb
    obtain ⟨x, hx⟩ : ∃ x, x = l[i] := ⟨_, rfl⟩
    rw [← hx] at hlx hgx ha hb
    clear hx
    have hcx := Sm.count_eq x
    refine awp_cutA (fun f H' => FormI G (a || smsUses 6 l) (b || smsUses 5 l) (l.drop (i + 1)) H' ∧ f 1 = .bp c 0 ∧ f 2 = .bp w 0 ∧ f 6 = Sm.sl l ∧ f 7 = I l.length ∧ f 8 = I i) ?_ ?_
    rotate_left
    · clear g g1 g2 g6 g7 g8
      rintro g H' ⟨ho, g1, g2, g6, g7, g8⟩
      replace ho := Hid.mk ho
      refine awp_all (fun _ => false) (fun _ => none) (by kernel_rfl) ?_
      simp -dsimp [g1, g2, g6, g7, g8]
      exact ⟨i + 1, by omega, ho.out, wrapS (by omega), by omega⟩
    refine awp_block ?_
    obtain ⟨bX, hbX⟩ : ∃ bX, bX = Blk.box 82 x.cells := ⟨_, rfl⟩
    simp only [Sm.cells_eq] at hbX
    obtain ⟨k, hk⟩ : ∃ k, k = (G a' b' ++ L).length := ⟨_, rfl⟩
    have hk2 : k = H.length + L.length := by rw [hk, List.length_append, gl]
    refine awp_cut (fun _ => false) (fun _ => none) (fun f H' => H' = G a' b' ++ L ++ [bX] ∧ f 1 = .bp c 0 ∧ f 2 = .bp w 0 ∧ f 6 = Sm.sl l ∧ f 7 = I l.length ∧ f 8 = I i ∧ f 5 = .bp k 0) (by kernel_rfl) ?_ ?_
    · obtain ⟨V, hV⟩ : ∃ V, V = G a' b' ++ L := ⟨_, rfl⟩
      rw [← hV] at hk ⊢
      simp -dsimp [g1, g2, g6, g7, g8, hlx, hbX, hk]
    clear g g1 g2 g6 g7 g8
    rintro g _ ⟨rfl, g1, g2, g6, g7, g8, g5⟩
    rw [List.append_assoc]
    obtain ⟨L1, hL1⟩ : ∃ L1, L1 = L ++ [bX] := ⟨_, rfl⟩
    have gX : ∀ a b, (G a b ++ L1)[k]? = some (.box 82 [I x.kind, St x.name, St.sl x.names, I x.e.op, U x.e.word, St x.e.name, Ex.sl x.e.args, I x.a.op, U x.a.word, St x.a.name, Ex.sl x.a.args, Ex.sl x.args, U x.low, U x.high, Sm.sl x.body, Sm.sl x.els]) := fun a b => by
      rw [hL1, hk2, List.getElem?_append_right (by rw [gl]; omega), gl, Nat.add_sub_cancel_left, List.getElem?_append_right (by omega), Nat.sub_self, ← hbX]; rfl
    rw [← hL1]
    clear hL1 hk hk2 hbX
    refine awp_cut (fun _ => false) (fun _ => none) (fun f H' => H' = G a' (b' || x.kind == 5) ++ L1 ∧ f 1 = .bp c 0 ∧ f 2 = .bp w 0 ∧ f 6 = Sm.sl l ∧ f 7 = I l.length ∧ f 8 = I i ∧ f 5 = .bp k 0) (by kernel_rfl) ?_ ?_
    · clear ha hb
      cases b' <;> simp -dsimp [g1, g2, g6, g7, g8, g5, gg, gX, gs]
    clear g g1 g2 g6 g7 g8 g5
    rintro g _ ⟨rfl, g1, g2, g6, g7, g8, g5⟩
    obtain ⟨b2, hb2⟩ : ∃ b2, b2 = (b' || x.kind == 5) := ⟨_, rfl⟩
    rw [← hb2]
    refine awp_cut (fun _ => false) (fun _ => none) (fun f H' => H' = G (a' || x.kind == 6) b2 ++ L1 ∧ f 1 = .bp c 0 ∧ f 2 = .bp w 0 ∧ f 6 = Sm.sl l ∧ f 7 = I l.length ∧ f 8 = I i ∧ f 5 = .bp k 0) (by kernel_rfl) ?_ ?_
    · clear ha hb
      cases a' <;> simp -dsimp [g1, g2, g6, g7, g8, g5, gg, gX, gs]
    clear g g1 g2 g6 g7 g8 g5
    rintro g _ ⟨rfl, g1, g2, g6, g7, g8, g5⟩
    obtain ⟨a2, ha2⟩ : ∃ a2, a2 = (a' || x.kind == 6) := ⟨_, rfl⟩
    rw [← ha2]
    have c1 := fun a b L => ih x.body a b cc dd (by omega) (by omega) (G a b ++ L) c w hcw (gg _ _ _) (gw _ _ _)
    have c2 := fun a b L => ih x.els a b cc dd (by omega) (by omega) (G a b ++ L) c w hcw (gg _ _ _) (gw _ _ _)
    simp only [gs] at c1 c2
    refine awp_all (fun _ => false) (fun _ => none) (by kernel_rfl) ?_
    simp -dsimp [g1, g2, g6, g7, g8, g5, gw, gX]
    refine acallsW_of (c1 _ _ _) ?_
    rintro e _ ⟨rfl, rfl⟩
    simp -dsimp [g1, g2, g6, g7, g8, g5, gw, gX]
    refine acallsW_of (c2 _ _ _) ?_
    rintro e _ ⟨rfl, rfl⟩
    simp -dsimp [g1, g2, g6, g7, g8, g5]
    refine ⟨_, _, L1, rfl, ?_, ?_⟩
    · rw [← ha, ha2]; simp only [Bool.or_assoc]
    · rw [← hb, hb2]; simp only [Bool.or_assoc]
end Go.Proofs
namespace Go.Proofs
open Go.Mu
def addT (l : List ByteArray) (t : KeyT) : KeyT := l.foldl (fun t n => aset n true t) t
theorem addT_app (a b : List ByteArray) (t : KeyT) : addT (a ++ b) t = addT b (addT a t) := by unfold addT; rw [List.foldl_append]
theorem addT_take {l : List ByteArray} {i : Nat} (h : i < l.length) (t : KeyT) : addT (l.take (i + 1)) t = aset l[i] true (addT (l.take i) t) := by rw [take_succ' h, addT, List.foldl_append]; rfl
theorem aset_keys (n : ByteArray) (t : KeyT) : (n ∈ t.map (·.1) ∧ (aset n true t).map (·.1) = t.map (·.1)) ∨ (n ∉ t.map (·.1) ∧ (aset n true t).map (·.1) = t.map (·.1) ++ [n]) := by
  induction t with
  | nil => right; simp [aset]
  | cons x t ih =>
    obtain ⟨m, v⟩ := x
    rw [aset]
    by_cases h : n = m
    · left; subst h; simp
    · rw [if_neg h]
      rcases ih with ⟨h2, e⟩ | ⟨h2, e⟩
      · left; exact ⟨by simp only [List.map_cons, List.mem_cons]; exact .inr h2, by rw [List.map_cons, e]; rfl⟩
      · right; exact ⟨by simp only [List.map_cons, List.mem_cons, not_or]; exact ⟨h, h2⟩, by rw [List.map_cons, e]; rfl⟩
theorem addT_mem (l : List ByteArray) : ∀ (t : KeyT) (n : ByteArray), n ∈ (addT l t).map (·.1) ↔ n ∈ l ∨ n ∈ t.map (·.1) := by
  induction l with
  | nil => intro t n; simp [addT]
  | cons m l ih =>
    intro t n
    show n ∈ (addT l (aset m true t)).map (·.1) ↔ _
    rw [ih, List.mem_cons]
    rcases aset_keys m t with ⟨h, e⟩ | ⟨h, e⟩
    · rw [e]
      constructor
      · rintro (a | a)
        · exact .inl (.inr a)
        · exact .inr a
      · rintro ((rfl | a) | a)
        · exact .inr h
        · exact .inl a
        · exact .inr a
    · rw [e, List.mem_append, List.mem_singleton]
      constructor
      · rintro (a | a | a)
        · exact .inl (.inr a)
        · exact .inr a
        · exact .inl (.inl a)
      · rintro ((a | a) | a)
        · exact .inr (.inr a)
        · exact .inl a
        · exact .inr (.inl a)
theorem aset_len (n : ByteArray) (t : KeyT) : (aset n true t).length ≤ t.length + 1 := by
  rcases aset_keys n t with ⟨_, e⟩ | ⟨_, e⟩ <;>
  · have := congrArg List.length e
    simp at this
    omega
theorem addT_len (l : List ByteArray) : ∀ t : KeyT, (addT l t).length ≤ t.length + l.length := by
  induction l with
  | nil => intro t; exact Nat.le_refl _
  | cons n l ih =>
    intro t
    have := ih (aset n true t)
    have h2 := aset_len n t
    show (addT l (aset n true t)).length ≤ _
    simp only [List.length_cons]; omega
theorem sets_count (m : Nat) : ∀ l : List Sm, smsCount l ≤ m → (smsSets l).length ≤ smsCount l := by
  induction m with
  | zero => intro l hl; have := sms_len l; obtain rfl : l = [] := List.eq_nil_of_length_eq_zero (by omega); simp [smsSets]
  | succ m ih =>
    intro l
    induction l with
    | nil => intro _; simp [smsSets]
    | cons s l ihl =>
      intro h
      simp only [smsCount] at h
      have hc := Sm.count_eq s
      have h1 := ih s.body (by omega)
      have h2 := ih s.els (by omega)
      have h3 := ihl (by omega)
      rw [smsSets, Sm.sets_eq, smsCount]
      simp only [List.length_append]
      have : (if s.kind = 1 ∨ s.kind = 5 then [s.name] else if s.kind = 6 then s.names else []).length ≤ 1 + s.names.length := by
        split
        · simp
        · split
          · omega
          · simp
      omega
def SetI (G : KeyT → List Blk) (T : KeyT) (l : List Sm) (H' : List Blk) : Prop := ∃ t' L, H' = G t' ++ L ∧ addT (smsSets l) t' = T
abbrev setsF (c w : Nat) : Blk := .box 108 [.fn (.func 45) [] [.bp c 0, .bp w 0]]
theorem sets1_ok (m : Nat) : ∀ (l : List Sm) (t : KeyT), smsCount l < m → smsCount l ≤ 2^36 → ∀ (H : List Blk) (c w km : Nat), c ≠ km → w ≠ km → H[c]? = some (.box 107 [.hm km]) → H[w]? = some (setsF c w) → H[km]? = some (.map (strM okA t)) →
    ACalls Tryz.prog 45 [Sm.sl l, .bp c 0, .bp w 0] H (fun e H' => e = .ret (.tup []) ∧ H' = H.set km (.map (strM okA (addT (smsSets l) t)))) := by
  induction m with
  | zero => intro l t h; omega
  | succ m ih =>
    intro l t hm hcl H c w km hck hwk hc hw hk
    refine acalls_tidy (acalls_of_awp Tryz.func45 rfl (by kernel_rfl) ?_)
    have hlen := sms_len l
    have hcH := lt_of_get hc
    have hwH := lt_of_get hw
    have hkH := lt_of_get hk
    obtain ⟨T, hT⟩ : ∃ T, T = addT (smsSets l) t := ⟨_, rfl⟩
    rw [← hT]
    obtain ⟨G, hG⟩ : ∃ G : KeyT → List Blk, ∀ t, G t = H.set km (.map (strM okA t)) := ⟨_, fun _ => rfl⟩
    have gl : ∀ t, (G t).length = H.length := fun t => by rw [hG]; simp
    have gk : ∀ t L, (G t ++ L)[km]? = some (.map (strM okA t)) := fun t L => by rw [hG]; exact s1_get hkH _ _
    have gc : ∀ t L, (G t ++ L)[c]? = some (.box 107 [.hm km]) := fun t L => by rw [hG, List.getElem?_append_left (by simpa using hcH), List.getElem?_set_ne (Ne.symm hck)]; exact hc
    have gw : ∀ t L, (G t ++ L)[w]? = some (setsF c w) := fun t L => by rw [hG, List.getElem?_append_left (by simpa using hwH), List.getElem?_set_ne (Ne.symm hwk)]; exact hw
    have gs : ∀ t t' L, (G t ++ L).set km (.map (strM okA t')) = G t' ++ L := fun t t' L => by rw [hG, hG]; exact s1_set hkH _ _ _
    have gm : ∀ t L, mapEs (G t ++ L) (.hm km) = some (strM okA t) := fun t L => by simp only [mapEs]; rw [gk]
    have done : ∀ t' L, t' = T → Tidy H (fun x H' => x = AE.ret (.tup []) ∧ H' = H.set km (.map (strM okA T))) (.ret (.tup [])) (G t' ++ L) := fun t' L h1 => by
      rw [hG, h1]; exact tidy_s1 (fun _ => by simp [Blk.under, strM, AV.under, underL]) rfl ⟨rfl, rfl⟩
    have hH : H = G t := by rw [hG, s1_same hk]
    clear hG
    refine awp_cut (fun _ => false) (fun _ => none) (fun f H' => H' = G t ++ [] ∧ f 1 = .bp c 0 ∧ f 2 = .bp w 0 ∧ f 8 = Sm.sl l ∧ f 9 = I l.length ∧ f 10 = I 0) (by kernel_rfl) ?_ ?_
    · simp -dsimp
      exact hH
    rintro g _ ⟨rfl, g1, g2, g8, g9, g10⟩
    refine awp_block ?_
    refine awp_loopI (fun (i : Nat) f H' => SetI G T (l.drop i) H' ∧ f 1 = .bp c 0 ∧ f 2 = .bp w 0 ∧ f 8 = Sm.sl l ∧ f 9 = I l.length ∧ f 10 = I i ∧ i ≤ l.length) (fun i => l.length - i) 0
      ⟨⟨t, [], rfl, hT.symm⟩, g1, g2, g8, g9, g10, by omega⟩ ?_
    clear g g1 g2 g8 g9 g10 hT hH
    rintro i g _ ⟨⟨t', L, rfl, ha⟩, g1, g2, g8, g9, g10, hi⟩
    refine awp_cut (fun _ => false) (fun _ => none) (fun f H' => H' = G t' ++ L ∧ f 1 = .bp c 0 ∧ f 2 = .bp w 0 ∧ f 8 = Sm.sl l ∧ f 9 = I l.length ∧ f 10 = I i ∧ f 11 = Bo (decide ((i : Int) < l.length))) (by kernel_rfl) ?_ ?_
    · simp -dsimp [g1, g2, g8, g9, g10]
    clear g g1 g2 g8 g9 g10
    rintro g _ ⟨rfl, g1, g2, g8, g9, g10, g11⟩
    refine awp_cut (fun _ => false) (fun _ => none) (fun f H' => H' = G t' ++ L ∧ f 1 = .bp c 0 ∧ f 2 = .bp w 0 ∧ f 8 = Sm.sl l ∧ f 9 = I l.length ∧ f 10 = I i ∧ i < l.length) (by kernel_rfl) ?_ ?_
    · simp -dsimp [g11]
      refine condVW_introD (fun hlt => ?_) (fun hlt => ?_)
      · simp -dsimp [g1, g2, g8, g9, g10]
        omega
      · rw [drop_end hlt, smsSets] at ha
        simp -dsimp
        exact done _ _ ha
    clear g g1 g2 g8 g9 g10 g11
    rintro g _ ⟨rfl, g1, g2, g8, g9, g10, hlt⟩
    have hlx := List.getElem?_eq_getElem hlt
    have hgx := sms_get hlt
    rw [drop_cons hlt, smsSets, Sm.sets_eq] at ha
    obtain ⟨x, hx⟩ : ∃ x, x = l[i] := ⟨_, rfl⟩
    rw [← hx] at hlx hgx ha
    clear hx
    have hcx := Sm.count_eq x
    refine awp_cutA (fun f H' => SetI G T (l.drop (i + 1)) H' ∧ f 1 = .bp c 0 ∧ f 2 = .bp w 0 ∧ f 8 = Sm.sl l ∧ f 9 = I l.length ∧ f 10 = I i) ?_ ?_
    rotate_left
    · clear g g1 g2 g8 g9 g10
      rintro g H' ⟨ho, g1, g2, g8, g9, g10⟩
      replace ho := Hid.mk ho
      refine awp_all (fun _ => false) (fun _ => none) (by kernel_rfl) ?_
      simp -dsimp [g1, g2, g8, g9, g10]
      exact ⟨i + 1, by omega, ho.out, wrapS (by omega), by omega⟩
    refine awp_block ?_
    obtain ⟨bX, hbX⟩ : ∃ bX, bX = Blk.box 82 x.cells := ⟨_, rfl⟩
    simp only [Sm.cells_eq] at hbX
    obtain ⟨k, hk2⟩ : ∃ k, k = H.length + L.length := ⟨_, rfl⟩
    obtain ⟨L1, hL1⟩ : ∃ L1, L1 = L ++ [bX] := ⟨_, rfl⟩
    have gX : ∀ t L2, (G t ++ (L1 ++ L2))[k]? = some (.box 82 [I x.kind, St x.name, St.sl x.names, I x.e.op, U x.e.word, St x.e.name, Ex.sl x.e.args, I x.a.op, U x.a.word, St x.a.name, Ex.sl x.a.args, Ex.sl x.args, U x.low, U x.high, Sm.sl x.body, Sm.sl x.els]) := fun t L2 => by
      rw [hL1, hk2, List.getElem?_append_right (by rw [gl]; omega), gl, Nat.add_sub_cancel_left, List.append_assoc, List.getElem?_append_right (by omega), Nat.sub_self, ← hbX]; rfl
    obtain ⟨V, hV⟩ : ∃ V, V = G t' ++ L := ⟨_, rfl⟩
    have hVl : V.length = k := by rw [hV, List.length_append, gl, hk2]
    have hVa : V ++ [bX] = G t' ++ L1 := by rw [hV, hL1, List.append_assoc]
    rw [← hV]
    refine awp_cut (fun _ => false) (fun _ => none) (fun f H' => H' = V ++ [bX] ∧ f 1 = .bp c 0 ∧ f 2 = .bp w 0 ∧ f 8 = Sm.sl l ∧ f 9 = I l.length ∧ f 10 = I i ∧ f 5 = .bp V.length 0) (by kernel_rfl) ?_ ?_
    · simp -dsimp [g1, g2, g8, g9, g10, hlx, hbX]
    clear g g1 g2 g8 g9 g10
    rw [hVl, hVa]
    clear hV hVl hVa V
    rintro g _ ⟨rfl, g1, g2, g8, g9, g10, g5⟩
    clear hL1 hk2 hbX hlx
    obtain ⟨ow, how⟩ : ∃ ow, ow = if x.kind = 1 ∨ x.kind = 5 then [x.name] else if x.kind = 6 then x.names else [] := ⟨_, rfl⟩
    rw [← how] at ha
    have gX0 := fun t => gX t []
    simp only [List.append_nil] at gX0
    -- its own
    refine awp_cutA (fun f H' => H' = G (addT ow t') ++ L1 ∧ f 1 = .bp c 0 ∧ f 2 = .bp w 0 ∧ f 8 = Sm.sl l ∧ f 9 = I l.length ∧ f 10 = I i ∧ f 5 = .bp k 0) ?_ ?_
    · refine awp_cut (fun _ => false) (fun _ => none) (fun f H' => H' = G t' ++ L1 ∧ f 1 = .bp c 0 ∧ f 2 = .bp w 0 ∧ f 8 = Sm.sl l ∧ f 9 = I l.length ∧ f 10 = I i ∧ f 5 = .bp k 0 ∧ f 15 = I x.kind) (by kernel_rfl) ?_ ?_
      · simp -dsimp [g1, g2, g8, g9, g10, g5, gX0]
      clear g g1 g2 g8 g9 g10 g5
      rintro g _ ⟨rfl, g1, g2, g8, g9, g10, g5, g15⟩
      have hset := fun (n : ByteArray) t => mset_str okA n true t
      by_cases h15 : x.kind = 1 ∨ x.kind = 5
      · rw [if_pos h15] at how
        refine awp_all (fun _ => false) (fun _ => none) (by kernel_rfl) ?_
        have e : addT ow t' = aset x.name true t' := by rw [how]; rfl
        rw [e]
        rcases h15 with h | h
        · simp -dsimp [g1, g2, g8, g9, g10, g5, g15, h, gc, gX0, gm, hset, gs]
        · simp -dsimp [g1, g2, g8, g9, g10, g5, g15, h, gc, gX0, gm, hset, gs]
      rw [if_neg h15] at how
      have h1b : (x.kind == 1) = false := by simp; exact fun h => h15 (.inl h)
      have h5b : (x.kind == 5) = false := by simp; exact fun h => h15 (.inr h)
      by_cases h6 : x.kind = 6
      rotate_left
      · rw [if_neg h6] at how
        have h6b : (x.kind == 6) = false := by simpa using h6
        refine awp_all (fun _ => false) (fun _ => none) (by kernel_rfl) ?_
        have e : addT ow t' = t' := by rw [how]; rfl
        rw [e]
        simp -dsimp [g1, g2, g8, g9, g10, g5, g15, h1b, h5b, h6b]
      rw [if_pos h6] at how
      refine awp_all (fun _ => false) (fun _ => none) (by kernel_rfl) ?_
      have hnl : x.names.length ≤ 2^36 := by omega
      simp -dsimp [g1, g2, g8, g9, g10, g5, g15, h1b, h5b, h6, gX0]
      refine loop_rule (hn := fun _ => false) (od := fun _ => none) (fun (j : Nat) f H' => H' = G (addT (x.names.take j) t') ++ L1 ∧ f 1 = .bp c 0 ∧ f 2 = .bp w 0 ∧ f 8 = Sm.sl l ∧ f 9 = I l.length ∧ f 10 = I i ∧ f 5 = .bp k 0 ∧ f 26 = St.sl x.names ∧ f 27 = I x.names.length ∧ f 28 = I j ∧ j ≤ x.names.length) (fun j => x.names.length - j) (by kernel_rfl) 0 (by simp [g1, g2, g8, g9, g10, g5, addT]) ?_
      clear g g1 g2 g8 g9 g10 g5 g15
      rintro j g _ ⟨rfl, g1, g2, g8, g9, g10, g5, g26, g27, g28, hj⟩
      simp -dsimp [g1, g2, g8, g9, g10, g5, g26, g27, g28]
      refine condVW_introD (fun hlt2 => ?_) (fun hlt2 => ?_)
      · have hlt3 : j < x.names.length := by omega
        have hT := addT_take hlt3 t'
        have hn := List.getElem?_eq_getElem hlt3
        obtain ⟨n, hne⟩ : ∃ n, n = x.names[j] := ⟨_, rfl⟩
        rw [← hne] at hn hT
        simp -dsimp [g1, g2, g8, g9, g10, g5, g26, g27, g28, hn, gc, gm, hset, gs]
        exact ⟨j + 1, by omega, by rw [hT], wrapS (by omega), by omega⟩
      · have hall : x.names.take j = x.names := List.take_of_length_le (by omega)
        rw [hall, ← how]
        simp -dsimp [g1, g2, g8, g9, g10, g5]
    clear g g1 g2 g8 g9 g10 g5
    rintro g _ ⟨rfl, g1, g2, g8, g9, g10, g5⟩
    rw [addT_app, addT_app, addT_app] at ha
    have c1 := fun t L => ih x.body t (by omega) (by omega) (G t ++ L) c w km hck hwk (gc _ _) (gw _ _) (gk _ _)
    have c2 := fun t L => ih x.els t (by omega) (by omega) (G t ++ L) c w km hck hwk (gc _ _) (gw _ _) (gk _ _)
    simp only [gs] at c1 c2
    refine awp_all (fun _ => false) (fun _ => none) (by kernel_rfl) ?_
    simp -dsimp [g1, g2, g8, g9, g10, g5, gw, gX0]
    refine acallsW_of (c1 _ _) ?_
    rintro e _ ⟨rfl, rfl⟩
    simp -dsimp [g1, g2, g8, g9, g10, g5, gw, gX0]
    refine acallsW_of (c2 _ _) ?_
    rintro e _ ⟨rfl, rfl⟩
    simp -dsimp [g1, g2, g8, g9, g10, g5]
    exact ⟨_, L1, rfl, ha⟩
end Go.Proofs
