/- What a function knows of its slots and of own memory may be told in other words on the way. -/
import Derived.Test.YtihlekehnihnpaaGreatFwVtoG37
import Derived.Test.YtihlekehnihnpaaGreatL1
set_option linter.unusedVariables false
set_option linter.unusedSimpArgs false
set_option maxHeartbeats 4000000
set_option maxRecDepth 100000
namespace Go.Mu
open Go.RowKit (Below)
section
variable {P : Program} {n : Nat} {c : Code} {Q : AQ}
end
end Go.Mu
namespace Go.Proofs
open Go.Mu
def inB (l : List ByteArray) (s : ByteArray) : Bool := l.any fun x => decide (s = x)
theorem inB_snoc (l : List ByteArray) (a s : ByteArray) : inB (l ++ [a]) s = (inB l s || decide (s = a)) := by simp [inB]
def oneL (seen : List ByteArray) (s : ByteArray) : Int := mustE (namedB s && !inB seen s) 8
def onesL (seen : List ByteArray) : List ByteArray → Int
  | [] => 0
  | s :: l => thenE (oneL seen s) (onesL (seen ++ [s]) l)
def retsL (words done : List ByteArray) : List ByteArray → Int
  | [] => 0
  | s :: l => thenE (mustE (inB words s && !inB done s) 8) (retsL words (done ++ [s]) l)
def wordsV (vs : List Vr) : List ByteArray := (vs.filter fun v => v.kind == 1).map Vr.name
def nameL (rl : List ByteArray) (f : Fc) : Int := thenE (onesL rl ((f.params ++ f.vars).map Vr.name)) (retsL (wordsV (f.params ++ f.vars)) [] f.rets)
theorem seenB_set (s n : ByteArray) (b : Bool) (T : Tab) : seenB s (aset n b T) = if s = n then b else seenB s T := by
  unfold seenB; rw [alook_set]; split <;> rfl
theorem onesL_E : ∀ (l : List ByteArray) (seen : List ByteArray) (T : Tab), (∀ s, seenB s T = inB seen s) → onesL seen l = onesE l T ∧ (∀ s, seenB s (onesT l T) = inB (seen ++ l) s)
  | [], seen, T, h => ⟨rfl, fun s => by rw [List.append_nil]; exact h s⟩
  | a :: l, seen, T, h => by
    have h2 : ∀ s, seenB s (aset a true T) = inB (seen ++ [a]) s := fun s => by
      rw [seenB_set, inB_snoc, h]
      by_cases e : s = a
      · simp [e]
      · simp [e]
    obtain ⟨q1, q2⟩ := onesL_E l (seen ++ [a]) (aset a true T) h2
    refine ⟨?_, fun s => ?_⟩
    · rw [onesL, onesE, q1, oneL, oneE, h]
    · have := q2 s
      rw [List.append_assoc] at this
      exact this
theorem thenE_0 {a b : Int} (h : thenE a b = 0) : a = 0 ∧ b = 0 := by
  unfold thenE at h
  split at h
  · rename_i ha; exact ⟨ha, h⟩
  · rename_i ha; exact absurd h ha
theorem mustE_0 {b : Bool} {e : Int} (he : e ≠ 0) (h : mustE b e = 0) : b = true := by
  unfold mustE at h
  split at h
  · assumption
  · exact absurd h he
theorem onesE_0 {s : ByteArray} {T : Tab} (h : oneE s T = 0) : namedB s = true ∧ seenB s T = false := by
  have := mustE_0 (by decide) h
  simpa using this
theorem varsE_L : ∀ (vs done : List Vr) (seen : List ByteArray) (O R : Tab), (∀ s, seenB s O = inB seen s) → (∀ v ∈ done, inB seen v.name = true) → (∀ v ∈ done, namedB v.name = true) → (∀ s, seenB s R = inB (wordsV done) s) →
    varsE vs O R = onesL seen (vs.map Vr.name) ∧ (varsE vs O R = 0 → (∀ s, seenB s (regT vs R) = inB (wordsV (done ++ vs)) s) ∧ ∀ v ∈ done ++ vs, namedB v.name = true)
  | [], done, seen, O, R, h1, h2, h3, h4 => ⟨rfl, fun _ => ⟨fun s => by rw [List.append_nil]; exact h4 s, by simpa using h3⟩⟩
  | v :: vs, done, seen, O, R, h1, h2, h3, h4 => by
    have hone : oneL seen v.name = oneE v.name O := by rw [oneL, oneE, h1]
    by_cases hz : oneE v.name O = 0
    · obtain ⟨n1, n2⟩ := onesE_0 hz
      have h1' : ∀ s, seenB s (aset v.name true O) = inB (seen ++ [v.name]) s := fun s => by
        rw [seenB_set, inB_snoc, h1]
        by_cases e : s = v.name <;> simp [e]
      have hw : wordsV (done ++ [v]) = if v.kind == 1 then wordsV done ++ [v.name] else wordsV done := by
        unfold wordsV
        rw [List.filter_append, List.map_append]
        by_cases e : (v.kind == 1) = true
        · rw [if_pos e]; simp [List.filter_cons, e]
        · rw [if_neg e]; simp [List.filter_cons, e]
      have hnd : inB (wordsV done) v.name = false := by
        cases hh : inB (wordsV done) v.name with
        | false => rfl
        | true =>
          exfalso
          unfold inB wordsV at hh
          rw [List.any_eq_true] at hh
          obtain ⟨x, hx, he⟩ := hh
          obtain ⟨u, hu, rfl⟩ := List.mem_map.1 hx
          have hu' := (List.mem_filter.1 hu).1
          have := h2 u hu'
          rw [← h1, ← of_decide_eq_true he, n2] at this
          cases this
      have h4' : ∀ s, seenB s (aset v.name (v.kind == 1) R) = inB (wordsV (done ++ [v])) s := fun s => by
        rw [seenB_set, hw, h4]
        by_cases e : s = v.name
        · rw [if_pos e]
          split
          · rename_i hk; rw [inB_snoc, hk]; simp [e]
          · rename_i hk; rw [e, hnd]; simpa using hk
        · rw [if_neg e]
          split
          · rw [inB_snoc]; simp [e]
          · rfl
      obtain ⟨q1, q2⟩ := varsE_L vs (done ++ [v]) (seen ++ [v.name]) (aset v.name true O) (aset v.name (v.kind == 1) R) h1' (fun u hu => by
          rw [inB_snoc]
          rcases List.mem_append.1 hu with h | h
          · rw [h2 u h]; rfl
          · obtain rfl := List.mem_singleton.1 h; simp) (fun u hu => by
          rcases List.mem_append.1 hu with h | h
          · exact h3 u h
          · obtain rfl := List.mem_singleton.1 h; exact n1) h4'
      refine ⟨?_, fun h0 => ?_⟩
      · rw [varsE, List.map_cons, onesL, hone, hz, thenE_zero, thenE_zero, q1]
      · rw [varsE, hz, thenE_zero] at h0
        obtain ⟨r1, r2⟩ := q2 h0
        rw [List.append_assoc] at r1 r2
        exact ⟨r1, r2⟩
    · refine ⟨?_, fun h0 => ?_⟩
      · rw [varsE, List.map_cons, onesL, hone, thenE_ne hz, thenE_ne hz]
      · rw [varsE, thenE_ne hz] at h0; exact absurd h0 hz
theorem retsE_L (words : List ByteArray) (hn : ∀ s, inB words s = true → namedB s = true) (R : Tab) (hR : ∀ s, seenB s R = inB words s) : ∀ (l done : List ByteArray) (T : Tab), (∀ s, seenB s T = inB done s) → retsL words done l = retsE R l T
  | [], done, T, h => rfl
  | s :: l, done, T, h => by
    rw [retsL, retsE, hR]
    have h2 : ∀ a, seenB a (aset s true T) = inB (done ++ [s]) a := fun a => by
      rw [seenB_set, inB_snoc, h]
      by_cases e : a = s <;> simp [e]
    rw [retsE_L words hn R hR l (done ++ [s]) (aset s true T) h2]
    cases hw : inB words s
    · rw [Bool.false_and, mustE_false, thenE_ne (by decide), thenE_ne (by decide)]
    · rw [Bool.true_and, mustE_true, thenE_zero, oneE, hn s hw, Bool.true_and, h]
theorem nameL_F (rs : List Rg) (f : Fc) : nameL (rs.map Rg.name) f = nameF rs f := by
  obtain ⟨_, o2⟩ := onesL_E (rs.map Rg.name) [] [] (fun s => rfl)
  simp only [List.nil_append] at o2
  obtain ⟨q1, q2⟩ := varsE_L (f.params ++ f.vars) [] (rs.map Rg.name) _ [] o2 (by simp) (by simp) (fun s => rfl)
  rw [nameL, nameF, ← q1]
  by_cases hz : varsE (f.params ++ f.vars) (onesT (rs.map Rg.name) []) [] = 0
  · obtain ⟨r1, r2⟩ := q2 hz
    rw [hz, thenE_zero, thenE_zero]
    simp only [List.nil_append] at r1 r2
    refine retsE_L _ (fun s hs => ?_) _ r1 _ _ _ (fun s => rfl)
    unfold inB wordsV at hs
    rw [List.any_eq_true] at hs
    obtain ⟨x, hx, he⟩ := hs
    obtain ⟨u, hu, rfl⟩ := List.mem_map.1 hx
    rw [of_decide_eq_true he]
    exact r2 u (List.mem_filter.1 hu).1
  · rw [thenE_ne hz, thenE_ne hz]
theorem allE_congr {α : Type} {p q : α → Int} : ∀ {l : List α}, (∀ a ∈ l, p a = q a) → allE p l = allE q l
  | [], _ => rfl
  | a :: l, h => by rw [allE, allE, h a (by simp), allE_congr fun b hb => h b (by simp [hb])]
theorem namesL (p : Pg) : thenE (onesL [] (p.regions.map Rg.name)) (thenE (onesL (p.regions.map Rg.name) (p.funcs.map Fc.name)) (allE (nameL (p.regions.map Rg.name)) p.funcs)) = namesE p := by
  obtain ⟨o1, o2⟩ := onesL_E (p.regions.map Rg.name) [] [] (fun s => rfl)
  simp only [List.nil_append] at o2
  obtain ⟨o3, _⟩ := onesL_E (p.funcs.map Fc.name) (p.regions.map Rg.name) _ o2
  rw [namesE, o1, o3, allE_congr fun f _ => nameL_F p.regions f]
def SRow (B : Nat) (H : List Blk) (h : Option Nat) (x : AV) (l : List ByteArray) : Prop := match h with
  | none => x = nilS ∧ l = []
  | some k => B ≤ k ∧ x = .hs k 0 l.length l.length ∧ H[k]? = some (.row 9 1 (l.map fun s => [St s]))
structure Kept (B : Nat) (H : List Blk) (h : Option Nat) (H' : List Blk) (h' : Option Nat) : Prop where
  pre : ∀ M : List Blk, M.length = B → (∃ L, H = M ++ L) → ∃ L, H' = M ++ L
  old : ∀ i b, H[i]? = some b → h ≠ some i → H'[i]? = some b
  apart : ∀ j, j < H.length → h ≠ some j → h' ≠ some j
theorem Kept.row {B : Nat} {H H' : List Blk} {h h' g : Option Nat} {y : AV} {m : List ByteArray} (k : Kept B H h H' h') (hr : SRow B H g y m) (hne : ∀ j, g = some j → h ≠ some j) : SRow B H' g y m ∧ ∀ j, g = some j → h' ≠ some j := by
  cases g with
  | none => exact ⟨hr, fun j hj => by cases hj⟩
  | some i =>
    obtain ⟨h1, h2, h3⟩ := hr
    exact ⟨⟨h1, h2, k.old i _ h3 (hne i rfl)⟩, fun j hj => by cases hj; exact k.apart i (lt_of_get h3) (hne i rfl)⟩
theorem app_srow {B : Nat} {H : List Blk} {h : Option Nat} {x : AV} {l ys : List ByteArray} {sl : TypeId × Nat × List Value × Nat} {K : AV → List Blk → Prop} {w : Wit K} (hr : SRow B H h x l) (hB : B ≤ H.length) (h1 : sl.1 = 9) (h2 : sl.2.1 = 1) (hs : sl.2.2.2 ≤ 16) (hb : l.length + ys.length ≤ 2^39)
    (k : ∀ h' x' H', SRow B H' h' x' (l ++ ys) → Kept B H h H' h' → K x' H') : appendVW H sl x (ys.map fun s => [St s]) K w := by
  obtain ⟨s1, s2, s3, s4⟩ := sl
  simp only at h1 h2 hs
  subst h1 h2
  have hbd : (l.length + ys.length) * s4 ≤ 140737488355328 := by
    have : (l.length + ys.length) * s4 ≤ (l.length + ys.length) * 16 := Nat.mul_le_mul_left _ hs
    omega
  cases h with
  | none =>
    obtain ⟨rfl, rfl⟩ := hr
    simp only [List.length_nil, Nat.zero_add] at hbd
    refine appendVW_nil (by simpa using hbd) (by simp at hb ⊢; omega) (fun hy => ?_) (fun hy => ?_)
    · have : ys = [] := by simpa using hy
      subst this
      exact k none _ H ⟨rfl, rfl⟩ ⟨fun M _ h => h, fun i b h _ => h, fun j _ h => h⟩
    · refine k (some H.length) _ _ ⟨hB, ?_, by simp⟩ ⟨fun M hM hL => ?_, fun i b h _ => get_app_old h _, fun j hj _ e => by cases e; omega⟩
      · simp
      · obtain ⟨L, rfl⟩ := hL; exact ⟨L ++ _, by rw [List.append_assoc]⟩
  | some i =>
    obtain ⟨q1, rfl, q3⟩ := hr
    refine appendVW_hs (es := l.map fun s => [St s]) q3 (by simp) (by simp) (by simpa using hbd) (by simp; omega) ?_
    have hil := lt_of_get q3
    have e : l.map (fun s => [St s]) ++ ys.map (fun s => [St s]) = (l ++ ys).map fun s => [St s] := by simp
    rw [e]
    refine k (some i) _ _ ⟨q1, by simp, by simp [hil]⟩ ⟨fun M hM hL => ?_, fun j b h hne => ?_, fun j _ h => h⟩
    · obtain ⟨L, rfl⟩ := hL
      exact ⟨_, by rw [List.set_append, if_neg (by omega)]⟩
    · rw [List.getElem?_set_ne (fun e => hne (by rw [e]))]; exact h
def OneR (B : Nat) (H : List Blk) (x : AV) (l : List ByteArray) : Prop := ∃ h, SRow B H h x l
def TwoR (B : Nat) (H : List Blk) (x : AV) (l : List ByteArray) (y : AV) (m : List ByteArray) : Prop := ∃ h q, SRow B H h x l ∧ SRow B H q y m ∧ ∀ j, q = some j → h ≠ some j
def ThreeR (B : Nat) (H : List Blk) (x : AV) (l : List ByteArray) (y : AV) (m : List ByteArray) (z : AV) (n : List ByteArray) : Prop :=
  ∃ h q r, SRow B H h x l ∧ SRow B H q y m ∧ SRow B H r z n ∧ (∀ j, q = some j → h ≠ some j) ∧ (∀ j, r = some j → h ≠ some j) ∧ (∀ j, r = some j → q ≠ some j)
theorem srcEs_row {B : Nat} {H : List Blk} {h : Option Nat} {x : AV} {l : List ByteArray} (hr : SRow B H h x l) : srcEs H 1 x = some (l.map fun s => [St s]) := by
  cases h with
  | none => obtain ⟨rfl, rfl⟩ := hr; rfl
  | some k =>
    obtain ⟨q1, rfl, q3⟩ := hr
    simp only [srcEs, q3, List.length_map, and_self, if_true, List.drop_zero]
    rw [List.take_of_length_le (by simp)]
theorem rhas_row {B : Nat} {H : List Blk} {h : Option Nat} {x : AV} {l : List ByteArray} (hr : SRow B H h x l) (hl : l.length ≤ 2^40) (s : ByteArray) : ACalls Tryz.prog 49 [x, St s] H (fun e H' => e = .ret (Bo (inB l s)) ∧ H' = H) := by
  cases h with
  | none =>
    obtain ⟨rfl, rfl⟩ := hr
    exact acalls_weak (args' := [St.sl [], St s]) (.cons (.nil _) (.cons (.refl _) .nil)) (rhas_ok [] s (by simp) H)
  | some k =>
    obtain ⟨q1, rfl, q3⟩ := hr
    refine acalls_apart (args' := [St.sl l, St s]) ?_ rfl (rhas_ok l s hl [])
    refine .row k 1 9 _ q3 (strs_frz _) ?_
    have e : frzL k 1 (l.map fun s => [St s]) [.hs k 0 l.length l.length, St s] = [St.sl l, St s] := by
      simp only [frzL, AV.frz, List.length_map, and_self, if_true, List.drop_zero]
      rw [List.take_of_length_le (by simp)]
    rw [e]
    exact .refl _ _
theorem onesL_new : ∀ (l seen : List ByteArray), onesL seen l = 0 → (∀ x ∈ l, inB seen x = false) ∧ l.Pairwise (fun a b => a ≠ b)
  | [], seen, _ => ⟨nofun, .nil⟩
  | s :: l, seen, h => by
    rw [onesL] at h
    obtain ⟨h1, h2⟩ := thenE_0 h
    have h3 := mustE_0 (by decide) h1
    simp only [Bool.and_eq_true, Bool.not_eq_true'] at h3
    obtain ⟨q1, q2⟩ := onesL_new l (seen ++ [s]) h2
    have q3 : ∀ x ∈ l, inB seen x = false ∧ x ≠ s := fun x hx => by
      have := q1 x hx
      rw [inB_snoc] at this
      simpa using this
    refine ⟨fun x hx => ?_, .cons (fun x hx e => (q3 x hx).2 e.symm) q2⟩
    rcases List.mem_cons.1 hx with rfl | hx
    · exact h3.2
    · exact (q3 x hx).1
def lookV (n : ByteArray) : List Vr → Option Vr
  | [] => none
  | v :: l => if v.name = n then some v else lookV n l
theorem lookV_none {n : ByteArray} : ∀ {l : List Vr}, (∀ x ∈ l, x.name ≠ n) → lookV n l = none
  | [], _ => rfl
  | v :: l, h => by rw [lookV, if_neg (h v (by simp))]; exact lookV_none fun x hx => h x (by simp [hx])
theorem look_vars (n : ByteArray) : ∀ (l : List Vr) (t : List (ByteArray × Vr)), (l.map Vr.name).Pairwise (fun a b => a ≠ b) → alook n (l.foldl (fun t v => aset v.name v t) t) = (match lookV n l with | some v => some v | none => alook n t)
  | [], t, _ => rfl
  | v :: l, t, h => by
    rw [List.map_cons, List.pairwise_cons] at h
    rw [List.foldl_cons, look_vars n l _ h.2, lookV]
    by_cases e : v.name = n
    · have : lookV n l = none := lookV_none fun x hx he => h.1 x.name (List.mem_map.2 ⟨x, hx, rfl⟩) (e.trans he.symm)
      rw [if_pos e, this, alook_set, if_pos e.symm]
    · rw [if_neg e, alook_set, if_neg (fun h => e h.symm)]
theorem findV_look (n : ByteArray) : ∀ l : List Vr, findV l n = match lookV n l with | some v => if v.kind = 1 then 1 else 2 | none => 0
  | [] => rfl
  | v :: l => by
    rw [findV, lookV]
    by_cases e : v.name = n
    · rw [if_pos e, if_pos e]
    · rw [if_neg e, if_neg e, findV_look n l]
theorem findR_in (n : ByteArray) : ∀ l : List Rg, findR l n = if inB (l.map Rg.name) n then 3 else 0
  | [] => rfl
  | r :: l => by
    rw [findR, findR_in n l]
    by_cases e : r.name = n
    · rw [if_pos e, if_pos]; simp [inB, e]
    · rw [if_neg e]
      have : inB ((r :: l).map Rg.name) n = inB (l.map Rg.name) n := by simp [inB]; exact fun h => absurd h.symm e
      rw [this]
theorem names_at (p : Pg) (k : Nat) (hk : k < p.funcs.length) (h : onesL (p.regions.map Rg.name) ((p.funcs[k].params ++ p.funcs[k].vars).map Vr.name) = 0) : NamesAt p k hk (varsT (p.funcs[k].params ++ p.funcs[k].vars)) (onesT (p.regions.map Rg.name) []) := by
  obtain ⟨_, hnd⟩ := onesL_new _ _ h
  have hl := fun n => look_vars n (p.funcs[k].params ++ p.funcs[k].vars) [] hnd
  obtain ⟨_, o2⟩ := onesL_E (p.regions.map Rg.name) [] [] (fun s => rfl)
  simp only [List.nil_append] at o2
  have key : ∀ n, findK p.regions (p.funcs[k].params ++ p.funcs[k].vars) n = (if isV n (varsT (p.funcs[k].params ++ p.funcs[k].vars)) then (if kindV n (varsT (p.funcs[k].params ++ p.funcs[k].vars)) = 1 then 1 else 2) else if seenB n (onesT (p.regions.map Rg.name) []) then 3 else 0) := fun n => by
    have hh := hl n
    unfold isV kindV varsT
    rw [findK, findV_look, findR_in, o2, hh]
    cases lookV n (p.funcs[k].params ++ p.funcs[k].vars) with
    | none => simp [alook]
    | some v =>
      simp only [Option.isSome_some, if_true, Option.getD_some]
      rw [if_neg (by split <;> decide)]
  constructor
  · intro n
    rw [key, wordE, wordK]
    cases isV n (varsT (p.funcs[k].params ++ p.funcs[k].vars)) <;> cases seenB n (onesT (p.regions.map Rg.name) []) <;> by_cases e : kindV n (varsT (p.funcs[k].params ++ p.funcs[k].vars)) = 1 <;> simp [e, mustE, thenE]
  · intro n
    rw [key, arrayE, arrayK]
    cases isV n (varsT (p.funcs[k].params ++ p.funcs[k].vars)) <;> cases seenB n (onesT (p.regions.map Rg.name) []) <;> by_cases e : kindV n (varsT (p.funcs[k].params ++ p.funcs[k].vars)) = 1 <;> simp [e, mustE, thenE]
end Go.Proofs
namespace Go.Proofs
open Go.Mu
def is13 (x : Int) : Prop := x = 0 ∨ x = 13
theorem must13 (b : Bool) : is13 (mustE b 13) := by unfold mustE is13; split <;> simp
theorem then13 {a b : Int} (ha : is13 a) (hb : is13 b) : is13 (thenE a b) := by
  rcases ha with rfl | rfl
  · exact hb
  · exact .inr rfl
theorem all13 {α : Type} {q : α → Int} (h : ∀ a, is13 (q a)) : ∀ l : List α, is13 (allE q l)
  | [] => .inl rfl
  | a :: l => then13 (h a) (all13 h l)
theorem manyV13 (v : Vr) : is13 (manyV v) := by unfold manyV; split; exact must13 _; exact .inl rfl
theorem manyF13 (f : Fc) : is13 (manyF f) := then13 (must13 _) (all13 manyV13 _)
def lensE (p : Pg) : Int := mustE (decide ((p.regions.length : Int) ≤ 16) && decide (1 ≤ (p.funcs.length : Int)) && decide ((p.funcs.length : Int) ≤ 32) && decide (sizeM p ≤ 65536)) 13
theorem manyL (p : Pg) : thenE (lensE p) (thenE (allE (fun r => sizeE r.size) p.regions) (allE manyF p.funcs)) = manyE p := by
  have h1 := must13 (decide ((p.regions.length : Int) ≤ 16) && decide (1 ≤ (p.funcs.length : Int)) && decide ((p.funcs.length : Int) ≤ 32))
  have h2 := must13 (decide (sizeM p ≤ 65536))
  have h3 : is13 (allE (fun (r : Rg) => sizeE r.size) p.regions) := all13 (fun r => must13 _) _
  have h4 := all13 manyF13 p.funcs
  have h5 : lensE p = thenE (mustE (decide ((p.regions.length : Int) ≤ 16) && decide (1 ≤ (p.funcs.length : Int)) && decide ((p.funcs.length : Int) ≤ 32)) 13) (mustE (decide (sizeM p ≤ 65536)) 13) := by
    unfold lensE mustE
    cases decide ((p.regions.length : Int) ≤ 16) && decide (1 ≤ (p.funcs.length : Int)) && decide ((p.funcs.length : Int) ≤ 32) <;> rfl
  rw [h5, manyE]
  generalize mustE (decide ((p.regions.length : Int) ≤ 16) && decide (1 ≤ (p.funcs.length : Int)) && decide ((p.funcs.length : Int) ≤ 32)) 13 = a at h1 ⊢
  generalize mustE (decide (sizeM p ≤ 65536)) 13 = b at h2 ⊢
  generalize allE (fun (r : Rg) => sizeE r.size) p.regions = c at h3 ⊢
  generalize allE manyF p.funcs = d at h4 ⊢
  rcases h1 with rfl | rfl <;> rcases h2 with rfl | rfl <;> rcases h3 with rfl | rfl <;> rcases h4 with rfl | rfl <;> rfl
theorem lens_in {p : Pg} (h : lensE p = 0) : p.regions.length ≤ 16 ∧ p.funcs.length ≤ 32 := by
  have := mustE_0 (by decide) h
  simp only [Bool.and_eq_true, decide_eq_true_eq] at this
  omega
theorem allE_0 {α : Type} {q : α → Int} : ∀ {l : List α}, allE q l = 0 → ∀ a ∈ l, q a = 0
  | [], _, a, h => by cases h
  | b :: l, h0, a, h => by
    rw [allE] at h0
    obtain ⟨h1, h2⟩ := thenE_0 h0
    rcases List.mem_cons.1 h with rfl | h
    · exact h1
    · exact allE_0 h2 a h
theorem funcs_in {l : List Fc} (h : allE manyF l = 0) : ∀ f ∈ l, f.params.length + f.vars.length ≤ 64 ∧ f.rets.length ≤ 64 := fun f hf => by
  have h1 := allE_0 h f hf
  unfold manyF at h1
  have := mustE_0 (by decide) (thenE_0 h1).1
  simp only [Bool.and_eq_true, decide_eq_true_eq] at this
  omega
theorem sizeE_in {r : Rg} (h : sizeE r.size = 0) : SizeIn r := by
  have := mustE_0 (by decide) h
  simpa [SizeIn] using this
theorem boundP_0 {r : Rg} (h : 0 ≤ r.addr ∧ r.addr.tmod 8 = 0 ∧ r.addr ≤ 49152 - 8 * r.size) : boundP r = 0 := by
  unfold boundP; rw [decide_eq_true h.1, decide_eq_true h.2.2, h.2.1]; rfl
theorem boundP_14 {r : Rg} (h : ¬(0 ≤ r.addr ∧ r.addr.tmod 8 = 0 ∧ r.addr ≤ 49152 - 8 * r.size)) : boundP r = 14 := by
  unfold boundP mustE
  rw [if_neg]
  simpa [and_assoc] using h
theorem apartP_0 {r q : Rg} (h : q.addr + 8 * q.size ≤ r.addr ∨ r.addr + 8 * r.size ≤ q.addr) : apartP r q = 0 := by
  unfold apartP mustE; rw [if_pos]; simpa using h
theorem apartP_14 {r q : Rg} (h : ¬(q.addr + 8 * q.size ≤ r.addr ∨ r.addr + 8 * r.size ≤ q.addr)) : apartP r q = 14 := by
  unfold apartP mustE; rw [if_neg]; simpa using h
structure Pg.Ok3 (p : Pg) : Prop where
  ok : p.Ok2
  total : funcsNum p.funcs ≤ 2^50
theorem rmay_ok (p : Pg) (hp : p.Ok3) (H : List Blk) : ACalls Tryz.prog 12 [.agg p.cells] H (fun e H' => e = .ret (I (mayE p)) ∧ H' = H) := by
  refine acalls_tidy (acalls_of_awp Tryz.func12 rfl (by kernel_rfl) ?_)
  obtain ⟨M, hM⟩ : ∃ M, M = H ++ [.box 25 p.cells] := ⟨_, rfl⟩
  have hMp : M[H.length]? = some (.box 25 p.cells) := by rw [hM]; simp
  obtain ⟨E, hE⟩ : ∃ E, E = mayE p := ⟨_, rfl⟩
  have fin : ∀ c L, c = E → Tidy H (fun x H' => x = .ret (I E) ∧ H' = H) (.ret (I c)) (M ++ L) := fun c L hc => by rw [hM, hc, List.append_assoc]; exact tidy_same rfl ⟨rfl, rfl⟩
  have fin0 : ∀ c, c = E → Tidy H (fun x H' => x = .ret (I E) ∧ H' = H) (.ret (I c)) M := fun c hc => by have := fin c [] hc; simpa using this
  rw [← hE]
  replace hE := hE.symm
  rw [mayE, ← manyL, ← namesL, thenE_assoc, thenE_assoc, thenE_assoc, thenE_assoc] at hE
  have hpf := hp.ok.ok.funcs
  have hpr := hp.ok.ok.regions
  have csz := fun H => rsize_ok p hp.ok hp.total H
  simp only [Pg.cells] at hM hMp csz
  have hMl : Hid (M.length = H.length + 1) := ⟨by rw [hM]; simp⟩
  have hMpL := fun L => get_app_old hMp L
  refine awp_cut (fun _ => false) (fun _ => none) (fun f H' => M = H' ∧ f 1 = .bp H.length 0) (by kernel_rfl) ?_ ?_
  · simp -dsimp [hM]
  clear hM
  rintro g _ ⟨rfl, g1⟩
  -- how many
  refine awp_cut (fun _ => false) (fun _ => none) (fun f H' => M = H' ∧ f 1 = .bp H.length 0 ∧ lensE p = 0) (by kernel_rfl) ?_ ?_
  · replace hE := Hid.mk hE
    replace fin := Hid.mk fin
    replace fin0 := Hid.mk fin0
    replace hp := Hid.mk hp
    simp -dsimp [g1, hMp]
    repeat' ((with_reducible first | refine And.intro ?_ ?_ | refine guardVW_introTD (fun _ => ?_) (fun _ => ?_) | refine guardVW_introFD (fun _ => ?_) (fun _ => ?_) | refine condVW_introD (fun _ => ?_) (fun _ => ?_) | refine guardVW_introTE (fun _ => ?_) (fun _ _ _ => ?_) | refine guardVW_introFE (fun _ => ?_) (fun _ _ _ => ?_) | refine condVW_introE (fun _ => ?_) (fun _ _ _ => ?_) | refine guardVW_introTNE (fun _ _ _ => ?_) (fun _ => ?_) | refine guardVW_introFNE (fun _ _ _ => ?_) (fun _ => ?_) | refine condVW_introNE (fun _ _ _ => ?_) (fun _ => ?_) | refine guardVW_introTB (fun _ => ?_) (fun _ => ?_) | refine guardVW_introFB (fun _ => ?_) (fun _ => ?_) | refine condVW_introB (fun _ => ?_) (fun _ => ?_) | refine guardVW_introT (fun _ => ?_) (fun _ => ?_) | refine guardVW_introF (fun _ => ?_) (fun _ => ?_) | refine condVW_intro (fun _ => ?_) (fun _ => ?_) | refine acallsW_det (csz _) ?_ | refine callDW_intro (csz _) ?_) <;> simp -dsimp [g1, hMp, *])
    all_goals first
      | (unfold lensE; rw [decide_eq_true (by omega), decide_eq_true (by omega), decide_eq_true (by omega), decide_eq_true (by omega)]; rfl)
      | (refine fin0.out 13 ?_
         have h := hE.out
         have e : lensE p = 13 := by
           unfold lensE
           first
             | (rw [decide_eq_false (show ¬((p.regions.length : Int) ≤ 16) by omega)]; rfl)
             | (rw [decide_eq_false (show ¬(1 ≤ (p.funcs.length : Int)) by omega), Bool.and_false]; rfl)
             | (rw [decide_eq_false (show ¬((p.funcs.length : Int) ≤ 32) by omega), Bool.and_false]; rfl)
             | (rw [decide_eq_false (show ¬(sizeM p ≤ 65536) by omega), Bool.and_false]; rfl)
         rw [e, thenE_ne (by decide)] at h
         exact h)
      | trace_state
  clear g g1
  rintro g _ ⟨rfl, g1, hz⟩
  rw [hz, thenE_zero] at hE
  obtain ⟨h16, h32⟩ := lens_in hz
  clear hz csz
  -- regions' sizes
  refine awp_cut (fun _ => false) (fun _ => none) (fun f H' => M = H' ∧ f 1 = .bp H.length 0 ∧ allE (fun r => sizeE r.size) p.regions = 0) (by kernel_rfl) ?_ ?_
  · simp -dsimp [g1]
    refine loop_rule (hn := fun _ => false) (od := fun _ => none) (fun (i : Nat) f H' => M = H' ∧ f 1 = .bp H.length 0 ∧ f 3 = I i ∧ i ≤ p.regions.length ∧ allE (fun r => sizeE r.size) (p.regions.drop i) = allE (fun r => sizeE r.size) p.regions) (fun i => p.regions.length - i) (by kernel_rfl) 0 (by simp [g1]) ?_
    clear g g1
    rintro i g _ ⟨rfl, g1, g3, hi, hinv⟩
    simp -dsimp [g1, g3, hMp]
    refine condVW_introD (fun hlt => ?_) (fun hlt => ?_)
    · rw [allE_drop _ hlt] at hinv
      have err : sizeE p.regions[i].size = 13 → Tidy H (fun x H' => x = .ret (I E) ∧ H' = H) (.ret (I 13)) M := fun h => fin0 13 (by
        rw [h, thenE_ne (by decide)] at hinv
        rw [← hinv, thenE_ne (by decide)] at hE; exact hE)
      replace err := Hid.mk err
      replace hE := Hid.mk hE
      replace hinv := Hid.mk hinv
      replace fin := Hid.mk fin
      replace fin0 := Hid.mk fin0
      replace hp := Hid.mk hp
      have hri : p.regions[i]? = some p.regions[i] := List.getElem?_eq_getElem hlt
      simp -dsimp [g1, g3, hMp, hri]
      repeat' ((with_reducible first | refine And.intro ?_ ?_ | refine guardVW_introTD (fun _ => ?_) (fun _ => ?_) | refine guardVW_introFD (fun _ => ?_) (fun _ => ?_) | refine condVW_introD (fun _ => ?_) (fun _ => ?_) | refine guardVW_introTE (fun _ => ?_) (fun _ _ _ => ?_) | refine guardVW_introFE (fun _ => ?_) (fun _ _ _ => ?_) | refine condVW_introE (fun _ => ?_) (fun _ _ _ => ?_) | refine guardVW_introTNE (fun _ _ _ => ?_) (fun _ => ?_) | refine guardVW_introFNE (fun _ _ _ => ?_) (fun _ => ?_) | refine condVW_introNE (fun _ _ _ => ?_) (fun _ => ?_) | refine guardVW_introTB (fun _ => ?_) (fun _ => ?_) | refine guardVW_introFB (fun _ => ?_) (fun _ => ?_) | refine condVW_introB (fun _ => ?_) (fun _ => ?_) | refine guardVW_introT (fun _ => ?_) (fun _ => ?_) | refine guardVW_introF (fun _ => ?_) (fun _ => ?_) | refine condVW_intro (fun _ => ?_) (fun _ => ?_)) <;> simp -dsimp [g1, g3, hMp, hri, *])
      all_goals first
        | exact err.out (by unfold sizeE; first | (rw [decide_eq_false (show ¬(1 ≤ p.regions[i].size) by omega)]; rfl) | (rw [decide_eq_false (show ¬(p.regions[i].size ≤ 512) by omega), Bool.and_false]; rfl))
        | (have e : sizeE p.regions[i].size = 0 := by unfold sizeE; rw [decide_eq_true (by omega), decide_eq_true (by omega)]; rfl
           have hinv := hinv.out
           rw [e, thenE_zero] at hinv
           exact ⟨i + 1, by omega, wrapS (by omega), by omega, hinv⟩)
        | trace_state
    · rw [allE_end _ hlt] at hinv
      simp -dsimp [g1]
      exact hinv.symm
  clear g g1
  rintro g _ ⟨rfl, g1, hz⟩
  rw [hz, thenE_zero] at hE
  -- functions' numbers
  refine awp_cutA (fun f H' => M = H' ∧ f 1 = .bp H.length 0 ∧ allE manyF p.funcs = 0) ?_ ?_
  · refine awp_cut (fun _ => false) (fun _ => none) (fun f H' => M = H' ∧ f 1 = .bp H.length 0 ∧ f 4 = I 0) (by kernel_rfl) ?_ ?_
    · simp -dsimp [g1]
    clear g g1
    rintro g _ ⟨rfl, g1, g4⟩
    refine awp_block ?_
    refine awp_loopI (fun (i : Nat) f H' => M = H' ∧ f 1 = .bp H.length 0 ∧ f 4 = I i ∧ i ≤ p.funcs.length ∧ allE manyF (p.funcs.drop i) = allE manyF p.funcs) (fun i => p.funcs.length - i) 0 ⟨rfl, g1, g4, by omega, by simp⟩ ?_
    clear g g1 g4
    rintro i g _ ⟨rfl, g1, g4, hi, hinv⟩
    refine awp_cut (fun _ => false) (fun _ => none) (fun f H' => M = H' ∧ f 1 = .bp H.length 0 ∧ f 4 = I i ∧ i < p.funcs.length) (by kernel_rfl) ?_ ?_
    · simp -dsimp [g1, g4, hMp]
      refine condVW_introD (fun hlt => ?_) (fun hlt => ?_)
      · simp -dsimp [g1, g4]
        omega
      · rw [allE_end _ (by omega)] at hinv
        simp -dsimp [g1]
        exact hinv.symm
    clear g g1 g4
    rintro g _ ⟨rfl, g1, g4, hlt⟩
    rw [allE_drop _ hlt] at hinv
    have hpp := hp.ok.ok.params _ (List.getElem_mem hlt)
    have hpv := hp.ok.ok.vars _ (List.getElem_mem hlt)
    obtain ⟨F, hF⟩ : ∃ F, F = p.funcs[i] := ⟨_, rfl⟩
    rw [← hF] at hinv hpp hpv
    have cv := fun H => rvars_ok F hpp hpv H
    obtain ⟨vs, hvs⟩ : ∃ vs, vs = F.params ++ F.vars := ⟨_, rfl⟩
    have hvl : vs.length = F.params.length + F.vars.length := by rw [hvs]; simp
    simp only [Fc.cells] at cv
    rw [← hvs] at cv
    have err : ∀ M', M' = M → manyF F = 13 → Tidy H (fun x H' => x = .ret (I E) ∧ H' = H) (.ret (I 13)) M' := fun M' hM' h => by
      subst hM'
      refine fin0 13 ?_
      rw [h, thenE_ne (by decide)] at hinv
      rw [← hinv, thenE_ne (by decide)] at hE; exact hE
    refine awp_cutA (fun f H' => M = H' ∧ f 1 = .bp H.length 0 ∧ f 4 = I i ∧ manyF F = 0) ?_ ?_
    rotate_left
    · clear g g1 g4
      rintro g _ ⟨rfl, g1, g4, h0⟩
      rw [h0, thenE_zero] at hinv
      refine awp_all (fun _ => false) (fun _ => none) (by kernel_rfl) ?_
      simp -dsimp [g1, g4]
      exact ⟨i + 1, by omega, wrapS (by omega), by omega, hinv⟩
    refine awp_block ?_
    refine awp_cut (fun _ => false) (fun _ => none) (fun f H' => M = H' ∧ f 1 = .bp H.length 0 ∧ f 4 = I i ∧ f 5 = Vr.sl vs) (by kernel_rfl) ?_ ?_
    · simp -dsimp [g1, g4, hMp, List.getElem?_eq_getElem, hlt, ← hF]
      refine acallsW_det (cv _) ?_
      simp -dsimp [g1, g4]
    clear g g1 g4
    rintro g _ ⟨rfl, g1, g4, g5⟩
    refine awp_cut (fun _ => false) (fun _ => none) (fun f H' => M = H' ∧ f 1 = .bp H.length 0 ∧ f 4 = I i ∧ f 5 = Vr.sl vs ∧ mustE (decide ((F.params.length : Int) + F.vars.length ≤ 64) && decide ((F.rets.length : Int) ≤ 64)) 13 = 0) (by kernel_rfl) ?_ ?_
    · replace err := Hid.mk err
      replace hE := Hid.mk hE
      replace hinv := Hid.mk hinv
      replace fin := Hid.mk fin
      replace fin0 := Hid.mk fin0
      replace hp := Hid.mk hp
      replace hvs := Hid.mk hvs
      replace hvl := Hid.mk hvl
      have hfi : p.funcs[i]? = some F := by rw [hF]; exact List.getElem?_eq_getElem hlt
      have hrl : Hid (F.rets.length = p.funcs[i].rets.length) := ⟨by rw [hF]⟩
      replace hF := Hid.mk hF
      simp -dsimp [g1, g4, g5, hMp, hfi]
      repeat' ((with_reducible first | refine And.intro ?_ ?_ | refine guardVW_introTD (fun _ => ?_) (fun _ => ?_) | refine guardVW_introFD (fun _ => ?_) (fun _ => ?_) | refine condVW_introD (fun _ => ?_) (fun _ => ?_) | refine guardVW_introTE (fun _ => ?_) (fun _ _ _ => ?_) | refine guardVW_introFE (fun _ => ?_) (fun _ _ _ => ?_) | refine condVW_introE (fun _ => ?_) (fun _ _ _ => ?_) | refine guardVW_introTNE (fun _ _ _ => ?_) (fun _ => ?_) | refine guardVW_introFNE (fun _ _ _ => ?_) (fun _ => ?_) | refine condVW_introNE (fun _ _ _ => ?_) (fun _ => ?_) | refine guardVW_introTB (fun _ => ?_) (fun _ => ?_) | refine guardVW_introFB (fun _ => ?_) (fun _ => ?_) | refine condVW_introB (fun _ => ?_) (fun _ => ?_) | refine guardVW_introT (fun _ => ?_) (fun _ => ?_) | refine guardVW_introF (fun _ => ?_) (fun _ => ?_) | refine condVW_intro (fun _ => ?_) (fun _ => ?_)) <;> simp -dsimp [g1, g4, g5, hMp, hfi, *])
      all_goals have hvl := hvl.out
      all_goals have hrl := hrl.out
      all_goals first
        | exact err.out _ rfl (by unfold manyF; first | (rw [decide_eq_false (show ¬((F.params.length : Int) + F.vars.length ≤ 64) by omega)]; rfl) | (rw [decide_eq_false (show ¬((F.rets.length : Int) ≤ 64) by omega), Bool.and_false]; rfl))
        | (rw [decide_eq_true (by omega), decide_eq_true (by omega)]; rfl)
        | trace_state
    clear g g1 g4 g5
    rintro g _ ⟨rfl, g1, g4, g5, hz2⟩
    have hmf : manyF F = allE manyV vs := by rw [manyF, hz2, thenE_zero, hvs]
    clear hz2
    refine awp_all (fun _ => false) (fun _ => none) (by kernel_rfl) ?_
    simp -dsimp [g1, g4, g5]
    refine loop_rule (hn := fun _ => false) (od := fun _ => none) (fun (j : Nat) f H' => M = H' ∧ f 1 = .bp H.length 0 ∧ f 4 = I i ∧ f 5 = Vr.sl vs ∧ f 6 = I j ∧ j ≤ vs.length ∧ allE manyV (vs.drop j) = allE manyV vs) (fun j => vs.length - j) (by kernel_rfl) 0 (by simp [g1, g4, g5]) ?_
    clear g g1 g4 g5
    rintro j g _ ⟨rfl, g1, g4, g5, g6, hj, hinv2⟩
    simp -dsimp [g1, g4, g5, g6]
    refine condVW_introD (fun hjt => ?_) (fun hjt => ?_)
    · rw [allE_drop _ hjt] at hinv2
      have err2 : manyV vs[j] = 13 → Tidy H (fun x H' => x = .ret (I E) ∧ H' = H) (.ret (I 13)) M := fun h => err _ rfl (by rw [hmf, ← hinv2, h]; rfl)
      replace err := Hid.mk err
      replace err2 := Hid.mk err2
      replace hE := Hid.mk hE
      replace hinv := Hid.mk hinv
      replace hinv2 := Hid.mk hinv2
      replace fin := Hid.mk fin
      replace fin0 := Hid.mk fin0
      replace hp := Hid.mk hp
      replace hmf := Hid.mk hmf
      replace hvs := Hid.mk hvs
      replace hF := Hid.mk hF
      replace hvl := Hid.mk hvl
      clear cv
      have hvj : vs[j]? = some vs[j] := List.getElem?_eq_getElem hjt
      simp -dsimp [g1, g4, g5, g6, hvj]
      repeat' ((with_reducible first | refine And.intro ?_ ?_ | refine guardVW_introTD (fun _ => ?_) (fun _ => ?_) | refine guardVW_introFD (fun _ => ?_) (fun _ => ?_) | refine condVW_introD (fun _ => ?_) (fun _ => ?_) | refine guardVW_introTE (fun _ => ?_) (fun _ _ _ => ?_) | refine guardVW_introFE (fun _ => ?_) (fun _ _ _ => ?_) | refine condVW_introE (fun _ => ?_) (fun _ _ _ => ?_) | refine guardVW_introTNE (fun _ _ _ => ?_) (fun _ => ?_) | refine guardVW_introFNE (fun _ _ _ => ?_) (fun _ => ?_) | refine condVW_introNE (fun _ _ _ => ?_) (fun _ => ?_) | refine guardVW_introTB (fun _ => ?_) (fun _ => ?_) | refine guardVW_introFB (fun _ => ?_) (fun _ => ?_) | refine condVW_introB (fun _ => ?_) (fun _ => ?_) | refine guardVW_introT (fun _ => ?_) (fun _ => ?_) | refine guardVW_introF (fun _ => ?_) (fun _ => ?_) | refine condVW_intro (fun _ => ?_) (fun _ => ?_)) <;> simp -dsimp [g1, g4, g5, g6, hvj, *])
      all_goals have hvl := hvl.out
      all_goals first
        | (refine err2.out ?_
           unfold manyV sizeE
           rw [if_pos (by omega)]
           first | (rw [decide_eq_false (show ¬(1 ≤ vs[j].size) by omega)]; rfl) | (rw [decide_eq_false (show ¬(vs[j].size ≤ 512) by omega), Bool.and_false]; rfl))
        | (have e : manyV vs[j] = 0 := by
             unfold manyV sizeE
             first
               | (rw [if_pos (by omega), decide_eq_true (by omega), decide_eq_true (by omega)]; rfl)
               | rw [if_neg (by omega)]
           have hinv2 := hinv2.out
           rw [e, thenE_zero] at hinv2
           exact ⟨j + 1, by omega, wrapS (by omega), by omega, hinv2⟩)
        | trace_state
    · rw [allE_end _ hjt] at hinv2
      simp -dsimp [g1, g4]
      rw [hmf]; exact hinv2.symm
  clear g g1
  rintro g _ ⟨rfl, g1, hz3⟩
  rw [hz3, thenE_zero] at hE
  have hz4 := hz3
  have hsz0 : ∀ r ∈ p.regions, SizeIn r := fun r hr => sizeE_in (allE_0 hz r hr)
  clear hz hz3
  obtain ⟨rl, hrl⟩ : ∃ rl, rl = p.regions.map Rg.name := ⟨_, rfl⟩
  obtain ⟨fl, hfl⟩ : ∃ fl, fl = p.funcs.map Fc.name := ⟨_, rfl⟩
  have hrll : rl.length = p.regions.length := by rw [hrl]; simp
  have hfll : fl.length = p.funcs.length := by rw [hfl]; simp
  rw [← hrl, ← hfl] at hE
  have hMb : ∀ W, (∃ L, W = M ++ L) → W[H.length]? = some (.box 25 [Rg.sl p.regions, Fc.sl p.funcs]) := fun W hW => by obtain ⟨L, rfl⟩ := hW; exact hMpL L
  have finW : ∀ c W, (∃ L, W = M ++ L) → c = E → Tidy H (fun x H' => x = .ret (I E) ∧ H' = H) (.ret (I c)) W := fun c W hW hc => by obtain ⟨L, rfl⟩ := hW; exact fin c L hc
  have hWl : ∀ W, (∃ L, W = M ++ L) → M.length ≤ W.length := fun W hW => by obtain ⟨L, rfl⟩ := hW; simp
  clear hMpL hMp fin fin0
  refine awp_cut (fun _ => false) (fun _ => none) (fun f H' => M = H' ∧ f 1 = .bp H.length 0 ∧ f 7 = nilS) (by kernel_rfl) ?_ ?_
  · simp -dsimp [g1]
  clear g g1
  rintro g _ ⟨rfl, g1, g7⟩
  -- regions' names
  refine awp_cut (fun d => d == 167) (fun _ => none) (fun f W => (∃ L, W = M ++ L) ∧ f 1 = .bp H.length 0 ∧ OneR M.length W (f 7) rl ∧ onesL [] rl = 0) (by kernel_rfl) ?_ ?_
  · simp -dsimp [g1, g7]
    refine loop_rule (hn := fun d => d == 167) (od := fun _ => none) (fun (i : Nat) f W => (∃ L, W = M ++ L) ∧ f 1 = .bp H.length 0 ∧ f 8 = I i ∧ i ≤ p.regions.length ∧ OneR M.length W (f 7) (rl.take i) ∧ onesL (rl.take i) (rl.drop i) = onesL [] rl) (fun i => p.regions.length - i) (by kernel_rfl) 0 (by simp [g1, g7]; exact ⟨none, rfl, rfl⟩) ?_
    clear g g1 g7
    rintro i g W ⟨hW, g1, g8, hi, ⟨h, hr⟩, hinv⟩
    obtain ⟨x, g7⟩ : ∃ x, g 7 = x := ⟨_, rfl⟩
    rw [g7] at hr
    have hb := hMb W hW
    simp -dsimp [g1, g7, g8, hb]
    refine condVW_introD (fun hlt => ?_) (fun hlt => ?_)
    · have hlr : i < rl.length := by omega
      rw [drop_cons hlr, onesL] at hinv
      have hnm : rl[i] = p.regions[i].name := by subst hrl; simp
      obtain ⟨nm, hnme⟩ : ∃ nm, nm = p.regions[i].name := ⟨_, rfl⟩
      rw [hnm, ← hnme] at hinv
      have hsz := hp.ok.nok.regions _ (List.getElem_mem hlt)
      rw [← hnme] at hsz
      have cn := fun H => rname_ok nm hsz H
      have chs := rhas_row hr (by simp; omega) nm
      have err : ∀ W, (∃ L, W = M ++ L) → oneL (rl.take i) nm = 8 → Tidy H (fun x H' => x = .ret (I E) ∧ H' = H) (.ret (I 8)) W := fun W hW h8 => finW 8 W hW (by
        rw [h8, thenE_ne (by decide)] at hinv
        rw [← hinv, thenE_ne (by decide)] at hE; exact hE)
      have hri : p.regions[i]? = some p.regions[i] := List.getElem?_eq_getElem hlt
      simp -dsimp [g1, g7, g8, hb, hri, ← hnme]
      refine acallsW_det (cn _) ?_
      simp -dsimp
      unfold oneL at hinv err
      cases hnb : namedB nm
      · simp -dsimp
        exact err _ hW (by rw [hnb]; rfl)
      · simp -dsimp [g1, g7, g8, hb, hri, ← hnme]
        refine acallsW_det chs ?_
        simp -dsimp
        cases hib : inB (rl.take i) nm
        · simp -dsimp [g1, g7, g8, hb, hri, ← hnme]
          refine app_srow (ys := [nm]) hr (hWl W hW) rfl rfl (by decide) (by simp; omega) (fun h' x' W' hr' hk => ?_)
          rw [hnb, hib] at hinv
          simp only [Bool.not_false, Bool.and_self, mustE_true, thenE_zero] at hinv
          have htk : rl.take (i + 1) = rl.take i ++ [nm] := by rw [take_succ' hlr, hnm, hnme]
          simp -dsimp [g1, g7, g8]
          exact ⟨i + 1, by omega, hk.pre M rfl hW, wrapS (by omega), by omega, ⟨h', by rw [htk]; exact hr'⟩, by rw [htk]; exact hinv⟩
        · simp -dsimp
          exact err _ hW (by rw [hnb, hib]; rfl)
    · rw [drop_end (by omega), onesL] at hinv
      rw [List.take_of_length_le (by omega)] at hr
      simp -dsimp [g1, g7]
      exact ⟨hW, ⟨h, hr⟩, hinv.symm⟩
  clear g g1 g7
  rintro g W ⟨hW, g1, ⟨h, hr⟩, hz⟩
  rw [hz, thenE_zero] at hE
  clear hz
  obtain ⟨x, g7⟩ : ∃ x, g 7 = x := ⟨_, rfl⟩
  rw [g7] at hr
  -- a copy
  refine awp_cut (fun d => d == 169) (fun _ => none) (fun f W => (∃ L, W = M ++ L) ∧ f 1 = .bp H.length 0 ∧ TwoR M.length W (f 7) rl (f 9) rl) (by kernel_rfl) ?_ ?_
  · have hsrc := srcEs_row hr
    simp -dsimp [g1, g7, hsrc]
    refine app_srow (ys := rl) (l := []) (h := none) ⟨rfl, rfl⟩ (hWl W hW) rfl rfl (by decide) (by simp; omega) (fun q y W' hr' hk => ?_)
    obtain ⟨r1, r2⟩ := hk.row hr (fun j hj => by simp)
    simp -dsimp [g1, g7]
    exact ⟨hk.pre M rfl hW, ⟨h, q, r1, hr', fun j hj he => r2 j he hj⟩⟩
  clear g g1 g7 hr hW W x h
  rintro g W ⟨hW, g1, ⟨h, q, hr, hq, hap⟩⟩
  -- functions' names
  refine awp_cut (fun d => d == 203) (fun _ => none) (fun f W => (∃ L, W = M ++ L) ∧ f 1 = .bp H.length 0 ∧ OneR M.length W (f 9) rl ∧ onesL rl fl = 0) (by kernel_rfl) ?_ ?_
  · simp -dsimp [g1]
    refine loop_rule (hn := fun d => d == 203) (od := fun _ => none) (fun (i : Nat) f W => (∃ L, W = M ++ L) ∧ f 1 = .bp H.length 0 ∧ f 10 = I i ∧ i ≤ p.funcs.length ∧ TwoR M.length W (f 7) (rl ++ fl.take i) (f 9) rl ∧ onesL (rl ++ fl.take i) (fl.drop i) = onesL rl fl) (fun i => p.funcs.length - i) (by kernel_rfl) 0 (by simp [g1]; exact ⟨hW, ⟨h, q, hr, hq, hap⟩⟩) ?_
    clear g g1 hr hq hap hW W h q
    rintro i g W ⟨hW, g1, g10, hi, ⟨h, q, hr, hq, hap⟩, hinv⟩
    obtain ⟨x, g7⟩ : ∃ x, g 7 = x := ⟨_, rfl⟩
    obtain ⟨y, g9⟩ : ∃ y, g 9 = y := ⟨_, rfl⟩
    rw [g7] at hr
    rw [g9] at hq
    have hb := hMb W hW
    simp -dsimp [g1, g7, g9, g10, hb]
    refine condVW_introD (fun hlt => ?_) (fun hlt => ?_)
    · have hlr : i < fl.length := by omega
      rw [drop_cons hlr, onesL] at hinv
      have hnm : fl[i] = p.funcs[i].name := by subst hfl; simp
      obtain ⟨nm, hnme⟩ : ∃ nm, nm = p.funcs[i].name := ⟨_, rfl⟩
      rw [hnm, ← hnme] at hinv
      have hsz := (hp.ok.nok.funcs _ (List.getElem_mem hlt)).1
      rw [← hnme] at hsz
      have cn := fun H => rname_ok nm hsz H
      have chs := rhas_row hr (by simp; omega) nm
      have err : ∀ W, (∃ L, W = M ++ L) → oneL (rl ++ fl.take i) nm = 8 → Tidy H (fun x H' => x = .ret (I E) ∧ H' = H) (.ret (I 8)) W := fun W hW h8 => finW 8 W hW (by
        rw [h8, thenE_ne (by decide)] at hinv
        rw [← hinv, thenE_ne (by decide)] at hE; exact hE)
      have hri : p.funcs[i]? = some p.funcs[i] := List.getElem?_eq_getElem hlt
      simp -dsimp [g1, g7, g9, g10, hb, hri, ← hnme]
      refine acallsW_det (cn _) ?_
      simp -dsimp
      unfold oneL at hinv err
      cases hnb : namedB nm
      · simp -dsimp
        exact err _ hW (by rw [hnb]; rfl)
      · simp -dsimp [g1, g7, g9, g10, hb, hri, ← hnme]
        refine acallsW_det chs ?_
        simp -dsimp
        cases hib : inB (rl ++ fl.take i) nm
        · simp -dsimp [g1, g7, g9, g10, hb, hri, ← hnme]
          refine app_srow (ys := [nm]) hr (hWl W hW) rfl rfl (by decide) (by simp; omega) (fun h' x' W' hr' hk => ?_)
          rw [hnb, hib] at hinv
          simp only [Bool.not_false, Bool.and_self, mustE_true, thenE_zero] at hinv
          have htk : rl ++ fl.take (i + 1) = rl ++ fl.take i ++ [nm] := by rw [take_succ' hlr, hnm, hnme, List.append_assoc]
          obtain ⟨r1, r2⟩ := hk.row hq hap
          simp -dsimp [g1, g7, g9, g10]
          exact ⟨i + 1, by omega, hk.pre M rfl hW, wrapS (by omega), by omega, ⟨h', q, by rw [htk]; exact hr', r1, r2⟩, by rw [htk]; exact hinv⟩
        · simp -dsimp
          exact err _ hW (by rw [hnb, hib]; rfl)
    · rw [drop_end (by omega), onesL] at hinv
      simp -dsimp [g1, g9]
      exact ⟨hW, ⟨q, hq⟩, hinv.symm⟩
  clear g g1 hr hq hap hW W h q
  rintro g W ⟨hW, g1, ⟨q, hq⟩, hz⟩
  rw [hz, thenE_zero] at hE
  clear hz
  -- variables' names
  obtain ⟨y, hy⟩ : ∃ y, g 9 = y := ⟨_, rfl⟩
  rw [hy] at hq
  refine awp_cutA (fun f W => (∃ L, W = M ++ L) ∧ f 1 = .bp H.length 0 ∧ allE (nameL rl) p.funcs = 0) ?_ ?_
  · refine awp_cut (fun _ => false) (fun _ => none) (fun f W => (∃ L, W = M ++ L) ∧ f 1 = .bp H.length 0 ∧ OneR M.length W (f 9) rl ∧ f 11 = I 0) (by kernel_rfl) ?_ ?_
    · simp -dsimp [g1, hy]
      exact ⟨hW, q, hq⟩
    clear g g1 hy hq hW W y q
    rintro g W ⟨hW, g1, hq, g11⟩
    refine awp_block ?_
    refine awp_loopI (fun (i : Nat) f W => (∃ L, W = M ++ L) ∧ f 1 = .bp H.length 0 ∧ OneR M.length W (f 9) rl ∧ f 11 = I i ∧ i ≤ p.funcs.length ∧ allE (nameL rl) (p.funcs.drop i) = allE (nameL rl) p.funcs) (fun i => p.funcs.length - i) 0 ⟨hW, g1, hq, g11, by omega, by simp⟩ ?_
    clear g g1 g11 hq hW W
    rintro i g W ⟨hW, g1, hq, g11, hi, hinv⟩
    refine awp_cut (fun _ => false) (fun _ => none) (fun f W => (∃ L, W = M ++ L) ∧ f 1 = .bp H.length 0 ∧ OneR M.length W (f 9) rl ∧ f 11 = I i ∧ i < p.funcs.length) (by kernel_rfl) ?_ ?_
    · have hb := hMb W hW
      simp -dsimp [g1, g11, hb]
      refine condVW_introD (fun hlt => ?_) (fun hlt => ?_)
      · simp -dsimp [g1, g11]
        exact ⟨hW, hq, by omega⟩
      · rw [allE_end _ (by omega)] at hinv
        simp -dsimp [g1]
        exact ⟨hW, hinv.symm⟩
    clear g g1 g11 hq hW W
    rintro g W ⟨hW, g1, hq, g11, hlt⟩
    rw [allE_drop _ hlt] at hinv
    have hpp := hp.ok.ok.params _ (List.getElem_mem hlt)
    have hpv := hp.ok.ok.vars _ (List.getElem_mem hlt)
    obtain ⟨_, hnv, hnr⟩ := hp.ok.nok.funcs _ (List.getElem_mem hlt)
    have hfb := funcs_in hz4 _ (List.getElem_mem hlt)
    have hfi : p.funcs[i]? = some p.funcs[i] := List.getElem?_eq_getElem hlt
    obtain ⟨F, hF⟩ : ∃ F, F = p.funcs[i] := ⟨_, rfl⟩
    rw [← hF] at hinv hpp hpv hnv hnr hfb hfi
    clear hF
    have cv := fun H => rvars_ok F hpp hpv H
    obtain ⟨vs, hvs⟩ : ∃ vs, vs = F.params ++ F.vars := ⟨_, rfl⟩
    have hvl : vs.length ≤ 64 := by rw [hvs, List.length_append]; omega
    simp only [Fc.cells] at cv
    rw [← hvs] at cv hnv
    obtain ⟨ns, hns⟩ : ∃ ns, ns = vs.map Vr.name := ⟨_, rfl⟩
    have hnl : ns.length = vs.length := by rw [hns]; simp
    have hnF : nameL rl F = thenE (onesL rl ns) (retsL (wordsV vs) [] F.rets) := by rw [nameL, ← hvs, hns]
    rw [hnF] at hinv
    have errE : ∀ c W, c ≠ 0 → (∃ L, W = M ++ L) → thenE (onesL rl ns) (retsL (wordsV vs) [] F.rets) = c → Tidy H (fun x H' => x = .ret (I E) ∧ H' = H) (.ret (I c)) W := fun c W hc hW h => finW c W hW (by
      rw [h, thenE_ne hc] at hinv
      rw [← hinv, thenE_ne hc] at hE; exact hE)
    refine awp_cutA (fun f W => (∃ L, W = M ++ L) ∧ f 1 = .bp H.length 0 ∧ OneR M.length W (f 9) rl ∧ f 11 = I i ∧ thenE (onesL rl ns) (retsL (wordsV vs) [] F.rets) = 0) ?_ ?_
    rotate_left
    · clear g g1 g11 hq hW W
      rintro g W ⟨hW, g1, hq, g11, h0⟩
      rw [h0, thenE_zero] at hinv
      obtain ⟨y, hy⟩ : ∃ y, g 9 = y := ⟨_, rfl⟩
      refine awp_all (fun _ => false) (fun _ => none) (by kernel_rfl) ?_
      simp -dsimp [g1, g11]
      exact ⟨i + 1, by omega, hW, hq, wrapS (by omega), by omega, hinv⟩
    refine awp_block ?_
    refine awp_cut (fun _ => false) (fun _ => none) (fun f W => (∃ L, W = M ++ L) ∧ f 1 = .bp H.length 0 ∧ OneR M.length W (f 9) rl ∧ f 11 = I i ∧ f 12 = Vr.sl vs) (by kernel_rfl) ?_ ?_
    · have hb := hMb W hW
      simp -dsimp [g1, g11, hb, hfi]
      refine acallsW_det (cv _) ?_
      simp -dsimp [g1, g11]
      exact ⟨hW, hq⟩
    clear g g1 g11 hq hW W cv
    rintro g W ⟨hW, g1, ⟨q, hq⟩, g11, g12⟩
    obtain ⟨y, hy⟩ : ∃ y, g 9 = y := ⟨_, rfl⟩
    rw [hy] at hq
    refine awp_cut (fun d => d == 218) (fun _ => none) (fun f W => (∃ L, W = M ++ L) ∧ f 1 = .bp H.length 0 ∧ TwoR M.length W (f 9) rl (f 13) rl ∧ f 11 = I i ∧ f 12 = Vr.sl vs) (by kernel_rfl) ?_ ?_
    · have hsrc := srcEs_row hq
      simp -dsimp [g1, g11, g12, hy, hsrc]
      refine app_srow (ys := rl) (l := []) (h := none) ⟨rfl, rfl⟩ (hWl W hW) rfl rfl (by decide) (by simp; omega) (fun h y' W' hr' hk => ?_)
      obtain ⟨r1, r2⟩ := hk.row hq (fun j hj => by simp)
      simp -dsimp [g1, g11, g12, hy]
      exact ⟨hk.pre M rfl hW, q, h, r1, hr', fun j hj he => r2 j he hj⟩
    clear g g1 g11 g12 hy hq hW W y q
    rintro g W ⟨hW, g1, ⟨q, h, hq, hh, hap⟩, g11, g12⟩
    obtain ⟨y, hy⟩ : ∃ y, g 9 = y := ⟨_, rfl⟩
    obtain ⟨u, hu⟩ : ∃ u, g 13 = u := ⟨_, rfl⟩
    rw [hy] at hq
    rw [hu] at hh
    refine awp_cut (fun _ => false) (fun _ => none) (fun f W => (∃ L, W = M ++ L) ∧ f 1 = .bp H.length 0 ∧ ThreeR M.length W (f 9) rl (f 13) rl (f 14) [] ∧ f 11 = I i ∧ f 12 = Vr.sl vs) (by kernel_rfl) ?_ ?_
    · simp -dsimp [g1, g11, g12, hy, hu]
      exact ⟨hW, ⟨q, h, none, hq, hh, ⟨rfl, rfl⟩, hap, nofun, nofun⟩⟩
    clear g g1 g11 g12 hy hu hq hh hap hW W y u q h
    rintro g W ⟨hW, g1, h3, g11, g12⟩
    refine awp_cut (fun d => d == 248 || d == 262) (fun _ => none) (fun f W => (∃ L, W = M ++ L) ∧ f 1 = .bp H.length 0 ∧ TwoR M.length W (f 9) rl (f 14) (wordsV vs) ∧ f 11 = I i ∧ onesL rl ns = 0) (by kernel_rfl) ?_ ?_
    · simp -dsimp [g1, g11, g12]
      refine loop_rule (hn := fun d => d == 248 || d == 262) (od := fun _ => none) (fun (j : Nat) f W => (∃ L, W = M ++ L) ∧ f 1 = .bp H.length 0 ∧ ThreeR M.length W (f 9) rl (f 13) (rl ++ ns.take j) (f 14) (wordsV (vs.take j)) ∧ f 11 = I i ∧ f 12 = Vr.sl vs ∧ f 15 = I j ∧ j ≤ vs.length ∧ onesL (rl ++ ns.take j) (ns.drop j) = onesL rl ns) (fun j => vs.length - j) (by kernel_rfl) 0 (by simp [g1, g11, g12, wordsV]; exact ⟨hW, h3⟩) ?_
      clear g g1 g11 g12 h3 hW W
      rintro j g W ⟨hW, g1, ⟨q, h, r, hq, hh, hr, a1, a2, a3⟩, g11, g12, g15, hj, hinv2⟩
      obtain ⟨y, hy⟩ : ∃ y, g 9 = y := ⟨_, rfl⟩
      obtain ⟨u, hu⟩ : ∃ u, g 13 = u := ⟨_, rfl⟩
      obtain ⟨v, hv⟩ : ∃ v, g 14 = v := ⟨_, rfl⟩
      rw [hy] at hq
      rw [hu] at hh
      rw [hv] at hr
      simp -dsimp [g1, g11, g12, g15, hy, hu, hv]
      refine condVW_introD (fun hjt => ?_) (fun hjt => ?_)
      · have hlr : j < ns.length := by omega
        rw [drop_cons hlr, onesL] at hinv2
        have hnm : ns[j] = vs[j].name := by subst hns; simp
        have hsz := hnv _ (List.getElem_mem hjt)
        have hvj : vs[j]? = some vs[j] := List.getElem?_eq_getElem hjt
        have hwv : wordsV (vs.take (j + 1)) = if vs[j].kind == 1 then wordsV (vs.take j) ++ [vs[j].name] else wordsV (vs.take j) := by
          rw [take_succ' hjt]
          unfold wordsV
          rw [List.filter_append, List.map_append]
          by_cases e : (vs[j].kind == 1) = true
          · rw [if_pos e]; simp [List.filter_cons, e]
          · rw [if_neg e]; simp [List.filter_cons, e]
        obtain ⟨V, hV⟩ : ∃ V, V = vs[j] := ⟨_, rfl⟩
        rw [← hV] at hnm hsz hvj hwv
        rw [hnm] at hinv2
        have cn := fun H => rname_ok V.name hsz H
        have hlen1 : (rl ++ ns.take j).length ≤ 2^20 := by simp; omega
        have hlen2 : (wordsV (vs.take j)).length ≤ 2^20 := by
          have : (wordsV (vs.take j)).length ≤ (vs.take j).length := by unfold wordsV; rw [List.length_map]; exact List.length_filter_le _ _
          have h2 : (vs.take j).length ≤ vs.length := by rw [List.length_take]; omega
          omega
        have chs := rhas_row hh (by omega) V.name
        have err : ∀ W, (∃ L, W = M ++ L) → oneL (rl ++ ns.take j) V.name = 8 → Tidy H (fun x H' => x = .ret (I E) ∧ H' = H) (.ret (I 8)) W := fun W hW h8 => errE 8 W (by decide) hW (by
          rw [← hinv2, h8]; rfl)
        simp -dsimp [g1, g11, g12, g15, hy, hu, hv, hvj]
        refine acallsW_det (cn _) ?_
        simp -dsimp
        unfold oneL at hinv2 err
        cases hnb : namedB V.name
        · simp -dsimp
          exact err _ hW (by rw [hnb]; rfl)
        · simp -dsimp [g1, g11, g12, g15, hy, hu, hv, hvj]
          refine acallsW_det chs ?_
          simp -dsimp
          cases hib : inB (rl ++ ns.take j) V.name
          · simp -dsimp [g1, g11, g12, g15, hy, hu, hv, hvj]
            refine app_srow (ys := [V.name]) hh (hWl W hW) rfl rfl (by decide) (by simp only [List.length_cons, List.length_nil]; omega) (fun h' x' W' hr' hk => ?_)
            rw [hnb, hib] at hinv2
            simp only [Bool.not_false, Bool.and_self, mustE_true, thenE_zero] at hinv2
            have htk : rl ++ ns.take (j + 1) = rl ++ ns.take j ++ [V.name] := by rw [take_succ' hlr, hnm, List.append_assoc]
            obtain ⟨b1, b2⟩ := hk.row hq (fun j hj he => a1 j he hj)
            obtain ⟨b3, b4⟩ := hk.row hr a3
            have hW' := hk.pre M rfl hW
            simp -dsimp [g1, g11, g12, g15, hy, hu, hv, hvj]
            refine condVW_introE (fun hk1 => ?_) (fun hk1 hk1b _ => ?_)
            · simp -dsimp [g1, g11, g12, g15, hy, hu, hv, hvj]
              refine app_srow (ys := [V.name]) b3 (hWl W' hW') rfl rfl (by decide) (by simp only [List.length_cons, List.length_nil]; omega) (fun r' x'' W'' hr'' hk2 => ?_)
              obtain ⟨c1, c2⟩ := hk2.row b1 (fun j hj he => a2 j he hj)
              obtain ⟨c3, c4⟩ := hk2.row hr' (fun j hj he => b4 j he hj)
              rw [if_pos (by simpa using hk1)] at hwv
              simp -dsimp [g1, g11, g12, g15, hy]
              exact ⟨j + 1, by omega, hk2.pre M rfl hW', ⟨q, h', r', c1, by rw [htk]; exact c3, by rw [hwv]; exact hr'', fun j hj he => b2 j he hj, fun j hj he => c2 j he hj, fun j hj he => c4 j he hj⟩, wrapS (by omega), by omega, by rw [htk]; exact hinv2⟩
            · rw [if_neg (by simpa using hk1)] at hwv
              simp -dsimp [g1, g11, g12, g15, hy, hv]
              exact ⟨j + 1, by omega, hW', ⟨q, h', r, b1, by rw [htk]; exact hr', by rw [hwv]; exact b3, fun j hj he => b2 j he hj, a2, b4⟩, wrapS (by omega), by omega, by rw [htk]; exact hinv2⟩
          · simp -dsimp
            exact err _ hW (by rw [hnb, hib]; rfl)
      · rw [drop_end (by omega), onesL] at hinv2
        rw [List.take_of_length_le (by omega)] at hr
        simp -dsimp [g1, g11, hy, hv]
        exact ⟨hW, ⟨q, r, hq, hr, a2⟩, hinv2.symm⟩
    clear g g1 g11 g12 h3 hW W
    rintro g W ⟨hW, g1, h2, g11, hz5⟩
    simp only [hz5, thenE_zero] at hnF hinv errE ⊢
    obtain ⟨q, r, hq, hr, hap⟩ := h2
    obtain ⟨y, hy⟩ : ∃ y, g 9 = y := ⟨_, rfl⟩
    obtain ⟨v, hv⟩ : ∃ v, g 14 = v := ⟨_, rfl⟩
    rw [hy] at hq
    rw [hv] at hr
    have hwl : (wordsV vs).length ≤ 2^20 := by
      have : (wordsV vs).length ≤ vs.length := by unfold wordsV; rw [List.length_map]; exact List.length_filter_le _ _
      omega
    have hb := hMb W hW
    refine awp_all (fun _ => false) (fun _ => none) (by kernel_rfl) ?_
    simp -dsimp [g1, g11, hy, hv]
    refine loop_rule (hn := fun _ => false) (od := fun _ => none) (fun (j : Nat) f W' => W = W' ∧ f 1 = .bp H.length 0 ∧ f 9 = y ∧ f 14 = v ∧ f 11 = I i ∧ f 16 = I j ∧ j ≤ F.rets.length ∧ retsL (wordsV vs) (F.rets.take j) (F.rets.drop j) = retsL (wordsV vs) [] F.rets) (fun j => F.rets.length - j) (by kernel_rfl) 0 (by simp [g1, g11, hy, hv]) ?_
    clear g g1 g11 hy hv
    rintro j g _ ⟨rfl, g1, hy, hv, g11, g16, hj, hinv2⟩
    simp -dsimp [g1, g11, g16, hy, hv, hb, hfi]
    refine condVW_introD (fun hjt => ?_) (fun hjt => ?_)
    · rw [drop_cons hjt, retsL] at hinv2
      obtain ⟨nm, hnm⟩ : ∃ nm, nm = F.rets[j] := ⟨_, rfl⟩
      have hrj : F.rets[j]? = some nm := by rw [hnm]; exact List.getElem?_eq_getElem hjt
      rw [← hnm] at hinv2
      have chs := rhas_row hr (by omega) nm
      have cc := fun H => rhas_ok (F.rets.take j) nm (by simp; omega) H
      simp only [St.sl, List.map_take] at cc
      have hile : j ≤ F.rets.length := hj
      have err : mustE (inB (wordsV vs) nm && !inB (F.rets.take j) nm) 8 = 8 → Tidy H (fun x H' => x = .ret (I E) ∧ H' = H) (.ret (I 8)) W := fun h8 => errE 8 W (by decide) hW (by rw [← hinv2, h8]; rfl)
      simp -dsimp [g1, g11, g16, hy, hv, hb, hfi, hrj]
      refine callDW_intro chs ?_
      simp -dsimp
      cases hib : inB (wordsV vs) nm
      · simp -dsimp
        exact err (by rw [hib]; rfl)
      · simp -dsimp [g1, g11, g16, hy, hv, hb, hfi, hrj, hile]
        refine callDW_intro (cc _) ?_
        simp -dsimp
        cases hdb : inB (F.rets.take j) nm
        · have hdb2 : ((F.rets.take j).any fun x => decide (nm = x)) = false := hdb
          rw [hib, hdb] at hinv2
          simp only [Bool.not_false, Bool.and_self, mustE_true, thenE_zero] at hinv2
          rw [hdb2]
          simp -dsimp [g1, g11, g16, hy, hv]
          exact ⟨j + 1, by omega, wrapS (by omega), by omega, by rw [take_succ' hjt, ← hnm]; exact hinv2⟩
        · have hdb2 : ((F.rets.take j).any fun x => decide (nm = x)) = true := hdb
          rw [hdb2]
          simp -dsimp
          exact err (by rw [hib, hdb]; rfl)
    · rw [drop_end hjt, retsL] at hinv2
      simp -dsimp [g1, g11, hy]
      exact ⟨hW, ⟨q, hq⟩, hinv2.symm⟩
  clear g g1 hy hq hW W y q
  rintro g W ⟨hW, g1, hz6⟩
  rw [hz6, thenE_zero] at hE
  -- where regions lie
  refine awp_cutA (fun f W => (∃ L, W = M ++ L) ∧ f 1 = .bp H.length 0 ∧ boundsE [] p.regions = 0) ?_ ?_
  · refine awp_cut (fun _ => false) (fun _ => none) (fun f W => (∃ L, W = M ++ L) ∧ f 1 = .bp H.length 0 ∧ f 17 = I 0) (by kernel_rfl) ?_ ?_
    · simp -dsimp [g1]
      exact hW
    clear g g1 hW W
    rintro g W ⟨hW, g1, g17⟩
    refine awp_block ?_
    refine awp_loopI (fun (i : Nat) f W => (∃ L, W = M ++ L) ∧ f 1 = .bp H.length 0 ∧ f 17 = I i ∧ i ≤ p.regions.length ∧ boundsE (p.regions.take i) (p.regions.drop i) = boundsE [] p.regions ∧ (∀ r ∈ p.regions.take i, 0 ≤ r.addr ∧ r.addr ≤ 49152)) (fun i => p.regions.length - i) 0 ⟨hW, g1, g17, by omega, by simp, by simp⟩ ?_
    clear g g1 g17 hW W
    rintro i g W ⟨hW, g1, g17, hi, hinv, hin⟩
    refine awp_cut (fun _ => false) (fun _ => none) (fun f W => (∃ L, W = M ++ L) ∧ f 1 = .bp H.length 0 ∧ f 17 = I i ∧ i < p.regions.length) (by kernel_rfl) ?_ ?_
    · have hb := hMb W hW
      simp -dsimp [g1, g17, hb]
      refine condVW_introD (fun hlt => ?_) (fun hlt => ?_)
      · simp -dsimp [g1, g17]
        exact ⟨hW, by omega⟩
      · rw [drop_end (by omega), boundsE] at hinv
        simp -dsimp [g1]
        exact ⟨hW, hinv.symm⟩
    clear g g1 g17 hW W
    rintro g W ⟨hW, g1, g17, hlt⟩
    rw [drop_cons hlt, boundsE] at hinv
    obtain ⟨hs1, hs2⟩ := hsz0 _ (List.getElem_mem hlt)
    have hri : p.regions[i]? = some p.regions[i] := List.getElem?_eq_getElem hlt
    have htk := take_succ' hlt
    obtain ⟨r, hr⟩ : ∃ r, r = p.regions[i] := ⟨_, rfl⟩
    rw [← hr] at hinv hs1 hs2 hri htk
    clear hr
    have errE : ∀ W, (∃ L, W = M ++ L) → boundsE [] p.regions = 14 → Tidy H (fun x H' => x = .ret (I E) ∧ H' = H) (.ret (I 14)) W := fun W hW h => finW 14 W hW (by rw [h, thenE_ne (by decide)] at hE; exact hE)
    refine awp_cutA (fun f W => (∃ L, W = M ++ L) ∧ f 1 = .bp H.length 0 ∧ f 17 = I i ∧ boundsE (p.regions.take (i + 1)) (p.regions.drop (i + 1)) = boundsE [] p.regions ∧ 0 ≤ r.addr ∧ r.addr ≤ 49152) ?_ ?_
    rotate_left
    · clear g g1 g17 hW W
      rintro g W ⟨hW, g1, g17, h0, h1, h2⟩
      refine awp_all (fun _ => false) (fun _ => none) (by kernel_rfl) ?_
      simp -dsimp [g1, g17]
      refine ⟨i + 1, by omega, hW, wrapS (by omega), by omega, h0, fun q hq => ?_⟩
      rw [htk] at hq
      rcases List.mem_append.1 hq with hq | hq
      · exact hin q hq
      · obtain rfl := List.mem_singleton.1 hq; exact ⟨h1, h2⟩
    refine awp_block ?_
    obtain ⟨V, hV⟩ : ∃ V, V = W ++ [.box 103 r.cells] := ⟨_, rfl⟩
    refine awp_cut (fun _ => false) (fun _ => none) (fun f W' => V = W' ∧ f 1 = .bp H.length 0 ∧ f 17 = I i ∧ f 18 = .bp W.length 0) (by kernel_rfl) ?_ ?_
    · have hb := hMb W hW
      simp -dsimp [g1, g17, hb, hri, hV]
    clear g g1 g17
    rintro g _ ⟨rfl, g1, g17, g18⟩
    have hVr : ∀ L, (V ++ L)[W.length]? = some (.box 103 r.cells) := fun L => by rw [hV]; simp
    have hVr0 : V[W.length]? = some (.box 103 r.cells) := by rw [hV]; simp
    have hVW : ∀ L, ∃ L', V ++ L = M ++ L' := fun L => by obtain ⟨L1, rfl⟩ := hW; rw [hV]; exact ⟨L1 ++ ([.box 103 r.cells] ++ L), by simp⟩
    have hVW0 : ∃ L', V = M ++ L' := by have := hVW []; simpa using this
    obtain ⟨w, hw⟩ : ∃ w, w = W.length := ⟨_, rfl⟩
    rw [← hw] at g18 hVr hVr0
    clear hV hW hw
    have w1 : IntKind.i64.wrap (8 * r.size) = 8 * r.size := wrapI (by omega) (by omega)
    refine awp_cut (fun _ => false) (fun _ => none) (fun f W' => V = W' ∧ f 1 = .bp H.length 0 ∧ f 17 = I i ∧ f 18 = .bp w 0 ∧ boundP r = 0 ∧ 0 ≤ r.addr ∧ r.addr ≤ 49152 - 8 * r.size) (by kernel_rfl) ?_ ?_
    · have w5 : 0 ≤ r.addr → r.addr ≤ 49152 → IntKind.i64.wrap (r.addr + 8 * r.size) = r.addr + 8 * r.size := fun h1 h2 => wrapI (by omega) (by omega)
      have err : boundP r = 14 → Tidy H (fun x H' => x = .ret (I E) ∧ H' = H) (.ret (I 14)) V := fun h => errE V hVW0 (by rw [← hinv, h]; rfl)
      replace hE := Hid.mk hE
      replace hinv := Hid.mk hinv
      replace hin := Hid.mk hin
      replace hp := Hid.mk hp
      replace hsz0 := Hid.mk hsz0
      replace hz4 := Hid.mk hz4
      replace err := Hid.mk err
      replace errE := Hid.mk errE
      replace finW := Hid.mk finW
      replace hWl := Hid.mk hWl
      replace hMb := Hid.mk hMb
      replace hrl := Hid.mk hrl
      replace hfl := Hid.mk hfl
      replace htk := Hid.mk htk
      replace hVW := Hid.mk hVW
      replace hVW0 := Hid.mk hVW0
      simp only [Rg.cells] at hVr0 hVr
      simp -dsimp [g1, g17, g18, hVr0, w1]
      refine guardVW_introFD (fun h1 => ?_) (fun h1 => ?_)
      · simp -dsimp [g1, g17, g18, hVr0, w1, h1]
        exact err.out (boundP_14 (by omega))
      simp -dsimp [g1, g17, g18, hVr0, w1, h1]
      refine guardVW_introFD (fun h2 => ?_) (fun h2 => ?_)
      · simp -dsimp [g1, g17, g18, hVr0, w1, h1, h2]
        exact err.out (boundP_14 (by omega))
      have w6 := w5 (by omega) (by omega)
      simp -dsimp [g1, g17, g18, hVr0, w1, h1, h2, w6]
      refine guardVW_introFNE (fun h3 h3a h3b => ?_) (fun h3 => ?_)
      · simp -dsimp [g1, g17, g18, hVr0, w1, w6, h1, h2, h3a, h3b]
        exact err.out (boundP_14 (by omega))
      simp -dsimp [g1, g17, g18, hVr0, w1, w6, h1, h2, h3]
      refine condVW_introD (fun h4 => ?_) (fun h4 => ?_)
      · simp -dsimp
        exact err.out (boundP_14 (by omega))
      · simp -dsimp [g1, g17, g18]
        exact ⟨boundP_0 (by omega), by omega, by omega⟩
    clear g g1 g17 g18
    rintro g _ ⟨rfl, g1, g17, g18, hb0, ha1, ha2⟩
    rw [hb0, thenE_zero] at hinv
    clear hb0
    have w5 : IntKind.i64.wrap (r.addr + 8 * r.size) = r.addr + 8 * r.size := wrapI (by omega) (by omega)
    simp only [Rg.cells] at hVr0 hVr
    have hVb : ∀ L, (V ++ L)[H.length]? = some (.box 25 [Rg.sl p.regions, Fc.sl p.funcs]) := fun L => hMb _ (hVW L)
    refine awp_all (fun _ => false) (fun _ => none) (by kernel_rfl) ?_
    simp -dsimp [g1, g17, g18]
    refine loop_rule (hn := fun _ => false) (od := fun _ => none) (fun (k : Nat) f W' => (∃ L, W' = V ++ L) ∧ f 1 = .bp H.length 0 ∧ f 17 = I i ∧ f 18 = .bp w 0 ∧ f 19 = I k ∧ k ≤ i ∧ allE (apartP r) ((p.regions.take i).drop k) = allE (apartP r) (p.regions.take i)) (fun k => i - k) (by kernel_rfl) 0 (by simp [g1, g17, g18]) ?_
    clear g g1 g17 g18
    rintro k g _ ⟨⟨L2, rfl⟩, g1, g17, g18, g19, hk, hinv2⟩
    have hlt2 : (p.regions.take i).length = i := by rw [List.length_take]; omega
    simp -dsimp [g1, g17, g18, g19]
    refine condVW_introD (fun hkt => ?_) (fun hkt => ?_)
    · have hkl : k < (p.regions.take i).length := by omega
      rw [allE_drop _ hkl] at hinv2
      have hqk : (p.regions.take i)[k] = p.regions[k]'(by omega) := List.getElem_take
      obtain ⟨q, hq⟩ : ∃ q, q = (p.regions.take i)[k] := ⟨_, rfl⟩
      have hqm : q ∈ p.regions.take i := by rw [hq]; exact List.getElem_mem _
      obtain ⟨hq1, hq2⟩ := hin q hqm
      obtain ⟨hq3, hq4⟩ := hsz0 q (List.mem_of_mem_take hqm)
      have hqe : p.regions[k]? = some q := by rw [hq, hqk]; exact List.getElem?_eq_getElem (by omega)
      rw [← hq] at hinv2
      clear hq hqk
      have w3 : IntKind.i64.wrap (8 * q.size) = 8 * q.size := wrapI (by omega) (by omega)
      have w4 : IntKind.i64.wrap (q.addr + 8 * q.size) = q.addr + 8 * q.size := wrapI (by omega) (by omega)
      have err : ∀ L, apartP r q = 14 → Tidy H (fun x H' => x = .ret (I E) ∧ H' = H) (.ret (I 14)) (V ++ L) := fun L h => errE _ (hVW L) (by rw [← hinv, ← hinv2, h]; rfl)
      simp -dsimp [g1, g17, g18, g19, hVb, hqe, hVr, w1, w3, w4, w5]
      refine guardVW_introTD (fun h1 => ?_) (fun h1 => ?_)
      · simp -dsimp [g1, g17, g18, g19, hVb, hqe, hVr, w1, w3, w4, w5, h1]
        refine condVW_introD (fun h2 => ?_) (fun h2 => ?_)
        · simp -dsimp
          exact err _ (apartP_14 (by omega))
        · simp -dsimp [g1, g17, g18, g19]
          rw [apartP_0 (by omega), thenE_zero] at hinv2
          exact ⟨k + 1, by omega, wrapS (by omega), by omega, hinv2⟩
      · simp -dsimp [g1, g17, g18, g19, h1]
        rw [apartP_0 (by omega), thenE_zero] at hinv2
        exact ⟨k + 1, by omega, wrapS (by omega), by omega, hinv2⟩
    · rw [allE_end _ (by omega)] at hinv2
      rw [← hinv2, thenE_zero] at hinv
      simp -dsimp [g1, g17]
      exact ⟨hVW L2, by rw [htk]; exact hinv, by omega, by omega⟩
  clear g g1 hW W
  rintro g W ⟨hW, g1, hz7⟩
  rw [hz7, thenE_zero] at hE
  clear hz7
  -- variables' kinds
  refine awp_cutA (fun f W => (∃ L, W = M ++ L) ∧ f 1 = .bp H.length 0 ∧ allE kindsE p.funcs = 0) ?_ ?_
  · refine awp_cut (fun _ => false) (fun _ => none) (fun f W => (∃ L, W = M ++ L) ∧ f 1 = .bp H.length 0 ∧ f 21 = I 0) (by kernel_rfl) ?_ ?_
    · simp -dsimp [g1]
      exact hW
    clear g g1 hW W
    rintro g W ⟨hW, g1, g21⟩
    refine awp_block ?_
    refine awp_loopI (fun (i : Nat) f W => (∃ L, W = M ++ L) ∧ f 1 = .bp H.length 0 ∧ f 21 = I i ∧ i ≤ p.funcs.length ∧ allE kindsE (p.funcs.drop i) = allE kindsE p.funcs) (fun i => p.funcs.length - i) 0 ⟨hW, g1, g21, by omega, by simp⟩ ?_
    clear g g1 g21 hW W
    rintro i g W ⟨hW, g1, g21, hi, hinv⟩
    refine awp_cut (fun _ => false) (fun _ => none) (fun f W => (∃ L, W = M ++ L) ∧ f 1 = .bp H.length 0 ∧ f 21 = I i ∧ i < p.funcs.length) (by kernel_rfl) ?_ ?_
    · have hb := hMb W hW
      simp -dsimp [g1, g21, hb]
      refine condVW_introD (fun hlt => ?_) (fun hlt => ?_)
      · simp -dsimp [g1, g21]
        exact ⟨hW, by omega⟩
      · rw [allE_end _ (by omega)] at hinv
        simp -dsimp [g1]
        exact ⟨hW, hinv.symm⟩
    clear g g1 g21 hW W
    rintro g W ⟨hW, g1, g21, hlt⟩
    rw [allE_drop _ hlt] at hinv
    have hfi : p.funcs[i]? = some p.funcs[i] := List.getElem?_eq_getElem hlt
    have hpp := hp.ok.ok.params _ (List.getElem_mem hlt)
    have hpv := hp.ok.ok.vars _ (List.getElem_mem hlt)
    obtain ⟨F, hF⟩ : ∃ F, F = p.funcs[i] := ⟨_, rfl⟩
    rw [← hF] at hinv hfi hpp hpv
    clear hF
    have errE : ∀ W, (∃ L, W = M ++ L) → kindsE F = 9 → Tidy H (fun x H' => x = .ret (I E) ∧ H' = H) (.ret (I 9)) W := fun W hW h => finW 9 W hW (by
      rw [h, thenE_ne (by decide)] at hinv
      rw [← hinv, thenE_ne (by decide)] at hE; exact hE)
    refine awp_cutA (fun f W => (∃ L, W = M ++ L) ∧ f 1 = .bp H.length 0 ∧ f 21 = I i ∧ kindsE F = 0) ?_ ?_
    rotate_left
    · clear g g1 g21 hW W
      rintro g W ⟨hW, g1, g21, h0⟩
      rw [h0, thenE_zero] at hinv
      refine awp_all (fun _ => false) (fun _ => none) (by kernel_rfl) ?_
      simp -dsimp [g1, g21]
      exact ⟨i + 1, by omega, hW, wrapS (by omega), by omega, hinv⟩
    refine awp_block ?_
    obtain ⟨V, hV⟩ : ∃ V, V = W ++ [.box 37 F.cells] := ⟨_, rfl⟩
    refine awp_cut (fun _ => false) (fun _ => none) (fun f W' => V = W' ∧ f 1 = .bp H.length 0 ∧ f 21 = I i ∧ f 22 = .bp W.length 0) (by kernel_rfl) ?_ ?_
    · have hb := hMb W hW
      simp -dsimp [g1, g21, hb, hfi, hV]
    clear g g1 g21
    rintro g _ ⟨rfl, g1, g21, g22⟩
    have hVr : ∀ L, (V ++ L)[W.length]? = some (.box 37 F.cells) := fun L => by rw [hV]; simp
    have hVr0 : V[W.length]? = some (.box 37 F.cells) := by rw [hV]; simp
    have hVW : ∀ L, ∃ L', V ++ L = M ++ L' := fun L => by obtain ⟨L1, rfl⟩ := hW; rw [hV]; exact ⟨L1 ++ ([.box 37 F.cells] ++ L), by simp⟩
    have hVW0 : ∃ L', V = M ++ L' := by have := hVW []; simpa using this
    obtain ⟨w, hw⟩ : ∃ w, w = W.length := ⟨_, rfl⟩
    rw [← hw] at g22 hVr hVr0
    clear hV hW hw
    simp only [Fc.cells] at hVr hVr0
    refine awp_cut (fun _ => false) (fun _ => none) (fun f W' => V = W' ∧ f 1 = .bp H.length 0 ∧ f 21 = I i ∧ f 22 = .bp w 0 ∧ allE kindP F.params = 0) (by kernel_rfl) ?_ ?_
    · simp -dsimp [g1, g21, g22]
      refine loop_rule (hn := fun _ => false) (od := fun _ => none) (fun (k : Nat) f W' => V = W' ∧ f 1 = .bp H.length 0 ∧ f 21 = I i ∧ f 22 = .bp w 0 ∧ f 23 = I k ∧ k ≤ F.params.length ∧ allE kindP (F.params.drop k) = allE kindP F.params) (fun k => F.params.length - k) (by kernel_rfl) 0 (by simp [g1, g21, g22]) ?_
      clear g g1 g21 g22
      rintro k g _ ⟨rfl, g1, g21, g22, g23, hk, hinv2⟩
      simp -dsimp [g1, g21, g22, g23, hVr0]
      refine condVW_introD (fun hkt => ?_) (fun hkt => ?_)
      · rw [allE_drop _ hkt] at hinv2
        have hvk : F.params[k]? = some F.params[k] := List.getElem?_eq_getElem hkt
        obtain ⟨v, hv⟩ : ∃ v, v = F.params[k] := ⟨_, rfl⟩
        rw [← hv] at hinv2 hvk
        clear hv
        have err : kindP v = 9 → Tidy H (fun x H' => x = .ret (I E) ∧ H' = H) (.ret (I 9)) V := fun h => errE V hVW0 (by rw [kindsE, ← hinv2, h]; rfl)
        simp -dsimp [g1, g21, g22, g23, hVr0, hvk]
        refine guardVW_introFNE (fun h1 h1a h1b => ?_) (fun h1 => ?_)
        · simp -dsimp [g1, g21, g22, g23, hVr0, h1a, h1b]
          exact err (by unfold kindP mustE; rw [if_neg]; simp [h1])
        simp -dsimp [g1, g21, g22, g23, hVr0, hvk, h1]
        refine condVW_introNE (fun h2 _ _ => ?_) (fun h2 => ?_)
        · simp -dsimp
          exact err (by unfold kindP mustE; rw [if_neg]; simp [h2])
        · simp -dsimp [g1, g21, g22, g23]
          have e0 : kindP v = 0 := by unfold kindP mustE; rw [if_pos]; simp [h1, h2]
          rw [e0, thenE_zero] at hinv2
          exact ⟨k + 1, by omega, wrapS (by omega), by omega, hinv2⟩
      · rw [allE_end _ hkt] at hinv2
        simp -dsimp [g1, g21, g22]
        exact hinv2.symm
    clear g g1 g21 g22
    rintro g _ ⟨rfl, g1, g21, g22, hz8⟩
    have hkF : kindsE F = allE kindQ F.vars := by rw [kindsE, hz8, thenE_zero]
    rw [hkF] at errE ⊢
    clear hz8 hkF hinv
    refine awp_all (fun _ => false) (fun _ => none) (by kernel_rfl) ?_
    simp -dsimp [g1, g21, g22]
    refine loop_rule (hn := fun _ => false) (od := fun _ => none) (fun (k : Nat) f W' => (∃ L, W' = V ++ L) ∧ f 1 = .bp H.length 0 ∧ f 21 = I i ∧ f 22 = .bp w 0 ∧ f 24 = I k ∧ k ≤ F.vars.length ∧ allE kindQ (F.vars.drop k) = allE kindQ F.vars) (fun k => F.vars.length - k) (by kernel_rfl) 0 (by simp [g1, g21, g22]) ?_
    clear g g1 g21 g22
    rintro k g _ ⟨⟨L2, rfl⟩, g1, g21, g22, g24, hk, hinv2⟩
    simp -dsimp [g1, g21, g22, g24, hVr]
    refine condVW_introD (fun hkt => ?_) (fun hkt => ?_)
    · rw [allE_drop _ hkt] at hinv2
      have hvk : F.vars[k]? = some F.vars[k] := List.getElem?_eq_getElem hkt
      obtain ⟨v, hv⟩ : ∃ v, v = F.vars[k] := ⟨_, rfl⟩
      rw [← hv] at hinv2 hvk
      clear hv
      have err : ∀ L, kindQ v = 9 → Tidy H (fun x H' => x = .ret (I E) ∧ H' = H) (.ret (I 9)) (V ++ L) := fun L h => errE _ (hVW L) (by rw [← hinv2, h]; rfl)
      have ok : kindQ v = 0 → allE kindQ (F.vars.drop (k + 1)) = allE kindQ F.vars := fun h => by rw [h, thenE_zero] at hinv2; exact hinv2
      simp -dsimp [g1, g21, g22, g24, hVr, hvk]
      refine guardVW_introFD (fun h1 => ?_) (fun h1 => ?_)
      · simp -dsimp [g1, g21, g22, g24, hVr, h1]
        exact err _ (by unfold kindQ; rw [decide_eq_false (show ¬(1 ≤ v.kind) by omega)]; rfl)
      simp -dsimp [g1, g21, g22, g24, hVr, h1]
      refine guardVW_introFD (fun h2 => ?_) (fun h2 => ?_)
      · simp -dsimp [g1, g21, g22, g24, hVr, h1, h2]
        exact err _ (by unfold kindQ; rw [decide_eq_false (show ¬(v.kind ≤ 3) by omega), Bool.and_false]; rfl)
      simp -dsimp [g1, g21, g22, g24, hVr, h1, h2]
      have kq : kindQ v = mustE (v.kind != 1 || v.size == 0 && !v.secret) 9 := by unfold kindQ; rw [decide_eq_true (by omega), decide_eq_true (by omega)]; rfl
      rw [kq] at err ok
      refine guardVW_introTE (fun h3 => ?_) (fun h3 h3a h3b => ?_)
      · simp -dsimp [g1, g21, g22, g24, hVr, h1, h2, h3]
        refine guardVW_introFNE (fun h4 h4a h4b => ?_) (fun h4 => ?_)
        · simp -dsimp [g1, g21, g22, g24, hVr, h1, h2, h3, h4a, h4b]
          exact err _ (by rw [h3, h4a]; rfl)
        simp -dsimp [g1, g21, g22, g24, hVr, h1, h2, h3, h4]
        rw [h3, h4] at err ok
        cases hsb : v.secret
        · rw [hsb] at ok
          simp -dsimp [g1, g21, g22, g24]
          exact ⟨k + 1, by omega, wrapS (by omega), by omega, ok rfl⟩
        · rw [hsb] at err
          simp -dsimp
          exact err _ rfl
      · simp -dsimp [g1, g21, g22, g24, hVr, h1, h2, h3a, h3b]
        exact ⟨k + 1, by omega, wrapS (by omega), by omega, ok (by rw [h3b]; rfl)⟩
    · rw [allE_end _ hkt] at hinv2
      simp -dsimp [g1, g21]
      exact ⟨hVW L2, hinv2.symm⟩
  clear g g1 hW W
  rintro g W ⟨hW, g1, hz9⟩
  rw [hz9, thenE_zero] at hE
  clear hz9
  -- statements
  refine awp_all (fun _ => false) (fun _ => none) (by kernel_rfl) ?_
  simp -dsimp [g1]
  refine loop_rule (hn := fun _ => false) (od := fun _ => none) (fun (i : Nat) f W' => W = W' ∧ f 1 = .bp H.length 0 ∧ f 26 = I i ∧ i ≤ p.funcs.length ∧ asksE p i (p.funcs.drop i) = E) (fun i => p.funcs.length - i) (by kernel_rfl) 0 (by simp [g1]; exact hE) ?_
  clear g g1 hE
  have hb := hMb W hW
  rintro i g _ ⟨rfl, g1, g26, hi, hinv⟩
  simp -dsimp [g1, g26, hb]
  refine condVW_introD (fun hlt => ?_) (fun hlt => ?_)
  · rw [asksE_drop hlt] at hinv
    have hfi : p.funcs[i]? = some p.funcs[i] := List.getElem?_eq_getElem hlt
    have hbd := hp.ok.body36 _ (List.getElem_mem hlt)
    have hnl := allE_0 hz6 _ (List.getElem_mem hlt)
    have hon := (thenE_0 (show thenE (onesL rl ((p.funcs[i].params ++ p.funcs[i].vars).map Vr.name)) (retsL (wordsV (p.funcs[i].params ++ p.funcs[i].vars)) [] p.funcs[i].rets) = 0 from hnl)).1
    rw [hrl] at hon
    have hNA := names_at p i hlt hon
    have cs := fun H => acalls_weak (args := [.agg p.cells, I i, Sm.sl p.funcs[i].body, I 1, nilS]) (args' := [.agg p.cells, I i, Sm.sl p.funcs[i].body, I 1, St.sl []]) (.cons (.refl _) (.cons (.refl _) (.cons (.refl _) (.cons (.refl _) (.cons (.nil _) .nil))))) (rstmts_ok p i hp.ok hlt p.funcs[i] rfl _ _ hNA p.funcs[i].body 1 [] (by omega) (by omega) (by simp; omega) H)
    have ea : smsChk p i p.funcs[i] (varsT (p.funcs[i].params ++ p.funcs[i].vars)) (onesT (p.regions.map Rg.name) []) (smsWords 1 p.funcs[i].body) 1 [] p.funcs[i].body = askE p i p.funcs[i] := rfl
    simp only [ea, Pg.cells] at cs
    obtain ⟨A, hA⟩ : ∃ A, A = askE p i p.funcs[i] := ⟨_, rfl⟩
    rw [← hA] at hinv
    simp only [← hA] at cs
    obtain ⟨F, hF⟩ : ∃ F, F = p.funcs[i] := ⟨_, rfl⟩
    rw [← hF] at hfi cs
    simp -dsimp [g1, g26, hb, hfi]
    refine callDW_intro (cs _) ?_
    simp -dsimp [g1, g26]
    refine condVW_introNE (fun hz _ _ => ?_) (fun hz => ?_)
    · rw [thenE_ne hz] at hinv
      simp -dsimp
      exact finW _ W hW hinv
    · rw [hz, thenE_zero] at hinv
      simp -dsimp [g1, g26]
      exact ⟨i + 1, by omega, wrapS (by omega), by omega, hinv⟩
  · rw [asksE_end hlt] at hinv
    simp -dsimp
    exact finW _ W hW hinv
end Go.Proofs
namespace Go.Proofs
open Go.Mu
mutual
def Ex.much (most : Int) : Ex → Nat
  | .mk _ _ _ args => exsMuch most 1 args
def exsMuch (most : Int) (n : Nat) : List Ex → Nat
  | [] => n
  | e :: l => if (n : Int) ≤ most then exsMuch most (n + e.much most) l else n
end
theorem Ex.much_eq (most : Int) (e : Ex) : e.much most = exsMuch most 1 e.args := by cases e; rw [Ex.much]; rfl
theorem exsMuch_le (most : Int) (m : Nat) : ∀ (l : List Ex) (n : Nat), exsCount l ≤ m → exsMuch most n l ≤ n + exsCount l := by
  induction m with
  | zero => intro l n hl; have := exs_len l; have : l = [] := List.eq_nil_of_length_eq_zero (by omega); subst this; simp [exsMuch]
  | succ m ih =>
    intro l
    induction l with
    | nil => intro n _; simp [exsMuch]
    | cons e l ihl =>
      intro n hl
      simp only [exsCount] at hl ⊢
      have he := Ex.count_eq e
      rw [exsMuch]
      split
      · have h1 := ihl (n + e.much most) (by omega)
        have h2 := ih e.args 1 (by omega)
        rw [Ex.much_eq] at h1 ⊢
        omega
      · omega
theorem Ex.much_le (most : Int) (e : Ex) : e.much most ≤ e.count := by
  rw [Ex.much_eq, Ex.count_eq]; have := exsMuch_le most _ e.args 1 (Nat.le_refl _); omega
def argsMuch (most : Int) : List Ex → Nat
  | [] => 0
  | e :: l => e.much most + argsMuch most l
theorem argsMuch_le (most : Int) : ∀ l, argsMuch most l ≤ exsCount l
  | [] => by simp [argsMuch]
  | e :: l => by simp only [argsMuch, exsCount]; have := e.much_le most; have := argsMuch_le most l; omega
mutual
def Sm.much (most : Int) : Sm → Nat
  | .mk _ _ ns e a args _ _ body els => 1 + ns.length + e.much most + a.much most + argsMuch most args + (smsMuch most 0 body + smsMuch most 0 els)
def smsMuch (most : Int) (n : Nat) : List Sm → Nat
  | [] => n
  | s :: l => if (n : Int) ≤ most then smsMuch most (n + s.much most) l else n
end
theorem Sm.much_eq (most : Int) (s : Sm) : s.much most = 1 + s.names.length + s.e.much most + s.a.much most + argsMuch most s.args + (smsMuch most 0 s.body + smsMuch most 0 s.els) := by cases s; rw [Sm.much]; rfl
theorem smsMuch_le (most : Int) (m : Nat) : ∀ (l : List Sm) (n : Nat), smsCount l ≤ m → smsMuch most n l ≤ n + smsCount l := by
  induction m with
  | zero => intro l n hl; have := sms_len l; have : l = [] := List.eq_nil_of_length_eq_zero (by omega); subst this; simp [smsMuch]
  | succ m ih =>
    intro l
    induction l with
    | nil => intro n _; simp [smsMuch]
    | cons s l ihl =>
      intro n hl
      simp only [smsCount] at hl ⊢
      have he := Sm.count_eq s
      rw [smsMuch]
      split
      · have h1 := ihl (n + s.much most) (by omega)
        have h2 := ih s.body 0 (by omega)
        have h3 := ih s.els 0 (by omega)
        have h4 := s.e.much_le most
        have h5 := s.a.much_le most
        have h6 := argsMuch_le most s.args
        rw [Sm.much_eq] at h1 ⊢
        omega
      · omega
theorem Sm.much_le (most : Int) (s : Sm) : s.much most ≤ s.count := by
  rw [Sm.much_eq, Sm.count_eq]
  have h2 := smsMuch_le most _ s.body 0 (Nat.le_refl _)
  have h3 := smsMuch_le most _ s.els 0 (Nat.le_refl _)
  have h4 := s.e.much_le most
  have h5 := s.a.much_le most
  have h6 := argsMuch_le most s.args
  omega
theorem mexpr_ok (most : Int) (m : Nat) : ∀ (e : Ex), e.count ≤ m → e.count ≤ 2^40 → ∀ (H : List Blk),
    ACalls Tryz.prog 91 [.agg e.cells, I most] H (fun x H' => x = .ret (I (e.much most)) ∧ H' = H) := by
  induction m with
  | zero => intro e h; have := Ex.count_eq e; omega
  | succ m ih =>
    intro e hm hc H
    refine acalls_tidy (acalls_of_vc (hn := fun _ => false) (od := fun _ => none) Tryz.func91 rfl (by kernel_rfl) ?_)
    have hce := Ex.count_eq e
    have hla := exs_len e.args
    have hml := e.much_le most
    obtain ⟨M, hM⟩ : ∃ M, M = H ++ [.box 53 e.cells] := ⟨_, rfl⟩
    have hMe : M[H.length]? = some (.box 53 e.cells) := by rw [hM]; simp
    obtain ⟨E, hE⟩ : ∃ E, E = e.much most := ⟨_, rfl⟩
    have fin : ∀ c : Int, c = (E : Int) → Tidy H (fun x H' => x = .ret (I E) ∧ H' = H) (.ret (I c)) M := fun c hc => by rw [hM, hc]; exact tidy_same rfl ⟨rfl, rfl⟩
    rw [← hE] at hml ⊢
    rw [Ex.much_eq] at hE
    simp only [Ex.cells_eq] at hM hMe
    simp -dsimp
    rw [← hM]
    refine loop_rule (hn := fun _ => false) (od := fun _ => none) (fun (i : Nat) f H' => M = H' ∧ f 2 = .bp H.length 0 ∧ f 1 = I most ∧ f 6 = I i ∧ i ≤ e.args.length ∧ ∃ n : Nat, f 5 = I n ∧ n ≤ 2^41 ∧ exsMuch most n (e.args.drop i) = E) (fun i => e.args.length - i) (by kernel_rfl) 0 (by simp [hE]; exact ⟨1, rfl, by omega, rfl⟩) ?_
    clear hM hE
    rintro i g _ ⟨rfl, g2, g1, g6, hi, n, g5, hnb, hn⟩
    simp -dsimp [g1, g2, g5, g6, hMe]
    refine guardVW_introTD (fun hlt => ?_) (fun hlt => ?_)
    · rw [drop_cons hlt, exsMuch] at hn
      simp -dsimp [g1, g2, g5, g6, hMe, hlt]
      refine condVW_introD (fun hle => ?_) (fun hle => ?_)
      · rw [if_pos hle] at hn
        have hg := exs_get hlt
        have cr := fun H => ih e.args[i] (by omega) (by omega) H
        have hml2 := e.args[i].much_le most
        have hnE : n + e.args[i].much most ≤ 2^41 := by
          have : ∀ (l : List Ex) (q : Nat), q ≤ exsMuch most q l := by
            intro l
            induction l with
            | nil => intro q; simp [exsMuch]
            | cons a l ihl => intro q; rw [exsMuch]; split; have := ihl (q + a.much most); omega; exact Nat.le_refl _
          have := this (e.args.drop (i + 1)) (n + e.args[i].much most)
          omega
        simp only [Ex.cells_eq] at cr
        have w3 : IntKind.i64.wrap ((n : Int) + (e.args[i].much most : Nat)) = ((n + e.args[i].much most : Nat) : Int) := by rw [wrapI (by omega) (by omega)]; rfl
        simp -dsimp [g1, g2, g5, g6, hMe, List.getElem?_eq_getElem, hlt]
        refine acallsW_det (cr _) ?_
        simp -dsimp [g1, g2, g5, g6]
        exact ⟨i + 1, by omega, wrapS (by omega), by omega, _, w3, hnE, hn⟩
      · rw [if_neg hle] at hn
        simp -dsimp [g5]
        exact fin _ (by omega)
    · rw [drop_end hlt, exsMuch] at hn
      simp -dsimp [g5, hlt]
      exact fin _ (by omega)
end Go.Proofs
namespace Go.Proofs
open Go.Mu
theorem smsMuch_ge (most : Int) : ∀ (l : List Sm) (q : Nat), q ≤ smsMuch most q l
  | [], q => by simp [smsMuch]
  | s :: l, q => by rw [smsMuch]; split; have := smsMuch_ge most l (q + s.much most); omega; exact Nat.le_refl _
theorem much_ok (most : Int) (m : Nat) : ∀ (l : List Sm), smsCount l < m → smsCount l ≤ 2^40 → ∀ (H : List Blk),
    ACalls Tryz.prog 40 [Sm.sl l, I most] H (fun x H' => x = .ret (I (smsMuch most 0 l)) ∧ H' = H) := by
  induction m with
  | zero => intro l h; omega
  | succ m ih =>
    intro l hm hc H
    refine acalls_of_awp Tryz.func40 rfl (by kernel_rfl) ?_
    have hlen := sms_len l
    have hml := smsMuch_le most _ l 0 (Nat.le_refl _)
    obtain ⟨E, hE⟩ : ∃ E, E = smsMuch most 0 l := ⟨_, rfl⟩
    rw [← hE] at hml ⊢
    refine awp_cut (fun _ => false) (fun _ => none) (fun f H' => H = H' ∧ f 0 = Sm.sl l ∧ f 1 = I most) (by kernel_rfl) ?_ ?_
    · simp -dsimp
    rintro g _ ⟨rfl, g0, g1⟩
    refine awp_cut (fun _ => false) (fun _ => none) (fun f H' => H = H' ∧ f 0 = Sm.sl l ∧ f 1 = I most ∧ f 5 = I 0) (by kernel_rfl) ?_ ?_
    · simp -dsimp [g0, g1]
    clear g g0 g1
    rintro g _ ⟨rfl, g0, g1, g5⟩
    refine awp_cutA (fun f H' => H = H' ∧ f 5 = I E) ?_ ?_
    rotate_left
    · clear g g0 g1 g5
      rintro g _ ⟨rfl, g5⟩
      refine awp_all (fun _ => false) (fun _ => none) (by kernel_rfl) ?_
      simp -dsimp [g5]
    refine awp_cut (fun _ => false) (fun _ => none) (fun f H' => H = H' ∧ f 0 = Sm.sl l ∧ f 1 = I most ∧ f 5 = I 0 ∧ f 6 = I 0) (by kernel_rfl) ?_ ?_
    · simp -dsimp [g0, g1, g5]
    clear g g0 g1 g5
    rintro g _ ⟨rfl, g0, g1, g5, g6⟩
    refine awp_block ?_
    refine awp_loopI (fun (i : Nat) f H' => H = H' ∧ f 0 = Sm.sl l ∧ f 1 = I most ∧ f 6 = I i ∧ i ≤ l.length ∧ ∃ n : Nat, f 5 = I n ∧ smsMuch most n (l.drop i) = E) (fun i => l.length - i) 0 ⟨rfl, g0, g1, g6, by omega, 0, g5, by rw [hE]; simp⟩ ?_
    clear g g0 g1 g5 g6
    rintro i g _ ⟨rfl, g0, g1, g6, hi, n, g5, hn⟩
    refine awp_cut (fun _ => false) (fun _ => none) (fun f H' => H = H' ∧ f 0 = Sm.sl l ∧ f 1 = I most ∧ f 6 = I i ∧ f 5 = I n ∧ i < l.length ∧ (n : Int) ≤ most) (by kernel_rfl) ?_ ?_
    · simp -dsimp [g0, g1, g5, g6]
      refine guardVW_introTD (fun hlt => ?_) (fun hlt => ?_)
      · rw [drop_cons hlt, smsMuch] at hn
        simp -dsimp [g0, g1, g5, g6, hlt]
        refine condVW_introD (fun hle => ?_) (fun hle => ?_)
        · simp -dsimp [g0, g1, g5, g6]
          first
            | exact ⟨hlt, hle⟩
            | exact hle
        · rw [if_neg hle] at hn
          simp -dsimp [g5]
          omega
      · rw [drop_end hlt, smsMuch] at hn
        simp -dsimp [g5, hlt]
        omega
    clear g g0 g1 g5 g6
    rintro g _ ⟨rfl, g0, g1, g6, g5, hlt, hle⟩
    rw [drop_cons hlt, smsMuch, if_pos hle] at hn
    have hg := sms_get hlt
    have hsc := Sm.count_eq l[i]
    have hls : l[i]? = some l[i] := List.getElem?_eq_getElem hlt
    obtain ⟨s, hs⟩ : ∃ s, s = l[i] := ⟨_, rfl⟩
    rw [← hs] at hn hg hsc hls
    clear hs
    have hge := smsMuch_ge most (l.drop (i + 1)) (n + s.much most)
    have hsm := s.much_le most
    have hse := s.much_eq most
    have m1 := s.e.much_le most
    have m2 := s.a.much_le most
    have m3 := argsMuch_le most s.args
    have m4 := smsMuch_le most _ s.body 0 (Nat.le_refl _)
    have m5 := smsMuch_le most _ s.els 0 (Nat.le_refl _)
    refine awp_cutA (fun f H' => H = H' ∧ f 0 = Sm.sl l ∧ f 1 = I most ∧ f 6 = I i ∧ f 5 = I (n + s.much most : Nat)) ?_ ?_
    rotate_left
    · clear g g0 g1 g5 g6
      rintro g _ ⟨rfl, g0, g1, g6, g5⟩
      obtain ⟨N, hN⟩ : ∃ N, N = n + s.much most := ⟨_, rfl⟩
      rw [← hN] at g5 hn
      refine awp_all (fun _ => false) (fun _ => none) (by kernel_rfl) ?_
      simp -dsimp [g0, g1, g5, g6]
      first
        | exact ⟨i + 1, by omega, wrapS (by omega), by omega, N, rfl, hn⟩
        | exact ⟨i + 1, by omega, wrapS (by omega), by omega, hn⟩
    refine awp_block ?_
    have x1 := fun H => mexpr_ok most _ s.e (Nat.le_refl _) (by omega) H
    have x2 := fun H => mexpr_ok most _ s.a (Nat.le_refl _) (by omega) H
    simp only [Ex.cells_eq] at x1 x2
    obtain ⟨n1, hn1⟩ : ∃ n1, n1 = n + 1 + s.names.length + s.e.much most + s.a.much most := ⟨_, rfl⟩
    refine awp_cut (fun _ => false) (fun _ => none) (fun f H' => H = H' ∧ f 0 = Sm.sl l ∧ f 1 = I most ∧ f 6 = I i ∧ f 5 = I n1) (by kernel_rfl) ?_ ?_
    · have w1 : IntKind.i64.wrap ((n : Int) + 1) = (n : Int) + 1 := wrapI (by omega) (by omega)
      have w2 : IntKind.i64.wrap ((n : Int) + 1 + s.names.length) = (n : Int) + 1 + s.names.length := wrapI (by omega) (by omega)
      have w3 : IntKind.i64.wrap ((n : Int) + 1 + s.names.length + (s.e.much most : Nat)) = (n : Int) + 1 + s.names.length + (s.e.much most : Nat) := wrapI (by omega) (by omega)
      have w4 : IntKind.i64.wrap ((n : Int) + 1 + s.names.length + (s.e.much most : Nat) + (s.a.much most : Nat)) = (n1 : Int) := by rw [wrapI (by omega) (by omega)]; omega
      simp -dsimp [g0, g1, g5, g6, hls, w1, w2]
      refine callDW_intro (x1 _) ?_
      simp -dsimp [g0, g1, g5, g6, hls, w1, w2, w3]
      refine callDW_intro (x2 _) ?_
      simp -dsimp [g0, g1, g5, g6, w1, w2, w3, w4]
    clear g g0 g1 g5 g6
    rintro g _ ⟨rfl, g0, g1, g6, g5⟩
    have hla := exs_len s.args
    refine awp_cut (fun _ => false) (fun _ => none) (fun f H' => H = H' ∧ f 0 = Sm.sl l ∧ f 1 = I most ∧ f 6 = I i ∧ f 5 = I (n1 + argsMuch most s.args : Nat)) (by kernel_rfl) ?_ ?_
    · simp -dsimp [g0, g1, g5, g6]
      refine loop_rule (hn := fun _ => false) (od := fun _ => none) (fun (j : Nat) f H' => H = H' ∧ f 0 = Sm.sl l ∧ f 1 = I most ∧ f 6 = I i ∧ f 7 = I j ∧ j ≤ s.args.length ∧ ∃ q : Nat, f 5 = I q ∧ q + argsMuch most (s.args.drop j) = n1 + argsMuch most s.args) (fun j => s.args.length - j) (by kernel_rfl) 0 (by simp [g0, g1, g5, g6]) ?_
      clear g g0 g1 g5 g6
      rintro j g _ ⟨rfl, g0, g1, g6, g7, hj, q, g5, hq⟩
      simp -dsimp [g0, g1, g5, g6, g7, hls]
      refine condVW_introD (fun hjt => ?_) (fun hjt => ?_)
      · rw [drop_cons hjt, argsMuch] at hq
        have hxg := exs_get hjt
        have x3 := fun H => mexpr_ok most _ s.args[j] (Nat.le_refl _) (by omega) H
        have m6 := s.args[j].much_le most
        simp only [Ex.cells_eq] at x3
        have w : IntKind.i64.wrap ((q : Int) + (s.args[j].much most : Nat)) = ((q + s.args[j].much most : Nat) : Int) := by rw [wrapI (by omega) (by omega)]; rfl
        simp -dsimp [g0, g1, g5, g6, g7, hls, List.getElem?_eq_getElem, hjt]
        refine acallsW_det (x3 _) ?_
        simp -dsimp [g0, g1, g5, g6, g7]
        exact ⟨j + 1, by omega, wrapS (by omega), by omega, _, w, by omega⟩
      · rw [drop_end hjt, argsMuch] at hq
        simp -dsimp [g0, g1, g5, g6]
        omega
    clear g g0 g1 g5 g6
    rintro g _ ⟨rfl, g0, g1, g6, g5⟩
    obtain ⟨n2, hn2⟩ : ∃ n2, n2 = n1 + argsMuch most s.args := ⟨_, rfl⟩
    rw [← hn2] at g5
    have cb := fun H => ih s.body (by omega) (by omega) H
    have ce := fun H => ih s.els (by omega) (by omega) H
    have w3 : IntKind.i64.wrap ((n2 : Int) + (smsMuch most 0 s.body : Nat)) = ((n2 + smsMuch most 0 s.body : Nat) : Int) := by rw [wrapI (by omega) (by omega)]; rfl
    have w4 : IntKind.i64.wrap (((n2 + smsMuch most 0 s.body : Nat) : Int) + (smsMuch most 0 s.els : Nat)) = ((n2 + smsMuch most 0 s.body + smsMuch most 0 s.els : Nat) : Int) := by rw [wrapI (by omega) (by omega)]; rfl
    refine awp_all (fun _ => false) (fun _ => none) (by kernel_rfl) ?_
    simp -dsimp [g0, g1, g5, g6, hls]
    refine callDW_intro (cb _) ?_
    simp -dsimp [g0, g1, g5, g6, hls]
    refine callDW_intro (ce _) ?_
    simp -dsimp [g0, g1, g5, g6]
    rw [w3, w4]
    omega
def smallF (most : Int) : List Fc → Nat → Option Nat
  | [], n => some n
  | f :: l, n => if 200 < f.params.length + f.vars.length + f.rets.length then none else smallF most l (n + smsMuch most 0 f.body)
def smallB (p : Pg) (most : Int) : Bool := if 40 < p.funcs.length ∨ 20 < p.regions.length then false else match smallF most p.funcs 0 with | none => false | some n => decide ((n : Int) ≤ most)
theorem small_ok (p : Pg) (hp : p.Ok2) (most : Int) (H : List Blk) : ACalls Tryz.prog 10 [.agg p.cells, I most] H (fun e H' => e = .ret (Bo (smallB p most)) ∧ H' = H) := by
  refine acalls_tidy (acalls_of_awp Tryz.func10 rfl (by kernel_rfl) ?_)
  obtain ⟨M, hM⟩ : ∃ M, M = H ++ [.box 25 p.cells] := ⟨_, rfl⟩
  have hMp : M[H.length]? = some (.box 25 p.cells) := by rw [hM]; simp
  have hpr := hp.ok.regions
  have hpf := hp.ok.funcs
  obtain ⟨E, hE⟩ : ∃ E, E = smallB p most := ⟨_, rfl⟩
  have fin : ∀ c, c = E → Tidy H (fun x H' => x = .ret (Bo E) ∧ H' = H) (.ret (Bo c)) M := fun c hc => by rw [hM, hc]; exact tidy_same rfl ⟨rfl, rfl⟩
  rw [← hE]
  unfold smallB at hE
  simp only [Pg.cells] at hM hMp
  refine awp_cut (fun _ => false) (fun _ => none) (fun f H' => M = H' ∧ f 2 = .bp H.length 0 ∧ f 1 = I most) (by kernel_rfl) ?_ ?_
  · simp -dsimp [hM]
  clear hM
  rintro g _ ⟨rfl, g2, g1⟩
  refine awp_cut (fun _ => false) (fun _ => none) (fun f H' => M = H' ∧ f 2 = .bp H.length 0 ∧ f 1 = I most ∧ p.funcs.length ≤ 40 ∧ p.regions.length ≤ 20) (by kernel_rfl) ?_ ?_
  · simp -dsimp [g1, g2, hMp]
    refine guardVW_introFD (fun h => ?_) (fun h => ?_)
    · simp -dsimp [g1, g2, hMp, h]
      rw [if_pos (.inl (by omega))] at hE
      exact fin _ hE.symm
    · simp -dsimp [g1, g2, hMp, h]
      refine condVW_introD (fun h2 => ?_) (fun h2 => ?_)
      · simp -dsimp
        rw [if_pos (.inr (by omega))] at hE
        exact fin _ hE.symm
      · simp -dsimp [g1, g2]
        omega
  clear g g1 g2
  rintro g _ ⟨rfl, g2, g1, h40, h20⟩
  rw [if_neg (by omega)] at hE
  refine awp_cut (fun _ => false) (fun _ => none) (fun f H' => M = H' ∧ f 2 = .bp H.length 0 ∧ f 1 = I most ∧ f 5 = I 0) (by kernel_rfl) ?_ ?_
  · simp -dsimp [g1, g2]
  clear g g1 g2
  rintro g _ ⟨rfl, g2, g1, g5⟩
  refine awp_all (fun _ => false) (fun _ => none) (by kernel_rfl) ?_
  simp -dsimp [g1, g2, g5]
  refine loop_rule (hn := fun _ => false) (od := fun _ => none) (fun (i : Nat) f H' => M = H' ∧ f 2 = .bp H.length 0 ∧ f 1 = I most ∧ f 6 = I i ∧ i ≤ p.funcs.length ∧ ∃ n : Nat, f 5 = I n ∧ n ≤ i * 2^36 ∧ smallF most (p.funcs.drop i) n = smallF most p.funcs 0) (fun i => p.funcs.length - i) (by kernel_rfl) 0 (by simp [g1, g2, g5]; exact ⟨0, rfl, rfl, rfl⟩) ?_
  clear g g1 g2 g5
  rintro i g _ ⟨rfl, g2, g1, g6, hi, n, g5, hnb, hn⟩
  simp -dsimp [g1, g2, g5, g6, hMp]
  refine condVW_introD (fun hlt => ?_) (fun hlt => ?_)
  · rw [drop_cons hlt, smallF] at hn
    have hb := hp.body36 _ (List.getElem_mem hlt)
    have h1 := hp.ok.params _ (List.getElem_mem hlt)
    have h2 := hp.ok.vars _ (List.getElem_mem hlt)
    have h3 := hp.ok.rets _ (List.getElem_mem hlt)
    have hfi : p.funcs[i]? = some p.funcs[i] := List.getElem?_eq_getElem hlt
    obtain ⟨F, hF⟩ : ∃ F, F = p.funcs[i] := ⟨_, rfl⟩
    rw [← hF] at hn hb h1 h2 h3 hfi
    clear hF
    have w1 : IntKind.i64.wrap ((F.params.length : Int) + F.vars.length) = (F.params.length : Int) + F.vars.length := wrapI (by omega) (by omega)
    have w2 : IntKind.i64.wrap ((F.params.length : Int) + F.vars.length + F.rets.length) = (F.params.length : Int) + F.vars.length + F.rets.length := wrapI (by omega) (by omega)
    have cm := fun H => much_ok most _ F.body (Nat.lt_succ_self _) (by omega) H
    have hml := smsMuch_le most _ F.body 0 (Nat.le_refl _)
    have w3 : IntKind.i64.wrap ((n : Int) + (smsMuch most 0 F.body : Nat)) = ((n + smsMuch most 0 F.body : Nat) : Int) := by rw [wrapI (by omega) (by omega)]; rfl
    simp -dsimp [g1, g2, g5, g6, hMp, hfi, w1, w2]
    refine condVW_introD (fun h => ?_) (fun h => ?_)
    · rw [if_pos (by omega)] at hn
      simp -dsimp
      exact fin _ (by rw [hE, ← hn])
    · rw [if_neg (by omega)] at hn
      simp -dsimp [g1, g2, g5, g6, hMp, hfi]
      refine acallsW_det (cm _) ?_
      simp -dsimp [g1, g2, g5, g6]
      exact ⟨i + 1, by omega, wrapS (by omega), by omega, _, w3, by omega, hn⟩
  · rw [drop_end hlt, smallF] at hn
    simp -dsimp [g1, g2, g5]
    exact fin _ (by rw [hE, ← hn])
end Go.Proofs
namespace Go.Proofs
open Go.Mu
structure Inp where
  args : List Int
  regions : List (List Int)
structure Inp.Ok (x : Inp) : Prop where
  args : x.args.length ≤ 2^40
  regions : x.regions.length ≤ 2^40
  rows : ∀ r ∈ x.regions, r.length ≤ 2^40
end Go.Proofs
namespace Go.Proofs.YtihlekehnihnpaaGreat.Lift
open Go.ChangeShapes Go.WideShapes Go.ChangeAt Go.RowKit Go.Mu Go.Proofs
section
variable {H : Type} {enc : TypeId × Value → H} {cx : Cx}
theorem tells_i (t : TypeId) (h : Tryz.prog.underlying t = some (.int .i64)) (n : Nat) : Tells enc Tryz.prog cx n t (fun i : Int => [I i]) (fun _ => 1) (fun _ => True) := (tells_int h).map id (fun _ => rfl) (fun _ => Nat.le_refl _) (fun _ _ => trivial)
theorem tells_u (n : Nat) : Tells enc Tryz.prog cx n 50 (fun i : Int => [U i]) (fun _ => 1) (fun _ => True) := (tells_int (by kernel_rfl)).map id (fun _ => rfl) (fun _ => Nat.le_refl _) (fun _ _ => trivial)
theorem tells_b (n : Nat) : Tells enc Tryz.prog cx n 4 (fun b : Bool => [Bo b]) (fun _ => 1) (fun _ => True) := tells_bool (by kernel_rfl)
theorem tells_s (n : Nat) : Tells enc Tryz.prog cx n 9 (fun s : ByteArray => [St s]) (fun s => s.size + 1) (fun _ => True) := tells_string (by kernel_rfl)
theorem sizes_mem {α : Type} {size : α → Nat} {l : List α} {a : α} (h : a ∈ l) : size a ≤ sizes size l := by
  induction l with
  | nil => cases h
  | cons b l ih =>
    simp only [sizes, List.map_cons, List.sum_cons] at ih ⊢
    rcases List.mem_cons.1 h with rfl | h
    · omega
    · have := ih h; omega
theorem exs_sizes (l : List Ex) : sizes Ex.count l = exsCount l := by
  induction l with
  | nil => rfl
  | cons e l ih => simp only [sizes, List.map_cons, List.sum_cons, exsCount] at ih ⊢; omega
theorem sms_sizes (l : List Sm) : sizes Sm.count l = smsCount l := by
  induction l with
  | nil => rfl
  | cons e l ih => simp only [sizes, List.map_cons, List.sum_cons, smsCount] at ih ⊢; omega
theorem tells_strs (hΦ : ∀ b, b < cx.w.heap.size → cx.Φ b) : ∀ n, Tells enc Tryz.prog cx n 34 (fun l : List ByteArray => [St.sl l]) (sizes fun s => s.size + 1) (fun _ => True)
  | 0 => tells_zero
  | n + 1 => (tells_slice (e := 9) (sz := 1) (by kernel_rfl) (by kernel_rfl) (by omega) hΦ (tells_s n)).map id (fun _ => rfl) (fun l => Nat.le_succ _) (fun _ _ => trivial)
theorem tells_exs2 (hΦ : ∀ b, b < cx.w.heap.size → cx.Φ b) : ∀ n, Tells enc Tryz.prog cx n 53 Ex.cells Ex.count (fun _ => True) ∧ Tells enc Tryz.prog cx n 51 (fun l : List Ex => [Ex.sl l]) exsCount (fun _ => True)
  | 0 => ⟨tells_zero, tells_zero⟩
  | n + 1 => by
    obtain ⟨h1, h2⟩ := tells_exs2 hΦ n
    refine ⟨(tells_struct (fl := [(49, 0, 1), (50, 1, 1), (9, 2, 1), (51, 3, 1)]) (by kernel_rfl) (by kernel_rfl)
      (tellsF_cons (tells_i 49 (by kernel_rfl) n) (tellsF_cons (tells_u n) (tellsF_cons (tells_s n) (tellsF_cons h2 tellsF_nil))))).map (fun (a0, a1, a2, a3, _) => Ex.mk a0 a1 a2 a3) (fun _ => Ex.cells_eq _) (fun ⟨a0, a1, a2, a3, _⟩ => by simp only [Ex.count]; omega) (fun _ _ => trivial), ?_⟩
    exact (tells_slice (e := 53) (sz := 4) (by kernel_rfl) (by kernel_rfl) (by omega) hΦ h1).map id (fun _ => rfl) (fun l => by rw [exs_sizes]; exact Nat.le_succ _) (fun _ _ => trivial)
theorem tells_sms2 (hΦ : ∀ b, b < cx.w.heap.size → cx.Φ b) : ∀ n, Tells enc Tryz.prog cx n 57 Sm.cells Sm.count (fun _ => True) ∧ Tells enc Tryz.prog cx n 35 (fun l : List Sm => [Sm.sl l]) smsCount (fun _ => True)
  | 0 => ⟨tells_zero, tells_zero⟩
  | n + 1 => by
    obtain ⟨h1, h2⟩ := tells_sms2 hΦ n
    obtain ⟨e1, e2⟩ := tells_exs2 (enc := enc) hΦ n
    refine ⟨(tells_struct (fl := [(55, 0, 1), (9, 1, 1), (34, 2, 1), (53, 3, 4), (53, 7, 4), (51, 11, 1), (50, 12, 1), (50, 13, 1), (35, 14, 1), (35, 15, 1)]) (by kernel_rfl) (by kernel_rfl)
      (tellsF_cons (tells_i 55 (by kernel_rfl) n) (tellsF_cons (tells_s n) (tellsF_cons (tells_strs hΦ n) (tellsF_cons e1 (tellsF_cons e1 (tellsF_cons e2 (tellsF_cons (tells_u n) (tellsF_cons (tells_u n) (tellsF_cons h2 (tellsF_cons h2 tellsF_nil))))))))))).map
      (fun (a0, a1, a2, a3, a4, a5, a6, a7, a8, a9, _) => Sm.mk a0 a1 a2 a3 a4 a5 a6 a7 a8 a9) (fun ⟨a0, a1, a2, a3, a4, a5, a6, a7, a8, a9, _⟩ => by rw [Sm.cells_eq, Ex.cells_eq, Ex.cells_eq]; rfl)
      (fun ⟨a0, a1, a2, a3, a4, a5, a6, a7, a8, a9, _⟩ => by have := sizes_len (size := fun s : ByteArray => s.size + 1) (fun _ => by omega) a2; simp only [Sm.count]; omega) (fun _ _ => trivial), ?_⟩
    exact (tells_slice (e := 57) (sz := 16) (by kernel_rfl) (by kernel_rfl) (by omega) hΦ h1).map id (fun _ => rfl) (fun l => by rw [sms_sizes]; exact Nat.le_succ _) (fun _ _ => trivial)
def vrSize (v : Vr) : Nat := v.name.size + 1
def rgSize (r : Rg) : Nat := r.name.size + 1
def fcSize (f : Fc) : Nat := f.name.size + sizes vrSize f.params + sizes vrSize f.vars + sizes (fun s => s.size + 1) f.rets + smsCount f.body + 1
def pgSize (p : Pg) : Nat := sizes rgSize p.regions + sizes fcSize p.funcs
theorem tells_vr : ∀ n, Tells enc Tryz.prog cx n 67 Vr.cells vrSize (fun _ => True)
  | 0 => tells_zero
  | n + 1 => (tells_struct (fl := [(9, 0, 1), (65, 1, 1), (3, 2, 1), (4, 3, 1)]) (by kernel_rfl) (by kernel_rfl)
      (tellsF_cons (tells_s n) (tellsF_cons (tells_i 65 (by kernel_rfl) n) (tellsF_cons (tells_i 3 (by kernel_rfl) n) (tellsF_cons (tells_b n) tellsF_nil))))).map (fun (a0, a1, a2, a3, _) => ⟨a0, a1, a2, a3⟩) (fun _ => rfl) (fun ⟨a0, a1, a2, a3, _⟩ => by simp only [vrSize]; omega) (fun _ _ => trivial)
theorem tells_rg : ∀ n, Tells enc Tryz.prog cx n 103 Rg.cells rgSize (fun _ => True)
  | 0 => tells_zero
  | n + 1 => (tells_struct (fl := [(9, 0, 1), (3, 1, 1), (3, 2, 1), (4, 3, 1)]) (by kernel_rfl) (by kernel_rfl)
      (tellsF_cons (tells_s n) (tellsF_cons (tells_i 3 (by kernel_rfl) n) (tellsF_cons (tells_i 3 (by kernel_rfl) n) (tellsF_cons (tells_b n) tellsF_nil))))).map (fun (a0, a1, a2, a3, _) => ⟨a0, a1, a2, a3⟩) (fun _ => rfl) (fun ⟨a0, a1, a2, a3, _⟩ => by simp only [rgSize]; omega) (fun _ _ => trivial)
theorem tells_vrs (hΦ : ∀ b, b < cx.w.heap.size → cx.Φ b) : ∀ n, Tells enc Tryz.prog cx n 33 (fun l : List Vr => [Vr.sl l]) (sizes vrSize) (fun _ => True)
  | 0 => tells_zero
  | n + 1 => (tells_slice (e := 67) (sz := 4) (by kernel_rfl) (by kernel_rfl) (by omega) hΦ (tells_vr n)).map id (fun _ => rfl) (fun l => Nat.le_succ _) (fun _ _ => trivial)
theorem tells_rgs (hΦ : ∀ b, b < cx.w.heap.size → cx.Φ b) : ∀ n, Tells enc Tryz.prog cx n 22 (fun l : List Rg => [Rg.sl l]) (sizes rgSize) (fun _ => True)
  | 0 => tells_zero
  | n + 1 => (tells_slice (e := 103) (sz := 4) (by kernel_rfl) (by kernel_rfl) (by omega) hΦ (tells_rg n)).map id (fun _ => rfl) (fun l => Nat.le_succ _) (fun _ _ => trivial)
theorem tells_fc (hΦ : ∀ b, b < cx.w.heap.size → cx.Φ b) : ∀ n, Tells enc Tryz.prog cx n 37 Fc.cells fcSize (fun _ => True)
  | 0 => tells_zero
  | n + 1 => (tells_struct (fl := [(9, 0, 1), (33, 1, 1), (33, 2, 1), (34, 3, 1), (35, 4, 1)]) (by kernel_rfl) (by kernel_rfl)
      (tellsF_cons (tells_s n) (tellsF_cons (tells_vrs hΦ n) (tellsF_cons (tells_vrs hΦ n) (tellsF_cons (tells_strs hΦ n) (tellsF_cons (tells_sms2 hΦ n).2 tellsF_nil)))))).map (fun (a0, a1, a2, a3, a4, _) => ⟨a0, a1, a2, a3, a4⟩) (fun _ => rfl) (fun ⟨a0, a1, a2, a3, a4, _⟩ => by simp only [fcSize]; omega) (fun _ _ => trivial)
theorem tells_fcs (hΦ : ∀ b, b < cx.w.heap.size → cx.Φ b) : ∀ n, Tells enc Tryz.prog cx n 23 (fun l : List Fc => [Fc.sl l]) (sizes fcSize) (fun _ => True)
  | 0 => tells_zero
  | n + 1 => (tells_slice (e := 37) (sz := 5) (by kernel_rfl) (by kernel_rfl) (by omega) hΦ (tells_fc hΦ n)).map id (fun _ => rfl) (fun l => Nat.le_succ _) (fun _ _ => trivial)
theorem tells_pg (hΦ : ∀ b, b < cx.w.heap.size → cx.Φ b) : ∀ n, Tells enc Tryz.prog cx n 25 Pg.cells pgSize (fun _ => True)
  | 0 => tells_zero
  | n + 1 => (tells_struct (fl := [(22, 0, 1), (23, 1, 1)]) (by kernel_rfl) (by kernel_rfl)
      (tellsF_cons (tells_rgs hΦ n) (tellsF_cons (tells_fcs hΦ n) tellsF_nil))).map (fun (a0, a1, _) => ⟨a0, a1⟩) (fun _ => rfl) (fun ⟨a0, a1, _⟩ => by simp only [pgSize]; omega) (fun _ _ => trivial)
theorem pg_ok {p : Pg} (h : pgSize p ≤ 1048576) : p.Ok3 := by
  have hr : p.regions.length ≤ pgSize p := by have := sizes_len (size := rgSize) (fun _ => by simp [rgSize]) p.regions; unfold pgSize; omega
  have hf : p.funcs.length ≤ pgSize p := by have := sizes_len (size := fcSize) (fun _ => by simp [fcSize]) p.funcs; unfold pgSize; omega
  have hF : ∀ f ∈ p.funcs, fcSize f ≤ 1048576 := fun f hf => by have := sizes_mem (size := fcSize) hf; unfold pgSize at h; omega
  have hn : ∀ l : List Fc, funcsNum l ≤ sizes fcSize l := by
    intro l
    induction l with
    | nil => simp [funcsNum, sizes]
    | cons f l ih =>
      simp only [funcsNum, sizes, List.map_cons, List.sum_cons] at ih ⊢
      have := smsNum_le _ f.body 1 (Nat.le_refl _)
      have : smsCount f.body ≤ fcSize f := by unfold fcSize; omega
      omega
  refine ⟨⟨⟨by omega, by omega, fun f hf => ?_, fun f hf => ?_, fun f hf => ?_, fun f hf => ?_⟩, ⟨fun r hr => ?_, fun f hf => ⟨?_, fun v hv => ?_, fun s hs => ?_⟩⟩, fun f hf => ?_⟩, ?_⟩
  · have := hF f hf; unfold fcSize at this; omega
  · have := hF f hf; have h2 := sizes_len (size := vrSize) (fun _ => by simp [vrSize]) f.params; unfold fcSize at this; omega
  · have := hF f hf; have h2 := sizes_len (size := vrSize) (fun _ => by simp [vrSize]) f.vars; unfold fcSize at this; omega
  · have := hF f hf; have h2 := sizes_len (size := fun s : ByteArray => s.size + 1) (fun _ => by omega) f.rets; unfold fcSize at this; omega
  · have h2 := sizes_mem (size := rgSize) hr; have h3 : rgSize r = r.name.size + 1 := rfl; unfold pgSize at h; omega
  · have := hF f hf; unfold fcSize at this; omega
  · have := hF f hf
    unfold fcSize at this
    rcases List.mem_append.1 hv with hv | hv
    · have h2 := sizes_mem (size := vrSize) hv; simp only [vrSize] at h2 this; omega
    · have h2 := sizes_mem (size := vrSize) hv; simp only [vrSize] at h2 this; omega
  · have := hF f hf; have h2 : s.size + 1 ≤ sizes (fun s : ByteArray => s.size + 1) f.rets := sizes_mem (size := fun s : ByteArray => s.size + 1) hs; unfold fcSize at this; omega
  · have := hF f hf; unfold fcSize at this; omega
  · have := hn p.funcs; unfold pgSize at h; omega
end
theorem arg_pg {H : Type} {enc : TypeId × Value → H} {W : World} {base : Nat} : ArgOk enc Tryz.prog W base 25 (fun a => .agg (Pg.cells a)) pgSize (fun _ => True) := arg_struct Tryz.underlying25 (tells_pg fun _ h => h)
end Go.Proofs.YtihlekehnihnpaaGreat.Lift
