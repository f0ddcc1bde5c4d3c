/- On the way: handles kept free, rows given away that may be empty, boxes told less of. -/
import Derived.Test.YtamblilpfacolaaFwUtoG46
set_option linter.unusedVariables false
set_option linter.unusedSimpArgs false
set_option maxHeartbeats 4000000
set_option maxRecDepth 100000
namespace Go.Mu
open Go.RowKit (Below)
section
variable {P : Program} {n : Nat} {c : Code} {Q : AQ}
theorem FRel.mono' {cx cx' : Cx} (hle : Le cx cx') {f : Fr} {a : Act} (h : FRel cx n f a) : FRel cx' n f a := ⟨h.1, fun t ht => (h.2 t ht).mono hle⟩
/-- Handles are kept free on the way. -/
theorem awp_spare {f : Fr} {H : List Blk} (m : Nat) (h : AWP P n c Q f (H ++ List.replicate m .pend) []) : AWP P n c Q f H [] := by
  intro ro hro B w0 cx0 cx a h1 h2 h3 h4 h5
  subst h3
  refine h ro hro B w0 cx0 (cx.spare m) a (hrel_spare h1 m) (h2.trans (le_spare cx m)) rfl (h4.mono' (le_spare cx m)) ?_
  cases hd : a.defers with
  | nil => trivial
  | cons d l => rw [hd] at h5; exact h5.elim
theorem awp_under {f : Fr} {H : List Blk} (h : underH H.length H = true → AWP P n c Q f H []) : AWP P n c Q f H [] := by
  intro ro hro B w0 cx0 cx a h1 h2 h3 h4 h5
  have hu := h1.under
  rw [h3] at hu
  exact h hu ro hro B w0 cx0 cx a h1 h2 h3 h4 h5
/-- A box is told less of. -/
def Cx.less (cx : Cx) (b : Nat) (t : TypeId) (cs : List AV) : Cx := { cx with H := cx.H.set b (.box t cs) }
theorem le_less {cx : Cx} {b : Nat} {t : TypeId} {cs cs' : List AV} (hb : cx.H[b]? = some (.box t cs)) : Le cx (cx.less b t cs') := by
  have hlt := (List.getElem?_eq_some_iff.1 hb).1
  refine ⟨fun _ _ _ _ h => h, fun _ h => h, fun k bl h hf => ?_, fun k t' sz es h => .inr ⟨es, ?_, Nat.le_refl _, fun _ => ⟨rfl, rfl⟩⟩⟩
  · by_cases hk : b = k
    · subst hk; exact ⟨.box t cs', by simp [Cx.less, hlt], rfl, rfl⟩
    · exact ⟨bl, by simp only [Cx.less]; rw [List.getElem?_set_ne hk]; exact h, hf, rfl⟩
  · have hk : b ≠ k := fun e => by subst e; rw [hb] at h; cases h
    simp only [Cx.less]; rw [List.getElem?_set_ne hk]; exact h
theorem hrel_less {B : Nat} {w0 : World} {cx : Cx} (h : HRel B w0 cx) {b : Nat} {t : TypeId} {cs cs' : List AV} (hb : cx.H[b]? = some (.box t cs)) (hw : WeakL cs cs') : HRel B w0 (cx.less b t cs') := by
  have hle := le_less (cs' := cs') hb
  have hlt := (List.getElem?_eq_some_iff.1 hb).1
  have key : ∀ (i : Nat) (bl : Blk), (cx.less b t cs').H[i]? = some bl → (i = b ∧ bl = .box t cs') ∨ (i ≠ b ∧ cx.H[i]? = some bl) := by
    intro i bl hi
    by_cases hk : b = i
    · subst hk; simp [Cx.less, hlt] at hi; exact .inl ⟨rfl, hi.symm⟩
    · simp only [Cx.less] at hi; rw [List.getElem?_set_ne hk] at hi; exact .inr ⟨Ne.symm hk, hi⟩
  have key2 : ∀ (i : Nat) (bl : Blk), (cx.less b t cs').H[i]? = some bl → bl.live = true → ∃ bl', cx.H[i]? = some bl' ∧ bl'.live = true := by
    intro i bl hi hl
    rcases key i bl hi with ⟨rfl, rfl⟩ | ⟨_, h2⟩
    · exact ⟨_, hb, rfl⟩
    · exact ⟨_, h2, hl⟩
  refine ⟨h.below, h.base, h.frz, fun i bl hi => ?_, fun i j b1 b2 a1 a2 l1 l2 he => ?_⟩
  · rcases key i bl hi with ⟨rfl, rfl⟩ | ⟨hne, hi'⟩
    · obtain ⟨h1, h2, vals, h3, h4⟩ := h.blk _ _ hb
      exact ⟨h1, h2, vals, h3, (h4.mono hle).weakens hw⟩
    · have hbr := h.blk i bl hi'
      exact hbr.mono hle fun hl => ⟨rfl, rfl, rfl, (hbr.lt hl).2.2⟩
  · obtain ⟨b1', a1', l1'⟩ := key2 i b1 a1 l1
    obtain ⟨b2', a2', l2'⟩ := key2 j b2 a2 l2
    exact h.inj i j b1' b2' a1' a2' l1' l2' he
theorem awp_weakbox {f : Fr} {H : List Blk} (b : Nat) (t : TypeId) (cs cs' : List AV) (hb : H[b]? = some (.box t cs)) (hw : WeakL cs cs') (h : AWP P n c Q f (H.set b (.box t cs')) []) : AWP P n c Q f H [] := by
  intro ro hro B w0 cx0 cx a h1 h2 h3 h4 h5
  subst h3
  refine h ro hro B w0 cx0 (cx.less b t cs') a (hrel_less h1 hb hw) (h2.trans (le_less hb)) rfl (h4.mono' (le_less hb)) ?_
  cases hd : a.defers with
  | nil => trivial
  | cons d l => rw [hd] at h5; exact h5.elim
/-- What is told once a row is given away that may be empty. -/
def AV.frzS (k sz : Nat) (es : List (List AV)) (a : AV) : AV := if es = [] then a else a.frz k sz es
def gvS (sz : Nat) (es : List (List AV)) : AV := if es = [] then .v (.slice none 0 0) else .vs sz es
theorem Weak.gvS (sz : Nat) (es : List (List AV)) : Weak (Mu.gvS sz es) (.vs sz es) := by
  unfold Mu.gvS; split
  · rename_i h; subst h; exact .nil sz
  · exact .refl _
@[simp] theorem frzS_own (k sz : Nat) (es : List (List AV)) : (ownS k es).frzS k sz es = gvS sz es := by
  unfold AV.frzS gvS
  by_cases h : es = []
  · subst h; simp
  · rw [if_neg h, if_neg h, frz_own _ _ _ h]
theorem frzS_id {k sz n : Nat} {es : List (List AV)} (hn : n ≤ k) (a : AV) (h : a.under n = true) : a.frzS k sz es = a := by
  unfold AV.frzS; split
  · rfl
  · exact frz_id hn a h
@[simp] theorem frzS_v (k sz : Nat) (es : List (List AV)) (x : Value) : (AV.v x).frzS k sz es = .v x := frzS_id (Nat.zero_le _) _ rfl
@[simp] theorem frzS_vs (k sz sz' : Nat) (es es' : List (List AV)) : (AV.vs sz' es').frzS k sz es = .vs sz' es' := frzS_id (Nat.zero_le _) _ rfl
@[simp] theorem frzS_bp (k sz b o : Nat) (es : List (List AV)) : (AV.bp b o).frzS k sz es = .bp b o := by
  unfold AV.frzS; split <;> rfl
@[simp] theorem frzS_junk (k sz : Nat) (es : List (List AV)) : AV.junk.frzS k sz es = .junk := frzS_id (Nat.zero_le _) _ rfl
@[simp] theorem frzS_gv (k sz sz' : Nat) (es es' : List (List AV)) : (gvS sz' es').frzS k sz es = gvS sz' es' := by
  unfold gvS; split <;> simp
theorem frzS_ne {k k' sz : Nat} {es es' : List (List AV)} (h : k ≠ k') : (ownS k es).frzS k' sz es' = ownS k es := by
  unfold AV.frzS; split
  · rfl
  · exact frz_ownS_ne h
def Blk.frzS (k sz : Nat) (es : List (List AV)) (b : Blk) : Blk := if es = [] then b else b.frz k sz es
theorem blkS_id {k sz n : Nat} {es : List (List AV)} (hn : n ≤ k) (b : Blk) (h : b.under n = true) : b.frzS k sz es = b := by
  unfold Blk.frzS; split
  · rfl
  · exact frzB_id hn b h
theorem blkS_box (k sz : Nat) (es : List (List AV)) (t : TypeId) (cs : List AV) : (Blk.box t cs).frzS k sz es = .box t (cs.map (AV.frzS k sz es)) := by
  unfold Blk.frzS AV.frzS; split
  · simp
  · simp only [Blk.frz]
    congr 1
    induction cs with
    | nil => rfl
    | cons a l ih => simp only [frzL, List.map_cons, ih]
/-- A row of the call's own that may be empty is given away on the way. -/
theorem awp_giveO {f : Fr} {N L : List Blk} (hu : underH N.length N = true) (j sz : Nat) (t : TypeId) (es : List (List AV)) (hj : L[j]? = some (ownB t sz es)) (hz : es.flatten.all AV.frzB = true)
    (h : AWP P n c Q (fun s => (f s).frzS (N.length + j) sz es) (N ++ (L.map (Blk.frzS (N.length + j) sz es)).set j .gone) []) : AWP P n c Q f (N ++ L) [] := by
  by_cases hes : es = []
  · subst hes
    rw [ownB_nil] at hj
    have h1 : (fun s => (f s).frzS (N.length + j) sz []) = f := by funext s; simp [AV.frzS]
    have h2 : L.map (Blk.frzS (N.length + j) sz []) = L := by
      conv => rhs; rw [← List.map_id L]
      exact List.map_congr_left fun b _ => by simp [Blk.frzS]
    rw [h1, h2] at h
    intro ro hro B w0 cx0 cx a b1 b2 b3 b4 b5
    have hlt := (List.getElem?_eq_some_iff.1 hj).1
    have hkj : cx.H[N.length + j]? = some .pend := by rw [b3, List.getElem?_append_right (by omega)]; simpa using hj
    -- the free handle is forgotten
    have hle : Le cx { cx with H := N ++ L.set j .gone } := by
      have hs : N ++ L.set j .gone = cx.H.set (N.length + j) .gone := by rw [b3, List.set_append, if_neg (by omega)]; simp
      refine ⟨fun _ _ _ _ h => h, fun _ h => h, fun k bl h hf => ?_, fun k t' sz es h => .inr ⟨es, ?_, Nat.le_refl _, fun _ => ⟨rfl, rfl⟩⟩⟩
      · have hk : N.length + j ≠ k := fun e => by subst e; rw [hkj] at h; cases h; cases hf
        exact ⟨bl, by show (N ++ L.set j .gone)[k]? = _; rw [hs, List.getElem?_set_ne hk]; exact h, hf, rfl⟩
      · have hk : N.length + j ≠ k := fun e => by subst e; rw [hkj] at h; cases h
        show (N ++ L.set j .gone)[k]? = _
        rw [hs, List.getElem?_set_ne hk]; exact h
    have key : ∀ (i : Nat) (bl : Blk), (N ++ L.set j .gone)[i]? = some bl → bl = .gone ∨ cx.H[i]? = some bl := by
      intro i bl hi
      have hs : N ++ L.set j .gone = cx.H.set (N.length + j) .gone := by rw [b3, List.set_append, if_neg (by omega)]; simp
      rw [hs] at hi
      by_cases hk : N.length + j = i
      · subst hk
        rw [List.getElem?_set_self (by rw [b3, List.length_append]; omega)] at hi
        cases hi; exact .inl rfl
      · rw [List.getElem?_set_ne hk] at hi; exact .inr hi
    have hr : HRel B w0 { cx with H := N ++ L.set j .gone } := by
      refine ⟨b1.below, b1.base, b1.frz, fun i bl hi => ?_, fun i k x1 x2 a1 a2 l1 l2 he => ?_⟩
      · rcases key i bl hi with rfl | hi'
        · trivial
        · have hbr := b1.blk i bl hi'
          exact hbr.mono hle fun hl => ⟨rfl, rfl, rfl, (hbr.lt hl).2.2⟩
      · rcases key i x1 a1 with rfl | a1'
        · cases l1
        · rcases key k x2 a2 with rfl | a2'
          · cases l2
          · exact b1.inj i k x1 x2 a1' a2' l1 l2 he
    refine h ro hro B w0 cx0 { cx with H := N ++ L.set j .gone } a hr (b2.trans hle) rfl (b4.mono' hle) ?_
    cases hd : a.defers with
    | nil => trivial
    | cons d l => rw [hd] at b5; exact b5.elim
  · rw [ownB, if_neg hes] at hj
    refine awp_give (N.length + j) sz t es (by rw [List.getElem?_append_right (by omega)]; simpa using hj) hz ?_
    rw [frzH_app j hu]
    have h1 : (fun s => (f s).frzS (N.length + j) sz es) = fun s => (f s).frz (N.length + j) sz es := by funext s; simp [AV.frzS, hes]
    have h2 : L.map (Blk.frzS (N.length + j) sz es) = L.map (Blk.frz (N.length + j) sz es) := List.map_congr_left fun b _ => by simp [Blk.frzS, hes]
    rw [h1, h2] at h
    exact h
end
end Go.Mu
namespace Go.Proofs
open Go.Mu
/-- What a rewriting comes to: an error, or something, and how much was made. -/
inductive Rw (α : Type) where
  | err (e : Int)
  | ok (x : α) (n : Int)
def Rw.bind {α β : Type} : Rw α → (α → Int → Rw β) → Rw β
  | .err e, _ => .err e
  | .ok x n, f => f x n
@[simp] theorem Rw.bind_err {α β : Type} (e : Int) (f : α → Int → Rw β) : (Rw.err e).bind f = .err e := (rfl)
@[simp] theorem Rw.bind_ok {α β : Type} (x : α) (n : Int) (f : α → Int → Rw β) : (Rw.ok x n).bind f = f x n := (rfl)
def addR (k n : Int) : Rw Unit := if 1000000 < n + k then .err 3 else .ok () (n + k)
abbrev rwB (st : Int) (br : Bool) (n : Int) : Blk := .box 131 [U st, Bo br, I n]
/-- How a call ends that rewrites. -/
def RwR {α : Type} (st : Int) (br : Bool) (c : Nat) (H : List Blk) (V : α → AV) (T : α → List Blk) (res : Rw α) : AE → List Blk → Prop := fun e H' =>
  match res with
  | .ok x m => e = .ret (V x) ∧ H' = H.set c (rwB st br m) ++ T x ∧ 0 ≤ m ∧ m ≤ 1000000
  | .err x => e = .pan (refL x) ∧ ∃ m, H' = H.set c (rwB st br m)
theorem rwW {α : Type} {st : Int} {br : Bool} {c : Nat} {V : α → AV} {T : α → List Blk} {res : Rw α} {fid : FuncId} {args : List AV} {H : List Blk} {R : AE → List Blk → Prop} {w : Wit R} (h : ACalls Try.prog fid args H (RwR st br c H V T res))
    (hok : ∀ x m, res = .ok x m → 0 ≤ m → m ≤ 1000000 → R (.ret (V x)) (H.set c (rwB st br m) ++ T x)) (herr : ∀ x m, res = .err x → R (.pan (refL x)) (H.set c (rwB st br m))) : ACallsW Try.prog fid args H R w := by
  refine acallsW_of h ?_
  intro e H' hr
  unfold RwR at hr
  cases res with
  | ok x m => obtain ⟨rfl, rfl, h1, h2⟩ := hr; exact hok x m rfl h1 h2
  | err x => obtain ⟨rfl, m, rfl⟩ := hr; exact herr x m rfl
theorem add2_ok (st : Int) (br : Bool) (n k : Int) (h0 : 0 ≤ n) (h1 : n ≤ 1000000) (h2 : 0 ≤ k) (h3 : k ≤ 2^50) (H : List Blk) (c : Nat) (hc : H[c]? = some (rwB st br n)) : ACalls Try.prog 65 [.bp c 2, I k] H (RwR st br c H (fun _ => .tup []) (fun _ => []) (addR k n)) := by
  refine acalls_tidy (acalls_of_vc (hn := fun _ => false) (od := fun _ => none) Try.func65 rfl (by kernel_rfl) ?_)
  have hl := lt_of_get hc
  have w : IntKind.i64.wrap (n + k) = n + k := wrapI (by omega) (by omega)
  have hg : ∀ X, (H.set c X)[c]? = some X := fun X => by simp [hl]
  have hu : ∀ X : Int, underH H.length H = true → underH (H.set c (rwB st br X)).length (H.set c (rwB st br X)) = true := fun X h => by rw [List.length_set]; exact underH_set h rfl
  have lv := fun H => leave_ok 3 H
  simp -dsimp [hc, w, hg]
  unfold addR
  refine condVW_introD (fun h => ?_) (fun h => ?_)
  · simp -dsimp
    refine acallsW_of (lv _) ?_
    rintro _ _ ⟨rfl, rfl⟩
    simp -dsimp
    rw [if_pos h]
    have := tidy_toP (H := H) (H2 := H.set c (rwB st br (n + k))) (L := []) (R := RwR st br c H (fun _ => .tup []) (fun _ => []) (Rw.err (α := Unit) 3)) (r := refL 3) (by simp) (hu _) rfl ⟨rfl, _, rfl⟩
    simpa using this
  · simp -dsimp
    rw [if_neg h]
    have := tidy_to (H := H) (H2 := H.set c (rwB st br (n + k))) (L := []) (R := RwR st br c H (fun _ => .tup []) (fun _ => []) (Rw.ok () (n + k))) (r := .tup []) (by simp) (hu _) rfl ⟨rfl, by simp, by omega, by omega⟩
    simpa using this
/-- A pick's word. -/
def pickBad (p : Pk) (items : List Int) : Bool := (decide (p.kind = 1) || decide (p.kind = 3)) && (decide (p.item < 0) || decide ((items.length : Int) ≤ p.item))
def pickE (st : Int) (p : Pk) (items : List Int) : Option Int :=
  if pickBad p items = true then none
  else if p.kind = 1 then items[p.item.toNat]?
  else if p.kind = 2 then some p.word
  else if p.kind = 3 then (items[p.item.toNat]?).map fun x => IntKind.u64.wrap (IntKind.u64.wrap (p.word + (if p.stack then st else 0)) + IntKind.u64.wrap (8 * x))
  else if p.kind = 4 then some (IntKind.u64.wrap (p.word + (if p.stack then st else 0)))
  else none
theorem pick_ok (st : Int) (br : Bool) (n : Int) (p : Pk) (items : List Int) (hi : items.length ≤ 2^40) (H : List Blk) (c : Nat) (hc : H[c]? = some (rwB st br n)) :
    ACalls Try.prog 163 [.bp c 0, .agg p.cells, U.sl items] H (fun e H' => e = (match pickE st p items with | some x => .ret (U x) | none => .pan (refL 2)) ∧ H' = H) := by
  refine acalls_tidy (acalls_of_awp Try.func163 rfl (by kernel_rfl) ?_)
  obtain ⟨E, hE⟩ : ∃ E, E = pickE st p items := ⟨_, rfl⟩
  rw [← hE]
  have lv := fun H => leave_ok 2 H
  have fin : ∀ x L, E = some x → Tidy H (fun e H' => e = (match E with | some x => .ret (U x) | none => .pan (refL 2)) ∧ H' = H) (.ret (U x)) (H ++ L) := fun x L h => by rw [h]; exact tidy_same rfl ⟨rfl, rfl⟩
  have finP : ∀ L, E = none → Tidy H (fun e H' => e = (match E with | some x => .ret (U x) | none => .pan (refL 2)) ∧ H' = H) (.pan (refL 2)) (H ++ L) := fun L h => by rw [h]; exact tidy_sameP rfl ⟨rfl, rfl⟩
  have hcL := fun L => get_app_old hc L
  unfold pickE at hE
  refine awp_all (fun _ => false) (fun _ => none) (by kernel_rfl) ?_
  obtain ⟨kind, item, word, stack⟩ := p
  simp only [Pk.cells, pickBad] at hE ⊢
  obtain ⟨S, hS⟩ : ∃ S : Int, S = if stack then st else 0 := ⟨_, rfl⟩
  rw [← hS] at hE
  -- with items, or without
  by_cases hki : kind = 1 ∨ kind = 3
  · have hk13 : (decide (kind = 1) || decide (kind = 3)) = true := by rcases hki with rfl | rfl <;> rfl
    rw [hk13, Bool.true_and] at hE
    by_cases hbad : item < 0 ∨ (items.length : Int) ≤ item
    · rw [if_pos (by rcases hbad with h | h <;> simp [h])] at hE
      have hb2 : items.length ≤ item ∨ item < 0 := by omega
      rcases hki with rfl | rfl
      · simp -dsimp
        refine guardVW_introFD (fun h1 => ?_) (fun h1 => ?_)
        · simp -dsimp [h1]
          refine acallsW_of (lv _) ?_
          rintro _ _ ⟨rfl, rfl⟩
          simp -dsimp
          exact finP _ hE
        · simp -dsimp [h1, show (items.length : Int) ≤ item by omega]
          refine acallsW_of (lv _) ?_
          rintro _ _ ⟨rfl, rfl⟩
          simp -dsimp
          exact finP _ hE
      · simp -dsimp
        refine guardVW_introFD (fun h1 => ?_) (fun h1 => ?_)
        · simp -dsimp [h1]
          refine acallsW_of (lv _) ?_
          rintro _ _ ⟨rfl, rfl⟩
          simp -dsimp
          exact finP _ hE
        · simp -dsimp [h1, show (items.length : Int) ≤ item by omega]
          refine acallsW_of (lv _) ?_
          rintro _ _ ⟨rfl, rfl⟩
          simp -dsimp
          exact finP _ hE
    · have h1 : ¬ item < 0 := by omega
      have h2 : ¬ (items.length : Int) ≤ item := by omega
      rw [if_neg (by simp; omega)] at hE
      obtain ⟨i, rfl⟩ : ∃ i : Nat, item = i := ⟨item.toNat, by omega⟩
      have hil : i < items.length := by omega
      have hit : items[i]? = some items[i] := List.getElem?_eq_getElem hil
      obtain ⟨x, hx⟩ : ∃ x, x = items[i] := ⟨_, rfl⟩
      rw [← hx] at hit
      clear hx
      simp only [Int.toNat_natCast, hit] at hE
      rcases hki with rfl | rfl
      · simp -dsimp [h1, h2]
        cases stack
        · simp -dsimp [hit]
          exact fin _ _ hE
        · simp -dsimp [hit, hcL]
          exact fin _ _ hE
      · simp -dsimp [h1, h2]
        cases stack
        · subst hS
          simp -dsimp [hit]
          exact fin _ _ (by simp [hE])
        · subst hS
          simp -dsimp [hit, hcL]
          exact fin _ _ (by simp [hE])
  · have k1 : kind ≠ 1 := fun h => hki (.inl h)
    have k3 : kind ≠ 3 := fun h => hki (.inr h)
    rw [if_neg (by simp [k1, k3]), if_neg k1] at hE
    have b1 : (kind == 1) = false := by simpa using k1
    have b3 : (kind == 3) = false := by simpa using k3
    by_cases k2 : kind = 2
    · subst k2
      simp only [if_true] at hE
      cases stack
      · simp -dsimp
        exact fin _ _ hE
      · simp -dsimp [hcL]
        exact fin _ _ hE
    have b2 : (kind == 2) = false := by simpa using k2
    rw [if_neg k2, if_neg k3] at hE
    by_cases k4 : kind = 4
    · subst k4
      simp only [if_true] at hE
      cases stack
      · subst hS
        simp -dsimp
        exact fin _ _ (by simp [hE])
      · subst hS
        simp -dsimp [hcL]
        exact fin _ _ (by simp [hE])
    have b4 : (kind == 4) = false := by simpa using k4
    rw [if_neg k4] at hE
    cases stack
    · simp -dsimp [b1, b2, b3, b4]
      refine acallsW_of (lv _) ?_
      rintro _ _ ⟨rfl, rfl⟩
      simp -dsimp
      exact finP _ hE
    · simp -dsimp [b1, b2, b3, b4, hcL]
      refine acallsW_of (lv _) ?_
      rintro _ _ ⟨rfl, rfl⟩
      simp -dsimp
      exact finP _ hE
end Go.Proofs
namespace Go.Proofs
open Go.Mu
def pkCount : List (List Pk) → Nat
  | [] => 0
  | l :: ls => 1 + l.length + pkCount ls
theorem pk_len (l : List (List Pk)) : l.length ≤ pkCount l := by
  induction l with
  | nil => simp
  | cons n l ih => simp only [List.length_cons, pkCount]; omega
theorem pk_drop {l : List (List Pk)} {i : Nat} (h : i < l.length) : pkCount (l.drop i) = 1 + l[i].length + pkCount (l.drop (i + 1)) := by rw [drop_cons h, pkCount]
theorem pk_le (l : List (List Pk)) (i : Nat) : pkCount (l.drop i) ≤ pkCount l := by
  induction l generalizing i with
  | nil => simp
  | cons n l ih => cases i with
    | zero => simp
    | succ i => simp only [List.drop_succ_cons, pkCount]; have := ih i; omega
theorem pk_get {l : List (List Pk)} {i : Nat} (h : i < l.length) : 1 + l[i].length ≤ pkCount l := by
  have h1 := pk_drop h
  have h2 := pk_le l i
  omega
def pickAll (st : Int) (items : List Int) : List Pk → Option (List Int)
  | [] => some []
  | p :: ps => match pickE st p items with
    | none => none
    | some w => (pickAll st items ps).map (w :: ·)
/-- Something is put ahead of what comes. -/
def Rw.pre {α : Type} (d : List α) (r : Rw (List α)) : Rw (List α) := r.bind fun o m => .ok (d ++ o) m
@[simp] theorem Rw.pre_err {α : Type} (d : List α) (e : Int) : (Rw.err e).pre d = .err e := (rfl)
@[simp] theorem Rw.pre_ok {α : Type} (d o : List α) (m : Int) : (Rw.ok o m).pre d = .ok (d ++ o) m := (rfl)
theorem Rw.pre_pre {α : Type} (d e : List α) (r : Rw (List α)) : (r.pre e).pre d = r.pre (d ++ e) := by cases r <;> simp [Rw.pre]
@[simp] theorem Rw.pre_nil {α : Type} (r : Rw (List α)) : r.pre [] = r := by cases r <;> simp [Rw.pre]
/-- Lines that are made of items. -/
def linesM (st : Int) (items : List Int) : List (List Pk) → Int → Rw (List Lk)
  | [], n => .ok [] n
  | l :: ls, n => match pickAll st items l with
    | none => .err 2
    | some its => (addR (1 + its.length) n).bind fun _ m => (linesM st items ls m).pre [Lk.mk 1 its false []]
theorem lk_frzB (x : Lk) : x.cells.all AV.frzB = true := by simp [AV.frzB]
theorem lks_frzB (l : List Lk) : (l.map Lk.cells).flatten.all AV.frzB = true := by
  rw [List.all_eq_true]
  intro c hc
  obtain ⟨e, he, hce⟩ := List.mem_flatten.1 hc
  obtain ⟨x, _, rfl⟩ := List.mem_map.1 he
  exact List.all_eq_true.1 (lk_frzB x) c hce
theorem ints_frzB (l : List Int) : (l.map fun x => [U x]).flatten.all AV.frzB = true := by
  rw [List.all_eq_true]
  intro c hc
  obtain ⟨e, he, hce⟩ := List.mem_flatten.1 hc
  obtain ⟨x, _, rfl⟩ := List.mem_map.1 he
  simp at hce
  subst hce
  rfl
mutual
theorem under_le {n m : Nat} (h : n ≤ m) : ∀ (a : AV), a.under n = true → a.under m = true
  | .v _, _ => rfl
  | .vs _ _, _ => rfl
  | .vx _ _, _ => rfl
  | .vp _, _ => rfl
  | .bp k _, hu => by simp only [AV.under, decide_eq_true_eq] at hu ⊢; omega
  | .rp k _ _ _, hu => by simp only [AV.under, decide_eq_true_eq] at hu ⊢; omega
  | .hs k _ _ _, hu => by simp only [AV.under, decide_eq_true_eq] at hu ⊢; omega
  | .hm k, hu => by simp only [AV.under, decide_eq_true_eq] at hu ⊢; omega
  | .hi k, hu => by simp only [AV.under, decide_eq_true_eq] at hu ⊢; omega
  | .yl k, hu => by simp only [AV.under, decide_eq_true_eq] at hu ⊢; omega
  | .fn _ a b, hu => by simp only [AV.under, Bool.and_eq_true] at hu ⊢; exact ⟨underL_le h a hu.1, underL_le h b hu.2⟩
  | .ifc _ x, hu => by simp only [AV.under] at hu ⊢; exact under_le h x hu
  | .agg a, hu => by simp only [AV.under] at hu ⊢; exact underL_le h a hu
  | .tup a, hu => by simp only [AV.under] at hu ⊢; exact underL_le h a hu
  | .junk, _ => rfl
theorem underL_le {n m : Nat} (h : n ≤ m) : ∀ (l : List AV), underL n l = true → underL m l = true
  | [], _ => rfl
  | a :: l, hu => by simp only [underL, Bool.and_eq_true] at hu ⊢; exact ⟨under_le h a hu.1, underL_le h l hu.2⟩
end
theorem blk_under_le {n m : Nat} (h : n ≤ m) (b : Blk) (hu : b.under n = true) : b.under m = true := by
  cases b with
  | box t cs => exact underL_le h cs hu
  | row t z rs =>
    simp only [Blk.under, List.all_eq_true] at hu ⊢
    exact fun r hr => underL_le h r (hu r hr)
  | map ms =>
    simp only [Blk.under, List.all_eq_true] at hu ⊢
    exact fun p hp => under_le h p.2 (hu p hp)
  | lp st pend n f ps assign body =>
    simp only [Blk.under, List.all_eq_true, List.mem_range] at hu ⊢
    exact fun t ht => under_le h _ (hu t ht)
  | _ => rfl
theorem underH_app {n m : Nat} {A B : List Blk} (h : n ≤ m) (ha : underH n A = true) (hb : ∀ b ∈ B, b.under m = true) : underH m (A ++ B) = true := by
  simp only [underH, List.all_eq_true, List.mem_append] at ha ⊢
  rintro b (hm | hm)
  · exact blk_under_le h b (ha b hm)
  · exact hb b hm
end Go.Proofs
namespace Go.Proofs
open Go.Mu
abbrev outB (out : List Lk) : Blk := ownB 67 4 (out.map Lk.cells)
abbrev outS (k : Nat) (out : List Lk) : AV := ownS k (out.map Lk.cells)
/-- What is made so far, and what comes of the rest. -/
structure OutI (H : List Blk) (c : Nat) (st : Int) (br : Bool) (F : Rw (List Lk)) (rest : Int → Rw (List Lk)) (out : List Lk) (n : Int) (x : AV) : Prop where
  n0 : 0 ≤ n
  n1 : n ≤ 1000000
  len : (out.length : Int) ≤ n
  row : x = outS H.length out
  rest : (rest n).pre out = F
def OutM (H : List Blk) (c : Nat) (st : Int) (br : Bool) (F : Rw (List Lk)) (rest : Int → Rw (List Lk)) (x : AV) (H' : List Blk) : Prop :=
  ∃ out n L, H' = H.set c (rwB st br n) ++ outB out :: L ∧ OutI H c st br F rest out n x
theorem OutM.out {H : List Blk} {c : Nat} {st : Int} {br : Bool} {F : Rw (List Lk)} {rest : Int → Rw (List Lk)} {x : AV} {H' : List Blk} (h : OutM H c st br F rest x H') : ∃ out n L, H' = H.set c (rwB st br n) ++ outB out :: L ∧ OutI H c st br F rest out n x := h
theorem addR_ok {k n m : Int} {u : Unit} (h : addR k n = .ok u m) : m = n + k ∧ n + k ≤ 1000000 := by
  unfold addR at h
  split at h
  · cases h
  · injection h with h1 h2; exact ⟨h2.symm, by omega⟩
theorem pickAll_len {st : Int} {items : List Int} : ∀ {l : List Pk} {its : List Int}, pickAll st items l = some its → its.length = l.length
  | [], its, h => by simp [pickAll] at h; subst h; rfl
  | p :: l, its, h => by
    rw [pickAll] at h
    split at h
    · cases h
    · obtain ⟨its', h1, rfl⟩ := Option.map_eq_some_iff.1 h
      simp [pickAll_len h1]
/-- Items that are made so far. -/
def ItsM (st : Int) (items : List Int) (l : List Pk) (N : List Blk) (j : Nat) (H' : List Blk) : Prop :=
  ∃ its L2, H' = N ++ .box 67 [I 1, ownS (N.length + 1) (its.map fun x => [U x]), Bo false, nilS] :: ownB 23 1 (its.map fun x => [U x]) :: L2 ∧ its.length = j ∧ (pickAll st items (l.drop j)).map (its ++ ·) = pickAll st items l
theorem lines_ok (st : Int) (br : Bool) (n0 : Int) (all : List (List Pk)) (items : List Int) (ha : pkCount all ≤ 2^40) (hi : items.length ≤ 2^40) (h0 : 0 ≤ n0) (h1 : n0 ≤ 1000000) (H : List Blk) (c : Nat) (hc : H[c]? = some (rwB st br n0)) :
    ACalls Try.prog 153 [.bp c 0, Pk.sls all, U.sl items] H (RwR st br c H (outS H.length) (fun out => [outB out]) (linesM st items all n0)) := by
  refine acalls_under fun hu _ => acalls_tidy (acalls_spare 1 (acalls_of_awp Try.func153 rfl (by kernel_rfl) ?_))
  have hcl := lt_of_get hc
  have hlen := pk_len all
  obtain ⟨G, hG⟩ : ∃ G : Int → List Blk, G = fun n => H.set c (rwB st br n) := ⟨_, rfl⟩
  have hGe : ∀ n, G n = H.set c (rwB st br n) := fun n => by rw [hG]
  have hG0 : H = G n0 := by rw [hGe, set_same hc]
  have hGc : ∀ n L, (G n ++ L)[c]? = some (rwB st br n) := fun n L => by rw [hGe]; exact m1_get hcl _ _
  have hGs : ∀ n k L, (G n ++ L).set c (rwB st br k) = G k ++ L := fun n k L => by rw [hGe, hGe]; exact m1_set hcl _ _ _
  have hGl : ∀ n, (G n).length = H.length := fun n => by rw [hGe]; simp
  have hGu : ∀ n, underH H.length (G n) = true := fun n => by rw [hGe]; exact underH_set hu rfl
  have hrow : ∀ n X Y L, (G n ++ X :: L).set H.length Y = G n ++ Y :: L := fun n X Y L => by rw [← hGl n]; simp
  have hrog : ∀ n X L, (G n ++ X :: L)[H.length]? = some X := fun n X L => by rw [← hGl n]; simp
  clear hG
  obtain ⟨F, hF⟩ : ∃ F, F = linesM st items all n0 := ⟨_, rfl⟩
  rw [← hF]
  have fin : ∀ out n L, F = .ok out n → 0 ≤ n → n ≤ 1000000 → Tidy H (RwR st br c H (outS H.length) (fun out => [outB out]) F) (.ret (outS H.length out)) (G n ++ outB out :: L) := fun out n L h a b => by
    have := tidy_to (H := H) (H2 := G n ++ [outB out]) (L := L) (R := RwR st br c H (outS H.length) (fun out => [outB out]) F) (r := outS H.length out) (by simp [hGl]) (fun h => underH_app (n := H.length) (by simp [hGl]) (hGu n) (fun b hb => by
      simp only [List.mem_singleton] at hb; subst hb; exact under_ownB_plain (lks_frzB out))) (under_ownS _ _ _ (by simp [hGl])) (by rw [h]; exact ⟨rfl, by rw [hGe], a, b⟩)
    simpa using this
  have finP : ∀ e n L, F = .err e → Tidy H (RwR st br c H (outS H.length) (fun out => [outB out]) F) (.pan (refL e)) (G n ++ L) := fun e n L h => by
    refine tidy_toP (by rw [hGl]; exact Nat.le_refl _) (fun _ => by rw [hGl]; exact hGu n) rfl ?_
    rw [h]; exact ⟨rfl, n, hGe n⟩
  -- nothing is made as yet
  refine awp_cut (fun _ => false) (fun _ => none) (fun f H' => H' = H ++ [Blk.pend] ∧ f 0 = .bp c 0 ∧ f 1 = Pk.sls all ∧ f 2 = U.sl items) (by kernel_rfl) ?_ ?_
  · simp -dsimp
  rintro g _ ⟨rfl, g0, g1, g2⟩
  refine awp_cut (fun _ => false) (fun _ => none) (fun f H' => H' = H ++ [Blk.pend] ∧ f 0 = .bp c 0 ∧ f 1 = Pk.sls all ∧ f 2 = U.sl items ∧ f 7 = nilS) (by kernel_rfl) ?_ ?_
  · simp -dsimp [g0, g1, g2]
  clear g g0 g1 g2
  rintro g _ ⟨rfl, g0, g1, g2, g7⟩
  refine awp_cutA (fun f H' => OutM H c st br F (fun n => .ok [] n) (f 7) H') ?_ ?_
  rotate_left
  · clear g g0 g1 g2 g7
    rintro g H' h
    obtain ⟨out, n, L, rfl, a⟩ := h.out
    have := a.rest
    simp only [Rw.pre_ok, List.append_nil] at this
    have g7 := a.row
    refine awp_all (fun _ => false) (fun _ => none) (by kernel_rfl) ?_
    simp -dsimp [g7]
    rw [← hGe]
    exact fin _ _ _ this.symm a.n0 a.n1
  refine awp_cut (fun _ => false) (fun _ => none) (fun f H' => H' = H ++ [Blk.pend] ∧ f 0 = .bp c 0 ∧ f 13 = Pk.sls all ∧ f 2 = U.sl items ∧ f 7 = nilS ∧ f 14 = I all.length ∧ f 15 = I 0) (by kernel_rfl) ?_ ?_
  · simp -dsimp [g0, g1, g2, g7]
  clear g g0 g1 g2 g7
  rintro g _ ⟨rfl, g0, g13, g2, g7, g14, g15⟩
  refine awp_block ?_
  refine awp_loopI (fun (i : Nat) f H' => OutM H c st br F (linesM st items (all.drop i)) (f 7) H' ∧ f 0 = .bp c 0 ∧ f 2 = U.sl items ∧ f 13 = Pk.sls all ∧ f 14 = I all.length ∧ f 15 = I i ∧ i ≤ all.length) (fun i => all.length - i) 0
    ⟨⟨[], n0, [], by rw [← hGe, ← hG0]; simp [ownB], h0, h1, by simpa using h0, by rw [g7]; exact (ownS_nil _).symm, by simp [hF]⟩, g0, g2, g13, g14, g15, by omega⟩ ?_
  clear g g0 g13 g2 g7 g14 g15
  rintro i g H' ⟨ho, g0, g2, g13, g14, g15, hi2⟩
  obtain ⟨out, n, L, rfl, oi⟩ := ho.out
  clear ho
  rw [← hGe]
  obtain ⟨hn0, hn1, hol, g7, hrest⟩ := oi
  refine awp_cut (fun _ => false) (fun _ => none) (fun f H' => H' = G n ++ outB out :: L ∧ f 0 = .bp c 0 ∧ f 2 = U.sl items ∧ f 13 = Pk.sls all ∧ f 14 = I all.length ∧ f 15 = I i ∧ f 7 = outS H.length out ∧ f 16 = Bo (decide ((i : Int) < all.length))) (by kernel_rfl) ?_ ?_
  · simp -dsimp [g0, g2, g13, g14, g15, g7]
  clear g g0 g2 g13 g14 g15 g7
  rintro g _ ⟨rfl, g0, g2, g13, g14, g15, g7, g16⟩
  refine awp_cut (fun _ => false) (fun _ => none) (fun f H' => H' = G n ++ outB out :: L ∧ f 0 = .bp c 0 ∧ f 2 = U.sl items ∧ f 13 = Pk.sls all ∧ f 14 = I all.length ∧ f 15 = I i ∧ f 7 = outS H.length out ∧ i < all.length) (by kernel_rfl) ?_ ?_
  · simp -dsimp [g16]
    refine condVW_introD (fun hlt => ?_) (fun hlt => ?_)
    · simp -dsimp [g0, g2, g13, g14, g15, g7]
      omega
    · rw [drop_end (by omega), linesM] at hrest
      simp -dsimp
      exact ⟨out, n, L, by rw [hGe], hn0, hn1, hol, g7, hrest⟩
  clear g g0 g2 g13 g14 g15 g7 g16
  rintro g _ ⟨rfl, g0, g2, g13, g14, g15, g7, hlt⟩
  rw [drop_cons hlt, linesM] at hrest
  have hgl := pk_get hlt
  have hlx : all[i]? = some all[i] := List.getElem?_eq_getElem hlt
  obtain ⟨l, hl⟩ : ∃ l, l = all[i] := ⟨_, rfl⟩
  rw [← hl] at hrest hgl hlx
  clear hl
  refine awp_cutA (fun f H' => OutM H c st br F (linesM st items (all.drop (i + 1))) (f 7) H' ∧ f 0 = .bp c 0 ∧ f 2 = U.sl items ∧ f 13 = Pk.sls all ∧ f 14 = I all.length ∧ f 15 = I i) ?_ ?_
  rotate_left
  · clear g g0 g2 g13 g14 g15 g7
    rintro g H' ⟨ho, g0, g2, g13, g14, g15⟩
    replace ho := Hid.mk ho
    refine awp_all (fun _ => false) (fun _ => none) (by kernel_rfl) ?_
    simp -dsimp [g0, g2, g13, g14, g15]
    exact ⟨i + 1, by omega, ho.out, wrapS (by omega), by omega⟩
  refine awp_block ?_
  -- own memory ahead of the line
  refine awp_under fun hNu => ?_
  obtain ⟨N, hN⟩ : ∃ N, N = G n ++ outB out :: L := ⟨_, rfl⟩
  have hNc : ∀ L2, (N ++ L2)[c]? = some (rwB st br n) := fun L2 => by rw [hN, List.append_assoc]; exact hGc _ _
  have hNl : N.length = H.length + (L.length + 1) := by rw [hN]; simp [hGl]
  rw [← hN] at hNu ⊢
  refine awp_cut (fun _ => false) (fun _ => none) (fun f H' => N = H' ∧ f 0 = .bp c 0 ∧ f 2 = U.sl items ∧ f 13 = Pk.sls all ∧ f 14 = I all.length ∧ f 15 = I i ∧ f 7 = outS H.length out ∧ f 9 = Pk.sl l) (by kernel_rfl) ?_ ?_
  · simp -dsimp [g0, g2, g13, g14, g15, g7, hlx]
  clear g g0 g2 g13 g14 g15 g7
  rintro g _ ⟨rfl, g0, g2, g13, g14, g15, g7, g9⟩
  refine awp_cut (fun _ => false) (fun _ => none) (fun f H' => H' = N ++ [.box 67 [I 1, nilS, Bo false, nilS]] ∧ f 0 = .bp c 0 ∧ f 2 = U.sl items ∧ f 13 = Pk.sls all ∧ f 14 = I all.length ∧ f 15 = I i ∧ f 7 = outS H.length out ∧ f 9 = Pk.sl l ∧ f 10 = .bp N.length 0) (by kernel_rfl) ?_ ?_
  · simp -dsimp [g0, g2, g13, g14, g15, g7, g9]
  clear g g0 g2 g13 g14 g15 g7 g9
  rintro g _ ⟨rfl, g0, g2, g13, g14, g15, g7, g9, g10⟩
  refine awp_spare 1 ?_
  have pk := fun H p h => pick_ok st br n p items hi H c h
  refine awp_cutA (fun f H' => ItsM st items l N l.length H' ∧ f 0 = .bp c 0 ∧ f 2 = U.sl items ∧ f 13 = Pk.sls all ∧ f 14 = I all.length ∧ f 15 = I i ∧ f 7 = outS H.length out ∧ f 10 = .bp N.length 0) ?_ ?_
  · refine awp_all (fun d => d == 31 || d == 33) (fun id => if id = 9 then some [(0, []), (1, []), (2, []), (3, []), (4, []), (5, [0, 1]), (6, []), (7, []), (8, []), (9, [])] else none) (by kernel_rfl) ?_
    simp -dsimp [g0, g2, g13, g14, g15, g7, g9, g10]
    refine loop_rule (hn := fun d => d == 31 || d == 33) (od := fun id => if id = 9 then some [(0, []), (1, []), (2, []), (3, []), (4, []), (5, [0, 1]), (6, []), (7, []), (8, []), (9, [])] else none) (fun (j : Nat) f H' => ItsM st items l N j H' ∧ f 0 = .bp c 0 ∧ f 2 = U.sl items ∧ f 13 = Pk.sls all ∧ f 14 = I all.length ∧ f 15 = I i ∧ f 7 = outS H.length out ∧ f 10 = .bp N.length 0 ∧ f 20 = Pk.sl l ∧ f 21 = I l.length ∧ f 22 = I j ∧ j ≤ l.length) (fun j => l.length - j) (by kernel_rfl) 0 (by
      simp [g0, g2, g13, g14, g15, g7, g9, g10]
      exact ⟨[], [], by simp [ownB], rfl, by simp⟩) ?_
    clear g g0 g2 g13 g14 g15 g7 g9 g10
    rintro j g _ ⟨⟨its, L2, rfl, hij, hpk⟩, g0, g2, g13, g14, g15, g7, g10, g20, g21, g22, hj⟩
    simp -dsimp [g0, g2, g13, g14, g15, g7, g10, g20, g21, g22]
    refine condVW_introD (fun hjt => ?_) (fun hjt => ?_)
    · rw [drop_cons hjt, pickAll] at hpk
      have hlj : l[j]? = some l[j] := List.getElem?_eq_getElem hjt
      obtain ⟨q, hq⟩ : ∃ q, q = l[j] := ⟨_, rfl⟩
      rw [← hq] at hpk hlj
      clear hq
      have hNx : ∀ X Y L3, (N ++ X :: Y :: L3)[N.length]? = some X := fun X Y L3 => by simp
      have hNy : ∀ X Y L3, (N ++ X :: Y :: L3)[N.length + 1]? = some Y := fun X Y L3 => by simp
      have pkq := fun H h => pk H q h
      simp only [Pk.cells] at pkq
      simp -dsimp [g0, g2, g13, g14, g15, g7, g10, g20, g21, g22, hlj]
      refine acallsW_of (pkq _ (hNc _)) ?_
      rintro _ _ ⟨rfl, rfl⟩
      cases hq : pickE st q items with
      | none =>
        rw [hq] at hpk
        simp only [Option.map_none] at hpk
        rw [← hpk] at hrest
        simp -dsimp
        rw [hN, List.append_assoc]
        exact finP _ _ _ (by rw [← hrest]; rfl)
      | some w =>
        rw [hq] at hpk
        simp -dsimp [g0, g2, g13, g14, g15, g7, g10, g20, g21, g22, hNx, hNy]
        refine appendVW_own (k := N.length + 1) (es := its.map fun x => [U x]) (by simp) (by simp; omega) (by simp; omega) ?_
        simp -dsimp [g0, g2, g13, g14, g15, g7, g10, g20, g21, g22, hNx, hNy]
        refine ⟨j + 1, by omega, ⟨its ++ [w], _, by simp; rfl, by simp [hij], ?_⟩, wrapS (by omega), by omega⟩
        rw [← hpk]
        simp [Option.map_map, Function.comp_def]
    · have hjl : l.drop j = [] := List.drop_eq_nil_of_le (by omega)
      simp -dsimp [g0, g2, g13, g14, g15, g7, g10]
      exact ⟨its, L2, rfl, by omega, by rw [List.drop_length, ← hpk, hjl]⟩
  clear g g0 g2 g13 g14 g15 g7 g9 g10
  rintro g _ ⟨⟨its, L2, rfl, hil, hpk⟩, g0, g2, g13, g14, g15, g7, g10⟩
  rw [List.drop_length, pickAll] at hpk
  simp only [Option.map_some, List.append_nil] at hpk
  rw [← hpk] at hrest
  simp only [] at hrest
  have hNx : ∀ X Y L3, (N ++ X :: Y :: L3)[N.length]? = some X := fun X Y L3 => by simp
  have hNy : ∀ X Y L3, (N ++ X :: Y :: L3)[N.length + 1]? = some Y := fun X Y L3 => by simp
  have w1 : IntKind.i64.wrap (1 + (its.length : Int)) = 1 + (its.length : Int) := wrapI (by omega) (by omega)
  have cadd := fun H h => add2_ok st br n (1 + its.length) hn0 hn1 (by omega) (by omega) H c h
  have hlw : ∀ X L3, lenV (N ++ X :: ownB 23 1 (its.map fun x => [U x]) :: L3) 1 (ownS (N.length + 1) (its.map fun x => [U x])) = some (its.length : Int) := fun X L3 => by
    rw [lenV_ownS (t := 23) (sz := 1) (hNy _ _ _)]; simp
  have hNcl : c < N.length := by omega
  have hNs : ∀ X L3, (N ++ L3).set c X = N.set c X ++ L3 := fun X L3 => by rw [List.set_append, if_pos hNcl]
  obtain ⟨m, hm⟩ : ∃ m, m = n + (1 + (its.length : Int)) := ⟨_, rfl⟩
  -- it is counted
  refine awp_cut (fun d => d == 43) (fun _ => none) (fun f H' => H' = N.set c (rwB st br m) ++ .box 67 [I 1, ownS (N.length + 1) (its.map fun x => [U x]), Bo false, nilS] :: ownB 23 1 (its.map fun x => [U x]) :: L2 ∧ addR (1 + its.length) n = .ok () m ∧ f 0 = .bp c 0 ∧ f 2 = U.sl items ∧ f 13 = Pk.sls all ∧ f 14 = I all.length ∧ f 15 = I i ∧ f 7 = outS H.length out ∧ f 10 = .bp N.length 0) (by kernel_rfl) ?_ ?_
  · simp -dsimp [g0, g2, g13, g14, g15, g7, g10, hNc, hNx, hNy, hlw, w1]
    refine rwW (cadd _ (hNc _)) (fun u m' hA h3 h4 => ?_) (fun e m' hA => ?_)
    · obtain ⟨rfl, hm2⟩ := addR_ok hA
      rw [hNs]
      simp -dsimp [g0, g2, g13, g14, g15, g7, g10]
      rw [hm]
      exact ⟨rfl, hA⟩
    · rw [hA] at hrest
      rw [hNs, hN]
      simp -dsimp
      rw [List.set_append, if_pos (by rw [hGl]; exact hcl), hGe, List.set_set, List.append_assoc, ← hGe]
      exact finP _ _ _ hrest.symm
  clear g g0 g2 g13 g14 g15 g7 g10
  rintro g _ ⟨rfl, hA, g0, g2, g13, g14, g15, g7, g10⟩
  obtain ⟨_, hm2⟩ := addR_ok hA
  rw [hA] at hrest
  simp only [Rw.bind_ok] at hrest
  -- its items are given away
  obtain ⟨N', hN'⟩ : ∃ N', N' = N.set c (rwB st br m) := ⟨_, rfl⟩
  have hN'l : N'.length = N.length := by rw [hN']; simp
  have hN'u : underH N'.length N' = true := by rw [hN'l, hN']; exact underH_set hNu rfl
  have hN'e : N' = G m ++ outB out :: L := by rw [hN', hN, List.set_append, if_pos (by rw [hGl]; exact hcl), hGe, List.set_set, ← hGe]
  rw [← hN', ← hN'l]
  refine awp_giveO hN'u 1 1 23 (its.map fun x => [U x]) (by rw [hN'l]; rfl) (ints_frzB its) ?_
  have hb : ∀ g' : Fr, g' = (fun s => (g s).frzS (N'.length + 1) 1 (its.map fun x => [U x])) → g' 0 = .bp c 0 ∧ g' 2 = U.sl items ∧ g' 13 = Pk.sls all ∧ g' 14 = I all.length ∧ g' 15 = I i ∧ g' 7 = outS H.length out ∧ g' 10 = .bp N'.length 0 := fun g' h => by
    subst h
    refine ⟨by simp [g0], by simp [g2], by simp [g13], by simp [g14], by simp [g15], ?_, by simp [g10, hN'l]⟩
    show (g 7).frzS _ _ _ = _
    rw [g7]
    exact frzS_ne (by omega)
  obtain ⟨g', hg'⟩ : ∃ g' : Fr, g' = (fun s => (g s).frzS (N'.length + 1) 1 (its.map fun x => [U x])) := ⟨_, rfl⟩
  rw [← hg']
  have := hb g' hg'
  clear hb hg' g0 g2 g13 g14 g15 g7 g10
  obtain ⟨g0, g2, g13, g14, g15, g7, g10⟩ := this
  simp only [List.map_cons, List.set_cons_zero, List.set_cons_succ, blkS_box, List.map_nil, frzS_own, frzS_v, hN'l]
  refine awp_weakbox N'.length 67 _ (Lk.mk 1 its false []).cells (by simp; rfl) (by
    rw [Lk.cells_eq]
    exact .cons (.refl _) (.cons (Weak.gvS _ _) (.cons (.refl _) (.cons (.nil 1) .nil)))) ?_
  obtain ⟨x, hx⟩ : ∃ x, x = Lk.mk 1 its false [] := ⟨_, rfl⟩
  rw [← hx] at hrest ⊢
  clear hx
  have hNx : ∀ X L3, (N' ++ X :: L3)[N'.length]? = some X := fun X L3 => by simp
  have fin2 : ∀ L3, OutM H c st br F (linesM st items (all.drop (i + 1))) (outS H.length (out ++ [x])) (G m ++ outB (out ++ [x]) :: L3) := fun L3 => ⟨out ++ [x], m, L3, by rw [hGe], by omega, by omega, by simp; omega, rfl, by rw [← hrest, Rw.pre_pre]⟩
  simp only [set_app_here]
  refine awp_all (fun d => d == 47) (fun _ => none) (by kernel_rfl) ?_
  simp only [Lk.cells_eq]
  simp -dsimp [g0, g2, g13, g14, g15, g7, g10, hNx]
  rw [hN'e]
  refine appendVW_own (k := H.length) (es := out.map Lk.cells) (by simp [hrog]) (by simp; omega) (by simp; omega) ?_
  simp -dsimp [g0, g2, g13, g14, g15, g7, g10, hrow]
  have := fin2 (L ++ .box 67 x.cells :: .gone :: L2.map (Blk.frzS (N.length + 1) 1 (its.map fun x => [U x])))
  simpa [outS, outB] using this
end Go.Proofs
namespace Go.Proofs
open Go.Mu
theorem iclone_ok (l : List Int) (hl : l.length ≤ 2^40) (H : List Blk) : ACalls Try.prog 88 [U.sl l] H (fun e H' => e = .ret (U.sl l) ∧ H' = H) := by
  refine acalls_under fun hu _ => acalls_tidy (acalls_weakE (acalls_of_vc (hn := fun d => d == 5 || d == 7) (od := fun _ => none) Try.func88 rfl (by kernel_rfl) ?_))
  have fin : ∀ L, WeakE (Tidy H fun e H' => e = AE.ret (U.sl l) ∧ H' = H) (.ret (.hs H.length 0 l.length l.length)) (H ++ .row 23 1 (l.map fun x => [U x]) :: L) := fun L => by
    refine tidy_weak (.refl _) ?_
    refine tidy_give1 hu 1 _ _ (ints_frzB l) ?_ ?_
    · simp [AV.frz, AV.under]
    · have : (AV.hs H.length 0 l.length l.length).frz H.length 1 (l.map fun x => [U x]) = U.sl l := by
        simp [AV.frz]
        exact List.take_of_length_le (by simp)
      rw [this]
      exact ⟨rfl, rfl⟩
  simp -dsimp
  refine slNilW_vs (fun hne => ?_) (fun he => ⟨?_, ?_⟩)
  · simp -dsimp
    refine appendVW_hs (es := []) (by simp) rfl rfl (by simp; omega) (by simp; omega) ?_
    simp -dsimp
    simpa using fin []
  · have : l = [] := by simpa using he
    simp -dsimp
    subst this
    refine tidy_weak (.nil 1) ?_
    exact tidy_now rfl ⟨rfl, rfl⟩
  · simp -dsimp
    refine appendVW_hs (es := []) (by simp) rfl rfl (by simp; omega) (by simp; omega) ?_
    simp -dsimp
    simpa using fin []
theorem subs_frzB (l : List (List Lk)) : (l.map fun a => [Lk.sl a]).flatten.all AV.frzB = true := by
  rw [List.all_eq_true]
  intro c hc
  obtain ⟨e, he, hce⟩ := List.mem_flatten.1 hc
  obtain ⟨x, _, rfl⟩ := List.mem_map.1 he
  simp at hce
  subst hce
  rfl
/-- What is copied so far. -/
def CloM (H : List Blk) (l : List Lk) (x : AV) (H' : List Blk) : Prop := ∃ L, H' = H ++ outB l :: L ∧ x = outS H.length l
def SubM (N : List Blk) (b : List AV) (l : List (List Lk)) (x : AV) (H' : List Blk) : Prop := ∃ L, H' = N ++ .box 67 b :: ownB 58 1 (l.map fun a => [Lk.sl a]) :: L ∧ x = ownS (N.length + 1) (l.map fun a => [Lk.sl a])
theorem tidy_outJ {H : List Blk} {R : AE → List Blk → Prop} (G : List Blk) (hg : G.length = H.length) (hgu : underH H.length G = true) (l : List Lk) (L : List Blk) (j : Nat) (hj : L[j]? = some (outB l)) (h : R (.ret (Lk.sl l)) G) : WeakE (Tidy H R) (.ret (outS (H.length + j) l)) (G ++ L) := by
  by_cases hw : l = []
  · subst hw
    refine tidy_weak (.nil 4) ?_
    exact tidy_to (by omega) (fun _ => by rw [hg]; exact hgu) rfl h
  · have hne : l.map Lk.cells ≠ [] := by simpa using hw
    refine tidy_weak (.refl _) ?_
    unfold outB at hj
    rw [ownB, if_neg hne] at hj
    have hfz : (outS (H.length + j) l).frz (G.length + j) 4 (l.map Lk.cells) = Lk.sl l := by rw [hg]; exact frz_own _ _ _ hne
    refine ⟨_, _, .step _ _ (G.length + j) 4 67 (l.map Lk.cells) _ _ (by rw [List.getElem?_append_right (by omega)]; simpa using hj) (lks_frzB l) (.refl _ _), G, (L.map (Blk.frz (G.length + j) 4 (l.map Lk.cells))).set j .gone, ?_, by omega, fun _ => by rw [hg]; exact hgu, ?_, ?_⟩
    · exact frzH_app (sz := 4) (es := l.map Lk.cells) (H := G) (L := L) j (by rw [hg]; exact hgu)
    · rw [hfz]; rfl
    · rw [hfz]; exact h
theorem tidy_out {H : List Blk} {R : AE → List Blk → Prop} (hu : underH H.length H = true) (G : List Blk) (hg : G.length = H.length) (hgu : underH H.length G = true) (l : List Lk) (L : List Blk) (h : R (.ret (Lk.sl l)) G) : WeakE (Tidy H R) (.ret (outS H.length l)) (G ++ outB l :: L) :=
  tidy_outJ G hg hgu l (outB l :: L) 0 rfl h
theorem clone_ok (m : Nat) : ∀ (l : List Lk), lksCount l < m → lksCount l ≤ 2^40 → ∀ (H : List Blk), ACalls Try.prog 82 [Lk.sl l] H (fun e H' => e = .ret (Lk.sl l) ∧ H' = H) := by
  induction m with
  | zero => intro l h; omega
  | succ m ih =>
    intro l hm hc H
    refine acalls_under fun hu _ => acalls_tidy (acalls_weakE (acalls_spare 1 (acalls_of_awp Try.func82 rfl (by kernel_rfl) ?_)))
    have hlen := lks_len l
    refine awp_cut (fun _ => false) (fun _ => none) (fun f H' => H' = H ++ [Blk.pend] ∧ f 0 = Lk.sl l) (by kernel_rfl) ?_ ?_
    · simp -dsimp
    rintro g _ ⟨rfl, g0⟩
    refine awp_cut (fun _ => false) (fun _ => none) (fun f H' => H' = H ++ [Blk.pend] ∧ f 0 = Lk.sl l ∧ f 3 = nilS) (by kernel_rfl) ?_ ?_
    · simp -dsimp [g0]
    clear g g0
    rintro g _ ⟨rfl, g0, g3⟩
    refine awp_cutA (fun f H' => CloM H l (f 3) H') ?_ ?_
    rotate_left
    · clear g g0 g3
      rintro g _ ⟨L, rfl, g3⟩
      refine awp_all (fun _ => false) (fun _ => none) (by kernel_rfl) ?_
      simp -dsimp [g3]
      exact tidy_out hu H rfl hu l L ⟨rfl, rfl⟩
    refine awp_cut (fun _ => false) (fun _ => none) (fun f H' => H' = H ++ [Blk.pend] ∧ f 9 = Lk.sl l ∧ f 3 = nilS ∧ f 10 = I l.length ∧ f 11 = I 0) (by kernel_rfl) ?_ ?_
    · simp -dsimp [g0, g3]
    clear g g0 g3
    rintro g _ ⟨rfl, g9, g3, g10, g11⟩
    refine awp_block ?_
    refine awp_loopI (fun (i : Nat) f H' => CloM H (l.take i) (f 3) H' ∧ f 9 = Lk.sl l ∧ f 10 = I l.length ∧ f 11 = I i ∧ i ≤ l.length) (fun i => l.length - i) 0
      ⟨⟨[], by simp [ownB], by rw [g3]; exact (ownS_nil _).symm⟩, g9, g10, g11, by omega⟩ ?_
    clear g g9 g3 g10 g11
    rintro i g _ ⟨⟨L, rfl, g3⟩, g9, g10, g11, hi⟩
    obtain ⟨out, hout⟩ : ∃ out, out = l.take i := ⟨_, rfl⟩
    have hol : out.length = i := by rw [hout]; simp; omega
    rw [← hout] at g3 ⊢
    refine awp_cut (fun _ => false) (fun _ => none) (fun f H' => H' = H ++ outB out :: L ∧ f 9 = Lk.sl l ∧ f 10 = I l.length ∧ f 11 = I i ∧ f 3 = outS H.length out ∧ f 12 = Bo (decide ((i : Int) < l.length))) (by kernel_rfl) ?_ ?_
    · simp -dsimp [g9, g10, g11, g3]
    clear g g9 g10 g11 g3
    rintro g _ ⟨rfl, g9, g10, g11, g3, g12⟩
    refine awp_cut (fun _ => false) (fun _ => none) (fun f H' => H' = H ++ outB out :: L ∧ f 9 = Lk.sl l ∧ f 10 = I l.length ∧ f 11 = I i ∧ f 3 = outS H.length out ∧ i < l.length) (by kernel_rfl) ?_ ?_
    · simp -dsimp [g12]
      refine condVW_introD (fun hlt => ?_) (fun hlt => ?_)
      · simp -dsimp [g9, g10, g11, g3]
        omega
      · have : out = l := by rw [hout]; exact List.take_of_length_le (by omega)
        simp -dsimp [g3]
        exact ⟨L, by rw [this], by rw [this]⟩
    clear g g9 g10 g11 g3 g12
    rintro g _ ⟨rfl, g9, g10, g11, g3, hlt⟩
    have hgx := lks_get hlt
    have hcx := Lk.count_eq l[i]
    have hlx : l[i]? = some l[i] := List.getElem?_eq_getElem hlt
    have htk := take_succ' hlt
    obtain ⟨x, hx⟩ : ∃ x, x = l[i] := ⟨_, rfl⟩
    rw [← hx] at hgx hcx hlx htk
    rw [← hout] at htk
    clear hx
    have hls := lkss_len x.subs
    refine awp_cutA (fun f H' => CloM H (l.take (i + 1)) (f 3) H' ∧ f 9 = Lk.sl l ∧ f 10 = I l.length ∧ f 11 = I i) ?_ ?_
    rotate_left
    · clear g g9 g10 g11 g3
      rintro g H' ⟨ho, g9, g10, g11⟩
      replace ho := Hid.mk ho
      refine awp_all (fun _ => false) (fun _ => none) (by kernel_rfl) ?_
      simp -dsimp [g9, g10, g11]
      exact ⟨i + 1, by omega, ho.out, wrapS (by omega), by omega⟩
    refine awp_block ?_
    rw [htk]
    -- own memory ahead of the node
    refine awp_under fun hNu => ?_
    obtain ⟨N, hN⟩ : ∃ N, N = H ++ outB out :: L := ⟨_, rfl⟩
    have hNl : N.length = H.length + (L.length + 1) := by rw [hN]; simp
    rw [← hN] at hNu ⊢
    obtain ⟨X, hX⟩ : ∃ X, X = [I x.kind, U.sl x.items, Bo x.taken, Lk.sls x.subs] := ⟨_, rfl⟩
    refine awp_cut (fun _ => false) (fun _ => none) (fun f H' => H' = N ++ [.box 67 X] ∧ f 9 = Lk.sl l ∧ f 10 = I l.length ∧ f 11 = I i ∧ f 3 = outS H.length out ∧ f 5 = .bp N.length 0) (by kernel_rfl) ?_ ?_
    · simp -dsimp [g9, g10, g11, g3, hlx, hX]
    clear g g9 g10 g11 g3
    rintro g _ ⟨rfl, g9, g10, g11, g3, g5⟩
    have hic := fun H => iclone_ok x.items (by omega) H
    refine awp_cut (fun _ => false) (fun _ => none) (fun f H' => H' = N ++ [.box 67 X] ∧ f 9 = Lk.sl l ∧ f 10 = I l.length ∧ f 11 = I i ∧ f 3 = outS H.length out ∧ f 5 = .bp N.length 0) (by kernel_rfl) ?_ ?_
    · rw [hX]
      simp -dsimp [g9, g10, g11, g3, g5]
      refine acallsW_det (hic _) ?_
      simp -dsimp [g9, g10, g11, g3, g5]
    clear g g9 g10 g11 g3 g5
    rintro g _ ⟨rfl, g9, g10, g11, g3, g5⟩
    refine awp_cut (fun _ => false) (fun _ => none) (fun f H' => H' = N ++ [.box 67 X] ∧ f 9 = Lk.sl l ∧ f 10 = I l.length ∧ f 11 = I i ∧ f 3 = outS H.length out ∧ f 5 = .bp N.length 0 ∧ f 6 = nilS) (by kernel_rfl) ?_ ?_
    · simp -dsimp [g9, g10, g11, g3, g5]
    clear g g9 g10 g11 g3 g5
    rintro g _ ⟨rfl, g9, g10, g11, g3, g5, g6⟩
    refine awp_spare 1 ?_
    refine awp_cutA (fun f H' => SubM N X x.subs (f 6) H' ∧ f 9 = Lk.sl l ∧ f 10 = I l.length ∧ f 11 = I i ∧ f 3 = outS H.length out ∧ f 5 = .bp N.length 0) ?_ ?_
    · refine awp_all (fun d => d == 30) (fun _ => none) (by kernel_rfl) ?_
      simp -dsimp [g9, g10, g11, g3, g5, g6, hX]
      refine loop_rule (hn := fun d => d == 30) (od := fun _ => none) (fun (j : Nat) f H' => SubM N X (x.subs.take j) (f 6) H' ∧ f 9 = Lk.sl l ∧ f 10 = I l.length ∧ f 11 = I i ∧ f 3 = outS H.length out ∧ f 5 = .bp N.length 0 ∧ f 20 = Lk.sls x.subs ∧ f 21 = I x.subs.length ∧ f 22 = I j ∧ j ≤ x.subs.length) (fun j => x.subs.length - j) (by kernel_rfl) 0 (by
        simp [g9, g10, g11, g3, g5, g6]
        exact ⟨[], by simp [ownB, hX], by simp⟩) ?_
      clear g g9 g10 g11 g3 g5 g6
      rintro j g _ ⟨⟨L2, rfl, g6⟩, g9, g10, g11, g3, g5, g20, g21, g22, hj⟩
      obtain ⟨ds, hds⟩ : ∃ ds, ds = x.subs.take j := ⟨_, rfl⟩
      have hdl : ds.length = j := by rw [hds]; simp; omega
      rw [← hds] at g6 ⊢
      simp -dsimp [g9, g10, g11, g3, g5, g6, g20, g21, g22]
      refine condVW_introD (fun hjt => ?_) (fun hjt => ?_)
      · have hgs := lkss_get hjt
        have hlj : x.subs[j]? = some x.subs[j] := List.getElem?_eq_getElem hjt
        have htj := take_succ' hjt
        obtain ⟨a, ha⟩ : ∃ a, a = x.subs[j] := ⟨_, rfl⟩
        rw [← ha] at hgs hlj htj
        rw [← hds] at htj
        clear ha
        have cr := fun H => ih a (by omega) (by omega) H
        simp -dsimp [g9, g10, g11, g3, g5, g6, g20, g21, g22, hlj]
        refine acallsW_det (cr _) ?_
        simp -dsimp [g9, g10, g11, g3, g5, g6, g20, g21, g22]
        refine appendVW_own (k := N.length + 1) (es := ds.map fun a => [Lk.sl a]) (by simp) (by simp; omega) (by simp; omega) ?_
        simp -dsimp [g9, g10, g11, g3, g5, g6, g20, g21, g22]
        exact ⟨j + 1, by omega, ⟨L2, by rw [htj]; simp, by rw [htj]; simp⟩, wrapS (by omega), by omega⟩
      · have : ds = x.subs := by rw [hds]; exact List.take_of_length_le (by omega)
        simp -dsimp [g9, g10, g11, g3, g5, g6]
        exact ⟨L2, by rw [this, hX], by rw [this]⟩
    clear g g9 g10 g11 g3 g5 g6
    rintro g _ ⟨⟨L2, rfl, g6⟩, g9, g10, g11, g3, g5⟩
    -- what lies in it is given away
    refine awp_giveO hNu 1 1 58 (x.subs.map fun a => [Lk.sl a]) rfl (subs_frzB _) ?_
    refine awp_weak (f' := fun s => if s = 6 then Lk.sls x.subs else (g s).frzS (N.length + 1) 1 (x.subs.map fun a => [Lk.sl a])) (fun s => ?_) ?_
    · show Weak _ (if s = 6 then _ else _)
      split
      · rename_i h; subst h
        rw [g6, frzS_own]; exact Weak.gvS _ _
      · exact .refl _
    obtain ⟨g', hg'⟩ : ∃ g' : Fr, g' = fun s => if s = 6 then Lk.sls x.subs else (g s).frzS (N.length + 1) 1 (x.subs.map fun a => [Lk.sl a]) := ⟨_, rfl⟩
    rw [← hg']
    have : g' 9 = Lk.sl l ∧ g' 10 = I l.length ∧ g' 11 = I i ∧ g' 3 = outS H.length out ∧ g' 5 = .bp N.length 0 ∧ g' 6 = Lk.sls x.subs := by
      subst hg'
      refine ⟨by simp [g9], by simp [g10], by simp [g11], ?_, by simp [g5], by simp⟩
      show (g 3).frzS _ _ _ = _
      rw [g3]
      exact frzS_ne (by omega)
    clear hg' g9 g10 g11 g3 g5 g6
    obtain ⟨g9, g10, g11, g3, g5, g6⟩ := this
    rw [hX]
    simp only [List.map_cons, List.set_cons_zero, List.set_cons_succ, blkS_box, List.map_nil, frzS_vs, frzS_v]
    obtain ⟨L3, hL3⟩ : ∃ L3, L3 = Blk.gone :: L2.map (Blk.frzS (N.length + 1) 1 (x.subs.map fun a => [Lk.sl a])) := ⟨_, rfl⟩
    rw [← hL3]
    have hNx : ∀ X L3, (N ++ X :: L3)[N.length]? = some X := fun X L3 => by simp
    have hNs : ∀ X Y L3, (N ++ X :: L3).set N.length Y = N ++ Y :: L3 := fun X Y L3 => by simp
    refine awp_cut (fun _ => false) (fun _ => none) (fun f H' => H' = N ++ .box 67 x.cells :: L3 ∧ f 9 = Lk.sl l ∧ f 10 = I l.length ∧ f 11 = I i ∧ f 3 = outS H.length out ∧ f 5 = .bp N.length 0) (by kernel_rfl) ?_ ?_
    · simp -dsimp [g9, g10, g11, g3, g5, g6, hNx, hNs]
    clear g' g9 g10 g11 g3 g5 g6
    rintro g _ ⟨rfl, g9, g10, g11, g3, g5⟩
    refine awp_all (fun d => d == 37) (fun _ => none) (by kernel_rfl) ?_
    simp only [Lk.cells_eq]
    simp -dsimp [g9, g10, g11, g3, g5, hNx]
    rw [hN]
    refine appendVW_own (k := H.length) (es := out.map Lk.cells) (by simp) (by simp; omega) (by simp; omega) ?_
    simp -dsimp [g9, g10, g11, g3, g5]
    refine ⟨L ++ .box 67 x.cells :: L3, by simp [outB], by simp [outS]⟩
end Go.Proofs
namespace Go.Proofs
open Go.Mu
/-! ### How much there is of terms -/
mutual
def Tm.count : Tm → Nat
  | .mk _ i _ s => 1 + pkCount i + tmssCount s
def tmsCount : List Tm → Nat
  | [] => 0
  | x :: l => x.count + tmsCount l
def tmssCount : List (List Tm) → Nat
  | [] => 0
  | a :: l => 1 + tmsCount a + tmssCount l
end
theorem Tm.count_eq (x : Tm) : x.count = 1 + pkCount x.lines + tmssCount x.subs := by cases x; simp [Tm.count, Tm.lines, Tm.subs]
theorem tmsCount_drop {l : List Tm} {i : Nat} (h : i < l.length) : tmsCount (l.drop i) = l[i].count + tmsCount (l.drop (i + 1)) := by rw [drop_cons h, tmsCount]
theorem tmssCount_drop {l : List (List Tm)} {i : Nat} (h : i < l.length) : tmssCount (l.drop i) = 1 + tmsCount l[i] + tmssCount (l.drop (i + 1)) := by rw [drop_cons h, tmssCount]
theorem tms_len (l : List Tm) : l.length ≤ tmsCount l := by
  induction l with
  | nil => simp
  | cons n l ih => simp only [List.length_cons, tmsCount, Tm.count_eq]; omega
theorem tmss_len (l : List (List Tm)) : l.length ≤ tmssCount l := by
  induction l with
  | nil => simp
  | cons n l ih => simp only [List.length_cons, tmssCount]; omega
theorem tmsCount_le (l : List Tm) (i : Nat) : tmsCount (l.drop i) ≤ tmsCount l := by
  induction l generalizing i with
  | nil => simp
  | cons n l ih => cases i with
    | zero => simp
    | succ i => simp only [List.drop_succ_cons, tmsCount]; have := ih i; omega
theorem tmssCount_le (l : List (List Tm)) (i : Nat) : tmssCount (l.drop i) ≤ tmssCount l := by
  induction l generalizing i with
  | nil => simp
  | cons n l ih => cases i with
    | zero => simp
    | succ i => simp only [List.drop_succ_cons, tmssCount]; have := ih i; omega
theorem tms_get {l : List Tm} {i : Nat} (h : i < l.length) : l[i].count ≤ tmsCount l := by
  have h1 := tmsCount_drop h
  have h2 := tmsCount_le l i
  omega
theorem tmss_get {l : List (List Tm)} {i : Nat} (h : i < l.length) : 1 + tmsCount l[i] ≤ tmssCount l := by
  have h1 := tmssCount_drop h
  have h2 := tmssCount_le l i
  omega
theorem tmss_at {l : List (List Tm)} {i : Nat} {u : List Tm} (h : l[i]? = some u) : 1 + tmsCount u ≤ tmssCount l := by
  obtain ⟨hl, rfl⟩ := List.getElem?_eq_some_iff.1 h
  exact tmss_get hl
/-! ### What is made -/
def ofO (x : Lk) (kind : Int) : Option (List Lk) := if x.kind = kind then x.subs[0]? else none
def itemsM (t : Tm) (x : Lk) (n : Int) : Rw (List Int) := if 0 < t.lines.length then (addR 1 n).bind fun _ m => .ok [] m else (addR (1 + x.items.length) n).bind fun _ m => .ok x.items m
def sameM (x : Lk) (deep : Nat) (n : Int) : Rw (List Lk) :=
  if (lksTop deep [x] (0, 0)).1 ≠ 0 then .err (lksTop deep [x] (0, 0)).1 else (addR (lksTop deep [x] (0, 0)).2 n).bind fun _ m => .ok [x] m
/-- Something there, or an error. -/
def Rw.get {α β : Type} (x : Option α) (f : α → Rw β) : Rw β := match x with | none => .err 2 | some a => f a
@[simp] theorem Rw.get_none {α β : Type} (f : α → Rw β) : Rw.get none f = .err 2 := (rfl)
@[simp] theorem Rw.get_some {α β : Type} (a : α) (f : α → Rw β) : Rw.get (some a) f = f a := (rfl)
abbrev Rec := List Tm → Nat → List Lk → Int → Rw (List Lk)
section
variable (rec : Rec) (st : Int) (br : Bool)
def branchM (t : Tm) (deep : Nat) (x : Lk) (n : Int) : Rw (List Lk) :=
  Rw.get (ofO x 2) fun list => if t.subs.length ≠ 2 then .err 2 else
    (linesM st x.items t.lines n).bind fun out n1 => (itemsM t x n1).bind fun its n2 =>
      Rw.get (t.subs[if x.taken then 0 else 1]?) fun u => (rec u (deep + 1) list n2).bind fun body n3 => .ok (out ++ [.mk 2 its x.taken [body]]) n3
def takenM (t : Tm) (deep : Nat) (x : Lk) (n : Int) : Rw (List Lk) :=
  Rw.get (ofO x 2) fun list => if x.taken ≠ t.taken then .err 2 else
    (linesM st x.items t.lines n).bind fun out n1 => Rw.get (t.subs[0]?) fun u => (rec u deep list n1).pre out
def loopGo (t : Tm) (deep : Nat) : List Lk → Int → Rw (List Lk)
  | [], n => .ok [] n
  | y :: l, n => Rw.get (ofO y 2) fun list => (linesM st y.items t.lines n).bind fun a n1 => (itemsM t y n1).bind fun its n2 =>
      (if y.taken then Rw.get (t.subs[0]?) fun u => rec u (deep + 2) list n2 else .ok [] n2).bind fun body n3 =>
        (loopGo t deep l n3).pre (a ++ [.mk 2 its y.taken [body]])
def loopM (t : Tm) (deep : Nat) (x : Lk) (n : Int) : Rw (List Lk) :=
  (addR 1 n).bind fun _ n1 => Rw.get (ofO x 3) fun l => (loopGo rec st t deep l n1).bind fun out n2 => Rw.get (t.subs[0]?) fun _ => .ok [.mk 3 [] false [out]] n2
def roundsGo (deep : Nat) : List (List Tm) → List (List Lk) → Int → Rw (List Lk)
  | _, [], n => .ok [] n
  | [], _ :: _, n => .err 2
  | u :: ts, s :: ss, n => (rec u deep s n).bind fun a n1 => (roundsGo deep ts ss n1).pre a
def roundsM (t : Tm) (deep : Nat) (x : Lk) (n : Int) : Rw (List Lk) :=
  if x.kind ≠ 4 ∨ t.subs.length < x.subs.length ∨ (x.subs.length < t.subs.length ∧ br = false) then .err 2 else roundsGo rec deep t.subs x.subs n
def behindGo : List Tm → Int → Rw (List Lk)
  | [], n => .ok [] n
  | y :: l, n => (linesM st [] y.lines n).bind fun a n1 => (behindGo l n1).pre a
def callM (t : Tm) (deep : Nat) (x : Lk) (n : Int) : Rw (List Lk) :=
  Rw.get (ofO x 5) fun list => Rw.get (t.subs[1]?) fun behind => (linesM st x.items t.lines n).bind fun out n1 =>
    Rw.get (t.subs[0]?) fun u => (rec u deep list n1).bind fun body n2 => if br = true ∧ list.length < u.length then .ok (out ++ body) n2 else (behindGo st behind n2).pre (out ++ body)
def eachGo (t : Tm) (deep : Nat) : List (List Lk) → Int → Rw (List (List Lk))
  | [], n => .ok [] n
  | s :: l, n => Rw.get (t.subs[0]?) fun u => (rec u (deep + 1) s n).bind fun a n1 => (eachGo t deep l n1).pre [a]
def eachM (t : Tm) (deep : Nat) (x : Lk) (n : Int) : Rw (List Lk) :=
  if x.kind ≠ 4 then .err 2 else (addR 1 n).bind fun _ n1 => (eachGo rec t deep x.subs n1).bind fun ss n2 => .ok [.mk 4 [] false ss] n2
/-- What comes of a node by a term. -/
def nodeM (t : Tm) (deep : Nat) (x : Lk) (n : Int) : Rw (List Lk) :=
  if t.kind = 1 then sameM x deep n
  else if t.kind = 2 then linesM st x.items t.lines n
  else if t.kind = 3 then branchM rec st t deep x n
  else if t.kind = 4 then takenM rec st t deep x n
  else if t.kind = 5 then loopM rec st t deep x n
  else if t.kind = 6 then roundsM rec br t deep x n
  else if t.kind = 7 then callM rec st br t deep x n
  else if t.kind = 8 then .ok [] n
  else if t.kind = 9 then eachM rec t deep x n
  else .err 2
def goM (deep : Nat) : List Tm → List Lk → Int → Rw (List Lk)
  | _, [], n => .ok [] n
  | [], _ :: _, n => .err 2
  | t :: ts, x :: l, n => (nodeM rec st br t deep x n).bind fun a n1 => (goM deep ts l n1).pre a
end
def listM (st : Int) (br : Bool) : Nat → Rec
  | 0 => fun _ _ _ _ => .err 2
  | m + 1 => fun t deep l n => if t.length < l.length ∨ (l.length < t.length ∧ br = false) then .err 2 else goM (listM st br m) st br deep t l n
/-! ### All that is made was counted -/
def Adds {α : Type} (n : Int) (r : Rw (List α)) : Prop := ∀ out m, r = .ok out m → n + out.length ≤ m
theorem adds_err {α : Type} (n e : Int) : Adds n (Rw.err e : Rw (List α)) := fun out m h => by cases h
theorem adds_ok {α : Type} {n m : Int} {o : List α} (h : n + o.length ≤ m) : Adds n (.ok o m) := fun out m' e => by cases e; exact h
theorem adds_pre {α : Type} {n n1 : Int} {d : List α} {r : Rw (List α)} (h : Adds n1 r) (hd : n + d.length ≤ n1) : Adds n (r.pre d) := fun out m e => by
  cases r with
  | err x => cases e
  | ok o m' =>
    rw [Rw.pre_ok] at e
    injection e with e1 e2
    subst e1 e2
    have := h o _ rfl
    rw [List.length_append]
    omega
theorem adds_bind {α β : Type} {n n1 : Int} {r : Rw α} {f : α → Int → Rw (List β)} (h : ∀ a m, r = .ok a m → Adds n (f a m)) : Adds n (r.bind f) := by
  cases r with
  | err e => exact adds_err _ _
  | ok a m => exact h a m rfl
theorem adds_get {α β : Type} {n : Int} {x : Option α} {f : α → Rw (List β)} (h : ∀ a, x = some a → Adds n (f a)) : Adds n (Rw.get x f) := by
  cases x with
  | none => exact adds_err _ _
  | some a => exact h a rfl
theorem adds_lines (st : Int) (items : List Int) : ∀ (ls : List (List Pk)) (n : Int), Adds n (linesM st items ls n)
  | [], n => adds_ok (by simp)
  | l :: ls, n => by
    rw [linesM]
    split
    · exact adds_err _ _
    · refine adds_bind (n1 := 0) fun _ m hm => ?_
      obtain ⟨rfl, _⟩ := addR_ok hm
      exact adds_pre (adds_lines st items ls _) (by simp; omega)
theorem items_ge {t : Tm} {x : Lk} {n m : Int} {its : List Int} (h : itemsM t x n = .ok its m) : n + 1 ≤ m := by
  unfold itemsM at h
  split at h
  · cases ha : addR 1 n with
    | err e => rw [ha] at h; cases h
    | ok u k => rw [ha] at h; cases h; have := (addR_ok ha).1; omega
  · cases ha : addR (1 + x.items.length) n with
    | err e => rw [ha] at h; cases h
    | ok u k => rw [ha] at h; cases h; have := (addR_ok ha).1; omega
theorem walk_ge (m : Nat) : (∀ (l : List Lk), lksCount l ≤ m → ∀ deep s, (lksGo deep l s).1 = 0 → s.2 + l.length ≤ (lksGo deep l s).2) ∧ (∀ (l : List (List Lk)), lkssCount l ≤ m → ∀ deep s, (lkssGo deep l s).1 = 0 → s.2 ≤ (lkssGo deep l s).2) := by
  have hadd : ∀ (k : Int) (s : CS), 0 ≤ k → (addW k s).1 = 0 → s.1 = 0 ∧ (addW k s).2 = s.2 + k := fun k s hk h => by
    unfold addW at h ⊢
    split at h
    · rename_i h0; exact absurd h h0
    · rename_i h0
      split at h
      · cases h
      · rename_i h1
        rw [if_neg h0, if_neg h1]
        exact ⟨by simpa using h0, rfl⟩
  induction m with
  | zero =>
    refine ⟨fun l hl deep s h => ?_, fun l hl deep s h => ?_⟩
    · have := lks_len l; obtain rfl : l = [] := List.eq_nil_of_length_eq_zero (by omega); rw [lksGo]; simp
    · have := lkss_len l; obtain rfl : l = [] := List.eq_nil_of_length_eq_zero (by omega); rw [lkssGo]; simp
  | succ m ih =>
    refine ⟨fun l => ?_, fun l => ?_⟩
    · induction l with
      | nil => intro _ deep s h; rw [lksGo]; simp
      | cons x l ihl =>
        intro hl deep s h
        simp only [lksCount] at hl
        have hx := Lk.count_eq x
        rw [lksGo] at h ⊢
        have h2 := ihl (by omega) deep _ h
        have hz : (x.walk deep s).1 = 0 := Classical.byContradiction fun hne => by rw [lksGo_keep _ _ hne] at h; exact hne h
        rw [Lk.walk_eq] at hz h2 ⊢
        have h3 := ih.2 x.subs (by omega) _ _ hz
        have hz2 : (addW (min (x.items.length : Int) 1000001) (addW 1 s)).1 = 0 := Classical.byContradiction fun hne => by rw [lkssGo_keep _ _ hne] at hz; exact hne hz
        obtain ⟨e1, e2⟩ := hadd _ _ (by omega) hz2
        obtain ⟨e3, e4⟩ := hadd _ _ (by omega) e1
        simp only [List.length_cons]
        omega
    · induction l with
      | nil => intro _ deep s h; rw [lkssGo]; simp
      | cons a l ihl =>
        intro hl deep s h
        simp only [lkssCount] at hl
        rw [lkssGo_cons] at h ⊢
        have h2 := ihl (by omega) deep _ h
        have hz : (lksTop deep a s).1 = 0 := Classical.byContradiction fun hne => by rw [lkssGo_keep _ _ hne] at h; exact hne h
        have h3 : s.2 ≤ (lksTop deep a s).2 := by
          unfold lksTop at hz ⊢
          split at hz
          · rename_i h0; rw [if_pos h0]; exact Int.le_refl _
          · rename_i h0
            split at hz
            · cases hz
            · rename_i h1
              rw [if_neg h0, if_neg h1]
              have := ih.1 a (by omega) deep s hz
              omega
        omega
theorem adds_same (x : Lk) (deep : Nat) (n : Int) : Adds n (sameM x deep n) := by
  unfold sameM
  split
  · exact adds_err _ _
  · rename_i h
    have h : (lksTop deep [x] (0, 0)).1 = 0 := by simpa using h
    refine adds_bind (n1 := 0) fun _ m hm => ?_
    obtain ⟨rfl, _⟩ := addR_ok hm
    refine adds_ok ?_
    have : 1 ≤ (lksTop deep [x] (0, 0)).2 := by
      unfold lksTop at h ⊢
      rw [if_neg (by simp)] at h ⊢
      split at h
      · cases h
      · rename_i h1
        rw [if_neg h1]
        have := (walk_ge _).1 [x] (Nat.le_refl _) deep (0, 0) h
        simpa using this
    simp
    omega
section
variable {rec : Rec} {st : Int} {br : Bool} (hr : ∀ t deep l n, Adds n (rec t deep l n))
include hr
theorem adds_branch (t : Tm) (deep : Nat) (x : Lk) (n : Int) : Adds n (branchM rec st t deep x n) := by
  unfold branchM
  refine adds_get fun list _ => ?_
  split
  · exact adds_err _ _
  refine adds_bind (n1 := 0) fun out n1 h1 => ?_
  have h1 := adds_lines _ _ _ _ _ _ h1
  refine adds_bind (n1 := 0) fun its n2 h2 => ?_
  have h2 := items_ge h2
  refine adds_get fun u _ => ?_
  refine adds_bind (n1 := 0) fun body n3 h3 => ?_
  have h3 := hr _ _ _ _ _ _ h3
  refine adds_ok ?_
  simp
  omega
theorem adds_taken (t : Tm) (deep : Nat) (x : Lk) (n : Int) : Adds n (takenM rec st t deep x n) := by
  unfold takenM
  refine adds_get fun list _ => ?_
  split
  · exact adds_err _ _
  refine adds_bind (n1 := 0) fun out n1 h1 => ?_
  have h1 := adds_lines _ _ _ _ _ _ h1
  refine adds_get fun u _ => ?_
  exact adds_pre (hr _ _ _ _) h1
theorem adds_loopGo (t : Tm) (deep : Nat) : ∀ (l : List Lk) (n : Int), Adds n (loopGo rec st t deep l n)
  | [], n => adds_ok (by simp)
  | y :: l, n => by
    rw [loopGo]
    refine adds_get fun list _ => ?_
    refine adds_bind (n1 := 0) fun out n1 h1 => ?_
    have h1 := adds_lines _ _ _ _ _ _ h1
    refine adds_bind (n1 := 0) fun its n2 h2 => ?_
    have h2 := items_ge h2
    refine adds_bind (n1 := 0) fun body n3 h3 => ?_
    have h3 : n2 ≤ n3 := by
      split at h3
      · cases hs : t.subs[0]? with
        | none => rw [hs] at h3; cases h3
        | some u =>
          rw [hs] at h3
          have := hr _ _ _ _ _ _ h3
          omega
      · cases h3; exact Int.le_refl _
    exact adds_pre (adds_loopGo t deep l n3) (by simp; omega)
theorem adds_loop (t : Tm) (deep : Nat) (x : Lk) (n : Int) : Adds n (loopM rec st t deep x n) := by
  unfold loopM
  refine adds_bind (n1 := 0) fun _ n1 h1 => ?_
  have h1 := (addR_ok h1).1
  refine adds_get fun l _ => ?_
  refine adds_bind (n1 := 0) fun out n2 h2 => ?_
  have h2 := adds_loopGo hr _ _ _ _ _ _ h2
  refine adds_get fun u _ => ?_
  refine adds_ok ?_
  simp
  omega
theorem adds_roundsGo (deep : Nat) : ∀ (ts : List (List Tm)) (ss : List (List Lk)) (n : Int), Adds n (roundsGo rec deep ts ss n)
  | ts, [], n => by rw [roundsGo]; exact adds_ok (by simp)
  | [], _ :: _, n => by rw [roundsGo]; exact adds_err _ _
  | u :: ts, s :: ss, n => by
    rw [roundsGo]
    refine adds_bind (n1 := 0) fun a n1 h1 => ?_
    exact adds_pre (adds_roundsGo deep ts ss n1) (hr _ _ _ _ _ _ h1)
theorem adds_rounds (t : Tm) (deep : Nat) (x : Lk) (n : Int) : Adds n (roundsM rec br t deep x n) := by
  unfold roundsM
  split
  · exact adds_err _ _
  · exact adds_roundsGo hr _ _ _ _
omit hr in
theorem adds_behind : ∀ (l : List Tm) (n : Int), Adds n (behindGo st l n)
  | [], n => adds_ok (by simp)
  | y :: l, n => by
    rw [behindGo]
    refine adds_bind (n1 := 0) fun a n1 h1 => ?_
    exact adds_pre (adds_behind l n1) (adds_lines _ _ _ _ _ _ h1)
theorem adds_call (t : Tm) (deep : Nat) (x : Lk) (n : Int) : Adds n (callM rec st br t deep x n) := by
  unfold callM
  refine adds_get fun list _ => ?_
  refine adds_get fun behind _ => ?_
  refine adds_bind (n1 := 0) fun out n1 h1 => ?_
  have h1 := adds_lines _ _ _ _ _ _ h1
  refine adds_get fun u _ => ?_
  refine adds_bind (n1 := 0) fun body n2 h2 => ?_
  have h2 := hr _ _ _ _ _ _ h2
  split
  · refine adds_ok ?_
    simp
    omega
  · exact adds_pre (adds_behind _ _) (by simp; omega)
theorem adds_each (t : Tm) (deep : Nat) (x : Lk) (n : Int) : Adds n (eachM rec t deep x n) := by
  unfold eachM
  split
  · exact adds_err _ _
  refine adds_bind (n1 := 0) fun _ n1 h1 => ?_
  have h1 := (addR_ok h1).1
  have go : ∀ (l : List (List Lk)) (n : Int) o m, eachGo rec t deep l n = .ok o m → n ≤ m := by
    intro l
    induction l with
    | nil => intro n o m h; rw [eachGo] at h; cases h; exact Int.le_refl _
    | cons s l ih =>
      intro n o m h
      rw [eachGo] at h
      cases hs : t.subs[0]? with
      | none => rw [hs] at h; cases h
      | some u =>
        rw [hs] at h
        simp only [Rw.get_some] at h
        cases hc : rec u (deep + 1) s n with
        | err e => rw [hc] at h; cases h
        | ok a n1 =>
          rw [hc] at h
          simp only [Rw.bind_ok] at h
          have h1 := hr _ _ _ _ _ _ hc
          cases hg : eachGo rec t deep l n1 with
          | err e => rw [hg] at h; cases h
          | ok o' m' =>
            rw [hg] at h
            have h2 := ih _ _ _ hg
            cases h
            omega
  refine adds_bind (n1 := 0) fun ss n2 h2 => ?_
  have h2 := go _ _ _ _ h2
  exact adds_ok (by simp; omega)
theorem adds_node (t : Tm) (deep : Nat) (x : Lk) (n : Int) : Adds n (nodeM rec st br t deep x n) := by
  unfold nodeM
  repeat' split
  · exact adds_same _ _ _
  · exact adds_lines _ _ _ _
  · exact adds_branch hr _ _ _ _
  · exact adds_taken hr _ _ _ _
  · exact adds_loop hr _ _ _ _
  · exact adds_rounds hr _ _ _ _
  · exact adds_call hr _ _ _ _
  · exact adds_ok (by simp)
  · exact adds_each hr _ _ _ _
  · exact adds_err _ _
theorem adds_go (deep : Nat) : ∀ (ts : List Tm) (l : List Lk) (n : Int), Adds n (goM rec st br deep ts l n)
  | ts, [], n => by rw [goM]; exact adds_ok (by simp)
  | [], _ :: _, n => by rw [goM]; exact adds_err _ _
  | t :: ts, x :: l, n => by
    rw [goM]
    refine adds_bind (n1 := 0) fun a n1 h1 => ?_
    exact adds_pre (adds_go deep ts l n1) (adds_node hr _ _ _ _ _ _ h1)
end
theorem adds_list (st : Int) (br : Bool) : ∀ (m : Nat) t deep l n, Adds n (listM st br m t deep l n)
  | 0, t, deep, l, n => adds_err _ _
  | m + 1, t, deep, l, n => by
    simp only [listM]
    split
    · exact adds_err _ _
    · exact adds_go (adds_list st br m) _ _ _ _
end Go.Proofs
namespace Go.Proofs
open Go.Mu
/-- Something there, or the panic. -/
def GetR (H : List Blk) (V : AV) (b : Bool) : AE → List Blk → Prop := fun e H' => e = (if b = true then .ret V else .pan (refL 2)) ∧ H' = H
theorem getW {V : AV} {b : Bool} {fid : FuncId} {args : List AV} {H : List Blk} {R : AE → List Blk → Prop} {w : Wit R} (h : ACalls Try.prog fid args H (GetR H V b)) (hok : b = true → R (.ret V) H) (herr : b = false → R (.pan (refL 2)) H) : ACallsW Try.prog fid args H R w := by
  refine acallsW_of h ?_
  rintro e H' ⟨rfl, rfl⟩
  cases b
  · exact herr rfl
  · exact hok rfl
theorem sub_ok (t : Tm) (i : Nat) (ht : t.subs.length ≤ 2^40) (hi : i ≤ 2) (H : List Blk) : ACalls Try.prog 156 [.agg t.cells, I i] H (GetR H (Tm.sl (t.subs[i]?.getD [])) (decide (i < t.subs.length))) := by
  refine acalls_tidy (acalls_of_vc (hn := fun _ => false) (od := fun _ => none) Try.func156 rfl (by kernel_rfl) ?_)
  have lv := fun H => leave_ok 2 H
  have fin : ∀ L, i < t.subs.length → Tidy H (GetR H (Tm.sl (t.subs[i]?.getD [])) (decide (i < t.subs.length))) (.ret (Tm.sl (t.subs[i]?.getD []))) (H ++ L) := fun L h => by rw [decide_eq_true h]; exact tidy_same rfl ⟨rfl, rfl⟩
  have finP : ∀ L, ¬ i < t.subs.length → Tidy H (GetR H (Tm.sl (t.subs[i]?.getD [])) (decide (i < t.subs.length))) (.pan (refL 2)) (H ++ L) := fun L h => by rw [decide_eq_false h]; exact tidy_sameP rfl ⟨rfl, rfl⟩
  simp -dsimp
  refine condVW_introD (fun h => ?_) (fun h => ?_)
  · simp -dsimp
    refine acallsW_of (lv _) ?_
    rintro _ _ ⟨rfl, rfl⟩
    simp -dsimp
    exact finP _ (by omega)
  · have hs : t.subs[i]? = some t.subs[i] := List.getElem?_eq_getElem (by omega)
    obtain ⟨u, hu⟩ : ∃ u, u = t.subs[i] := ⟨_, rfl⟩
    rw [← hu] at hs
    rw [hs] at fin
    simp -dsimp [hs]
    exact fin _ (by omega)
theorem of_ok (x : Lk) (k : Int) (hx : x.subs.length ≤ 2^40) (H : List Blk) : ACalls Try.prog 154 [.agg x.cells, I k, I 0] H (GetR H (Lk.sl ((ofO x k).getD [])) (ofO x k).isSome) := by
  refine acalls_tidy (acalls_of_vc (hn := fun _ => false) (od := fun _ => none) Try.func154 rfl (by kernel_rfl) ?_)
  have lv := fun H => leave_ok 2 H
  obtain ⟨E, hE⟩ : ∃ E, E = ofO x k := ⟨_, rfl⟩
  rw [← hE]
  have fin : ∀ u L, E = some u → Tidy H (GetR H (Lk.sl (E.getD [])) E.isSome) (.ret (Lk.sl u)) (H ++ L) := fun u L h => by rw [h]; exact tidy_same rfl ⟨rfl, rfl⟩
  have finP : ∀ L, E = none → Tidy H (GetR H (Lk.sl (E.getD [])) E.isSome) (.pan (refL 2)) (H ++ L) := fun L h => by rw [h]; exact tidy_sameP rfl ⟨rfl, rfl⟩
  unfold ofO at hE
  simp -dsimp
  refine guardVW_introFNE (fun h1 h1a h1b => ?_) (fun h1 => ?_)
  · simp -dsimp [h1a, h1b]
    refine acallsW_of (lv _) ?_
    rintro _ _ ⟨rfl, rfl⟩
    simp -dsimp
    exact finP _ (by rw [hE, if_neg h1])
  · rw [if_pos h1] at hE
    simp -dsimp [h1]
    refine condVW_introD (fun h => ?_) (fun h => ?_)
    · simp -dsimp
      refine acallsW_of (lv _) ?_
      rintro _ _ ⟨rfl, rfl⟩
      simp -dsimp
      exact finP _ (by rw [hE, h]; rfl)
    · have hp : 0 < x.subs.length := List.length_pos_iff.2 h
      have hs : x.subs[0]? = some x.subs[0] := List.getElem?_eq_getElem hp
      obtain ⟨u, hu⟩ : ∃ u, u = x.subs[0] := ⟨_, rfl⟩
      rw [← hu] at hs
      rw [hs] at hE
      simp -dsimp [hs]
      exact fin _ _ hE
theorem items_ok (st : Int) (br : Bool) (n : Int) (t : Tm) (x : Lk) (ht : t.lines.length ≤ 2^40) (hx : x.items.length ≤ 2^40) (h0 : 0 ≤ n) (h1 : n ≤ 1000000) (H : List Blk) (c : Nat) (hc : H[c]? = some (rwB st br n)) :
    ACalls Try.prog 155 [.bp c 0, .agg t.cells, .agg x.cells] H (RwR st br c H (fun l => U.sl l) (fun _ => []) (itemsM t x n)) := by
  refine acalls_tidy (acalls_weakE (acalls_of_vc (hn := fun d => d == 22) (od := fun _ => none) Try.func155 rfl (by kernel_rfl) ?_))
  have hcl := lt_of_get hc
  have hL := fun L => get_app_old hc L
  have hs : ∀ L X, (H ++ L).set c X = H.set c X ++ L := fun L X => by rw [List.set_append, if_pos hcl]
  have hu : ∀ X : Int, underH H.length H = true → underH (H.set c (rwB st br X)).length (H.set c (rwB st br X)) = true := fun X h => by rw [List.length_set]; exact underH_set h rfl
  obtain ⟨E, hE⟩ : ∃ E, E = itemsM t x n := ⟨_, rfl⟩
  rw [← hE]
  have finP : ∀ e m L, E = .err e → WeakE (Tidy H (RwR st br c H (fun l => U.sl l) (fun _ => []) E)) (.pan (refL e)) (H.set c (rwB st br m) ++ L) := fun e m L h => by
    rw [h]
    exact tidy_toP (by simp) (hu _) rfl ⟨rfl, _, rfl⟩
  have fin : ∀ l m v L, E = .ok l m → 0 ≤ m → m ≤ 1000000 → Weak v (U.sl l) → WeakE (Tidy H (RwR st br c H (fun l => U.sl l) (fun _ => []) E)) (.ret v) (H.set c (rwB st br m) ++ L) := fun l m v L h a b w => by
    refine tidy_weak w ?_
    rw [h]
    exact tidy_to (by simp) (hu _) rfl ⟨rfl, by simp, a, b⟩
  unfold itemsM at hE
  have a1 := fun H h => add2_ok st br n 1 h0 h1 (by omega) (by omega) H c h
  have a2 := fun H h => add2_ok st br n (1 + x.items.length) h0 h1 (by omega) (by omega) H c h
  have w1 : IntKind.i64.wrap (1 + (x.items.length : Int)) = 1 + (x.items.length : Int) := wrapI (by omega) (by omega)
  have ic := fun H => iclone_ok x.items hx H
  simp -dsimp
  refine condVW_introD (fun h => ?_) (fun h => ?_)
  · rw [if_pos (by omega)] at hE
    simp -dsimp [hL]
    refine rwW (a1 _ (hL _)) (fun u m hA h3 h4 => ?_) (fun e m hA => ?_)
    · rw [hA] at hE
      rw [hs]
      simp -dsimp
      exact fin _ _ _ _ hE h3 h4 (.nil 1)
    · rw [hA] at hE
      rw [hs]
      simp -dsimp
      exact finP _ _ _ hE
  · rw [if_neg (by omega)] at hE
    simp -dsimp [hL, w1]
    refine rwW (a2 _ (hL _)) (fun u m hA h3 h4 => ?_) (fun e m hA => ?_)
    · rw [hA] at hE
      rw [hs]
      have hb : ∀ (X Y Z : Blk) L, (H.set c X ++ Y :: Z :: L)[H.length + 1]? = some Z := fun X Y Z L => by
        rw [List.getElem?_append_right (by simp)]; simp
      simp -dsimp [hb]
      refine acallsW_det (ic _) ?_
      simp -dsimp [hb]
      exact fin _ _ _ _ hE h3 h4 (.refl _)
    · rw [hA] at hE
      rw [hs]
      simp -dsimp
      exact finP _ _ _ hE
theorem same_ok (st : Int) (br : Bool) (n : Int) (t : Tm) (x : Lk) (deep : Nat) (hx : lksCount [x] ≤ 2^40) (hd : deep ≤ 2^41) (h0 : 0 ≤ n) (h1 : n ≤ 1000000) (H : List Blk) (c : Nat) (hc : H[c]? = some (rwB st br n)) :
    ACalls Try.prog 138 [.bp c 0, .agg t.cells, .agg x.cells, I deep] H (RwR st br c H Lk.sl (fun _ => []) (sameM x deep n)) := by
  refine acalls_tidy (acalls_of_vc (hn := fun d => d == 24) (od := fun _ => none) Try.func138 rfl (by kernel_rfl) ?_)
  have hcl := lt_of_get hc
  have hL := fun L => get_app_old hc L
  have hs : ∀ L X, (H ++ L).set c X = H.set c X ++ L := fun L X => by rw [List.set_append, if_pos hcl]
  have hu : ∀ X : Int, underH H.length H = true → underH (H.set c (rwB st br X)).length (H.set c (rwB st br X)) = true := fun X h => by rw [List.length_set]; exact underH_set h rfl
  obtain ⟨E, hE⟩ : ∃ E, E = sameM x deep n := ⟨_, rfl⟩
  rw [← hE]
  have finP : ∀ e m L, E = .err e → Tidy H (RwR st br c H Lk.sl (fun _ => []) E) (.pan (refL e)) (H.set c (rwB st br m) ++ L) := fun e m L h => by
    rw [h]
    exact tidy_toP (by simp) (hu _) rfl ⟨rfl, _, rfl⟩
  have finP0 : ∀ e L, E = .err e → Tidy H (RwR st br c H Lk.sl (fun _ => []) E) (.pan (refL e)) (H ++ L) := fun e L h => by
    have := finP e n L h
    rwa [set_same hc] at this
  have fin : ∀ l m L, E = .ok l m → 0 ≤ m → m ≤ 1000000 → Tidy H (RwR st br c H Lk.sl (fun _ => []) E) (.ret (Lk.sl l)) (H.set c (rwB st br m) ++ L) := fun l m L h a b => by
    rw [h]
    exact tidy_to (by simp) (hu _) rfl ⟨rfl, by simp, a, b⟩
  unfold sameM at hE
  have cw := fun H c h => walk_ok _ [x] deep 0 (Nat.lt_succ_self _) hx hd (by omega) (by omega) H c h
  have cc := fun H => clone_ok _ [x] (Nat.lt_succ_self _) hx H
  have hgd := good_top deep [x] (s := (0, 0)) (fun _ => ⟨by simp, by simp⟩)
  obtain ⟨s, hse⟩ : ∃ s, s = lksTop deep [x] (0, 0) := ⟨_, rfl⟩
  rw [← hse] at hE cw hgd
  simp only [List.map_cons, List.map_nil, Lk.cells_eq, Lk.sl] at cw cc
  have hst : ∀ (X Y Z W : Blk) L, (H ++ X :: Y :: Z :: L).set (H.length + 2) W = H ++ X :: Y :: W :: L := fun X Y Z W L => by simp
  simp -dsimp
  refine cntW (cw _ (H.length + 2) (by simp)) (fun hz => ?_) (fun hz => ?_)
  · rw [if_neg (fun h => h hz)] at hE
    obtain ⟨g1, g2⟩ := hgd hz
    have a1 := fun H h => add2_ok st br n s.2 h0 h1 g1 (by omega) H c h
    rw [hst]
    simp -dsimp [hL]
    refine rwW (a1 _ (hL _)) (fun u m hA h3 h4 => ?_) (fun e m hA => ?_)
    · rw [hA] at hE
      rw [hs]
      have hb : ∀ (X Y Z : Blk) L, (H.set c X ++ Y :: Z :: L)[H.length + 1]? = some Z := fun X Y Z L => by
        rw [List.getElem?_append_right (by simp)]; simp
      simp -dsimp [hb]
      refine acallsW_det (cc _) ?_
      simp -dsimp
      have := fin _ _ [Blk.box 76 [I t.kind, Pk.sls t.lines, Bo t.taken, Tm.sls t.subs], .box 67 [I x.kind, U.sl x.items, Bo x.taken, Lk.sls x.subs], cntL s.2] hE h3 h4
      simpa [Lk.sl] using this
    · rw [hA] at hE
      rw [hs]
      simp -dsimp
      exact finP _ _ _ hE
  · rw [if_pos hz] at hE
    rw [hst]
    simp -dsimp
    exact finP0 _ _ hE
theorem line_ok (st : Int) (br : Bool) (n : Int) (t : Tm) (x : Lk) (deep : Nat) (ht : pkCount t.lines ≤ 2^40) (hi : x.items.length ≤ 2^40) (h0 : 0 ≤ n) (h1 : n ≤ 1000000) (H : List Blk) (c : Nat) (hc : H[c]? = some (rwB st br n)) :
    ACalls Try.prog 139 [.bp c 0, .agg t.cells, .agg x.cells, I deep] H (RwR st br c H Lk.sl (fun _ => []) (linesM st x.items t.lines n)) := by
  refine acalls_under fun hu _ => acalls_tidy (acalls_weakE (acalls_of_vc (hn := fun d => false) (od := fun _ => none) Try.func139 rfl (by kernel_rfl) ?_))
  have hL := fun L => get_app_old hc L
  have hcl := lt_of_get hc
  have hs : ∀ L X, (H ++ L).set c X = H.set c X ++ L := fun L X => by rw [List.set_append, if_pos hcl]
  have c1 := fun H h => lines_ok st br n t.lines x.items ht hi h0 h1 H c h
  simp -dsimp
  refine rwW (c1 _ (hL _)) (fun u m hA h3 h4 => ?_) (fun e m hA => ?_)
  · rw [hA]
    simp -dsimp
    rw [hs]
    have := tidy_outJ (R := RwR st br c H Lk.sl (fun _ => []) (Rw.ok u m)) (H.set c (rwB st br m)) (by simp) (underH_set hu rfl) u [.box 76 [I t.kind, Pk.sls t.lines, Bo t.taken, Tm.sls t.subs], .box 67 [I x.kind, U.sl x.items, Bo x.taken, Lk.sls x.subs], outB u] 2 rfl ⟨rfl, by simp, h3, h4⟩
    simpa using this
  · rw [hA]
    simp -dsimp
    rw [hs]
    exact tidy_toP (by simp) (fun h => by rw [List.length_set]; exact underH_set h rfl) rfl ⟨rfl, _, rfl⟩
theorem none_ok (st : Int) (br : Bool) (n : Int) (t : Tm) (x : Lk) (deep : Nat) (h0 : 0 ≤ n) (h1 : n ≤ 1000000) (H : List Blk) (c : Nat) (hc : H[c]? = some (rwB st br n)) :
    ACalls Try.prog 145 [.bp c 0, .agg t.cells, .agg x.cells, I deep] H (RwR st br c H Lk.sl (fun _ => []) (.ok [] n)) := by
  refine acalls_tidy (acalls_weakE (acalls_of_vc (hn := fun d => false) (od := fun _ => none) Try.func145 rfl (by kernel_rfl) ?_))
  simp -dsimp
  refine tidy_weak (.nil 4) ?_
  exact tidy_same rfl ⟨rfl, by rw [set_same hc]; simp, h0, h1⟩
end Go.Proofs
namespace Go.Proofs
open Go.Mu
/-- What rewriting a list is, for lists that are smaller. -/
structure RecOk (rec : Rec) (st : Int) (br : Bool) (m : Nat) : Prop where
  ok : ∀ (u : List Tm) (deep : Nat) (l : List Lk) (n : Int), lksCount l < m → lksCount l ≤ 2^40 → deep + lksCount l ≤ 2^41 → tmsCount u ≤ 2^40 → 0 ≤ n → n ≤ 1000000 → ∀ (H : List Blk) (c : Nat), H[c]? = some (rwB st br n) →
    ACalls Try.prog 77 [.bp c 0, Tm.sl u, Lk.sl l, I deep] H (RwR st br c H Lk.sl (fun _ => []) (rec u deep l n))
  adds : ∀ u deep l n, Adds n (rec u deep l n)
section
variable {st : Int} {br : Bool} {c : Nat} {H : List Blk} {E : Rw (List Lk)}
theorem rw_fin (hu : underH H.length H = true) (out : List Lk) (m : Int) (L : List Blk) (j : Nat) (hE : E = .ok out m) (h0 : 0 ≤ m) (h1 : m ≤ 1000000) (hj : L[j]? = some (outB out)) :
    WeakE (Tidy H (RwR st br c H Lk.sl (fun _ => []) E)) (.ret (outS (H.length + j) out)) (H.set c (rwB st br m) ++ L) := by
  subst hE
  have := tidy_outJ (H := H) (R := RwR st br c H Lk.sl (fun _ => []) (Rw.ok out m)) (H.set c (rwB st br m)) (by simp) (underH_set hu rfl) out L j hj ⟨rfl, by simp, h0, h1⟩
  exact this
theorem rw_finV (out : List Lk) (m : Int) (L : List Blk) (v : AV) (hv : Weak v (Lk.sl out)) (hE : E = .ok out m) (h0 : 0 ≤ m) (h1 : m ≤ 1000000) : WeakE (Tidy H (RwR st br c H Lk.sl (fun _ => []) E)) (.ret v) (H.set c (rwB st br m) ++ L) := by
  subst hE
  exact tidy_weak hv (tidy_to (by simp) (fun h => by rw [List.length_set]; exact underH_set h rfl) rfl ⟨rfl, by simp, h0, h1⟩)
theorem rw_finP (e m : Int) (L : List Blk) (hE : E = .err e) : WeakE (Tidy H (RwR st br c H Lk.sl (fun _ => []) E)) (.pan (refL e)) (H.set c (rwB st br m) ++ L) := by
  subst hE
  exact tidy_toP (by simp) (fun h => by rw [List.length_set]; exact underH_set h rfl) rfl ⟨rfl, _, rfl⟩
theorem rw_finP0 {n : Int} (hc : H[c]? = some (rwB st br n)) (e : Int) (L : List Blk) (hE : E = .err e) : WeakE (Tidy H (RwR st br c H Lk.sl (fun _ => []) E)) (.pan (refL e)) (H ++ L) := by
  have := rw_finP (st := st) (br := br) (c := c) (H := H) e n L hE
  rwa [set_same hc] at this
end
@[simp] theorem Lk.kind_mk (k : Int) (i : List Int) (t : Bool) (s : List (List Lk)) : (Lk.mk k i t s).kind = k := rfl
@[simp] theorem Lk.items_mk (k : Int) (i : List Int) (t : Bool) (s : List (List Lk)) : (Lk.mk k i t s).items = i := rfl
@[simp] theorem Lk.taken_mk (k : Int) (i : List Int) (t : Bool) (s : List (List Lk)) : (Lk.mk k i t s).taken = t := rfl
@[simp] theorem Lk.subs_mk (k : Int) (i : List Int) (t : Bool) (s : List (List Lk)) : (Lk.mk k i t s).subs = s := rfl
/-- How big a node is, and a term. -/
structure NodeIn (t : Tm) (x : Lk) (deep : Nat) (n : Int) : Prop where
  ht : t.count ≤ 2^40
  hx : x.count ≤ 2^40
  hd : deep + x.count ≤ 2^41
  n0 : 0 ≤ n
  n1 : n ≤ 1000000
theorem get_set_app {H : List Blk} {c : Nat} (h : c < H.length) (X : Blk) (L : List Blk) : (H.set c X ++ L)[c]? = some X := m1_get h _ _
theorem set_set_app {H : List Blk} {c : Nat} (h : c < H.length) (X Y : Blk) (L : List Blk) : (H.set c X ++ L).set c Y = H.set c Y ++ L := m1_set h _ _ _
theorem set_app_lt {H : List Blk} {c : Nat} (h : c < H.length) (X : Blk) (L : List Blk) : (H ++ L).set c X = H.set c X ++ L := by rw [List.set_append, if_pos h]
theorem get_next {H L : List Blk} {c : Nat} (X : Blk) (j : Nat) : (H.set c X ++ L)[H.length + j]? = L[j]? := by
  rw [List.getElem?_append_right (by simp)]; simp
theorem set_next {H L : List Blk} {c : Nat} (X Y : Blk) (j : Nat) : (H.set c X ++ L).set (H.length + j) Y = H.set c X ++ L.set j Y := by
  rw [List.set_append, if_neg (by simp)]; simp
theorem ofO_count {x : Lk} {k : Int} {l : List Lk} (h : ofO x k = some l) : 2 + lksCount l ≤ x.count := by
  unfold ofO at h
  split at h
  · obtain ⟨h1, rfl⟩ := List.getElem?_eq_some_iff.1 h
    have := lkss_get h1
    rw [Lk.count_eq]
    omega
  · cases h
theorem sub_count {t : Tm} {i : Nat} {u : List Tm} (h : t.subs[i]? = some u) : 2 + tmsCount u ≤ t.count := by
  have := tmss_at h
  rw [Tm.count_eq]
  omega
@[simp] theorem bneq4 (a b : Bool) : binE Try.prog .neq 4 (Bo a) (Bo b) = some (Bo (a != b)) := by cases a <;> cases b <;> kernel_rfl
section
variable {rec : Rec} {st : Int} {br : Bool} {m : Nat} {n : Int} {t : Tm} {x : Lk} {deep : Nat} {H : List Blk} {c : Nat}
theorem taken_ok (hr : RecOk rec st br m) (hm : x.count ≤ m) (hin : NodeIn t x deep n) (hc : H[c]? = some (rwB st br n)) :
    ACalls Try.prog 141 [.bp c 0, .agg t.cells, .agg x.cells, I deep] H (RwR st br c H Lk.sl (fun _ => []) (takenM rec st t deep x n)) := by
  refine acalls_under fun hu _ => acalls_tidy (acalls_weakE (acalls_of_vc (hn := fun d => d == 23 || d == 26 || d == 29 || d == 30) (od := fun i => if i = 4 then some [(0, []), (1, []), (2, []), (3, []), (4, []), (6, []), (7, []), (9, []), (10, []), (5, [7]), (8, []), (11, []), (12, []), (13, [])] else none) Try.func141 rfl (by kernel_rfl) ?_))
  obtain ⟨hit, hix, hid, h0, h1⟩ := hin
  have hct := Tm.count_eq t
  have hcx := Lk.count_eq x
  have hts := tmss_len t.subs
  have hxs := lkss_len x.subs
  have hcl := lt_of_get hc
  have hL := fun L => get_app_old hc L
  have hs := fun L X => set_app_lt (H := H) hcl X L
  have hg := fun X L => get_set_app (H := H) hcl X L
  have hss := fun X Y L => set_set_app (H := H) hcl X Y L
  obtain ⟨E, hE⟩ : ∃ E, E = takenM rec st t deep x n := ⟨_, rfl⟩
  rw [← hE]
  unfold takenM at hE
  have fin := fun out m L j => rw_fin (st := st) (br := br) (c := c) (E := E) hu out m L j
  have finP := fun e m L => rw_finP (st := st) (br := br) (c := c) (E := E) (H := H) e m L
  have finP0 := fun e L => rw_finP0 (E := E) hc e L
  have c1 := fun H => of_ok x 2 (by omega) H
  have c2 := fun H h => lines_ok st br n t.lines x.items (by omega) (by omega) h0 h1 H c h
  have c3 := fun H => sub_ok t 0 (by omega) (by omega) H
  simp only [Lk.cells_eq] at c1
  simp only [Tm.cells_eq] at c3
  simp -dsimp
  refine getW (c1 _) (fun hb => ?_) (fun hb => ?_)
  · obtain ⟨l, hl⟩ := Option.isSome_iff_exists.1 hb
    have hlc := ofO_count hl
    rw [hl] at hE ⊢
    simp only [Rw.get_some, Option.getD_some] at hE ⊢
    simp -dsimp
    refine condVW_intro (fun hne => ?_) (fun he => ?_)
    · have hne : x.taken ≠ t.taken := by simpa using hne
      rw [if_pos hne] at hE
      simp -dsimp
      refine acallsW_of (leave_ok 2 _) ?_
      rintro _ _ ⟨rfl, rfl⟩
      simp -dsimp
      exact finP0 _ _ hE
    have he : x.taken = t.taken := by simpa using he
    rw [if_neg (fun h => h he)] at hE
    simp -dsimp [hL]
    refine rwW (c2 _ (hL _)) (fun out n1 hA h3 h4 => ?_) (fun e n1 hA => ?_)
    · rw [hA] at hE
      have hal := adds_lines _ _ _ _ _ _ hA
      rw [hs]
      simp only [Rw.bind_ok] at hE
      have hgt : ∀ X Y Z L, (H.set c X ++ Y :: Z :: L)[H.length]? = some Y := fun X Y Z L => by simp
      simp -dsimp [hgt]
      refine getW (c3 _) (fun hb => ?_) (fun hb => ?_)
      · have hi : 0 < t.subs.length := by simpa using hb
        have hsu : t.subs[0]? = some t.subs[0] := List.getElem?_eq_getElem hi
        obtain ⟨u, hu2⟩ : ∃ u, u = t.subs[0] := ⟨_, rfl⟩
        rw [← hu2] at hsu
        clear hu2
        have huc := sub_count hsu
        rw [hsu] at hE ⊢
        simp only [Rw.get_some, Option.getD_some] at hE ⊢
        have cr := fun H c h => hr.ok u deep l n1 (by omega) (by omega) (by omega) (by omega) h3 h4 H c h
        simp -dsimp
        refine rwW (cr _ _ (hg _ _)) (fun body n2 hB h5 h6 => ?_) (fun e n2 hB => ?_)
        · have hbl := hr.adds _ _ _ _ _ _ hB
          rw [hB] at hE
          rw [hss]
          simp -dsimp
          refine appendVW_own (k := H.length + 2) (es := out.map Lk.cells) (by rw [get_next]; rfl) (by simp; omega) (by simp; omega) ?_
          rw [set_next]
          simp -dsimp
          have := fin (out ++ body) n2 [.box 76 [I t.kind, Pk.sls t.lines, Bo t.taken, Tm.sls t.subs], .box 67 [I x.kind, U.sl x.items, Bo x.taken, Lk.sls x.subs], outB (out ++ body)] 2 hE h5 h6 rfl
          simpa [outS, outB, Lk.sls, Lk.sl] using this
        · rw [hB] at hE
          rw [hss]
          simp -dsimp
          exact finP _ _ _ hE
      · have hi : ¬ 0 < t.subs.length := by simpa using hb
        have hsu : t.subs[0]? = none := List.getElem?_eq_none (by omega)
        rw [hsu] at hE
        simp -dsimp
        exact finP _ _ _ hE
    · rw [hA] at hE
      rw [hs]
      simp -dsimp
      exact finP _ _ _ hE
  · rw [Option.isSome_eq_false_iff, Option.isNone_iff_eq_none] at hb
    rw [hb] at hE
    simp -dsimp
    exact finP0 _ _ hE
end
end Go.Proofs
namespace Go.Proofs
open Go.Mu
section
variable {rec : Rec} {st : Int} {br : Bool} {m : Nat} {n : Int} {t : Tm} {x : Lk} {deep : Nat} {H : List Blk} {c : Nat}
theorem branch_ok (hr : RecOk rec st br m) (hm : x.count ≤ m) (hin : NodeIn t x deep n) (hc : H[c]? = some (rwB st br n)) :
    ACalls Try.prog 140 [.bp c 0, .agg t.cells, .agg x.cells, I deep] H (RwR st br c H Lk.sl (fun _ => []) (branchM rec st t deep x n)) := by
  refine acalls_under fun hu _ => acalls_tidy (acalls_weakE (acalls_of_awp Try.func140 rfl (by kernel_rfl) ?_))
  obtain ⟨hit, hix, hid, h0, h1⟩ := hin
  have hct := Tm.count_eq t
  have hcx := Lk.count_eq x
  have hts := tmss_len t.subs
  have hxs := lkss_len x.subs
  have hpk := pk_len t.lines
  have hcl := lt_of_get hc
  have hL := fun L => get_app_old hc L
  have hs := fun L X => set_app_lt (H := H) hcl X L
  have hg := fun X L => get_set_app (H := H) hcl X L
  have hss := fun X Y L => set_set_app (H := H) hcl X Y L
  obtain ⟨E, hE⟩ : ∃ E, E = branchM rec st t deep x n := ⟨_, rfl⟩
  rw [← hE]
  unfold branchM at hE
  have fin := fun out m L j => rw_fin (st := st) (br := br) (c := c) (E := E) hu out m L j
  have finP := fun e m L => rw_finP (st := st) (br := br) (c := c) (E := E) (H := H) e m L
  have finP0 := fun e L => rw_finP0 (E := E) hc e L
  have c1 := fun H => of_ok x 2 (by omega) H
  have c2 := fun H h => lines_ok st br n t.lines x.items (by omega) (by omega) h0 h1 H c h
  simp only [Lk.cells_eq] at c1 c2 ⊢
  simp only [Tm.cells_eq] at c2 ⊢
  obtain ⟨bT, hbT⟩ : ∃ bT, bT = Blk.box 76 [I t.kind, Pk.sls t.lines, Bo t.taken, Tm.sls t.subs] := ⟨_, rfl⟩
  obtain ⟨bX, hbX⟩ : ∃ bX, bX = Blk.box 67 [I x.kind, U.sl x.items, Bo x.taken, Lk.sls x.subs] := ⟨_, rfl⟩
  refine awp_cut (fun _ => false) (fun _ => none) (fun f H' => H' = H ++ [bT, bX] ∧ f 0 = .bp c 0 ∧ f 3 = I deep ∧ f 5 = .bp H.length 0 ∧ f 6 = .bp (H.length + 1) 0) (by kernel_rfl) ?_ ?_
  · rw [hbT, hbX]
    simp -dsimp
  rintro g _ ⟨rfl, g0, g3, g5, g6⟩
  rw [hbT, hbX]
  refine awp_cut (fun _ => false) (fun _ => none) (fun f H' => H' = H ++ [bT, bX] ∧ f 0 = .bp c 0 ∧ f 3 = I deep ∧ f 5 = .bp H.length 0 ∧ f 6 = .bp (H.length + 1) 0 ∧ f 9 = Lk.sl ((ofO x 2).getD []) ∧ (ofO x 2).isSome = true) (by kernel_rfl) ?_ ?_
  · simp -dsimp [g0, g3, g5, g6]
    refine getW (c1 _) (fun hb => ?_) (fun hb => ?_)
    · rw [hbT, hbX]
      simp -dsimp [g0, g3, g5, g6]
      exact hb
    · rw [Option.isSome_eq_false_iff, Option.isNone_iff_eq_none] at hb
      rw [hb] at hE
      simp -dsimp
      exact finP0 _ _ hE
  clear g g0 g3 g5 g6
  rintro g _ ⟨rfl, g0, g3, g5, g6, g9, hb⟩
  obtain ⟨l, hl⟩ := Option.isSome_iff_exists.1 hb
  have hlc := ofO_count hl
  rw [hl, Option.getD_some] at g9
  rw [hl, Rw.get_some] at hE
  refine awp_cut (fun _ => false) (fun _ => none) (fun f H' => H' = H ++ [bT, bX] ∧ f 0 = .bp c 0 ∧ f 3 = I deep ∧ f 5 = .bp H.length 0 ∧ f 6 = .bp (H.length + 1) 0 ∧ f 9 = Lk.sl l ∧ f 10 = I 1) (by kernel_rfl) ?_ ?_
  · simp -dsimp [g0, g3, g5, g6, g9]
  clear g g0 g3 g5 g6 g9
  rintro g _ ⟨rfl, g0, g3, g5, g6, g9, g10⟩
  obtain ⟨k, hk⟩ : ∃ k : Nat, k = if x.taken then 0 else 1 := ⟨_, rfl⟩
  rw [← hk] at hE
  refine awp_cut (fun _ => false) (fun _ => none) (fun f H' => H' = H ++ [bT, bX] ∧ f 0 = .bp c 0 ∧ f 3 = I deep ∧ f 5 = .bp H.length 0 ∧ f 6 = .bp (H.length + 1) 0 ∧ f 9 = Lk.sl l ∧ f 10 = I k) (by kernel_rfl) ?_ ?_
  · rw [hbT, hbX]
    cases hxt : x.taken
    · rw [hxt] at hk
      subst hk
      simp -dsimp [g0, g3, g5, g6, g9, g10]
    · rw [hxt] at hk
      subst hk
      simp -dsimp [g0, g3, g5, g6, g9, g10]
  clear g g0 g3 g5 g6 g9 g10
  rintro g _ ⟨rfl, g0, g3, g5, g6, g9, g10⟩
  have hk2 : k ≤ 2 := by rw [hk]; split <;> omega
  clear hk
  have c3 := fun H => sub_ok t k (by omega) hk2 H
  simp only [Tm.cells_eq] at c3
  have w1 : IntKind.i64.wrap ((deep : Int) + 1) = ((deep + 1 : Nat) : Int) := wrapI (by omega) (by omega)
  have hgt : ∀ X Y Z L, (H.set c X ++ Y :: Z :: L)[H.length]? = some Y := fun X Y Z L => by simp
  have hgx : ∀ X Y Z L, (H.set c X ++ Y :: Z :: L)[H.length + 1]? = some Z := fun X Y Z L => get_next (H := H) (c := c) (L := Y :: Z :: L) X 1
  rw [hbT, hbX]
  refine awp_all (fun d => d == 27 || d == 31 || d == 39 || d == 43 || d == 47) (fun i => if i = 9 then some [(0, []), (1, []), (2, []), (3, []), (4, []), (5, []), (6, []), (8, []), (9, []), (10, []), (7, [2, 3, 10]), (11, [2, 3]), (12, []), (13, []), (14, []), (15, []), (16, [])] else none) (by kernel_rfl) ?_
  simp -dsimp [g0, g3, g5, g6, g9, g10]
  refine condVW_introNE (fun hne _ _ => ?_) (fun he => ?_)
  · rw [if_pos (by omega)] at hE
    simp -dsimp
    refine acallsW_of (leave_ok 2 _) ?_
    rintro _ _ ⟨rfl, rfl⟩
    simp -dsimp
    exact finP0 _ _ hE
  rw [if_neg (by omega)] at hE
  simp -dsimp [g0, g3, g5, g6, g9, g10, hL]
  refine rwW (c2 _ (hL _)) (fun out n1 hA h3 h4 => ?_) (fun e n1 hA => ?_)
  rotate_left
  · rw [hA] at hE
    rw [hs]
    simp -dsimp
    exact finP _ _ _ hE
  rw [hA] at hE
  have hal := adds_lines _ _ _ _ _ _ hA
  rw [hs]
  simp only [Rw.bind_ok] at hE
  have c4 := fun H h => items_ok st br n1 t x (by omega) (by omega) h3 h4 H c h
  simp only [Lk.cells_eq, Tm.cells_eq] at c4
  simp -dsimp [g0, g3, g5, g6, g9, g10, hgt, hgx]
  refine rwW (c4 _ (hg _ _)) (fun its n2 hB h5 h6 => ?_) (fun e n2 hB => ?_)
  rotate_left
  · rw [hB] at hE
    rw [hss]
    simp -dsimp
    exact finP _ _ _ hE
  rw [hB] at hE
  have hbl := items_ge hB
  rw [hss]
  simp only [Rw.bind_ok] at hE
  simp -dsimp [g0, g3, g5, g6, g9, g10, hgt, hgx, w1]
  refine getW (c3 _) (fun hb => ?_) (fun hb => ?_)
  rotate_left
  · have hi : ¬ k < t.subs.length := by simpa using hb
    have hsu : t.subs[k]? = none := List.getElem?_eq_none (by omega)
    rw [hsu] at hE
    simp -dsimp
    exact finP _ _ _ hE
  have hi : k < t.subs.length := by simpa using hb
  have hsu : t.subs[k]? = some t.subs[k] := List.getElem?_eq_getElem hi
  obtain ⟨u, hu2⟩ : ∃ u, u = t.subs[k] := ⟨_, rfl⟩
  rw [← hu2] at hsu
  clear hu2
  have huc := sub_count hsu
  rw [hsu] at hE ⊢
  simp only [Rw.get_some, Option.getD_some] at hE ⊢
  have cr := fun H c h => hr.ok u (deep + 1) l n2 (by omega) (by omega) (by omega) (by omega) h5 h6 H c h
  simp -dsimp [g0, g3, g5, g6, g9, g10, hgt, hgx, w1]
  refine rwW (cr _ _ (hg _ _)) (fun body n3 hC h7 h8 => ?_) (fun e n3 hC => ?_)
  rotate_left
  · rw [hC] at hE
    rw [hss]
    simp -dsimp
    exact finP _ _ _ hE
  have hcl2 := hr.adds _ _ _ _ _ _ hC
  rw [hC] at hE
  rw [hss]
  simp only [Rw.bind_ok] at hE
  simp -dsimp [g0, g3, g5, g6, g9, g10, hgt, hgx, w1]
  refine appendVW_own (k := H.length + 2) (es := out.map Lk.cells) (by rw [get_next]; rfl) (by simp; omega) (by simp; omega) ?_
  rw [set_next]
  simp -dsimp
  have := fin (out ++ [.mk 2 its x.taken [body]]) n3 [.box 76 [I t.kind, Pk.sls t.lines, Bo t.taken, Tm.sls t.subs], .box 67 [I x.kind, U.sl x.items, Bo x.taken, Lk.sls x.subs], outB (out ++ [.mk 2 its x.taken [body]])] 2 hE h7 h8 rfl
  simpa [outS, outB, Lk.sls, Lk.sl] using this
end
end Go.Proofs
namespace Go.Proofs
open Go.Mu
/-- What is made so far, and what comes of the rest; two boxes lie ahead. -/
def OutJ (H : List Blk) (c : Nat) (st : Int) (br : Bool) (F : Rw (List Lk)) (bT bX : Blk) (rest : Int → Rw (List Lk)) (x : AV) (H' : List Blk) : Prop :=
  ∃ out n L, H' = H.set c (rwB st br n) ++ bT :: bX :: outB out :: L ∧ 0 ≤ n ∧ n ≤ 1000000 ∧ (out.length : Int) ≤ n ∧ x = outS (H.length + 2) out ∧ (rest n).pre out = F
section
variable {rec : Rec} {st : Int} {br : Bool} {m : Nat} {n : Int} {t : Tm} {x : Lk} {deep : Nat} {H : List Blk} {c : Nat}
theorem get_next2 (X Y Z W : Blk) (L : List Blk) : (H.set c X ++ Y :: Z :: W :: L)[H.length + 2]? = some W := get_next (H := H) (c := c) (L := Y :: Z :: W :: L) X 2
theorem set_next2 (X Y Z W W' : Blk) (L : List Blk) : (H.set c X ++ Y :: Z :: W :: L).set (H.length + 2) W' = H.set c X ++ Y :: Z :: W' :: L := set_next (H := H) (c := c) (L := Y :: Z :: W :: L) X W' 2
theorem rounds_ok (hr : RecOk rec st br m) (hm : x.count ≤ m) (hin : NodeIn t x deep n) (hc : H[c]? = some (rwB st br n)) :
    ACalls Try.prog 143 [.bp c 0, .agg t.cells, .agg x.cells, I deep] H (RwR st br c H Lk.sl (fun _ => []) (roundsM rec br t deep x n)) := by
  refine acalls_under fun hu _ => acalls_tidy (acalls_weakE (acalls_of_awp Try.func143 rfl (by kernel_rfl) ?_))
  obtain ⟨hit, hix, hid, h0, h1⟩ := hin
  have hct := Tm.count_eq t
  have hcx := Lk.count_eq x
  have hts := tmss_len t.subs
  have hxs := lkss_len x.subs
  have hpk := pk_len t.lines
  have hcl := lt_of_get hc
  have hL := fun L => get_app_old hc L
  have hs := fun L X => set_app_lt (H := H) hcl X L
  have hg := fun X L => get_set_app (H := H) hcl X L
  have hss := fun X Y L => set_set_app (H := H) hcl X Y L
  obtain ⟨E, hE⟩ : ∃ E, E = roundsM rec br t deep x n := ⟨_, rfl⟩
  rw [← hE]
  unfold roundsM at hE
  have fin := fun out m L j => rw_fin (st := st) (br := br) (c := c) (E := E) hu out m L j
  have finP := fun e m L => rw_finP (st := st) (br := br) (c := c) (E := E) (H := H) e m L
  have finP0 := fun e L => rw_finP0 (E := E) hc e L
  simp only [Lk.cells_eq, Tm.cells_eq]
  obtain ⟨bT, hbT⟩ : ∃ bT, bT = Blk.box 76 [I t.kind, Pk.sls t.lines, Bo t.taken, Tm.sls t.subs] := ⟨_, rfl⟩
  obtain ⟨bX, hbX⟩ : ∃ bX, bX = Blk.box 67 [I x.kind, U.sl x.items, Bo x.taken, Lk.sls x.subs] := ⟨_, rfl⟩
  refine awp_cut (fun _ => false) (fun _ => none) (fun f H' => H' = H ++ [bT, bX] ∧ f 0 = .bp c 0 ∧ f 3 = I deep ∧ f 5 = .bp H.length 0 ∧ f 6 = .bp (H.length + 1) 0) (by kernel_rfl) ?_ ?_
  · rw [hbT, hbX]
    simp -dsimp
  rintro g _ ⟨rfl, g0, g3, g5, g6⟩
  -- does it fit
  refine awp_cut (fun _ => false) (fun _ => none) (fun f H' => H' = H ++ [bT, bX] ∧ f 0 = .bp c 0 ∧ f 3 = I deep ∧ f 5 = .bp H.length 0 ∧ f 6 = .bp (H.length + 1) 0 ∧ x.subs.length ≤ t.subs.length ∧ E = roundsGo rec deep t.subs x.subs n) (by kernel_rfl) ?_ ?_
  · rw [hbT, hbX]
    by_cases hk : x.kind = 4
    · by_cases h2 : t.subs.length < x.subs.length
      · rw [if_pos (.inr (.inl h2))] at hE
        simp -dsimp [g0, g3, g5, g6, hk, h2]
        refine acallsW_of (leave_ok 2 _) ?_
        rintro _ _ ⟨rfl, rfl⟩
        simp -dsimp
        have := finP0 2 [Blk.box 76 [I t.kind, Pk.sls t.lines, Bo t.taken, Tm.sls t.subs], Blk.box 67 [I x.kind, U.sl x.items, Bo x.taken, Lk.sls x.subs]] hE
        simpa [hk] using this
      · by_cases h3 : x.subs.length < t.subs.length
        · cases hbr : br
          · rw [if_pos (.inr (.inr ⟨h3, hbr⟩))] at hE
            subst hbr
            simp -dsimp [g0, g3, g5, g6, hk, h2, h3, hL]
            refine acallsW_of (leave_ok 2 _) ?_
            rintro _ _ ⟨rfl, rfl⟩
            simp -dsimp
            have := finP0 2 [Blk.box 76 [I t.kind, Pk.sls t.lines, Bo t.taken, Tm.sls t.subs], Blk.box 67 [I x.kind, U.sl x.items, Bo x.taken, Lk.sls x.subs]] hE
            simpa [hk] using this
          · rw [if_neg (by rintro (h | h | ⟨_, h⟩); exact h hk; exact h2 h; rw [hbr] at h; cases h)] at hE
            subst hbr
            simp -dsimp [g0, g3, g5, g6, hk, h2, h3, hL]
            exact ⟨by omega, hE⟩
        · rw [if_neg (by rintro (h | h | ⟨h, _⟩); exact h hk; exact h2 h; exact h3 h)] at hE
          simp -dsimp [g0, g3, g5, g6, hk, h2, h3, hL]
          exact ⟨by omega, hE⟩
    · rw [if_pos (.inl hk)] at hE
      have b4 : (x.kind == 4) = false := by simpa using hk
      have b5 : (x.kind != 4) = true := by simpa using hk
      simp -dsimp [g0, g3, g5, g6, b4, b5]
      refine acallsW_of (leave_ok 2 _) ?_
      rintro _ _ ⟨rfl, rfl⟩
      simp -dsimp
      exact finP0 2 [Blk.box 76 [I t.kind, Pk.sls t.lines, Bo t.taken, Tm.sls t.subs], Blk.box 67 [I x.kind, U.sl x.items, Bo x.taken, Lk.sls x.subs]] hE
  clear g g0 g3 g5 g6 hE
  rintro g _ ⟨rfl, g0, g3, g5, g6, hle, hE⟩
  refine awp_cut (fun _ => false) (fun _ => none) (fun f H' => H' = H ++ [bT, bX] ∧ f 0 = .bp c 0 ∧ f 3 = I deep ∧ f 5 = .bp H.length 0 ∧ f 6 = .bp (H.length + 1) 0 ∧ f 9 = nilS) (by kernel_rfl) ?_ ?_
  · simp -dsimp [g0, g3, g5, g6]
  clear g g0 g3 g5 g6
  rintro g _ ⟨rfl, g0, g3, g5, g6, g9⟩
  refine awp_spare 1 ?_
  refine awp_cutA (fun f H' => OutJ H c st br E bT bX (fun n => .ok [] n) (f 9) H') ?_ ?_
  rotate_left
  · clear g g0 g3 g5 g6 g9
    rintro g _ ⟨out, n', L, rfl, a0, a1, a2, g9, a3⟩
    simp only [Rw.pre_ok, List.append_nil] at a3
    refine awp_all (fun _ => false) (fun _ => none) (by kernel_rfl) ?_
    simp -dsimp [g9]
    exact fin _ _ _ _ a3.symm a0 a1 rfl
  refine awp_cut (fun _ => false) (fun _ => none) (fun f H' => H' = H ++ [bT, bX] ++ [Blk.pend] ∧ f 0 = .bp c 0 ∧ f 3 = I deep ∧ f 5 = .bp H.length 0 ∧ f 42 = Lk.sls x.subs ∧ f 43 = I x.subs.length ∧ f 44 = I 0 ∧ f 9 = nilS) (by kernel_rfl) ?_ ?_
  · rw [hbT, hbX]
    simp -dsimp [g0, g3, g5, g6, g9]
  clear g g0 g3 g5 g6 g9
  rintro g _ ⟨rfl, g0, g3, g5, g42, g43, g44, g9⟩
  refine awp_all (fun d => d == 59) (fun _ => none) (by kernel_rfl) ?_
  simp -dsimp [g0, g3, g5, g42, g43, g44, g9]
  refine loop_rule (hn := fun d => d == 59) (od := fun _ => none) (fun (i : Nat) f H' => OutJ H c st br E bT bX (roundsGo rec deep (t.subs.drop i) (x.subs.drop i)) (f 9) H' ∧ f 0 = .bp c 0 ∧ f 3 = I deep ∧ f 5 = .bp H.length 0 ∧ f 42 = Lk.sls x.subs ∧ f 43 = I x.subs.length ∧ f 44 = I i ∧ i ≤ x.subs.length) (fun i => x.subs.length - i) (by kernel_rfl) 0 (by
    simp [g0, g3, g5, g42, g43, g44, g9]
    exact ⟨[], n, [], by rw [set_same hc]; simp [ownB], h0, h1, by simpa using h0, (ownS_nil _).symm, by simp [hE]⟩) ?_
  clear g g0 g3 g5 g42 g43 g44 g9
  rintro i g _ ⟨⟨out, n', L, rfl, a0, a1, a2, g9, hrest⟩, g0, g3, g5, g42, g43, g44, hi⟩
  simp -dsimp [g0, g3, g5, g42, g43, g44, g9]
  refine condVW_introD (fun hlt => ?_) (fun hlt => ?_)
  · have hlt2 : i < t.subs.length := by omega
    rw [drop_cons hlt, drop_cons hlt2, roundsGo] at hrest
    have hgx := lkss_get hlt
    have hgt2 := tmss_get hlt2
    have hlx : x.subs[i]? = some x.subs[i] := List.getElem?_eq_getElem hlt
    have htx : t.subs[i]? = some t.subs[i] := List.getElem?_eq_getElem hlt2
    obtain ⟨s, hsx⟩ : ∃ s, s = x.subs[i] := ⟨_, rfl⟩
    obtain ⟨u, hux⟩ : ∃ u, u = t.subs[i] := ⟨_, rfl⟩
    rw [← hsx] at hrest hgx hlx
    rw [← hux] at hrest hgt2 htx
    clear hsx hux
    have cr := fun H c h => hr.ok u deep s n' (by omega) (by omega) (by omega) (by omega) a0 a1 H c h
    simp -dsimp [g0, g3, g5, g42, g43, g44, g9, hlx, htx, hbT]
    refine rwW (cr _ _ (hg _ _)) (fun a n1 hA h3 h4 => ?_) (fun e n1 hA => ?_)
    rotate_left
    · rw [hA] at hrest
      rw [hss]
      simp -dsimp
      exact finP _ _ _ hrest.symm
    have hal := hr.adds _ _ _ _ _ _ hA
    rw [hA, Rw.bind_ok, Rw.pre_pre] at hrest
    rw [hss]
    simp -dsimp [g0, g3, g5, g42, g43, g44, g9]
    refine appendVW_own (k := H.length + 2) (es := out.map Lk.cells) (by rw [get_next2]) (by simp; omega) (by simp; omega) ?_
    rw [set_next2]
    simp -dsimp [g0, g3, g5, g42, g43, g44, g9]
    exact ⟨i + 1, by omega, ⟨out ++ a, n1, L, by simp [outB, hbT], h3, h4, by simp; omega, by simp [outS], hrest⟩, wrapS (by omega), by omega⟩
  · have h1 : x.subs.drop i = [] := List.drop_eq_nil_of_le (by omega)
    rw [h1, roundsGo] at hrest
    simp -dsimp [g9]
    exact ⟨out, n', L, rfl, a0, a1, a2, rfl, hrest⟩
end
end Go.Proofs
namespace Go.Proofs
open Go.Mu
theorem srcEs_own {H : List Blk} {k sz : Nat} {t : TypeId} {es : List (List AV)} (hk : H[k]? = some (ownB t sz es)) : srcEs H sz (ownS k es) = some es := by
  unfold ownS ownB at *
  split at hk
  · rename_i h; subst h; simp [srcEs]
  · rename_i h; simp [h, srcEs, hk]
section
variable {rec : Rec} {st : Int} {br : Bool} {m : Nat} {n : Int} {t : Tm} {x : Lk} {deep : Nat} {H : List Blk} {c : Nat}
theorem call_ok' (hr : RecOk rec st br m) (hm : x.count ≤ m) (hin : NodeIn t x deep n) (hc : H[c]? = some (rwB st br n)) :
    ACalls Try.prog 144 [.bp c 0, .agg t.cells, .agg x.cells, I deep] H (RwR st br c H Lk.sl (fun _ => []) (callM rec st br t deep x n)) := by
  refine acalls_under fun hu _ => acalls_tidy (acalls_weakE (acalls_of_awp Try.func144 rfl (by kernel_rfl) ?_))
  obtain ⟨hit, hix, hid, h0, h1⟩ := hin
  have hct := Tm.count_eq t
  have hcx := Lk.count_eq x
  have hts := tmss_len t.subs
  have hxs := lkss_len x.subs
  have hpk := pk_len t.lines
  have hcl := lt_of_get hc
  have hL := fun L => get_app_old hc L
  have hs := fun L X => set_app_lt (H := H) hcl X L
  have hg := fun X L => get_set_app (H := H) hcl X L
  have hss := fun X Y L => set_set_app (H := H) hcl X Y L
  obtain ⟨E, hE⟩ : ∃ E, E = callM rec st br t deep x n := ⟨_, rfl⟩
  rw [← hE]
  unfold callM at hE
  have fin := fun out m L j => rw_fin (st := st) (br := br) (c := c) (E := E) hu out m L j
  have finP := fun e m L => rw_finP (st := st) (br := br) (c := c) (E := E) (H := H) e m L
  have finP0 := fun e L => rw_finP0 (E := E) hc e L
  have c1 := fun H => of_ok x 5 (by omega) H
  have c2 := fun H h => lines_ok st br n t.lines x.items (by omega) (by omega) h0 h1 H c h
  have c3 := fun i h H => sub_ok t i (by omega) h H
  simp only [Lk.cells_eq, Tm.cells_eq] at c1 c2 c3 ⊢
  obtain ⟨bT, hbT⟩ : ∃ bT, bT = Blk.box 76 [I t.kind, Pk.sls t.lines, Bo t.taken, Tm.sls t.subs] := ⟨_, rfl⟩
  obtain ⟨bX, hbX⟩ : ∃ bX, bX = Blk.box 67 [I x.kind, U.sl x.items, Bo x.taken, Lk.sls x.subs] := ⟨_, rfl⟩
  refine awp_cut (fun _ => false) (fun _ => none) (fun f H' => H' = H ++ [bT, bX] ∧ f 0 = .bp c 0 ∧ f 3 = I deep ∧ f 5 = .bp H.length 0 ∧ f 6 = .bp (H.length + 1) 0) (by kernel_rfl) ?_ ?_
  · rw [hbT, hbX]
    simp -dsimp
  rintro g _ ⟨rfl, g0, g3, g5, g6⟩
  refine awp_cut (fun _ => false) (fun _ => none) (fun f H' => H' = H ++ [bT, bX] ∧ f 0 = .bp c 0 ∧ f 3 = I deep ∧ f 5 = .bp H.length 0 ∧ f 6 = .bp (H.length + 1) 0 ∧ f 9 = Lk.sl ((ofO x 5).getD []) ∧ (ofO x 5).isSome = true) (by kernel_rfl) ?_ ?_
  · rw [hbT, hbX]
    simp -dsimp [g0, g3, g5, g6]
    refine getW (c1 _) (fun hb => ?_) (fun hb => ?_)
    · simp -dsimp [g0, g3, g5, g6]
      exact hb
    · rw [Option.isSome_eq_false_iff, Option.isNone_iff_eq_none] at hb
      rw [hb] at hE
      simp -dsimp
      exact finP0 _ _ hE
  clear g g0 g3 g5 g6
  rintro g _ ⟨rfl, g0, g3, g5, g6, g9, hb⟩
  obtain ⟨l, hl⟩ := Option.isSome_iff_exists.1 hb
  have hlc := ofO_count hl
  rw [hl, Option.getD_some] at g9
  rw [hl, Rw.get_some] at hE
  -- what stands behind
  refine awp_cut (fun _ => false) (fun _ => none) (fun f H' => H' = H ++ [bT, bX] ∧ f 0 = .bp c 0 ∧ f 3 = I deep ∧ f 5 = .bp H.length 0 ∧ f 6 = .bp (H.length + 1) 0 ∧ f 9 = Lk.sl l ∧ f 10 = Tm.sl (t.subs[1]?.getD []) ∧ 1 < t.subs.length) (by kernel_rfl) ?_ ?_
  · rw [hbT, hbX]
    simp -dsimp [g0, g3, g5, g6, g9]
    refine getW (c3 1 (by omega) _) (fun hb => ?_) (fun hb => ?_)
    · simp -dsimp [g0, g3, g5, g6, g9]
      simpa using hb
    · have hi : ¬ 1 < t.subs.length := by simpa using hb
      have hsu : t.subs[1]? = none := List.getElem?_eq_none (by omega)
      rw [hsu] at hE
      simp -dsimp
      exact finP0 _ _ hE
  clear g g0 g3 g5 g6 g9
  rintro g _ ⟨rfl, g0, g3, g5, g6, g9, g10, hi1⟩
  have hs1 : t.subs[1]? = some t.subs[1] := List.getElem?_eq_getElem hi1
  have hs0 : t.subs[0]? = some t.subs[0] := List.getElem?_eq_getElem (by omega)
  obtain ⟨behind, hbe⟩ : ∃ u, u = t.subs[1] := ⟨_, rfl⟩
  obtain ⟨u, hue⟩ : ∃ u, u = t.subs[0] := ⟨_, rfl⟩
  rw [← hbe] at hs1
  rw [← hue] at hs0
  clear hbe hue
  rw [hs1, Option.getD_some] at g10
  rw [hs1, Rw.get_some, hs0] at hE
  simp only [Rw.get_some] at hE
  have huc := sub_count hs0
  have hbc := sub_count hs1
  -- lines, and what is within
  refine awp_cut (fun d => d == 23 || d == 26 || d == 29 || d == 30) (fun i => if i = 3 then some [(0, []), (1, []), (2, []), (3, []), (4, []), (6, []), (7, []), (9, []), (10, []), (5, [7]), (8, []), (11, []), (12, []), (13, [])] else none)
    (fun f H' => OutJ H c st br E bT bX (fun n2 => if br = true ∧ l.length < u.length then .ok [] n2 else behindGo st behind n2) (f 11) H' ∧ f 0 = .bp c 0 ∧ f 5 = .bp H.length 0 ∧ f 9 = Lk.sl l ∧ f 10 = Tm.sl behind) (by kernel_rfl) ?_ ?_
  · rw [hbT, hbX]
    simp -dsimp [g0, g3, g5, g6, g9, g10]
    refine rwW (c2 _ (hL _)) (fun out n1 hA h3 h4 => ?_) (fun e n1 hA => ?_)
    rotate_left
    · rw [hA] at hE
      rw [hs]
      simp -dsimp
      exact finP _ _ _ hE
    rw [hA] at hE
    have hal := adds_lines _ _ _ _ _ _ hA
    rw [hs]
    simp only [Rw.bind_ok] at hE
    have hgt : ∀ X Y Z L, (H.set c X ++ Y :: Z :: L)[H.length]? = some Y := fun X Y Z L => by simp
    simp -dsimp [hgt, g0, g3, g5, g6, g9, g10]
    refine getW (c3 0 (by omega) _) (fun hb => ?_) (fun hb => ?_)
    rotate_left
    · have hp : 0 < t.subs.length := by omega
      rw [decide_eq_true hp] at hb
      cases hb
    rw [hs0, Option.getD_some]
    have cr := fun H c h => hr.ok u deep l n1 (by omega) (by omega) (by omega) (by omega) h3 h4 H c h
    simp -dsimp [g0, g3, g5, g6, g9, g10]
    refine rwW (cr _ _ (hg _ _)) (fun body n2 hB h5 h6 => ?_) (fun e n2 hB => ?_)
    rotate_left
    · rw [hB] at hE
      rw [hss]
      simp -dsimp
      exact finP _ _ _ hE
    have hbl := hr.adds _ _ _ _ _ _ hB
    rw [hB] at hE
    rw [hss]
    simp -dsimp [g0, g3, g5, g6, g9, g10]
    refine appendVW_own (k := H.length + 2) (es := out.map Lk.cells) (by rw [get_next2]) (by simp; omega) (by simp; omega) ?_
    rw [set_next2]
    simp -dsimp [g0, g3, g5, g6, g9, g10]
    refine ⟨out ++ body, n2, [], by simp [outB, hbT, hbX], h5, h6, by simp; omega, by simp [outS], ?_⟩
    rw [hE, Rw.bind_ok]
    split <;> simp
  clear g g0 g3 g5 g6 g9 g10 hE
  rintro g _ ⟨⟨out, n2, L, rfl, a0, a1, a2, g11, hE⟩, g0, g5, g9, g10⟩
  refine awp_cut (fun _ => false) (fun _ => none) (fun f H' => H' = H.set c (rwB st br n2) ++ bT :: bX :: outB out :: L ∧ f 0 = .bp c 0 ∧ f 10 = Tm.sl behind ∧ f 11 = outS (H.length + 2) out ∧ (behindGo st behind n2).pre out = E) (by kernel_rfl) ?_ ?_
  · have hll := lks_len l
    have hul := tms_len u
    replace hE : (if br = true ∧ l.length < u.length then Rw.ok [] n2 else behindGo st behind n2).pre out = E := hE
    rw [hbT]
    cases hbr : br
    · subst hbr
      rw [if_neg (by rintro ⟨h, _⟩; cases h)] at hE
      simp -dsimp [g0, g5, g9, g10, g11, hg]
      exact hE
    · subst hbr
      by_cases hll2 : l.length < u.length
      · rw [if_pos ⟨rfl, hll2⟩] at hE
        simp only [Rw.pre_ok, List.append_nil] at hE
        simp -dsimp [g0, g5, g9, g10, g11, hg, hs0, hll2]
        exact fin _ _ _ 2 hE.symm a0 a1 rfl
      · rw [if_neg (by rintro ⟨_, h⟩; exact hll2 h)] at hE
        simp -dsimp [g0, g5, g9, g10, g11, hg, hs0, hll2]
        exact hE
  clear g g0 g5 g9 g10 g11 hE
  rintro g _ ⟨rfl, g0, g10, g11, hE⟩
  refine awp_cutA (fun f H' => OutJ H c st br E bT bX (fun n => .ok [] n) (f 11) H') ?_ ?_
  rotate_left
  · clear g g0 g10 g11 hE
    rintro g _ ⟨out, n', L, rfl, a0, a1, a2, g11, a3⟩
    simp only [Rw.pre_ok, List.append_nil] at a3
    refine awp_all (fun _ => false) (fun _ => none) (by kernel_rfl) ?_
    simp -dsimp [g11]
    exact fin _ _ _ _ a3.symm a0 a1 rfl
  have hbl := tms_len behind
  refine awp_all (fun d => d == 57) (fun _ => none) (by kernel_rfl) ?_
  simp -dsimp [g0, g10, g11]
  refine loop_rule (hn := fun d => d == 57) (od := fun _ => none) (fun (i : Nat) f H' => OutJ H c st br E bT bX (behindGo st (behind.drop i)) (f 11) H' ∧ f 0 = .bp c 0 ∧ f 46 = Tm.sl behind ∧ f 47 = I behind.length ∧ f 48 = I i ∧ i ≤ behind.length) (fun i => behind.length - i) (by kernel_rfl) 0 (by
    simp [g0, g10, g11]
    exact ⟨out, n2, L, rfl, a0, a1, a2, rfl, hE⟩) ?_
  clear g g0 g10 g11 hE a0 a1 a2
  rintro i g _ ⟨⟨out, n', L, rfl, a0, a1, a2, g11, hrest⟩, g0, g46, g47, g48, hi⟩
  simp -dsimp [g0, g11, g46, g47, g48]
  refine condVW_introD (fun hlt => ?_) (fun hlt => ?_)
  · rw [drop_cons hlt, behindGo] at hrest
    have hgx := tms_get hlt
    have hlx : behind[i]? = some behind[i] := List.getElem?_eq_getElem hlt
    obtain ⟨y, hy⟩ : ∃ y, y = behind[i] := ⟨_, rfl⟩
    rw [← hy] at hrest hgx hlx
    have hyc := Tm.count_eq y
    clear hy
    have cr := fun H h => lines_ok st br n' y.lines [] (by omega) (by simp) a0 a1 H c h
    have cr2 := fun H h => acalls_weak (WeakL.cons (.refl _) (WeakL.cons (.refl _) (WeakL.cons (.nil 1) .nil))) (cr H h)
    simp -dsimp [g0, g11, g46, g47, g48, hlx]
    refine rwW (cr2 _ (hg _ _)) (fun a n1 hA h3 h4 => ?_) (fun e n1 hA => ?_)
    rotate_left
    · rw [hA] at hrest
      rw [hss]
      simp -dsimp
      exact finP _ _ _ hrest.symm
    have hal := adds_lines _ _ _ _ _ _ hA
    rw [hA, Rw.bind_ok, Rw.pre_pre] at hrest
    rw [hss]
    simp -dsimp [g0, g11, g46, g47, g48]
    have hsrc : ∀ X Y Z W V L, srcEs (H.set c X ++ Y :: Z :: W :: (L ++ [V, outB a])) 4 (outS (H.length + (L.length + 1 + 1 + 1 + 1)) a) = some (a.map Lk.cells) := fun X Y Z W V L => by
      refine srcEs_own (t := 67) ?_
      rw [get_next]
      simp
    simp only [hsrc]
    simp -dsimp [g0, g11, g46, g47, g48]
    refine appendVW_own (k := H.length + 2) (es := out.map Lk.cells) (by rw [get_next2]) (by simp; omega) (by simp; omega) ?_
    rw [set_next2]
    simp -dsimp [g0, g11, g46, g47, g48]
    exact ⟨i + 1, by omega, ⟨out ++ a, n1, _, by simp [outB]; rfl, h3, h4, by simp; omega, by simp [outS], hrest⟩, wrapS (by omega), by omega⟩
  · have h1 : behind.drop i = [] := List.drop_eq_nil_of_le (by omega)
    rw [h1, behindGo] at hrest
    simp -dsimp [g11]
    exact ⟨out, n', L, rfl, a0, a1, a2, rfl, hrest⟩
end
end Go.Proofs
namespace Go.Proofs
open Go.Mu
def subCells (ss : List (List Lk)) : List (List AV) := ss.map fun a => [Lk.sl a]
/-- Rounds that are made so far. -/
def EaM (H : List Blk) (c : Nat) (st : Int) (br : Bool) (F : Rw (List (List Lk))) (bT bX : Blk) (rest : Int → Rw (List (List Lk))) (i : Nat) (H' : List Blk) : Prop :=
  ∃ ss n L, H' = H.set c (rwB st br n) ++ bT :: bX :: .box 67 [I 4, nilS, Bo false, ownS (H.length + 3) (subCells ss)] :: ownB 58 1 (subCells ss) :: L ∧ 0 ≤ n ∧ n ≤ 1000000 ∧ ss.length = i ∧ (rest n).pre ss = F
section
variable {rec : Rec} {st : Int} {br : Bool} {m : Nat} {n : Int} {t : Tm} {x : Lk} {deep : Nat} {H : List Blk} {c : Nat}
theorem get_next3 (X Y Z W V : Blk) (L : List Blk) : (H.set c X ++ Y :: Z :: W :: V :: L)[H.length + 3]? = some V := get_next (H := H) (c := c) (L := Y :: Z :: W :: V :: L) X 3
theorem set_next3 (X Y Z W V V' : Blk) (L : List Blk) : (H.set c X ++ Y :: Z :: W :: V :: L).set (H.length + 3) V' = H.set c X ++ Y :: Z :: W :: V' :: L := set_next (H := H) (c := c) (L := Y :: Z :: W :: V :: L) X V' 3
theorem each_ok (hr : RecOk rec st br m) (hm : x.count ≤ m) (hin : NodeIn t x deep n) (hc : H[c]? = some (rwB st br n)) :
    ACalls Try.prog 146 [.bp c 0, .agg t.cells, .agg x.cells, I deep] H (RwR st br c H Lk.sl (fun _ => []) (eachM rec t deep x n)) := by
  refine acalls_under fun hu _ => acalls_tidy (acalls_weakE (acalls_of_awp Try.func146 rfl (by kernel_rfl) ?_))
  obtain ⟨hit, hix, hid, h0, h1⟩ := hin
  have hct := Tm.count_eq t
  have hcx := Lk.count_eq x
  have hts := tmss_len t.subs
  have hxs := lkss_len x.subs
  have hpk := pk_len t.lines
  have hcl := lt_of_get hc
  have hL := fun L => get_app_old hc L
  have hs := fun L X => set_app_lt (H := H) hcl X L
  have hg := fun X L => get_set_app (H := H) hcl X L
  have hss := fun X Y L => set_set_app (H := H) hcl X Y L
  obtain ⟨E, hE⟩ : ∃ E, E = eachM rec t deep x n := ⟨_, rfl⟩
  rw [← hE]
  unfold eachM at hE
  have finV := fun out m L v => rw_finV (st := st) (br := br) (c := c) (E := E) (H := H) out m L v
  have finP := fun e m L => rw_finP (st := st) (br := br) (c := c) (E := E) (H := H) e m L
  have finP0 := fun e L => rw_finP0 (E := E) hc e L
  have c3 := fun H => sub_ok t 0 (by omega) (by omega) H
  have c4 := fun H h => add2_ok st br n 1 h0 h1 (by omega) (by omega) H c h
  simp only [Lk.cells_eq, Tm.cells_eq] at c3 ⊢
  obtain ⟨bT, hbT⟩ : ∃ bT, bT = Blk.box 76 [I t.kind, Pk.sls t.lines, Bo t.taken, Tm.sls t.subs] := ⟨_, rfl⟩
  obtain ⟨bX, hbX⟩ : ∃ bX, bX = Blk.box 67 [I x.kind, U.sl x.items, Bo x.taken, Lk.sls x.subs] := ⟨_, rfl⟩
  refine awp_cut (fun _ => false) (fun _ => none) (fun f H' => H' = H ++ [bT, bX] ∧ f 0 = .bp c 0 ∧ f 3 = I deep ∧ f 5 = .bp H.length 0 ∧ f 6 = .bp (H.length + 1) 0) (by kernel_rfl) ?_ ?_
  · rw [hbT, hbX]
    simp -dsimp
  rintro g _ ⟨rfl, g0, g3, g5, g6⟩
  refine awp_cut (fun _ => false) (fun _ => none) (fun f H' => H' = H ++ [bT, bX] ∧ f 0 = .bp c 0 ∧ f 3 = I deep ∧ f 5 = .bp H.length 0 ∧ f 6 = .bp (H.length + 1) 0 ∧ x.kind = 4) (by kernel_rfl) ?_ ?_
  · rw [hbT, hbX]
    simp -dsimp [g0, g3, g5, g6]
    refine condVW_introNE (fun hne _ _ => ?_) (fun he => ?_)
    · rw [if_pos hne] at hE
      simp -dsimp
      refine acallsW_of (leave_ok 2 _) ?_
      rintro _ _ ⟨rfl, rfl⟩
      simp -dsimp
      exact finP0 _ _ hE
    · simp -dsimp [g0, g3, g5, g6]
      exact he
  clear g g0 g3 g5 g6
  rintro g _ ⟨rfl, g0, g3, g5, g6, hk⟩
  rw [if_neg (fun h => h hk)] at hE
  refine awp_cut (fun _ => false) (fun _ => none) (fun f H' => H' = H.set c (rwB st br (n + 1)) ++ [bT, bX] ∧ f 0 = .bp c 0 ∧ f 3 = I deep ∧ f 5 = .bp H.length 0 ∧ f 6 = .bp (H.length + 1) 0 ∧ addR 1 n = .ok () (n + 1)) (by kernel_rfl) ?_ ?_
  · rw [hbT, hbX]
    simp -dsimp [g0, g3, g5, g6, hL]
    refine rwW (c4 _ (hL _)) (fun u n1 hA h3 h4 => ?_) (fun e n1 hA => ?_)
    · obtain ⟨rfl, _⟩ := addR_ok hA
      rw [hs]
      simp -dsimp [g0, g3, g5, g6]
      exact hA
    · rw [hA] at hE
      rw [hs]
      simp -dsimp
      exact finP _ _ _ hE
  clear g g0 g3 g5 g6
  rintro g _ ⟨rfl, g0, g3, g5, g6, hA⟩
  have hn1 := (addR_ok hA).2
  rw [hA, Rw.bind_ok] at hE
  refine awp_cut (fun _ => false) (fun _ => none) (fun f H' => H' = H.set c (rwB st br (n + 1)) ++ [bT, bX, .box 67 [I 4, nilS, Bo false, nilS]] ∧ f 0 = .bp c 0 ∧ f 3 = I deep ∧ f 5 = .bp H.length 0 ∧ f 6 = .bp (H.length + 1) 0 ∧ f 9 = .bp (H.length + 2) 0) (by kernel_rfl) ?_ ?_
  · simp -dsimp [g0, g3, g5, g6]
  clear g g0 g3 g5 g6
  rintro g _ ⟨rfl, g0, g3, g5, g6, g9⟩
  refine awp_spare 1 ?_
  obtain ⟨F, hF⟩ : ∃ F, F = eachGo rec t deep x.subs (n + 1) := ⟨_, rfl⟩
  rw [← hF] at hE
  refine awp_cutA (fun f H' => EaM H c st br F bT bX (fun n => .ok [] n) x.subs.length H' ∧ f 9 = .bp (H.length + 2) 0) ?_ ?_
  · refine awp_cut (fun _ => false) (fun _ => none) (fun f H' => H' = H.set c (rwB st br (n + 1)) ++ [bT, bX, .box 67 [I 4, nilS, Bo false, nilS]] ++ [Blk.pend] ∧ f 0 = .bp c 0 ∧ f 3 = I deep ∧ f 5 = .bp H.length 0 ∧ f 9 = .bp (H.length + 2) 0 ∧ f 22 = Lk.sls x.subs ∧ f 23 = I x.subs.length ∧ f 24 = I 0) (by kernel_rfl) ?_ ?_
    · rw [hbT, hbX]
      have hgx : ∀ X Y Z L, (H.set c X ++ Y :: Z :: L)[H.length + 1]? = some Z := fun X Y Z L => get_next (H := H) (c := c) (L := Y :: Z :: L) X 1
      simp -dsimp [g0, g3, g5, g6, g9, hgx]
    clear g g0 g3 g5 g6 g9
    rintro g _ ⟨rfl, g0, g3, g5, g9, g22, g23, g24⟩
    refine awp_all (fun d => d == 32 || d == 36 || d == 38) (fun i => if i = 8 then some [(0, []), (1, []), (2, []), (3, []), (5, []), (6, []), (7, []), (4, [0, 1, 7]), (8, [0, 1]), (9, []), (10, []), (11, []), (12, [])] else none) (by kernel_rfl) ?_
    simp -dsimp [g0, g3, g5, g9, g22, g23, g24]
    refine loop_rule (hn := fun d => d == 32 || d == 36 || d == 38) (od := fun i => if i = 8 then some [(0, []), (1, []), (2, []), (3, []), (5, []), (6, []), (7, []), (4, [0, 1, 7]), (8, [0, 1]), (9, []), (10, []), (11, []), (12, [])] else none) (fun (i : Nat) f H' => EaM H c st br F bT bX (eachGo rec t deep (x.subs.drop i)) i H' ∧ f 0 = .bp c 0 ∧ f 3 = I deep ∧ f 5 = .bp H.length 0 ∧ f 9 = .bp (H.length + 2) 0 ∧ f 22 = Lk.sls x.subs ∧ f 23 = I x.subs.length ∧ f 24 = I i ∧ i ≤ x.subs.length) (fun i => x.subs.length - i) (by kernel_rfl) 0 (by
      simp [g0, g3, g5, g9, g22, g23, g24]
      exact ⟨[], n + 1, [], by simp [subCells, ownB], by omega, by omega, rfl, by simp [hF]⟩) ?_
    clear g g0 g3 g5 g9 g22 g23 g24
    rintro i g _ ⟨⟨ss, n', L, rfl, a0, a1, a2, hrest⟩, g0, g3, g5, g9, g22, g23, g24, hi⟩
    simp -dsimp [g0, g3, g5, g9, g22, g23, g24]
    refine condVW_introD (fun hlt => ?_) (fun hlt => ?_)
    · rw [drop_cons hlt, eachGo] at hrest
      have hgx := lkss_get hlt
      have hlx : x.subs[i]? = some x.subs[i] := List.getElem?_eq_getElem hlt
      obtain ⟨s, hsx⟩ : ∃ s, s = x.subs[i] := ⟨_, rfl⟩
      rw [← hsx] at hrest hgx hlx
      clear hsx
      have w1 : IntKind.i64.wrap ((deep : Int) + 1) = ((deep + 1 : Nat) : Int) := wrapI (by omega) (by omega)
      simp -dsimp [g0, g3, g5, g9, g22, g23, g24, hlx, hbT, get_next2, get_next3, w1]
      refine getW (c3 _) (fun hb => ?_) (fun hb => ?_)
      rotate_left
      · have hi : ¬ 0 < t.subs.length := by simpa using hb
        have hsu : t.subs[0]? = none := List.getElem?_eq_none (by omega)
        rw [hsu] at hrest
        simp only [Rw.get_none, Rw.pre_err] at hrest
        rw [← hrest] at hE
        simp -dsimp
        exact finP _ _ _ hE
      have hi2 : 0 < t.subs.length := by simpa using hb
      have hsu : t.subs[0]? = some t.subs[0] := List.getElem?_eq_getElem hi2
      obtain ⟨u, hu2⟩ : ∃ u, u = t.subs[0] := ⟨_, rfl⟩
      rw [← hu2] at hsu
      clear hu2
      have huc := sub_count hsu
      rw [hsu] at hrest ⊢
      simp only [Rw.get_some, Option.getD_some] at hrest ⊢
      have cr := fun H c h => hr.ok u (deep + 1) s n' (by omega) (by omega) (by omega) (by omega) a0 a1 H c h
      simp -dsimp [g0, g3, g5, g9, g22, g23, g24, get_next2, get_next3, w1]
      refine rwW (cr _ _ (hg _ _)) (fun a n2 hC h7 h8 => ?_) (fun e n2 hC => ?_)
      rotate_left
      · rw [hC] at hrest
        simp only [Rw.bind_err, Rw.pre_err] at hrest
        rw [← hrest] at hE
        rw [hss]
        simp -dsimp
        exact finP _ _ _ hE
      rw [hC, Rw.bind_ok, Rw.pre_pre] at hrest
      rw [hss]
      simp -dsimp [g0, g3, g5, g9, g22, g23, g24, get_next2, get_next3]
      refine appendVW_own (k := H.length + 3) (es := subCells ss) (by rw [get_next3]) (by simp [subCells]; omega) (by simp [subCells]; omega) ?_
      rw [set_next3]
      simp -dsimp [g0, g3, g5, g9, g22, g23, g24, get_next2, get_next3, set_next2]
      exact ⟨i + 1, by omega, ⟨ss ++ [a], n2, L, by simp [subCells, hbT], h7, h8, by simp [a2], hrest⟩, wrapS (by omega), by omega⟩
    · have h1 : x.subs.drop i = [] := List.drop_eq_nil_of_le (by omega)
      rw [h1, eachGo] at hrest
      simp -dsimp [g9]
      exact ⟨ss, n', L, rfl, a0, a1, by omega, hrest⟩
  clear g g0 g3 g5 g6 g9
  rintro g _ ⟨⟨ss, n', L, rfl, a0, a1, a2, hrest⟩, g9⟩
  rw [Rw.pre_ok, List.append_nil] at hrest
  rw [← hrest, Rw.bind_ok] at hE
  have hzs : (subCells ss).flatten.all AV.frzB = true := subs_frzB ss
  have hlen2 : (H.set c (rwB st br n')).length = H.length := by simp
  have hun2 : underH (H.set c (rwB st br n')).length (H.set c (rwB st br n')) = true := by rw [hlen2]; exact underH_set hu rfl
  refine awp_giveO hun2 3 1 58 (subCells ss) rfl hzs ?_
  have hg9 : (fun s => (g s).frzS ((H.set c (rwB st br n')).length + 3) 1 (subCells ss)) 9 = .bp (H.length + 2) 0 := by
    show (g 9).frzS _ _ _ = _
    rw [g9]; simp
  generalize (fun s => (g s).frzS ((H.set c (rwB st br n')).length + 3) 1 (subCells ss)) = g' at hg9 ⊢
  clear g9
  rw [hlen2, hbT, hbX]
  simp only [List.map_cons, List.set_cons_zero, List.set_cons_succ, blkS_box, List.map_nil, frzS_own, frzS_v, frzS_vs]
  refine awp_weakbox (H.length + 2) 67 _ (Lk.mk 4 [] false ss).cells (by rw [get_next2]) (by
    rw [Lk.cells_eq]
    exact .cons (.refl _) (.cons (.nil 1) (.cons (.refl _) (.cons (Weak.gvS _ _) .nil)))) ?_
  rw [set_next2]
  refine awp_all (fun _ => false) (fun _ => none) (by kernel_rfl) ?_
  simp only [Lk.cells_eq]
  simp -dsimp [hg9, get_next2]
  exact finV [.mk 4 [] false ss] n' _ _ (by simp [Lk.sl]; exact .refl _) hE a0 a1
end
end Go.Proofs
