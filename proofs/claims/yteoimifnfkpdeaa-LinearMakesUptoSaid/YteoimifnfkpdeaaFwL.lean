/- The conditions of code, as they are reckoned: the rules by which 'simp' goes through a function's text. -/
import Derived.Test.YteoimifnfkpdeaaFwK
set_option linter.unusedVariables false
set_option linter.unusedSimpArgs false
universe u
namespace Go.Mu
open Go.RowKit (Below)

/-- A word that hangs on x: what stands under it is left as it is by the rules. -/
def Wit {α : Sort u} (_ : α) : Type := Unit
def wit {α : Sort u} (x : α) : Wit x := PUnit.unit
def bindOW {α : Type} (a : Option α) (k : α → Prop) (_ : Wit k) : Prop := bindO a k
def bindVW (a : AV) (k : AV → Prop) (_ : Wit k) : Prop := k a
def bindHW (a : List Blk) (k : List Blk → Prop) (_ : Wit k) : Prop := k a
def andVW (c k : Prop) (_ : Wit k) : Prop := andV c k
def condVW (a : AV) (y n : Prop) (_ : Wit y) (_ : Wit n) : Prop := condV a y n
def guardVW (a : AV) (w : Bool) (y n : Prop) (_ : Wit y) (_ : Wit n) : Prop := guardV a w y n
def panVW (a : AV) (k : Prop) (_ : Wit k) : Prop := panV a k
def callVW (P : Program) (H : List Blk) (fv : AV) (args : List AV) (K pan : AV → List Blk → Prop) (_ : Wit K) (_ : Wit pan) : Prop := callV P H fv args K pan
def ACallsW (P : Program) (fid : FuncId) (args : List AV) (H : List Blk) (R : AE → List Blk → Prop) (_ : Wit R) : Prop := ACalls P fid args H R
def AWPW (P : Program) (n : Nat) (c : Code) (Q : AQ) (f : Fr) (H : List Blk) (ds : List ADef) (_ : Wit (n, c, Q, f, H, ds)) : Prop := AWP P n c Q f H ds
def vcLW (P : Program) (hn : Nat → Bool) (dr : Bool) (ops : Array Oper) (l : List Oper) (Q : AQ) (f : Fr) (H : List Blk) (ds : List ADef) (_ : Wit (hn, ops, l, Q, f, H, ds)) : Prop := vcL P hn dr ops l Q f H ds
def vcCW (P : Program) (hn : Nat → Bool) (od : Nat → Option OPlan) (n : Nat) (c : Code) (Q : AQ) (f : Fr) (H : List Blk) (ds : List ADef) (_ : Wit (hn, od, n, c, Q, f, H, ds)) : Prop := vcC P hn od n c Q f H ds
def opsL (l : List Oper) : List Nat → List Oper
  | [] => []
  | i :: is => match l[i]? with | some o => o :: opsL l is | none => opsL l is
theorem opsL_eq (l : List Oper) (is : List Nat) : opsL l is = is.filterMap fun i => l[i]? := by
  induction is with
  | nil => rfl
  | cons i is ih => simp only [opsL, List.filterMap_cons]; cases l[i]? <;> simp [ih]
@[simp] theorem opsL_nil (l : List Oper) : opsL l [] = [] := (rfl)
@[simp] theorem opsL_cons (l : List Oper) (i : Nat) (is : List Nat) : opsL l (i :: is) = (match l[i]? with | some o => o :: opsL l is | none => opsL l is) := (rfl)
def QW (Q : AQ) (x : AX) (f : Fr) (H : List Blk) (ds : List ADef) (_ : Wit (Q, x, f, H, ds)) : Prop := Q x f H ds
def fW (t : Nat) (f : Fr) (_ : Wit f) : AV := f t
def vcPW (P : Program) (hn : Nat → Bool) (od : Option OPlan) (ops : Array Oper) (Q : AQ) (f : Fr) (H : List Blk) (ds : List ADef) (_ : Wit (hn, ops, Q, f, H, ds)) : Prop :=
  match od with | none => vcL P hn true ops ops.toList Q f H ds | some p => vcX P hn ops Q ds p f H
def vcXW (P : Program) (hn : Nat → Bool) (p : OPlan) (ops : Array Oper) (Q : AQ) (f : Fr) (H : List Blk) (ds : List ADef) (_ : Wit (hn, ops, Q, f, H, ds)) : Prop := vcX P hn ops Q ds p f H
def lateW (P : Program) (hn : Nat → Bool) (l : List Oper) (ops : Array Oper) (f : Fr) (H : List Blk) (_ : Wit (hn, ops, f, H)) : Prop := lateV P hn ops f H l
def vcDW (P : Program) (hn : Nat → Bool) (l : List Oper) (ops : Array Oper) (Q : AQ) (f : Fr) (H : List Blk) (ds : List ADef) (_ : Wit (hn, ops, Q, f, H, ds)) : Prop := vcL P hn true ops l Q f H ds
@[simp] theorem vcPW_none (P : Program) (hn : Nat → Bool) (l : List Oper) (Q : AQ) (f : Fr) (H : List Blk) (ds : List ADef) (w : Wit (hn, l.toArray, Q, f, H, ds)) : vcPW P hn none l.toArray Q f H ds w = vcLW P hn true l.toArray l Q f H ds (wit _) := (rfl)
@[simp] theorem vcPW_some (P : Program) (hn : Nat → Bool) (p : OPlan) (ops : Array Oper) (Q : AQ) (f : Fr) (H : List Blk) (ds : List ADef) (w : Wit (hn, ops, Q, f, H, ds)) : vcPW P hn (some p) ops Q f H ds w = vcXW P hn p ops Q f H ds (wit _) := (rfl)
@[simp] theorem vcXW_nil (P : Program) (hn : Nat → Bool) (ops : Array Oper) (Q : AQ) (f : Fr) (H : List Blk) (ds : List ADef) (w : Wit (hn, ops, Q, f, H, ds)) : vcXW P hn [] ops Q f H ds w = QW Q .normal f H ds (wit _) := (rfl)
@[simp] theorem vcXW_pure (P : Program) (hn : Nat → Bool) (i : Nat) (p : OPlan) (l : List Oper) (Q : AQ) (f : Fr) (H : List Blk) (ds : List ADef) (w : Wit (hn, l.toArray, Q, f, H, ds)) : vcXW P hn ((i, []) :: p) l.toArray Q f H ds w = vcDW P hn (opsL l [i]) l.toArray (thenQ (fun f' H' _ => vcX P hn l.toArray Q ds p f' H') Q) f H ds (wit _) := by
  simp only [vcXW, vcX, vcDW, opsAt, opsL_eq, List.getElem?_toArray, List.filterMap_nil, lateV, true_and]
@[simp] theorem vcXW_late (P : Program) (hn : Nat → Bool) (i j : Nat) (js : List Nat) (p : OPlan) (l : List Oper) (Q : AQ) (f : Fr) (H : List Blk) (ds : List ADef) (w : Wit (hn, l.toArray, Q, f, H, ds)) : vcXW P hn ((i, j :: js) :: p) l.toArray Q f H ds w = vcDW P hn (opsL l [i]) l.toArray (thenQ (fun f' H' _ => lateW P hn (opsL l (j :: js)) l.toArray f' H' (wit _) ∧ vcXW P hn p l.toArray Q f' H' ds (wit _)) Q) f H ds (wit _) := by
  simp only [vcXW, vcX, vcDW, lateW, opsAt, opsL_eq, List.getElem?_toArray]
@[simp] theorem vcX_W (P : Program) (hn : Nat → Bool) (p : OPlan) (ops : Array Oper) (Q : AQ) (f : Fr) (H : List Blk) (ds : List ADef) : vcX P hn ops Q ds p f H = vcXW P hn p ops Q f H ds (wit _) := (rfl)
@[simp] theorem lateW_nil (P : Program) (hn : Nat → Bool) (ops : Array Oper) (f : Fr) (H : List Blk) (w : Wit (hn, ops, f, H)) : lateW P hn [] ops f H w = True := (rfl)
@[simp] theorem lateW_cons (P : Program) (hn : Nat → Bool) (dst : Option Tmp) (op : Op) (ty : TypeId) (pos : String) (aft : Array Edge) (g : Option (Nat × Bool)) (l : List Oper) (ops : Array Oper) (f : Fr) (H : List Blk) (w : Wit (hn, ops, f, H)) :
  lateW P hn (Oper.mk dst op ty pos aft g :: l) ops f H w = (vcLW P hn true ops [Oper.mk dst op ty pos aft g] (lateQ dst f H) f H [] (wit _) ∧ lateW P hn l ops f H (wit _)) := (rfl)
@[simp ↓] theorem QW_late_some (d : Nat) (f f' : Fr) (H H' : List Blk) (ds : List ADef) (w : Wit (lateQ (some d) f H, AX.normal, f', H', ds)) : QW (lateQ (some d) f H) .normal f' H' ds w = (H' = H ∧ fW d f' (wit _) = fW d f (wit _)) := (rfl)
@[simp ↓] theorem QW_late_none (f f' : Fr) (H H' : List Blk) (ds : List ADef) (w : Wit (lateQ none f H, AX.normal, f', H', ds)) : QW (lateQ none f H) .normal f' H' ds w = (H' = H ∧ True) := (rfl)
@[simp] theorem vcDW_nil (P : Program) (hn : Nat → Bool) (ops : Array Oper) (Q : AQ) (f : Fr) (H : List Blk) (ds : List ADef) (w : Wit (hn, ops, Q, f, H, ds)) : vcDW P hn [] ops Q f H ds w = QW Q .normal f H ds (wit _) := (rfl)
@[simp] theorem vcDW_cons (P : Program) (hn : Nat → Bool) (o : Oper) (l : List Oper) (ops : Array Oper) (Q : AQ) (f : Fr) (H : List Blk) (ds : List ADef) (w : Wit (hn, ops, Q, f, H, ds)) : vcDW P hn (o :: l) ops Q f H ds w = vcLW P hn true ops (o :: l) Q f H ds (wit _) := (rfl)
def idxVW (H : List Blk) (sz : Nat) (x : AV) (i : Int) (k : AV → Prop) (_ : Wit k) : Prop := idxV H sz x i k
def idxAW (len sz : Nat) (x : AV) (i : Int) (k : AV → Prop) (_ : Wit k) : Prop := idxA len sz x i k
def sliceVW (H : List Blk) (sz : Nat) (x : AV) (lo hi : Option Int) (k : AV → Prop) (_ : Wit k) : Prop := sliceV H sz x lo hi k
def appendVW (H : List Blk) (sl : TypeId × Nat × List Value × Nat) (s : AV) (ys : List (List AV)) (K : AV → List Blk → Prop) (_ : Wit K) : Prop := appendV H sl s ys K
def appFzW (s x : AV) (sl : TypeId × Nat × List Value × Nat) (K : AV → Prop) (_ : Wit K) : Prop := appFz s x sl K
def mapUpdW (H : List Blk) (m : AV) (k : Option Value) (x : AV) (d : TypeDesc) (K : List Blk → Prop) (_ : Wit K) : Prop := mapUpd H m k x d K
def evW (x : Operand) (f : Fr) (_ : Wit f) : AV := ev f x
def evs (l : List Operand) (f : Fr) (_ : Wit f) : List AV := l.map (ev f)
def evp (l : List (Nat × Operand)) (f : Fr) (_ : Wit f) : List (Nat × AV) := l.map fun x => (x.1, ev f x.2)
def resW (P : Program) (H : List Blk) (rs : List ResultVar) (f : Fr) (_ : Wit f) : Option (List AV) := resAll P H f rs

@[simp] theorem bindVW_eq (a : AV) (k : AV → Prop) (w : Wit k) : bindVW a k w = k a := (rfl)
@[simp] theorem bindHW_eq (a : List Blk) (k : List Blk → Prop) (w : Wit k) : bindHW a k w = k a := (rfl)
@[simp] theorem bindOW_some {α : Type} (a : α) (k : α → Prop) (w : Wit k) : bindOW (some a) k w = k a := by simp [bindOW, bindO]
@[simp] theorem bindOW_none {α : Type} (k : α → Prop) (w : Wit k) : bindOW none k w = False := by simp [bindOW, bindO]
theorem bindOW_intro {α : Type} {a : Option α} {b : α} {k : α → Prop} {w : Wit k} (h : a = some b) (hk : k b) : bindOW a k w := ⟨b, h, hk⟩
@[simp] theorem andVW_true (k : Prop) (w : Wit k) : andVW True k w = k := by simp [andVW, andV]
@[simp] theorem andVW_false (k : Prop) (w : Wit k) : andVW False k w = False := by simp [andVW, andV]
theorem andVW_intro {c k : Prop} {w : Wit k} (h : c) (hk : k) : andVW c k w := ⟨h, hk⟩
@[simp] theorem condVW_true (y n : Prop) (w : Wit y) (w' : Wit n) : condVW (.v (.bool true)) y n w w' = y := (rfl)
@[simp] theorem condVW_false (y n : Prop) (w : Wit y) (w' : Wit n) : condVW (.v (.bool false)) y n w w' = n := (rfl)
theorem condVW_intro {b : Bool} {y n : Prop} {w : Wit y} {w' : Wit n} (hy : b = true → y) (hn : b = false → n) : condVW (.v (.bool b)) y n w w' := by
  cases b
  · exact hn rfl
  · exact hy rfl
@[simp] theorem bindOW_map {α β : Type} (o : Option α) (g : α → β) (k : β → Prop) (w : Wit k) : bindOW (o.map g) k w = bindOW o (fun a => k (g a)) (wit _) := by cases o <;> simp
theorem condVW_introD {p : Prop} [Decidable p] {y n : Prop} {w : Wit y} {w' : Wit n} (hy : p → y) (hn : ¬p → n) : condVW (.v (.bool (decide p))) y n w w' :=
  condVW_intro (fun h => hy (of_decide_eq_true h)) (fun h => hn (of_decide_eq_false h))
theorem condVW_introND {p : Prop} [Decidable p] {y n : Prop} {w : Wit y} {w' : Wit n} (hy : ¬p → y) (hn : p → n) : condVW (.v (.bool (!decide p))) y n w w' :=
  condVW_intro (fun h => hy (by simpa using h)) (fun h => hn (by simpa using h))
@[simp] theorem guardVW_tt (y n : Prop) (w : Wit y) (w' : Wit n) : guardVW (.v (.bool true)) true y n w w' = y := by simp [guardVW, guardV]
@[simp] theorem guardVW_tf (y n : Prop) (w : Wit y) (w' : Wit n) : guardVW (.v (.bool true)) false y n w w' = n := by simp [guardVW, guardV]
@[simp] theorem guardVW_ft (y n : Prop) (w : Wit y) (w' : Wit n) : guardVW (.v (.bool false)) true y n w w' = n := by simp [guardVW, guardV]
@[simp] theorem guardVW_ff (y n : Prop) (w : Wit y) (w' : Wit n) : guardVW (.v (.bool false)) false y n w w' = y := by simp [guardVW, guardV]
@[simp] theorem guardVW_tup (b : Bool) (y n : Prop) (w : Wit y) (w' : Wit n) : guardVW (.tup []) b y n w w' = n := (rfl)
theorem guardVW_introT {b : Bool} {y n : Prop} {w : Wit y} {w' : Wit n} (hy : b = true → y) (hn : b = false → n) : guardVW (.v (.bool b)) true y n w w' := by
  cases b
  · exact ⟨fun h => (by cases h), fun _ => hn rfl⟩
  · exact ⟨fun _ => hy rfl, fun h => absurd rfl h⟩
theorem guardVW_introF {b : Bool} {y n : Prop} {w : Wit y} {w' : Wit n} (hy : b = true → n) (hn : b = false → y) : guardVW (.v (.bool b)) false y n w w' := by
  cases b
  · exact ⟨fun _ => hn rfl, fun h => absurd rfl h⟩
  · exact ⟨fun h => (by cases h), fun _ => hy rfl⟩
theorem guardVW_introTD {p : Prop} [Decidable p] {y n : Prop} {w : Wit y} {w' : Wit n} (hy : p → y) (hn : ¬p → n) : guardVW (.v (.bool (decide p))) true y n w w' :=
  guardVW_introT (fun h => hy (of_decide_eq_true h)) (fun h => hn (of_decide_eq_false h))
theorem guardVW_introFD {p : Prop} [Decidable p] {y n : Prop} {w : Wit y} {w' : Wit n} (hy : p → n) (hn : ¬p → y) : guardVW (.v (.bool (decide p))) false y n w w' :=
  guardVW_introF (fun h => hy (of_decide_eq_true h)) (fun h => hn (of_decide_eq_false h))
@[simp] theorem panVW_ifc (t : TypeId) (x : AV) (k : Prop) (w : Wit k) : panVW (.ifc t x) k w = k := (rfl)
def callTVW (P : Program) (hn : Nat → Bool) (dr : Bool) (H : List Blk) (dst : Option Tmp) (fv : AV) (args : List AV) (K pan : AV → List Blk → Prop) (_ : Wit K) (_ : Wit pan) : Prop := callTV P hn dr H dst fv args K pan
def callDVW (P : Program) (H : List Blk) (fv : AV) (args : List AV) (K : AV → List Blk → Prop) (_ : Wit K) : Prop := callDV P H fv args K
def callDW (P : Program) (g : FuncId) (args : List AV) (H : List Blk) (K : AV → List Blk → Prop) (_ : Wit K) : Prop := ∃ r, ACalls P g args H (fun e H' => e = .ret r ∧ H' = H) ∧ K r H
theorem callDW_intro {P : Program} {g : FuncId} {args : List AV} {H : List Blk} {K : AV → List Blk → Prop} {w : Wit K} {r : AV} (h : ACalls P g args H (fun e H' => e = .ret r ∧ H' = H)) (k : K r H) : callDW P g args H K w := ⟨r, h, k⟩
@[simp] theorem callTVW_seq {P : Program} {hn : Nat → Bool} {H : List Blk} (dst : Option Tmp) (fv : AV) (args : List AV) (K pan : AV → List Blk → Prop) (w : Wit K) (w' : Wit pan) : callTVW P hn false H dst fv args K pan w w' = callVW P H fv args K pan (wit _) (wit _) := by simp [callTVW, callTV]; rfl
@[simp] theorem callTVW_own {P : Program} {hn : Nat → Bool} {H : List Blk} {d : Tmp} (h : hn d = true) (fv : AV) (args : List AV) (K pan : AV → List Blk → Prop) (w : Wit K) (w' : Wit pan) : callTVW P hn true H (some d) fv args K pan w w' = callVW P H fv args K pan (wit _) (wit _) := by simp [callTVW, callTV, h]; rfl
@[simp] theorem callTVW_det {P : Program} {hn : Nat → Bool} {H : List Blk} {d : Tmp} (h : hn d = false) (fv : AV) (args : List AV) (K pan : AV → List Blk → Prop) (w : Wit K) (w' : Wit pan) : callTVW P hn true H (some d) fv args K pan w w' = callDVW P H fv args K (wit _) := by simp [callTVW, callTV, h]; rfl
@[simp] theorem callTVW_none {P : Program} {hn : Nat → Bool} {H : List Blk} (h : hn 0 = true) (fv : AV) (args : List AV) (K pan : AV → List Blk → Prop) (w : Wit K) (w' : Wit pan) : callTVW P hn true H none fv args K pan w w' = callVW P H fv args K pan (wit _) (wit _) := by simp [callTVW, callTV, h]; rfl
@[simp] theorem callDVW_fn {P : Program} {H : List Blk} (g : FuncId) (first cap args : List AV) (K : AV → List Blk → Prop) (w : Wit K) : callDVW P H (.fn (.func g) first cap) args K w = andVW (okFn P g = true) (callDW P g (first ++ args ++ cap) H K (wit _)) (wit _) := (rfl)
@[simp] theorem callVW_fn {P : Program} {H : List Blk} (g : FuncId) (first cap args : List AV) (K pan : AV → List Blk → Prop) (w : Wit K) (w' : Wit pan) : callVW P H (.fn (.func g) first cap) args K pan w w' = andVW (okFn P g = true) (ACallsW P g (first ++ args ++ cap) H (callK K pan) (wit _)) (wit _) := (rfl)
@[simp] theorem idxVW_vs (H : List Blk) (sz sz' : Nat) (es : List (List AV)) (i : Int) (k : AV → Prop) (w : Wit k) : idxVW H sz (.vs sz' es) i k w = andVW (sz' = sz ∧ 0 ≤ i) (bindOW es[i.toNat]? (fun e => k (.vp e)) (wit _)) (wit _) := (rfl)
@[simp] theorem idxVW_hs (H : List Blk) (sz h off n ver : Nat) (i : Int) (k : AV → Prop) (w : Wit k) : idxVW H sz (.hs h off n ver) i k w = (match H[h]? with | some (.row _ z es) => andVW (z = sz ∧ es.length = ver ∧ 0 ≤ i ∧ i < n) (k (.rp h ver (off + i.toNat) 0)) (wit _) | _ => False) := (rfl)
@[simp] theorem idxAW_bp (len sz h off : Nat) (i : Int) (k : AV → Prop) (w : Wit k) : idxAW len sz (.bp h off) i k w = andVW (0 ≤ i ∧ i < len) (k (.bp h (off + i.toNat * sz))) (wit _) := (rfl)
@[simp] theorem idxAW_vp (len sz : Nat) (cs : List AV) (i : Int) (k : AV → Prop) (w : Wit k) : idxAW len sz (.vp cs) i k w = andVW (0 ≤ i ∧ i < len) (k (.vp (cs.drop (i.toNat * sz)))) (wit _) := (rfl)
@[simp] theorem sliceVW_vs (H : List Blk) (sz sz' : Nat) (es : List (List AV)) (lo hi : Option Int) (k : AV → Prop) (w : Wit k) : sliceVW H sz (.vs sz' es) lo hi k w =
  andVW (sz' = sz ∧ 0 ≤ lo.getD 0 ∧ lo.getD 0 ≤ hi.getD es.length ∧ hi.getD es.length ≤ es.length) (k (.vs sz ((es.take (hi.getD es.length).toNat).drop (lo.getD 0).toNat))) (wit _) := (rfl)
@[simp] theorem sliceVW_nil (H : List Blk) (sz : Nat) (lo hi : Option Int) (k : AV → Prop) (w : Wit k) : sliceVW H sz (.v (.slice none 0 0)) lo hi k w = andVW (lo.getD 0 = 0 ∧ hi.getD 0 = 0) (k (.v (.slice none 0 0))) (wit _) := (rfl)
@[simp] theorem sliceVW_hs (H : List Blk) (sz h off n ver : Nat) (lo hi : Option Int) (k : AV → Prop) (w : Wit k) : sliceVW H sz (.hs h off n ver) lo hi k w = (match H[h]? with
    | some (.row _ z es) => andVW (z = sz ∧ es.length = ver ∧ 0 ≤ lo.getD 0 ∧ lo.getD 0 ≤ hi.getD n ∧ hi.getD n ≤ n ∧ (lo.getD 0 = 0 ∨ lo.getD 0 < hi.getD n)) (k (.hs h (off + (lo.getD 0).toNat) ((hi.getD n).toNat - (lo.getD 0).toNat) ver)) (wit _)
    | _ => False) := (rfl)
@[simp] theorem appFzW_nil (sz : Nat) (ys : List (List AV)) (sl : TypeId × Nat × List Value × Nat) (K : AV → Prop) (w : Wit K) : appFzW (.v (.slice none 0 0)) (.vs sz ys) sl K w =
  andVW (sz = sl.2.1) (andVW (ys.length * sl.2.2.2 ≤ 140737488355328 ∧ ys.length ≤ 9223372036854775807) (K (.vs sz ys)) (wit _)) (wit _) := (rfl)
@[simp] theorem mapUpdW_hm (H : List Blk) (h : Nat) (k : Option Value) (x : AV) (d : TypeDesc) (K : List Blk → Prop) (w : Wit K) : mapUpdW H (.hm h) k x d K w = bindOW (mapEs H (.hm h)) (fun es => bindOW k (fun k => bindOW (mset d k x es) (fun es' => bindHW (H.set h (.map es')) K (wit _)) (wit _)) (wit _)) (wit _) := (rfl)

theorem ev_upd_tmp (f : Fr) (d t : Nat) (x : AV) : ev (upd f d x) (.tmp t) = if t = d then x else ev f (.tmp t) := (rfl)
@[simp ↓] theorem upd_eval (f : Fr) (d t : Nat) (x : AV) : upd f d x t = if t = d then x else f t := (rfl)
@[simp ↓] theorem updO_some (f : Fr) (d : Nat) (x : AV) : updO f (some d) x = upd f d x := (rfl)
@[simp ↓] theorem updO_none (f : Fr) (x : AV) : updO f none x = f := (rfl)
@[simp ↓] theorem evW_tmp (f : Fr) (t : Nat) (w : Wit f) : evW (.tmp t) f w = fW t f (wit _) := (rfl)
@[simp ↓] theorem evW_const (f : Fr) (x : Value) (w : Wit f) : evW (.const x) f w = .v x := (rfl)
@[simp ↓] theorem evW_global (f : Fr) (g : Nat) (w : Wit f) : evW (.global g) f w = .v (.pointer (some ⟨g, 0, none⟩)) := (rfl)
@[simp ↓] theorem evW_func (f : Fr) (g : Nat) (w : Wit f) : evW (.func g) f w = .fn (.func g) [] [] := (rfl)
@[simp ↓] theorem fW_upd (f : Fr) (d t : Nat) (x : AV) (w : Wit (upd f d x)) : fW t (upd f d x) w = if t = d then x else fW t f (wit _) := (rfl)
@[simp ↓] theorem fW_updS (f : Fr) (d t : Nat) (x : AV) (w : Wit (updO f (some d) x)) : fW t (updO f (some d) x) w = if t = d then x else fW t f (wit _) := (rfl)
@[simp ↓] theorem fW_updN (f : Fr) (t : Nat) (x : AV) (w : Wit (updO f none x)) : fW t (updO f none x) w = fW t f (wit _) := (rfl)
@[simp ↓] theorem panFr_seq (ops : Array Oper) (f : Fr) : panFr false ops f = f := (rfl)
def dstsB (t : Nat) : List Oper → Bool
  | [] => false
  | ⟨dst, _, _, _, _, _⟩ :: l => dst == some t || dstsB t l
def dstsW (t : Nat) (l : List Oper) (_ : Wit l) : Bool := dstsB t l
theorem any_dsts (t : Nat) (l : List Oper) : l.toArray.any (fun o => o.dst == some t) = dstsB t l := by
  induction l with
  | nil => simp [dstsB]
  | cons o l ih => obtain ⟨dst, op, ty, pos, aft, g⟩ := o; simp only [dstsB, ← ih]; simp
@[simp ↓] theorem dstsW_nil (t : Nat) (w : Wit ([] : List Oper)) : dstsW t [] w = false := (rfl)
@[simp ↓] theorem dstsW_cons (t : Nat) (dst : Option Tmp) (op : Op) (ty : TypeId) (pos : String) (aft : Array Edge) (g : Option (Nat × Bool)) (l : List Oper) (w : Wit (Oper.mk dst op ty pos aft g :: l)) : dstsW t (Oper.mk dst op ty pos aft g :: l) w = (dst == some t || dstsW t l (wit _)) := (rfl)
@[simp ↓] theorem fW_pan (l : List Oper) (f : Fr) (t : Nat) (w : Wit (panFr true l.toArray f)) : fW t (panFr true l.toArray f) w = if dstsW t l (wit _) = true then .junk else fW t f (wit _) := by
  simp only [fW, panFr, maskFr, any_dsts, dstsW]; rfl
@[simp ↓] theorem fW_frm_nil (i t : Nat) (w : Wit (frm [] i)) : fW t (frm [] i) w = .tup [] := (rfl)
@[simp ↓] theorem fW_frm_cons (a : AV) (as : List AV) (i t : Nat) (w : Wit (frm (a :: as) i)) : fW t (frm (a :: as) i) w = if t = i then a else fW t (frm as (i + 1)) (wit _) := (rfl)
@[simp ↓] theorem evs_nil (f : Fr) (w : Wit f) : evs [] f w = [] := (rfl)
@[simp ↓] theorem evs_cons (x : Operand) (l : List Operand) (f : Fr) (w : Wit f) : evs (x :: l) f w = evW x f (wit _) :: evs l f (wit _) := (rfl)
@[simp ↓] theorem evp_nil (f : Fr) (w : Wit f) : evp [] f w = [] := (rfl)
@[simp ↓] theorem evp_cons (i : Nat) (x : Operand) (l : List (Nat × Operand)) (f : Fr) (w : Wit f) : evp ((i, x) :: l) f w = (i, evW x f (wit _)) :: evp l f (wit _) := (rfl)
@[simp ↓] theorem resW_nil (P : Program) (H : List Blk) (f : Fr) (w : Wit f) : resW P H [] f w = some [] := (rfl)
@[simp ↓] theorem resW_tmp (P : Program) (H : List Blk) (t : Nat) (rs : List ResultVar) (f : Fr) (w : Wit f) : resW P H (.tmp t :: rs) f w = (resW P H rs f (wit _)).map (fW t f (wit _) :: ·) := by
  simp only [resW, resAll, resOne]; cases resAll P H f rs <;> rfl
theorem resW_cell (P : Program) (H : List Blk) (a t : Nat) (rs : List ResultVar) (f : Fr) (w : Wit f) : resW P H (.cell a t :: rs) f w =
  (match cellsAt H (fW a f (wit _)), szOf P t, aggOf P t with | some cs, some sz, some b => (aload b sz cs).bind fun x => (resW P H rs f (wit _)).map (x :: ·) | _, _, _ => none) := by
  simp only [resW, resAll, resOne, fW]
  cases cellsAt H (f a) with
  | none => rfl
  | some cs =>
    cases szOf P t with
    | none => rfl
    | some sz =>
      cases aggOf P t with
      | none => rfl
      | some b =>
        simp only
        cases aload b sz cs with
        | none => rfl
        | some x => cases resAll P H f rs <;> rfl
attribute [simp ↓] resW_cell
@[simp] theorem resTup_one (x : AV) : resTup [x] = x := (rfl)
@[simp] theorem resTup_nil : resTup [] = .tup [] := (rfl)
@[simp] theorem resTup_two (x y : AV) (l : List AV) : resTup (x :: y :: l) = .tup (x :: y :: l) := (rfl)

def gdL : List Oper → Nat → Nat
  | [], _ => 0
  | ⟨dst, _, _, _, _, _⟩ :: _, 0 => dst.getD 0
  | _ :: l, j + 1 => gdL l j
theorem gdst_gdL : ∀ (l : List Oper) (j : Nat), gdst l.toArray j = gdL l j
  | [], j => by simp [gdst, gdL]
  | ⟨dst, _, _, _, _, _⟩ :: l, 0 => by simp [gdst, gdL]
  | o :: l, j + 1 => by
    have := gdst_gdL l j
    simp only [gdst, List.getElem?_toArray] at this ⊢
    simpa [gdL] using this
def gdW (j : Nat) (ops : Array Oper) (_ : Wit ops) : Nat := gdst ops j
def gdLW (j : Nat) (l : List Oper) (_ : Wit l) : Nat := gdL l j
@[simp ↓] theorem gdW_lit (l : List Oper) (j : Nat) (w : Wit l.toArray) : gdW j l.toArray w = gdLW j l (wit _) := gdst_gdL l j
@[simp ↓] theorem gdLW_zero (dst : Option Tmp) (op : Op) (ty : TypeId) (pos : String) (aft : Array Edge) (g : Option (Nat × Bool)) (l : List Oper) (w : Wit (Oper.mk dst op ty pos aft g :: l)) : gdLW 0 (⟨dst, op, ty, pos, aft, g⟩ :: l) w = dst.getD 0 := (rfl)
@[simp ↓] theorem gdLW_succ (o : Oper) (l : List Oper) (j : Nat) (w : Wit (o :: l)) : gdLW (j + 1) (o :: l) w = gdLW j l (wit _) := by cases o; rfl

@[simp ↓] theorem vcLW_nil (P : Program) (hn : Nat → Bool) (dr : Bool) (ops : Array Oper) (Q : AQ) (f : Fr) (H : List Blk) (ds : List ADef) (w : Wit (hn, ops, ([] : List Oper), Q, f, H, ds)) : vcLW P hn dr ops [] Q f H ds w = QW Q .normal f H ds (wit _) := (rfl)
@[simp ↓] theorem QW_then_normal (k : Fr → List Blk → List ADef → Prop) (Q : AQ) (f : Fr) (H : List Blk) (ds : List ADef) (w : Wit (thenQ k Q, AX.normal, f, H, ds)) : QW (thenQ k Q) .normal f H ds w = k f H ds := (rfl)
@[simp ↓] theorem QW_block_normal (id : Nat) (Q : AQ) (f : Fr) (H : List Blk) (ds : List ADef) (w : Wit (blockQ id Q, AX.normal, f, H, ds)) : QW (blockQ id Q) .normal f H ds w = QW Q .normal f H ds (wit _) := (rfl)
@[simp ↓] theorem QW_then_exit (k : Fr → List Blk → List ADef → Prop) (Q : AQ) (i : Nat) (f : Fr) (H : List Blk) (ds : List ADef) (w : Wit (thenQ k Q, (AX.exit i), f, H, ds)) : QW (thenQ k Q) (.exit i) f H ds w = QW Q (.exit i) f H ds (wit _) := (rfl)
@[simp ↓] theorem QW_block_exit (id : Nat) (Q : AQ) (i : Nat) (f : Fr) (H : List Blk) (ds : List ADef) (w : Wit (blockQ id Q, (AX.exit i), f, H, ds)) : QW (blockQ id Q) (.exit i) f H ds w = if i = id then QW Q .normal f H ds (wit _) else QW Q (.exit i) f H ds (wit _) := (rfl)
@[simp ↓] theorem QW_then_goto (k : Fr → List Blk → List ADef → Prop) (Q : AQ) (i : Nat) (f : Fr) (H : List Blk) (ds : List ADef) (w : Wit (thenQ k Q, (AX.goto i), f, H, ds)) : QW (thenQ k Q) (.goto i) f H ds w = QW Q (.goto i) f H ds (wit _) := (rfl)
@[simp ↓] theorem QW_block_goto (id : Nat) (Q : AQ) (i : Nat) (f : Fr) (H : List Blk) (ds : List ADef) (w : Wit (blockQ id Q, (AX.goto i), f, H, ds)) : QW (blockQ id Q) (.goto i) f H ds w = QW Q (.goto i) f H ds (wit _) := (rfl)
@[simp ↓] theorem QW_then_ret (k : Fr → List Blk → List ADef → Prop) (Q : AQ) (f : Fr) (H : List Blk) (ds : List ADef) (w : Wit (thenQ k Q, AX.ret, f, H, ds)) : QW (thenQ k Q) .ret f H ds w = QW Q .ret f H ds (wit _) := (rfl)
@[simp ↓] theorem QW_block_ret (id : Nat) (Q : AQ) (f : Fr) (H : List Blk) (ds : List ADef) (w : Wit (blockQ id Q, AX.ret, f, H, ds)) : QW (blockQ id Q) .ret f H ds w = QW Q .ret f H ds (wit _) := (rfl)
@[simp ↓] theorem QW_then_pan (k : Fr → List Blk → List ADef → Prop) (Q : AQ) (x : AV) (f : Fr) (H : List Blk) (ds : List ADef) (w : Wit (thenQ k Q, (AX.pan x), f, H, ds)) : QW (thenQ k Q) (.pan x) f H ds w = QW Q (.pan x) f H ds (wit _) := (rfl)
@[simp ↓] theorem QW_block_pan (id : Nat) (Q : AQ) (x : AV) (f : Fr) (H : List Blk) (ds : List ADef) (w : Wit (blockQ id Q, (AX.pan x), f, H, ds)) : QW (blockQ id Q) (.pan x) f H ds w = QW Q (.pan x) f H ds (wit _) := (rfl)
@[simp ↓] theorem QW_thenW_normal (P : Program) (hn : Nat → Bool) (od : Nat → Option OPlan) (n : Nat) (c : Code) (Q Q' : AQ) (f : Fr) (H : List Blk) (ds : List ADef) (w : Wit (thenQ (vcC P hn od n c Q') Q, AX.normal, f, H, ds)) : QW (thenQ (vcC P hn od n c Q') Q) .normal f H ds w = vcCW P hn od n c Q' f H ds (wit _) := (rfl)
@[simp ↓] theorem QW_retN (P : Program) (rs : List ResultVar) (R : AE → List Blk → Prop) (f : Fr) (H : List Blk) (ds : List ADef) (w : Wit (retQ P rs R, AX.normal, f, H, ds)) : QW (retQ P rs R) .normal f H ds w = andVW (ds = []) (bindOW (resW P H rs f (wit _)) (fun xs => bindVW (resTup xs) (fun x => R (.ret x) H) (wit _)) (wit _)) (wit _) := (rfl)
@[simp ↓] theorem QW_retR (P : Program) (rs : List ResultVar) (R : AE → List Blk → Prop) (f : Fr) (H : List Blk) (ds : List ADef) (w : Wit (retQ P rs R, AX.ret, f, H, ds)) : QW (retQ P rs R) .ret f H ds w = andVW (ds = []) (bindOW (resW P H rs f (wit _)) (fun xs => bindVW (resTup xs) (fun x => R (.ret x) H) (wit _)) (wit _)) (wit _) := (rfl)
@[simp ↓] theorem QW_retP (P : Program) (rs : List ResultVar) (R : AE → List Blk → Prop) (x : AV) (f : Fr) (H : List Blk) (ds : List ADef) (w : Wit (retQ P rs R, AX.pan x, f, H, ds)) : QW (retQ P rs R) (.pan x) f H ds w = andVW (ds = []) (R (.pan x) H) (wit _) := (rfl)

section
variable (P : Program) (hn : Nat → Bool) (od : Nat → Option OPlan) (n : Nat) (Q : AQ) (f : Fr) (H : List Blk) (ds : List ADef)
@[simp ↓] theorem vcCW_skip  (w : Wit (hn, od, n, Code.skip, Q, f, H, ds)) : vcCW P hn od n .skip Q f H ds w = QW Q .normal f H ds (wit _) := (rfl)
@[simp ↓] theorem vcCW_region (id : Nat) (l : List Oper) (w : Wit (hn, od, n, (Code.region id l.toArray false), Q, f, H, ds)) : vcCW P hn od n (.region id l.toArray false) Q f H ds w = vcLW P hn false l.toArray l Q f H ds (wit _) := (rfl)
@[simp ↓] theorem vcCW_draw (id : Nat) (l : List Oper) (w : Wit (hn, od, n, (Code.region id l.toArray true), Q, f, H, ds)) : vcCW P hn od n (.region id l.toArray true) Q f H ds w = vcPW P hn (od id) l.toArray Q f H ds (wit _) := (rfl)
@[simp ↓] theorem vcCW_seq (a b : Code) (w : Wit (hn, od, n, (Code.seq a b), Q, f, H, ds)) : vcCW P hn od n (.seq a b) Q f H ds w = vcCW P hn od n a (thenQ (vcC P hn od n b Q) Q) f H ds (wit _) := (rfl)
@[simp ↓] theorem vcCW_cond (c : Operand) (a b : Code) (w : Wit (hn, od, n, (Code.cond c a b), Q, f, H, ds)) : vcCW P hn od n (.cond c a b) Q f H ds w = condVW (evW c f (wit _)) (vcCW P hn od n a Q f H ds (wit _)) (vcCW P hn od n b Q f H ds (wit _)) (wit _) (wit _) := (rfl)
@[simp ↓] theorem vcCW_block (id : Nat) (b : Code) (w : Wit (hn, od, n, (Code.block id b), Q, f, H, ds)) : vcCW P hn od n (.block id b) Q f H ds w = vcCW P hn od n b (blockQ id Q) f H ds (wit _) := (rfl)
@[simp ↓] theorem vcCW_loop (b : Code) (w : Wit (hn, od, n, (Code.loop b), Q, f, H, ds)) : vcCW P hn od n (.loop b) Q f H ds w = AWPW P n (.loop b) Q f H ds (wit _) := (rfl)
@[simp ↓] theorem vcCW_scope (b : Code) (w : Wit (hn, od, n, (Code.scope b), Q, f, H, ds)) : vcCW P hn od n (.scope b) Q f H ds w = AWPW P n (.scope b) Q f H ds (wit _) := (rfl)
@[simp ↓] theorem vcCW_exit (id : Nat) (w : Wit (hn, od, n, (Code.exit id), Q, f, H, ds)) : vcCW P hn od n (.exit id) Q f H ds w = QW Q (.exit id) f H ds (wit _) := (rfl)
@[simp ↓] theorem vcCW_goto (l : Nat) (w : Wit (hn, od, n, (Code.goto l), Q, f, H, ds)) : vcCW P hn od n (.goto l) Q f H ds w = QW Q (.goto l) f H ds (wit _) := (rfl)
@[simp ↓] theorem vcCW_label (l : Nat) (w : Wit (hn, od, n, (Code.label l), Q, f, H, ds)) : vcCW P hn od n (.label l) Q f H ds w = QW Q .normal f H ds (wit _) := (rfl)
@[simp ↓] theorem vcCW_ret  (w : Wit (hn, od, n, Code.ret, Q, f, H, ds)) : vcCW P hn od n .ret Q f H ds w = QW Q .ret f H ds (wit _) := (rfl)
end

def idxAddrV (P : Program) (H : List Blk) (t : TypeId) (x i : AV) (k : AV → Prop) (_ : Wit k) : Prop :=
  match arOf P t with
  | some ar => bindO (szOf P ar.2) fun sz => bindO (intA i) fun n => idxA ar.1 sz x n k
  | none => bindO (elOf P t) fun e => bindO (szOf P e) fun sz => bindO (intA i) fun n => idxV H sz x n k
def idxValV (P : Program) (t : TypeId) (x i : AV) (k : AV → Prop) (_ : Wit k) : Prop :=
  match arOf P t with
  | some ar => bindO (szOf P ar.2) fun sz => bindO (aggOf P ar.2) fun agg => bindO (intA i) fun n => bindO (idxVal x agg ar.1 sz n) k
  | none => andV (lkOf P t = 2) (bindO (strA x) fun s => bindO (intA i) fun n => andV (0 ≤ n) (bindO (s.data.toList[n.toNat]?) fun b => k (.v (.int .u8 b.toNat))))
def slNilW (x : AV) (k : Bool → Prop) (_ : Wit k) : Prop := slNil x k
theorem slNilW_vs {sz : Nat} {es : List (List AV)} {k : Bool → Prop} {w : Wit k} (h1 : es ≠ [] → k false) (h2 : es = [] → k true ∧ k false) : slNilW (.vs sz es) k w := ⟨h1, h2⟩
@[simp] theorem slNilW_nil (k : Bool → Prop) (w : Wit k) : slNilW (.v (.slice none 0 0)) k w = k true := (rfl)
@[simp] theorem eqOp_eql : eqOp .eql = true := (rfl)
@[simp] theorem eqOp_neq : eqOp .neq = true := (rfl)
@[simp] theorem eqVal_eql (b : Bool) : eqVal .eql b = b := (rfl)
@[simp] theorem eqVal_neq (b : Bool) : eqVal .neq b = !b := (rfl)
def binV (P : Program) (op : BinOp) (t : TypeId) (c : Bool) (ns : Bool) (x y : AV) (k : AV → Prop) (_ : Wit k) : Prop :=
  if isNum x then bindO (binA2 op x y) k else if (ns && isNilSl y) = true then andV (eqOp op = true ∧ (elOf P t).isSome = true) (slNil x fun b => k (.v (.bool (eqVal op b)))) else andV (nnB x y c = true) (bindO (binE P op t x y) k)
@[simp] theorem nilSlC_tmp (t : Nat) : nilSlC (.tmp t) = false := (rfl)
@[simp] theorem nilSlC_nil : nilSlC (.const (.slice none 0 0)) = true := (rfl)
@[simp] theorem nilSlC_int (k : IntKind) (n : Int) : nilSlC (.const (.int k n)) = false := (rfl)
@[simp] theorem nilSlC_bool (b : Bool) : nilSlC (.const (.bool b)) = false := (rfl)
@[simp] theorem nilSlC_str (b : ByteArray) : nilSlC (.const (.string b)) = false := (rfl)
@[simp] theorem nilSlC_ptr (b : Option Addr) : nilSlC (.const (.pointer b)) = false := (rfl)
@[simp] theorem nilSlC_map (b : Option Nat) : nilSlC (.const (.map b)) = false := (rfl)
@[simp] theorem nilSlC_nf : nilSlC (.const .nilFunc) = false := (rfl)
@[simp] theorem nilSlC_ni : nilSlC (.const .nilIface) = false := (rfl)
@[simp] theorem nilSlC_global (g : Nat) : nilSlC (.global g) = false := (rfl)
@[simp] theorem nilSlC_func (g : Nat) : nilSlC (.func g) = false := (rfl)
@[simp] theorem binV_slvs (P : Program) (op : BinOp) (t : TypeId) (c : Bool) (sz : Nat) (es : List (List AV)) (K : AV → Prop) (w : Wit K) : binV P op t c true (.vs sz es) (.v (.slice none 0 0)) K w = andVW (eqOp op = true ∧ (elOf P t).isSome = true) (slNilW (.vs sz es) (fun b => bindVW (.v (.bool (eqVal op b))) K (wit _)) (wit _)) (wit _) := (rfl)
@[simp] theorem binV_slnil (P : Program) (op : BinOp) (t : TypeId) (c : Bool) (K : AV → Prop) (w : Wit K) : binV P op t c true (.v (.slice none 0 0)) (.v (.slice none 0 0)) K w = andVW (eqOp op = true ∧ (elOf P t).isSome = true) (bindVW (.v (.bool (eqVal op true))) K (wit _)) (wit _) := (rfl)
def bsV (H : List Blk) (hn : Nat → Bool) (dst : Option Tmp) (sl : TypeId × Nat × List Value × Nat) (es : List (List AV)) (len : Nat) (K : AV → List Blk → Prop) (_ : Wit (hn, K)) : Prop :=
  if hn (dst.getD 0) then andV (es.flatten.all AV.one = true) (K (.hs H.length 0 len len) (H ++ [.row sl.1 sl.2.1 es]))
  else andV (es.flatten.all AV.frzB = true ∧ es.flatten.all AV.one = true) (K (.vs sl.2.1 es) H)
def apV (H : List Blk) (hn : Nat → Bool) (dst : Option Tmp) (sl : TypeId × Nat × List Value × Nat) (s x : AV) (K : AV → List Blk → Prop) (_ : Wit (hn, K)) : Prop :=
  if hn (dst.getD 0) then andV (sl.2.2.1.all Value.oneCell' = true) (bindO (srcEs H sl.2.1 x) fun ys => appendV H sl s ys K) else appFz s x sl fun r => K r H
theorem idxAddrV_ar {P : Program} {t : TypeId} {ar : Nat × TypeId} (h : arOf P t = some ar) (H : List Blk) (x i : AV) (k : AV → Prop) (w : Wit k) : idxAddrV P H t x i k w = bindOW (szOf P ar.2) (fun sz => bindOW (intA i) (fun n => idxAW ar.1 sz x n k (wit _)) (wit _)) (wit _) := by simp only [idxAddrV, h]; rfl
theorem idxAddrV_sl {P : Program} {t : TypeId} {e : TypeId} (h : elOf P t = some e) (H : List Blk) (x i : AV) (k : AV → Prop) (w : Wit k) : idxAddrV P H t x i k w = bindOW (szOf P e) (fun sz => bindOW (intA i) (fun n => idxVW H sz x n k (wit _)) (wit _)) (wit _) := by
  have h2 : arOf P t = none := by unfold elOf at h; unfold arOf; split at h <;> simp_all
  simp only [idxAddrV, h2, h]; simp [bindO, bindOW, idxVW]
theorem idxValV_ar {P : Program} {t : TypeId} {ar : Nat × TypeId} (h : arOf P t = some ar) (x i : AV) (k : AV → Prop) (w : Wit k) : idxValV P t x i k w = bindOW (szOf P ar.2) (fun sz => bindOW (aggOf P ar.2) (fun agg => bindOW (intA i) (fun n => bindOW (idxVal x agg ar.1 sz n) k (wit _)) (wit _)) (wit _)) (wit _) := by simp only [idxValV, h]; rfl
theorem idxValV_str {P : Program} {t : TypeId} (h : lkOf P t = 2) (x i : AV) (k : AV → Prop) (w : Wit k) : idxValV P t x i k w = bindOW (strA x) (fun s => bindOW (intA i) (fun n => andVW (0 ≤ n) (bindOW (s.data.toList[n.toNat]?) (fun b => k (.v (.int .u8 b.toNat))) (wit _)) (wit _)) (wit _)) (wit _) := by
  have h2 : arOf P t = none := by unfold lkOf at h; unfold arOf; split at h <;> simp_all
  simp only [idxValV, h2, h]; simp [andV, bindOW, andVW]
@[simp] theorem bsV_own {H : List Blk} {hn : Nat → Bool} {d : Tmp} (h : hn d = true) (sl : TypeId × Nat × List Value × Nat) (es : List (List AV)) (len : Nat) (K : AV → List Blk → Prop) (w : Wit (hn, K)) : bsV H hn (some d) sl es len K w = andVW (es.flatten.all AV.one = true) (bindHW (H ++ [.row sl.1 sl.2.1 es]) (fun H' => K (.hs H.length 0 len len) H') (wit _)) (wit _) := by simp [bsV, h]; rfl
@[simp] theorem bsV_fz {H : List Blk} {hn : Nat → Bool} {d : Tmp} (h : hn d = false) (sl : TypeId × Nat × List Value × Nat) (es : List (List AV)) (len : Nat) (K : AV → List Blk → Prop) (w : Wit (hn, K)) : bsV H hn (some d) sl es len K w = andVW (es.flatten.all AV.frzB = true ∧ es.flatten.all AV.one = true) (bindVW (.vs sl.2.1 es) (fun a => K a H) (wit _)) (wit _) := by simp [bsV, h]; rfl
@[simp] theorem apV_own {H : List Blk} {hn : Nat → Bool} {d : Tmp} (h : hn d = true) (sl : TypeId × Nat × List Value × Nat) (s x : AV) (K : AV → List Blk → Prop) (w : Wit (hn, K)) : apV H hn (some d) sl s x K w = andVW (sl.2.2.1.all Value.oneCell' = true) (bindOW (srcEs H sl.2.1 x) (fun ys => appendVW H sl s ys K (wit _)) (wit _)) (wit _) := by simp [apV, h]; rfl
@[simp] theorem apV_fz {H : List Blk} {hn : Nat → Bool} {d : Tmp} (h : hn d = false) (sl : TypeId × Nat × List Value × Nat) (s x : AV) (K : AV → List Blk → Prop) (w : Wit (hn, K)) : apV H hn (some d) sl s x K w = appFzW s x sl (fun r => bindVW r (fun r => K r H) (wit _)) (wit _) := by simp [apV, h]; rfl
@[simp] theorem binV_int (P : Program) (op : BinOp) (t : TypeId) (c ns : Bool) (k k' : IntKind) (a b : Int) (K : AV → Prop) (w : Wit K) : binV P op t c ns (.v (.int k a)) (.v (.int k' b)) K w = bindOW (binA2 op (.v (.int k a)) (.v (.int k' b))) K (wit _) := (rfl)
@[simp] theorem binV_str (P : Program) (op : BinOp) (t : TypeId) (c ns : Bool) (a b : ByteArray) (K : AV → Prop) (w : Wit K) : binV P op t c ns (.v (.string a)) (.v (.string b)) K w = bindOW (binA2 op (.v (.string a)) (.v (.string b))) K (wit _) := (rfl)
@[simp] theorem binV_agg (P : Program) (op : BinOp) (t : TypeId) (c ns : Bool) (a b : List AV) (K : AV → Prop) (w : Wit K) : binV P op t c ns (.agg a) (.agg b) K w = bindOW (binE P op t (.agg a) (.agg b)) K (wit _) := by simp [binV, isNum, isNilSl, nnB, andV]; rfl
@[simp] theorem binV_bool (P : Program) (op : BinOp) (t : TypeId) (c ns : Bool) (a b : Bool) (K : AV → Prop) (w : Wit K) : binV P op t c ns (.v (.bool a)) (.v (.bool b)) K w = bindOW (binE P op t (.v (.bool a)) (.v (.bool b))) K (wit _) := by simp [binV, isNum, isNilSl, nnB, andV]; rfl
@[simp] theorem binV_ifc (P : Program) (op : BinOp) (t t' : TypeId) (c : Bool) (a : AV) (b : AV) (K : AV → Prop) (w : Wit K) : binV P op t c false (.ifc t' a) b K w = bindOW (binE P op t (.ifc t' a) b) K (wit _) := by simp [binV, isNum, isNilSl, nnB, andV]; rfl
@[simp] theorem binV_nifc (P : Program) (op : BinOp) (t : TypeId) (b : AV) (K : AV → Prop) (w : Wit K) : binV P op t true false (.v .nilIface) b K w = bindOW (binE P op t (.v .nilIface) b) K (wit _) := by
  have : nnB (.v .nilIface) b true = true := by unfold nnB; split <;> rfl
  simp [binV, isNum, this, andV]; rfl
@[simp] theorem constB_const (x : Value) : constB (.const x) = true := (rfl)
@[simp] theorem constB_tmp (t : Nat) : constB (.tmp t) = false := (rfl)
@[simp] theorem isShift_add : isShift .add = false := (rfl)
@[simp] theorem isShift_sub : isShift .sub = false := (rfl)
@[simp] theorem isShift_mul : isShift .mul = false := (rfl)
@[simp] theorem isShift_quo : isShift .quo = false := (rfl)
@[simp] theorem isShift_rem : isShift .rem = false := (rfl)
@[simp] theorem isShift_and : isShift .and = false := (rfl)
@[simp] theorem isShift_or : isShift .or = false := (rfl)
@[simp] theorem isShift_xor : isShift .xor = false := (rfl)
@[simp] theorem isShift_andNot : isShift .andNot = false := (rfl)
@[simp] theorem isShift_eql : isShift .eql = false := (rfl)
@[simp] theorem isShift_neq : isShift .neq = false := (rfl)
@[simp] theorem isShift_lss : isShift .lss = false := (rfl)
@[simp] theorem isShift_leq : isShift .leq = false := (rfl)
@[simp] theorem isShift_gtr : isShift .gtr = false := (rfl)
@[simp] theorem isShift_geq : isShift .geq = false := (rfl)
@[simp] theorem isShift_shl : isShift .shl = true := (rfl)
@[simp] theorem isShift_shr : isShift .shr = true := (rfl)

@[simp] theorem binA2_int (op : BinOp) (k : IntKind) (a b : Int) (h : isShift op = false) : binA2 op (.v (.int k a)) (.v (.int k b)) = (binI op k a b).map .v := by simp [binA2, h]
@[simp] theorem binA2_shift (op : BinOp) (k k' : IntKind) (a b : Int) (h : isShift op = true) : binA2 op (.v (.int k a)) (.v (.int k' b)) = (binI op k a b).map .v := by simp [binA2, h]
@[simp] theorem binA2_str (op : BinOp) (a b : ByteArray) : binA2 op (.v (.string a)) (.v (.string b)) = (binS op a b).map .v := (rfl)

@[simp] theorem binI_add (k : IntKind) (a b : Int) : binI .add k a b = some (.int k (k.wrap (a + b))) := (rfl)
@[simp] theorem binI_sub (k : IntKind) (a b : Int) : binI .sub k a b = some (.int k (k.wrap (a - b))) := (rfl)
@[simp] theorem binI_mul (k : IntKind) (a b : Int) : binI .mul k a b = some (.int k (k.wrap (a * b))) := (rfl)
@[simp] theorem binI_eql (k : IntKind) (a b : Int) : binI .eql k a b = some (.bool (a == b)) := (rfl)
@[simp] theorem binI_neq (k : IntKind) (a b : Int) : binI .neq k a b = some (.bool (a != b)) := (rfl)
@[simp] theorem binI_lss (k : IntKind) (a b : Int) : binI .lss k a b = some (.bool (decide (a < b))) := (rfl)
@[simp] theorem binI_leq (k : IntKind) (a b : Int) : binI .leq k a b = some (.bool (decide (a ≤ b))) := (rfl)
@[simp] theorem binI_gtr (k : IntKind) (a b : Int) : binI .gtr k a b = some (.bool (decide (a > b))) := (rfl)
@[simp] theorem binI_geq (k : IntKind) (a b : Int) : binI .geq k a b = some (.bool (decide (a ≥ b))) := (rfl)
@[simp] theorem binI_quo (k : IntKind) (a b : Int) : binI .quo k a b = if b = 0 then none else some (.int k (k.wrap (a.tdiv b))) := (rfl)
@[simp] theorem binI_rem (k : IntKind) (a b : Int) : binI .rem k a b = if b = 0 then none else some (.int k (a.tmod b)) := (rfl)
@[simp] theorem binI_shl (k : IntKind) (a b : Int) : binI .shl k a b = if b < 0 then none else some (.int k (k.wrap (a * 2 ^ (min b.toNat k.bits)))) := (rfl)
@[simp] theorem binI_shr (k : IntKind) (a b : Int) : binI .shr k a b = if b < 0 then none else some (.int k (a.fdiv (2 ^ (min b.toNat k.bits)))) := (rfl)
@[simp] theorem binI_and (k : IntKind) (a b : Int) : binI .and k a b = some (.int k (k.wrap ((BitVec.ofInt k.bits a &&& BitVec.ofInt k.bits b).toNat))) := (rfl)
@[simp] theorem binI_or (k : IntKind) (a b : Int) : binI .or k a b = some (.int k (k.wrap ((BitVec.ofInt k.bits a ||| BitVec.ofInt k.bits b).toNat))) := (rfl)
@[simp] theorem binI_xor (k : IntKind) (a b : Int) : binI .xor k a b = some (.int k (k.wrap ((BitVec.ofInt k.bits a ^^^ BitVec.ofInt k.bits b).toNat))) := (rfl)
@[simp] theorem binS_eql (a b : ByteArray) : binS .eql a b = some (.bool (a.toList == b.toList)) := (rfl)
@[simp] theorem binS_neq (a b : ByteArray) : binS .neq a b = some (.bool (!(a.toList == b.toList))) := (rfl)
@[simp] theorem intA_int (k : IntKind) (n : Int) : intA (.v (.int k n)) = some n := (rfl)
@[simp] theorem avCells_agg (cs : List AV) : avCells (.agg cs) = some cs := (rfl)
@[simp] theorem avCells_int (k : IntKind) (n : Int) : avCells (.v (.int k n)) = some [.v (.int k n)] := (rfl)
@[simp] theorem avCells_bool (b : Bool) : avCells (.v (.bool b)) = some [.v (.bool b)] := (rfl)
@[simp] theorem avCells_string (b : ByteArray) : avCells (.v (.string b)) = some [.v (.string b)] := (rfl)
@[simp] theorem avCells_slice (a : Option Addr) (l c : Nat) : avCells (.v (.slice a l c)) = some [.v (.slice a l c)] := (rfl)
@[simp] theorem avCells_ptr (a : Option Addr) : avCells (.v (.pointer a)) = some [.v (.pointer a)] := (rfl)
@[simp] theorem avCells_mapn (a : Option Nat) : avCells (.v (.map a)) = some [.v (.map a)] := (rfl)
@[simp] theorem avCells_nf : avCells (.v .nilFunc) = some [.v .nilFunc] := (rfl)
@[simp] theorem avCells_ni : avCells (.v .nilIface) = some [.v .nilIface] := (rfl)
@[simp] theorem avCells_vs (z : Nat) (es : List (List AV)) : avCells (.vs z es) = some [.vs z es] := (rfl)
@[simp] theorem avCells_vp (es : List AV) : avCells (.vp es) = some [.vp es] := (rfl)
@[simp] theorem avCells_bp (k o : Nat) : avCells (.bp k o) = some [.bp k o] := (rfl)
@[simp] theorem avCells_rp (k a b o : Nat) : avCells (.rp k a b o) = some [.rp k a b o] := (rfl)
@[simp] theorem avCells_hs (k a b o : Nat) : avCells (.hs k a b o) = some [.hs k a b o] := (rfl)
@[simp] theorem avCells_hm (k : Nat) : avCells (.hm k) = some [.hm k] := (rfl)
@[simp] theorem avCells_fn (g : Fn) (a b : List AV) : avCells (.fn g a b) = some [.fn g a b] := (rfl)
@[simp] theorem avCells_ifc (t : TypeId) (a : AV) : avCells (.ifc t a) = some [.ifc t a] := (rfl)
@[simp] theorem one_agg (cs : List AV) : AV.one (.agg cs) = false := (rfl)
@[simp] theorem one_int (k : IntKind) (n : Int) : AV.one (.v (.int k n)) = true := (rfl)
@[simp] theorem one_bool (b : Bool) : AV.one (.v (.bool b)) = true := (rfl)
@[simp] theorem one_string (b : ByteArray) : AV.one (.v (.string b)) = true := (rfl)
@[simp] theorem one_slice (a : Option Addr) (l c : Nat) : AV.one (.v (.slice a l c)) = true := (rfl)
@[simp] theorem one_ptr (a : Option Addr) : AV.one (.v (.pointer a)) = true := (rfl)
@[simp] theorem one_mapn (a : Option Nat) : AV.one (.v (.map a)) = true := (rfl)
@[simp] theorem one_nf : AV.one (.v .nilFunc) = true := (rfl)
@[simp] theorem one_ni : AV.one (.v .nilIface) = true := (rfl)
@[simp] theorem one_vs (z : Nat) (es : List (List AV)) : AV.one (.vs z es) = true := (rfl)
@[simp] theorem one_vp (es : List AV) : AV.one (.vp es) = true := (rfl)
@[simp] theorem one_bp (k o : Nat) : AV.one (.bp k o) = true := (rfl)
@[simp] theorem one_rp (k a b o : Nat) : AV.one (.rp k a b o) = true := (rfl)
@[simp] theorem one_hs (k a b o : Nat) : AV.one (.hs k a b o) = true := (rfl)
@[simp] theorem one_hm (k : Nat) : AV.one (.hm k) = true := (rfl)
@[simp] theorem one_fn (g : Fn) (a b : List AV) : AV.one (.fn g a b) = true := (rfl)
@[simp] theorem one_ifc (t : TypeId) (a : AV) : AV.one (.ifc t a) = true := (rfl)
@[simp] theorem frzB_v (x : Value) : AV.frzB (.v x) = true := (rfl)
@[simp] theorem frzB_vs (z : Nat) (es : List (List AV)) : AV.frzB (.vs z es) = true := (rfl)
@[simp] theorem frzB_vp (es : List AV) : AV.frzB (.vp es) = true := (rfl)
@[simp] theorem oneCell_int (k : IntKind) (n : Int) : Value.oneCell' (.int k n) = true := (rfl)
@[simp] theorem oneCell_bool (b : Bool) : Value.oneCell' (.bool b) = true := (rfl)
@[simp] theorem oneCell_string (b : ByteArray) : Value.oneCell' (.string b) = true := (rfl)
@[simp] theorem oneCell_slice (a : Option Addr) (l c : Nat) : Value.oneCell' (.slice a l c) = true := (rfl)
@[simp] theorem oneCell_ptr (a : Option Addr) : Value.oneCell' (.pointer a) = true := (rfl)
@[simp] theorem oneCell_mapn (a : Option Nat) : Value.oneCell' (.map a) = true := (rfl)
@[simp] theorem oneCell_nf : Value.oneCell' .nilFunc = true := (rfl)
@[simp] theorem oneCell_ni : Value.oneCell' .nilIface = true := (rfl)
@[simp] theorem cells_agg (cs : Array Value) : Value.cells (.agg cs) = cs := (rfl)
@[simp] theorem cells_int (k : IntKind) (n : Int) : Value.cells (.int k n) = #[.int k n] := (rfl)
@[simp] theorem cells_bool (b : Bool) : Value.cells (.bool b) = #[.bool b] := (rfl)
@[simp] theorem cells_string (b : ByteArray) : Value.cells (.string b) = #[.string b] := (rfl)
@[simp] theorem cells_slice (a : Option Addr) (l c : Nat) : Value.cells (.slice a l c) = #[.slice a l c] := (rfl)
@[simp] theorem cells_ptr (a : Option Addr) : Value.cells (.pointer a) = #[.pointer a] := (rfl)
@[simp] theorem cells_mapn (a : Option Nat) : Value.cells (.map a) = #[.map a] := (rfl)
@[simp] theorem cells_nf : Value.cells .nilFunc = #[.nilFunc] := (rfl)
@[simp] theorem cells_ni : Value.cells .nilIface = #[.nilIface] := (rfl)
@[simp] theorem aload_t (sz : Nat) (cs : List AV) : aload true sz cs = if sz ≤ cs.length then some (.agg (cs.take sz)) else none := (rfl)
@[simp] theorem aload_f (sz : Nat) (cs : List AV) : aload false sz cs = cs[0]? := (rfl)
@[simp] theorem partA_t (sz off : Nat) (cs : List AV) : partA true sz off cs = if off + sz ≤ cs.length then some (.agg ((cs.drop off).take sz)) else none := (rfl)
@[simp] theorem partA_f (sz off : Nat) (cs : List AV) : partA false sz off cs = cs[off]? := (rfl)
@[simp] theorem aggCells_agg (cs : List AV) : aggCells (.agg cs) = some cs := (rfl)
@[simp] theorem padd_bp (k off n : Nat) : padd (.bp k off) n = some (.bp k (off + n)) := (rfl)
@[simp] theorem padd_rp (k v i off n : Nat) : padd (.rp k v i off) n = some (.rp k v i (off + n)) := (rfl)
@[simp] theorem padd_vp (cs : List AV) (n : Nat) : padd (.vp cs) n = some (.vp (cs.drop n)) := (rfl)
@[simp] theorem cellsAt_vp (H : List Blk) (cs : List AV) : cellsAt H (.vp cs) = some cs := (rfl)
@[simp] theorem cellsAt_bp (H : List Blk) (k off : Nat) : cellsAt H (.bp k off) = (match H[k]? with | some (.box _ cs) => some (cs.drop off) | _ => none) := (rfl)
@[simp] theorem cellsAt_rp (H : List Blk) (k v i off : Nat) : cellsAt H (.rp k v i off) = (match H[k]? with | some (.row _ _ es) => if es.length = v then (es[i]?).map (·.drop off) else none | _ => none) := (rfl)
@[simp] theorem astore_bp (H : List Blk) (k off : Nat) (xs : List AV) : astore H (.bp k off) xs = (match H[k]? with | some (.box t cs) => if off + xs.length ≤ cs.length then some (H.set k (.box t (spl cs off xs))) else none | _ => none) := (rfl)
@[simp] theorem spl_zero_full {α : Type} (cs xs : List α) : spl cs 0 xs = xs ++ cs.drop xs.length := by simp [spl]
@[simp] theorem spl_succ {α : Type} (c : α) (cs xs : List α) (n : Nat) : spl (c :: cs) (n + 1) xs = c :: spl cs n xs := by
  simp only [spl, List.take_succ_cons, List.cons_append, Nat.add_right_comm n 1, List.drop_succ_cons]
@[simp] theorem unA_not (b : Bool) : unA .not (.v (.bool b)) = some (.v (.bool !b)) := (rfl)
@[simp] theorem unA_neg (k : IntKind) (n : Int) : unA .neg (.v (.int k n)) = some (.v (.int k (k.wrap (0 - n)))) := (rfl)
@[simp] theorem tupGet_tup (xs : List AV) (i : Nat) : tupGet (.tup xs) i = xs[i]? := (rfl)
@[simp] theorem lenV_vs (H : List Blk) (z : Nat) (es : List (List AV)) : lenV H 1 (.vs z es) = some es.length := (rfl)
@[simp] theorem lenV_nil (H : List Blk) (a : Option Addr) (n c : Nat) : lenV H 1 (.v (.slice a n c)) = some n := (rfl)
@[simp] theorem lenV_str (H : List Blk) (s : ByteArray) : lenV H 2 (.v (.string s)) = some s.size := (rfl)
@[simp] theorem lenV_hs (H : List Blk) (h off n v : Nat) : lenV H 1 (.hs h off n v) = (match H[h]? with | some (.row _ _ es) => if es.length = v then some (n : Int) else none | _ => none) := (rfl)
@[simp] theorem lenV_hm (H : List Blk) (h : Nat) : lenV H 3 (.hm h) = (match H[h]? with | some (.map es) => some (es.length : Int) | _ => none) := (rfl)
@[simp] theorem strA_s (s : ByteArray) : strA (.v (.string s)) = some s := (rfl)
@[simp] theorem keyA_v (x : Value) : keyA (.v x) = some x := (rfl)
@[simp] theorem optI_none : optI none = some none := (rfl)
@[simp] theorem optI_some (a : AV) : optI (some a) = (intA a).map some := (rfl)
@[simp] theorem srcEs_nil (H : List Blk) (sz : Nat) : srcEs H sz (.v (.slice none 0 0)) = some [] := (rfl)
@[simp] theorem srcEs_vs (H : List Blk) (sz sz' : Nat) (es : List (List AV)) : srcEs H sz (.vs sz' es) = if sz' = sz then some es else none := (rfl)
@[simp] theorem mapEs_hm (H : List Blk) (h : Nat) : mapEs H (.hm h) = (match H[h]? with | some (.map es) => some es | _ => none) := (rfl)
@[simp] theorem afill_nil (pl : Nat → Option (Nat × Nat)) (cs : List AV) : afill pl cs [] = some cs := (rfl)
@[simp] theorem afill_cons (pl : Nat → Option (Nat × Nat)) (cs : List AV) (i : Nat) (v : AV) (rest : List (Nat × AV)) : afill pl cs ((i, v) :: rest) =
  (match pl i, avCells v with | some (off, sz), some xs => if xs.length = sz ∧ off + sz ≤ cs.length then afill pl (spl cs off xs) rest else none | _, _ => none) := (rfl)
@[simp] theorem afillS_nil (sz : Nat) (es : List (List AV)) : afillS sz es [] = some es := (rfl)
@[simp] theorem afillS_cons (sz : Nat) (es : List (List AV)) (i : Nat) (v : AV) (rest : List (Nat × AV)) : afillS sz es ((i, v) :: rest) =
  (match avCells v with | some xs => if xs.length = sz ∧ i < es.length then afillS sz (es.set i xs) rest else none | none => none) := (rfl)
/-- Blocks behind blocks. -/
@[simp] theorem blk_get0 (H L : List Blk) : (H ++ L)[H.length]? = L[0]? := by rw [List.getElem?_append_right (Nat.le_refl _), Nat.sub_self]
@[simp] theorem blk_get (H L : List Blk) (k : Nat) : (H ++ L)[H.length + k]? = L[k]? := by rw [List.getElem?_append_right (by omega)]; congr 1; omega
@[simp] theorem blk_set0 (H L : List Blk) (b : Blk) : (H ++ L).set H.length b = H ++ L.set 0 b := by rw [List.set_append_right _ _ (Nat.le_refl _), Nat.sub_self]
@[simp] theorem blk_set (H L : List Blk) (k : Nat) (b : Blk) : (H ++ L).set (H.length + k) b = H ++ L.set k b := by rw [List.set_append_right _ _ (by omega)]; congr 2; omega


variable (P : Program) (hn : Nat → Bool) (dr : Bool) (od : Nat → Option OPlan) (Q : AQ) (f : Fr) (H : List Blk) (ds : List ADef) (ops : Array Oper) (rest : List Oper) (dst : Option Tmp) (ty : TypeId) (pos : String) (aft : Array Edge)
@[simp ↓] theorem vcLW_move (x : Operand) (w : Wit (hn, ops, Oper.mk dst (.move x) ty pos aft none :: rest, Q, f, H, ds)) : vcLW P hn dr ops (⟨dst, .move x, ty, pos, aft, none⟩ :: rest) Q f H ds w = (bindVW (evW x f (wit _)) (fun a => vcLW P hn dr ops rest Q (updO f dst a) H ds (wit _)) (wit _)) := (rfl)
@[simp ↓] theorem vcLW_move_g (j : Nat) (want : Bool) (x : Operand) (w : Wit (hn, ops, Oper.mk dst (.move x) ty pos aft (some (j, want)) :: rest, Q, f, H, ds)) : vcLW P hn dr ops (⟨dst, .move x, ty, pos, aft, some (j, want)⟩ :: rest) Q f H ds w = guardVW (fW (gdW j ops (wit _)) f (wit _)) want (bindVW (evW x f (wit _)) (fun a => vcLW P hn dr ops rest Q (updO f dst a) H ds (wit _)) (wit _)) (vcLW P hn dr ops rest Q (updO f dst (.tup [])) H ds (wit _)) (wit _) (wit _) := (rfl)
@[simp ↓] theorem vcLW_assign (x : Operand) (w : Wit (hn, ops, Oper.mk dst (.assign x) ty pos aft none :: rest, Q, f, H, ds)) : vcLW P hn dr ops (⟨dst, .assign x, ty, pos, aft, none⟩ :: rest) Q f H ds w = (bindVW (evW x f (wit _)) (fun a => vcLW P hn dr ops rest Q (updO f dst a) H ds (wit _)) (wit _)) := (rfl)
@[simp ↓] theorem vcLW_assign_g (j : Nat) (want : Bool) (x : Operand) (w : Wit (hn, ops, Oper.mk dst (.assign x) ty pos aft (some (j, want)) :: rest, Q, f, H, ds)) : vcLW P hn dr ops (⟨dst, .assign x, ty, pos, aft, some (j, want)⟩ :: rest) Q f H ds w = guardVW (fW (gdW j ops (wit _)) f (wit _)) want (bindVW (evW x f (wit _)) (fun a => vcLW P hn dr ops rest Q (updO f dst a) H ds (wit _)) (wit _)) (vcLW P hn dr ops rest Q (updO f dst (.tup [])) H ds (wit _)) (wit _) (wit _) := (rfl)
@[simp ↓] theorem vcLW_pick (c a b : Operand) (w : Wit (hn, ops, Oper.mk dst (.pick c a b) ty pos aft none :: rest, Q, f, H, ds)) : vcLW P hn dr ops (⟨dst, .pick c a b, ty, pos, aft, none⟩ :: rest) Q f H ds w = (condVW (evW c f (wit _)) (bindVW (evW a f (wit _)) (fun a => vcLW P hn dr ops rest Q (updO f dst a) H ds (wit _)) (wit _)) (bindVW (evW b f (wit _)) (fun a => vcLW P hn dr ops rest Q (updO f dst a) H ds (wit _)) (wit _)) (wit _) (wit _)) := (rfl)
@[simp ↓] theorem vcLW_pick_g (j : Nat) (want : Bool) (c a b : Operand) (w : Wit (hn, ops, Oper.mk dst (.pick c a b) ty pos aft (some (j, want)) :: rest, Q, f, H, ds)) : vcLW P hn dr ops (⟨dst, .pick c a b, ty, pos, aft, some (j, want)⟩ :: rest) Q f H ds w = guardVW (fW (gdW j ops (wit _)) f (wit _)) want (condVW (evW c f (wit _)) (bindVW (evW a f (wit _)) (fun a => vcLW P hn dr ops rest Q (updO f dst a) H ds (wit _)) (wit _)) (bindVW (evW b f (wit _)) (fun a => vcLW P hn dr ops rest Q (updO f dst a) H ds (wit _)) (wit _)) (wit _) (wit _)) (vcLW P hn dr ops rest Q (updO f dst (.tup [])) H ds (wit _)) (wit _) (wit _) := (rfl)
@[simp ↓] theorem vcLW_alloc (t : TypeId) (w : Wit (hn, ops, Oper.mk dst (.alloc t) ty pos aft none :: rest, Q, f, H, ds)) : vcLW P hn dr ops (⟨dst, .alloc t, ty, pos, aft, none⟩ :: rest) Q f H ds w = (bindOW (zeroOf P t) (fun z => bindHW (H ++ [.box t (z.cells.toList.map .v)]) (fun H' => vcLW P hn dr ops rest Q (updO f dst (.bp H.length 0)) H' ds (wit _)) (wit _)) (wit _)) := (rfl)
@[simp ↓] theorem vcLW_alloc_g (j : Nat) (want : Bool) (t : TypeId) (w : Wit (hn, ops, Oper.mk dst (.alloc t) ty pos aft (some (j, want)) :: rest, Q, f, H, ds)) : vcLW P hn dr ops (⟨dst, .alloc t, ty, pos, aft, some (j, want)⟩ :: rest) Q f H ds w = guardVW (fW (gdW j ops (wit _)) f (wit _)) want (bindOW (zeroOf P t) (fun z => bindHW (H ++ [.box t (z.cells.toList.map .v)]) (fun H' => vcLW P hn dr ops rest Q (updO f dst (.bp H.length 0)) H' ds (wit _)) (wit _)) (wit _)) (vcLW P hn dr ops rest Q (updO f dst (.tup [])) H ds (wit _)) (wit _) (wit _) := (rfl)
@[simp ↓] theorem vcLW_box (t : TypeId) (x : Operand) (w : Wit (hn, ops, Oper.mk dst (.box t x) ty pos aft none :: rest, Q, f, H, ds)) : vcLW P hn dr ops (⟨dst, .box t x, ty, pos, aft, none⟩ :: rest) Q f H ds w = (bindOW (avCells (evW x f (wit _))) (fun cs => bindHW (H ++ [.box t cs]) (fun H' => vcLW P hn dr ops rest Q (updO f dst (.bp H.length 0)) H' ds (wit _)) (wit _)) (wit _)) := (rfl)
@[simp ↓] theorem vcLW_box_g (j : Nat) (want : Bool) (t : TypeId) (x : Operand) (w : Wit (hn, ops, Oper.mk dst (.box t x) ty pos aft (some (j, want)) :: rest, Q, f, H, ds)) : vcLW P hn dr ops (⟨dst, .box t x, ty, pos, aft, some (j, want)⟩ :: rest) Q f H ds w = guardVW (fW (gdW j ops (wit _)) f (wit _)) want (bindOW (avCells (evW x f (wit _))) (fun cs => bindHW (H ++ [.box t cs]) (fun H' => vcLW P hn dr ops rest Q (updO f dst (.bp H.length 0)) H' ds (wit _)) (wit _)) (wit _)) (vcLW P hn dr ops rest Q (updO f dst (.tup [])) H ds (wit _)) (wit _) (wit _) := (rfl)
@[simp ↓] theorem vcLW_load (t : TypeId) (x : Operand) (w : Wit (hn, ops, Oper.mk dst (.load t x) ty pos aft none :: rest, Q, f, H, ds)) : vcLW P hn dr ops (⟨dst, .load t x, ty, pos, aft, none⟩ :: rest) Q f H ds w = (bindOW (cellsAt H (evW x f (wit _))) (fun cs => bindOW (szOf P t) (fun sz => bindOW (aggOf P t) (fun b => bindOW (aload b sz cs) (fun r => vcLW P hn dr ops rest Q (updO f dst r) H ds (wit _)) (wit _)) (wit _)) (wit _)) (wit _)) := (rfl)
@[simp ↓] theorem vcLW_load_g (j : Nat) (want : Bool) (t : TypeId) (x : Operand) (w : Wit (hn, ops, Oper.mk dst (.load t x) ty pos aft (some (j, want)) :: rest, Q, f, H, ds)) : vcLW P hn dr ops (⟨dst, .load t x, ty, pos, aft, some (j, want)⟩ :: rest) Q f H ds w = guardVW (fW (gdW j ops (wit _)) f (wit _)) want (bindOW (cellsAt H (evW x f (wit _))) (fun cs => bindOW (szOf P t) (fun sz => bindOW (aggOf P t) (fun b => bindOW (aload b sz cs) (fun r => vcLW P hn dr ops rest Q (updO f dst r) H ds (wit _)) (wit _)) (wit _)) (wit _)) (wit _)) (vcLW P hn dr ops rest Q (updO f dst (.tup [])) H ds (wit _)) (wit _) (wit _) := (rfl)
@[simp ↓] theorem vcLW_store (t : TypeId) (a x : Operand) (w : Wit (hn, ops, Oper.mk dst (.store t a x) ty pos aft none :: rest, Q, f, H, ds)) : vcLW P hn dr ops (⟨dst, .store t a x, ty, pos, aft, none⟩ :: rest) Q f H ds w = (bindOW (avCells (evW x f (wit _))) (fun xs => andVW (szOf P t = some xs.length ∧ xs.all AV.one = true) (bindOW (astore H (evW a f (wit _)) xs) (fun H' => vcLW P hn dr ops rest Q (updO f dst (.tup [])) H' ds (wit _)) (wit _)) (wit _)) (wit _)) := (rfl)
@[simp ↓] theorem vcLW_store_g (j : Nat) (want : Bool) (t : TypeId) (a x : Operand) (w : Wit (hn, ops, Oper.mk dst (.store t a x) ty pos aft (some (j, want)) :: rest, Q, f, H, ds)) : vcLW P hn dr ops (⟨dst, .store t a x, ty, pos, aft, some (j, want)⟩ :: rest) Q f H ds w = guardVW (fW (gdW j ops (wit _)) f (wit _)) want (bindOW (avCells (evW x f (wit _))) (fun xs => andVW (szOf P t = some xs.length ∧ xs.all AV.one = true) (bindOW (astore H (evW a f (wit _)) xs) (fun H' => vcLW P hn dr ops rest Q (updO f dst (.tup [])) H' ds (wit _)) (wit _)) (wit _)) (wit _)) (vcLW P hn dr ops rest Q (updO f dst (.tup [])) H ds (wit _)) (wit _) (wit _) := (rfl)
@[simp ↓] theorem vcLW_fieldAddr (s : TypeId) (x : Operand) (i : Nat) (w : Wit (hn, ops, Oper.mk dst (.fieldAddr s x i) ty pos aft none :: rest, Q, f, H, ds)) : vcLW P hn dr ops (⟨dst, .fieldAddr s x i, ty, pos, aft, none⟩ :: rest) Q f H ds w = (bindOW (fldOf P s i) (fun fl => bindOW (cellsAt H (evW x f (wit _))) (fun _ => andVW (fl.2.1 ≠ 0) (bindOW (padd (evW x f (wit _)) fl.1) (fun p => vcLW P hn dr ops rest Q (updO f dst p) H ds (wit _)) (wit _)) (wit _)) (wit _)) (wit _)) := (rfl)
@[simp ↓] theorem vcLW_fieldAddr_g (j : Nat) (want : Bool) (s : TypeId) (x : Operand) (i : Nat) (w : Wit (hn, ops, Oper.mk dst (.fieldAddr s x i) ty pos aft (some (j, want)) :: rest, Q, f, H, ds)) : vcLW P hn dr ops (⟨dst, .fieldAddr s x i, ty, pos, aft, some (j, want)⟩ :: rest) Q f H ds w = guardVW (fW (gdW j ops (wit _)) f (wit _)) want (bindOW (fldOf P s i) (fun fl => bindOW (cellsAt H (evW x f (wit _))) (fun _ => andVW (fl.2.1 ≠ 0) (bindOW (padd (evW x f (wit _)) fl.1) (fun p => vcLW P hn dr ops rest Q (updO f dst p) H ds (wit _)) (wit _)) (wit _)) (wit _)) (wit _)) (vcLW P hn dr ops rest Q (updO f dst (.tup [])) H ds (wit _)) (wit _) (wit _) := (rfl)
@[simp ↓] theorem vcLW_field (s : TypeId) (x : Operand) (i : Nat) (w : Wit (hn, ops, Oper.mk dst (.field s x i) ty pos aft none :: rest, Q, f, H, ds)) : vcLW P hn dr ops (⟨dst, .field s x i, ty, pos, aft, none⟩ :: rest) Q f H ds w = (bindOW (fldOf P s i) (fun fl => bindOW (aggCells (evW x f (wit _))) (fun cs => bindOW (partA fl.2.2 fl.2.1 fl.1 cs) (fun r => vcLW P hn dr ops rest Q (updO f dst r) H ds (wit _)) (wit _)) (wit _)) (wit _)) := (rfl)
@[simp ↓] theorem vcLW_field_g (j : Nat) (want : Bool) (s : TypeId) (x : Operand) (i : Nat) (w : Wit (hn, ops, Oper.mk dst (.field s x i) ty pos aft (some (j, want)) :: rest, Q, f, H, ds)) : vcLW P hn dr ops (⟨dst, .field s x i, ty, pos, aft, some (j, want)⟩ :: rest) Q f H ds w = guardVW (fW (gdW j ops (wit _)) f (wit _)) want (bindOW (fldOf P s i) (fun fl => bindOW (aggCells (evW x f (wit _))) (fun cs => bindOW (partA fl.2.2 fl.2.1 fl.1 cs) (fun r => vcLW P hn dr ops rest Q (updO f dst r) H ds (wit _)) (wit _)) (wit _)) (wit _)) (vcLW P hn dr ops rest Q (updO f dst (.tup [])) H ds (wit _)) (wit _) (wit _) := (rfl)
@[simp ↓] theorem vcLW_slice (t : TypeId) (x : Operand) (lo hi : Option Operand) (w : Wit (hn, ops, Oper.mk dst (.slice t x lo hi none) ty pos aft none :: rest, Q, f, H, ds)) : vcLW P hn dr ops (⟨dst, .slice t x lo hi none, ty, pos, aft, none⟩ :: rest) Q f H ds w = (bindOW (elOf P t) (fun e => bindOW (szOf P e) (fun sz => bindOW (optI (lo.map fun x => evW x f (wit _))) (fun l => bindOW (optI (hi.map fun x => evW x f (wit _))) (fun hh => sliceVW H sz (evW x f (wit _)) l hh (fun r => bindVW (r) (fun r => vcLW P hn dr ops rest Q (updO f dst r) H ds (wit _)) (wit _)) (wit _)) (wit _)) (wit _)) (wit _)) (wit _)) := (rfl)
@[simp ↓] theorem vcLW_slice_g (j : Nat) (want : Bool) (t : TypeId) (x : Operand) (lo hi : Option Operand) (w : Wit (hn, ops, Oper.mk dst (.slice t x lo hi none) ty pos aft (some (j, want)) :: rest, Q, f, H, ds)) : vcLW P hn dr ops (⟨dst, .slice t x lo hi none, ty, pos, aft, some (j, want)⟩ :: rest) Q f H ds w = guardVW (fW (gdW j ops (wit _)) f (wit _)) want (bindOW (elOf P t) (fun e => bindOW (szOf P e) (fun sz => bindOW (optI (lo.map fun x => evW x f (wit _))) (fun l => bindOW (optI (hi.map fun x => evW x f (wit _))) (fun hh => sliceVW H sz (evW x f (wit _)) l hh (fun r => bindVW (r) (fun r => vcLW P hn dr ops rest Q (updO f dst r) H ds (wit _)) (wit _)) (wit _)) (wit _)) (wit _)) (wit _)) (wit _)) (vcLW P hn dr ops rest Q (updO f dst (.tup [])) H ds (wit _)) (wit _) (wit _) := (rfl)
@[simp ↓] theorem vcLW_makeSlice (t : TypeId) (ln cp : Operand) (w : Wit (hn, ops, Oper.mk dst (.makeSlice t ln cp) ty pos aft none :: rest, Q, f, H, ds)) : vcLW P hn dr ops (⟨dst, .makeSlice t ln cp, ty, pos, aft, none⟩ :: rest) Q f H ds w = (bindOW (slbOf P t) (fun sl => bindOW (intA (evW ln f (wit _))) (fun n => bindOW (intA (evW cp f (wit _))) (fun c => andVW (0 ≤ n ∧ n ≤ c ∧ (sl.2.2.2 : Int) * c ≤ 281474976710656 ∧ c ≤ 9223372036854775807 ∧ sl.2.2.1.all Value.oneCell' = true) (bindHW (H ++ [.row sl.1 sl.2.1 (List.replicate n.toNat (sl.2.2.1.map .v))]) (fun H' => bindVW (.hs H.length 0 n.toNat n.toNat) (fun r => vcLW P hn dr ops rest Q (updO f dst r) H' ds (wit _)) (wit _)) (wit _)) (wit _)) (wit _)) (wit _)) (wit _)) := (rfl)
@[simp ↓] theorem vcLW_makeSlice_g (j : Nat) (want : Bool) (t : TypeId) (ln cp : Operand) (w : Wit (hn, ops, Oper.mk dst (.makeSlice t ln cp) ty pos aft (some (j, want)) :: rest, Q, f, H, ds)) : vcLW P hn dr ops (⟨dst, .makeSlice t ln cp, ty, pos, aft, some (j, want)⟩ :: rest) Q f H ds w = guardVW (fW (gdW j ops (wit _)) f (wit _)) want (bindOW (slbOf P t) (fun sl => bindOW (intA (evW ln f (wit _))) (fun n => bindOW (intA (evW cp f (wit _))) (fun c => andVW (0 ≤ n ∧ n ≤ c ∧ (sl.2.2.2 : Int) * c ≤ 281474976710656 ∧ c ≤ 9223372036854775807 ∧ sl.2.2.1.all Value.oneCell' = true) (bindHW (H ++ [.row sl.1 sl.2.1 (List.replicate n.toNat (sl.2.2.1.map .v))]) (fun H' => bindVW (.hs H.length 0 n.toNat n.toNat) (fun r => vcLW P hn dr ops rest Q (updO f dst r) H' ds (wit _)) (wit _)) (wit _)) (wit _)) (wit _)) (wit _)) (wit _)) (vcLW P hn dr ops rest Q (updO f dst (.tup [])) H ds (wit _)) (wit _) (wit _) := (rfl)
@[simp ↓] theorem vcLW_unOp (op : UnOp) (t : TypeId) (x : Operand) (w : Wit (hn, ops, Oper.mk dst (.unOp op t x) ty pos aft none :: rest, Q, f, H, ds)) : vcLW P hn dr ops (⟨dst, .unOp op t x, ty, pos, aft, none⟩ :: rest) Q f H ds w = (bindOW (unA op (evW x f (wit _))) (fun r => vcLW P hn dr ops rest Q (updO f dst r) H ds (wit _)) (wit _)) := (rfl)
@[simp ↓] theorem vcLW_unOp_g (j : Nat) (want : Bool) (op : UnOp) (t : TypeId) (x : Operand) (w : Wit (hn, ops, Oper.mk dst (.unOp op t x) ty pos aft (some (j, want)) :: rest, Q, f, H, ds)) : vcLW P hn dr ops (⟨dst, .unOp op t x, ty, pos, aft, some (j, want)⟩ :: rest) Q f H ds w = guardVW (fW (gdW j ops (wit _)) f (wit _)) want (bindOW (unA op (evW x f (wit _))) (fun r => vcLW P hn dr ops rest Q (updO f dst r) H ds (wit _)) (wit _)) (vcLW P hn dr ops rest Q (updO f dst (.tup [])) H ds (wit _)) (wit _) (wit _) := (rfl)
@[simp ↓] theorem vcLW_convert (s t : TypeId) (x : Operand) (w : Wit (hn, ops, Oper.mk dst (.convert s t x) ty pos aft none :: rest, Q, f, H, ds)) : vcLW P hn dr ops (⟨dst, .convert s t x, ty, pos, aft, none⟩ :: rest) Q f H ds w = (andVW (undB P s = true) (bindOW (kOf P t) (fun k => bindOW (intA (evW x f (wit _))) (fun n => bindVW (.v (.int k (k.wrap n))) (fun r => vcLW P hn dr ops rest Q (updO f dst r) H ds (wit _)) (wit _)) (wit _)) (wit _)) (wit _)) := (rfl)
@[simp ↓] theorem vcLW_convert_g (j : Nat) (want : Bool) (s t : TypeId) (x : Operand) (w : Wit (hn, ops, Oper.mk dst (.convert s t x) ty pos aft (some (j, want)) :: rest, Q, f, H, ds)) : vcLW P hn dr ops (⟨dst, .convert s t x, ty, pos, aft, some (j, want)⟩ :: rest) Q f H ds w = guardVW (fW (gdW j ops (wit _)) f (wit _)) want (andVW (undB P s = true) (bindOW (kOf P t) (fun k => bindOW (intA (evW x f (wit _))) (fun n => bindVW (.v (.int k (k.wrap n))) (fun r => vcLW P hn dr ops rest Q (updO f dst r) H ds (wit _)) (wit _)) (wit _)) (wit _)) (wit _)) (vcLW P hn dr ops rest Q (updO f dst (.tup [])) H ds (wit _)) (wit _) (wit _) := (rfl)
@[simp ↓] theorem vcLW_nilCheck (x : Operand) (w : Wit (hn, ops, Oper.mk dst (.nilCheck x) ty pos aft none :: rest, Q, f, H, ds)) : vcLW P hn dr ops (⟨dst, .nilCheck x, ty, pos, aft, none⟩ :: rest) Q f H ds w = (bindOW (cellsAt H (evW x f (wit _))) (fun _ => bindVW (evW x f (wit _)) (fun a => vcLW P hn dr ops rest Q (updO f dst a) H ds (wit _)) (wit _)) (wit _)) := (rfl)
@[simp ↓] theorem vcLW_nilCheck_g (j : Nat) (want : Bool) (x : Operand) (w : Wit (hn, ops, Oper.mk dst (.nilCheck x) ty pos aft (some (j, want)) :: rest, Q, f, H, ds)) : vcLW P hn dr ops (⟨dst, .nilCheck x, ty, pos, aft, some (j, want)⟩ :: rest) Q f H ds w = guardVW (fW (gdW j ops (wit _)) f (wit _)) want (bindOW (cellsAt H (evW x f (wit _))) (fun _ => bindVW (evW x f (wit _)) (fun a => vcLW P hn dr ops rest Q (updO f dst a) H ds (wit _)) (wit _)) (wit _)) (vcLW P hn dr ops rest Q (updO f dst (.tup [])) H ds (wit _)) (wit _) (wit _) := (rfl)
@[simp ↓] theorem vcLW_extract (x : Operand) (i : Nat) (w : Wit (hn, ops, Oper.mk dst (.extract x i) ty pos aft none :: rest, Q, f, H, ds)) : vcLW P hn dr ops (⟨dst, .extract x i, ty, pos, aft, none⟩ :: rest) Q f H ds w = (bindOW (tupGet (evW x f (wit _)) i) (fun r => vcLW P hn dr ops rest Q (updO f dst r) H ds (wit _)) (wit _)) := (rfl)
@[simp ↓] theorem vcLW_extract_g (j : Nat) (want : Bool) (x : Operand) (i : Nat) (w : Wit (hn, ops, Oper.mk dst (.extract x i) ty pos aft (some (j, want)) :: rest, Q, f, H, ds)) : vcLW P hn dr ops (⟨dst, .extract x i, ty, pos, aft, some (j, want)⟩ :: rest) Q f H ds w = guardVW (fW (gdW j ops (wit _)) f (wit _)) want (bindOW (tupGet (evW x f (wit _)) i) (fun r => vcLW P hn dr ops rest Q (updO f dst r) H ds (wit _)) (wit _)) (vcLW P hn dr ops rest Q (updO f dst (.tup [])) H ds (wit _)) (wit _) (wit _) := (rfl)
@[simp ↓] theorem vcLW_makeInterface (t : TypeId) (x : Operand) (w : Wit (hn, ops, Oper.mk dst (.makeInterface t x) ty pos aft none :: rest, Q, f, H, ds)) : vcLW P hn dr ops (⟨dst, .makeInterface t x, ty, pos, aft, none⟩ :: rest) Q f H ds w = (andVW (isNonIface P t = true) (bindVW (.ifc t (evW x f (wit _))) (fun a => vcLW P hn dr ops rest Q (updO f dst a) H ds (wit _)) (wit _)) (wit _)) := (rfl)
@[simp ↓] theorem vcLW_makeInterface_g (j : Nat) (want : Bool) (t : TypeId) (x : Operand) (w : Wit (hn, ops, Oper.mk dst (.makeInterface t x) ty pos aft (some (j, want)) :: rest, Q, f, H, ds)) : vcLW P hn dr ops (⟨dst, .makeInterface t x, ty, pos, aft, some (j, want)⟩ :: rest) Q f H ds w = guardVW (fW (gdW j ops (wit _)) f (wit _)) want (andVW (isNonIface P t = true) (bindVW (.ifc t (evW x f (wit _))) (fun a => vcLW P hn dr ops rest Q (updO f dst a) H ds (wit _)) (wit _)) (wit _)) (vcLW P hn dr ops rest Q (updO f dst (.tup [])) H ds (wit _)) (wit _) (wit _) := (rfl)
@[simp ↓] theorem vcLW_build (t : TypeId) (l : List (Nat × Operand)) (w : Wit (hn, ops, Oper.mk dst (.build t l.toArray) ty pos aft none :: rest, Q, f, H, ds)) : vcLW P hn dr ops (⟨dst, .build t l.toArray, ty, pos, aft, none⟩ :: rest) Q f H ds w = (bindOW (bldOf P t) (fun zp => bindOW (afill (fun i => zp.2[i]?) (zp.1.map .v) (evp l f (wit _))) (fun cs => vcLW P hn dr ops rest Q (updO f dst (.agg cs)) H ds (wit _)) (wit _)) (wit _)) := (rfl)
@[simp ↓] theorem vcLW_build_g (j : Nat) (want : Bool) (t : TypeId) (l : List (Nat × Operand)) (w : Wit (hn, ops, Oper.mk dst (.build t l.toArray) ty pos aft (some (j, want)) :: rest, Q, f, H, ds)) : vcLW P hn dr ops (⟨dst, .build t l.toArray, ty, pos, aft, some (j, want)⟩ :: rest) Q f H ds w = guardVW (fW (gdW j ops (wit _)) f (wit _)) want (bindOW (bldOf P t) (fun zp => bindOW (afill (fun i => zp.2[i]?) (zp.1.map .v) (evp l f (wit _))) (fun cs => vcLW P hn dr ops rest Q (updO f dst (.agg cs)) H ds (wit _)) (wit _)) (wit _)) (vcLW P hn dr ops rest Q (updO f dst (.tup [])) H ds (wit _)) (wit _) (wit _) := (rfl)
@[simp ↓] theorem vcLW_makeFunc (fn : Fn) (l1 l2 : List Operand) (w : Wit (hn, ops, Oper.mk dst (.makeFunc fn l1.toArray l2.toArray) ty pos aft none :: rest, Q, f, H, ds)) : vcLW P hn dr ops (⟨dst, .makeFunc fn l1.toArray l2.toArray, ty, pos, aft, none⟩ :: rest) Q f H ds w = (bindVW (.fn fn (evs l1 f (wit _)) (evs l2 f (wit _))) (fun a => vcLW P hn dr ops rest Q (updO f dst a) H ds (wit _)) (wit _)) := (rfl)
@[simp ↓] theorem vcLW_makeFunc_g (j : Nat) (want : Bool) (fn : Fn) (l1 l2 : List Operand) (w : Wit (hn, ops, Oper.mk dst (.makeFunc fn l1.toArray l2.toArray) ty pos aft (some (j, want)) :: rest, Q, f, H, ds)) : vcLW P hn dr ops (⟨dst, .makeFunc fn l1.toArray l2.toArray, ty, pos, aft, some (j, want)⟩ :: rest) Q f H ds w = guardVW (fW (gdW j ops (wit _)) f (wit _)) want (bindVW (.fn fn (evs l1 f (wit _)) (evs l2 f (wit _))) (fun a => vcLW P hn dr ops rest Q (updO f dst a) H ds (wit _)) (wit _)) (vcLW P hn dr ops rest Q (updO f dst (.tup [])) H ds (wit _)) (wit _) (wit _) := (rfl)
@[simp ↓] theorem vcLW_panic (x : Operand) (w : Wit (hn, ops, Oper.mk dst (.panic x) ty pos aft none :: rest, Q, f, H, ds)) : vcLW P hn dr ops (⟨dst, .panic x, ty, pos, aft, none⟩ :: rest) Q f H ds w = (bindVW (evW x f (wit _)) (fun a => panVW a (QW Q (.pan a) (panFr dr ops f) H ds (wit _)) (wit _)) (wit _)) := (rfl)
@[simp ↓] theorem vcLW_panic_g (j : Nat) (want : Bool) (x : Operand) (w : Wit (hn, ops, Oper.mk dst (.panic x) ty pos aft (some (j, want)) :: rest, Q, f, H, ds)) : vcLW P hn dr ops (⟨dst, .panic x, ty, pos, aft, some (j, want)⟩ :: rest) Q f H ds w = guardVW (fW (gdW j ops (wit _)) f (wit _)) want (bindVW (evW x f (wit _)) (fun a => panVW a (QW Q (.pan a) (panFr dr ops f) H ds (wit _)) (wit _)) (wit _)) (vcLW P hn dr ops rest Q (updO f dst (.tup [])) H ds (wit _)) (wit _) (wit _) := (rfl)
@[simp ↓] theorem vcLW_typeAssert (x : Operand) (s t : TypeId) (ok : Bool) (w : Wit (hn, ops, Oper.mk dst (.typeAssert x s t ok) ty pos aft none :: rest, Q, f, H, ds)) : vcLW P hn dr ops (⟨dst, .typeAssert x s t ok, ty, pos, aft, none⟩ :: rest) Q f H ds w = (andVW (isNonIface P t = true) (bindOW (zeroOf P t) (fun z => bindOW (assertV (evW x f (wit _)) t z ok) (fun r => vcLW P hn dr ops rest Q (updO f dst r) H ds (wit _)) (wit _)) (wit _)) (wit _)) := (rfl)
@[simp ↓] theorem vcLW_typeAssert_g (j : Nat) (want : Bool) (x : Operand) (s t : TypeId) (ok : Bool) (w : Wit (hn, ops, Oper.mk dst (.typeAssert x s t ok) ty pos aft (some (j, want)) :: rest, Q, f, H, ds)) : vcLW P hn dr ops (⟨dst, .typeAssert x s t ok, ty, pos, aft, some (j, want)⟩ :: rest) Q f H ds w = guardVW (fW (gdW j ops (wit _)) f (wit _)) want (andVW (isNonIface P t = true) (bindOW (zeroOf P t) (fun z => bindOW (assertV (evW x f (wit _)) t z ok) (fun r => vcLW P hn dr ops rest Q (updO f dst r) H ds (wit _)) (wit _)) (wit _)) (wit _)) (vcLW P hn dr ops rest Q (updO f dst (.tup [])) H ds (wit _)) (wit _) (wit _) := (rfl)
@[simp ↓] theorem vcLW_makeMap (t : TypeId) (w : Wit (hn, ops, Oper.mk dst (.makeMap t none) ty pos aft none :: rest, Q, f, H, ds)) : vcLW P hn dr ops (⟨dst, .makeMap t none, ty, pos, aft, none⟩ :: rest) Q f H ds w = (bindHW (H ++ [.map []]) (fun H' => vcLW P hn dr ops rest Q (updO f dst (.hm H.length)) H' ds (wit _)) (wit _)) := (rfl)
@[simp ↓] theorem vcLW_makeMap_g (j : Nat) (want : Bool) (t : TypeId) (w : Wit (hn, ops, Oper.mk dst (.makeMap t none) ty pos aft (some (j, want)) :: rest, Q, f, H, ds)) : vcLW P hn dr ops (⟨dst, .makeMap t none, ty, pos, aft, some (j, want)⟩ :: rest) Q f H ds w = guardVW (fW (gdW j ops (wit _)) f (wit _)) want (bindHW (H ++ [.map []]) (fun H' => vcLW P hn dr ops rest Q (updO f dst (.hm H.length)) H' ds (wit _)) (wit _)) (vcLW P hn dr ops rest Q (updO f dst (.tup [])) H ds (wit _)) (wit _) (wit _) := (rfl)
@[simp ↓] theorem vcLW_lookup (t : TypeId) (x i : Operand) (ok : Bool) (w : Wit (hn, ops, Oper.mk dst (.lookup t x i ok) ty pos aft none :: rest, Q, f, H, ds)) : vcLW P hn dr ops (⟨dst, .lookup t x i ok, ty, pos, aft, none⟩ :: rest) Q f H ds w = (bindOW (mapOf P t) (fun m => bindOW (mapEs H (evW x f (wit _))) (fun es => bindOW (keyA (evW i f (wit _))) (fun k => bindOW (mfind m.1 k es) (fun r => bindVW (if ok then .tup [r.getD (assertV.avZ m.2), .v (.bool r.isSome)] else r.getD (assertV.avZ m.2)) (fun a => vcLW P hn dr ops rest Q (updO f dst a) H ds (wit _)) (wit _)) (wit _)) (wit _)) (wit _)) (wit _)) := (rfl)
@[simp ↓] theorem vcLW_lookup_g (j : Nat) (want : Bool) (t : TypeId) (x i : Operand) (ok : Bool) (w : Wit (hn, ops, Oper.mk dst (.lookup t x i ok) ty pos aft (some (j, want)) :: rest, Q, f, H, ds)) : vcLW P hn dr ops (⟨dst, .lookup t x i ok, ty, pos, aft, some (j, want)⟩ :: rest) Q f H ds w = guardVW (fW (gdW j ops (wit _)) f (wit _)) want (bindOW (mapOf P t) (fun m => bindOW (mapEs H (evW x f (wit _))) (fun es => bindOW (keyA (evW i f (wit _))) (fun k => bindOW (mfind m.1 k es) (fun r => bindVW (if ok then .tup [r.getD (assertV.avZ m.2), .v (.bool r.isSome)] else r.getD (assertV.avZ m.2)) (fun a => vcLW P hn dr ops rest Q (updO f dst a) H ds (wit _)) (wit _)) (wit _)) (wit _)) (wit _)) (wit _)) (vcLW P hn dr ops rest Q (updO f dst (.tup [])) H ds (wit _)) (wit _) (wit _) := (rfl)
@[simp ↓] theorem vcLW_mapUpdate (t : TypeId) (m i x : Operand) (w : Wit (hn, ops, Oper.mk dst (.mapUpdate t m i x) ty pos aft none :: rest, Q, f, H, ds)) : vcLW P hn dr ops (⟨dst, .mapUpdate t m i x, ty, pos, aft, none⟩ :: rest) Q f H ds w = (bindOW (mapOf P t) (fun mm => mapUpdW H (evW m f (wit _)) (keyA (evW i f (wit _))) (evW x f (wit _)) mm.1 (fun H' => vcLW P hn dr ops rest Q (updO f dst (.tup [])) H' ds (wit _)) (wit _)) (wit _)) := (rfl)
@[simp ↓] theorem vcLW_mapUpdate_g (j : Nat) (want : Bool) (t : TypeId) (m i x : Operand) (w : Wit (hn, ops, Oper.mk dst (.mapUpdate t m i x) ty pos aft (some (j, want)) :: rest, Q, f, H, ds)) : vcLW P hn dr ops (⟨dst, .mapUpdate t m i x, ty, pos, aft, some (j, want)⟩ :: rest) Q f H ds w = guardVW (fW (gdW j ops (wit _)) f (wit _)) want (bindOW (mapOf P t) (fun mm => mapUpdW H (evW m f (wit _)) (keyA (evW i f (wit _))) (evW x f (wit _)) mm.1 (fun H' => vcLW P hn dr ops rest Q (updO f dst (.tup [])) H' ds (wit _)) (wit _)) (wit _)) (vcLW P hn dr ops rest Q (updO f dst (.tup [])) H ds (wit _)) (wit _) (wit _) := (rfl)
@[simp ↓] theorem vcLW_insert (t : TypeId) (m i x : Operand) (w : Wit (hn, ops, Oper.mk dst (.insert t m i x) ty pos aft none :: rest, Q, f, H, ds)) : vcLW P hn dr ops (⟨dst, .insert t m i x, ty, pos, aft, none⟩ :: rest) Q f H ds w = (bindOW (mapOf P t) (fun mm => mapUpdW H (evW m f (wit _)) (keyA (evW i f (wit _))) (evW x f (wit _)) mm.1 (fun H' => vcLW P hn dr ops rest Q (updO f dst (.tup [])) H' ds (wit _)) (wit _)) (wit _)) := (rfl)
@[simp ↓] theorem vcLW_insert_g (j : Nat) (want : Bool) (t : TypeId) (m i x : Operand) (w : Wit (hn, ops, Oper.mk dst (.insert t m i x) ty pos aft (some (j, want)) :: rest, Q, f, H, ds)) : vcLW P hn dr ops (⟨dst, .insert t m i x, ty, pos, aft, some (j, want)⟩ :: rest) Q f H ds w = guardVW (fW (gdW j ops (wit _)) f (wit _)) want (bindOW (mapOf P t) (fun mm => mapUpdW H (evW m f (wit _)) (keyA (evW i f (wit _))) (evW x f (wit _)) mm.1 (fun H' => vcLW P hn dr ops rest Q (updO f dst (.tup [])) H' ds (wit _)) (wit _)) (wit _)) (vcLW P hn dr ops rest Q (updO f dst (.tup [])) H ds (wit _)) (wit _) (wit _) := (rfl)
@[simp ↓] theorem vcLW_call (fo : Operand) (l : List Operand) (ts : Array TypeId) (w : Wit (hn, ops, Oper.mk dst (.call ⟨.value fo, l.toArray, ts⟩) ty pos aft none :: rest, Q, f, H, ds)) : vcLW P hn dr ops (⟨dst, .call ⟨.value fo, l.toArray, ts⟩, ty, pos, aft, none⟩ :: rest) Q f H ds w = (callTVW P hn dr H dst (evW fo f (wit _)) (evs l f (wit _)) (fun r H' => vcLW P hn dr ops rest Q (updO f dst r) H' ds (wit _)) (fun x H' => QW Q (.pan x) (panFr dr ops f) H' ds (wit _)) (wit _) (wit _)) := (rfl)
@[simp ↓] theorem vcLW_call_g (j : Nat) (want : Bool) (fo : Operand) (l : List Operand) (ts : Array TypeId) (w : Wit (hn, ops, Oper.mk dst (.call ⟨.value fo, l.toArray, ts⟩) ty pos aft (some (j, want)) :: rest, Q, f, H, ds)) : vcLW P hn dr ops (⟨dst, .call ⟨.value fo, l.toArray, ts⟩, ty, pos, aft, some (j, want)⟩ :: rest) Q f H ds w = guardVW (fW (gdW j ops (wit _)) f (wit _)) want (callTVW P hn dr H dst (evW fo f (wit _)) (evs l f (wit _)) (fun r H' => vcLW P hn dr ops rest Q (updO f dst r) H' ds (wit _)) (fun x H' => QW Q (.pan x) (panFr dr ops f) H' ds (wit _)) (wit _) (wit _)) (vcLW P hn dr ops rest Q (updO f dst (.tup [])) H ds (wit _)) (wit _) (wit _) := (rfl)
@[simp ↓] theorem vcLW_len (x : Operand) (t : TypeId) (w : Wit (hn, ops, Oper.mk dst (.call ⟨.builtin .len, #[x], #[t]⟩) ty pos aft none :: rest, Q, f, H, ds)) : vcLW P hn dr ops (⟨dst, .call ⟨.builtin .len, #[x], #[t]⟩, ty, pos, aft, none⟩ :: rest) Q f H ds w = (bindOW (lenV H (lkOf P t) (evW x f (wit _))) (fun n => vcLW P hn dr ops rest Q (updO f dst (.v (.int .i64 n))) H ds (wit _)) (wit _)) := (rfl)
@[simp ↓] theorem vcLW_len_g (j : Nat) (want : Bool) (x : Operand) (t : TypeId) (w : Wit (hn, ops, Oper.mk dst (.call ⟨.builtin .len, #[x], #[t]⟩) ty pos aft (some (j, want)) :: rest, Q, f, H, ds)) : vcLW P hn dr ops (⟨dst, .call ⟨.builtin .len, #[x], #[t]⟩, ty, pos, aft, some (j, want)⟩ :: rest) Q f H ds w = guardVW (fW (gdW j ops (wit _)) f (wit _)) want (bindOW (lenV H (lkOf P t) (evW x f (wit _))) (fun n => vcLW P hn dr ops rest Q (updO f dst (.v (.int .i64 n))) H ds (wit _)) (wit _)) (vcLW P hn dr ops rest Q (updO f dst (.tup [])) H ds (wit _)) (wit _) (wit _) := (rfl)
@[simp ↓] theorem vcLW_append (s x : Operand) (t t' : TypeId) (w : Wit (hn, ops, Oper.mk dst (.call ⟨.builtin .append, #[s, x], #[t, t']⟩) ty pos aft none :: rest, Q, f, H, ds)) : vcLW P hn dr ops (⟨dst, .call ⟨.builtin .append, #[s, x], #[t, t']⟩, ty, pos, aft, none⟩ :: rest) Q f H ds w = (andVW (t = t') (bindOW (slbOf P t) (fun sl => apV H hn dst sl (evW s f (wit _)) (evW x f (wit _)) (fun r H' => vcL P hn dr ops rest Q (updO f dst r) H' ds) (wit _)) (wit _)) (wit _)) := (rfl)
@[simp ↓] theorem vcLW_append_g (j : Nat) (want : Bool) (s x : Operand) (t t' : TypeId) (w : Wit (hn, ops, Oper.mk dst (.call ⟨.builtin .append, #[s, x], #[t, t']⟩) ty pos aft (some (j, want)) :: rest, Q, f, H, ds)) : vcLW P hn dr ops (⟨dst, .call ⟨.builtin .append, #[s, x], #[t, t']⟩, ty, pos, aft, some (j, want)⟩ :: rest) Q f H ds w = guardVW (fW (gdW j ops (wit _)) f (wit _)) want (andVW (t = t') (bindOW (slbOf P t) (fun sl => apV H hn dst sl (evW s f (wit _)) (evW x f (wit _)) (fun r H' => vcL P hn dr ops rest Q (updO f dst r) H' ds) (wit _)) (wit _)) (wit _)) (vcLW P hn dr ops rest Q (updO f dst (.tup [])) H ds (wit _)) (wit _) (wit _) := (rfl)
@[simp ↓] theorem vcLW_binOp (op : BinOp) (t t' : TypeId) (x y : Operand) (w : Wit (hn, ops, Oper.mk dst (.binOp op t x y t') ty pos aft none :: rest, Q, f, H, ds)) : vcLW P hn dr ops (⟨dst, .binOp op t x y t', ty, pos, aft, none⟩ :: rest) Q f H ds w = (binV P op t (constB x || constB y) (nilSlC y) (evW x f (wit _)) (evW y f (wit _)) (fun r => vcLW P hn dr ops rest Q (updO f dst r) H ds (wit _)) (wit _)) := (rfl)
@[simp ↓] theorem vcLW_binOp_g (j : Nat) (want : Bool) (op : BinOp) (t t' : TypeId) (x y : Operand) (w : Wit (hn, ops, Oper.mk dst (.binOp op t x y t') ty pos aft (some (j, want)) :: rest, Q, f, H, ds)) : vcLW P hn dr ops (⟨dst, .binOp op t x y t', ty, pos, aft, some (j, want)⟩ :: rest) Q f H ds w = guardVW (fW (gdW j ops (wit _)) f (wit _)) want (binV P op t (constB x || constB y) (nilSlC y) (evW x f (wit _)) (evW y f (wit _)) (fun r => vcLW P hn dr ops rest Q (updO f dst r) H ds (wit _)) (wit _)) (vcLW P hn dr ops rest Q (updO f dst (.tup [])) H ds (wit _)) (wit _) (wit _) := (rfl)
@[simp ↓] theorem vcLW_buildSlice (t : TypeId) (len : Nat) (l : List (Nat × Operand)) (w : Wit (hn, ops, Oper.mk dst (.buildSlice t len l.toArray) ty pos aft none :: rest, Q, f, H, ds)) : vcLW P hn dr ops (⟨dst, .buildSlice t len l.toArray, ty, pos, aft, none⟩ :: rest) Q f H ds w = (bindOW (slbOf P t) (fun sl => andVW (len * sl.2.1 ≤ 2 ^ 24) (bindOW (afillS sl.2.1 (List.replicate len (sl.2.2.1.map .v)) (evp l f (wit _))) (fun es => bsV H hn dst sl es len (fun r H' => vcL P hn dr ops rest Q (updO f dst r) H' ds) (wit _)) (wit _)) (wit _)) (wit _)) := (rfl)
@[simp ↓] theorem vcLW_buildSlice_g (j : Nat) (want : Bool) (t : TypeId) (len : Nat) (l : List (Nat × Operand)) (w : Wit (hn, ops, Oper.mk dst (.buildSlice t len l.toArray) ty pos aft (some (j, want)) :: rest, Q, f, H, ds)) : vcLW P hn dr ops (⟨dst, .buildSlice t len l.toArray, ty, pos, aft, some (j, want)⟩ :: rest) Q f H ds w = guardVW (fW (gdW j ops (wit _)) f (wit _)) want (bindOW (slbOf P t) (fun sl => andVW (len * sl.2.1 ≤ 2 ^ 24) (bindOW (afillS sl.2.1 (List.replicate len (sl.2.2.1.map .v)) (evp l f (wit _))) (fun es => bsV H hn dst sl es len (fun r H' => vcL P hn dr ops rest Q (updO f dst r) H' ds) (wit _)) (wit _)) (wit _)) (wit _)) (vcLW P hn dr ops rest Q (updO f dst (.tup [])) H ds (wit _)) (wit _) (wit _) := (rfl)
@[simp ↓] theorem vcLW_indexAddr (t : TypeId) (x i : Operand) (w : Wit (hn, ops, Oper.mk dst (.indexAddr t x i) ty pos aft none :: rest, Q, f, H, ds)) : vcLW P hn dr ops (⟨dst, .indexAddr t x i, ty, pos, aft, none⟩ :: rest) Q f H ds w = (idxAddrV P H t (evW x f (wit _)) (evW i f (wit _)) (fun r => bindVW (r) (fun r => vcLW P hn dr ops rest Q (updO f dst r) H ds (wit _)) (wit _)) (wit _)) := (rfl)
@[simp ↓] theorem vcLW_indexAddr_g (j : Nat) (want : Bool) (t : TypeId) (x i : Operand) (w : Wit (hn, ops, Oper.mk dst (.indexAddr t x i) ty pos aft (some (j, want)) :: rest, Q, f, H, ds)) : vcLW P hn dr ops (⟨dst, .indexAddr t x i, ty, pos, aft, some (j, want)⟩ :: rest) Q f H ds w = guardVW (fW (gdW j ops (wit _)) f (wit _)) want (idxAddrV P H t (evW x f (wit _)) (evW i f (wit _)) (fun r => bindVW (r) (fun r => vcLW P hn dr ops rest Q (updO f dst r) H ds (wit _)) (wit _)) (wit _)) (vcLW P hn dr ops rest Q (updO f dst (.tup [])) H ds (wit _)) (wit _) (wit _) := (rfl)
@[simp ↓] theorem vcLW_index (t : TypeId) (x i : Operand) (w : Wit (hn, ops, Oper.mk dst (.index t x i) ty pos aft none :: rest, Q, f, H, ds)) : vcLW P hn dr ops (⟨dst, .index t x i, ty, pos, aft, none⟩ :: rest) Q f H ds w = (idxValV P t (evW x f (wit _)) (evW i f (wit _)) (fun r => bindVW (r) (fun r => vcLW P hn dr ops rest Q (updO f dst r) H ds (wit _)) (wit _)) (wit _)) := (rfl)
@[simp ↓] theorem vcLW_index_g (j : Nat) (want : Bool) (t : TypeId) (x i : Operand) (w : Wit (hn, ops, Oper.mk dst (.index t x i) ty pos aft (some (j, want)) :: rest, Q, f, H, ds)) : vcLW P hn dr ops (⟨dst, .index t x i, ty, pos, aft, some (j, want)⟩ :: rest) Q f H ds w = guardVW (fW (gdW j ops (wit _)) f (wit _)) want (idxValV P t (evW x f (wit _)) (evW i f (wit _)) (fun r => bindVW (r) (fun r => vcLW P hn dr ops rest Q (updO f dst r) H ds (wit _)) (wit _)) (wit _)) (vcLW P hn dr ops rest Q (updO f dst (.tup [])) H ds (wit _)) (wit _) (wit _) := (rfl)
@[simp ↓] theorem vcLW_defer (fo : Operand) (l : List Operand) (ts : Array TypeId) (w : Wit (hn, ops, Oper.mk dst (.defer ⟨.value fo, l.toArray, ts⟩) ty pos aft none :: rest, Q, f, H, ds)) : vcLW P hn dr ops (⟨dst, .defer ⟨.value fo, l.toArray, ts⟩, ty, pos, aft, none⟩ :: rest) Q f H ds w = deferV P (evW fo f (wit _)) (evs l f (wit _)) (fun d => vcL P hn dr ops rest Q (updO f dst (.tup [])) H (d :: ds)) := (rfl)
@[simp] theorem vcL_W (l : List Oper) : vcL P hn dr ops l Q f H ds = vcLW P hn dr ops l Q f H ds (wit _) := (rfl)
@[simp] theorem vcC_W (n : Nat) (c : Code) : vcC P hn od n c Q f H ds = vcCW P hn od n c Q f H ds (wit _) := (rfl)

@[simp ↓] theorem frm_eval_cons (a : AV) (as : List AV) (i t : Nat) : frm (a :: as) i t = if t = i then a else frm as (i + 1) t := (rfl)
@[simp ↓] theorem frm_eval_nil (i t : Nat) : frm [] i t = .tup [] := (rfl)
@[simp low] theorem fW_low (t : Nat) (f : Fr) (w : Wit f) : fW t f w = f t := (rfl)
theorem loop_rule {P : Program} {hn : Nat → Bool} {od : Nat → Option OPlan} {n : Nat} {c : Code} {Q : AQ} {f : Fr} {H : List Blk} {ds : List ADef} {w : Wit (n, Code.loop c, Q, f, H, ds)} {α : Type} (I : α → Fr → List Blk → Prop) (μ : α → Nat) (hs : (P.follows .mixedOrders && smallC hn od n c) = true) (x0 : α) (h : I x0 f H)
    (round : ∀ x f H, I x f H → vcCW P hn od n c (thenQ (fun f' H' ds' => ds' = ds ∧ ∃ y, μ y < μ x ∧ I y f' H') Q) f H ds (wit _)) : AWPW P n (.loop c) Q f H ds w := by
  simp only [Bool.and_eq_true] at hs
  refine awp_loop (fun m f H ds' => ds' = ds ∧ ∃ x, μ x = m ∧ I x f H) ?_ ⟨rfl, x0, rfl, h⟩
  rintro m f H _ ⟨rfl, x, rfl, hI⟩
  refine (vcC_sound hs.1 hs.2 (round x f H hI)).mono fun y f' H' ds' hq => ?_
  cases y <;> first | exact hq | (obtain ⟨h1, z, h2, h3⟩ := hq; exact ⟨_, h2, h1, z, rfl, h3⟩)

end Go.Mu
