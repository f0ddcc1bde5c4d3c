/- Operations over abstract values, one by one (3): numbers, comparisons, built values, slices of slices, calls. -/
import Derived.Test.YtganjkhdlehhdaaGreatFwCtoFwE
import Derived.ChangeKeysEq
set_option linter.unusedVariables false
set_option linter.unusedSimpArgs false
namespace Go.Mu
open Go.RowKit (Below)
def binI (op : BinOp) (k : IntKind) (a b : Int) : Option Value :=
  match op with
  | .add => some (.int k (k.wrap (a + b)))
  | .sub => some (.int k (k.wrap (a - b)))
  | .mul => some (.int k (k.wrap (a * b)))
  | .quo => if b = 0 then none else some (.int k (k.wrap (a.tdiv b)))
  | .rem => if b = 0 then none else some (.int k (a.tmod b))
  | .and => some (.int k (k.wrap ((BitVec.ofInt k.bits a &&& BitVec.ofInt k.bits b).toNat)))
  | .or => some (.int k (k.wrap ((BitVec.ofInt k.bits a ||| BitVec.ofInt k.bits b).toNat)))
  | .xor => some (.int k (k.wrap ((BitVec.ofInt k.bits a ^^^ BitVec.ofInt k.bits b).toNat)))
  | .andNot => some (.int k (k.wrap ((BitVec.ofInt k.bits a &&& ~~~(BitVec.ofInt k.bits b)).toNat)))
  | .eql => some (.bool (a == b))
  | .neq => some (.bool (a != b))
  | .lss => some (.bool (decide (a < b)))
  | .leq => some (.bool (decide (a ≤ b)))
  | .gtr => some (.bool (decide (a > b)))
  | .geq => some (.bool (decide (a ≥ b)))
  | .shl => if b < 0 then none else some (.int k (k.wrap (a * 2 ^ (min b.toNat k.bits))))
  | .shr => if b < 0 then none else some (.int k (a.fdiv (2 ^ (min b.toNat k.bits))))
def isShift : BinOp → Bool
  | .shl | .shr => true
  | _ => false
def binS (op : BinOp) (a b : ByteArray) : Option Value :=
  match op with
  | .eql => some (.bool (a.toList == b.toList))
  | .neq => some (.bool (!(a.toList == b.toList)))
  | .lss => some (.bool (Op.bytesLess a.toList b.toList))
  | .gtr => some (.bool (!(Op.bytesLess a.toList b.toList || a.toList == b.toList)))
  | .leq => some (.bool (Op.bytesLess a.toList b.toList || a.toList == b.toList))
  | .geq => some (.bool (!Op.bytesLess a.toList b.toList))
  | .add => if ((a.size + b.size : Nat) : Int) > IntKind.i64.max then none else some (.string (a ++ b))
  | _ => none
def eqFs (P : Program) (eq : TypeId → AV → AV → Option Bool) (xs ys : List AV) : List Field → Option Bool
  | [] => some true
  | f :: fs => if f.name = "_" then eqFs P eq xs ys fs else
    match szOf P f.type, aggOf P f.type with
    | some sz, some b => match partA b sz f.offset xs, partA b sz f.offset ys with
      | some x, some y => match eq f.type x y, eqFs P eq xs ys fs with
        | some p, some q => some (p && q)
        | _, _ => none
      | _, _ => none
    | _, _ => none
def eqIs (P : Program) (eq : AV → AV → Option Bool) (sz : Nat) (b : Bool) (xs ys : List AV) : Nat → Nat → Option Bool
  | _, 0 => some true
  | i, n + 1 => match partA b sz (i * sz) xs, partA b sz (i * sz) ys with
    | some x, some y => match eq x y, eqIs P eq sz b xs ys (i + 1) n with
      | some p, some q => some (p && q)
      | _, _ => none
    | _, _ => none
def eqA (P : Program) : Nat → TypeId → AV → AV → Option Bool
  | 0, _, _, _ => none
  | d + 1, t, x, y =>
    match P.underlying t, x, y with
    | some .bool, .v (.bool a), .v (.bool b) => some (a == b)
    | some (.int _), .v (.int k a), .v (.int k' b) => if k = k' then some (a == b) else none
    | some .string, .v (.string a), .v (.string b) => some (a.toList == b.toList)
    | some (.struct fs), .agg xs, .agg ys => if P.stoodInHeld t then none else eqFs P (eqA P d) xs ys fs.toList
    | some (.array n e), .agg xs, .agg ys => match szOf P e, aggOf P e with
      | some sz, some b => eqIs P (eqA P d e) sz b xs ys 0 n
      | _, _ => none
    | some (.pointer _), .v (.pointer none), .v (.pointer none) => some true
    | some (.pointer _), .bp _ _, .v (.pointer none) => some false
    | some (.pointer _), .v (.pointer none), .bp _ _ => some false
    | some (.pointer _), .vp _, .v (.pointer none) => some false
    | some (.map _ _), .hm _, .v (.map none) => some false
    | some (.func _ _ _), .fn _ _ _, .v .nilFunc => some false
    | some (.func _ _ _), .v .nilFunc, .v .nilFunc => some true
    | some (.interface _), .ifc _ _, .v .nilIface => some false
    | some (.interface _), .v .nilIface, .ifc _ _ => some false
    | some (.interface _), .v .nilIface, .v .nilIface => some true
    | _, _, _ => none
section
variable {P : Program} {o : Oper} {ρ : Operand → AV} {H : List Blk} {K pan : AV → List Blk → Prop}
theorem run_eqFs {cx : Cx} {w : World} {d : Nat} (ih : ∀ t x y b vx vy, eqA P d t x y = some b → Rep cx false x vx → Rep cx false y vy → (Op.equalIn d t vx vy).run P w = .ok b w)
    {xs ys : List AV} {vx vy : List Value} (hx : RepL cx false xs vx) (hy : RepL cx false ys vy) : ∀ (fs : List Field) (b : Bool), eqFs P (eqA P d) xs ys fs = some b → (Op.eqFields d vx.toArray vy.toArray fs).run P w = .ok b w
  | [], b, h => by simp [eqFs] at h; subst h; simp [Op.eqFields]
  | f :: fs, b, h => by
    unfold eqFs at h
    unfold Op.eqFields
    by_cases hn : f.name = "_"
    · rw [if_pos hn] at h; simp only [hn, ne_eq, not_true_eq_false, if_false]; exact run_eqFs ih hx hy fs b h
    · rw [if_neg hn] at h
      split at h
      · rename_i sz bb hsz hag
        split at h
        · rename_i x y hpx hpy
          split at h
          · rename_i p q hp hq
            simp at h; subst h
            obtain ⟨ux, e1, r1⟩ := run_part (w := w) hsz hag hx hpx
            obtain ⟨uy, e2, r2⟩ := run_part (w := w) hsz hag hy hpy
            have e3 := ih _ _ _ _ _ _ hp r1 r2
            have e4 := run_eqFs ih hx hy fs q hq
            simp only [ne_eq, hn, not_false_eq_true, if_true, Sem.run_bind, e1, e2, e3, Result.andThen_ok, Sem.run_ite, e4, Sem.run_pure]
            cases p <;> simp
          · cases h
        · cases h
      · cases h
theorem cellsOf_sz {e : TypeId} {n : Nat} (hz : szOf P e = some n) : P.cellsOf e = n ∧ ∃ i, P.info? e = some i := by
  unfold szOf at hz
  cases hi : P.info? e with
  | none => rw [hi] at hz; cases hz
  | some i => rw [hi] at hz; simp at hz; exact ⟨by simp [Program.cellsOf, hi, hz], i, rfl⟩
theorem run_eqIs {cx : Cx} {w : World} {d : Nat} {e : TypeId} (ih : ∀ x y b vx vy, eqA P d e x y = some b → Rep cx false x vx → Rep cx false y vy → (Op.equalIn d e vx vy).run P w = .ok b w)
    {sz : Nat} {bb : Bool} (hsz : szOf P e = some sz) (hag : aggOf P e = some bb) {xs ys : List AV} {vx vy : List Value} (hx : RepL cx false xs vx) (hy : RepL cx false ys vy) : ∀ (n i : Nat) (b : Bool), eqIs P (eqA P d e) sz bb xs ys i n = some b →
    (Op.eqItems d e (P.cellsOf e) vx.toArray vy.toArray (List.range' i n)).run P w = .ok b w
  | 0, i, b, h => by simp [eqIs] at h; subst h; simp [Op.eqItems]
  | n + 1, i, b, h => by
    unfold eqIs at h
    split at h
    · rename_i x y hpx hpy
      split at h
      · rename_i p q hp hq
        simp at h; subst h
        have hc := (cellsOf_sz hsz).1
        obtain ⟨ux, e1, r1⟩ := run_part (w := w) hsz hag hx hpx
        obtain ⟨uy, e2, r2⟩ := run_part (w := w) hsz hag hy hpy
        have e3 := ih _ _ _ _ _ hp r1 r2
        have e4 := run_eqIs ih hsz hag hx hy n (i + 1) q hq
        rw [hc] at e4 ⊢
        rw [List.range'_succ]
        simp only [Op.eqItems, Sem.run_bind, e1, e2, e3, Result.andThen_ok, Sem.run_ite, e4, Sem.run_pure]
        cases p <;> simp
      · cases h
    · cases h
theorem run_eqA {cx : Cx} {w : World} : ∀ (d : Nat) (t : TypeId) (x y : AV) (b : Bool) (vx vy : Value), eqA P d t x y = some b → Rep cx false x vx → Rep cx false y vy → (Op.equalIn d t vx vy).run P w = .ok b w
  | 0, t, x, y, b, vx, vy, h, _, _ => by simp [eqA] at h
  | d + 1, t, x, y, b, vx, vy, h, hx, hy => by
    unfold eqA at h
    split at h <;> rename_i hu
    · simp at h; subst h; cases hx; cases hy; exact run_equalIn_bool w d t _ _ hu
    · split at h
      · rename_i hk; subst hk; simp at h; subst h; cases hx; cases hy; exact run_equalIn_int w d t _ _ _ _ hu
      · cases h
    · simp at h; subst h; cases hx; cases hy; exact run_equalIn_string w d t _ _ hu
    · split at h
      · cases h
      · rename_i hp
        obtain ⟨ux, rfl, rx⟩ := hx.agg_inv
        obtain ⟨uy, rfl, ry⟩ := hy.agg_inv
        rw [run_equalIn_struct w d t _ _ (by simp [Program.fieldsOf, hu]) (by simpa using hp)]
        simp only [Program.fieldsOf, hu]
        exact run_eqFs (fun t x y b vx vy h1 h2 h3 => run_eqA d t x y b vx vy h1 h2 h3) rx ry _ b h
    · split at h
      · rename_i sz bb hsz hag
        obtain ⟨ux, rfl, rx⟩ := hx.agg_inv
        obtain ⟨uy, rfl, ry⟩ := hy.agg_inv
        obtain ⟨i, hi⟩ := (cellsOf_sz hsz).2
        rw [run_equalIn_array w d _ _ hu hi, List.range_eq_range']
        exact run_eqIs (fun x y b vx vy h1 h2 h3 => run_eqA d _ x y b vx vy h1 h2 h3) hsz hag rx ry _ 0 b h
      · cases h
    all_goals (first | (simp at h; subst h; cases hx; cases hy; simp [Op.equalIn, run_underlying hu]; done) | cases h)
def binA (P : Program) (op : BinOp) (t : TypeId) (x y : AV) : Option AV :=
  match x, y with
  | .v (.int k a), .v (.int k' b) => if isShift op then (binI op k a b).map .v else if k = k' then (binI op k a b).map .v else none
  | .v (.string a), .v (.string b) => (binS op a b).map .v
  | x, y => match op with
    | .eql => if P.eqGuardType P.depth t then none else (eqA P 10000 t x y).map fun b => .v (.bool b)
    | .neq => if P.eqGuardType P.depth t then none else (eqA P 10000 t x y).map fun b => .v (.bool !b)
    | _ => none
theorem run_eqGuard_int (op : BinOp) (t : TypeId) (x y : Operand) (k k' : IntKind) (a b : Int) (w : World) : (eqGuard op t x y (.int k a) (.int k' b)).run P w = .ok () w := by
  cases op <;> simp [eqGuard]
theorem run_eqGuard_str (op : BinOp) (t : TypeId) (x y : Operand) (a b : ByteArray) (w : World) : (eqGuard op t x y (.string a) (.string b)).run P w = .ok () w := by
  cases op <;> simp [eqGuard]
def constB : Operand → Bool
  | .const _ => true
  | _ => false
def nnB (a b : AV) (c : Bool) : Bool := match a, b with | .v .nilIface, .v .nilIface => c | _, _ => true
theorem run_eqGuard_no (op : BinOp) (t : TypeId) (x y : Operand) (a b : Value) (w : World) (hm : P.eqGuardType P.depth t = false) (hn : a = .nilIface → b = .nilIface → (constB x || constB y) = true) :
    (eqGuard op t x y a b).run P w = .ok () w := by
  cases op <;> try (simp [eqGuard]; done)
  all_goals
    unfold eqGuard
    simp only [Bool.not_true, Bool.false_eq_true, if_false]
    split
    · have := hn rfl rfl
      cases x <;> cases y <;> simp [constB] at this <;> simp
    · simp [hm]
    · rfl
def binE (P : Program) (op : BinOp) (t : TypeId) (x y : AV) : Option AV :=
  if P.eqGuardType P.depth t then none else
  match op with
  | .eql => (eqA P 10000 t x y).map fun b => .v (.bool b)
  | .neq => (eqA P 10000 t x y).map fun b => .v (.bool !b)
  | _ => none
def binA2 (op : BinOp) (x y : AV) : Option AV :=
  match x, y with
  | .v (.int k a), .v (.int k' b) => if isShift op then (binI op k a b).map .v else if k = k' then (binI op k a b).map .v else none
  | .v (.string a), .v (.string b) => (binS op a b).map .v
  | _, _ => none
def isNum (x : AV) : Bool := match x with | .v (.int _ _) | .v (.string _) => true | _ => false
theorem run_binI {op : BinOp} {t : TypeId} {k k' : IntKind} {a b : Int} {r : Value} (hk : isShift op = true ∨ k = k') (h : binI op k a b = some r) (w : World) : (binOp op t (.int k a) (.int k' b)).run P w = .ok r w := by
  rcases hk with hs | rfl
  · cases op <;> simp [isShift] at hs <;> simp only [binI] at h <;> split at h <;> simp at h <;> subst h <;> rename_i hb <;> simp [binOp, Op.shift, hb]
  · cases op <;> simp only [binI] at h <;> first
      | (simp at h; subst h; simp [binOp, Op.intArith, Op.intBits, Op.intCmp]; done)
      | (split at h <;> simp at h <;> subst h <;> rename_i hb <;> simp [binOp, Op.shift, Op.intDiv, hb]; done)
      | (simp at h; obtain ⟨hb, rfl⟩ := h; simp [binOp, Op.shift, Op.intDiv, hb]; done)
theorem run_binS {op : BinOp} {t : TypeId} {a b : ByteArray} {r : Value} (h : binS op a b = some r) (w : World) : (binOp op t (.string a) (.string b)).run P w = .ok r w := by
  cases op <;> simp only [binS] at h <;> first
    | (simp at h; subst h; simp [binOp, Op.stringOp]; done)
    | (split at h <;> simp at h <;> subst h <;> rename_i hb <;> simp [binOp, Op.stringOp, hb]; done)
    | (simp at h; done)
    | (simp at h; obtain ⟨hb, rfl⟩ := h; simp [binOp, Op.stringOp]; omega)
theorem sound_bin {op : BinOp} {t t' : TypeId} {x y : Operand} (ho : o.op = .binOp op t x y t') (h : bindO (binA2 op (ρ x) (ρ y)) fun r => K r H) : OpSem P o ρ H K pan := by
  obtain ⟨r, hr, hK⟩ := h
  refine opsem_same fun cx ρc B w0 h1 h2 h3 => ?_
  have hx := h3 x (by simp [Op.operands, ho])
  have hy := h3 y (by simp [Op.operands, ho])
  unfold binA2 at hr
  split at hr
  · rename_i k a k' b e1 e2
    rw [e1] at hx; rw [e2] at hy
    have ex := hx.v_inv; have ey := hy.v_inv
    split at hr
    · rename_i hs
      rw [Option.map_eq_some_iff] at hr
      obtain ⟨v, hv, rfl⟩ := hr
      refine ⟨.v v, v, ?_, .v v, hK⟩
      simp only [execOp, ho, ex, ey, Sem.run_bind, run_eqGuard_int, Result.andThen_ok, run_binI (P := P) (.inl hs) hv, Sem.run_pure]
    · split at hr
      · rename_i hk
        rw [Option.map_eq_some_iff] at hr
        obtain ⟨v, hv, rfl⟩ := hr
        refine ⟨.v v, v, ?_, .v v, hK⟩
        simp only [execOp, ho, ex, ey, Sem.run_bind, run_eqGuard_int, Result.andThen_ok, run_binI (P := P) (.inr hk) hv, Sem.run_pure]
      · cases hr
  · rename_i a b e1 e2
    rw [e1] at hx; rw [e2] at hy
    have ex := hx.v_inv; have ey := hy.v_inv
    rw [Option.map_eq_some_iff] at hr
    obtain ⟨v, hv, rfl⟩ := hr
    refine ⟨.v v, v, ?_, .v v, hK⟩
    simp only [execOp, ho, ex, ey, Sem.run_bind, run_eqGuard_str, Result.andThen_ok, run_binS (P := P) hv, Sem.run_pure]
  · cases hr
theorem run_binE {cx : Cx} {w : World} {t : TypeId} {x y : AV} {r : Bool} {a b : Value} (h : eqA P 10000 t x y = some r) (hx : Rep cx false x a) (hy : Rep cx false y b) (hn : isNum x = false) :
    (binOp .eql t a b).run P w = .ok (.bool r) w ∧ (binOp .neq t a b).run P w = .ok (.bool !r) w := by
  have e : (Op.equal t a b).run P w = .ok r w := run_eqA 10000 t x y r a b h hx hy
  rw [show (10000 : Nat) = 9999 + 1 from rfl] at h
  unfold eqA at h
  split at h
  all_goals (first | (simp [isNum] at hn; done) | (cases h; done) | skip)
  all_goals
    cases hx
    cases hy
    (constructor <;> simp only [binOp, Sem.run_bind, e, Result.andThen_ok, Sem.run_pure])
theorem sound_binE {op : BinOp} {t t' : TypeId} {x y : Operand} (ho : o.op = .binOp op t x y t')
    (h : andV (isNum (ρ x) = false ∧ nnB (ρ x) (ρ y) (constB x || constB y) = true) (bindO (binE P op t (ρ x) (ρ y)) fun r => K r H)) : OpSem P o ρ H K pan := by
  obtain ⟨⟨hnum, hnn⟩, r, hr, hK⟩ := h
  refine opsem_same fun cx ρc B w0 h1 h2 h3 => ?_
  have hx := h3 x (by simp [Op.operands, ho])
  have hy := h3 y (by simp [Op.operands, ho])
  unfold binE at hr
  split at hr
  · cases hr
  · rename_i hm
    have hm' : P.eqGuardType P.depth t = false := by simpa using hm
    have nil_of : ∀ (a : AV) (v : Value), Rep cx false a v → ∀ b, eqA P 10000 t a b ≠ none → v = .nilIface → a = .v .nilIface := by
      intro a v hr b hb hv
      subst hv
      generalize hvv : Value.nilIface = v at hr
      cases hr <;> first | (cases hvv; done) | (subst hvv; rfl) | skip
      all_goals (exfalso; apply hb; rw [show (10000 : Nat) = 9999 + 1 from rfl]; unfold eqA; split <;> first | rfl | simp_all)
    have nil_of' : ∀ (a : AV) (v : Value), Rep cx false a v → ∀ b, eqA P 10000 t b a ≠ none → v = .nilIface → a = .v .nilIface := by
      intro a v hr b hb hv
      subst hv
      generalize hvv : Value.nilIface = v at hr
      cases hr <;> first | (cases hvv; done) | (subst hvv; rfl) | skip
      all_goals (exfalso; apply hb; rw [show (10000 : Nat) = 9999 + 1 from rfl]; unfold eqA; split <;> first | rfl | simp_all)
    have guard : ∀ b, eqA P 10000 t (ρ x) (ρ y) = some b → (eqGuard op t x y (ρc x) (ρc y)).run P cx.w = .ok () cx.w := by
      intro b hb
      refine run_eqGuard_no op t x y _ _ _ hm' fun e1 e2 => ?_
      have a1 := nil_of _ _ hx (ρ y) (by rw [hb]; simp) e1
      have a2 := nil_of' _ _ hy (ρ x) (by rw [hb]; simp) e2
      rw [a1, a2] at hnn
      simpa [nnB] using hnn
    split at hr
    · rw [Option.map_eq_some_iff] at hr
      obtain ⟨b, hb, rfl⟩ := hr
      refine ⟨_, .bool b, ?_, .v _, hK⟩
      simp only [execOp, ho, Sem.run_bind, guard b hb, Result.andThen_ok, (run_binE (w := cx.w) hb hx hy hnum).1, Sem.run_pure]
    · rw [Option.map_eq_some_iff] at hr
      obtain ⟨b, hb, rfl⟩ := hr
      refine ⟨_, .bool !b, ?_, .v _, hK⟩
      simp only [execOp, ho, Sem.run_bind, guard b hb, Result.andThen_ok, (run_binE (w := cx.w) hb hx hy hnum).2, Sem.run_pure]
    · cases hr
def unA (op : UnOp) (x : AV) : Option AV :=
  match op, x with
  | .not, .v (.bool b) => some (.v (.bool !b))
  | .neg, .v (.int k n) => some (.v (.int k (k.wrap (0 - n))))
  | .xor, .v (.int k n) => some (.v (.int k (k.wrap ((BitVec.ofInt k.bits (if k.signed then -1 else k.max) ^^^ BitVec.ofInt k.bits n).toNat))))
  | _, _ => none
theorem sound_un {op : UnOp} {t : TypeId} {x : Operand} (ho : o.op = .unOp op t x) (h : bindO (unA op (ρ x)) fun r => K r H) : OpSem P o ρ H K pan := by
  obtain ⟨r, hr, hK⟩ := h
  refine opsem_same fun cx ρc B w0 h1 h2 h3 => ?_
  have hx := h3 x (by simp [Op.operands, ho])
  unfold unA at hr
  split at hr
  all_goals (first | (cases hr; done) | skip)
  all_goals (rename_i e; rw [e] at hx; have ex := hx.v_inv; cases hr; refine ⟨_, _, ?_, .v _, hK⟩; simp [execOp, ho, ex, Op.unary, Op.intArith, Op.intBits]; done)
def kOf (P : Program) (t : TypeId) : Option IntKind := match P.underlying t with | some (.int k) => some k | _ => none
def undB (P : Program) (t : TypeId) : Bool := (P.underlying t).isSome
theorem sound_convI {s t : TypeId} {x : Operand} (ho : o.op = .convert s t x) (h : andV (undB P s = true) (bindO (kOf P t) fun k => bindO (intA (ρ x)) fun n => K (.v (.int k (k.wrap n))) H)) : OpSem P o ρ H K pan := by
  obtain ⟨hs, k, hk, n, hn, hK⟩ := h
  refine opsem_same fun cx ρc B w0 h1 h2 h3 => ?_
  have hx := h3 x (by simp [Op.operands, ho])
  obtain ⟨k', hk'⟩ := intA_spec hn
  rw [hk'] at hx
  have ex := hx.v_inv
  have hu : P.underlying t = some (.int k) := by
    unfold kOf at hk; split at hk
    · rename_i k'' hu; cases hk; exact hu
    · cases hk
  obtain ⟨d, hd⟩ := Option.isSome_iff_exists.1 hs
  refine ⟨_, .int k (k.wrap n), ?_, .v _, hK⟩
  simp only [execOp, ho, ex, convert, Sem.run_bind, run_underlying hd, run_underlying hu, Result.andThen_ok, Conv.intToInt, Sem.run_pure]
theorem sound_nilCheck {x : Operand} (ho : o.op = .nilCheck x) (h : bindO (cellsAt H (ρ x)) fun _ => K (ρ x) H) : OpSem P o ρ H K pan := by
  obtain ⟨cs, hc, hK⟩ := h
  refine opsem_same fun cx ρc B w0 h1 h2 h3 => ?_
  have hx := h3 x (by simp [Op.operands, ho])
  obtain ⟨b, o', vals, hy, _⟩ := cellsAt_rep h1 (h2 ▸ hc) hx
  exact ⟨ρ x, ρc x, by simp [execOp, ho, hy], hx, hK⟩
theorem sound_extract {x : Operand} {i : Nat} (ho : o.op = .extract x i) (h : bindO (match ρ x with | .tup xs => xs[i]? | _ => none) fun r => K r H) : OpSem P o ρ H K pan := by
  obtain ⟨r, hr, hK⟩ := h
  refine opsem_same fun cx ρc B w0 h1 h2 h3 => ?_
  have hx := h3 x (by simp [Op.operands, ho])
  split at hr
  · rename_i xs e
    rw [e] at hx
    obtain ⟨vals, hy, hrr⟩ := hx.tup_inv
    obtain ⟨y, hy', hr'⟩ := hrr.get hr
    exact ⟨r, y, by simp [execOp, ho, hy, Instr.extract, hy'], hr', hK⟩
  · cases hr
theorem sound_makeInterface {t : TypeId} {x : Operand} (ho : o.op = .makeInterface t x) (h : andV ((match P.underlying t with | some (.interface _) => false | some _ => true | none => false) = true) (K (.ifc t (ρ x)) H)) : OpSem P o ρ H K pan := by
  obtain ⟨hu, hK⟩ := h
  refine opsem_same fun cx ρc B w0 h1 h2 h3 => ?_
  have hx := h3 x (by simp [Op.operands, ho])
  refine ⟨_, _, ?_, .ifc t _ _ hx, hK⟩
  cases hd : P.underlying t with
  | none => rw [hd] at hu; cases hu
  | some d => rw [hd] at hu; cases d <;> simp at hu <;> simp [execOp, ho, Instr.makeInterface, run_underlying hd]
end
end Go.Mu
