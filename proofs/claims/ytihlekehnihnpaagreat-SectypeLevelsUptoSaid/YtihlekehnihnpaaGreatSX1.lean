/- Levels of words: what the checking of secrets comes to, of no program. -/
import Derived.Test.YtihlekehnihnpaaGreatFwWtoL6
set_option linter.unusedVariables false
set_option linter.unusedSimpArgs false
set_option maxHeartbeats 4000000
set_option maxRecDepth 100000
namespace Go.Proofs
open Go.Mu
inductive Rs where
  | ok (t : Tab) (g : Int)
  | err (e : Int)
def bindR (r : Option Rs) (k : Tab → Int → Option Rs) : Option Rs :=
  match r with
  | none => none
  | some (.err e) => some (.err e)
  | some (.ok t g) => k t g
def lookB (s : ByteArray) (t : Tab) : Bool := (alook s t).getD false
def joinT : Tab → Tab → Tab
  | (n, x) :: a, (_, y) :: b => (n, x || y) :: joinT a b
  | _, _ => []
mutual
def Ex.lev (t ar : Tab) : Ex → Option Bool
  | .mk op _ name args => match exsLev t ar args with
    | none => none
    | some s => if op = 2 then some (lookB name t) else if op = 3 then (if s = true then none else some (lookB name ar)) else some s
def exsLev (t ar : Tab) : List Ex → Option Bool
  | [] => some false
  | e :: l => match e.lev t ar with
    | none => none
    | some a => match exsLev t ar l with
      | none => none
      | some b => some (a || b)
end
theorem Ex.lev_eq (t ar : Tab) (e : Ex) : e.lev t ar = (match exsLev t ar e.args with
    | none => none
    | some s => if e.op = 2 then some (lookB e.name t) else if e.op = 3 then (if s = true then none else some (lookB e.name ar)) else some s) := by
  cases e; rw [Ex.lev]; rfl
def setsT (l : List (ByteArray × Bool)) (t : Tab) : Tab := l.foldl (fun t x => aset x.1 x.2 t) t
def enterT (F : Fc) : Tab := setsT ((F.params.map fun v => (v.name, v.secret)) ++ ((F.vars.filter fun v => v.kind == 1).map fun v => (v.name, false))) []
def arrT (rs : List Rg) (F : Fc) : Tab := setsT ((rs.map fun r => (r.name, r.secret)) ++ ((F.vars.filter fun v => !(v.kind == 1)).map fun v => (v.name, v.secret))) []
def fnNo (s : ByteArray) : List Fc → Nat
  | [] => 0
  | f :: l => if f.name = s then 0 else fnNo s l + 1
def fcAt (p : Pg) (f : Nat) : Fc := p.funcs[f]?.getD ⟨ByteArray.empty, [], [], [], []⟩
def argsLev (t ar : Tab) : List Ex → List Vr → Option Unit
  | [], _ => some ()
  | e :: l, vs => match e.lev t ar with
    | none => none
    | some b => if (b && !((vs.head?.map (·.secret)).getD false)) = true then none else argsLev t ar l vs.tail
def leastM (round : Tab → Int → Option Rs) : Nat → Tab → Int → Option Rs
  | 0, _, _ => none
  | n + 1, t, g => bindR (round t g) fun t1 g1 => if joinT t t1 = t then some (.ok t g1) else leastM round n (joinT t t1) g1
abbrev SRec := Nat → List Sm → Tab → Int → Option Rs
def callM (p : Pg) (rec : SRec) (f : Nat) (s : Sm) (t : Tab) (g : Int) : Option Rs :=
  match argsLev t (arrT p.regions (fcAt p f)) s.args (fcAt p (fnNo s.name p.funcs)).params with
  | none => some (.err 10)
  | some _ => bindR (rec (fnNo s.name p.funcs) (fcAt p (fnNo s.name p.funcs)).body (enterT (fcAt p (fnNo s.name p.funcs))) g) fun t1 g1 =>
      some (.ok (setsT ((s.names.zip (fcAt p (fnNo s.name p.funcs)).rets).map fun x => (x.1, lookB x.2 t1)) t) g1)
def stM (p : Pg) (rec : SRec) (n f : Nat) (s : Sm) (t : Tab) (g : Int) : Option Rs :=
  let ar := arrT p.regions (fcAt p f)
  if s.kind = 1 then (match s.e.lev t ar with | none => some (.err 10) | some b => some (.ok (aset s.name b t) g))
  else if s.kind = 2 then (match s.a.lev t ar with
    | some false => (match s.e.lev t ar with | none => some (.err 10) | some b => if (b && !(lookB s.name ar)) = true then some (.err 10) else some (.ok t g))
    | _ => some (.err 10))
  else if s.kind = 3 then (match s.e.lev t ar with
    | some false => bindR (rec f s.body t g) fun t1 g1 => bindR (rec f s.els t g1) fun t2 g2 => some (.ok (joinT t2 t1) g2)
    | _ => some (.err 10))
  else if s.kind = 4 then leastM (fun t g => match s.e.lev t ar with | some false => rec f s.body t g | _ => some (.err 10)) n t g
  else if s.kind = 5 then bindR (leastM (fun t g => rec f s.body (aset s.name false t) g) n t g) fun t g => some (.ok (aset s.name false t) g)
  else if s.kind = 6 then callM p rec f s t g
  else some (.ok t g)
def gM (p : Pg) : Nat → SRec
  | 0, _, _, _, _ => none
  | _ + 1, _, [], t, g => some (.ok t g)
  | n + 1, f, s :: l, t, g => if 65536 < g + 1 then some (.err 13) else bindR (stM p (gM p n) n f s t (g + 1)) fun t g => gM p n f l t g
def Above (r r' : SRec) : Prop := ∀ f l t g x, r f l t g = some x → r' f l t g = some x
theorem bindR_some {r : Option Rs} {k : Tab → Int → Option Rs} {x : Rs} (h : bindR r k = some x) : (∃ e, r = some (.err e) ∧ x = .err e) ∨ ∃ t g, r = some (.ok t g) ∧ k t g = some x := by
  unfold bindR at h
  split at h
  · cases h
  · exact .inl ⟨_, rfl, (Option.some.inj h).symm⟩
  · exact .inr ⟨_, _, rfl, h⟩
theorem bindR_up {r r' : Option Rs} {k k' : Tab → Int → Option Rs} {x : Rs} (h : bindR r k = some x) (hr : ∀ y, r = some y → r' = some y) (hk : ∀ t g y, k t g = some y → k' t g = some y) : bindR r' k' = some x := by
  rcases bindR_some h with ⟨e, h1, rfl⟩ | ⟨t, g, h1, h2⟩
  · rw [hr _ h1]; rfl
  · rw [hr _ h1]; exact hk _ _ _ h2
theorem least_up {r r' : Tab → Int → Option Rs} (hr : ∀ t g y, r t g = some y → r' t g = some y) : ∀ n m t g x, n ≤ m → leastM r n t g = some x → leastM r' m t g = some x
  | 0, _, _, _, _, _, h => by cases h
  | n + 1, 0, _, _, _, hm, _ => by omega
  | n + 1, m + 1, t, g, x, hm, h => by
    rw [leastM] at h ⊢
    refine bindR_up h (hr t g) fun t1 g1 y hy => ?_
    split at hy
    · rename_i he; rw [if_pos he]; exact hy
    · rename_i he; rw [if_neg he]; exact least_up hr n m _ _ _ (by omega) hy
theorem st_up {p : Pg} {r r' : SRec} (hr : Above r r') {n m f : Nat} (hm : n ≤ m) {s : Sm} {t : Tab} {g : Int} {x : Rs} (h : stM p r n f s t g = some x) : stM p r' m f s t g = some x := by
  unfold stM at h ⊢
  simp only at h ⊢
  split
  · rename_i h1; rw [if_pos h1] at h; exact h
  rename_i h1; rw [if_neg h1] at h
  split
  · rename_i h2; rw [if_pos h2] at h; exact h
  rename_i h2; rw [if_neg h2] at h
  split
  · rename_i h3
    rw [if_pos h3] at h
    split at h
    · exact bindR_up h (fun y => hr _ _ _ _ y) fun t1 g1 y hy => bindR_up hy (fun z => hr _ _ _ _ z) fun _ _ _ hz => hz
    · exact h
  rename_i h3; rw [if_neg h3] at h
  split
  · rename_i h4
    rw [if_pos h4] at h
    refine least_up (fun t g y hy => ?_) _ _ _ _ _ hm h
    split at hy
    · exact hr _ _ _ _ _ hy
    · exact hy
  rename_i h4; rw [if_neg h4] at h
  split
  · rename_i h5
    rw [if_pos h5] at h
    exact bindR_up h (fun y hy => least_up (fun t g z hz => hr _ _ _ _ _ hz) _ _ _ _ _ hm hy) fun _ _ _ hz => hz
  rename_i h5; rw [if_neg h5] at h
  split
  · rename_i h6
    rw [if_pos h6] at h
    unfold callM at h ⊢
    split at h
    · exact h
    · exact bindR_up h (fun y hy => hr _ _ _ _ y hy) fun _ _ _ hz => hz
  rename_i h6; rw [if_neg h6] at h
  exact h
theorem gM_up {p : Pg} : ∀ n, Above (gM p n) (gM p (n + 1))
  | 0, _, _, _, _, _, h => by cases h
  | n + 1, f, [], t, g, x, h => h
  | n + 1, f, s :: l, t, g, x, h => by
    rw [gM] at h ⊢
    split
    · rename_i hg; rw [if_pos hg] at h; exact h
    · rename_i hg
      rw [if_neg hg] at h
      exact bindR_up h (fun y hy => st_up (gM_up n) (Nat.le_succ n) hy) fun t1 g1 y hy => gM_up n _ _ _ _ _ hy
mutual
def Sm.calls (p : Pg) (f : Nat) : Sm → Bool
  | .mk kind name _ _ _ _ _ _ body els => (!(kind == 6) || decide (fnNo name p.funcs < f)) && smsCalls p f body && smsCalls p f els
def smsCalls (p : Pg) (f : Nat) : List Sm → Bool
  | [] => true
  | s :: l => s.calls p f && smsCalls p f l
end
theorem Sm.calls_eq (p : Pg) (f : Nat) (s : Sm) : s.calls p f = ((!(s.kind == 6) || decide (fnNo s.name p.funcs < f)) && smsCalls p f s.body && smsCalls p f s.els) := by cases s; rw [Sm.calls]; rfl
end Go.Proofs
