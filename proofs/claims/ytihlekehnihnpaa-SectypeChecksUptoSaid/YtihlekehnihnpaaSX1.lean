/- Levels of words: what the checking of secrets comes to, of no program. -/
import Derived.Test.YtihlekehnihnpaaFwWtoL6
set_option linter.unusedVariables false
set_option linter.unusedSimpArgs false
set_option maxHeartbeats 4000000
set_option maxRecDepth 100000
namespace Go.Proofs
open Go.Mu
inductive Rs where
  | ok (t : Tab) (g : Int)
  | err (e : Int)
def bindR (r : Option Rs) (k : Tab → Int → Option Rs) : Option Rs :=
  match r with
  | none => none
  | some (.err e) => some (.err e)
  | some (.ok t g) => k t g
def lookB (s : ByteArray) (t : Tab) : Bool := (alook s t).getD false
def joinT : Tab → Tab → Tab
  | (n, x) :: a, (_, y) :: b => (n, x || y) :: joinT a b
  | _, _ => []
mutual
def Ex.lev (t ar : Tab) : Ex → Option Bool
  | .mk op _ name args => match exsLev t ar args with
    | none => none
    | some s => if op = 2 then some (lookB name t) else if op = 3 then (if s = true then none else some (lookB name ar)) else some s
def exsLev (t ar : Tab) : List Ex → Option Bool
  | [] => some false
  | e :: l => match e.lev t ar with
    | none => none
    | some a => match exsLev t ar l with
      | none => none
      | some b => some (a || b)
end
theorem Ex.lev_eq (t ar : Tab) (e : Ex) : e.lev t ar = (match exsLev t ar e.args with
    | none => none
    | some s => if e.op = 2 then some (lookB e.name t) else if e.op = 3 then (if s = true then none else some (lookB e.name ar)) else some s) := by
  cases e; rw [Ex.lev]; rfl
def setsT (l : List (ByteArray × Bool)) (t : Tab) : Tab := l.foldl (fun t x => aset x.1 x.2 t) t
def enterT (F : Fc) : Tab := setsT ((F.params.map fun v => (v.name, v.secret)) ++ ((F.vars.filter fun v => v.kind == 1).map fun v => (v.name, false))) []
def arrT (rs : List Rg) (F : Fc) : Tab := setsT ((rs.map fun r => (r.name, r.secret)) ++ ((F.vars.filter fun v => !(v.kind == 1)).map fun v => (v.name, v.secret))) []
def fnNo (s : ByteArray) : List Fc → Nat
  | [] => 0
  | f :: l => if f.name = s then 0 else fnNo s l + 1
def fcAt (p : Pg) (f : Nat) : Fc := p.funcs[f]?.getD ⟨ByteArray.empty, [], [], [], []⟩
def argsLev (t ar : Tab) : List Ex → List Vr → Option Unit
  | [], _ => some ()
  | e :: l, vs => match e.lev t ar with
    | none => none
    | some b => if (b && !((vs.head?.map (·.secret)).getD false)) = true then none else argsLev t ar l vs.tail
def leastM (round : Tab → Int → Option Rs) : Nat → Tab → Int → Option Rs
  | 0, _, _ => none
  | n + 1, t, g => bindR (round t g) fun t1 g1 => if joinT t t1 = t then some (.ok t g1) else leastM round n (joinT t t1) g1
abbrev SRec := Nat → List Sm → Tab → Int → Option Rs
def callM (p : Pg) (rec : SRec) (f : Nat) (s : Sm) (t : Tab) (g : Int) : Option Rs :=
  match argsLev t (arrT p.regions (fcAt p f)) s.args (fcAt p (fnNo s.name p.funcs)).params with
  | none => some (.err 10)
  | some _ => bindR (rec (fnNo s.name p.funcs) (fcAt p (fnNo s.name p.funcs)).body (enterT (fcAt p (fnNo s.name p.funcs))) g) fun t1 g1 =>
      some (.ok (setsT ((s.names.zip (fcAt p (fnNo s.name p.funcs)).rets).map fun x => (x.1, lookB x.2 t1)) t) g1)
def stM (p : Pg) (rec : SRec) (n f : Nat) (s : Sm) (t : Tab) (g : Int) : Option Rs :=
  let ar := arrT p.regions (fcAt p f)
  if s.kind = 1 then (match s.e.lev t ar with | none => some (.err 10) | some b => some (.ok (aset s.name b t) g))
  else if s.kind = 2 then (match s.a.lev t ar with
    | some false => (match s.e.lev t ar with | none => some (.err 10) | some b => if (b && !(lookB s.name ar)) = true then some (.err 10) else some (.ok t g))
    | _ => some (.err 10))
  else if s.kind = 3 then (match s.e.lev t ar with
    | some false => bindR (rec f s.body t g) fun t1 g1 => bindR (rec f s.els t g1) fun t2 g2 => some (.ok (joinT t2 t1) g2)
    | _ => some (.err 10))
  else if s.kind = 4 then leastM (fun t g => match s.e.lev t ar with | some false => rec f s.body t g | _ => some (.err 10)) n t g
  else if s.kind = 5 then bindR (leastM (fun t g => rec f s.body (aset s.name false t) g) n t g) fun t g => some (.ok (aset s.name false t) g)
  else if s.kind = 6 then callM p rec f s t g
  else some (.ok t g)
def gM (p : Pg) : Nat → SRec
  | 0, _, _, _, _ => none
  | _ + 1, _, [], t, g => some (.ok t g)
  | n + 1, f, s :: l, t, g => if 65536 < g + 1 then some (.err 13) else bindR (stM p (gM p n) n f s t (g + 1)) fun t g => gM p n f l t g
def Above (r r' : SRec) : Prop := ∀ f l t g x, r f l t g = some x → r' f l t g = some x
theorem bindR_some {r : Option Rs} {k : Tab → Int → Option Rs} {x : Rs} (h : bindR r k = some x) : (∃ e, r = some (.err e) ∧ x = .err e) ∨ ∃ t g, r = some (.ok t g) ∧ k t g = some x := by
  unfold bindR at h
  split at h
  · cases h
  · exact .inl ⟨_, rfl, (Option.some.inj h).symm⟩
  · exact .inr ⟨_, _, rfl, h⟩
theorem bindR_up {r r' : Option Rs} {k k' : Tab → Int → Option Rs} {x : Rs} (h : bindR r k = some x) (hr : ∀ y, r = some y → r' = some y) (hk : ∀ t g y, k t g = some y → k' t g = some y) : bindR r' k' = some x := by
  rcases bindR_some h with ⟨e, h1, rfl⟩ | ⟨t, g, h1, h2⟩
  · rw [hr _ h1]; rfl
  · rw [hr _ h1]; exact hk _ _ _ h2
theorem least_up {r r' : Tab → Int → Option Rs} (hr : ∀ t g y, r t g = some y → r' t g = some y) : ∀ n m t g x, n ≤ m → leastM r n t g = some x → leastM r' m t g = some x
  | 0, _, _, _, _, _, h => by cases h
  | n + 1, 0, _, _, _, hm, _ => by omega
  | n + 1, m + 1, t, g, x, hm, h => by
    rw [leastM] at h ⊢
    refine bindR_up h (hr t g) fun t1 g1 y hy => ?_
    split at hy
    · rename_i he; rw [if_pos he]; exact hy
    · rename_i he; rw [if_neg he]; exact least_up hr n m _ _ _ (by omega) hy
theorem st_up {p : Pg} {r r' : SRec} (hr : Above r r') {n m f : Nat} (hm : n ≤ m) {s : Sm} {t : Tab} {g : Int} {x : Rs} (h : stM p r n f s t g = some x) : stM p r' m f s t g = some x := by
  unfold stM at h ⊢
  simp only at h ⊢
  split
  · rename_i h1; rw [if_pos h1] at h; exact h
  rename_i h1; rw [if_neg h1] at h
  split
  · rename_i h2; rw [if_pos h2] at h; exact h
  rename_i h2; rw [if_neg h2] at h
  split
  · rename_i h3
    rw [if_pos h3] at h
    split at h
    · exact bindR_up h (fun y => hr _ _ _ _ y) fun t1 g1 y hy => bindR_up hy (fun z => hr _ _ _ _ z) fun _ _ _ hz => hz
    · exact h
  rename_i h3; rw [if_neg h3] at h
  split
  · rename_i h4
    rw [if_pos h4] at h
    refine least_up (fun t g y hy => ?_) _ _ _ _ _ hm h
    split at hy
    · exact hr _ _ _ _ _ hy
    · exact hy
  rename_i h4; rw [if_neg h4] at h
  split
  · rename_i h5
    rw [if_pos h5] at h
    exact bindR_up h (fun y hy => least_up (fun t g z hz => hr _ _ _ _ _ hz) _ _ _ _ _ hm hy) fun _ _ _ hz => hz
  rename_i h5; rw [if_neg h5] at h
  split
  · rename_i h6
    rw [if_pos h6] at h
    unfold callM at h ⊢
    split at h
    · exact h
    · exact bindR_up h (fun y hy => hr _ _ _ _ y hy) fun _ _ _ hz => hz
  rename_i h6; rw [if_neg h6] at h
  exact h
theorem gM_up {p : Pg} : ∀ n, Above (gM p n) (gM p (n + 1))
  | 0, _, _, _, _, _, h => by cases h
  | n + 1, f, [], t, g, x, h => h
  | n + 1, f, s :: l, t, g, x, h => by
    rw [gM] at h ⊢
    split
    · rename_i hg; rw [if_pos hg] at h; exact h
    · rename_i hg
      rw [if_neg hg] at h
      exact bindR_up h (fun y hy => st_up (gM_up n) (Nat.le_succ n) hy) fun t1 g1 y hy => gM_up n _ _ _ _ _ hy
theorem gM_le {p : Pg} {n m : Nat} (h : n ≤ m) : Above (gM p n) (gM p m) := by
  induction h with
  | refl => exact fun _ _ _ _ _ h => h
  | step _ ih => exact fun f l t g x hx => gM_up _ _ _ _ _ _ (ih f l t g x hx)
def Mono (F : Nat → Option Rs) : Prop := ∀ n m x, n ≤ m → F n = some x → F m = some x
def Tot (F : Nat → Option Rs) : Prop := ∃ n x, F n = some x
theorem bind_tot {A : Nat → Option Rs} {K : Nat → Tab → Int → Option Rs} (ha : Mono A) (hk : ∀ t g, Mono fun n => K n t g) (h1 : Tot A) (h2 : ∀ t g, Tot fun n => K n t g) : Tot fun n => bindR (A n) (K n) := by
  obtain ⟨n, x, h⟩ := h1
  cases x with
  | err e => exact ⟨n, .err e, by simp only [h, bindR]⟩
  | ok t g =>
    obtain ⟨m, y, hy⟩ := h2 t g
    refine ⟨max n m, y, ?_⟩
    simp only [ha n (max n m) _ (Nat.le_max_left ..) h, bindR]
    exact hk t g m (max n m) y (Nat.le_max_right ..) hy
theorem const_tot (x : Rs) : Tot fun _ => some x := ⟨0, x, rfl⟩
def falses (t : Tab) : Nat := (t.filter fun x => !x.2).length
theorem joinT_le : ∀ (a b : Tab), falses (joinT a b) ≤ falses a ∧ (joinT a b).length ≤ a.length
  | [], b => by simp [joinT, falses]
  | (n, x) :: a, [] => by simp [joinT, falses]
  | (n, x) :: a, (m, y) :: b => by
    have := joinT_le a b
    unfold falses at this ⊢
    rw [joinT]
    cases x <;> cases y <;> simp <;> omega
theorem joinT_less : ∀ (a b : Tab), joinT a b ≠ a → falses (joinT a b) + (joinT a b).length < falses a + a.length
  | [], _, h => absurd rfl h
  | (n, x) :: a, [], _ => by simp only [joinT, List.length_nil, List.length_cons]; simp [falses]; omega
  | (n, x) :: a, (m, y) :: b, h => by
    rw [joinT] at h ⊢
    have hle := joinT_le a b
    by_cases ha : joinT a b = a
    · rw [ha] at h ⊢
      cases x <;> cases y <;> simp [falses] at h ⊢
    · have := joinT_less a b ha
      unfold falses at this hle ⊢
      cases x <;> cases y <;> simp <;> omega
theorem least_tot {R : Nat → Tab → Int → Option Rs} (hm : ∀ t g, Mono fun n => R n t g) (ht : ∀ t g, Tot fun n => R n t g) : ∀ d t g, falses t + t.length ≤ d → Tot fun n => leastM (R n) n t g := by
  intro d
  induction d with
  | zero =>
    intro t g hd
    have : t = [] := List.eq_nil_of_length_eq_zero (by omega)
    subst this
    obtain ⟨n, x, h⟩ := ht [] g
    refine ⟨n + 1, ?_⟩
    have h' := hm [] g n (n + 1) x (Nat.le_succ n) h
    cases x with
    | err e => exact ⟨.err e, by simp only [leastM, h', bindR]⟩
    | ok t1 g1 => exact ⟨.ok [] g1, by simp only [leastM, h', bindR, joinT, if_true]⟩
  | succ d ih =>
    intro t g hd
    obtain ⟨n, x, h⟩ := ht t g
    cases x with
    | err e => exact ⟨n + 1, .err e, by simp only [leastM, hm t g n (n + 1) _ (Nat.le_succ n) h, bindR]⟩
    | ok t1 g1 =>
      by_cases hj : joinT t t1 = t
      · exact ⟨n + 1, .ok t g1, by simp only [leastM, hm t g n (n + 1) _ (Nat.le_succ n) h, bindR, if_pos hj]⟩
      · have := joinT_less t t1 hj
        obtain ⟨m, y, hy⟩ := ih (joinT t t1) g1 (by omega)
        refine ⟨max n m + 1, y, ?_⟩
        simp only [leastM, hm t g n (max n m + 1) _ (by omega) h, bindR, if_neg hj]
        exact least_up (fun t g z hz => hm t g m (max n m + 1) z (by omega) hz) m (max n m) _ _ _ (Nat.le_max_right ..) hy
mutual
def Sm.calls (p : Pg) (f : Nat) : Sm → Bool
  | .mk kind name _ _ _ _ _ _ body els => (!(kind == 6) || decide (fnNo name p.funcs < f)) && smsCalls p f body && smsCalls p f els
def smsCalls (p : Pg) (f : Nat) : List Sm → Bool
  | [] => true
  | s :: l => s.calls p f && smsCalls p f l
end
theorem Sm.calls_eq (p : Pg) (f : Nat) (s : Sm) : s.calls p f = ((!(s.kind == 6) || decide (fnNo s.name p.funcs < f)) && smsCalls p f s.body && smsCalls p f s.els) := by cases s; rw [Sm.calls]; rfl
theorem gM_tot {p : Pg} (hp : ∀ k, smsCalls p k (fcAt p k).body = true) : ∀ f m l, smsCount l ≤ m → smsCalls p f l = true → ∀ t g, Tot fun n => gM p n f l t g := by
  intro f
  induction f using Nat.strongRecOn with
  | ind f ihf =>
    intro m
    induction m with
    | zero =>
      intro l hl _ t g
      have := sms_len l
      obtain rfl : l = [] := List.eq_nil_of_length_eq_zero (by omega)
      exact ⟨1, _, rfl⟩
    | succ m ihm =>
      intro l
      induction l with
      | nil => intro _ _ t g; exact ⟨1, _, rfl⟩
      | cons s l ihl =>
        intro hl hc t g
        simp only [smsCount] at hl
        have hcs := Sm.count_eq s
        rw [smsCalls, Sm.calls_eq, Bool.and_eq_true, Bool.and_eq_true, Bool.and_eq_true] at hc
        obtain ⟨⟨⟨c1, c2⟩, c3⟩, c4⟩ := hc
        have mono : ∀ f l t g, Mono fun n => gM p n f l t g := fun f l t g n m x hnm h => gM_le hnm _ _ _ _ _ h
        have b1 := fun t g => ihm s.body (by omega) c2 t g
        have b2 := fun t g => ihm s.els (by omega) c3 t g
        have hst : ∀ t g, Tot fun n => stM p (gM p n) n f s t g := by
          intro t g
          unfold stM
          simp only
          split
          · split <;> exact const_tot _
          split
          · split
            · split
              · exact const_tot _
              · split <;> exact const_tot _
            · exact const_tot _
          split
          · split
            · exact bind_tot (mono _ _ _ _) (fun t g n m x hnm h => bindR_up h (fun z hz => gM_le hnm _ _ _ _ _ hz) fun _ _ _ hz => hz) (b1 _ _)
                fun t g => bind_tot (mono _ _ _ _) (fun _ _ _ _ _ _ h => h) (b2 _ _) fun _ _ => const_tot _
            · exact const_tot _
          split
          · refine least_tot (fun t g => ?_) (fun t g => ?_) _ _ _ (Nat.le_refl _)
            · intro n m x hnm h
              split at h
              · exact gM_le hnm _ _ _ _ _ h
              · exact h
            · split
              · exact b1 _ _
              · exact const_tot _
          split
          · exact bind_tot (fun n m x hnm h => least_up (fun t g z hz => gM_le hnm _ _ _ _ _ hz) _ _ _ _ _ hnm h) (fun _ _ _ _ _ _ h => h)
              (least_tot (fun t g => mono _ _ _ _) (fun t g => b1 _ _) _ _ _ (Nat.le_refl _)) fun _ _ => const_tot _
          split
          · rename_i h6
            unfold callM
            split
            · exact const_tot _
            · have hlt : fnNo s.name p.funcs < f := by simpa [h6] using c1
              exact bind_tot (mono _ _ _ _) (fun _ _ _ _ _ _ h => h) (ihf _ hlt _ _ (Nat.le_refl _) (hp _) _ _) fun _ _ => const_tot _
          · exact const_tot _
        obtain ⟨n, x, hx⟩ : Tot fun n => (if 65536 < g + 1 then some (.err 13) else bindR (stM p (gM p n) n f s t (g + 1)) fun t g => gM p n f l t g) := by
          by_cases hg : 65536 < g + 1
          · simp only [if_pos hg]; exact const_tot _
          · simp only [if_neg hg]
            exact bind_tot (fun n m x hnm h => st_up (gM_le hnm) hnm h) (fun t g => mono _ _ _ _) (hst _ _) fun t g => ihl (by omega) c4 t g
        exact ⟨n + 1, x, hx⟩
end Go.Proofs
