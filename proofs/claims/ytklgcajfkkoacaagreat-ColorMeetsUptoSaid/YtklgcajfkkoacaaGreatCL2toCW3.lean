/- Linear code that may be (no program in sight). -/
import Derived.Test.YtklgcajfkkoacaaGreatG1toL8
set_option linter.unusedVariables false
set_option linter.unusedSimpArgs false
set_option maxHeartbeats 4000000
set_option maxRecDepth 100000
namespace Go.Proofs
open Go.Mu
def isVr (n vars : Int) : Bool := decide (0 ≤ n) && decide (n < vars)
theorem isVr_iff {n vars : Int} : isVr n vars = true ↔ 0 ≤ n ∧ n < vars := by simp [isVr]
def arityI (op : Int) : Int := if op = 4 ∨ op = 5 then 1 else if 6 ≤ op ∧ op ≤ 20 then 2 else if op = 21 then 3 else 0
def insOk (vars : Int) (x : Ins) : Bool :=
  (x.kind == 1 && isVr x.d vars && x.op == 0 && x.a == 0 && x.b == 0 && x.c == 0 && !x.stack) ||
  (x.kind == 2 && isVr x.d vars && isVr x.a vars && x.op == 0 && x.b == 0 && x.c == 0 && x.word == 0 && !x.stack) ||
  (x.kind == 3 && isVr x.d vars && isVr x.a vars && x.word == 0 && !x.stack &&
    ((arityI x.op == 1 && x.b == 0 && x.c == 0) || (arityI x.op == 2 && isVr x.b vars && x.c == 0) || (arityI x.op == 3 && isVr x.b vars && isVr x.c vars))) ||
  (x.kind == 4 && isVr x.d vars && (x.a == -1 || isVr x.a vars) && x.op == 0 && x.b == 0 && x.c == 0) ||
  (x.kind == 5 && x.d == 0 && (x.a == -1 || isVr x.a vars) && isVr x.b vars && x.op == 0 && x.c == 0)
def zeroIns : Ins := ⟨0, 0, 0, 0, 0, 0, 0, false⟩
def paramsOk (vars : Int) (seen : List Int) : List Int → Bool
  | [] => true
  | x :: l => isVr x vars && !decide (x ∈ seen) && paramsOk vars (seen ++ [x]) l
theorem paramsOk_drop {vars : Int} {l : List Int} {i : Nat} (h : i < l.length) : paramsOk vars (l.take i) (l.drop i) = (isVr l[i] vars && !decide (l[i] ∈ l.take i) && paramsOk vars (l.take (i + 1)) (l.drop (i + 1))) := by
  rw [drop_cons h, paramsOk, List.take_succ_eq_append_getElem h]
theorem paramsOk_iff {vars : Int} : ∀ {l seen : List Int}, paramsOk vars seen l = true ↔ (∀ x ∈ l, isVr x vars = true) ∧ l.Nodup ∧ ∀ x ∈ l, x ∉ seen
  | [], seen => by simp [paramsOk]
  | x :: l, seen => by
    rw [paramsOk, Bool.and_eq_true, Bool.and_eq_true, paramsOk_iff, List.nodup_cons]
    simp only [Bool.not_eq_true', decide_eq_false_iff_not, List.mem_cons, List.mem_append, List.not_mem_nil, or_false]
    constructor
    · rintro ⟨⟨h1, h2⟩, h3, h4, h5⟩
      refine ⟨?_, ⟨fun hx => h5 x hx (.inr rfl), h4⟩, ?_⟩
      · rintro y (rfl | hy)
        · exact h1
        · exact h3 y hy
      · rintro y (rfl | hy)
        · exact h2
        · exact fun hs => h5 y hy (.inl hs)
    · rintro ⟨h1, ⟨h2, h3⟩, h4⟩
      refine ⟨⟨h1 x (.inl rfl), h4 x (.inl rfl)⟩, fun y hy => h1 y (.inr hy), h3, fun y hy => ?_⟩
      rintro (hs | rfl)
      · exact h4 y (.inr hy) hs
      · exact h2 hy
def headOk (vars : Int) (params rets : List Int) (frame : Int) : Bool :=
  decide (0 ≤ vars) && decide (vars ≤ 16384) && decide (0 ≤ frame) && decide (frame ≤ 8192) && decide (frame % 16 = 0) && decide (rets.length ≤ 16384) && paramsOk vars [] params && rets.all (isVr · vars)
def lineOk (vars : Int) (x : Line) : Bool :=
  if x.kind = 1 then insOk vars x.ins && (x.var == 0 && x.label == 0)
  else if x.kind = 2 ∨ x.kind = 3 then decide (x.ins = zeroIns) && x.var == 0 && decide (0 ≤ x.label)
  else if x.kind = 4 then decide (x.ins = zeroIns) && isVr x.var vars && decide (0 ≤ x.label)
  else if x.kind = 5 then decide (x.ins = zeroIns) && x.var == 0 && x.label == 0
  else false
def lineSeen (vars : Int) (x : Line) (seen : List Int) : Option (List Int) :=
  if lineOk vars x = true then (if x.kind = 2 then (if x.label ∈ seen then none else some (seen ++ [x.label])) else some seen) else none
def linesSeen (vars : Int) : List Line → List Int → Option (List Int)
  | [], s => some s
  | x :: l, s => (lineSeen vars x s).bind (linesSeen vars l)
def jumps (s : List Int) (x : Line) : Bool := (x.kind == 3 || x.kind == 4) && !decide (x.label ∈ s)
def Linear.ok (l : Linear) : Bool :=
  decide (l.code.length ≤ 65536) && headOk l.vars l.params l.rets l.frame && (match linesSeen l.vars l.code [] with | none => false | some s => !l.code.any (jumps s))
def labs (c : List Line) : List Int := (c.filter fun x => x.kind == 2).map Line.label
theorem labs_cons (x : Line) (c : List Line) : labs (x :: c) = if x.kind = 2 then x.label :: labs c else labs c := by
  unfold labs
  rw [List.filter_cons]
  by_cases h : x.kind = 2
  · simp [h]
  · have : (x.kind == 2) = false := by simpa using h
    simp [h, this]
theorem linesSeen_iff {vars : Int} : ∀ {c : List Line} {s s' : List Int}, linesSeen vars c s = some s' ↔ (∀ x ∈ c, lineOk vars x = true) ∧ s' = s ++ labs c ∧ (labs c).Nodup ∧ ∀ a ∈ labs c, a ∉ s
  | [], s, s' => by
    simp [linesSeen, labs]
    exact ⟨fun h => h.symm, fun h => h.symm⟩
  | x :: c, s, s' => by
    rw [linesSeen, lineSeen, labs_cons]
    by_cases h : lineOk vars x = true
    · rw [if_pos h]
      by_cases h2 : x.kind = 2
      · rw [if_pos h2, if_pos h2]
        by_cases hm : x.label ∈ s
        · rw [if_pos hm]
          simp only [Option.bind_none, reduceCtorEq, false_iff]
          rintro ⟨_, _, _, h4⟩
          exact h4 _ (List.mem_cons_self ..) hm
        · rw [if_neg hm, Option.bind_some, linesSeen_iff, List.nodup_cons]
          constructor
          · rintro ⟨a1, a2, a3, a4⟩
            refine ⟨fun y hy => ?_, by rw [a2]; simp, ⟨fun hx => a4 _ hx (by simp), a3⟩, fun a ha => ?_⟩
            · rcases List.mem_cons.1 hy with rfl | hy
              · exact h
              · exact a1 y hy
            · rcases List.mem_cons.1 ha with rfl | ha
              · exact hm
              · exact fun hs => a4 a ha (List.mem_append_left _ hs)
          · rintro ⟨a1, a2, ⟨a3, a4⟩, a5⟩
            refine ⟨fun y hy => a1 y (List.mem_cons_of_mem _ hy), by rw [a2]; simp, a4, fun a ha hs => ?_⟩
            rcases List.mem_append.1 hs with hs | hs
            · exact a5 a (List.mem_cons_of_mem _ ha) hs
            · rw [List.mem_singleton] at hs
              subst hs
              exact a3 ha
      · rw [if_neg h2, if_neg h2, Option.bind_some, linesSeen_iff]
        constructor
        · rintro ⟨a1, a2⟩
          exact ⟨fun y hy => (List.mem_cons.1 hy).elim (fun e => e ▸ h) (a1 y), a2⟩
        · rintro ⟨a1, a2⟩
          exact ⟨fun y hy => a1 y (List.mem_cons_of_mem _ hy), a2⟩
    · rw [if_neg h]
      simp only [Option.bind_none, reduceCtorEq, false_iff]
      exact fun q => h (q.1 x (List.mem_cons_self ..))
theorem whr_cons (x : Line) (c : List Line) (a : Int) : whr (x :: c) a = if isLab a x = true then 0 else whr c a + 1 := by
  unfold whr
  rw [List.findIdx_cons]
  cases isLab a x <;> rfl
theorem isLab_iff {a : Int} {x : Line} : isLab a x = true ↔ x.kind = 2 ∧ x.label = a := by simp [isLab]
theorem whr_in {a : Int} : ∀ {c : List Line}, whr c a < c.length ↔ a ∈ labs c
  | [] => by simp [whr, labs]
  | x :: c => by
    rw [whr_cons, labs_cons]
    by_cases h : isLab a x = true
    · rw [if_pos h]
      obtain ⟨h1, h2⟩ := isLab_iff.1 h
      simp [h1, h2]
    · rw [if_neg h, List.length_cons, Nat.add_lt_add_iff_right, whr_in]
      split
      · rename_i h2
        rw [List.mem_cons]
        constructor
        · exact .inr
        · rintro (rfl | h3)
          · exact absurd (isLab_iff.2 ⟨h2, rfl⟩) h
          · exact h3
      · rfl
theorem whr_nodup : ∀ {c : List Line}, (labs c).Nodup ↔ ∀ i x, c[i]? = some x → x.kind = 2 → whr c x.label = i
  | [] => by simp [labs]
  | x :: c => by
    rw [labs_cons]
    constructor
    · intro h i y hy hk
      rw [whr_cons]
      cases i with
      | zero =>
        simp only [List.getElem?_cons_zero, Option.some.injEq] at hy
        subst hy
        rw [if_pos (isLab_iff.2 ⟨hk, rfl⟩)]
      | succ i =>
        rw [List.getElem?_cons_succ] at hy
        have hmem : y.label ∈ labs c := by
          unfold labs
          exact List.mem_map.2 ⟨y, List.mem_filter.2 ⟨List.mem_of_getElem? hy, by simp [hk]⟩, rfl⟩
        split at h
        · rename_i h2
          obtain ⟨h3, h4⟩ := List.nodup_cons.1 h
          rw [if_neg, (whr_nodup.1 h4) i y hy hk]
          intro hl
          rw [(isLab_iff.1 hl).2] at h3
          exact h3 hmem
        · rename_i h2
          rw [if_neg (fun hl => h2 (isLab_iff.1 hl).1), (whr_nodup.1 h) i y hy hk]
    · intro h
      have h2 : (labs c).Nodup := whr_nodup.2 fun i y hy hk => by
        have := h (i + 1) y (by rw [List.getElem?_cons_succ]; exact hy) hk
        rw [whr_cons] at this
        split at this
        · cases this
        · omega
      split
      · rename_i hk
        refine List.nodup_cons.2 ⟨fun hm => ?_, h2⟩
        unfold labs at hm
        obtain ⟨y, hy, he⟩ := List.mem_map.1 hm
        obtain ⟨hy, hk2⟩ := List.mem_filter.1 hy
        obtain ⟨i, hi⟩ := List.mem_iff_getElem?.1 hy
        have := h (i + 1) y (by rw [List.getElem?_cons_succ]; exact hi) (by simpa using hk2)
        rw [whr_cons, if_pos (isLab_iff.2 ⟨hk, he.symm⟩)] at this
        cases this
      · exact h2
structure LinOk (l : Linear) : Prop where
  len : l.code.length ≤ 65536
  vars : 0 ≤ l.vars ∧ l.vars ≤ 16384
  params : ∀ v ∈ l.params, 0 ≤ v ∧ v < l.vars
  once : l.params.Nodup
  rets : ∀ v ∈ l.rets, 0 ≤ v ∧ v < l.vars
  retl : l.rets.length ≤ 16384
  lines : ∀ x ∈ l.code, lineOk l.vars x = true
  uniq : ∀ i x, l.code[i]? = some x → x.kind = 2 → whr l.code x.label = i
  jump : ∀ x ∈ l.code, x.kind = 3 ∨ x.kind = 4 → whr l.code x.label < l.code.length
theorem ok_iff (l : Linear) : l.ok = true ↔ LinOk l ∧ 0 ≤ l.frame ∧ l.frame ≤ 8192 ∧ l.frame % 16 = 0 := by
  unfold Linear.ok headOk
  constructor
  · intro h
    simp only [Bool.and_eq_true, decide_eq_true_eq, List.all_eq_true] at h
    obtain ⟨⟨h1, ⟨⟨⟨⟨⟨⟨h2, h3⟩, h4⟩, h5⟩, h6⟩, h7⟩, h8⟩, h9⟩, h10⟩ := h
    obtain ⟨q1, q2, _⟩ := paramsOk_iff.1 h8
    split at h10
    · cases h10
    · rename_i s hs
      obtain ⟨a1, a2, a3, _⟩ := linesSeen_iff.1 hs
      rw [List.nil_append] at a2
      subst a2
      rw [Bool.not_eq_true', List.any_eq_false] at h10
      refine ⟨⟨h1, ⟨h2, h3⟩, fun v hv => isVr_iff.1 (q1 v hv), q2, fun v hv => isVr_iff.1 (h9 v hv), h7, a1, whr_nodup.1 a3, fun x hx hk => ?_⟩, h4, h5, h6⟩
      have := h10 x hx
      unfold jumps at this
      rw [whr_in]
      rcases hk with hk | hk <;> simpa [hk] using this
  · rintro ⟨h, h4, h5, h6⟩
    simp only [Bool.and_eq_true, decide_eq_true_eq, List.all_eq_true]
    refine ⟨⟨h.len, ⟨⟨⟨⟨⟨⟨h.vars.1, h.vars.2⟩, h4⟩, h5⟩, h6⟩, h.retl⟩, paramsOk_iff.2 ⟨fun v hv => isVr_iff.2 (h.params v hv), h.once, by simp⟩⟩, fun v hv => isVr_iff.2 (h.rets v hv)⟩, ?_⟩
    have hs : linesSeen l.vars l.code [] = some (labs l.code) := linesSeen_iff.2 ⟨h.lines, by simp, whr_nodup.2 h.uniq, by simp⟩
    rw [hs]
    simp only [Bool.not_eq_true', List.any_eq_false]
    intro x hx
    unfold jumps
    by_cases hk : x.kind = 3 ∨ x.kind = 4
    · have := whr_in.1 (h.jump x hx hk)
      simp [this]
    · have : (x.kind == 3 || x.kind == 4) = false := by simpa [not_or] using hk
      simp [this]
theorem line_in {vars : Int} {x : Line} (h : lineOk vars x = true) : (1 ≤ x.kind ∧ x.kind ≤ 5) ∧ (∀ v ∈ x.raw, 0 ≤ v ∧ v < vars) ∧ (∀ v ∈ x.defs, 0 ≤ v ∧ v < vars) := by
  unfold lineOk at h
  split at h
  · rename_i h1
    rw [Bool.and_eq_true] at h
    have hi := h.1
    unfold insOk at hi
    simp only [Bool.or_eq_true, Bool.and_eq_true, beq_iff_eq, Bool.not_eq_true', isVr_iff] at hi
    refine ⟨by omega, ?_, ?_⟩
    · unfold Line.raw
      rw [if_neg (by omega), if_pos h1]
      intro v hv
      rcases hi with (((hi | hi) | hi) | hi) | hi
      · have k : x.ins.kind = 1 := by simp_all
        simp [k] at hv
      · have k : x.ins.kind = 2 := by simp_all
        simp [k] at hv
        subst hv
        exact hi.1.1.1.1.1.2
      · have k : x.ins.kind = 3 := by simp_all
        obtain ⟨⟨⟨⟨⟨_, hd⟩, ha⟩, _⟩, _⟩, hh⟩ := hi
        rw [if_neg (by omega), if_pos k] at hv
        simp only [List.mem_append, List.mem_singleton] at hv
        rcases hv with (rfl | hv) | hv
        · exact ha
        · split at hv
          · simp at hv
          · rename_i ho
            rw [List.mem_singleton] at hv
            subst hv
            rcases hh with (hh | hh) | hh
            · have := hh.1.1
              unfold arityI at this
              rw [if_neg ho] at this
              split at this
              · cases this
              · split at this <;> cases this
            · exact hh.1.2
            · exact hh.1.2
        · split at hv
          · rename_i ho
            rw [List.mem_singleton] at hv
            subst hv
            rw [ho] at hh
            rcases hh with (hh | hh) | hh
            · exact absurd hh.1.1 (by decide)
            · exact absurd hh.1.1 (by decide)
            · exact hh.2
          · simp at hv
      · have k : x.ins.kind = 4 := by simp_all
        obtain ⟨⟨⟨⟨⟨_, hd⟩, ha⟩, _⟩, _⟩, _⟩ := hi
        rw [if_neg (by omega), if_neg (by omega), if_neg (by omega), if_pos k] at hv
        split at hv
        · rw [List.mem_singleton] at hv
          subst hv
          rcases ha with ha | ha
          · omega
          · exact ha
        · simp at hv
      · have k : x.ins.kind = 5 := by simp_all
        obtain ⟨⟨⟨⟨⟨_, hd⟩, ha⟩, hb⟩, _⟩, _⟩ := hi
        rw [if_neg (by omega), if_neg (by omega), if_pos k] at hv
        rw [List.mem_append, List.mem_singleton] at hv
        rcases hv with rfl | hv
        · exact hb
        · split at hv
          · rw [List.mem_singleton] at hv
            subst hv
            rcases ha with ha | ha
            · omega
            · exact ha
          · simp at hv
    · unfold Line.defs
      intro v hv
      split at hv
      · rename_i hk
        rw [List.mem_singleton] at hv
        subst hv
        rcases hi with (((hi | hi) | hi) | hi) | hi
        · exact hi.1.1.1.1.1.2
        · exact hi.1.1.1.1.1.1.2
        · exact hi.1.1.1.1.2
        · exact hi.1.1.1.1.2
        · exact absurd hi.1.1.1.1.1 hk.2
      · simp at hv
  · rename_i h1
    have hd : x.defs = [] := by unfold Line.defs; rw [if_neg (fun h => h1 h.1)]
    rw [hd]
    refine ⟨?_, ?_, by simp⟩
    · split at h
      · omega
      · split at h
        · omega
        · split at h
          · omega
          · cases h
    · unfold Line.raw
      intro v hv
      split at hv
      · rename_i h4
        rw [if_neg (by omega), if_pos h4] at h
        simp only [Bool.and_eq_true, isVr_iff] at h
        rw [List.mem_singleton] at hv
        subst hv
        exact h.1.2
      · first | (rw [if_neg h1] at hv; simp at hv) | simp at hv
theorem nxt_in {l : Linear} (h : LinOk l) {i : Nat} {k : Int} (hk : k ∈ nxt l i) : 0 ≤ k ∧ k ≤ l.code.length ∧ i < l.code.length := by
  unfold nxt at hk
  split at hk
  · simp at hk
  · rename_i x hx
    have hi := (List.getElem?_eq_some_iff.1 hx).1
    have hm := List.mem_of_getElem? hx
    split at hk
    · simp at hk; omega
    · split at hk
      · rename_i h3
        have := h.jump x hm (.inl h3)
        simp at hk; omega
      · split at hk
        · rename_i h4
          have := h.jump x hm (.inr h4)
          rw [riseL_mem] at hk
          simp at hk; omega
        · simp at hk; omega
theorem live_in {l : Linear} (h : LinOk l) {i : Nat} {v : Int} (hl : LiveAt l i v) : (0 ≤ v ∧ v < l.vars) ∧ i ≤ l.code.length := by
  induction hl with
  | told hv => exact ⟨h.rets _ hv, Nat.le_refl _⟩
  | read hx hv => exact ⟨(line_in (h.lines _ (List.mem_of_getElem? hx))).2.1 _ hv, by have := (List.getElem?_eq_some_iff.1 hx).1; omega⟩
  | way hx _ hk _ ih => exact ⟨ih.1, by have := (List.getElem?_eq_some_iff.1 hx).1; omega⟩
theorem live_mem {l : Linear} (h : LinOk l) {i : Nat} {v : Int} : v ∈ liveL l i ↔ LiveAt l i v := by
  rw [liveL_mem]
  exact ⟨fun h => h.2, fun q => ⟨(live_in h q).1, q⟩⟩
end Go.Proofs
namespace Go.Proofs
open Go.Mu
theorem live_end {l : Linear} {v : Int} : LiveAt l l.code.length v ↔ v ∈ l.rets := by
  constructor
  · intro h
    cases h with
    | told h => exact h
    | read hx _ => have := (List.getElem?_eq_some_iff.1 hx).1; omega
    | way hx _ _ _ => have := (List.getElem?_eq_some_iff.1 hx).1; omega
  · exact .told
theorem liveL_end {l : Linear} (h : LinOk l) : liveL l l.code.length = riseL l.rets :=
  rise_eq (liveL_rise _ _) fun v => (live_mem h).trans live_end
noncomputable def behL (l : Linear) (i : Nat) : List Int := riseL ((nxt l i).flatMap fun k => liveL l k.toNat)
theorem behL_mem {l : Linear} (h : LinOk l) {i : Nat} {v : Int} : v ∈ behL l i ↔ ∃ k ∈ nxt l i, LiveAt l k.toNat v := by
  unfold behL
  rw [riseL_mem, List.mem_flatMap]
  simp only [live_mem h]
theorem behL_in {l : Linear} (h : LinOk l) {i : Nat} {v : Int} (hv : v ∈ behL l i) : 0 ≤ v ∧ v < l.vars := by
  obtain ⟨k, _, hk⟩ := (behL_mem h).1 hv
  exact (live_in h hk).1
def rg (regs : List Int) (v : Int) : Int := regs.getD v.toNat 0
theorem rg_get {regs : List Int} {v : Int} (h0 : 0 ≤ v) (h : v < regs.length) : regs[v.toNat]? = some (rg regs v) := by
  unfold rg
  rw [List.getD_eq_getElem?_getD, List.getElem?_eq_getElem (by omega)]; rfl
theorem rising_len {a b : Int} : ∀ {l : List Int}, Rising l → (∀ x ∈ l, a ≤ x ∧ x < b) → l.length ≤ (b - a).toNat
  | [], _, _ => by simp
  | x :: l, h, hx => by
    obtain ⟨h1, h2⟩ := List.pairwise_cons.1 h
    have h3 := hx x (List.mem_cons_self ..)
    have := rising_len (a := x + 1) (b := b) h2 fun y hy => ⟨by have := h1 y hy; omega, (hx y (List.mem_cons_of_mem _ hy)).2⟩
    rw [List.length_cons]
    omega
def cntRaw (l : Linear) : List Int := l.params ++ l.rets ++ l.code.flatMap fun x => x.raw ++ x.defs
def cntL (l : Linear) : List Int := riseL (cntRaw l)
theorem cnt_in {l : Linear} (h : LinOk l) {v : Int} (hv : v ∈ cntRaw l) : 0 ≤ v ∧ v < l.vars := by
  unfold cntRaw at hv
  rw [List.mem_append, List.mem_append, List.mem_flatMap] at hv
  rcases hv with (hv | hv) | ⟨x, hx, hv⟩
  · exact h.params v hv
  · exact h.rets v hv
  · obtain ⟨_, l2, l3⟩ := line_in (h.lines x hx)
    rcases List.mem_append.1 hv with hv | hv
    · exact l2 v hv
    · exact l3 v hv
theorem live_cnt {l : Linear} {i : Nat} {v : Int} (h : LiveAt l i v) : v ∈ cntRaw l := by
  unfold cntRaw
  rw [List.mem_append, List.mem_append, List.mem_flatMap]
  induction h with
  | told h => exact .inl (.inr h)
  | read hx hv => exact .inr ⟨_, List.mem_of_getElem? hx, List.mem_append_left _ hv⟩
  | way _ _ _ _ ih => exact ih
end Go.Proofs
namespace Go.Proofs
open Go.Mu
abbrev Pr := Int × Int
def pLt (p q : Pr) : Prop := p.1 < q.1 ∨ p.1 = q.1 ∧ p.2 < q.2
instance decPLt (p q : Pr) : Decidable (pLt p q) := by unfold pLt; infer_instance
theorem pLt_trans {p q r : Pr} (h1 : pLt p q) (h2 : pLt q r) : pLt p r := by unfold pLt at *; omega
theorem pLt_irr {p : Pr} : ¬ pLt p p := by unfold pLt; omega
theorem pLt_tri (p q : Pr) : pLt p q ∨ p = q ∨ pLt q p := by
  obtain ⟨a, b⟩ := p
  obtain ⟨c, d⟩ := q
  simp only [pLt, Prod.mk.injEq]
  omega
abbrev RisingP (l : List Pr) : Prop := l.Pairwise pLt
theorem sortedP_ext : ∀ {a b : List Pr}, RisingP a → RisingP b → (∀ x, x ∈ a ↔ x ∈ b) → a = b
  | [], [], _, _, _ => rfl
  | [], y :: b, _, _, h => absurd ((h y).2 (List.mem_cons_self ..)) (by simp)
  | x :: a, [], _, _, h => absurd ((h x).1 (List.mem_cons_self ..)) (by simp)
  | x :: a, y :: b, ha, hb, h => by
    obtain ⟨a1, a2⟩ := List.pairwise_cons.1 ha
    obtain ⟨b1, b2⟩ := List.pairwise_cons.1 hb
    have e : x = y := by
      rcases List.mem_cons.1 ((h x).1 (List.mem_cons_self ..)) with e | e
      · exact e
      · rcases List.mem_cons.1 ((h y).2 (List.mem_cons_self ..)) with e' | e'
        · exact e'.symm
        · exact absurd (pLt_trans (b1 x e) (a1 y e')) pLt_irr
    subst e
    congr 1
    refine sortedP_ext a2 b2 fun z => ?_
    constructor
    · intro hz
      rcases List.mem_cons.1 ((h z).1 (List.mem_cons_of_mem _ hz)) with e | e
      · subst e; exact absurd (a1 _ hz) pLt_irr
      · exact e
    · intro hz
      rcases List.mem_cons.1 ((h z).2 (List.mem_cons_of_mem _ hz)) with e | e
      · subst e; exact absurd (b1 _ hz) pLt_irr
      · exact e
def putP (n : Pr) : List Pr → List Pr
  | [] => [n]
  | x :: l => if x = n then x :: l else if pLt n x then n :: x :: l else x :: putP n l
theorem putP_mem (n y : Pr) : ∀ l : List Pr, y ∈ putP n l ↔ y = n ∨ y ∈ l
  | [] => by simp [putP]
  | x :: l => by
    rw [putP]
    split
    · rename_i h; subst h; simp
    · split
      · simp
      · rw [List.mem_cons, putP_mem n y l, List.mem_cons]
        constructor
        · rintro (h | h | h) <;> simp [h]
        · rintro (h | h | h) <;> simp [h]
theorem putP_rise (n : Pr) : ∀ l : List Pr, RisingP l → RisingP (putP n l)
  | [], _ => by simp [putP]
  | x :: l, h => by
    obtain ⟨h1, h2⟩ := List.pairwise_cons.1 h
    rw [putP]
    split
    · exact h
    · rename_i hne
      split
      · rename_i hlt
        refine List.pairwise_cons.2 ⟨fun y hy => ?_, h⟩
        rcases List.mem_cons.1 hy with rfl | hy
        · exact hlt
        · exact pLt_trans hlt (h1 y hy)
      · rename_i hnl
        refine List.pairwise_cons.2 ⟨fun y hy => ?_, putP_rise n l h2⟩
        rcases (putP_mem n y l).1 hy with rfl | hy
        · rcases pLt_tri x y with h | h | h
          · exact h
          · exact absurd h hne
          · exact absurd h hnl
        · exact h1 y hy
theorem putP_len (n : Pr) : ∀ l : List Pr, (putP n l).length ≤ l.length + 1
  | [] => by simp [putP]
  | x :: l => by
    have := putP_len n l
    rw [putP]
    split
    · simp
    · split <;> simp <;> omega
def riseP (l : List Pr) : List Pr := l.foldl (fun l n => putP n l) []
theorem riseP_fold (l : List Pr) : ∀ a : List Pr, RisingP a → RisingP (l.foldl (fun l n => putP n l) a) ∧ (∀ y, y ∈ l.foldl (fun l n => putP n l) a ↔ y ∈ a ∨ y ∈ l) ∧ (l.foldl (fun l n => putP n l) a).length ≤ a.length + l.length := by
  induction l with
  | nil => intro a h; exact ⟨h, fun y => by simp, by simp⟩
  | cons x l ih =>
    intro a h
    obtain ⟨h1, h2, h3⟩ := ih (putP x a) (putP_rise x a h)
    refine ⟨h1, fun y => ?_, ?_⟩
    · rw [List.foldl_cons, h2, putP_mem, List.mem_cons]
      constructor
      · rintro ((h | h) | h) <;> simp [h]
      · rintro (h | h | h) <;> simp [h]
    · have := putP_len x a
      rw [List.foldl_cons, List.length_cons]; omega
theorem riseP_rise (l : List Pr) : RisingP (riseP l) := (riseP_fold l [] List.Pairwise.nil).1
theorem riseP_mem (l : List Pr) (y : Pr) : y ∈ riseP l ↔ y ∈ l := by rw [riseP, (riseP_fold l [] List.Pairwise.nil).2.1]; simp
def prs (a b : Int) : List Pr := if a = b then [] else [(min a b, max a b)]
def mvB (x : Line) (b : Int) : Bool := decide (x.ins.kind = 2) && decide (x.ins.a = b)
noncomputable def meetAt (l : Linear) (i : Nat) : List Pr := match l.code[i]? with
  | none => []
  | some x => x.defs.flatMap fun d => (behL l i).flatMap fun b => if mvB x b = true then [] else prs d b
noncomputable def meetRaw (l : Linear) : List Pr := ((List.range l.code.length).flatMap (meetAt l)) ++ l.params.flatMap fun a => (l.params ++ liveL l 0).flatMap fun b => prs a b
noncomputable def meetL (l : Linear) : List Pr := riseP (meetRaw l)
theorem prs_mem {a b : Int} {p : Pr} (h : p ∈ prs a b) : p.1 < p.2 ∧ ((p.1 = a ∧ p.2 = b) ∨ (p.1 = b ∧ p.2 = a)) := by
  unfold prs at h
  split at h
  · simp at h
  · rw [List.mem_singleton] at h
    subst h
    simp only
    omega
theorem beh_cnt {l : Linear} (h : LinOk l) {i : Nat} {v : Int} (hv : v ∈ behL l i) : v ∈ cntRaw l := by
  obtain ⟨k, _, hk⟩ := (behL_mem h).1 hv
  exact live_cnt hk
theorem meet_cnt {l : Linear} (h : LinOk l) {p : Pr} (hp : p ∈ meetL l) : p.1 < p.2 ∧ p.1 ∈ cntRaw l ∧ p.2 ∈ cntRaw l := by
  unfold meetL meetRaw at hp
  rw [riseP_mem, List.mem_append, List.mem_flatMap, List.mem_flatMap] at hp
  have two : ∀ a b, p ∈ prs a b → a ∈ cntRaw l → b ∈ cntRaw l → p.1 < p.2 ∧ p.1 ∈ cntRaw l ∧ p.2 ∈ cntRaw l := fun a b hab ha hb => by
    obtain ⟨h1, h2⟩ := prs_mem hab
    rcases h2 with ⟨e1, e2⟩ | ⟨e1, e2⟩
    · exact ⟨h1, by rw [e1]; exact ha, by rw [e2]; exact hb⟩
    · exact ⟨h1, by rw [e1]; exact hb, by rw [e2]; exact ha⟩
  rcases hp with ⟨i, _, hp⟩ | ⟨a, ha, hp⟩
  · unfold meetAt at hp
    split at hp
    · simp at hp
    · rename_i x hx
      obtain ⟨d, hd, hp⟩ := List.mem_flatMap.1 hp
      obtain ⟨b, hb, hp⟩ := List.mem_flatMap.1 hp
      split at hp
      · simp at hp
      · refine two d b hp ?_ (beh_cnt h hb)
        unfold cntRaw
        exact List.mem_append_right _ (List.mem_flatMap.2 ⟨x, List.mem_of_getElem? hx, List.mem_append_right _ hd⟩)
  · obtain ⟨b, hb, hp⟩ := List.mem_flatMap.1 hp
    have ha' : a ∈ cntRaw l := by unfold cntRaw; exact List.mem_append_left _ (List.mem_append_left _ ha)
    refine two a b hp ha' ?_
    rcases List.mem_append.1 hb with hb | hb
    · unfold cntRaw; exact List.mem_append_left _ (List.mem_append_left _ hb)
    · exact live_cnt ((live_mem h).1 hb)
noncomputable def freeR (l : Linear) (r : List Int) (v : Int) (n : Nat) : Bool := (meetL l).all fun p => !decide (p.2 = v) || !decide (rg r p.1 = n)
noncomputable def propGo (l : Linear) : List Int → List Int → Option (List Int)
  | [], r => some r
  | v :: vs, r => match (List.range 11).find? (freeR l r v) with
    | none => none
    | some n => propGo l vs (r.set v.toNat (n : Int))
noncomputable def propL (l : Linear) : Option (List Int) := propGo l (cntL l) (List.replicate l.vars.toNat (-1))
end Go.Proofs
namespace Go.Proofs
open Go.Mu
theorem propGo_app {l : Linear} : ∀ (a b r : List Int), propGo l (a ++ b) r = (propGo l a r).bind (propGo l b)
  | [], b, r => by simp [propGo]
  | v :: a, b, r => by
    rw [List.cons_append, propGo, propGo]
    split
    · rfl
    · exact propGo_app a b _
def whrI (c : List Line) (a : Int) : Int := if whr c a < c.length then (whr c a : Int) else -1
def refLine (l : Linear) (i : Nat) : Bool := match l.code[i]? with
  | none => true
  | some x => lineOk l.vars x && (!decide (x.kind = 2) || decide (whrI l.code x.label = i)) && (!decide (x.kind = 3 ∨ x.kind = 4) || decide (0 ≤ whrI l.code x.label))
theorem ok_lines (l : Linear) : l.ok = (decide (l.code.length ≤ 65536) && headOk l.vars l.params l.rets l.frame && (List.range l.code.length).all (refLine l)) := by
  have hin : ∀ {i : Nat} {x : Line}, l.code[i]? = some x → i < l.code.length := fun h => (List.getElem?_eq_some_iff.1 h).1
  rw [Bool.eq_iff_iff]
  constructor
  · intro h
    have hh := h
    unfold Linear.ok at hh
    simp only [Bool.and_eq_true] at hh
    obtain ⟨ho, _⟩ := (ok_iff l).1 h
    rw [Bool.and_eq_true, Bool.and_eq_true]
    refine ⟨hh.1, ?_⟩
    rw [List.all_eq_true]
    intro i _
    unfold refLine
    split
    · rfl
    · rename_i x hx
      have hm := List.mem_of_getElem? hx
      simp only [Bool.and_eq_true, Bool.or_eq_true, Bool.not_eq_true', decide_eq_false_iff_not, decide_eq_true_eq]
      refine ⟨⟨ho.lines x hm, ?_⟩, ?_⟩
      · by_cases hk : x.kind = 2
        · right
          have := ho.uniq i x hx hk
          unfold whrI
          rw [this, if_pos (hin hx)]
        · exact .inl hk
      · by_cases hk : x.kind = 3 ∨ x.kind = 4
        · right
          unfold whrI
          rw [if_pos (ho.jump x hm hk)]
          omega
        · exact .inl hk
  · intro h
    simp only [Bool.and_eq_true, decide_eq_true_eq, List.all_eq_true, List.mem_range] at h
    obtain ⟨⟨h1, h2⟩, h3⟩ := h
    have h3 : ∀ (i : Nat) (x : Line), l.code[i]? = some x → lineOk l.vars x = true ∧ (x.kind = 2 → whrI l.code x.label = i) ∧ (x.kind = 3 ∨ x.kind = 4 → 0 ≤ whrI l.code x.label) := fun i x hx => by
      have := h3 i (hin hx)
      unfold refLine at this
      rw [hx] at this
      simp only [Bool.and_eq_true, Bool.or_eq_true, Bool.not_eq_true', decide_eq_false_iff_not, decide_eq_true_eq] at this
      exact ⟨this.1.1, fun hk => this.1.2.elim (fun q => absurd hk q) id, fun hk => this.2.elim (fun q => absurd hk q) id⟩
    have h2' := h2
    unfold headOk at h2
    simp only [Bool.and_eq_true, decide_eq_true_eq, List.all_eq_true] at h2
    obtain ⟨⟨⟨⟨⟨⟨⟨a1, a2⟩, a3⟩, a4⟩, a5⟩, a6⟩, a7⟩, a8⟩ := h2
    obtain ⟨q1, q2, _⟩ := paramsOk_iff.1 a7
    refine (ok_iff l).2 ⟨⟨h1, ⟨a1, a2⟩, fun v hv => isVr_iff.1 (q1 v hv), q2, fun v hv => isVr_iff.1 (a8 v hv), a6, fun x hx => ?_, fun i x hx hk => ?_, fun x hx hk => ?_⟩, a3, a4, a5⟩
    · obtain ⟨i, hi⟩ := List.mem_iff_getElem?.1 hx
      exact (h3 i x hi).1
    · have := (h3 i x hx).2.1 hk
      unfold whrI at this
      split at this <;> omega
    · obtain ⟨i, hi⟩ := List.mem_iff_getElem?.1 hx
      have := (h3 i x hi).2.2 hk
      unfold whrI at this
      split at this
      · assumption
      · omega
end Go.Proofs
namespace Go.Proofs
open Go.Mu
theorem int_indexF (l : List Int) (p : Int → Bool) (g : FuncId) (cap : List AV) (hok : okFn Tryz.prog g = true) (hl : l.length ≤ 2^40) (H : List Blk) (hg : ∀ x ∈ l, ACalls Tryz.prog g (I x :: cap) H (fun e H' => e = .ret (Bo (p x)) ∧ H' = H)) :
    ACalls Tryz.prog 115 [.vs 1 (l.map fun x => [I x]), .fn (.func g) [] cap] H (fun e H' => e = .ret (I (idxP p l 0)) ∧ H' = H) := by
  refine acalls_tidy (acalls_of_vc (hn := fun _ => false) (od := fun _ => none) Tryz.func115 rfl (by kernel_rfl) ?_)
  simp -dsimp
  refine loop_rule (hn := fun _ => false) (od := fun _ => none) (fun (i : Nat) f H' => H' = H ∧ f 0 = .vs 1 (l.map fun x => [I x]) ∧ f 1 = .fn (.func g) [] cap ∧ f 7 = I l.length ∧ f 8 = I i ∧ i ≤ l.length ∧ idxP p (l.drop i) i = idxP p l 0) (fun i => l.length - i) (by kernel_rfl) 0 (by simp) ?_
  rintro i f H' ⟨rfl, h0, h1, h7, h8, hi, hinv⟩
  simp -dsimp [h0, h1, h7, h8]
  refine condVW_introD (fun hlt => ?_) (fun hlt => ?_)
  · rw [drop_cons hlt, idxP] at hinv
    have hx := hg l[i] (List.getElem_mem hlt)
    try simp only [Vr.cells, Fc.cells] at hx
    simp -dsimp [h0, h1, h7, h8, List.getElem?_eq_getElem, hlt, hok]
    refine acallsW_det hx ?_
    simp -dsimp
    refine condVW_intro (fun hp => ?_) (fun hp => ?_)
    · simp -dsimp
      rw [if_pos hp] at hinv
      exact tidy_now rfl ⟨by rw [hinv], rfl⟩
    · simp -dsimp [h0, h1, h7, h8]
      rw [if_neg (by simp [hp])] at hinv
      exact ⟨i + 1, by omega, wrapS (by omega), by omega, by simpa using hinv⟩
  · simp -dsimp
    rw [drop_end hlt, idxP] at hinv
    exact tidy_now rfl ⟨by rw [hinv], rfl⟩
theorem int_containsF (l : List Int) (p : Int → Bool) (g : FuncId) (cap : List AV) (hok : okFn Tryz.prog g = true) (hl : l.length ≤ 2^40) (H : List Blk) (hg : ∀ x ∈ l, ACalls Tryz.prog g (I x :: cap) H (fun e H' => e = .ret (Bo (p x)) ∧ H' = H)) :
    ACalls Tryz.prog 80 [.vs 1 (l.map fun x => [I x]), .fn (.func g) [] cap] H (fun e H' => e = .ret (Bo (l.any p)) ∧ H' = H) := by
  refine acalls_tidy (acalls_of_vc (hn := fun _ => false) (od := fun _ => none) Tryz.func80 rfl (by kernel_rfl) ?_)
  simp -dsimp
  refine acallsW_det (int_indexF l p g cap hok hl _ hg) ?_
  simp -dsimp
  exact tidy_now rfl ⟨by rw [idxP_any _ _ _ (Int.le_refl 0)], rfl⟩
theorem int_index (l : List Int) (s : Int) (hl : l.length ≤ 2^40) (H : List Blk) : ACalls Tryz.prog 108 [.vs 1 (l.map fun x => [I x]), I s] H (fun e H' => e = .ret (I (idxP (fun x => decide (s = x)) l 0)) ∧ H' = H) := by
  refine acalls_tidy (acalls_of_vc (hn := fun _ => false) (od := fun _ => none) Tryz.func108 rfl (by kernel_rfl) ?_)
  simp -dsimp
  refine loop_rule (hn := fun _ => false) (od := fun _ => none) (fun (i : Nat) f H' => H' = H ∧ f 0 = .vs 1 (l.map fun x => [I x]) ∧ f 1 = I s ∧ f 7 = I l.length ∧ f 8 = I i ∧ i ≤ l.length ∧ idxP (fun x => decide (s = x)) (l.drop i) i = idxP (fun x => decide (s = x)) l 0) (fun i => l.length - i) (by kernel_rfl) 0 (by simp) ?_
  rintro i f H' ⟨rfl, h0, h1, h7, h8, hi, hinv⟩
  simp -dsimp [h0, h1, h7, h8]
  refine condVW_introD (fun hlt => ?_) (fun hlt => ?_)
  · rw [drop_cons hlt, idxP] at hinv
    simp -dsimp [h0, h1, h7, h8, List.getElem?_eq_getElem, hlt]
    refine condVW_introEq (fun hp => ?_) (fun hp => ?_)
    · simp -dsimp
      rw [if_pos (by simpa using hp)] at hinv
      exact tidy_now rfl ⟨by rw [hinv], rfl⟩
    · simp -dsimp [h0, h1, h7, h8]
      rw [if_neg (by simpa using hp)] at hinv
      exact ⟨i + 1, by omega, wrapS (by omega), by omega, by simpa using hinv⟩
  · simp -dsimp
    rw [drop_end hlt, idxP] at hinv
    exact tidy_now rfl ⟨by rw [hinv], rfl⟩
theorem int_contains (l : List Int) (s : Int) (hl : l.length ≤ 2^40) (H : List Blk) : ACalls Tryz.prog 71 [.vs 1 (l.map fun x => [I x]), I s] H (fun e H' => e = .ret (Bo (l.any fun x => decide (s = x))) ∧ H' = H) := by
  refine acalls_tidy (acalls_of_vc (hn := fun _ => false) (od := fun _ => none) Tryz.func71 rfl (by kernel_rfl) ?_)
  simp -dsimp
  refine acallsW_det (int_index l s hl _) ?_
  simp -dsimp
  exact tidy_now rfl ⟨by rw [idxP_any _ _ _ (Int.le_refl 0)], rfl⟩
theorem line_indexF (l : List Line) (p : Line → Bool) (g : FuncId) (cap : List AV) (hok : okFn Tryz.prog g = true) (hl : l.length ≤ 2^40) (H : List Blk) (hg : ∀ x ∈ l, ACalls Tryz.prog g (.agg x.cells :: cap) H (fun e H' => e = .ret (Bo (p x)) ∧ H' = H)) :
    ACalls Tryz.prog 83 [.vs 11 (l.map fun x => x.cells), .fn (.func g) [] cap] H (fun e H' => e = .ret (I (idxP p l 0)) ∧ H' = H) := by
  refine acalls_tidy (acalls_of_vc (hn := fun _ => false) (od := fun _ => none) Tryz.func83 rfl (by kernel_rfl) ?_)
  simp -dsimp
  refine loop_rule (hn := fun _ => false) (od := fun _ => none) (fun (i : Nat) f H' => H' = H ∧ f 0 = .vs 11 (l.map fun x => x.cells) ∧ f 1 = .fn (.func g) [] cap ∧ f 7 = I l.length ∧ f 8 = I i ∧ i ≤ l.length ∧ idxP p (l.drop i) i = idxP p l 0) (fun i => l.length - i) (by kernel_rfl) 0 (by simp) ?_
  rintro i f H' ⟨rfl, h0, h1, h7, h8, hi, hinv⟩
  simp -dsimp [h0, h1, h7, h8]
  refine condVW_introD (fun hlt => ?_) (fun hlt => ?_)
  · rw [drop_cons hlt, idxP] at hinv
    have hx := hg l[i] (List.getElem_mem hlt)
    try simp only [Vr.cells, Fc.cells] at hx
    simp -dsimp [h0, h1, h7, h8, List.getElem?_eq_getElem, hlt, hok]
    refine acallsW_det hx ?_
    simp -dsimp
    refine condVW_intro (fun hp => ?_) (fun hp => ?_)
    · simp -dsimp
      rw [if_pos hp] at hinv
      exact tidy_now rfl ⟨by rw [hinv], rfl⟩
    · simp -dsimp [h0, h1, h7, h8]
      rw [if_neg (by simp [hp])] at hinv
      exact ⟨i + 1, by omega, wrapS (by omega), by omega, by simpa using hinv⟩
  · simp -dsimp
    rw [drop_end hlt, idxP] at hinv
    exact tidy_now rfl ⟨by rw [hinv], rfl⟩
theorem line_containsF (l : List Line) (p : Line → Bool) (g : FuncId) (cap : List AV) (hok : okFn Tryz.prog g = true) (hl : l.length ≤ 2^40) (H : List Blk) (hg : ∀ x ∈ l, ACalls Tryz.prog g (.agg x.cells :: cap) H (fun e H' => e = .ret (Bo (p x)) ∧ H' = H)) :
    ACalls Tryz.prog 37 [.vs 11 (l.map fun x => x.cells), .fn (.func g) [] cap] H (fun e H' => e = .ret (Bo (l.any p)) ∧ H' = H) := by
  refine acalls_tidy (acalls_of_vc (hn := fun _ => false) (od := fun _ => none) Tryz.func37 rfl (by kernel_rfl) ?_)
  simp -dsimp
  refine acallsW_det (line_indexF l p g cap hok hl _ hg) ?_
  simp -dsimp
  exact tidy_now rfl ⟨by rw [idxP_any _ _ _ (Int.le_refl 0)], rfl⟩
theorem sameInts_ok (a b : List Int) (H : List Blk) (hl : a.length ≤ 2^40) : ACalls Tryz.prog 25 [Int.sl a, Int.sl b] H (fun e H' => e = .ret (Bo (decide (a = b))) ∧ H' = H) := by
  refine acalls_of_vc (hn := fun _ => false) (od := fun _ => none) Tryz.func25 rfl (by kernel_rfl) ?_
  simp -dsimp
  refine condVW_introNE (fun hn _ _ => ?_) (fun hn => ?_)
  · simp -dsimp
    rintro rfl; exact hn rfl
  have hab : a.length = b.length := by omega
  simp -dsimp
  refine loop_rule (hn := fun _ => false) (od := fun _ => none) (fun (i : Nat) f H' => H' = H ∧ f 0 = Int.sl a ∧ f 1 = Int.sl b ∧ f 5 = I i ∧ i ≤ a.length ∧ (a.drop i = b.drop i ↔ a = b)) (fun i => a.length - i) (by kernel_rfl) 0 (by simp) ?_
  rintro i f H' ⟨rfl, h0, h1, h5, hi, ht⟩
  simp -dsimp [h0, h1, h5]
  refine condVW_introD (fun hlt => ?_) (fun hlt => ?_)
  · have hltb : i < b.length := by omega
    simp -dsimp [h0, h1, h5, List.getElem?_eq_getElem, hlt, hltb]
    rw [drop_cons hlt, drop_cons hltb, List.cons.injEq] at ht
    repeat' ((with_reducible first | refine And.intro ?_ ?_ | refine guardVW_introTD (fun _ => ?_) (fun _ => ?_) | refine guardVW_introFD (fun _ => ?_) (fun _ => ?_) | refine condVW_introD (fun _ => ?_) (fun _ => ?_) | refine guardVW_introTE (fun _ => ?_) (fun _ _ _ => ?_) | refine guardVW_introFE (fun _ => ?_) (fun _ _ _ => ?_) | refine condVW_introE (fun _ => ?_) (fun _ _ _ => ?_) | refine guardVW_introTNE (fun _ _ _ => ?_) (fun _ => ?_) | refine guardVW_introFNE (fun _ _ _ => ?_) (fun _ => ?_) | refine condVW_introNE (fun _ _ _ => ?_) (fun _ => ?_) | refine guardVW_introTB (fun _ => ?_) (fun _ => ?_) | refine guardVW_introFB (fun _ => ?_) (fun _ => ?_) | refine condVW_introB (fun _ => ?_) (fun _ => ?_) | refine guardVW_introT (fun _ => ?_) (fun _ => ?_) | refine guardVW_introF (fun _ => ?_) (fun _ => ?_) | refine condVW_intro (fun _ => ?_) (fun _ => ?_)) <;> simp -dsimp [*])
    · rename_i h _ _; simp [← ht, h]
    · rename_i h
      exact ⟨i + 1, by omega, wrapS (by omega), by omega, by rw [← ht]; simp [h]⟩
  · simp -dsimp [h0, h1, h5]
    rw [drop_end hlt, drop_end (by omega)] at ht
    exact ht.1 rfl
theorem ris_ok (n vars : Int) (H : List Blk) : ACalls Tryz.prog 100 [I n, I vars] H (fun e H' => e = .ret (Bo (isVr n vars)) ∧ H' = H) := by
  refine acalls_of_vc (hn := fun _ => false) (od := fun _ => none) Tryz.func100 rfl (by kernel_rfl) ?_
  simp -dsimp
  repeat' ((with_reducible first | refine And.intro ?_ ?_ | refine guardVW_introTD (fun _ => ?_) (fun _ => ?_) | refine guardVW_introFD (fun _ => ?_) (fun _ => ?_) | refine condVW_introD (fun _ => ?_) (fun _ => ?_) | refine guardVW_introTE (fun _ => ?_) (fun _ _ _ => ?_) | refine guardVW_introFE (fun _ => ?_) (fun _ _ _ => ?_) | refine condVW_introE (fun _ => ?_) (fun _ _ _ => ?_) | refine guardVW_introTNE (fun _ _ _ => ?_) (fun _ => ?_) | refine guardVW_introFNE (fun _ _ _ => ?_) (fun _ => ?_) | refine condVW_introNE (fun _ _ _ => ?_) (fun _ => ?_) | refine guardVW_introTB (fun _ => ?_) (fun _ => ?_) | refine guardVW_introFB (fun _ => ?_) (fun _ => ?_) | refine condVW_introB (fun _ => ?_) (fun _ => ?_) | refine guardVW_introT (fun _ => ?_) (fun _ => ?_) | refine guardVW_introF (fun _ => ?_) (fun _ => ?_) | refine condVW_intro (fun _ => ?_) (fun _ => ?_)) <;> simp -dsimp [*])
  all_goals simp [isVr, *]
theorem asking_is (k : Nat) (t : Nat) (vars nodes n : Int) (H : List Blk) (hk : H[k]? = some (.box t [I vars, I nodes])) : ACalls Tryz.prog 79 [.bp k 0, I n] H (fun e H' => e = .ret (Bo (isVr n vars)) ∧ H' = H) := by
  refine acalls_of_vc (hn := fun _ => false) (od := fun _ => none) Tryz.func79 rfl (by kernel_rfl) ?_
  simp -dsimp [hk]
  repeat' ((with_reducible first | refine And.intro ?_ ?_ | refine guardVW_introTD (fun _ => ?_) (fun _ => ?_) | refine guardVW_introFD (fun _ => ?_) (fun _ => ?_) | refine condVW_introD (fun _ => ?_) (fun _ => ?_) | refine guardVW_introTE (fun _ => ?_) (fun _ _ _ => ?_) | refine guardVW_introFE (fun _ => ?_) (fun _ _ _ => ?_) | refine condVW_introE (fun _ => ?_) (fun _ _ _ => ?_) | refine guardVW_introTNE (fun _ _ _ => ?_) (fun _ => ?_) | refine guardVW_introFNE (fun _ _ _ => ?_) (fun _ => ?_) | refine condVW_introNE (fun _ _ _ => ?_) (fun _ => ?_) | refine guardVW_introTB (fun _ => ?_) (fun _ => ?_) | refine guardVW_introFB (fun _ => ?_) (fun _ => ?_) | refine condVW_introB (fun _ => ?_) (fun _ => ?_) | refine guardVW_introT (fun _ => ?_) (fun _ => ?_) | refine guardVW_introF (fun _ => ?_) (fun _ => ?_) | refine condVW_intro (fun _ => ?_) (fun _ => ?_)) <;> simp -dsimp [*])
  all_goals simp [isVr, *]
theorem arI_ok (op : Int) (H : List Blk) : ACalls Tryz.prog 135 [I op] H (fun e H' => e = .ret (I (arityI op)) ∧ H' = H) := by
  refine acalls_of_vc (hn := fun _ => false) (od := fun _ => none) Tryz.func135 rfl (by kernel_rfl) ?_
  simp -dsimp
  repeat' ((with_reducible first | refine And.intro ?_ ?_ | refine guardVW_introTD (fun _ => ?_) (fun _ => ?_) | refine guardVW_introFD (fun _ => ?_) (fun _ => ?_) | refine condVW_introD (fun _ => ?_) (fun _ => ?_) | refine guardVW_introTE (fun _ => ?_) (fun _ _ _ => ?_) | refine guardVW_introFE (fun _ => ?_) (fun _ _ _ => ?_) | refine condVW_introE (fun _ => ?_) (fun _ _ _ => ?_) | refine guardVW_introTNE (fun _ _ _ => ?_) (fun _ => ?_) | refine guardVW_introFNE (fun _ _ _ => ?_) (fun _ => ?_) | refine condVW_introNE (fun _ _ _ => ?_) (fun _ => ?_) | refine guardVW_introTB (fun _ => ?_) (fun _ => ?_) | refine guardVW_introFB (fun _ => ?_) (fun _ => ?_) | refine condVW_introB (fun _ => ?_) (fun _ => ?_) | refine guardVW_introT (fun _ => ?_) (fun _ => ?_) | refine guardVW_introF (fun _ => ?_) (fun _ => ?_) | refine condVW_intro (fun _ => ?_) (fun _ => ?_)) <;> simp -dsimp [*])
  all_goals (simp [arityI, *] <;> grind)
theorem argI_ok (op : Int) (h1 : 4 ≤ op) (h2 : op ≤ 21) (H : List Blk) : ACalls Tryz.prog 103 [I op] H (fun e H' => e = .ret (I (arityI op)) ∧ H' = H) := by
  refine acalls_of_vc (hn := fun _ => false) (od := fun _ => none) Tryz.func103 rfl (by kernel_rfl) ?_
  simp -dsimp
  repeat' ((with_reducible first | refine And.intro ?_ ?_ | refine guardVW_introTD (fun _ => ?_) (fun _ => ?_) | refine guardVW_introFD (fun _ => ?_) (fun _ => ?_) | refine condVW_introD (fun _ => ?_) (fun _ => ?_) | refine guardVW_introTE (fun _ => ?_) (fun _ _ _ => ?_) | refine guardVW_introFE (fun _ => ?_) (fun _ _ _ => ?_) | refine condVW_introE (fun _ => ?_) (fun _ _ _ => ?_) | refine guardVW_introTNE (fun _ _ _ => ?_) (fun _ => ?_) | refine guardVW_introFNE (fun _ _ _ => ?_) (fun _ => ?_) | refine condVW_introNE (fun _ _ _ => ?_) (fun _ => ?_) | refine guardVW_introTB (fun _ => ?_) (fun _ => ?_) | refine guardVW_introFB (fun _ => ?_) (fun _ => ?_) | refine condVW_introB (fun _ => ?_) (fun _ => ?_) | refine guardVW_introT (fun _ => ?_) (fun _ => ?_) | refine guardVW_introF (fun _ => ?_) (fun _ => ?_) | refine condVW_intro (fun _ => ?_) (fun _ => ?_)) <;> simp -dsimp [*])
  all_goals (simp [arityI, *] <;> grind)
theorem rarI_ok (op : Int) (H : List Blk) : ACalls Tryz.prog 101 [I op] H (fun e H' => e = .ret (I (arityI op)) ∧ H' = H) := by
  refine acalls_of_vc (hn := fun _ => false) (od := fun _ => none) Tryz.func101 rfl (by kernel_rfl) ?_
  simp -dsimp
  repeat' ((with_reducible first | refine And.intro ?_ ?_ | refine guardVW_introTD (fun _ => ?_) (fun _ => ?_) | refine guardVW_introFD (fun _ => ?_) (fun _ => ?_) | refine condVW_introD (fun _ => ?_) (fun _ => ?_) | refine guardVW_introTE (fun _ => ?_) (fun _ _ _ => ?_) | refine guardVW_introFE (fun _ => ?_) (fun _ _ _ => ?_) | refine condVW_introE (fun _ => ?_) (fun _ _ _ => ?_) | refine guardVW_introTNE (fun _ _ _ => ?_) (fun _ => ?_) | refine guardVW_introFNE (fun _ _ _ => ?_) (fun _ => ?_) | refine condVW_introNE (fun _ _ _ => ?_) (fun _ => ?_) | refine guardVW_introTB (fun _ => ?_) (fun _ => ?_) | refine guardVW_introFB (fun _ => ?_) (fun _ => ?_) | refine condVW_introB (fun _ => ?_) (fun _ => ?_) | refine guardVW_introT (fun _ => ?_) (fun _ => ?_) | refine guardVW_introF (fun _ => ?_) (fun _ => ?_) | refine condVW_intro (fun _ => ?_) (fun _ => ?_) | refine acallsW_det (argI_ok _ (by omega) (by omega) _) ?_ | refine callDW_intro (argI_ok _ (by omega) (by omega) _) ?_) <;> simp -dsimp [*])
  all_goals (simp [arityI, *] <;> grind)
theorem arity_01 (op : Int) : arityI op = 0 ∨ arityI op = 1 ∨ arityI op = 2 ∨ arityI op = 3 := by unfold arityI; grind
theorem rins_ok (x : Ins) (vars : Int) (H : List Blk) : ACalls Tryz.prog 59 [.agg x.cells, I vars] H (fun e H' => e = .ret (Bo (insOk vars x)) ∧ H' = H) := by
  refine acalls_tidy (acalls_of_vc (hn := fun _ => false) (od := fun _ => none) Tryz.func59 rfl (by kernel_rfl) ?_)
  simp -dsimp
  repeat' ((with_reducible first | refine And.intro ?_ ?_ | refine guardVW_introTD (fun _ => ?_) (fun _ => ?_) | refine guardVW_introFD (fun _ => ?_) (fun _ => ?_) | refine condVW_introD (fun _ => ?_) (fun _ => ?_) | refine guardVW_introTE (fun _ => ?_) (fun _ _ _ => ?_) | refine guardVW_introFE (fun _ => ?_) (fun _ _ _ => ?_) | refine condVW_introE (fun _ => ?_) (fun _ _ _ => ?_) | refine guardVW_introTNE (fun _ _ _ => ?_) (fun _ => ?_) | refine guardVW_introFNE (fun _ _ _ => ?_) (fun _ => ?_) | refine condVW_introNE (fun _ _ _ => ?_) (fun _ => ?_) | refine guardVW_introTB (fun _ => ?_) (fun _ => ?_) | refine guardVW_introFB (fun _ => ?_) (fun _ => ?_) | refine condVW_introB (fun _ => ?_) (fun _ => ?_) | refine guardVW_introT (fun _ => ?_) (fun _ => ?_) | refine guardVW_introF (fun _ => ?_) (fun _ => ?_) | refine condVW_intro (fun _ => ?_) (fun _ => ?_) | refine acallsW_det (ris_ok _ _ _) ?_ | refine callDW_intro (ris_ok _ _ _) ?_ | refine acallsW_det (rarI_ok _ _) ?_ | refine callDW_intro (rarI_ok _ _) ?_) <;> simp -dsimp [*])
  all_goals refine tidy_same (by first | rfl | simp [AV.under, underL]) ?_
  all_goals refine ⟨congrArg (fun b => AE.ret (Bo b)) ?_, rfl⟩
  all_goals first | (simp_all [insOk]; done) | (have ha := arity_01 x.op; simp only [insOk, isVr] at *; grind)
theorem asking_ins (k : Nat) (t : Nat) (vars nodes : Int) (x : Ins) (H : List Blk) (hk : H[k]? = some (.box t [I vars, I nodes])) : ACalls Tryz.prog 116 [.bp k 0, .agg x.cells] H (fun e H' => e = .ret (Bo (insOk vars x)) ∧ H' = H) := by
  refine acalls_tidy (acalls_of_vc (hn := fun _ => false) (od := fun i => if i = 14 then some [(0, []), (1, []), (2, []), (3, []), (4, []), (5, [2, 3]), (6, []), (7, [])] else if i = 20 then some [(0, []), (1, []), (2, []), (3, [0, 1]), (4, []), (5, [])] else if i = 23 then some [(0, []), (1, []), (2, []), (3, []), (4, []), (5, []), (6, []), (7, [2, 3, 4, 5]), (8, []), (9, [4, 5]), (10, []), (11, [])] else none) Tryz.func116 rfl (by kernel_rfl) ?_)
  have hk' := fun L => get_app_old hk L
  simp -dsimp [hk]
  repeat' ((with_reducible first | refine And.intro ?_ ?_ | refine guardVW_introTD (fun _ => ?_) (fun _ => ?_) | refine guardVW_introFD (fun _ => ?_) (fun _ => ?_) | refine condVW_introD (fun _ => ?_) (fun _ => ?_) | refine guardVW_introTE (fun _ => ?_) (fun _ _ _ => ?_) | refine guardVW_introFE (fun _ => ?_) (fun _ _ _ => ?_) | refine condVW_introE (fun _ => ?_) (fun _ _ _ => ?_) | refine guardVW_introTNE (fun _ _ _ => ?_) (fun _ => ?_) | refine guardVW_introFNE (fun _ _ _ => ?_) (fun _ => ?_) | refine condVW_introNE (fun _ _ _ => ?_) (fun _ => ?_) | refine guardVW_introTB (fun _ => ?_) (fun _ => ?_) | refine guardVW_introFB (fun _ => ?_) (fun _ => ?_) | refine condVW_introB (fun _ => ?_) (fun _ => ?_) | refine guardVW_introT (fun _ => ?_) (fun _ => ?_) | refine guardVW_introF (fun _ => ?_) (fun _ => ?_) | refine condVW_intro (fun _ => ?_) (fun _ => ?_) | refine acallsW_det (asking_is _ _ _ _ _ _ (hk' _)) ?_ | refine callDW_intro (asking_is _ _ _ _ _ _ (hk' _)) ?_ | refine acallsW_det (arI_ok _ _) ?_ | refine callDW_intro (arI_ok _ _) ?_) <;> simp -dsimp [*])
  all_goals refine tidy_same (by first | rfl | simp [AV.under, underL]) ?_
  all_goals refine ⟨?_, rfl⟩
  all_goals clear hk hk'
  all_goals refine congrArg (fun b => AE.ret (Bo b)) ?_
  all_goals first | (simp_all [insOk]; done) | (have ha := arity_01 x.op; simp only [insOk, isVr] at *; grind)
end Go.Proofs
namespace Go.Proofs
open Go.Mu
theorem zero_ins (x : Ins) : (!x.kind == 0 || (!x.op == 0 || (!x.d == 0 || (!x.a == 0 || (!x.b == 0 || (!x.c == 0 || (!x.word == 0 || x.stack))))))) = !decide (x = zeroIns) := by
  rw [Bool.eq_iff_iff]
  simp [zeroIns, Ins.ext_iff]
theorem take_drop_cons {l : List Int} {i k : Nat} (hk : k < i) (hi : i ≤ l.length) : (l.take i).drop k = l[k] :: (l.take i).drop (k + 1) := by
  rw [drop_cons (l := l.take i) (i := k) (by simp; omega)]; simp
theorem all_drop {p : Int → Bool} {l : List Int} {i : Nat} (h : i < l.length) : (l.drop i).all p = (p l[i] && (l.drop (i + 1)).all p) := by rw [drop_cons h, List.all_cons]
theorem rhead_ok (vars : Int) (params rets : List Int) (frame : Int) (hp : params.length ≤ 2^40) (hr : rets.length ≤ 2^40) (H : List Blk) : ACalls Tryz.prog 58 [I vars, Int.sl params, Int.sl rets, I frame] H (fun e H' => e = .ret (Bo (headOk vars params rets frame)) ∧ H' = H) := by
  refine acalls_of_vc (hn := fun _ => false) (od := fun _ => none) Tryz.func58 rfl (by kernel_rfl) ?_
  simp -dsimp
  repeat' ((with_reducible first | refine And.intro ?_ ?_ | refine guardVW_introTD (fun _ => ?_) (fun _ => ?_) | refine guardVW_introFD (fun _ => ?_) (fun _ => ?_) | refine condVW_introD (fun _ => ?_) (fun _ => ?_) | refine guardVW_introTE (fun _ => ?_) (fun _ _ _ => ?_) | refine guardVW_introFE (fun _ => ?_) (fun _ _ _ => ?_) | refine condVW_introE (fun _ => ?_) (fun _ _ _ => ?_) | refine guardVW_introTNE (fun _ _ _ => ?_) (fun _ => ?_) | refine guardVW_introFNE (fun _ _ _ => ?_) (fun _ => ?_) | refine condVW_introNE (fun _ _ _ => ?_) (fun _ => ?_) | refine guardVW_introTB (fun _ => ?_) (fun _ => ?_) | refine guardVW_introFB (fun _ => ?_) (fun _ => ?_) | refine condVW_introB (fun _ => ?_) (fun _ => ?_) | refine guardVW_introT (fun _ => ?_) (fun _ => ?_) | refine guardVW_introF (fun _ => ?_) (fun _ => ?_) | refine condVW_intro (fun _ => ?_) (fun _ => ?_)) <;> simp -dsimp [*])
  case refine_2.refine_2.refine_2.refine_2.refine_2.refine_2 h1 h2 h3 h4 h5 h6 =>
    have hbase : headOk vars params rets frame = (paramsOk vars [] params && rets.all (isVr · vars)) := by
      have ht := Int.tmod_eq_emod_of_nonneg (a := frame) (b := 16) (by omega)
      rw [ht] at h5
      have e1 : decide (0 ≤ vars) = true := by simp; omega
      have e2 : decide (vars ≤ 16384) = true := by simp; omega
      have e3 : decide (0 ≤ frame) = true := by simp; omega
      have e4 : decide (frame ≤ 8192) = true := by simp; omega
      have e5 : decide (frame % 16 = 0) = true := by simpa using h5
      have e6 : decide (rets.length ≤ 16384) = true := by simp; omega
      simp only [headOk, e1, e2, e3, e4, e5, e6, Bool.true_and]
    replace hbase := Hid.mk hbase
    refine loop_rule (hn := fun _ => false) (od := fun _ => none) (fun (i : Nat) f H' => H' = H ∧ f 0 = I vars ∧ f 1 = Int.sl params ∧ f 2 = Int.sl rets ∧ f 9 = I i ∧ i ≤ params.length ∧ paramsOk vars (params.take i) (params.drop i) = paramsOk vars [] params) (fun i => params.length - i) (by kernel_rfl) 0 (by simp) ?_
    rintro i f H' ⟨rfl, f0, f1, f2, f9, hi, hok⟩
    simp -dsimp [f0, f1, f2, f9]
    refine condVW_introD (fun hlt => ?_) (fun hlt => ?_)
    · have hd := paramsOk_drop (vars := vars) hlt
      rw [hok] at hd
      replace hd := Hid.mk hd
      replace hok := Hid.mk hok
      simp -dsimp [f0, f1, f2, f9, List.getElem?_eq_getElem, hlt]
      repeat' ((with_reducible first | refine And.intro ?_ ?_ | refine guardVW_introTD (fun _ => ?_) (fun _ => ?_) | refine guardVW_introFD (fun _ => ?_) (fun _ => ?_) | refine condVW_introD (fun _ => ?_) (fun _ => ?_) | refine guardVW_introTE (fun _ => ?_) (fun _ _ _ => ?_) | refine guardVW_introFE (fun _ => ?_) (fun _ _ _ => ?_) | refine condVW_introE (fun _ => ?_) (fun _ _ _ => ?_) | refine guardVW_introTNE (fun _ _ _ => ?_) (fun _ => ?_) | refine guardVW_introFNE (fun _ _ _ => ?_) (fun _ => ?_) | refine condVW_introNE (fun _ _ _ => ?_) (fun _ => ?_) | refine guardVW_introTB (fun _ => ?_) (fun _ => ?_) | refine guardVW_introFB (fun _ => ?_) (fun _ => ?_) | refine condVW_introB (fun _ => ?_) (fun _ => ?_) | refine guardVW_introT (fun _ => ?_) (fun _ => ?_) | refine guardVW_introF (fun _ => ?_) (fun _ => ?_) | refine condVW_intro (fun _ => ?_) (fun _ => ?_)) <;> simp -dsimp [*])
      · rw [hbase.out, hd.out]
        have : isVr params[i] vars = false := by simp [isVr]; omega
        simp [this]
      · rw [hbase.out, hd.out]
        have : isVr params[i] vars = false := by simp [isVr]; omega
        simp [this]
      · rename_i hv1 hv2
        have hv : isVr params[i] vars = true := by simp [isVr]; omega
        rw [hv, Bool.true_and] at hd
        refine loop_rule (hn := fun _ => false) (od := fun _ => none) (fun (k : Nat) f H2 => H2 = H' ∧ f 0 = I vars ∧ f 1 = Int.sl params ∧ f 2 = Int.sl rets ∧ f 9 = I i ∧ f 10 = I k ∧ k ≤ i ∧ (params[i] ∈ (params.take i).drop k ↔ params[i] ∈ params.take i)) (fun k => i - k) (by kernel_rfl) 0 (by simp [f0, f1, f2, f9]) ?_
        rintro k f H2 ⟨rfl, f0, f1, f2, f9, f10, hk, hmem⟩
        simp -dsimp [f0, f1, f2, f9, f10]
        refine condVW_introD (fun hkl => ?_) (fun hkl => ?_)
        · have hkl2 : k < params.length := by omega
          rw [take_drop_cons hkl (by omega), List.mem_cons] at hmem
          replace hmem := Hid.mk hmem
          simp -dsimp [f0, f1, f2, f9, f10, List.getElem?_eq_getElem, hlt, hkl2]
          refine condVW_introE (fun he => ?_) (fun hne _ _ => ?_)
          · simp -dsimp
            rw [hbase.out, hd.out]
            have : params[i] ∈ params.take i := hmem.out.1 (.inl he.symm)
            simp [this]
          · simp -dsimp [f0, f1, f2, f9, f10]
            refine ⟨k + 1, by omega, wrapS (by omega), by omega, ?_⟩
            rw [← hmem.out]
            constructor
            · exact fun h => .inr h
            · exact fun h => h.resolve_left (fun e => hne e.symm)
        · simp -dsimp [f0, f1, f2, f9, f10]
          refine ⟨i + 1, by omega, wrapS (by omega), by omega, ?_⟩
          rw [hd.out]
          have hnil : (params.take i).drop k = [] := List.drop_of_length_le (by simp; omega)
          rw [hnil] at hmem
          have : params[i] ∉ params.take i := fun h => by have := hmem.2 h; simp at this
          simp [this]
    · rw [drop_end hlt] at hok
      have hpok : paramsOk vars [] params = true := by rw [← hok]; rfl
      rw [hpok, Bool.true_and] at hbase
      simp -dsimp [f0, f1, f2, f9]
      refine loop_rule (hn := fun _ => false) (od := fun _ => none) (fun (i : Nat) f H2 => H2 = H' ∧ f 0 = I vars ∧ f 2 = Int.sl rets ∧ f 11 = I i ∧ i ≤ rets.length ∧ (rets.drop i).all (isVr · vars) = rets.all (isVr · vars)) (fun i => rets.length - i) (by kernel_rfl) 0 (by simp [f0, f2]) ?_
      rintro j f H2 ⟨rfl, f0, f2, f11, hj, hall⟩
      simp -dsimp [f0, f2, f11]
      refine condVW_introD (fun hlt2 => ?_) (fun hlt2 => ?_)
      · rw [all_drop hlt2] at hall
        replace hall := Hid.mk hall
        simp -dsimp [f0, f2, f11, List.getElem?_eq_getElem, hlt2]
        repeat' ((with_reducible first | refine And.intro ?_ ?_ | refine guardVW_introTD (fun _ => ?_) (fun _ => ?_) | refine guardVW_introFD (fun _ => ?_) (fun _ => ?_) | refine condVW_introD (fun _ => ?_) (fun _ => ?_) | refine guardVW_introTE (fun _ => ?_) (fun _ _ _ => ?_) | refine guardVW_introFE (fun _ => ?_) (fun _ _ _ => ?_) | refine condVW_introE (fun _ => ?_) (fun _ _ _ => ?_) | refine guardVW_introTNE (fun _ _ _ => ?_) (fun _ => ?_) | refine guardVW_introFNE (fun _ _ _ => ?_) (fun _ => ?_) | refine condVW_introNE (fun _ _ _ => ?_) (fun _ => ?_) | refine guardVW_introTB (fun _ => ?_) (fun _ => ?_) | refine guardVW_introFB (fun _ => ?_) (fun _ => ?_) | refine condVW_introB (fun _ => ?_) (fun _ => ?_) | refine guardVW_introT (fun _ => ?_) (fun _ => ?_) | refine guardVW_introF (fun _ => ?_) (fun _ => ?_) | refine condVW_intro (fun _ => ?_) (fun _ => ?_)) <;> simp -dsimp [*])
        · rw [hbase.out, ← hall.out]
          have : isVr rets[j] vars = false := by simp [isVr]; omega
          simp [this]
        · rw [hbase.out, ← hall.out]
          have : isVr rets[j] vars = false := by simp [isVr]; omega
          simp [this]
        · refine ⟨j + 1, by omega, wrapS (by omega), by omega, ?_⟩
          have : isVr rets[j] vars = true := by simp [isVr]; omega
          have hh := hall.out
          rw [this, Bool.true_and] at hh
          simpa using hh
      · simp -dsimp [f0, f2, f11]
        rw [drop_end hlt2] at hall
        rw [hbase.out, ← hall]; rfl
  case refine_2.refine_2.refine_2.refine_2.refine_1 h5 _ _ =>
    have ht := Int.tmod_eq_emod_of_nonneg (a := frame) (b := 16) (by omega)
    rw [ht] at h5
    have : decide (frame % 16 = 0) = false := by simpa using h5
    simp [headOk, h5]
  all_goals (simp [headOk]; omega)
theorem fmay1_ok (ka kp ta tp : Nat) (vars nodes x : Int) (H : List Blk) (hp : H[kp]? = some (.box tp [.bp ka 0])) (ha : H[ka]? = some (.box ta [I vars, I nodes])) : ACalls Tryz.prog 81 [I x, .bp kp 0] H (fun e H' => e = .ret (Bo (!isVr x vars)) ∧ H' = H) := by
  refine acalls_of_vc (hn := fun _ => false) (od := fun _ => none) Tryz.func81 rfl (by kernel_rfl) ?_
  simp -dsimp [hp]
  repeat' ((with_reducible first | refine And.intro ?_ ?_ | refine guardVW_introTD (fun _ => ?_) (fun _ => ?_) | refine guardVW_introFD (fun _ => ?_) (fun _ => ?_) | refine condVW_introD (fun _ => ?_) (fun _ => ?_) | refine guardVW_introTE (fun _ => ?_) (fun _ _ _ => ?_) | refine guardVW_introFE (fun _ => ?_) (fun _ _ _ => ?_) | refine condVW_introE (fun _ => ?_) (fun _ _ _ => ?_) | refine guardVW_introTNE (fun _ _ _ => ?_) (fun _ => ?_) | refine guardVW_introFNE (fun _ _ _ => ?_) (fun _ => ?_) | refine condVW_introNE (fun _ _ _ => ?_) (fun _ => ?_) | refine guardVW_introTB (fun _ => ?_) (fun _ => ?_) | refine guardVW_introFB (fun _ => ?_) (fun _ => ?_) | refine condVW_introB (fun _ => ?_) (fun _ => ?_) | refine guardVW_introT (fun _ => ?_) (fun _ => ?_) | refine guardVW_introF (fun _ => ?_) (fun _ => ?_) | refine condVW_intro (fun _ => ?_) (fun _ => ?_) | refine acallsW_det (asking_is _ _ _ _ _ _ ha) ?_ | refine callDW_intro (asking_is _ _ _ _ _ _ ha) ?_) <;> simp -dsimp [*])
abbrev nodeI (x : Ins) : List AV := [I 1, I x.kind, I x.op, I x.d, I x.a, I x.b, I x.c, U x.word, Bo x.stack, I 0, .vs 13 [], .vs 13 [], .vs 13 []]
abbrev nodes01 (x : Option Ins) : AV := .vs 13 (match x with | none => [] | some x => [nodeI x])
def node01Ok (vars : Int) (x : Option Ins) : Bool := match x with | none => true | some x => insOk vars x
theorem alist_none (vars : Int) (n0 : Int) (H : List Blk) (k t : Nat) (hk : H[k]? = some (.box t [I vars, I n0])) : ACalls Tryz.prog 82 [.bp k 0, .vs 13 [], I 1] H (fun e H' => e = .ret (Bo true) ∧ H' = H) := by
  refine acalls_of_vc (hn := fun _ => false) (od := fun _ => none) Tryz.func82 rfl (by kernel_rfl) ?_
  simp -dsimp
  refine loop_rule (hn := fun _ => false) (od := fun _ => none) (fun (i : Nat) f H' => H' = H ∧ f 16 = .vs 13 [] ∧ f 17 = I 0 ∧ f 18 = I 0) (fun i => 0) (by kernel_rfl) 0 (by simp) ?_
  rintro i f H' ⟨rfl, h0, h7, h8⟩
  simp -dsimp [h0, h7, h8]
def ANode (vars : Int) (x : Ins) (H : List Blk) (k t : Nat) (e : AE) (H' : List Blk) : Prop := e = .ret (Bo (insOk vars x)) ∧ H' = H.set k (.box t [I vars, I 1])
theorem alist_one (vars : Int) (x : Ins) (H : List Blk) (k t : Nat) (hk : H[k]? = some (.box t [I vars, I 0])) : ACalls Tryz.prog 82 [.bp k 0, .vs 13 [nodeI x], I 1] H (ANode vars x H k t) := by
  refine acalls_tidy (acalls_of_vc (hn := fun _ => false) (od := fun _ => none) Tryz.func82 rfl (by kernel_rfl) ?_)
  have hkl := lt_of_get hk
  have g1 := fun X L => m1_get hkl X L
  have g2 := fun X Y L => m1_set hkl X Y L
  have g3 := fun X L i => m1_getN (H := H) (k := k) X L i
  have g4 := fun X L => m1_getE (H := H) (k := k) X L
  have leaf : ∀ (L : List Blk) (c : Bool), c = insOk vars x → Tidy H (ANode vars x H k t) (AE.ret (AV.v (Value.bool c))) (H.set k (.box t [I vars, I 1]) ++ L) := by
    intro L c hc
    exact tidy_to (by simp) (fun hu => by rw [List.length_set]; exact underH_set hu rfl) rfl ⟨by rw [hc], rfl⟩
  have hH : Hid (H = H.set k (.box t [I vars, I 0]) ++ []) := ⟨by rw [List.append_nil]; exact (set_same hk).symm⟩
  simp -dsimp
  refine loop_rule (hn := fun _ => false) (od := fun _ => none) (fun (i : Nat) f H' => (∃ L, H' = H.set k (.box t [I vars, I i]) ++ L ∧ (i = 1 → insOk vars x = true)) ∧ f 0 = .bp k 0 ∧ f 16 = .vs 13 [nodeI x] ∧ f 17 = I 1 ∧ f 2 = I 1 ∧ f 18 = I i ∧ i ≤ 1) (fun i => 1 - i) (by kernel_rfl) 0 (by refine ⟨⟨[], hH.out, by omega⟩, ?_⟩; simp) ?_
  rintro i f H' ⟨⟨L, rfl, hx⟩, h0, h16, h17, h2, h18, hi⟩
  have hins := fun nn H h => asking_ins k t vars nn x H h
  simp only [Ins.cells] at hins
  simp -dsimp [h0, h16, h17, h2, h18]
  refine condVW_introD (fun hlt => ?_) (fun hlt => ?_)
  · obtain rfl : i = 0 := by omega
    simp -dsimp [h0, h16, h17, h2, h18, zero_ins, g1, g2, g3, g4]
    have hw1 : IntKind.i64.wrap 1 = 1 := by decide
    have hw0 : IntKind.i64.wrap 0 = 0 := by decide
    simp -dsimp only [hw1]
    repeat' ((with_reducible first | refine And.intro ?_ ?_ | refine guardVW_introTD (fun _ => ?_) (fun _ => ?_) | refine guardVW_introFD (fun _ => ?_) (fun _ => ?_) | refine condVW_introD (fun _ => ?_) (fun _ => ?_) | refine guardVW_introTE (fun _ => ?_) (fun _ _ _ => ?_) | refine guardVW_introFE (fun _ => ?_) (fun _ _ _ => ?_) | refine condVW_introE (fun _ => ?_) (fun _ _ _ => ?_) | refine guardVW_introTNE (fun _ _ _ => ?_) (fun _ => ?_) | refine guardVW_introFNE (fun _ _ _ => ?_) (fun _ => ?_) | refine condVW_introNE (fun _ _ _ => ?_) (fun _ => ?_) | refine guardVW_introTB (fun _ => ?_) (fun _ => ?_) | refine guardVW_introFB (fun _ => ?_) (fun _ => ?_) | refine condVW_introB (fun _ => ?_) (fun _ => ?_) | refine guardVW_introT (fun _ => ?_) (fun _ => ?_) | refine guardVW_introF (fun _ => ?_) (fun _ => ?_) | refine condVW_intro (fun _ => ?_) (fun _ => ?_) | refine acallsW_det (hins _ _ (g1 _ _)) ?_ | refine callDW_intro (hins _ _ (g1 _ _)) ?_) <;> simp -dsimp [*, zero_ins, hw1, hw0])
    all_goals first
      | (exfalso; omega)
      | (exfalso; simp only [hw1, hw0] at *; omega)
      | exact leaf _ _ (Eq.symm (by assumption))
      | exact leaf _ _ (by simp [*])
      | exact ⟨1, by omega, ⟨_, rfl⟩, by decide, by omega⟩
      | omega
  · obtain rfl : i = 1 := by omega
    simp -dsimp [h0, h16, h17, h2, h18]
    exact leaf _ _ (hx rfl).symm
theorem fmay_ok (vars : Int) (params rets : List Int) (frame : Int) (x : Option Ins) (hp : params.length ≤ 2^40) (hr : rets.length ≤ 2^40) (H : List Blk) : ACalls Tryz.prog 36 [.agg [I vars, Int.sl params, Int.sl rets, I frame, nodes01 x]] H (fun e H' => e = .ret (Bo (headOk vars params rets frame && node01Ok vars x)) ∧ H' = H) := by
  refine acalls_tidy (acalls_of_vc (hn := fun d => d == 70) (od := fun _ => none) Tryz.func36 rfl (by kernel_rfl) ?_)
  obtain ⟨E, hE⟩ : ∃ E, E = (headOk vars params rets frame && node01Ok vars x) := ⟨_, rfl⟩
  rw [← hE]
  have leaf : ∀ (L : List Blk) (b : Bool), b = E → Tidy H (fun e H' => e = AE.ret (Bo E) ∧ H' = H) (AE.ret (AV.v (Value.bool b))) (H ++ L) := fun L b hb => tidy_same rfl ⟨by rw [hb], rfl⟩
  replace leaf := Hid.mk leaf
  obtain ⟨nd, hnd⟩ : ∃ nd, nd = nodes01 x := ⟨_, rfl⟩
  rw [← hnd]
  replace hE := Hid.mk hE
  replace hnd := Hid.mk hnd
  simp -dsimp
  repeat' ((with_reducible first | refine And.intro ?_ ?_ | refine guardVW_introTD (fun _ => ?_) (fun _ => ?_) | refine guardVW_introFD (fun _ => ?_) (fun _ => ?_) | refine condVW_introD (fun _ => ?_) (fun _ => ?_) | refine guardVW_introTE (fun _ => ?_) (fun _ _ _ => ?_) | refine guardVW_introFE (fun _ => ?_) (fun _ _ _ => ?_) | refine condVW_introE (fun _ => ?_) (fun _ _ _ => ?_) | refine guardVW_introTNE (fun _ _ _ => ?_) (fun _ => ?_) | refine guardVW_introFNE (fun _ _ _ => ?_) (fun _ => ?_) | refine condVW_introNE (fun _ _ _ => ?_) (fun _ => ?_) | refine guardVW_introTB (fun _ => ?_) (fun _ => ?_) | refine guardVW_introFB (fun _ => ?_) (fun _ => ?_) | refine condVW_introB (fun _ => ?_) (fun _ => ?_) | refine guardVW_introT (fun _ => ?_) (fun _ => ?_) | refine guardVW_introF (fun _ => ?_) (fun _ => ?_) | refine condVW_intro (fun _ => ?_) (fun _ => ?_)) <;> simp -dsimp [*])
  case refine_2.refine_2.refine_2.refine_2.refine_2 h1 h2 h3 h4 h5 =>
    have hbase : E = (decide (rets.length ≤ 16384) && paramsOk vars [] params && rets.all (isVr · vars) && node01Ok vars x) := by
      have ht := Int.tmod_eq_emod_of_nonneg (a := frame) (b := 16) (by omega)
      rw [ht] at h5
      have e1 : decide (0 ≤ vars) = true := by simp; omega
      have e2 : decide (vars ≤ 16384) = true := by simp; omega
      have e3 : decide (0 ≤ frame) = true := by simp; omega
      have e4 : decide (frame ≤ 8192) = true := by simp; omega
      have e5 : decide (frame % 16 = 0) = true := by simpa using h5
      rw [hE.out]; simp only [headOk, e1, e2, e3, e4, e5, Bool.true_and]
    replace hbase := Hid.mk hbase
    refine loop_rule (hn := fun d => d == 70) (od := fun _ => none) (fun (i : Nat) g H' => H' = H ++ [.box 87 [I vars, Int.sl params, Int.sl rets, I frame, nd], .box 149 [I vars, I 0], .box 147 [.bp (H.length + 1) 0]] ∧ g 1 = .bp H.length 0 ∧ g 3 = .bp (H.length + 2) 0 ∧ g 35 = Int.sl params ∧ g 36 = I params.length ∧ g 37 = I i ∧ i ≤ params.length ∧ paramsOk vars (params.take i) (params.drop i) = paramsOk vars [] params) (fun i => params.length - i) (by kernel_rfl) 0 (by simp) ?_
    rintro i g H' ⟨rfl, g1, g3, g35, g36, g37, hi, hok⟩
    simp -dsimp [g1, g3, g35, g36, g37]
    have hm : ∀ L, (H ++ Blk.box 87 [I vars, Int.sl params, Int.sl rets, I frame, nd] :: Blk.box 149 [I vars, I 0] :: L)[H.length + 1]? = some (.box 149 [I vars, I 0]) := by intro L; simp
    refine condVW_introD (fun hlt => ?_) (fun hlt => ?_)
    · have hd := paramsOk_drop (vars := vars) hlt
      rw [hok] at hd
      replace hd := Hid.mk hd
      replace hok := Hid.mk hok
      have hct := int_contains (params.take i) params[i]
      simp only [List.map_take] at hct
      have hctl : (params.take i).length ≤ 2^40 := by simp; omega
      simp -dsimp [g1, g3, g35, g36, g37, List.getElem?_eq_getElem, hlt]
      have hany : ((params.take i).any fun x => decide (params[i] = x)) = decide (params[i] ∈ params.take i) := by
        rw [Bool.eq_iff_iff]; simp [List.any_eq_true]
      rw [hany] at hct
      repeat' ((with_reducible first | refine And.intro ?_ ?_ | refine guardVW_introTD (fun _ => ?_) (fun _ => ?_) | refine guardVW_introFD (fun _ => ?_) (fun _ => ?_) | refine condVW_introD (fun _ => ?_) (fun _ => ?_) | refine guardVW_introTE (fun _ => ?_) (fun _ _ _ => ?_) | refine guardVW_introFE (fun _ => ?_) (fun _ _ _ => ?_) | refine condVW_introE (fun _ => ?_) (fun _ _ _ => ?_) | refine guardVW_introTNE (fun _ _ _ => ?_) (fun _ => ?_) | refine guardVW_introFNE (fun _ _ _ => ?_) (fun _ => ?_) | refine condVW_introNE (fun _ _ _ => ?_) (fun _ => ?_) | refine guardVW_introTB (fun _ => ?_) (fun _ => ?_) | refine guardVW_introFB (fun _ => ?_) (fun _ => ?_) | refine condVW_introB (fun _ => ?_) (fun _ => ?_) | refine guardVW_introT (fun _ => ?_) (fun _ => ?_) | refine guardVW_introF (fun _ => ?_) (fun _ => ?_) | refine condVW_intro (fun _ => ?_) (fun _ => ?_) | refine acallsW_det (asking_is _ _ _ _ _ _ (hm _)) ?_ | refine callDW_intro (asking_is _ _ _ _ _ _ (hm _)) ?_ | refine acallsW_det (hct hctl _) ?_ | refine callDW_intro (hct hctl _) ?_) <;> simp -dsimp [*])
      · refine leaf.out _ _ ?_
        rw [hbase.out, hd.out]; simp [*]
      · refine leaf.out _ _ ?_
        rw [hbase.out, hd.out]; simp [*]
      · refine ⟨i + 1, by omega, wrapS (by omega), by omega, ?_⟩
        have := hd.out
        simp [*] at this
        simp [this]
    · rw [drop_end hlt] at hok
      have hpok : paramsOk vars [] params = true := by rw [← hok]; rfl
      rw [hpok, Bool.and_true] at hbase
      have hcf := int_containsF rets (fun v => !isVr v vars) 81 [.bp (H.length + 2) 0] (by kernel_rfl) hr (H ++ [.box 87 [I vars, Int.sl params, Int.sl rets, I frame, nd], .box 149 [I vars, I 0], .box 147 [.bp (H.length + 1) 0]]) (fun x _ => fmay1_ok (H.length + 1) (H.length + 2) 149 147 vars 0 x _ (by simp) (by simp))
      have hal : ∃ V, ∀ W : Blk, ACalls Tryz.prog 82 [.bp (H.length + 1) 0, nd, I 1] (H ++ [.box 87 [I vars, Int.sl params, Int.sl rets, I frame, nd], .box 149 [I vars, I 0], .box 147 [.bp (H.length + 1) 0]]) (fun e H' => e = .ret (Bo (node01Ok vars x)) ∧ H' = H ++ V) := by
        rw [hnd.out]
        cases x with
        | none => exact ⟨_, fun _ => alist_none vars 0 _ (H.length + 1) 149 (by simp)⟩
        | some x =>
          refine ⟨[.box 87 [I vars, Int.sl params, Int.sl rets, I frame, nodes01 (some x)], .box 149 [I vars, I 1], .box 147 [.bp (H.length + 1) 0]], fun _ => (alist_one vars x _ (H.length + 1) 149 (by simp)).mono ?_⟩
          rintro e H' ⟨rfl, rfl⟩
          exact ⟨rfl, by simp⟩
      obtain ⟨V, hal⟩ := hal
      replace hal := hal (.pend)
      simp -dsimp [g1, g3, g35, g36, g37]
      refine acallsW_det hcf ?_
      have hany : (rets.any fun v => !isVr v vars) = !rets.all (isVr · vars) := by rw [List.all_eq_not_any_not]; simp
      replace hany := Hid.mk hany
      simp -dsimp [g1, g3, g35, g36, g37, hany.out]
      repeat' ((with_reducible first | refine And.intro ?_ ?_ | refine guardVW_introTD (fun _ => ?_) (fun _ => ?_) | refine guardVW_introFD (fun _ => ?_) (fun _ => ?_) | refine condVW_introD (fun _ => ?_) (fun _ => ?_) | refine guardVW_introTE (fun _ => ?_) (fun _ _ _ => ?_) | refine guardVW_introFE (fun _ => ?_) (fun _ _ _ => ?_) | refine condVW_introE (fun _ => ?_) (fun _ _ _ => ?_) | refine guardVW_introTNE (fun _ _ _ => ?_) (fun _ => ?_) | refine guardVW_introFNE (fun _ _ _ => ?_) (fun _ => ?_) | refine condVW_introNE (fun _ _ _ => ?_) (fun _ => ?_) | refine guardVW_introTB (fun _ => ?_) (fun _ => ?_) | refine guardVW_introFB (fun _ => ?_) (fun _ => ?_) | refine condVW_introB (fun _ => ?_) (fun _ => ?_) | refine guardVW_introT (fun _ => ?_) (fun _ => ?_) | refine guardVW_introF (fun _ => ?_) (fun _ => ?_) | refine condVW_intro (fun _ => ?_) (fun _ => ?_) | (refine acallsW_of hal (fun e H' hq => ?_); obtain ⟨rfl, rfl⟩ := hq)) <;> simp -dsimp [*])
      all_goals refine leaf.out _ _ ?_
      all_goals clear hcf hal hm
      all_goals rw [hbase.out]
      all_goals first | (simp [*]; done) | (simp [*]; omega)
  case refine_2.refine_2.refine_2.refine_2.refine_1 h5 _ _ =>
    refine leaf.out _ _ ?_
    have ht := Int.tmod_eq_emod_of_nonneg (a := frame) (b := 16) (by omega)
    rw [ht] at h5
    rw [hE.out]; simp [headOk, h5]
  all_goals
    refine leaf.out _ _ ?_
    rw [hE.out]; simp [headOk]
    omega
end Go.Proofs
namespace Go.Proofs
open Go.Mu
def stand (ls : List Int) : List (Value × AV) := ls.map fun n => (.int .i64 n, .agg [Bo true])
theorem sameNow_i64 (a b : Int) : Instr.sameNow (.int .i64) (.int .i64 a) (.int .i64 b) = some (a == b) := by rfl
theorem stand_find (n : Int) (ls : List Int) : mfind (.int .i64) (.int .i64 n) (stand ls) = some (if n ∈ ls then some (.agg [Bo true]) else none) := by
  induction ls with
  | nil => rfl
  | cons a l ih =>
    have : stand (a :: l) = (.int .i64 a, .agg [Bo true]) :: stand l := rfl
    rw [this, mfind, sameNow_i64]
    by_cases h : n = a
    · subst h; simp
    · have e : (n == a) = false := by simp [h]
      rw [e]; simp only [ih, List.mem_cons, h, false_or]
theorem stand_set (n : Int) (ls : List Int) (h : n ∉ ls) : mset (.int .i64) (.int .i64 n) (.agg [Bo true]) (stand ls) = some (stand (ls ++ [n])) := by
  induction ls with
  | nil => rfl
  | cons a l ih =>
    have : stand (a :: l) = (.int .i64 a, .agg [Bo true]) :: stand l := rfl
    simp only [List.mem_cons, not_or] at h
    have e : (n == a) = false := by simp [h.1]
    rw [this, mset, sameNow_i64, e]
    simp only [ih h.2]; rfl
@[simp] theorem avz107 : assertV.avZ (Value.agg #[Value.bool false]) = .agg [Bo false] := (rfl)
theorem jumps_ok (x : Line) (ls : List Int) (k m : Nat) (H : List Blk) (t : TypeId) (hk : H[k]? = some (.box t [.hm m])) (hm : H[m]? = some (.map (stand ls))) :
    ACalls Tryz.prog 38 [.agg x.cells, .bp k 0] H (fun e H' => e = .ret (Bo ((x.kind == 3 || x.kind == 4) && !decide (x.label ∈ ls))) ∧ H' = H) := by
  have hkl : k < H.length := (List.getElem?_eq_some_iff.1 hk).1
  have hml : m < H.length := (List.getElem?_eq_some_iff.1 hm).1
  have hk' : ∀ L, (H ++ L)[k]? = some (.box t [.hm m]) := fun L => by rw [List.getElem?_append_left hkl, hk]
  have hm' : ∀ L, mapEs (H ++ L) (.hm m) = some (stand ls) := fun L => by simp only [mapEs]; rw [List.getElem?_append_left hml, hm]
  have hf := stand_find x.label ls
  refine acalls_tidy (acalls_of_vc (hn := fun _ => false) (od := fun _ => none) Tryz.func38 rfl (by kernel_rfl) ?_)
  simp -dsimp
  by_cases hmem : x.label ∈ ls
  all_goals (simp only [hmem, if_true, if_false] at hf)
  all_goals repeat' ((with_reducible first | refine And.intro ?_ ?_ | refine guardVW_introTD (fun _ => ?_) (fun _ => ?_) | refine guardVW_introFD (fun _ => ?_) (fun _ => ?_) | refine condVW_introD (fun _ => ?_) (fun _ => ?_) | refine guardVW_introTE (fun _ => ?_) (fun _ _ _ => ?_) | refine guardVW_introFE (fun _ => ?_) (fun _ _ _ => ?_) | refine condVW_introE (fun _ => ?_) (fun _ _ _ => ?_) | refine guardVW_introTNE (fun _ _ _ => ?_) (fun _ => ?_) | refine guardVW_introFNE (fun _ _ _ => ?_) (fun _ => ?_) | refine condVW_introNE (fun _ _ _ => ?_) (fun _ => ?_) | refine guardVW_introTB (fun _ => ?_) (fun _ => ?_) | refine guardVW_introFB (fun _ => ?_) (fun _ => ?_) | refine condVW_introB (fun _ => ?_) (fun _ => ?_) | refine guardVW_introT (fun _ => ?_) (fun _ => ?_) | refine guardVW_introF (fun _ => ?_) (fun _ => ?_) | refine condVW_intro (fun _ => ?_) (fun _ => ?_)) <;> simp -dsimp [*])
  all_goals exact tidy_same rfl ⟨by simp [*], rfl⟩
theorem linear_ok (l : Linear) (hp : l.params.length ≤ 2^40) (hr : l.rets.length ≤ 2^40) (hc : l.code.length ≤ 2^40) (H : List Blk) : ACalls Tryz.prog 13 [.agg l.cells] H (fun e H' => e = .ret (Bo l.ok) ∧ H' = H) := by
  refine acalls_tidy (acalls_of_vc (hn := fun _ => false) (od := fun _ => none) Tryz.func13 rfl (by kernel_rfl) ?_)
  have leaf : ∀ (L : List Blk) (c : Bool), c = l.ok → Tidy H (fun e H' => e = AE.ret (Bo l.ok) ∧ H' = H) (AE.ret (AV.v (Value.bool c))) (H ++ L) := fun L c hb => tidy_same rfl ⟨by rw [hb], rfl⟩
  replace leaf := Hid.mk leaf
  have hm1 : ∀ H, ACalls Tryz.prog 36 [.agg [I l.vars, Int.sl l.params, Int.sl l.rets, I l.frame, nilS]] H (fun e H' => e = .ret (Bo (headOk l.vars l.params l.rets l.frame)) ∧ H' = H) := fun H => by
    have := acalls_weak (args := [.agg [I l.vars, Int.sl l.params, Int.sl l.rets, I l.frame, nilS]]) (.cons (.aggL (.cons (.refl _) (.cons (.refl _) (.cons (.refl _) (.cons (.refl _) (.cons (.nil 13) .nil)))))) .nil) (fmay_ok l.vars l.params l.rets l.frame none hp hr H)
    rwa [show node01Ok l.vars none = true from rfl, Bool.and_true] at this
  have hm2 : headOk l.vars l.params l.rets l.frame = true → ∀ (x : Line) H, ACalls Tryz.prog 36 [.agg [I l.vars, nilS, nilS, I 0, .vs 13 [[I 1, I x.ins.kind, I x.ins.op, I x.ins.d, I x.ins.a, I x.ins.b, I x.ins.c, U x.ins.word, Bo x.ins.stack, I 0, nilS, nilS, nilS]]]] H (fun e H' => e = .ret (Bo (insOk l.vars x.ins)) ∧ H' = H) := fun hh x H => by
    have := acalls_weak (args := [.agg [I l.vars, nilS, nilS, I 0, .vs 13 [[I 1, I x.ins.kind, I x.ins.op, I x.ins.d, I x.ins.a, I x.ins.b, I x.ins.c, U x.ins.word, Bo x.ins.stack, I 0, nilS, nilS, nilS]]]])
      (.cons (.aggL (.cons (.refl _) (.cons (.nil 1) (.cons (.nil 1) (.cons (.refl _) (.cons (.vsR (.cons (.append (.refl [I 1, I x.ins.kind, I x.ins.op, I x.ins.d, I x.ins.a, I x.ins.b, I x.ins.c, U x.ins.word, Bo x.ins.stack, I 0]) (.cons (.nil 13) (.cons (.nil 13) (.cons (.nil 13) .nil)))) .nil)) .nil)))))) .nil)
      (fmay_ok l.vars [] [] 0 (some x.ins) (by simp) (by simp) H)
    have h0 : headOk l.vars [] [] 0 = true := by
      unfold headOk at hh ⊢
      simp only [Bool.and_eq_true, decide_eq_true_eq] at hh
      obtain ⟨⟨⟨⟨⟨⟨⟨a1, a2⟩, _⟩, _⟩, _⟩, _⟩, _⟩, _⟩ := hh
      simp [paramsOk, a1, a2]
    rwa [h0, Bool.true_and, show node01Ok l.vars (some x.ins) = insOk l.vars x.ins from rfl] at this
  simp -dsimp
  repeat' ((with_reducible first | refine And.intro ?_ ?_ | refine guardVW_introTD (fun _ => ?_) (fun _ => ?_) | refine guardVW_introFD (fun _ => ?_) (fun _ => ?_) | refine condVW_introD (fun _ => ?_) (fun _ => ?_) | refine guardVW_introTE (fun _ => ?_) (fun _ _ _ => ?_) | refine guardVW_introFE (fun _ => ?_) (fun _ _ _ => ?_) | refine condVW_introE (fun _ => ?_) (fun _ _ _ => ?_) | refine guardVW_introTNE (fun _ _ _ => ?_) (fun _ => ?_) | refine guardVW_introFNE (fun _ _ _ => ?_) (fun _ => ?_) | refine condVW_introNE (fun _ _ _ => ?_) (fun _ => ?_) | refine guardVW_introTB (fun _ => ?_) (fun _ => ?_) | refine guardVW_introFB (fun _ => ?_) (fun _ => ?_) | refine condVW_introB (fun _ => ?_) (fun _ => ?_) | refine guardVW_introT (fun _ => ?_) (fun _ => ?_) | refine guardVW_introF (fun _ => ?_) (fun _ => ?_) | refine condVW_intro (fun _ => ?_) (fun _ => ?_) | refine acallsW_det (hm1 _) ?_ | refine callDW_intro (hm1 _) ?_) <;> simp -dsimp [*])
  · refine leaf.out _ _ ?_
    rename_i h
    simp [Linear.ok]; omega
  · refine leaf.out _ _ ?_
    rename_i h
    simp [Linear.ok, h]
  rename_i h64 hhead
  have hl64 : l.code.length ≤ 65536 := by omega
  obtain ⟨M, hM⟩ : ∃ M, M = H ++ [Blk.box 25 [I l.vars, Int.sl l.params, Int.sl l.rets, I l.frame, Line.sl l.code], .map [], .box 88 [.hm (H.length + 1)]] := ⟨_, rfl⟩
  have hMl : M.length = H.length + 3 := by rw [hM]; simp
  have hM0 : M = M.set (H.length + 1) (.map (stand [])) ++ [] := by
    rw [List.append_nil, hM]; simp [stand]
  rw [← hM]
  refine loop_rule (hn := fun _ => false) (od := fun _ => none) (fun (i : Nat) f H' => (∃ seen L, H' = M.set (H.length + 1) (.map (stand seen)) ++ L ∧ linesSeen l.vars (l.code.drop i) seen = linesSeen l.vars l.code []) ∧ f 1 = .bp H.length 0 ∧ f 3 = .bp (H.length + 2) 0 ∧ f 26 = Line.sl l.code ∧ f 27 = I l.code.length ∧ f 28 = I i ∧ i ≤ l.code.length) (fun i => l.code.length - i) (by kernel_rfl) 0 (by refine ⟨⟨[], [], hM0, rfl⟩, ?_⟩; simp) ?_
  rintro i f H' ⟨⟨seen, L, rfl, hseen⟩, f1, f3, f26, f27, f28, hi⟩
  have back : ∀ X, ∃ X', M.set (H.length + 1) (.map (stand seen)) ++ L ++ X = H ++ X' := by
    intro X; rw [hM, List.set_append_right _ _ (by omega)]; simp only [List.append_assoc]; exact ⟨_, rfl⟩
  obtain ⟨N, hN⟩ : ∃ N, N = M.set (H.length + 1) (.map (stand seen)) ++ L := ⟨_, rfl⟩
  have hNl : H.length + 1 < N.length := by rw [hN]; simp; omega
  have g1 : ∀ X, (N ++ X)[H.length]? = some (Blk.box 25 [I l.vars, Int.sl l.params, Int.sl l.rets, I l.frame, Line.sl l.code]) := by
    intro X; rw [hN, hM]; simp
  have g2 : ∀ X, (N ++ X)[H.length + 2]? = some (.box 88 [.hm (H.length + 1)]) := by
    intro X; rw [hN, hM]; simp
  have g3 : ∀ X, mapEs (N ++ X) (.hm (H.length + 1)) = some (stand seen) := by
    intro X; rw [hN, hM]; simp [mapEs]
  have g1' : ∀ Y X, (N.set (H.length + 1) Y ++ X)[H.length]? = some (Blk.box 25 [I l.vars, Int.sl l.params, Int.sl l.rets, I l.frame, Line.sl l.code]) := by
    intro Y X; rw [hN, hM]; simp
  rw [← hN]
  have gs : ∀ X Y, (N ++ X).set (H.length + 1) Y = N.set (H.length + 1) Y ++ X := by
    intro X Y; rw [List.set_append_left _ _ hNl]
  have e1 := fun Y X => m1_getE (H := N) (k := H.length + 1) Y X
  have e2 := fun Y X j => m1_getN (H := N) (k := H.length + 1) Y X j
  have e3 := fun Y Z X => m1_setE (H := N) (k := H.length + 1) Y Z X
  have e4 := fun Y Z X j => m1_setN (H := N) (k := H.length + 1) Y Z X j
  have hkM : H.length + 1 < M.length := by omega
  have backL : ∀ Y X, ∃ X', N.set (H.length + 1) Y ++ X = H ++ X' := by
    intro Y X; rw [hN, m1_set hkM, hM, List.set_append_right _ _ (by omega)]; simp only [List.append_assoc]; exact ⟨_, rfl⟩
  replace back := Hid.mk back
  replace backL := Hid.mk backL
  replace hM := Hid.mk hM
  replace hM0 := Hid.mk hM0
  replace hN := Hid.mk hN
  replace hseen := Hid.mk hseen
  replace hi := Hid.mk hi
  simp -dsimp [f1, f3, f26, f27, f28]
  refine condVW_introD (fun hlt => ?_) (fun hlt => ?_)
  · have hf := stand_find l.code[i].label seen
    have hset := stand_set l.code[i].label seen
    have fail : Hid (lineSeen l.vars l.code[i] seen = none → ∀ X, Tidy H (fun e H' => e = AE.ret (Bo l.ok) ∧ H' = H) (AE.ret (AV.v (Value.bool false))) (N ++ X)) := ⟨fun h X => by
      obtain ⟨X', hX⟩ := back.out X
      rw [hN.out, hX]
      refine leaf.out _ _ ?_
      have h2 := hseen.out
      rw [drop_cons hlt, linesSeen, h] at h2
      simp only [Option.bind_none] at h2
      simp [Linear.ok, ← h2]⟩
    have failL : Hid (lineSeen l.vars l.code[i] seen = none → ∀ Y X, Tidy H (fun e H' => e = AE.ret (Bo l.ok) ∧ H' = H) (AE.ret (AV.v (Value.bool false))) (N.set (H.length + 1) Y ++ X)) := ⟨fun h Y X => by
      obtain ⟨X', hX⟩ := backL.out Y X
      rw [hX]
      refine leaf.out _ _ ?_
      have h2 := hseen.out
      rw [drop_cons hlt, linesSeen, h] at h2
      simp only [Option.bind_none] at h2
      simp [Linear.ok, ← h2]⟩
    have next : Hid (lineSeen l.vars l.code[i] seen = some seen → ∀ X, ∃ y, l.code.length - y < l.code.length - i ∧ (∃ seen, (∃ x, N ++ X = M.set (H.length + 1) (.map (stand seen)) ++ x) ∧ linesSeen l.vars (l.code.drop y) seen = linesSeen l.vars l.code []) ∧ IntKind.i64.wrap ((i : Int) + 1) = (y : Int) ∧ y ≤ l.code.length) := ⟨fun h X => by
      have h2 := hseen.out
      rw [drop_cons hlt, linesSeen, h] at h2
      simp only [Option.bind_some] at h2
      exact ⟨i + 1, by omega, ⟨seen, ⟨L ++ X, by rw [hN.out, List.append_assoc]⟩, h2⟩, wrapS (by omega), by omega⟩⟩
    have nextL : Hid (lineSeen l.vars l.code[i] seen = some (seen ++ [l.code[i].label]) → ∀ X, ∃ y, l.code.length - y < l.code.length - i ∧ (∃ seen_1, (∃ x, N.set (H.length + 1) (.map (stand (seen ++ [l.code[i].label]))) ++ X = M.set (H.length + 1) (.map (stand seen_1)) ++ x) ∧ linesSeen l.vars (l.code.drop y) seen_1 = linesSeen l.vars l.code []) ∧ IntKind.i64.wrap ((i : Int) + 1) = (y : Int) ∧ y ≤ l.code.length) := ⟨fun h X => by
      have h2 := hseen.out
      rw [drop_cons hlt, linesSeen, h] at h2
      simp only [Option.bind_some] at h2
      exact ⟨i + 1, by omega, ⟨_, ⟨L ++ X, by rw [hN.out, m1_set hkM, List.append_assoc]⟩, h2⟩, wrapS (by omega), by omega⟩⟩
    simp -dsimp [f1, f3, f26, f27, f28, List.getElem?_eq_getElem, hlt]
    by_cases hmem : l.code[i].label ∈ seen
    all_goals (simp only [hmem, if_true, if_false, not_true, not_false_iff, true_implies, false_implies] at hf hset)
    all_goals repeat' ((with_reducible first | refine And.intro ?_ ?_ | refine guardVW_introTD (fun _ => ?_) (fun _ => ?_) | refine guardVW_introFD (fun _ => ?_) (fun _ => ?_) | refine condVW_introD (fun _ => ?_) (fun _ => ?_) | refine guardVW_introTE (fun _ => ?_) (fun _ _ _ => ?_) | refine guardVW_introFE (fun _ => ?_) (fun _ _ _ => ?_) | refine condVW_introE (fun _ => ?_) (fun _ _ _ => ?_) | refine guardVW_introTNE (fun _ _ _ => ?_) (fun _ => ?_) | refine guardVW_introFNE (fun _ _ _ => ?_) (fun _ => ?_) | refine condVW_introNE (fun _ _ _ => ?_) (fun _ => ?_) | refine guardVW_introTB (fun _ => ?_) (fun _ => ?_) | refine guardVW_introFB (fun _ => ?_) (fun _ => ?_) | refine condVW_introB (fun _ => ?_) (fun _ => ?_) | refine guardVW_introT (fun _ => ?_) (fun _ => ?_) | refine guardVW_introF (fun _ => ?_) (fun _ => ?_) | refine condVW_intro (fun _ => ?_) (fun _ => ?_) | refine acallsW_det (hm2 hhead _ _) ?_ | refine callDW_intro (hm2 hhead _ _) ?_) <;> simp -dsimp [*])
    all_goals first | refine fail.out ?_ _ | refine failL.out ?_ _ _ | refine next.out ?_ _ | refine nextL.out ?_ _
    all_goals clear hm1 hm2 g1 g2 g3 g1' gs e1 e2 e3 e4 f1 f3 f26 f27 f28 fail failL next nextL leaf back backL hf hset hN hM hM0
    all_goals try simp only [zero_ins] at *
    all_goals first | (simp_all [lineSeen, lineOk, isVr]; done) | (simp_all [lineSeen, lineOk, isVr]; omega) | (simp [lineSeen, lineOk, isVr, *]; done) | grind [lineSeen, lineOk, isVr]
  · have hcf := line_containsF l.code (jumps seen) 38 [.bp (H.length + 2) 0] (by kernel_rfl) (by omega) N (fun x _ => jumps_ok x seen (H.length + 2) (H.length + 1) N _ (by simpa using g2 []) (by have := g3 []; simp only [mapEs, List.append_nil] at this; revert this; split <;> simp_all))
    have n1 := g1 []
    have n2 := g2 []
    simp only [List.append_nil] at n1 n2
    simp -dsimp [f1, f3, f26, f27, f28, n1]
    repeat' ((with_reducible first | refine And.intro ?_ ?_ | refine guardVW_introTD (fun _ => ?_) (fun _ => ?_) | refine guardVW_introFD (fun _ => ?_) (fun _ => ?_) | refine condVW_introD (fun _ => ?_) (fun _ => ?_) | refine guardVW_introTE (fun _ => ?_) (fun _ _ _ => ?_) | refine guardVW_introFE (fun _ => ?_) (fun _ _ _ => ?_) | refine condVW_introE (fun _ => ?_) (fun _ _ _ => ?_) | refine guardVW_introTNE (fun _ _ _ => ?_) (fun _ => ?_) | refine guardVW_introFNE (fun _ _ _ => ?_) (fun _ => ?_) | refine condVW_introNE (fun _ _ _ => ?_) (fun _ => ?_) | refine guardVW_introTB (fun _ => ?_) (fun _ => ?_) | refine guardVW_introFB (fun _ => ?_) (fun _ => ?_) | refine condVW_introB (fun _ => ?_) (fun _ => ?_) | refine guardVW_introT (fun _ => ?_) (fun _ => ?_) | refine guardVW_introF (fun _ => ?_) (fun _ => ?_) | refine condVW_intro (fun _ => ?_) (fun _ => ?_) | refine acallsW_det (hcf) ?_ | refine callDW_intro (hcf) ?_) <;> simp -dsimp [*])
    obtain ⟨X', hX⟩ := back.out []
    rw [List.append_nil, ← hN.out] at hX
    rw [hX]
    refine leaf.out _ _ ?_
    have h2 := hseen.out
    rw [drop_end hlt, linesSeen] at h2
    simp [Linear.ok, ← h2, hhead, hl64]
end Go.Proofs
