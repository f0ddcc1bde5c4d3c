/- Linear code that may be (no program in sight). -/
import Derived.Test.YteoimifnfkpdeaaGreatG1toL8
set_option linter.unusedVariables false
set_option linter.unusedSimpArgs false
set_option maxHeartbeats 4000000
set_option maxRecDepth 100000
namespace Go.Proofs
open Go.Mu
def isVr (n vars : Int) : Bool := decide (0 ≤ n) && decide (n < vars)
theorem isVr_iff {n vars : Int} : isVr n vars = true ↔ 0 ≤ n ∧ n < vars := by simp [isVr]
def arityI (op : Int) : Int := if op = 4 ∨ op = 5 then 1 else if 6 ≤ op ∧ op ≤ 20 then 2 else if op = 21 then 3 else 0
def insOk (vars : Int) (x : Ins) : Bool :=
  (x.kind == 1 && isVr x.d vars && x.op == 0 && x.a == 0 && x.b == 0 && x.c == 0 && !x.stack) ||
  (x.kind == 2 && isVr x.d vars && isVr x.a vars && x.op == 0 && x.b == 0 && x.c == 0 && x.word == 0 && !x.stack) ||
  (x.kind == 3 && isVr x.d vars && isVr x.a vars && x.word == 0 && !x.stack &&
    ((arityI x.op == 1 && x.b == 0 && x.c == 0) || (arityI x.op == 2 && isVr x.b vars && x.c == 0) || (arityI x.op == 3 && isVr x.b vars && isVr x.c vars))) ||
  (x.kind == 4 && isVr x.d vars && (x.a == -1 || isVr x.a vars) && x.op == 0 && x.b == 0 && x.c == 0) ||
  (x.kind == 5 && x.d == 0 && (x.a == -1 || isVr x.a vars) && isVr x.b vars && x.op == 0 && x.c == 0)
def zeroIns : Ins := ⟨0, 0, 0, 0, 0, 0, 0, false⟩
def paramsOk (vars : Int) (seen : List Int) : List Int → Bool
  | [] => true
  | x :: l => isVr x vars && !decide (x ∈ seen) && paramsOk vars (seen ++ [x]) l
theorem paramsOk_drop {vars : Int} {l : List Int} {i : Nat} (h : i < l.length) : paramsOk vars (l.take i) (l.drop i) = (isVr l[i] vars && !decide (l[i] ∈ l.take i) && paramsOk vars (l.take (i + 1)) (l.drop (i + 1))) := by
  rw [drop_cons h, paramsOk, List.take_succ_eq_append_getElem h]
theorem paramsOk_iff {vars : Int} : ∀ {l seen : List Int}, paramsOk vars seen l = true ↔ (∀ x ∈ l, isVr x vars = true) ∧ l.Nodup ∧ ∀ x ∈ l, x ∉ seen
  | [], seen => by simp [paramsOk]
  | x :: l, seen => by
    rw [paramsOk, Bool.and_eq_true, Bool.and_eq_true, paramsOk_iff, List.nodup_cons]
    simp only [Bool.not_eq_true', decide_eq_false_iff_not, List.mem_cons, List.mem_append, List.not_mem_nil, or_false]
    constructor
    · rintro ⟨⟨h1, h2⟩, h3, h4, h5⟩
      refine ⟨?_, ⟨fun hx => h5 x hx (.inr rfl), h4⟩, ?_⟩
      · rintro y (rfl | hy)
        · exact h1
        · exact h3 y hy
      · rintro y (rfl | hy)
        · exact h2
        · exact fun hs => h5 y hy (.inl hs)
    · rintro ⟨h1, ⟨h2, h3⟩, h4⟩
      refine ⟨⟨h1 x (.inl rfl), h4 x (.inl rfl)⟩, fun y hy => h1 y (.inr hy), h3, fun y hy => ?_⟩
      rintro (hs | rfl)
      · exact h4 y (.inr hy) hs
      · exact h2 hy
def headOk (vars : Int) (params rets : List Int) (frame : Int) : Bool :=
  decide (0 ≤ vars) && decide (vars ≤ 16384) && decide (0 ≤ frame) && decide (frame ≤ 8192) && decide (frame % 16 = 0) && decide (rets.length ≤ 16384) && paramsOk vars [] params && rets.all (isVr · vars)
def lineOk (vars : Int) (x : Line) : Bool :=
  if x.kind = 1 then insOk vars x.ins && (x.var == 0 && x.label == 0)
  else if x.kind = 2 ∨ x.kind = 3 then decide (x.ins = zeroIns) && x.var == 0 && decide (0 ≤ x.label)
  else if x.kind = 4 then decide (x.ins = zeroIns) && isVr x.var vars && decide (0 ≤ x.label)
  else if x.kind = 5 then decide (x.ins = zeroIns) && x.var == 0 && x.label == 0
  else false
def lineSeen (vars : Int) (x : Line) (seen : List Int) : Option (List Int) :=
  if lineOk vars x = true then (if x.kind = 2 then (if x.label ∈ seen then none else some (seen ++ [x.label])) else some seen) else none
def linesSeen (vars : Int) : List Line → List Int → Option (List Int)
  | [], s => some s
  | x :: l, s => (lineSeen vars x s).bind (linesSeen vars l)
def jumps (s : List Int) (x : Line) : Bool := (x.kind == 3 || x.kind == 4) && !decide (x.label ∈ s)
def Linear.ok (l : Linear) : Bool :=
  decide (l.code.length ≤ 65536) && headOk l.vars l.params l.rets l.frame && (match linesSeen l.vars l.code [] with | none => false | some s => !l.code.any (jumps s))
def labs (c : List Line) : List Int := (c.filter fun x => x.kind == 2).map Line.label
theorem labs_cons (x : Line) (c : List Line) : labs (x :: c) = if x.kind = 2 then x.label :: labs c else labs c := by
  unfold labs
  rw [List.filter_cons]
  by_cases h : x.kind = 2
  · simp [h]
  · have : (x.kind == 2) = false := by simpa using h
    simp [h, this]
theorem linesSeen_iff {vars : Int} : ∀ {c : List Line} {s s' : List Int}, linesSeen vars c s = some s' ↔ (∀ x ∈ c, lineOk vars x = true) ∧ s' = s ++ labs c ∧ (labs c).Nodup ∧ ∀ a ∈ labs c, a ∉ s
  | [], s, s' => by
    simp [linesSeen, labs]
    exact ⟨fun h => h.symm, fun h => h.symm⟩
  | x :: c, s, s' => by
    rw [linesSeen, lineSeen, labs_cons]
    by_cases h : lineOk vars x = true
    · rw [if_pos h]
      by_cases h2 : x.kind = 2
      · rw [if_pos h2, if_pos h2]
        by_cases hm : x.label ∈ s
        · rw [if_pos hm]
          simp only [Option.bind_none, reduceCtorEq, false_iff]
          rintro ⟨_, _, _, h4⟩
          exact h4 _ (List.mem_cons_self ..) hm
        · rw [if_neg hm, Option.bind_some, linesSeen_iff, List.nodup_cons]
          constructor
          · rintro ⟨a1, a2, a3, a4⟩
            refine ⟨fun y hy => ?_, by rw [a2]; simp, ⟨fun hx => a4 _ hx (by simp), a3⟩, fun a ha => ?_⟩
            · rcases List.mem_cons.1 hy with rfl | hy
              · exact h
              · exact a1 y hy
            · rcases List.mem_cons.1 ha with rfl | ha
              · exact hm
              · exact fun hs => a4 a ha (List.mem_append_left _ hs)
          · rintro ⟨a1, a2, ⟨a3, a4⟩, a5⟩
            refine ⟨fun y hy => a1 y (List.mem_cons_of_mem _ hy), by rw [a2]; simp, a4, fun a ha hs => ?_⟩
            rcases List.mem_append.1 hs with hs | hs
            · exact a5 a (List.mem_cons_of_mem _ ha) hs
            · rw [List.mem_singleton] at hs
              subst hs
              exact a3 ha
      · rw [if_neg h2, if_neg h2, Option.bind_some, linesSeen_iff]
        constructor
        · rintro ⟨a1, a2⟩
          exact ⟨fun y hy => (List.mem_cons.1 hy).elim (fun e => e ▸ h) (a1 y), a2⟩
        · rintro ⟨a1, a2⟩
          exact ⟨fun y hy => a1 y (List.mem_cons_of_mem _ hy), a2⟩
    · rw [if_neg h]
      simp only [Option.bind_none, reduceCtorEq, false_iff]
      exact fun q => h (q.1 x (List.mem_cons_self ..))
theorem whr_cons (x : Line) (c : List Line) (a : Int) : whr (x :: c) a = if isLab a x = true then 0 else whr c a + 1 := by
  unfold whr
  rw [List.findIdx_cons]
  cases isLab a x <;> rfl
theorem isLab_iff {a : Int} {x : Line} : isLab a x = true ↔ x.kind = 2 ∧ x.label = a := by simp [isLab]
theorem whr_in {a : Int} : ∀ {c : List Line}, whr c a < c.length ↔ a ∈ labs c
  | [] => by simp [whr, labs]
  | x :: c => by
    rw [whr_cons, labs_cons]
    by_cases h : isLab a x = true
    · rw [if_pos h]
      obtain ⟨h1, h2⟩ := isLab_iff.1 h
      simp [h1, h2]
    · rw [if_neg h, List.length_cons, Nat.add_lt_add_iff_right, whr_in]
      split
      · rename_i h2
        rw [List.mem_cons]
        constructor
        · exact .inr
        · rintro (rfl | h3)
          · exact absurd (isLab_iff.2 ⟨h2, rfl⟩) h
          · exact h3
      · rfl
theorem whr_nodup : ∀ {c : List Line}, (labs c).Nodup ↔ ∀ i x, c[i]? = some x → x.kind = 2 → whr c x.label = i
  | [] => by simp [labs]
  | x :: c => by
    rw [labs_cons]
    constructor
    · intro h i y hy hk
      rw [whr_cons]
      cases i with
      | zero =>
        simp only [List.getElem?_cons_zero, Option.some.injEq] at hy
        subst hy
        rw [if_pos (isLab_iff.2 ⟨hk, rfl⟩)]
      | succ i =>
        rw [List.getElem?_cons_succ] at hy
        have hmem : y.label ∈ labs c := by
          unfold labs
          exact List.mem_map.2 ⟨y, List.mem_filter.2 ⟨List.mem_of_getElem? hy, by simp [hk]⟩, rfl⟩
        split at h
        · rename_i h2
          obtain ⟨h3, h4⟩ := List.nodup_cons.1 h
          rw [if_neg, (whr_nodup.1 h4) i y hy hk]
          intro hl
          rw [(isLab_iff.1 hl).2] at h3
          exact h3 hmem
        · rename_i h2
          rw [if_neg (fun hl => h2 (isLab_iff.1 hl).1), (whr_nodup.1 h) i y hy hk]
    · intro h
      have h2 : (labs c).Nodup := whr_nodup.2 fun i y hy hk => by
        have := h (i + 1) y (by rw [List.getElem?_cons_succ]; exact hy) hk
        rw [whr_cons] at this
        split at this
        · cases this
        · omega
      split
      · rename_i hk
        refine List.nodup_cons.2 ⟨fun hm => ?_, h2⟩
        unfold labs at hm
        obtain ⟨y, hy, he⟩ := List.mem_map.1 hm
        obtain ⟨hy, hk2⟩ := List.mem_filter.1 hy
        obtain ⟨i, hi⟩ := List.mem_iff_getElem?.1 hy
        have := h (i + 1) y (by rw [List.getElem?_cons_succ]; exact hi) (by simpa using hk2)
        rw [whr_cons, if_pos (isLab_iff.2 ⟨hk, he.symm⟩)] at this
        cases this
      · exact h2
structure LinOk (l : Linear) : Prop where
  len : l.code.length ≤ 65536
  vars : 0 ≤ l.vars ∧ l.vars ≤ 16384
  params : ∀ v ∈ l.params, 0 ≤ v ∧ v < l.vars
  once : l.params.Nodup
  rets : ∀ v ∈ l.rets, 0 ≤ v ∧ v < l.vars
  retl : l.rets.length ≤ 16384
  lines : ∀ x ∈ l.code, lineOk l.vars x = true
  uniq : ∀ i x, l.code[i]? = some x → x.kind = 2 → whr l.code x.label = i
  jump : ∀ x ∈ l.code, x.kind = 3 ∨ x.kind = 4 → whr l.code x.label < l.code.length
theorem ok_iff (l : Linear) : l.ok = true ↔ LinOk l ∧ 0 ≤ l.frame ∧ l.frame ≤ 8192 ∧ l.frame % 16 = 0 := by
  unfold Linear.ok headOk
  constructor
  · intro h
    simp only [Bool.and_eq_true, decide_eq_true_eq, List.all_eq_true] at h
    obtain ⟨⟨h1, ⟨⟨⟨⟨⟨⟨h2, h3⟩, h4⟩, h5⟩, h6⟩, h7⟩, h8⟩, h9⟩, h10⟩ := h
    obtain ⟨q1, q2, _⟩ := paramsOk_iff.1 h8
    split at h10
    · cases h10
    · rename_i s hs
      obtain ⟨a1, a2, a3, _⟩ := linesSeen_iff.1 hs
      rw [List.nil_append] at a2
      subst a2
      rw [Bool.not_eq_true', List.any_eq_false] at h10
      refine ⟨⟨h1, ⟨h2, h3⟩, fun v hv => isVr_iff.1 (q1 v hv), q2, fun v hv => isVr_iff.1 (h9 v hv), h7, a1, whr_nodup.1 a3, fun x hx hk => ?_⟩, h4, h5, h6⟩
      have := h10 x hx
      unfold jumps at this
      rw [whr_in]
      rcases hk with hk | hk <;> simpa [hk] using this
  · rintro ⟨h, h4, h5, h6⟩
    simp only [Bool.and_eq_true, decide_eq_true_eq, List.all_eq_true]
    refine ⟨⟨h.len, ⟨⟨⟨⟨⟨⟨h.vars.1, h.vars.2⟩, h4⟩, h5⟩, h6⟩, h.retl⟩, paramsOk_iff.2 ⟨fun v hv => isVr_iff.2 (h.params v hv), h.once, by simp⟩⟩, fun v hv => isVr_iff.2 (h.rets v hv)⟩, ?_⟩
    have hs : linesSeen l.vars l.code [] = some (labs l.code) := linesSeen_iff.2 ⟨h.lines, by simp, whr_nodup.2 h.uniq, by simp⟩
    rw [hs]
    simp only [Bool.not_eq_true', List.any_eq_false]
    intro x hx
    unfold jumps
    by_cases hk : x.kind = 3 ∨ x.kind = 4
    · have := whr_in.1 (h.jump x hx hk)
      simp [this]
    · have : (x.kind == 3 || x.kind == 4) = false := by simpa [not_or] using hk
      simp [this]
theorem line_in {vars : Int} {x : Line} (h : lineOk vars x = true) : (1 ≤ x.kind ∧ x.kind ≤ 5) ∧ (∀ v ∈ x.raw, 0 ≤ v ∧ v < vars) ∧ (∀ v ∈ x.defs, 0 ≤ v ∧ v < vars) := by
  unfold lineOk at h
  split at h
  · rename_i h1
    rw [Bool.and_eq_true] at h
    have hi := h.1
    unfold insOk at hi
    simp only [Bool.or_eq_true, Bool.and_eq_true, beq_iff_eq, Bool.not_eq_true', isVr_iff] at hi
    refine ⟨by omega, ?_, ?_⟩
    · unfold Line.raw
      rw [if_neg (by omega), if_pos h1]
      intro v hv
      rcases hi with (((hi | hi) | hi) | hi) | hi
      · have k : x.ins.kind = 1 := by simp_all
        simp [k] at hv
      · have k : x.ins.kind = 2 := by simp_all
        simp [k] at hv
        subst hv
        exact hi.1.1.1.1.1.2
      · have k : x.ins.kind = 3 := by simp_all
        obtain ⟨⟨⟨⟨⟨_, hd⟩, ha⟩, _⟩, _⟩, hh⟩ := hi
        rw [if_neg (by omega), if_pos k] at hv
        simp only [List.mem_append, List.mem_singleton] at hv
        rcases hv with (rfl | hv) | hv
        · exact ha
        · split at hv
          · simp at hv
          · rename_i ho
            rw [List.mem_singleton] at hv
            subst hv
            rcases hh with (hh | hh) | hh
            · have := hh.1.1
              unfold arityI at this
              rw [if_neg ho] at this
              split at this
              · cases this
              · split at this <;> cases this
            · exact hh.1.2
            · exact hh.1.2
        · split at hv
          · rename_i ho
            rw [List.mem_singleton] at hv
            subst hv
            rw [ho] at hh
            rcases hh with (hh | hh) | hh
            · exact absurd hh.1.1 (by decide)
            · exact absurd hh.1.1 (by decide)
            · exact hh.2
          · simp at hv
      · have k : x.ins.kind = 4 := by simp_all
        obtain ⟨⟨⟨⟨⟨_, hd⟩, ha⟩, _⟩, _⟩, _⟩ := hi
        rw [if_neg (by omega), if_neg (by omega), if_neg (by omega), if_pos k] at hv
        split at hv
        · rw [List.mem_singleton] at hv
          subst hv
          rcases ha with ha | ha
          · omega
          · exact ha
        · simp at hv
      · have k : x.ins.kind = 5 := by simp_all
        obtain ⟨⟨⟨⟨⟨_, hd⟩, ha⟩, hb⟩, _⟩, _⟩ := hi
        rw [if_neg (by omega), if_neg (by omega), if_pos k] at hv
        rw [List.mem_append, List.mem_singleton] at hv
        rcases hv with rfl | hv
        · exact hb
        · split at hv
          · rw [List.mem_singleton] at hv
            subst hv
            rcases ha with ha | ha
            · omega
            · exact ha
          · simp at hv
    · unfold Line.defs
      intro v hv
      split at hv
      · rename_i hk
        rw [List.mem_singleton] at hv
        subst hv
        rcases hi with (((hi | hi) | hi) | hi) | hi
        · exact hi.1.1.1.1.1.2
        · exact hi.1.1.1.1.1.1.2
        · exact hi.1.1.1.1.2
        · exact hi.1.1.1.1.2
        · exact absurd hi.1.1.1.1.1 hk.2
      · simp at hv
  · rename_i h1
    have hd : x.defs = [] := by unfold Line.defs; rw [if_neg (fun h => h1 h.1)]
    rw [hd]
    refine ⟨?_, ?_, by simp⟩
    · split at h
      · omega
      · split at h
        · omega
        · split at h
          · omega
          · cases h
    · unfold Line.raw
      intro v hv
      split at hv
      · rename_i h4
        rw [if_neg (by omega), if_pos h4] at h
        simp only [Bool.and_eq_true, isVr_iff] at h
        rw [List.mem_singleton] at hv
        subst hv
        exact h.1.2
      · first | (rw [if_neg h1] at hv; simp at hv) | simp at hv
theorem nxt_in {l : Linear} (h : LinOk l) {i : Nat} {k : Int} (hk : k ∈ nxt l i) : 0 ≤ k ∧ k ≤ l.code.length ∧ i < l.code.length := by
  unfold nxt at hk
  split at hk
  · simp at hk
  · rename_i x hx
    have hi := (List.getElem?_eq_some_iff.1 hx).1
    have hm := List.mem_of_getElem? hx
    split at hk
    · simp at hk; omega
    · split at hk
      · rename_i h3
        have := h.jump x hm (.inl h3)
        simp at hk; omega
      · split at hk
        · rename_i h4
          have := h.jump x hm (.inr h4)
          rw [riseL_mem] at hk
          simp at hk; omega
        · simp at hk; omega
theorem live_in {l : Linear} (h : LinOk l) {i : Nat} {v : Int} (hl : LiveAt l i v) : (0 ≤ v ∧ v < l.vars) ∧ i ≤ l.code.length := by
  induction hl with
  | told hv => exact ⟨h.rets _ hv, Nat.le_refl _⟩
  | read hx hv => exact ⟨(line_in (h.lines _ (List.mem_of_getElem? hx))).2.1 _ hv, by have := (List.getElem?_eq_some_iff.1 hx).1; omega⟩
  | way hx _ hk _ ih => exact ⟨ih.1, by have := (List.getElem?_eq_some_iff.1 hx).1; omega⟩
theorem live_mem {l : Linear} (h : LinOk l) {i : Nat} {v : Int} : v ∈ liveL l i ↔ LiveAt l i v := by
  rw [liveL_mem]
  exact ⟨fun h => h.2, fun q => ⟨(live_in h q).1, q⟩⟩
end Go.Proofs
namespace Go.Proofs
open Go.Mu
noncomputable def behL (l : Linear) (i : Nat) : List Int := riseL ((nxt l i).flatMap fun k => liveL l k.toNat)
def rg (regs : List Int) (v : Int) : Int := regs.getD v.toNat 0
end Go.Proofs
namespace Go.Proofs
open Go.Mu
end Go.Proofs
namespace Go.Proofs
open Go.Mu
def whrI (c : List Line) (a : Int) : Int := if whr c a < c.length then (whr c a : Int) else -1
def refLine (l : Linear) (i : Nat) : Bool := match l.code[i]? with
  | none => true
  | some x => lineOk l.vars x && (!decide (x.kind = 2) || decide (whrI l.code x.label = i)) && (!decide (x.kind = 3 ∨ x.kind = 4) || decide (0 ≤ whrI l.code x.label))
theorem ok_lines (l : Linear) : l.ok = (decide (l.code.length ≤ 65536) && headOk l.vars l.params l.rets l.frame && (List.range l.code.length).all (refLine l)) := by
  have hin : ∀ {i : Nat} {x : Line}, l.code[i]? = some x → i < l.code.length := fun h => (List.getElem?_eq_some_iff.1 h).1
  rw [Bool.eq_iff_iff]
  constructor
  · intro h
    have hh := h
    unfold Linear.ok at hh
    simp only [Bool.and_eq_true] at hh
    obtain ⟨ho, _⟩ := (ok_iff l).1 h
    rw [Bool.and_eq_true, Bool.and_eq_true]
    refine ⟨hh.1, ?_⟩
    rw [List.all_eq_true]
    intro i _
    unfold refLine
    split
    · rfl
    · rename_i x hx
      have hm := List.mem_of_getElem? hx
      simp only [Bool.and_eq_true, Bool.or_eq_true, Bool.not_eq_true', decide_eq_false_iff_not, decide_eq_true_eq]
      refine ⟨⟨ho.lines x hm, ?_⟩, ?_⟩
      · by_cases hk : x.kind = 2
        · right
          have := ho.uniq i x hx hk
          unfold whrI
          rw [this, if_pos (hin hx)]
        · exact .inl hk
      · by_cases hk : x.kind = 3 ∨ x.kind = 4
        · right
          unfold whrI
          rw [if_pos (ho.jump x hm hk)]
          omega
        · exact .inl hk
  · intro h
    simp only [Bool.and_eq_true, decide_eq_true_eq, List.all_eq_true, List.mem_range] at h
    obtain ⟨⟨h1, h2⟩, h3⟩ := h
    have h3 : ∀ (i : Nat) (x : Line), l.code[i]? = some x → lineOk l.vars x = true ∧ (x.kind = 2 → whrI l.code x.label = i) ∧ (x.kind = 3 ∨ x.kind = 4 → 0 ≤ whrI l.code x.label) := fun i x hx => by
      have := h3 i (hin hx)
      unfold refLine at this
      rw [hx] at this
      simp only [Bool.and_eq_true, Bool.or_eq_true, Bool.not_eq_true', decide_eq_false_iff_not, decide_eq_true_eq] at this
      exact ⟨this.1.1, fun hk => this.1.2.elim (fun q => absurd hk q) id, fun hk => this.2.elim (fun q => absurd hk q) id⟩
    have h2' := h2
    unfold headOk at h2
    simp only [Bool.and_eq_true, decide_eq_true_eq, List.all_eq_true] at h2
    obtain ⟨⟨⟨⟨⟨⟨⟨a1, a2⟩, a3⟩, a4⟩, a5⟩, a6⟩, a7⟩, a8⟩ := h2
    obtain ⟨q1, q2, _⟩ := paramsOk_iff.1 a7
    refine (ok_iff l).2 ⟨⟨h1, ⟨a1, a2⟩, fun v hv => isVr_iff.1 (q1 v hv), q2, fun v hv => isVr_iff.1 (a8 v hv), a6, fun x hx => ?_, fun i x hx hk => ?_, fun x hx hk => ?_⟩, a3, a4, a5⟩
    · obtain ⟨i, hi⟩ := List.mem_iff_getElem?.1 hx
      exact (h3 i x hi).1
    · have := (h3 i x hx).2.1 hk
      unfold whrI at this
      split at this <;> omega
    · obtain ⟨i, hi⟩ := List.mem_iff_getElem?.1 hx
      have := (h3 i x hi).2.2 hk
      unfold whrI at this
      split at this
      · assumption
      · omega
end Go.Proofs
namespace Go.Proofs
open Go.Mu
end Go.Proofs
