/- Linear code that may be (no program in sight). -/
import Derived.Test.YtklgcajfkkoacaaGreatG1toL8
import Derived.Test.YtklgcajfkkoacaaGreatME5toME6
import Derived.Test.YtklgcajfkkoacaaGreatFwBoxtoW3
import Derived.Test.YtklgcajfkkoacaaGreatFwYtoL9
set_option linter.unusedVariables false
set_option linter.unusedSimpArgs false
set_option maxHeartbeats 4000000
set_option maxRecDepth 100000
namespace Go.Proofs
open Go.Mu
def isVr (n vars : Int) : Bool := decide (0 ≤ n) && decide (n < vars)
theorem isVr_iff {n vars : Int} : isVr n vars = true ↔ 0 ≤ n ∧ n < vars := by simp [isVr]
def arityI (op : Int) : Int := if op = 4 ∨ op = 5 then 1 else if 6 ≤ op ∧ op ≤ 20 then 2 else if op = 21 then 3 else 0
def insOk (vars : Int) (x : Ins) : Bool :=
  (x.kind == 1 && isVr x.d vars && x.op == 0 && x.a == 0 && x.b == 0 && x.c == 0 && !x.stack) ||
  (x.kind == 2 && isVr x.d vars && isVr x.a vars && x.op == 0 && x.b == 0 && x.c == 0 && x.word == 0 && !x.stack) ||
  (x.kind == 3 && isVr x.d vars && isVr x.a vars && x.word == 0 && !x.stack &&
    ((arityI x.op == 1 && x.b == 0 && x.c == 0) || (arityI x.op == 2 && isVr x.b vars && x.c == 0) || (arityI x.op == 3 && isVr x.b vars && isVr x.c vars))) ||
  (x.kind == 4 && isVr x.d vars && (x.a == -1 || isVr x.a vars) && x.op == 0 && x.b == 0 && x.c == 0) ||
  (x.kind == 5 && x.d == 0 && (x.a == -1 || isVr x.a vars) && isVr x.b vars && x.op == 0 && x.c == 0)
def zeroIns : Ins := ⟨0, 0, 0, 0, 0, 0, 0, false⟩
def paramsOk (vars : Int) (seen : List Int) : List Int → Bool
  | [] => true
  | x :: l => isVr x vars && !decide (x ∈ seen) && paramsOk vars (seen ++ [x]) l
theorem paramsOk_drop {vars : Int} {l : List Int} {i : Nat} (h : i < l.length) : paramsOk vars (l.take i) (l.drop i) = (isVr l[i] vars && !decide (l[i] ∈ l.take i) && paramsOk vars (l.take (i + 1)) (l.drop (i + 1))) := by
  rw [drop_cons h, paramsOk, List.take_succ_eq_append_getElem h]
theorem paramsOk_iff {vars : Int} : ∀ {l seen : List Int}, paramsOk vars seen l = true ↔ (∀ x ∈ l, isVr x vars = true) ∧ l.Nodup ∧ ∀ x ∈ l, x ∉ seen
  | [], seen => by simp [paramsOk]
  | x :: l, seen => by
    rw [paramsOk, Bool.and_eq_true, Bool.and_eq_true, paramsOk_iff, List.nodup_cons]
    simp only [Bool.not_eq_true', decide_eq_false_iff_not, List.mem_cons, List.mem_append, List.not_mem_nil, or_false]
    constructor
    · rintro ⟨⟨h1, h2⟩, h3, h4, h5⟩
      refine ⟨?_, ⟨fun hx => h5 x hx (.inr rfl), h4⟩, ?_⟩
      · rintro y (rfl | hy)
        · exact h1
        · exact h3 y hy
      · rintro y (rfl | hy)
        · exact h2
        · exact fun hs => h5 y hy (.inl hs)
    · rintro ⟨h1, ⟨h2, h3⟩, h4⟩
      refine ⟨⟨h1 x (.inl rfl), h4 x (.inl rfl)⟩, fun y hy => h1 y (.inr hy), h3, fun y hy => ?_⟩
      rintro (hs | rfl)
      · exact h4 y (.inr hy) hs
      · exact h2 hy
def headOk (vars : Int) (params rets : List Int) (frame : Int) : Bool :=
  decide (0 ≤ vars) && decide (vars ≤ 16384) && decide (0 ≤ frame) && decide (frame ≤ 8192) && decide (frame % 16 = 0) && decide (rets.length ≤ 16384) && paramsOk vars [] params && rets.all (isVr · vars)
def lineOk (vars : Int) (x : Line) : Bool :=
  if x.kind = 1 then insOk vars x.ins && (x.var == 0 && x.label == 0)
  else if x.kind = 2 ∨ x.kind = 3 then decide (x.ins = zeroIns) && x.var == 0 && decide (0 ≤ x.label)
  else if x.kind = 4 then decide (x.ins = zeroIns) && isVr x.var vars && decide (0 ≤ x.label)
  else if x.kind = 5 then decide (x.ins = zeroIns) && x.var == 0 && x.label == 0
  else false
def lineSeen (vars : Int) (x : Line) (seen : List Int) : Option (List Int) :=
  if lineOk vars x = true then (if x.kind = 2 then (if x.label ∈ seen then none else some (seen ++ [x.label])) else some seen) else none
def linesSeen (vars : Int) : List Line → List Int → Option (List Int)
  | [], s => some s
  | x :: l, s => (lineSeen vars x s).bind (linesSeen vars l)
def jumps (s : List Int) (x : Line) : Bool := (x.kind == 3 || x.kind == 4) && !decide (x.label ∈ s)
def Linear.ok (l : Linear) : Bool :=
  decide (l.code.length ≤ 65536) && headOk l.vars l.params l.rets l.frame && (match linesSeen l.vars l.code [] with | none => false | some s => !l.code.any (jumps s))
def labs (c : List Line) : List Int := (c.filter fun x => x.kind == 2).map Line.label
theorem labs_cons (x : Line) (c : List Line) : labs (x :: c) = if x.kind = 2 then x.label :: labs c else labs c := by
  unfold labs
  rw [List.filter_cons]
  by_cases h : x.kind = 2
  · simp [h]
  · have : (x.kind == 2) = false := by simpa using h
    simp [h, this]
theorem linesSeen_iff {vars : Int} : ∀ {c : List Line} {s s' : List Int}, linesSeen vars c s = some s' ↔ (∀ x ∈ c, lineOk vars x = true) ∧ s' = s ++ labs c ∧ (labs c).Nodup ∧ ∀ a ∈ labs c, a ∉ s
  | [], s, s' => by
    simp [linesSeen, labs]
    exact ⟨fun h => h.symm, fun h => h.symm⟩
  | x :: c, s, s' => by
    rw [linesSeen, lineSeen, labs_cons]
    by_cases h : lineOk vars x = true
    · rw [if_pos h]
      by_cases h2 : x.kind = 2
      · rw [if_pos h2, if_pos h2]
        by_cases hm : x.label ∈ s
        · rw [if_pos hm]
          simp only [Option.bind_none, reduceCtorEq, false_iff]
          rintro ⟨_, _, _, h4⟩
          exact h4 _ (List.mem_cons_self ..) hm
        · rw [if_neg hm, Option.bind_some, linesSeen_iff, List.nodup_cons]
          constructor
          · rintro ⟨a1, a2, a3, a4⟩
            refine ⟨fun y hy => ?_, by rw [a2]; simp, ⟨fun hx => a4 _ hx (by simp), a3⟩, fun a ha => ?_⟩
            · rcases List.mem_cons.1 hy with rfl | hy
              · exact h
              · exact a1 y hy
            · rcases List.mem_cons.1 ha with rfl | ha
              · exact hm
              · exact fun hs => a4 a ha (List.mem_append_left _ hs)
          · rintro ⟨a1, a2, ⟨a3, a4⟩, a5⟩
            refine ⟨fun y hy => a1 y (List.mem_cons_of_mem _ hy), by rw [a2]; simp, a4, fun a ha hs => ?_⟩
            rcases List.mem_append.1 hs with hs | hs
            · exact a5 a (List.mem_cons_of_mem _ ha) hs
            · rw [List.mem_singleton] at hs
              subst hs
              exact a3 ha
      · rw [if_neg h2, if_neg h2, Option.bind_some, linesSeen_iff]
        constructor
        · rintro ⟨a1, a2⟩
          exact ⟨fun y hy => (List.mem_cons.1 hy).elim (fun e => e ▸ h) (a1 y), a2⟩
        · rintro ⟨a1, a2⟩
          exact ⟨fun y hy => a1 y (List.mem_cons_of_mem _ hy), a2⟩
    · rw [if_neg h]
      simp only [Option.bind_none, reduceCtorEq, false_iff]
      exact fun q => h (q.1 x (List.mem_cons_self ..))
theorem whr_cons (x : Line) (c : List Line) (a : Int) : whr (x :: c) a = if isLab a x = true then 0 else whr c a + 1 := by
  unfold whr
  rw [List.findIdx_cons]
  cases isLab a x <;> rfl
theorem isLab_iff {a : Int} {x : Line} : isLab a x = true ↔ x.kind = 2 ∧ x.label = a := by simp [isLab]
theorem whr_in {a : Int} : ∀ {c : List Line}, whr c a < c.length ↔ a ∈ labs c
  | [] => by simp [whr, labs]
  | x :: c => by
    rw [whr_cons, labs_cons]
    by_cases h : isLab a x = true
    · rw [if_pos h]
      obtain ⟨h1, h2⟩ := isLab_iff.1 h
      simp [h1, h2]
    · rw [if_neg h, List.length_cons, Nat.add_lt_add_iff_right, whr_in]
      split
      · rename_i h2
        rw [List.mem_cons]
        constructor
        · exact .inr
        · rintro (rfl | h3)
          · exact absurd (isLab_iff.2 ⟨h2, rfl⟩) h
          · exact h3
      · rfl
theorem whr_nodup : ∀ {c : List Line}, (labs c).Nodup ↔ ∀ i x, c[i]? = some x → x.kind = 2 → whr c x.label = i
  | [] => by simp [labs]
  | x :: c => by
    rw [labs_cons]
    constructor
    · intro h i y hy hk
      rw [whr_cons]
      cases i with
      | zero =>
        simp only [List.getElem?_cons_zero, Option.some.injEq] at hy
        subst hy
        rw [if_pos (isLab_iff.2 ⟨hk, rfl⟩)]
      | succ i =>
        rw [List.getElem?_cons_succ] at hy
        have hmem : y.label ∈ labs c := by
          unfold labs
          exact List.mem_map.2 ⟨y, List.mem_filter.2 ⟨List.mem_of_getElem? hy, by simp [hk]⟩, rfl⟩
        split at h
        · rename_i h2
          obtain ⟨h3, h4⟩ := List.nodup_cons.1 h
          rw [if_neg, (whr_nodup.1 h4) i y hy hk]
          intro hl
          rw [(isLab_iff.1 hl).2] at h3
          exact h3 hmem
        · rename_i h2
          rw [if_neg (fun hl => h2 (isLab_iff.1 hl).1), (whr_nodup.1 h) i y hy hk]
    · intro h
      have h2 : (labs c).Nodup := whr_nodup.2 fun i y hy hk => by
        have := h (i + 1) y (by rw [List.getElem?_cons_succ]; exact hy) hk
        rw [whr_cons] at this
        split at this
        · cases this
        · omega
      split
      · rename_i hk
        refine List.nodup_cons.2 ⟨fun hm => ?_, h2⟩
        unfold labs at hm
        obtain ⟨y, hy, he⟩ := List.mem_map.1 hm
        obtain ⟨hy, hk2⟩ := List.mem_filter.1 hy
        obtain ⟨i, hi⟩ := List.mem_iff_getElem?.1 hy
        have := h (i + 1) y (by rw [List.getElem?_cons_succ]; exact hi) (by simpa using hk2)
        rw [whr_cons, if_pos (isLab_iff.2 ⟨hk, he.symm⟩)] at this
        cases this
      · exact h2
structure LinOk (l : Linear) : Prop where
  len : l.code.length ≤ 65536
  vars : 0 ≤ l.vars ∧ l.vars ≤ 16384
  params : ∀ v ∈ l.params, 0 ≤ v ∧ v < l.vars
  once : l.params.Nodup
  rets : ∀ v ∈ l.rets, 0 ≤ v ∧ v < l.vars
  retl : l.rets.length ≤ 16384
  lines : ∀ x ∈ l.code, lineOk l.vars x = true
  uniq : ∀ i x, l.code[i]? = some x → x.kind = 2 → whr l.code x.label = i
  jump : ∀ x ∈ l.code, x.kind = 3 ∨ x.kind = 4 → whr l.code x.label < l.code.length
theorem ok_iff (l : Linear) : l.ok = true ↔ LinOk l ∧ 0 ≤ l.frame ∧ l.frame ≤ 8192 ∧ l.frame % 16 = 0 := by
  unfold Linear.ok headOk
  constructor
  · intro h
    simp only [Bool.and_eq_true, decide_eq_true_eq, List.all_eq_true] at h
    obtain ⟨⟨h1, ⟨⟨⟨⟨⟨⟨h2, h3⟩, h4⟩, h5⟩, h6⟩, h7⟩, h8⟩, h9⟩, h10⟩ := h
    obtain ⟨q1, q2, _⟩ := paramsOk_iff.1 h8
    split at h10
    · cases h10
    · rename_i s hs
      obtain ⟨a1, a2, a3, _⟩ := linesSeen_iff.1 hs
      rw [List.nil_append] at a2
      subst a2
      rw [Bool.not_eq_true', List.any_eq_false] at h10
      refine ⟨⟨h1, ⟨h2, h3⟩, fun v hv => isVr_iff.1 (q1 v hv), q2, fun v hv => isVr_iff.1 (h9 v hv), h7, a1, whr_nodup.1 a3, fun x hx hk => ?_⟩, h4, h5, h6⟩
      have := h10 x hx
      unfold jumps at this
      rw [whr_in]
      rcases hk with hk | hk <;> simpa [hk] using this
  · rintro ⟨h, h4, h5, h6⟩
    simp only [Bool.and_eq_true, decide_eq_true_eq, List.all_eq_true]
    refine ⟨⟨h.len, ⟨⟨⟨⟨⟨⟨h.vars.1, h.vars.2⟩, h4⟩, h5⟩, h6⟩, h.retl⟩, paramsOk_iff.2 ⟨fun v hv => isVr_iff.2 (h.params v hv), h.once, by simp⟩⟩, fun v hv => isVr_iff.2 (h.rets v hv)⟩, ?_⟩
    have hs : linesSeen l.vars l.code [] = some (labs l.code) := linesSeen_iff.2 ⟨h.lines, by simp, whr_nodup.2 h.uniq, by simp⟩
    rw [hs]
    simp only [Bool.not_eq_true', List.any_eq_false]
    intro x hx
    unfold jumps
    by_cases hk : x.kind = 3 ∨ x.kind = 4
    · have := whr_in.1 (h.jump x hx hk)
      simp [this]
    · have : (x.kind == 3 || x.kind == 4) = false := by simpa [not_or] using hk
      simp [this]
theorem line_in {vars : Int} {x : Line} (h : lineOk vars x = true) : (1 ≤ x.kind ∧ x.kind ≤ 5) ∧ (∀ v ∈ x.raw, 0 ≤ v ∧ v < vars) ∧ (∀ v ∈ x.defs, 0 ≤ v ∧ v < vars) := by
  unfold lineOk at h
  split at h
  · rename_i h1
    rw [Bool.and_eq_true] at h
    have hi := h.1
    unfold insOk at hi
    simp only [Bool.or_eq_true, Bool.and_eq_true, beq_iff_eq, Bool.not_eq_true', isVr_iff] at hi
    refine ⟨by omega, ?_, ?_⟩
    · unfold Line.raw
      rw [if_neg (by omega), if_pos h1]
      intro v hv
      rcases hi with (((hi | hi) | hi) | hi) | hi
      · have k : x.ins.kind = 1 := by simp_all
        simp [k] at hv
      · have k : x.ins.kind = 2 := by simp_all
        simp [k] at hv
        subst hv
        exact hi.1.1.1.1.1.2
      · have k : x.ins.kind = 3 := by simp_all
        obtain ⟨⟨⟨⟨⟨_, hd⟩, ha⟩, _⟩, _⟩, hh⟩ := hi
        rw [if_neg (by omega), if_pos k] at hv
        simp only [List.mem_append, List.mem_singleton] at hv
        rcases hv with (rfl | hv) | hv
        · exact ha
        · split at hv
          · simp at hv
          · rename_i ho
            rw [List.mem_singleton] at hv
            subst hv
            rcases hh with (hh | hh) | hh
            · have := hh.1.1
              unfold arityI at this
              rw [if_neg ho] at this
              split at this
              · cases this
              · split at this <;> cases this
            · exact hh.1.2
            · exact hh.1.2
        · split at hv
          · rename_i ho
            rw [List.mem_singleton] at hv
            subst hv
            rw [ho] at hh
            rcases hh with (hh | hh) | hh
            · exact absurd hh.1.1 (by decide)
            · exact absurd hh.1.1 (by decide)
            · exact hh.2
          · simp at hv
      · have k : x.ins.kind = 4 := by simp_all
        obtain ⟨⟨⟨⟨⟨_, hd⟩, ha⟩, _⟩, _⟩, _⟩ := hi
        rw [if_neg (by omega), if_neg (by omega), if_neg (by omega), if_pos k] at hv
        split at hv
        · rw [List.mem_singleton] at hv
          subst hv
          rcases ha with ha | ha
          · omega
          · exact ha
        · simp at hv
      · have k : x.ins.kind = 5 := by simp_all
        obtain ⟨⟨⟨⟨⟨_, hd⟩, ha⟩, hb⟩, _⟩, _⟩ := hi
        rw [if_neg (by omega), if_neg (by omega), if_pos k] at hv
        rw [List.mem_append, List.mem_singleton] at hv
        rcases hv with rfl | hv
        · exact hb
        · split at hv
          · rw [List.mem_singleton] at hv
            subst hv
            rcases ha with ha | ha
            · omega
            · exact ha
          · simp at hv
    · unfold Line.defs
      intro v hv
      split at hv
      · rename_i hk
        rw [List.mem_singleton] at hv
        subst hv
        rcases hi with (((hi | hi) | hi) | hi) | hi
        · exact hi.1.1.1.1.1.2
        · exact hi.1.1.1.1.1.1.2
        · exact hi.1.1.1.1.2
        · exact hi.1.1.1.1.2
        · exact absurd hi.1.1.1.1.1 hk.2
      · simp at hv
  · rename_i h1
    have hd : x.defs = [] := by unfold Line.defs; rw [if_neg (fun h => h1 h.1)]
    rw [hd]
    refine ⟨?_, ?_, by simp⟩
    · split at h
      · omega
      · split at h
        · omega
        · split at h
          · omega
          · cases h
    · unfold Line.raw
      intro v hv
      split at hv
      · rename_i h4
        rw [if_neg (by omega), if_pos h4] at h
        simp only [Bool.and_eq_true, isVr_iff] at h
        rw [List.mem_singleton] at hv
        subst hv
        exact h.1.2
      · first | (rw [if_neg h1] at hv; simp at hv) | simp at hv
theorem nxt_in {l : Linear} (h : LinOk l) {i : Nat} {k : Int} (hk : k ∈ nxt l i) : 0 ≤ k ∧ k ≤ l.code.length ∧ i < l.code.length := by
  unfold nxt at hk
  split at hk
  · simp at hk
  · rename_i x hx
    have hi := (List.getElem?_eq_some_iff.1 hx).1
    have hm := List.mem_of_getElem? hx
    split at hk
    · simp at hk; omega
    · split at hk
      · rename_i h3
        have := h.jump x hm (.inl h3)
        simp at hk; omega
      · split at hk
        · rename_i h4
          have := h.jump x hm (.inr h4)
          rw [riseL_mem] at hk
          simp at hk; omega
        · simp at hk; omega
theorem live_in {l : Linear} (h : LinOk l) {i : Nat} {v : Int} (hl : LiveAt l i v) : (0 ≤ v ∧ v < l.vars) ∧ i ≤ l.code.length := by
  induction hl with
  | told hv => exact ⟨h.rets _ hv, Nat.le_refl _⟩
  | read hx hv => exact ⟨(line_in (h.lines _ (List.mem_of_getElem? hx))).2.1 _ hv, by have := (List.getElem?_eq_some_iff.1 hx).1; omega⟩
  | way hx _ hk _ ih => exact ⟨ih.1, by have := (List.getElem?_eq_some_iff.1 hx).1; omega⟩
theorem live_mem {l : Linear} (h : LinOk l) {i : Nat} {v : Int} : v ∈ liveL l i ↔ LiveAt l i v := by
  rw [liveL_mem]
  exact ⟨fun h => h.2, fun q => ⟨(live_in h q).1, q⟩⟩
end Go.Proofs
namespace Go.Proofs
open Go.Mu
theorem live_end {l : Linear} {v : Int} : LiveAt l l.code.length v ↔ v ∈ l.rets := by
  constructor
  · intro h
    cases h with
    | told h => exact h
    | read hx _ => have := (List.getElem?_eq_some_iff.1 hx).1; omega
    | way hx _ _ _ => have := (List.getElem?_eq_some_iff.1 hx).1; omega
  · exact .told
noncomputable def behL (l : Linear) (i : Nat) : List Int := riseL ((nxt l i).flatMap fun k => liveL l k.toNat)
theorem behL_mem {l : Linear} (h : LinOk l) {i : Nat} {v : Int} : v ∈ behL l i ↔ ∃ k ∈ nxt l i, LiveAt l k.toNat v := by
  unfold behL
  rw [riseL_mem, List.mem_flatMap]
  simp only [live_mem h]
theorem behL_in {l : Linear} (h : LinOk l) {i : Nat} {v : Int} (hv : v ∈ behL l i) : 0 ≤ v ∧ v < l.vars := by
  obtain ⟨k, _, hk⟩ := (behL_mem h).1 hv
  exact (live_in h hk).1
def rg (regs : List Int) (v : Int) : Int := regs.getD v.toNat 0
theorem rg_get {regs : List Int} {v : Int} (h0 : 0 ≤ v) (h : v < regs.length) : regs[v.toNat]? = some (rg regs v) := by
  unfold rg
  rw [List.getD_eq_getElem?_getD, List.getElem?_eq_getElem (by omega)]; rfl
noncomputable def begOk (l : Linear) (regs : List Int) : Bool :=
  decide ((regs.length : Int) = l.vars) && regs.all (fun n => decide (-1 ≤ n) && decide (n < 11)) && (l.params.all fun v => decide (0 ≤ rg regs v)) && ((liveL l 0).all fun v => decide (0 ≤ rg regs v)) &&
    decide ((l.params.map (rg regs)).Nodup) && (liveL l 0).all fun v => l.params.all fun p => decide (p = v) || decide (rg regs p ≠ rg regs v)
noncomputable def rightOk (l : Linear) (regs : List Int) (i : Nat) : Bool := match l.code[i]? with
  | none => true
  | some x => x.uses.all (fun v => decide (0 ≤ rg regs v)) && x.defs.all (fun v => decide (0 ≤ rg regs v)) &&
      x.defs.all fun d => (behL l i).all fun b => decide (b = d) || (decide (x.ins.kind = 2) && decide (x.ins.a = b)) || decide (rg regs b ≠ rg regs d)
noncomputable def chkM (l : Linear) (regs : List Int) : Int × Int :=
  if l.ok = false then (0, 2)
  else if begOk l regs = false then (-1, 16)
  else match (List.range l.code.length).find? fun i => !rightOk l regs i with
    | some i => ((i : Int), 16)
    | none => if l.rets.all (fun v => decide (0 ≤ rg regs v)) = true then (0, 0) else ((l.code.length : Int), 16)
def renIns (regs : List Int) (x : Ins) : Ins :=
  if x.kind = 3 then { x with d := rg regs x.d, a := rg regs x.a, b := if 6 ≤ x.op then rg regs x.b else x.b, c := if x.op = 21 then rg regs x.c else x.c }
  else if x.kind = 2 then { x with d := rg regs x.d, a := rg regs x.a }
  else if x.kind = 4 then { x with d := rg regs x.d, a := if x.a < 0 then x.a else rg regs x.a }
  else if x.kind = 5 then { x with a := if x.a < 0 then x.a else rg regs x.a, b := rg regs x.b }
  else { x with d := rg regs x.d }
def renLine (regs : List Int) (x : Line) : Line := if x.kind = 4 then { x with var := rg regs x.var } else if x.kind = 1 then { x with ins := renIns regs x.ins } else x
def renL (l : Linear) (regs : List Int) : Linear := ⟨11, l.params.map (rg regs), l.rets.map (rg regs), l.frame, l.code.map (renLine regs)⟩
end Go.Proofs
namespace Go.Proofs
open Go.Mu
end Go.Proofs
namespace Go.Proofs
open Go.Mu
end Go.Proofs
namespace Go.Proofs
open Go.Mu
def vg (V : List Int) (i : Int) : Int := V.getD i.toNat 0
def insAddr (x : Ins) (stk : Int) (V : List Int) : Int :=
  if 0 ≤ x.a then wU ((if x.stack = true then wU (x.word + stk) else x.word) + wU (8 * vg V x.a)) else if x.stack = true then wU (x.word + stk) else x.word
structure DoR where
  (V b : List Int)
  addr : Int
  seen : Bool
  err : Int
def doM (lay : List Rg) (x : Ins) (stk : Int) (V b : List Int) : DoR :=
  if x.kind = 1 then ⟨V.set x.d.toNat x.word, b, 0, false, 0⟩
  else if x.kind = 2 then ⟨V.set x.d.toNat (vg V x.a), b, 0, false, 0⟩
  else if x.kind = 3 then ⟨V.set x.d.toNat (evalE x.op ([vg V x.a, vg V x.b, vg V x.c].take (wArgN x.op).toNat)), b, 0, false, 0⟩
  else if askE lay (insAddr x stk V) = 0 then
    (if x.kind = 4 then ⟨V.set x.d.toNat (getW b (insAddr x stk V).toNat), b, insAddr x stk V, true, 0⟩
     else ⟨V, putW b (insAddr x stk V).toNat (vg V x.b), insAddr x stk V, true, 0⟩)
  else ⟨V, b, 0, false, 14⟩
theorem doM_V (lay : List Rg) (x : Ins) (stk : Int) (V b : List Int) : (doM lay x stk V b).V.length = V.length := by
  unfold doM
  split
  · simp
  · split
    · simp
    · split
      · simp
      · split
        · split <;> simp
        · rfl
theorem doM_b (lay : List Rg) (x : Ins) (stk : Int) (V b : List Int) : (doM lay x stk V b).b.length = b.length := by
  unfold doM
  split
  · rfl
  · split
    · rfl
    · split
      · rfl
      · split
        · split
          · rfl
          · exact putTo_len _ _ _ _
        · rfl
theorem doM_quiet (lay : List Rg) (x : Ins) (stk : Int) (V b : List Int) (h : (doM lay x stk V b).err ≠ 0) : (doM lay x stk V b).seen = false := by
  unfold doM at *
  split at h
  · exact absurd rfl h
  · rename_i h1
    split at h
    · exact absurd rfl h
    · rename_i h2
      split at h
      · exact absurd rfl h
      · rename_i h3
        split at h
        · split at h <;> exact absurd rfl h
        · rename_i h4
          rw [if_neg h1, if_neg h2, if_neg h3, if_neg h4]
structure Se where
  (jump taken : Bool)
  addr : Int
deriving DecidableEq
@[simp] def Se.cells (s : Se) : List AV := [Bo s.jump, Bo s.taken, U s.addr]
abbrev Se.sl (l : List Se) : AV := .vs 3 (l.map Se.cells)
structure RSt where
  (V b : List Int)
  i : Nat
  seen : List Se
structure Ran where
  rets : List Int
  seen : List Se
  steps : Nat
  err : Int
  b : List Int
@[simp] def Ran.cells (r : Ran) : List AV := [.vs 1 (r.rets.map fun w => [U w]), Se.sl r.seen, I r.steps, I r.err]
def lstep (lay : List Rg) (l : Linear) (stk : Int) (x : Line) (s : RSt) : RSt × Int :=
  if x.kind = 1 then
    (⟨(doM lay x.ins stk s.V s.b).V, (doM lay x.ins stk s.V s.b).b, s.i + 1, if (doM lay x.ins stk s.V s.b).seen = true then s.seen ++ [⟨false, false, (doM lay x.ins stk s.V s.b).addr⟩] else s.seen⟩, (doM lay x.ins stk s.V s.b).err)
  else if x.kind = 4 then (⟨s.V, s.b, if vg s.V x.var = 0 then whr l.code x.label else s.i + 1, s.seen ++ [⟨true, decide (vg s.V x.var = 0), 0⟩]⟩, 0)
  else if x.kind = 3 then (⟨s.V, s.b, whr l.code x.label, s.seen⟩, 0)
  else if x.kind = 5 then (⟨s.V, s.b, l.code.length, s.seen⟩, 0)
  else (⟨s.V, s.b, s.i + 1, s.seen⟩, 0)
def lrun (lay : List Rg) (l : Linear) (stk : Int) (fuel : Nat) : Nat → RSt → Ran
  | n, s => match l.code[s.i]? with
    | none => ⟨l.rets.map (vg s.V), s.seen, fuel - n, 0, s.b⟩
    | some x => match n with
      | 0 => ⟨[], s.seen, fuel, 7, s.b⟩
      | n + 1 => if (lstep lay l stk x s).2 = 0 then lrun lay l stk fuel n (lstep lay l stk x s).1 else ⟨[], (lstep lay l stk x s).1.seen, fuel - n, (lstep lay l stk x s).2, (lstep lay l stk x s).1.b⟩
def argsTo (V : List Int) (ps args : List Int) : Nat → List Int
  | 0 => V
  | i + 1 => (argsTo V ps args i).set (ps.getD i 0).toNat (args.getD i 0)
theorem argsTo_len (V ps args : List Int) : ∀ i, (argsTo V ps args i).length = V.length
  | 0 => rfl
  | i + 1 => by rw [argsTo, List.length_set, argsTo_len V ps args i]
def varN (l : Linear) : Nat := (max l.vars 1).toNat
def runV (l : Linear) (args : List Int) : List Int := argsTo (List.replicate (varN l) 0) l.params args l.params.length
def runM (lay : List Rg) (l : Linear) (args : List Int) (b : List Int) (stk : Int) (fuel : Nat) : Ran := lrun lay l stk fuel fuel ⟨runV l args, b, 0, []⟩
theorem wU_rng (n : Int) : 0 ≤ wU n ∧ wU n < 2^64 := by
  unfold wU
  simp only [IntKind.wrap, IntKind.bits, IntKind.signed]
  have h : (2 : Int) ^ 64 = 18446744073709551616 := by decide
  simp only [Bool.false_and, Bool.false_eq_true, if_false]
  omega
theorem insAddr_rng {x : Ins} {stk : Int} {V : List Int} (hw : 0 ≤ x.word ∧ x.word ≤ 18446744073709551615) : 0 ≤ insAddr x stk V ∧ insAddr x stk V < 2^64 := by
  unfold insAddr
  split
  · exact wU_rng _
  · split
    · exact wU_rng _
    · have h : (2 : Int) ^ 64 = 18446744073709551616 := by decide
      omega
end Go.Proofs
namespace Go.Proofs
open Go.Mu
abbrev rowU (V : List Int) : Blk := .row 29 1 (V.map fun x => [U x])
structure GG (M : List Blk) (k kb kv n : Nat) (lay : List Rg) (G : List Int → List Int → List Blk) : Prop where
  len : ∀ V b, (G V b).length = M.length
  v : ∀ V b L, (G V b ++ L)[kv]? = some (rowU V)
  m : ∀ V b L, b.length = 65536 → MemAt (G V b ++ L) k kb lay b
  sv : ∀ V V' b L, (G V b ++ L).set kv (rowU V') = G V' b ++ L
  sb : ∀ V b b' L, (G V b ++ L).set kb (byB b') = G V b' ++ L
  get : ∀ V b L i, i ≠ kv → i ≠ kb → i < M.length → (G V b ++ L)[i]? = M[i]?
  und : ∀ V b, underH M.length M = true → underH (G V b).length (G V b) = true
theorem plain_under (n : Nat) (t : TypeId) (sz : Nat) (es : List (List AV)) (h : es.flatten.all AV.frzB = true) : (Blk.row t sz es).under n = true := by
  rw [List.all_eq_true] at h
  simp only [Blk.under, List.all_eq_true]
  intro e he
  exact underL_frzB _ e (fun c hc => h c (List.mem_flatten.2 ⟨e, he, hc⟩))
theorem u_frzB (l : List Int) : (l.map fun x => [U x]).flatten.all AV.frzB = true := by
  induction l with
  | nil => rfl
  | cons x l ih => rw [List.map_cons, List.flatten_cons, List.all_append, ih]; simp [AV.frzB]
theorem by_under (n : Nat) (b : List Int) : (byB b).under n = true := by
  simp only [Blk.under]
  exact underL_frzB _ _ (fun c hc => by obtain ⟨x, _, rfl⟩ := List.mem_map.1 hc; rfl)
theorem GG.mk' {M : List Blk} {k kb kv n : Nat} {lay : List Rg} {V b : List Int} (hm : MemAt M k kb lay b) (hv : M[kv]? = some (rowU V)) : GG M k kb kv n lay (fun V b => (M.set kv (rowU V)).set kb (byB b)) ∧ M = (M.set kv (rowU V)).set kb (byB b) := by
  obtain ⟨m1, m2, m3⟩ := hm
  have l1 := lt_of_get m1
  have l2 := lt_of_get m2
  have l3 := lt_of_get hv
  have n1 : k ≠ kb := fun e => by subst e; rw [m1] at m2; simp at m2
  have n2 : kv ≠ kb := fun e => by subst e; rw [m2] at hv; simp at hv
  have n3 : kv ≠ k := fun e => by subst e; rw [m1] at hv; simp at hv
  have old : ∀ {A L : List Blk} {i : Nat}, i < A.length → (A ++ L)[i]? = A[i]? := fun h => List.getElem?_append_left h
  have gl : ∀ V b, ((M.set kv (rowU V)).set kb (byB b)).length = M.length := fun V b => by simp
  refine ⟨⟨gl, fun V b L => ?_, fun V b L hb => ⟨?_, ?_, hb⟩, fun V V' b L => ?_, fun V b b' L => ?_, fun V b L i h1 h2 h3 => ?_, fun V b hu => ?_⟩, ?_⟩
  · rw [old (by rw [gl]; exact l3), List.getElem?_set_ne (fun e => n2 e.symm), List.getElem?_set_self l3]
  · rw [old (by rw [gl]; exact l1), List.getElem?_set_ne (fun e => n1 e.symm), List.getElem?_set_ne n3, m1]
  · rw [old (by rw [gl]; exact l2), List.getElem?_set_self (by simpa using l2)]
  · rw [List.set_append_left _ _ (by rw [gl]; exact l3), List.set_comm _ _ n2.symm, List.set_set]
  · rw [List.set_append_left _ _ (by rw [gl]; exact l2), List.set_set]
  · rw [old (by rw [gl]; exact h3), List.getElem?_set_ne (fun e => h2 e.symm), List.getElem?_set_ne (fun e => h1 e.symm)]
  · rw [gl]
    exact underH_set (underH_set hu (plain_under _ _ _ _ (u_frzB V))) (by_under _ b)
  · rw [setSelf hv, setSelf m2]
theorem vg_at {V : List Int} {i : Int} (h0 : 0 ≤ i) (h : i < V.length) : V[i.toNat]? = some (vg V i) := getD_at (by omega)
theorem arity_n (op : Int) (h : arityI op = 1 ∨ arityI op = 2 ∨ arityI op = 3) : wArgN op = arityI op := by
  unfold arityI wArgN at *
  split
  · rfl
  · split
    · rfl
    · split
      · rfl
      · rename_i a b c
        rw [if_neg a, if_neg b, if_neg c] at h
        simp at h
inductive InsK (vars : Int) (x : Ins) : Prop
  | word (h : x.kind = 1) (d : 0 ≤ x.d ∧ x.d < vars) (s : x.stack = false)
  | move (h : x.kind = 2) (d : 0 ≤ x.d ∧ x.d < vars) (a : 0 ≤ x.a ∧ x.a < vars) (s : x.stack = false)
  | op (h : x.kind = 3) (d : 0 ≤ x.d ∧ x.d < vars) (a : 0 ≤ x.a ∧ x.a < vars) (b : 0 ≤ x.b ∧ x.b < vars) (c : 0 ≤ x.c ∧ x.c < vars) (r : wArgN x.op = 1 ∨ wArgN x.op = 2 ∨ wArgN x.op = 3) (s : x.stack = false)
  | load (h : x.kind = 4) (d : 0 ≤ x.d ∧ x.d < vars) (a : x.a = -1 ∨ 0 ≤ x.a ∧ x.a < vars)
  | store (h : x.kind = 5) (a : x.a = -1 ∨ 0 ≤ x.a ∧ x.a < vars) (b : 0 ≤ x.b ∧ x.b < vars)
theorem insK {vars : Int} {x : Ins} (h : insOk vars x = true) : InsK vars x := by
  unfold insOk at h
  simp only [Bool.or_eq_true, Bool.and_eq_true, beq_iff_eq, isVr_iff, Bool.not_eq_true'] at h
  rcases h with (((h | h) | h) | h) | h
  · exact .word h.1.1.1.1.1.1 h.1.1.1.1.1.2 h.2
  · exact .move h.1.1.1.1.1.1.1 h.1.1.1.1.1.1.2 h.1.1.1.1.1.2 h.2
  · obtain ⟨⟨⟨⟨⟨h1, h2⟩, h3⟩, h4⟩, h5⟩, h6⟩ := h
    rcases h6 with (h6 | h6) | h6
    · exact .op h1 h2 h3 (by omega) (by omega) (by rw [arity_n _ (by omega)]; omega) h5
    · exact .op h1 h2 h3 h6.1.2 (by omega) (by rw [arity_n _ (by omega)]; omega) h5
    · exact .op h1 h2 h3 h6.1.2 h6.2 (by rw [arity_n _ (by omega)]; omega) h5
  · exact .load h.1.1.1.1.1 h.1.1.1.1.2 h.1.1.1.2
  · exact .store h.1.1.1.1.1 h.1.1.1.2 h.1.1.2
theorem ldo_ok (x : Ins) (vars : Int) (hx : insOk vars x = true) (hw : 0 ≤ x.word ∧ x.word ≤ 18446744073709551615) (V b : List Int) (n : Nat) (hV : V.length = n) (hn : vars ≤ n) (h1 : 1 ≤ n) (stk : Int) {M : List Blk} {k kb kv : Nat} {lay : List Rg}
    (hl : lay.length ≤ 16) (ho : ∀ r ∈ lay, r.Ok) (hm : MemAt M k kb lay b) (hv : M[kv]? = some (rowU V)) :
    ACalls Tryz.prog 43 [.agg x.cells, .hs kv 0 n n, .bp k 0, U stk] M (fun e M' => e = .ret (.tup [U (doM lay x stk V b).addr, Bo (doM lay x stk V b).seen, I (doM lay x stk V b).err]) ∧ M' = (M.set kv (rowU (doM lay x stk V b).V)).set kb (byB (doM lay x stk V b).b)) := by
  refine acalls_tidy (acalls_of_vc (hn := fun _ => false) (od := fun _ => none) Tryz.func43 rfl (by kernel_rfl) ?_)
  obtain ⟨gg, g0⟩ := GG.mk' (n := n) hm hv
  have hb := hm.len
  obtain ⟨G, hG⟩ : ∃ G : List Int → List Int → List Blk, G = fun V b => (M.set kv (rowU V)).set kb (byB b) := ⟨_, rfl⟩
  rw [← hG] at gg
  have hGa : ∀ V b, (M.set kv (rowU V)).set kb (byB b) = G V b := fun V b => by rw [hG]
  rw [hGa] at g0 ⊢
  have fin : ∀ (R : AE → List Blk → Prop) (r : AV) (V' b' : List Int) (L : List Blk), r.under M.length = true → R (.ret r) (G V' b') → Tidy M R (.ret r) (G V' b' ++ L) := fun R r V' b' L hr h => tidy_to (by rw [gg.len]; exact Nat.le_refl _) (fun hu => gg.und V' b' hu) (by rw [gg.len]; exact hr) h
  clear hGa hG
  have ik := insK hx
  have hrng := insAddr_rng (x := x) (stk := stk) (V := V) hw
  have hR : doM lay x stk V b = doM lay x stk V b := rfl
  obtain ⟨R, hRe⟩ : ∃ R, R = doM lay x stk V b := ⟨_, rfl⟩
  rw [← hRe]
  clear hR
  unfold doM at hRe
  obtain ⟨X, hX⟩ : ∃ X, X = Blk.box 65 x.cells := ⟨_, rfl⟩
  have bx : ∀ V b L, (G V b ++ X :: L)[M.length]? = some (.box 65 x.cells) := fun V b L => by rw [List.getElem?_append_right (by rw [gg.len]; exact Nat.le_refl _), gg.len, hX]; simp
  have bv : ∀ V b L, (G V b ++ X :: L)[kv]? = some (rowU V) := fun V b L => gg.v V b _
  have hst : ∀ (V b : List Int) (L : List Blk) (i : Nat) (w : Int), V.length = n → i < n → astore (G V b ++ X :: L) (.rp kv n i 0) [U w] = some (G (V.set i w) b ++ X :: L) := fun V b L i w hV hi => by
    have hh := getD_at (b := V) (i := i) (by omega)
    rw [astore_one (c := U (V.getD i 0)) (bv V b L) (by simpa using hV) (by rw [List.getElem?_map, hh]; rfl)]
    congr 1
    have := gg.sv V (V.set i w) b (X :: L)
    rw [← this]
    congr 2
    simp [rowU, List.map_set]
  have hMX : M ++ [X] = G V b ++ [X] := by rw [← g0]
  have hVl : (V.map fun x => [U x]).length = n := by simpa using hV
  have hgv : ∀ i : Int, 0 ≤ i → i < n → V[i.toNat]? = some (vg V i) := fun i h0 h => vg_at h0 (by omega)
  obtain ⟨kind, op, d, a, bb, c, word, stack⟩ := x
  simp only [Ins.cells] at hX bx
  cases ik with
  | word h hd hs =>
    change kind = 1 at h
    change 0 ≤ d ∧ d < vars at hd
    change stack = false at hs
    subst h hs
    rw [if_pos rfl] at hRe
    subst hRe
    obtain ⟨j, rfl⟩ : ∃ j : Nat, d = j := ⟨d.toNat, by omega⟩
    have hj : j < n := by omega
    have st := hst V b [] j word hV hj
    simp -dsimp
    rw [← hX, hMX]
    simp -dsimp [bx, bv, hVl, hV]
    refine andVW_intro hj ?_
    simp -dsimp [bx, bv, hVl, hV, st]
    exact fin _ _ (V.set j word) b [X] rfl ⟨rfl, rfl⟩
  | move h hd ha hs =>
    change kind = 2 at h
    change 0 ≤ d ∧ d < vars at hd
    change 0 ≤ a ∧ a < vars at ha
    change stack = false at hs
    subst h hs
    rw [if_neg (show ¬ (2 : Int) = 1 by decide), if_pos rfl] at hRe
    subst hRe
    obtain ⟨j, rfl⟩ : ∃ j : Nat, d = j := ⟨d.toNat, by omega⟩
    obtain ⟨p, rfl⟩ : ∃ j : Nat, a = j := ⟨a.toNat, by omega⟩
    have hj : j < n := by omega
    have hp : p < n := by omega
    have gp : V[p]? = some (vg V p) := hgv p (by omega) (by omega)
    have st := hst V b [] j (vg V p) hV hj
    simp -dsimp
    rw [← hX, hMX]
    simp -dsimp [bx, bv, hVl, hV]
    refine andVW_intro hp ?_
    simp -dsimp [bx, bv, hVl, hV, gp]
    refine andVW_intro hj ?_
    simp -dsimp [bx, bv, hVl, hV, gp, st]
    exact fin _ _ (V.set j (vg V p)) b [X] rfl ⟨rfl, rfl⟩
  | op h hd ha hb' hc hr hs =>
    change kind = 3 at h
    change 0 ≤ d ∧ d < vars at hd
    change 0 ≤ a ∧ a < vars at ha
    change 0 ≤ bb ∧ bb < vars at hb'
    change 0 ≤ c ∧ c < vars at hc
    change stack = false at hs
    change wArgN op = 1 ∨ wArgN op = 2 ∨ wArgN op = 3 at hr
    subst h hs
    rw [if_neg (show ¬ (3 : Int) = 1 by decide), if_neg (show ¬ (3 : Int) = 2 by decide), if_pos rfl] at hRe
    obtain ⟨j, rfl⟩ : ∃ j : Nat, d = j := ⟨d.toNat, by omega⟩
    obtain ⟨p, rfl⟩ : ∃ j : Nat, a = j := ⟨a.toNat, by omega⟩
    obtain ⟨q, rfl⟩ : ∃ j : Nat, bb = j := ⟨bb.toNat, by omega⟩
    obtain ⟨r, rfl⟩ : ∃ j : Nat, c = j := ⟨c.toNat, by omega⟩
    have hj : j < n := by omega
    have hp : p < n := by omega
    have hq : q < n := by omega
    have hr' : r < n := by omega
    have gp : V[p]? = some (vg V p) := hgv p (by omega) (by omega)
    have gq : V[q]? = some (vg V q) := hgv q (by omega) (by omega)
    have gr : V[r]? = some (vg V r) := hgv r (by omega) (by omega)
    have ca := fun H => wargs_ok op H
    have ce := fun l x hx H => weval_ok op l x hx H
    have ev : ∀ l : List Int, wArgN op = l.length → evalR op l = [U (evalE op l), I 0] := fun l h => if_pos h
    have go : ∀ w, R = ⟨V.set j w, b, 0, false, 0⟩ → R.addr = 0 ∧ R.seen = false ∧ R.err = 0 ∧ R.V = V.set j w ∧ R.b = b := fun w h => by subst h; exact ⟨rfl, rfl, rfl, rfl, rfl⟩
    obtain ⟨va, hva⟩ : ∃ v, v = vg V p := ⟨_, rfl⟩
    obtain ⟨vb, hvb⟩ : ∃ v, v = vg V q := ⟨_, rfl⟩
    obtain ⟨vc, hvc⟩ : ∃ v, v = vg V r := ⟨_, rfl⟩
    rw [← hva] at gp
    rw [← hvb] at gq
    rw [← hvc] at gr
    have hRe : R = ⟨V.set j (evalE op ([va, vb, vc].take (wArgN op).toNat)), b, 0, false, 0⟩ := by rw [hRe, hva, hvb, hvc]; rfl
    clear hva hvb hvc
    obtain ⟨e1, e2, e3, e4, e5⟩ := go _ hRe
    have st := fun w => hst V b [] j w hV hj
    rw [e1, e2, e3, e4, e5]
    clear go hRe e1 e2 e3 e4 e5
    simp -dsimp
    rw [← hX, hMX]
    simp -dsimp [bx, bv, hVl, hV]
    refine andVW_intro hp ?_
    simp -dsimp [bx, bv, hVl, hV, gp]
    refine andVW_intro hq ?_
    simp -dsimp [bx, bv, hVl, hV, gp, gq]
    refine andVW_intro hr' ?_
    simp -dsimp [bx, bv, hVl, hV, gp, gq, gr]
    refine callDW_intro (ca _) ?_
    rcases hr with hr | hr | hr
    · have ev := ev [va] (by rw [hr]; rfl)
      have ce := fun H => ce [va] (.vs 1 ([va].map fun x => [U x])) (.inr rfl) H
      rw [ev] at ce
      simp only [List.map_cons, List.map_nil] at ce
      rw [hr]
      simp -dsimp [bx, bv, hVl, hV]
      refine callDW_intro (ce _) ?_
      simp -dsimp [bx, bv, hVl, hV]
      refine andVW_intro hj ?_
      simp -dsimp [bx, bv, hVl, hV, st]
      exact fin _ _ _ b [X] rfl ⟨rfl, rfl⟩
    · have ev := ev [va, vb] (by rw [hr]; rfl)
      have ce := fun H => ce [va, vb] (.vs 1 ([va, vb].map fun x => [U x])) (.inr rfl) H
      rw [ev] at ce
      simp only [List.map_cons, List.map_nil] at ce
      rw [hr]
      simp -dsimp [bx, bv, hVl, hV]
      refine callDW_intro (ce _) ?_
      simp -dsimp [bx, bv, hVl, hV]
      refine andVW_intro hj ?_
      simp -dsimp [bx, bv, hVl, hV, st]
      exact fin _ _ _ b [X] rfl ⟨rfl, rfl⟩
    · have ev := ev [va, vb, vc] (by rw [hr]; rfl)
      have ce := fun H => ce [va, vb, vc] (.vs 1 ([va, vb, vc].map fun x => [U x])) (.inr rfl) H
      rw [ev] at ce
      simp only [List.map_cons, List.map_nil] at ce
      rw [hr]
      simp -dsimp [bx, bv, hVl, hV]
      refine callDW_intro (ce _) ?_
      simp -dsimp [bx, bv, hVl, hV]
      refine andVW_intro hj ?_
      simp -dsimp [bx, bv, hVl, hV, st]
      exact fin _ _ _ b [X] rfl ⟨rfl, rfl⟩
  | load h hd ha =>
    change kind = 4 at h
    change 0 ≤ d ∧ d < vars at hd
    change a = -1 ∨ 0 ≤ a ∧ a < vars at ha
    subst h
    rw [if_neg (show ¬ (4 : Int) = 1 by decide), if_neg (show ¬ (4 : Int) = 2 by decide), if_neg (show ¬ (4 : Int) = 3 by decide)] at hRe
    rw [if_pos (show (4 : Int) = 4 from rfl)] at hRe
    obtain ⟨j, rfl⟩ : ∃ j : Nat, d = j := ⟨d.toNat, by omega⟩
    have hj : j < n := by omega
    have st := fun w => hst V b [] j w hV hj
    have mm := gg.m V b [X] hb
    cases stack
    · rcases ha with rfl | ha
      · have hAD : insAddr ⟨4, op, j, -1, bb, c, word, false⟩ stk V = word := by
          unfold insAddr
          simp
        rw [hAD] at hRe hrng
        clear hAD
        have cl := mload_ok mm hl ho word hrng.1 hrng.2
        by_cases he : askE lay word = 0
        · rw [if_pos he] at hRe
          subst hRe
          rw [if_pos he, he] at cl
          simp -dsimp
          rw [← hX, hMX]
          try simp -dsimp [bx, bv, hVl, hV]
          refine acallsW_det cl ?_
          simp -dsimp [bx, bv, hVl, hV]
          refine andVW_intro hj ?_
          simp -dsimp [bx, bv, hVl, hV, st]
          exact fin _ _ _ b [X] rfl ⟨rfl, rfl⟩
        · rw [if_neg he] at hRe
          subst hRe
          rw [if_neg he] at cl
          have hd1 : (askE lay word == 0) = false := by simp [he]
          have hd2 : (askE lay word != 0) = true := by simp [he]
          obtain ⟨e, hee⟩ : ∃ e, e = askE lay word := ⟨_, rfl⟩
          rw [← hee] at cl hd1 hd2
          simp -dsimp
          rw [← hX, hMX]
          try simp -dsimp [bx, bv, hVl, hV]
          refine acallsW_det cl ?_
          simp -dsimp [bx, bv, hVl, hV, hd1, hd2]
          exact fin _ _ V b [X] rfl ⟨rfl, rfl⟩
      · obtain ⟨p, rfl⟩ : ∃ j : Nat, a = j := ⟨a.toNat, by omega⟩
        have hp : p < n := by omega
        have gp : V[p]? = some (vg V p) := hgv p (by omega) (by omega)
        have dp : decide ((0 : Int) ≤ (p : Int)) = true := decide_eq_true (by omega)
        have hAD : insAddr ⟨4, op, j, p, bb, c, word, false⟩ stk V = IntKind.u64.wrap (word + IntKind.u64.wrap (8 * vg V p)) := by
          unfold insAddr
          simp [wU]
        rw [hAD] at hRe hrng
        obtain ⟨A, hA⟩ : ∃ A, A = IntKind.u64.wrap (word + IntKind.u64.wrap (8 * vg V p)) := ⟨_, rfl⟩
        rw [← hA] at hRe hrng
        have hA := hA.symm
        clear hAD
        have cl := mload_ok mm hl ho A hrng.1 hrng.2
        by_cases he : askE lay A = 0
        · rw [if_pos he] at hRe
          subst hRe
          rw [if_pos he, he] at cl
          simp -dsimp
          rw [← hX, hMX]
          try simp -dsimp [bx, bv, hVl, hV, gp, dp, hA]
          refine andVW_intro hp ?_
          simp -dsimp [bx, bv, hVl, hV, gp, dp, hA]
          refine acallsW_det cl ?_
          simp -dsimp [bx, bv, hVl, hV, gp, dp, hA]
          refine andVW_intro hj ?_
          simp -dsimp [bx, bv, hVl, hV, st]
          exact fin _ _ _ b [X] rfl ⟨rfl, rfl⟩
        · rw [if_neg he] at hRe
          subst hRe
          rw [if_neg he] at cl
          have hd1 : (askE lay A == 0) = false := by simp [he]
          have hd2 : (askE lay A != 0) = true := by simp [he]
          obtain ⟨e, hee⟩ : ∃ e, e = askE lay A := ⟨_, rfl⟩
          rw [← hee] at cl hd1 hd2
          simp -dsimp
          rw [← hX, hMX]
          try simp -dsimp [bx, bv, hVl, hV, gp, dp, hA]
          refine andVW_intro hp ?_
          simp -dsimp [bx, bv, hVl, hV, gp, dp, hA]
          refine acallsW_det cl ?_
          simp -dsimp [bx, bv, hVl, hV, gp, dp, hA, hd1, hd2]
          exact fin _ _ V b [X] rfl ⟨rfl, rfl⟩
    · rcases ha with rfl | ha
      · have hAD : insAddr ⟨4, op, j, -1, bb, c, word, true⟩ stk V = IntKind.u64.wrap (word + stk) := by
          unfold insAddr
          simp
        rw [hAD] at hRe hrng
        obtain ⟨A, hA⟩ : ∃ A, A = IntKind.u64.wrap (word + stk) := ⟨_, rfl⟩
        rw [← hA] at hRe hrng
        have hA := hA.symm
        clear hAD
        have cl := mload_ok mm hl ho A hrng.1 hrng.2
        by_cases he : askE lay A = 0
        · rw [if_pos he] at hRe
          subst hRe
          rw [if_pos he, he] at cl
          simp -dsimp
          rw [← hX, hMX]
          try simp -dsimp [bx, bv, hVl, hV, hA]
          refine acallsW_det cl ?_
          simp -dsimp [bx, bv, hVl, hV, hA]
          refine andVW_intro hj ?_
          simp -dsimp [bx, bv, hVl, hV, st]
          exact fin _ _ _ b [X] rfl ⟨rfl, rfl⟩
        · rw [if_neg he] at hRe
          subst hRe
          rw [if_neg he] at cl
          have hd1 : (askE lay A == 0) = false := by simp [he]
          have hd2 : (askE lay A != 0) = true := by simp [he]
          obtain ⟨e, hee⟩ : ∃ e, e = askE lay A := ⟨_, rfl⟩
          rw [← hee] at cl hd1 hd2
          simp -dsimp
          rw [← hX, hMX]
          try simp -dsimp [bx, bv, hVl, hV, hA]
          refine acallsW_det cl ?_
          simp -dsimp [bx, bv, hVl, hV, hA, hd1, hd2]
          exact fin _ _ V b [X] rfl ⟨rfl, rfl⟩
      · obtain ⟨p, rfl⟩ : ∃ j : Nat, a = j := ⟨a.toNat, by omega⟩
        have hp : p < n := by omega
        have gp : V[p]? = some (vg V p) := hgv p (by omega) (by omega)
        have dp : decide ((0 : Int) ≤ (p : Int)) = true := decide_eq_true (by omega)
        have hAD : insAddr ⟨4, op, j, p, bb, c, word, true⟩ stk V = IntKind.u64.wrap (IntKind.u64.wrap (word + stk) + IntKind.u64.wrap (8 * vg V p)) := by
          unfold insAddr
          simp [wU]
        rw [hAD] at hRe hrng
        obtain ⟨A, hA⟩ : ∃ A, A = IntKind.u64.wrap (IntKind.u64.wrap (word + stk) + IntKind.u64.wrap (8 * vg V p)) := ⟨_, rfl⟩
        rw [← hA] at hRe hrng
        have hA := hA.symm
        clear hAD
        have cl := mload_ok mm hl ho A hrng.1 hrng.2
        by_cases he : askE lay A = 0
        · rw [if_pos he] at hRe
          subst hRe
          rw [if_pos he, he] at cl
          simp -dsimp
          rw [← hX, hMX]
          try simp -dsimp [bx, bv, hVl, hV, gp, dp, hA]
          refine andVW_intro hp ?_
          simp -dsimp [bx, bv, hVl, hV, gp, dp, hA]
          refine acallsW_det cl ?_
          simp -dsimp [bx, bv, hVl, hV, gp, dp, hA]
          refine andVW_intro hj ?_
          simp -dsimp [bx, bv, hVl, hV, st]
          exact fin _ _ _ b [X] rfl ⟨rfl, rfl⟩
        · rw [if_neg he] at hRe
          subst hRe
          rw [if_neg he] at cl
          have hd1 : (askE lay A == 0) = false := by simp [he]
          have hd2 : (askE lay A != 0) = true := by simp [he]
          obtain ⟨e, hee⟩ : ∃ e, e = askE lay A := ⟨_, rfl⟩
          rw [← hee] at cl hd1 hd2
          simp -dsimp
          rw [← hX, hMX]
          try simp -dsimp [bx, bv, hVl, hV, gp, dp, hA]
          refine andVW_intro hp ?_
          simp -dsimp [bx, bv, hVl, hV, gp, dp, hA]
          refine acallsW_det cl ?_
          simp -dsimp [bx, bv, hVl, hV, gp, dp, hA, hd1, hd2]
          exact fin _ _ V b [X] rfl ⟨rfl, rfl⟩
  | store h ha hb' =>
    change kind = 5 at h
    change 0 ≤ bb ∧ bb < vars at hb'
    change a = -1 ∨ 0 ≤ a ∧ a < vars at ha
    subst h
    rw [if_neg (show ¬ (5 : Int) = 1 by decide), if_neg (show ¬ (5 : Int) = 2 by decide), if_neg (show ¬ (5 : Int) = 3 by decide)] at hRe
    rw [if_neg (show ¬ (5 : Int) = 4 by decide)] at hRe
    obtain ⟨q, rfl⟩ : ∃ j : Nat, bb = j := ⟨bb.toNat, by omega⟩
    have hq : q < n := by omega
    have gq : V[q]? = some (vg V q) := hgv q (by omega) (by omega)
    have mm := gg.m V b [X] hb
    cases stack
    · rcases ha with rfl | ha
      · have hAD : insAddr ⟨5, op, d, -1, q, c, word, false⟩ stk V = word := by
          unfold insAddr
          simp
        rw [hAD] at hRe hrng
        clear hAD
        have cl := mstore_ok mm hl ho word hrng.1 hrng.2 (vg V q)
        by_cases he : askE lay word = 0
        · rw [if_pos he] at hRe
          subst hRe
          rw [if_pos he, he] at cl
          simp -dsimp
          rw [← hX, hMX]
          try simp -dsimp [bx, bv, hVl, hV]
          refine andVW_intro hq ?_
          simp -dsimp [bx, bv, hVl, hV, gq]
          refine acallsW_of cl ?_
          rintro e _ ⟨rfl, rfl⟩
          rw [gg.sb]
          simp -dsimp [bx, bv, hVl, hV]
          exact fin _ _ V _ [X] rfl ⟨rfl, rfl⟩
        · rw [if_neg he] at hRe
          subst hRe
          rw [if_neg he] at cl
          have hd1 : (askE lay word == 0) = false := by simp [he]
          have hd2 : (askE lay word != 0) = true := by simp [he]
          obtain ⟨e, hee⟩ : ∃ e, e = askE lay word := ⟨_, rfl⟩
          rw [← hee] at cl hd1 hd2
          simp -dsimp
          rw [← hX, hMX]
          try simp -dsimp [bx, bv, hVl, hV]
          refine andVW_intro hq ?_
          simp -dsimp [bx, bv, hVl, hV, gq]
          refine acallsW_of cl ?_
          rintro e _ ⟨rfl, rfl⟩
          rw [gg.sb]
          simp -dsimp [bx, bv, hVl, hV, hd1, hd2]
          exact fin _ _ V b [X] rfl ⟨rfl, rfl⟩
      · obtain ⟨p, rfl⟩ : ∃ j : Nat, a = j := ⟨a.toNat, by omega⟩
        have hp : p < n := by omega
        have gp : V[p]? = some (vg V p) := hgv p (by omega) (by omega)
        have dp : decide ((0 : Int) ≤ (p : Int)) = true := decide_eq_true (by omega)
        have hAD : insAddr ⟨5, op, d, p, q, c, word, false⟩ stk V = IntKind.u64.wrap (word + IntKind.u64.wrap (8 * vg V p)) := by
          unfold insAddr
          simp [wU]
        rw [hAD] at hRe hrng
        obtain ⟨A, hA⟩ : ∃ A, A = IntKind.u64.wrap (word + IntKind.u64.wrap (8 * vg V p)) := ⟨_, rfl⟩
        rw [← hA] at hRe hrng
        have hA := hA.symm
        clear hAD
        have cl := mstore_ok mm hl ho A hrng.1 hrng.2 (vg V q)
        by_cases he : askE lay A = 0
        · rw [if_pos he] at hRe
          subst hRe
          rw [if_pos he, he] at cl
          simp -dsimp
          rw [← hX, hMX]
          try simp -dsimp [bx, bv, hVl, hV, gp, dp, hA]
          refine andVW_intro hp ?_
          simp -dsimp [bx, bv, hVl, hV, gp, dp, hA]
          refine andVW_intro hq ?_
          simp -dsimp [bx, bv, hVl, hV, gp, dp, hA, gq]
          refine acallsW_of cl ?_
          rintro e _ ⟨rfl, rfl⟩
          rw [gg.sb]
          simp -dsimp [bx, bv, hVl, hV, gp, dp, hA]
          exact fin _ _ V _ [X] rfl ⟨rfl, rfl⟩
        · rw [if_neg he] at hRe
          subst hRe
          rw [if_neg he] at cl
          have hd1 : (askE lay A == 0) = false := by simp [he]
          have hd2 : (askE lay A != 0) = true := by simp [he]
          obtain ⟨e, hee⟩ : ∃ e, e = askE lay A := ⟨_, rfl⟩
          rw [← hee] at cl hd1 hd2
          simp -dsimp
          rw [← hX, hMX]
          try simp -dsimp [bx, bv, hVl, hV, gp, dp, hA]
          refine andVW_intro hp ?_
          simp -dsimp [bx, bv, hVl, hV, gp, dp, hA]
          refine andVW_intro hq ?_
          simp -dsimp [bx, bv, hVl, hV, gp, dp, hA, gq]
          refine acallsW_of cl ?_
          rintro e _ ⟨rfl, rfl⟩
          rw [gg.sb]
          simp -dsimp [bx, bv, hVl, hV, gp, dp, hA, hd1, hd2]
          exact fin _ _ V b [X] rfl ⟨rfl, rfl⟩
    · rcases ha with rfl | ha
      · have hAD : insAddr ⟨5, op, d, -1, q, c, word, true⟩ stk V = IntKind.u64.wrap (word + stk) := by
          unfold insAddr
          simp
        rw [hAD] at hRe hrng
        obtain ⟨A, hA⟩ : ∃ A, A = IntKind.u64.wrap (word + stk) := ⟨_, rfl⟩
        rw [← hA] at hRe hrng
        have hA := hA.symm
        clear hAD
        have cl := mstore_ok mm hl ho A hrng.1 hrng.2 (vg V q)
        by_cases he : askE lay A = 0
        · rw [if_pos he] at hRe
          subst hRe
          rw [if_pos he, he] at cl
          simp -dsimp
          rw [← hX, hMX]
          try simp -dsimp [bx, bv, hVl, hV, hA]
          refine andVW_intro hq ?_
          simp -dsimp [bx, bv, hVl, hV, hA, gq]
          refine acallsW_of cl ?_
          rintro e _ ⟨rfl, rfl⟩
          rw [gg.sb]
          simp -dsimp [bx, bv, hVl, hV, hA]
          exact fin _ _ V _ [X] rfl ⟨rfl, rfl⟩
        · rw [if_neg he] at hRe
          subst hRe
          rw [if_neg he] at cl
          have hd1 : (askE lay A == 0) = false := by simp [he]
          have hd2 : (askE lay A != 0) = true := by simp [he]
          obtain ⟨e, hee⟩ : ∃ e, e = askE lay A := ⟨_, rfl⟩
          rw [← hee] at cl hd1 hd2
          simp -dsimp
          rw [← hX, hMX]
          try simp -dsimp [bx, bv, hVl, hV, hA]
          refine andVW_intro hq ?_
          simp -dsimp [bx, bv, hVl, hV, hA, gq]
          refine acallsW_of cl ?_
          rintro e _ ⟨rfl, rfl⟩
          rw [gg.sb]
          simp -dsimp [bx, bv, hVl, hV, hA, hd1, hd2]
          exact fin _ _ V b [X] rfl ⟨rfl, rfl⟩
      · obtain ⟨p, rfl⟩ : ∃ j : Nat, a = j := ⟨a.toNat, by omega⟩
        have hp : p < n := by omega
        have gp : V[p]? = some (vg V p) := hgv p (by omega) (by omega)
        have dp : decide ((0 : Int) ≤ (p : Int)) = true := decide_eq_true (by omega)
        have hAD : insAddr ⟨5, op, d, p, q, c, word, true⟩ stk V = IntKind.u64.wrap (IntKind.u64.wrap (word + stk) + IntKind.u64.wrap (8 * vg V p)) := by
          unfold insAddr
          simp [wU]
        rw [hAD] at hRe hrng
        obtain ⟨A, hA⟩ : ∃ A, A = IntKind.u64.wrap (IntKind.u64.wrap (word + stk) + IntKind.u64.wrap (8 * vg V p)) := ⟨_, rfl⟩
        rw [← hA] at hRe hrng
        have hA := hA.symm
        clear hAD
        have cl := mstore_ok mm hl ho A hrng.1 hrng.2 (vg V q)
        by_cases he : askE lay A = 0
        · rw [if_pos he] at hRe
          subst hRe
          rw [if_pos he, he] at cl
          simp -dsimp
          rw [← hX, hMX]
          try simp -dsimp [bx, bv, hVl, hV, gp, dp, hA]
          refine andVW_intro hp ?_
          simp -dsimp [bx, bv, hVl, hV, gp, dp, hA]
          refine andVW_intro hq ?_
          simp -dsimp [bx, bv, hVl, hV, gp, dp, hA, gq]
          refine acallsW_of cl ?_
          rintro e _ ⟨rfl, rfl⟩
          rw [gg.sb]
          simp -dsimp [bx, bv, hVl, hV, gp, dp, hA]
          exact fin _ _ V _ [X] rfl ⟨rfl, rfl⟩
        · rw [if_neg he] at hRe
          subst hRe
          rw [if_neg he] at cl
          have hd1 : (askE lay A == 0) = false := by simp [he]
          have hd2 : (askE lay A != 0) = true := by simp [he]
          obtain ⟨e, hee⟩ : ∃ e, e = askE lay A := ⟨_, rfl⟩
          rw [← hee] at cl hd1 hd2
          simp -dsimp
          rw [← hX, hMX]
          try simp -dsimp [bx, bv, hVl, hV, gp, dp, hA]
          refine andVW_intro hp ?_
          simp -dsimp [bx, bv, hVl, hV, gp, dp, hA]
          refine andVW_intro hq ?_
          simp -dsimp [bx, bv, hVl, hV, gp, dp, hA, gq]
          refine acallsW_of cl ?_
          rintro e _ ⟨rfl, rfl⟩
          rw [gg.sb]
          simp -dsimp [bx, bv, hVl, hV, gp, dp, hA, hd1, hd2]
          exact fin _ _ V b [X] rfl ⟨rfl, rfl⟩
end Go.Proofs
