/- Levels as maps: copies, joining, comparing. -/
import Derived.Test.YtihlekehnihnpaaGreatSX1
import Derived.Test.YtihlekehnihnpaaGreatFwZ
import Derived.Test.YtihlekehnihnpaaGreatFwRg
import Derived.Shelf.SlMaps.Clone
import Derived.Test.YtihlekehnihnpaaGreatFwWtoL6
import Derived.Test.YtihlekehnihnpaaGreatFwXtoV7
set_option linter.unusedVariables false
set_option linter.unusedSimpArgs false
set_option maxHeartbeats 4000000
set_option maxRecDepth 100000
namespace Go.Proofs
open Go.Mu
abbrev Keys (t : Tab) : List ByteArray := t.map (·.1)
abbrev BoA (b : Bool) : AV := Bo b
abbrev tabM (t : Tab) : List (Value × AV) := strM BoA t
theorem alook_at : ∀ {t : Tab} {j : Nat} {n : ByteArray} {x : Bool}, (Keys t).Nodup → t[j]? = some (n, x) → alook n t = some x
  | [], j, n, x, _, h => by simp at h
  | (m, y) :: t, 0, n, x, _, h => by simp at h; obtain ⟨rfl, rfl⟩ := h; simp [alook]
  | (m, y) :: t, j + 1, n, x, hn, h => by
    simp only [Keys, List.map_cons, List.nodup_cons] at hn
    have h' : t[j]? = some (n, x) := by simpa using h
    have hm : n ∈ t.map (·.1) := List.mem_map.2 ⟨_, List.mem_of_getElem? h', rfl⟩
    rw [alook, if_neg (fun e : n = m => hn.1 (e ▸ hm))]
    exact alook_at hn.2 h'
theorem aset_at : ∀ {t : Tab} {j : Nat} {n : ByteArray} {x : Bool} (v : Bool), (Keys t).Nodup → t[j]? = some (n, x) → aset n v t = t.set j (n, v)
  | [], j, n, x, v, _, h => by simp at h
  | (m, y) :: t, 0, n, x, v, _, h => by simp at h; obtain ⟨rfl, rfl⟩ := h; simp [aset]
  | (m, y) :: t, j + 1, n, x, v, hn, h => by
    simp only [Keys, List.map_cons, List.nodup_cons] at hn
    have h' : t[j]? = some (n, x) := by simpa using h
    have hm : n ∈ t.map (·.1) := List.mem_map.2 ⟨_, List.mem_of_getElem? h', rfl⟩
    rw [aset, if_neg (fun e : n = m => hn.1 (e ▸ hm)), aset_at v hn.2 h']
    rfl
theorem tabM_get {t : Tab} {j : Nat} {p : Value × AV} (h : (tabM t)[j]? = some p) : ∃ n x, t[j]? = some (n, x) ∧ p = (.string n, Bo x) := by
  simp only [strM, List.getElem?_map] at h
  rw [Option.map_eq_some_iff] at h
  obtain ⟨⟨n, x⟩, h1, rfl⟩ := h
  exact ⟨n, x, h1, rfl⟩
@[simp] theorem tabM_len (t : Tab) : (tabM t).length = t.length := by simp [strM]
def joinS (a b : Tab) (seen : List Nat) : Tab := a.mapIdx fun j x => (x.1, if j ∈ seen then (x.2 || ((b[j]?.map (·.2)).getD false)) else x.2)
theorem joinS_keys (a b : Tab) (seen : List Nat) : Keys (joinS a b seen) = Keys a := by
  unfold Keys joinS
  apply List.ext_getElem?
  intro j
  simp only [List.getElem?_mapIdx, List.getElem?_map]
  cases a[j]? <;> rfl
theorem joinS_nil (a b : Tab) : joinS a b [] = a := by
  unfold joinS
  apply List.ext_getElem?
  intro j
  simp only [List.getElem?_mapIdx, List.not_mem_nil, if_false]
  cases a[j]? <;> rfl
theorem joinS_all : ∀ (a b : Tab) (seen : List Nat), a.length = b.length → (∀ j, j < a.length → j ∈ seen) → joinS a b seen = joinT a b := by
  have key : ∀ (a b : Tab), a.length = b.length → (a.mapIdx fun j x => (x.1, x.2 || ((b[j]?.map (·.2)).getD false))) = joinT a b := by
    intro a
    induction a with
    | nil => intro b _; rfl
    | cons x a ih =>
      intro b hl
      cases b with
      | nil => simp at hl
      | cons y b =>
        rw [List.mapIdx_cons, joinT, ← ih b (by simpa using hl)]
        rfl
  intro a b seen hl h
  rw [← key a b hl]
  unfold joinS
  apply List.ext_getElem?
  intro j
  simp only [List.getElem?_mapIdx]
  cases ha : a[j]? with
  | none => rfl
  | some x => simp only [Option.map_some]; rw [if_pos (h j (List.getElem?_eq_some_iff.1 ha).1)]
theorem joinS_get {a b : Tab} {seen : List Nat} {j : Nat} {n m : ByteArray} {x y : Bool} (ha : a[j]? = some (n, x)) (hj : j ∉ seen) : (joinS a b seen)[j]? = some (n, x) := by
  unfold joinS
  simp only [List.getElem?_mapIdx, ha, Option.map_some, if_neg hj]
theorem joinS_set {a b : Tab} {seen : List Nat} {j : Nat} {n m : ByteArray} {x y : Bool} (ha : a[j]? = some (n, x)) (hb : b[j]? = some (m, y)) (hj : j ∉ seen) : (joinS a b seen).set j (n, x || y) = joinS a b (seen ++ [j]) := by
  unfold joinS
  apply List.ext_getElem?
  intro i
  rw [List.getElem?_set]
  simp only [List.getElem?_mapIdx, List.length_mapIdx]
  by_cases hi : j = i
  · subst hi
    rw [if_pos rfl, if_pos (List.getElem?_eq_some_iff.1 ha).1, ha]
    simp [hb]
  · rw [if_neg hi]
    cases a[i]? with
    | none => rfl
    | some z =>
      simp only [Option.map_some, List.mem_append, List.mem_singleton]
      by_cases hs : i ∈ seen
      · rw [if_pos hs, if_pos (.inl hs)]
      · rw [if_neg hs, if_neg (by rintro (h | rfl); exact hs h; exact hi rfl)]
theorem clone_calls (b : Nat) (es : Array MapEntry) (clock : Nat) (w : World) (hb : w.heap[b]? = some (.map es clock)) :
    Calls Tryz.prog 124 #[.map (some b)] w fun e w' => e = .returned (.map (some w.heap.size)) ∧ w' = w.alloc (.map es clock) := by
  have hq := fun w => run_eql_map_nil_sl (P := Tryz.prog) w 142 _ _ (some b) Tryz.underlying142
  go_enter Tryz.func124, Tryz.ntmps124
  go_wp2
  rw [run_callFunc_extern Tryz.func162 (by kernel_rfl) (by kernel_rfl) (by kernel_rfl) (e := Extern.MapsClone.clone) (by kernel_rfl), run_maps_clone_sl w 142 hb]
  simp only [Result.andThen]
  rw [Oper.upon_value]
  go_wp2
  rw [run_typeAssert_map_sl _ 142 _ _ _ _ Tryz.underlying142]
  simp only [Result.andThen]
  rw [Oper.upon_value]
  go_wp2
  go_ret
  exact ⟨rfl, rfl⟩
theorem clone_lv (es : List (Value × AV)) (k : Nat) (H : List Blk) (hk : H[k]? = some (.map es)) : ACalls Tryz.prog 124 [.hm k] H (fun e H' => e = .ret (.hm H.length) ∧ H' = H ++ [.map es]) := by
  intro B w0 cx vals hR hH hA
  subst hH
  obtain ⟨v1, vs1, rfl, r1, hA1⟩ := hA.cons_inv
  obtain rfl := hA1.nil_inv
  obtain ⟨b1, b2, ents, b3, b4, b5⟩ := hR.blk k _ hk
  cases r1 with
  | hm _ bl hk' hf =>
    refine (clone_calls (cx.κ k) ents.toArray ents.length cx.w b3).mono ?_
    rintro e w' ⟨rfl, rfl⟩
    have hle := le_push cx (.map ents.toArray ents.length) (.map es) 0
    have hp : HRel B w0 (cx.push (.map ents.toArray ents.length) (.map es) 0) := by
      refine hrel_push hR _ _ _ ⟨?_, ?_, ents, ?_, b4, fun j p e a b => ?_⟩
      · show B ≤ updN _ _ _ _; simp; exact hR.base
      · show ¬ cx.Φ (updN _ _ _ _); simp; exact fun hf => Nat.lt_irrefl _ (hR.frz _ hf)
      · show (cx.w.alloc _).heap[updN _ _ _ _]? = _; simp only [updN_same]; exact heap_alloc_new _ _
      · obtain ⟨c1, c2, c3⟩ := b5 j p e a b; exact ⟨c1, c2.mono hle, c3⟩
    refine ⟨_, .hm cx.H.length, rfl, hp, hle, ?_, rfl, rfl⟩
    have e : (cx.push (.map ents.toArray ents.length) (.map es) 0).κ cx.H.length = cx.w.heap.size := updN_same _ _ _
    rw [← e]
    exact .hm _ (.map es) (by simp [Cx.push]) rfl
theorem nodup_len : ∀ (n : Nat) (s : List Nat), s.Nodup → (∀ j ∈ s, j < n) → s.length ≤ n
  | 0, s, _, h => by cases s with
    | nil => simp
    | cons x s => have := h x (List.mem_cons_self ..); omega
  | n + 1, s, hs, h => by
    by_cases hn : n ∈ s
    · have h1 := nodup_len n (s.erase n) (hs.erase n) (fun j hj => by
        have hm := (hs.mem_erase_iff.1 hj)
        have := h j hm.2
        have := hm.1
        omega)
      rw [List.length_erase_of_mem hn] at h1
      omega
    · have := nodup_len n s hs (fun j hj => by have := h j hj; have : j ≠ n := fun e => hn (e ▸ hj); omega)
      omega
theorem nodup_less {n j : Nat} {s : List Nat} (hs : s.Nodup) (h : ∀ j ∈ s, j < n) (hj : j ∉ s) (hn : j < n) : s.length < n := by
  have := nodup_len n (j :: s) (List.nodup_cons.2 ⟨hj, hs⟩) (fun i hi => by
    rcases List.mem_cons.1 hi with rfl | hi
    · exact hn
    · exact h i hi)
  simp only [List.length_cons] at this
  omega
theorem joined_ok (a b : Tab) (ka kb : Nat) (H : List Blk) (ha : H[ka]? = some (.map (tabM a))) (hb : H[kb]? = some (.map (tabM b))) (hk : Keys a = Keys b) (hn : (Keys a).Nodup) (h40 : a.length ≤ 2^40) :
    ACalls Tryz.prog 125 [.hm ka, .hm kb] H (fun e H' => e = .ret (.hm H.length) ∧ H' = H ++ [.map (tabM (joinT a b))]) := by
  have hl : a.length = b.length := by have := congrArg List.length hk; simpa [Keys] using this
  have hnb : (Keys b).Nodup := hk ▸ hn
  refine acalls_tidy (acalls_of_vc (hn := fun _ => false) (od := fun _ => none) Tryz.func125 rfl (by kernel_rfl) ?_)
  have cc := clone_lv (tabM a) ka H ha
  obtain ⟨G, hG⟩ : ∃ G : List Nat → List Nat → List Blk, G = fun s s' => H ++ [.map (tabM (joinS a b s)), .it (some kb) b.length s'] := ⟨_, rfl⟩
  have hGe : ∀ s s', G s s' = H ++ [.map (tabM (joinS a b s)), .it (some kb) b.length s'] := fun s s' => by rw [hG]
  have gb : ∀ s s', (G s s')[kb]? = some (.map (tabM b)) := fun s s' => by rw [hGe]; exact get_app_old hb _
  have go : ∀ s s', (G s s')[H.length]? = some (.map (tabM (joinS a b s))) := fun s s' => by rw [hGe]; simp
  have gi : ∀ s s', (G s s')[H.length + 1]? = some (.it (some kb) b.length s') := fun s s' => by rw [hGe]; simp
  have si : ∀ s s' s'', (G s s').set (H.length + 1) (.it (some kb) b.length s'') = G s s'' := fun s s' s'' => by rw [hGe, hGe]; simp
  have so : ∀ s s' s'', (G s s').set H.length (.map (tabM (joinS a b s''))) = G s'' s' := fun s s' s'' => by rw [hGe, hGe]; simp
  have g0 : H ++ [.map (tabM a)] ++ [.it (some kb) b.length []] = G [] [] := by rw [hGe, joinS_nil]; simp
  clear hG
  simp -dsimp
  refine acallsW_of cc ?_
  rintro e H' ⟨rfl, rfl⟩
  have hb' : (H ++ [Blk.map (tabM a)])[kb]? = some (.map (tabM b)) := get_app_old hb _
  obtain ⟨W, hW⟩ : ∃ W, W = H ++ [Blk.map (tabM a)] := ⟨_, rfl⟩
  have hWl : W.length = H.length + 1 := by rw [hW]; simp
  rw [← hW] at hb' g0 ⊢
  simp -dsimp [hb', hWl]
  rw [g0]
  refine loop_rule (hn := fun _ => false) (od := fun _ => none) (fun (s : List Nat) f H' => H' = G s s ∧ f 5 = .hm H.length ∧ f 11 = .hi (H.length + 1) ∧ s.Nodup ∧ (∀ j ∈ s, j < b.length)) (fun s => b.length - s.length) (by kernel_rfl) [] (by simp) ?_
  rintro s f _ ⟨rfl, f5, f11, hs1, hs2⟩
  have hsl : s.length ≤ b.length := nodup_len _ _ hs1 hs2
  simp -dsimp [f5, f11]
  refine nextVW_intro (gi s s) (gb s s) (by simp) (fun j p hj hp => ?_) (fun hall => ?_)
  · obtain ⟨n, y, hbj, rfl⟩ := tabM_get hp
    have hjl : j < b.length := (List.getElem?_eq_some_iff.1 hbj).1
    obtain ⟨⟨m, x⟩, haj⟩ : ∃ q, a[j]? = some q := ⟨a[j], List.getElem?_eq_getElem (by omega)⟩
    have hmn : m = n := by
      have h1 : (Keys a)[j]? = some m := by simp [Keys, haj]
      have h2 : (Keys b)[j]? = some n := by simp [Keys, hbj]
      rw [hk, h2] at h1; exact (Option.some.inj h1).symm
    subst hmn
    have hnS : (Keys (joinS a b s)).Nodup := by rw [joinS_keys]; exact hn
    have hg := joinS_get (a := a) (b := b) (m := m) (y := y) haj hj
    have hf : mfind .string (.string m) (tabM (joinS a b s)) = some (some (Bo x)) := by
      have := mfind_str BoA m (joinS a b s)
      rw [alook_at hnS hg] at this; exact this
    have hset : mset .string (.string m) (Bo (x || y)) (tabM (joinS a b s)) = some (tabM (joinS a b (s ++ [j]))) := by
      have := mset_str BoA m (x || y) (joinS a b s)
      rw [aset_at (x || y) hnS hg, joinS_set haj hbj hj] at this; exact this
    rw [si]
    have hlast : ∃ e, e = (Bo y, Value.string m) := ⟨_, rfl⟩
    simp -dsimp [f5, f11]
    refine entryVW_intro (gi s (s ++ [j])) (gb s (s ++ [j])) (by simp) hp ?_
    have fin : ∃ s', b.length - s'.length < b.length - s.length ∧ (G (s ++ [j]) (s ++ [j]) = G s' s' ∧ s'.Nodup ∧ ∀ j ∈ s', j < b.length) := by
      refine ⟨s ++ [j], ?_, rfl, ?_, ?_⟩
      · have : s.length < b.length := nodup_less hs1 hs2 hj hjl
        simp; omega
      · rw [List.nodup_append]; exact ⟨hs1, by simp, fun i hi k hk e => hj (by rw [List.mem_singleton] at hk; rw [← hk, ← e]; exact hi)⟩
      · intro i hi
        rcases List.mem_append.1 hi with hi | hi
        · exact hs2 i hi
        · simp at hi; subst hi; exact hjl
    cases x
    · simp only [Bool.false_or] at hset
      simp -dsimp [f5, f11, go, hf, hset, so]
      obtain ⟨s', h1, h2, h3, h4⟩ := fin
      exact ⟨s', h1, h2, h3, h4⟩
    · simp only [Bool.true_or] at hset
      simp -dsimp [f5, f11, go, hf, hset, so]
      obtain ⟨s', h1, h2, h3, h4⟩ := fin
      exact ⟨s', h1, h2, h3, h4⟩
  · simp -dsimp [f5]
    rw [hGe, joinS_all a b s hl (fun j hj => hall j (by omega))]
    have e : H ++ [Blk.map (tabM (joinT a b)), Blk.it (some kb) b.length s] = (H ++ [Blk.map (tabM (joinT a b))]) ++ [Blk.it (some kb) b.length s] := by simp
    rw [e]
    exact tidy_to (by simp) (fun hu => underH_appF (by simp) hu (by simp [Blk.under, strM, AV.under])) (by simp [AV.under]) ⟨rfl, rfl⟩
theorem tab_eq : ∀ {a b : Tab}, Keys a = Keys b → (∀ (j : Nat) n x m y, a[j]? = some (n, x) → b[j]? = some (m, y) → x = y) → a = b := by
  intro a
  induction a with
  | nil => intro b h _; cases b with | nil => rfl | cons _ _ => simp [Keys] at h
  | cons p a ih =>
    intro b h hh
    cases b with
    | nil => simp [Keys] at h
    | cons q b =>
      simp only [Keys, List.map_cons, List.cons.injEq] at h
      have h0 := hh 0 p.1 p.2 q.1 q.2 rfl rfl
      rw [ih h.2 (fun j n x m y h1 h2 => hh (j + 1) n x m y (by simpa using h1) (by simpa using h2)), Prod.ext h.1 h0]
theorem equal_lv (a b : Tab) (ka kb : Nat) (H : List Blk) (ha : H[ka]? = some (.map (tabM a))) (hb : H[kb]? = some (.map (tabM b))) (hk : Keys a = Keys b) (hn : (Keys a).Nodup) (h40 : a.length ≤ 2^40) :
    ACalls Tryz.prog 164 [.hm ka, .hm kb] H (fun e H' => e = .ret (Bo (decide (a = b))) ∧ H' = H) := by
  have hl : a.length = b.length := by have := congrArg List.length hk; simpa [Keys] using this
  have hnb : (Keys b).Nodup := hk ▸ hn
  refine acalls_tidy (acalls_of_vc (hn := fun _ => false) (od := fun _ => none) Tryz.func164 rfl (by kernel_rfl) ?_)
  obtain ⟨G, hG⟩ : ∃ G : List Nat → List Blk, G = fun s' => H ++ [.it (some ka) a.length s'] := ⟨_, rfl⟩
  have hGe : ∀ s', G s' = H ++ [.it (some ka) a.length s'] := fun s' => by rw [hG]
  have ga : ∀ s', (G s')[ka]? = some (.map (tabM a)) := fun s' => by rw [hGe]; exact get_app_old ha _
  have gb : ∀ s', (G s')[kb]? = some (.map (tabM b)) := fun s' => by rw [hGe]; exact get_app_old hb _
  have gi : ∀ s', (G s')[H.length]? = some (.it (some ka) a.length s') := fun s' => by rw [hGe]; simp
  have si : ∀ s' s'', (G s').set H.length (.it (some ka) a.length s'') = G s'' := fun s' s'' => by rw [hGe, hGe]; simp
  have g0 : H ++ [.it (some ka) (tabM a).length []] = G [] := by rw [hGe]; simp
  clear hG
  have hlen : ((a.length : Int) != b.length) = false := by rw [hl]; simp
  simp -dsimp [ha, hb, hlen]
  rw [show H ++ [Blk.it (some ka) a.length []] = G [] by rw [hGe]]
  refine loop_rule (hn := fun _ => false) (od := fun _ => none) (fun (s : List Nat) f H' => H' = G s ∧ f 0 = .hm ka ∧ f 1 = .hm kb ∧ f 15 = .hi H.length ∧ s.Nodup ∧ (∀ j ∈ s, j < a.length) ∧ (∀ j ∈ s, (a[j]?.map (·.2)) = (b[j]?.map (·.2)))) (fun s => a.length - s.length) (by kernel_rfl) [] (by simp) ?_
  rintro s f _ ⟨rfl, f0, f1, f15, hs1, hs2, hs3⟩
  simp -dsimp [f0, f1, f15]
  refine nextVW_intro (gi s) (ga s) (by simp) (fun j p hj hp => ?_) (fun hall => ?_)
  · obtain ⟨n, x, haj, rfl⟩ := tabM_get hp
    have hjl : j < a.length := (List.getElem?_eq_some_iff.1 haj).1
    obtain ⟨⟨m, y⟩, hbj⟩ : ∃ q, b[j]? = some q := ⟨b[j], List.getElem?_eq_getElem (by omega)⟩
    have hmn : m = n := by
      have h1 : (Keys a)[j]? = some n := by simp [Keys, haj]
      have h2 : (Keys b)[j]? = some m := by simp [Keys, hbj]
      rw [hk, h2] at h1; exact (Option.some.inj h1)
    subst hmn
    have hf : mfind .string (.string m) (tabM b) = some (some (Bo y)) := by
      have := mfind_str BoA m b
      rw [alook_at hnb hbj] at this; exact this
    have hbn : binE Tryz.prog .neq 4 (Bo x) (Bo y) = some (Bo (x != y)) := by cases x <;> cases y <;> kernel_rfl
    rw [si]
    simp -dsimp [f0, f1, f15]
    refine entryVW_intro (gi (s ++ [j])) (ga (s ++ [j])) (by simp) hp ?_
    by_cases hxy : x = y
    · subst hxy
      have hne : (x != x) = false := by cases x <;> rfl
      simp -dsimp [f0, f1, f15, gb, hf, hne, hbn]
      refine ⟨s ++ [j], ?_, rfl, ?_, ?_, ?_⟩
      · have : s.length < a.length := nodup_less hs1 hs2 hj hjl
        simp; omega
      · rw [List.nodup_append]; exact ⟨hs1, by simp, fun i hi k hk e => hj (by rw [List.mem_singleton] at hk; rw [← hk, ← e]; exact hi)⟩
      · intro i hi
        rcases List.mem_append.1 hi with hi | hi
        · exact hs2 i hi
        · simp at hi; subst hi; exact hjl
      · intro i hi
        rcases List.mem_append.1 hi with hi | hi
        · exact hs3 i hi
        · simp at hi; subst hi; rw [haj, hbj]
    · have hne : (x != y) = true := by cases x <;> cases y <;> simp_all
      have hab : decide (a = b) = false := by
        rw [decide_eq_false_iff_not]
        rintro rfl
        rw [haj] at hbj; simp at hbj; exact hxy hbj
      simp -dsimp [f0, f1, f15, gb, hf, hne, hbn]
      rw [hGe]
      exact tidy_same rfl ⟨by rw [hab], rfl⟩
  · have hab : decide (a = b) = true := by
      rw [decide_eq_true_eq]
      refine tab_eq hk fun j n x m y h1 h2 => ?_
      have := hs3 j (hall j (List.getElem?_eq_some_iff.1 h1).1)
      rw [h1, h2] at this; simpa using this
    simp -dsimp
    rw [hGe]
    exact tidy_same rfl ⟨by rw [hab], rfl⟩
end Go.Proofs
namespace Go.Proofs
open Go.Mu
abbrev refX (e : Int) : AV := .ifc 197 (.agg [I e])
theorem leave_ok (e : Int) (H : List Blk) : ACalls Tryz.prog 117 [I e] H (fun x H' => x = .pan (refX e) ∧ H' = H) := by
  refine acalls_tidy (acalls_of_vc (hn := fun _ => false) (od := fun _ => none) Tryz.func117 rfl (by kernel_rfl) ?_)
  simp -dsimp
  exact tidy_nowP (by simp [AV.under, underL]) ⟨rfl, rfl⟩
def LevR (r : Option Bool) (H : List Blk) : AE → List Blk → Prop := fun x H' => H' = H ∧ match r with | some b => x = .ret (Bo b) | none => x = .pan (refX 10)
structure CIn (M : List Blk) (kc ka kg kt : Nat) (p : Pg) (ar t : Tab) (g : Int) : Prop where
  box : M[kc]? = some (.box 144 [Rg.sl p.regions, Fc.sl p.funcs, .hm ka, .hm kt, .bp kg 0])
  arr : M[ka]? = some (.map (tabM ar))
  tab : M[kt]? = some (.map (tabM t))
  gone : M[kg]? = some (.box 3 [I g])
  ne : ka ≠ kt
theorem CIn.app {M : List Blk} {kc ka kg kt : Nat} {p : Pg} {ar t : Tab} {g : Int} (h : CIn M kc ka kg kt p ar t g) (L : List Blk) : CIn (M ++ L) kc ka kg kt p ar t g :=
  ⟨get_app_old h.box L, get_app_old h.arr L, get_app_old h.tab L, get_app_old h.gone L, h.ne⟩
theorem optB_getD (o : Option Bool) : (o.map BoA).getD (assertV.avZ (.bool false)) = Bo (o.getD false) := by cases o <;> rfl
structure AccI (t ar : Tab) (l : List Ex) (i : Nat) (v : AV) : Prop where
  out : ∃ acc : Bool, v = Bo acc ∧ exsLev t ar l = (exsLev t ar (l.drop i)).map (fun b => acc || b)
theorem lev_ok (p : Pg) (ar t : Tab) (n : Nat) : ∀ (e : Ex), e.count ≤ n → e.count ≤ 2^40 → ∀ {H : List Blk} {kc ka kg kt : Nat} {g : Int}, CIn H kc ka kg kt p ar t g →
    ACalls Tryz.prog 69 [.bp kc 0, .agg e.cells] H (LevR (e.lev t ar) H) := by
  induction n with
  | zero => intro e he; rw [Ex.count_eq] at he; omega
  | succ n ih =>
    intro e he he40 H kc ka kg kt g h
    refine acalls_tidy (acalls_of_vc (hn := fun _ => false) (od := fun _ => none) Tryz.func69 rfl (by kernel_rfl) ?_)
    obtain ⟨bE, hbE⟩ : ∃ bE, bE = Blk.box 53 e.cells := ⟨_, rfl⟩
    obtain ⟨E, hE⟩ : ∃ E, E = e.lev t ar := ⟨_, rfl⟩
    have finP : ∀ L, E = none → Tidy H (LevR E H) (.pan (refX 10)) (H ++ L) := fun L h => by rw [h]; exact tidy_sameP (by simp [AV.under, underL]) ⟨rfl, rfl⟩
    have finR : ∀ L b, E = some b → Tidy H (LevR E H) (.ret (Bo b)) (H ++ L) := fun L b h => by rw [h]; exact tidy_same rfl ⟨rfl, rfl⟩
    rw [← hE]
    rw [Ex.lev_eq] at hE
    have hlen := exs_len e.args
    have hcnt := Ex.count_eq e
    obtain ⟨V, hV⟩ : ∃ V : List Blk → List Blk, V = fun L => H ++ bE :: L := ⟨_, rfl⟩
    have hVe : ∀ L, V L = H ++ bE :: L := fun L => by rw [hV]
    have vA : ∀ L R, V L ++ R = V (L ++ R) := fun L R => by rw [hVe, hVe]; simp
    have v0 : ∀ L, (V L)[H.length]? = some (.box 53 [I e.op, U e.word, St e.name, Ex.sl e.args]) := fun L => by rw [hVe, hbE, Ex.cells_eq]; simp
    have vN : ∀ L X, (V (L ++ [X]))[(V L).length]? = some X := fun L X => by rw [← vA]; simp
    have vS : ∀ L X Y, (V (L ++ [X])).set (V L).length Y = V (L ++ [Y]) := fun L X Y => by rw [← vA, ← vA]; simp
    have hC : ∀ L, CIn (V L) kc ka kg kt p ar t g := fun L => by rw [hVe]; exact h.app _
    have finP : ∀ L, E = none → Tidy H (LevR E H) (.pan (refX 10)) (V L) := fun L h => by rw [hVe]; exact finP _ h
    have finR : ∀ L b, E = some b → Tidy H (LevR E H) (.ret (Bo b)) (V L) := fun L b h => by rw [hVe]; exact finR _ _ h
    have g0 : H ++ [Blk.box 53 [I e.op, U e.word, St e.name, Ex.sl e.args]] = V [] := by rw [hVe, hbE, Ex.cells_eq]
    clear hV
    simp -dsimp
    rw [g0]
    have hb2 : ∀ i (hi : i < e.args.length), e.args[i].count < e.count := fun i hi => exs_parts e hi
    refine loop_rule (hn := fun _ => false) (od := fun _ => none) (fun (x : Nat × List Blk) f H' => H' = V x.2 ∧ f 0 = .bp kc 0 ∧ f 3 = .bp H.length 0 ∧ f 9 = Ex.sl e.args ∧ f 10 = I e.args.length ∧ f 11 = I x.1 ∧ x.1 ≤ e.args.length ∧ AccI t ar e.args x.1 (f 5)) (fun x => e.args.length - x.1) (by kernel_rfl) (0, [])
      ⟨rfl, by simp, by simp, by simp, by simp, by simp, by simp, false, by simp, by simp only [List.drop_zero, Bool.false_or]; exact Option.map_id'.symm⟩ ?_
    rintro ⟨i, L⟩ f _ ⟨rfl, f0, f3, f9, f10, f11, hi, acc, f5, hinv⟩
    simp only at f5 f11 hi hinv
    replace hinv := Hid.mk hinv
    replace hE := Hid.mk hE
    simp -dsimp [f0, f3, f5, f9, f10, f11]
    refine condVW_introD (fun hlt => ?_) (fun hlt => ?_)
    · have hlt' : i < e.args.length := by omega
      have hinv' := hinv.out
      rw [drop_cons hlt', exsLev] at hinv'
      have hb3 := hb2 i hlt'
      have hlx := List.getElem?_eq_getElem hlt'
      obtain ⟨x, hx⟩ : ∃ x, x = e.args[i] := ⟨_, rfl⟩
      rw [← hx] at hinv' hlx hb3
      clear hx
      have ih := ih x (by omega) (by omega) (hC (L ++ [.box 53 x.cells]))
      simp only [Ex.cells_eq] at ih
      have w1 : IntKind.i64.wrap ((i : Int) + 1) = ((i + 1 : Nat) : Int) := wrapS (by omega)
      have hsl : (e.args.map Ex.cells)[i]? = some [I x.op, U x.word, St x.name, Ex.sl x.args] := by rw [List.getElem?_map, hlx, Option.map_some, Ex.cells_eq]
      simp -dsimp [f0, f3, f5, f9, f10, f11, hsl, vA, vN, vS]
      refine acallsW_of ih ?_
      rintro z H' ⟨rfl, hz⟩
      cases hl : x.lev t ar with
      | none =>
        rw [hl] at hz hinv'
        simp only at hz hinv'
        subst hz
        simp -dsimp
        refine finP _ ?_
        have := hE.out
        rw [hinv'] at this
        exact this
      | some b =>
        rw [hl] at hz hinv'
        simp only at hz hinv'
        subst hz
        have hinv2 : exsLev t ar e.args = (exsLev t ar (e.args.drop (i + 1))).map (fun c => (acc || b) || c) := by
          rw [hinv']
          cases exsLev t ar (e.args.drop (i + 1)) with
          | none => rfl
          | some c => simp [Bool.or_assoc]
        replace hinv2 := Hid.mk hinv2
        clear hinv hinv'
        cases b
        · simp -dsimp [f0, f3, f5, f9, f10, f11]
          exact ⟨i + 1, by omega, ⟨_, rfl⟩, w1, by omega, ⟨acc, rfl, by simpa using hinv2.out⟩⟩
        · simp -dsimp [f0, f3, f5, f9, f10, f11]
          exact ⟨i + 1, by omega, ⟨_, rfl⟩, w1, by omega, ⟨true, rfl, by simpa using hinv2.out⟩⟩
    · have hinv' := hinv.out
      rw [drop_end (by omega), exsLev, Option.map_some, Bool.or_false] at hinv'
      have hE' := hE.out
      rw [hinv'] at hE'
      simp only at hE'
      clear hinv hE hinv'
      have hf1 := mfind_str BoA e.name t
      have hf2 := mfind_str BoA e.name ar
      have hC' := hC L
      obtain ⟨c1, c2, c3, _, _⟩ := hC'
      by_cases h2 : e.op = 2
      · rw [if_pos h2] at hE'
        simp -dsimp [f0, f3, f5, v0, h2, c1, c3, hf1, optB_getD]
        exact finR _ _ hE'
      · have h2b : (e.op == 2) = false := by simpa using h2
        rw [if_neg h2] at hE'
        by_cases h3 : e.op = 3
        · rw [if_pos h3] at hE'
          cases acc
          · simp -dsimp [f0, f3, f5, v0, h3, c1, c2, hf2, optB_getD]
            exact finR _ _ (by simpa [lookB] using hE')
          · simp -dsimp [f0, f3, f5, v0, h3]
            refine acallsW_of (leave_ok 10 _) ?_
            rintro z H' ⟨rfl, rfl⟩
            simp -dsimp
            exact finP _ (by simpa using hE')
        · have h3b : (e.op == 3) = false := by simpa using h3
          rw [if_neg h3] at hE'
          simp -dsimp [f0, f3, f5, v0, h2b, h3b]
          exact finR _ _ hE'
def pubB (r : Option Bool) : Bool := match r with | some false => true | _ => false
def PubR (b : Bool) (H : List Blk) : AE → List Blk → Prop := fun x H' => H' = H ∧ if b = true then x = .ret (.tup []) else x = .pan (refX 10)
theorem public_ok (p : Pg) (ar t : Tab) (e : Ex) (he40 : e.count ≤ 2^40) {H : List Blk} {kc ka kg kt : Nat} {g : Int} (h : CIn H kc ka kg kt p ar t g) :
    ACalls Tryz.prog 123 [.bp kc 0, .agg e.cells] H (PubR (pubB (e.lev t ar)) H) := by
  refine acalls_tidy (acalls_of_vc (hn := fun _ => false) (od := fun _ => none) Tryz.func123 rfl (by kernel_rfl) ?_)
  have cl := lev_ok p ar t _ e (Nat.le_refl _) he40 (h.app [.box 53 e.cells])
  simp only [Ex.cells_eq] at cl
  simp -dsimp
  refine acallsW_of cl ?_
  rintro z H' ⟨rfl, hz⟩
  cases hl : e.lev t ar with
  | none =>
    rw [hl] at hz
    simp only at hz
    subst hz
    simp -dsimp
    exact tidy_sameP (by simp [AV.under, underL]) ⟨rfl, by simp [pubB]⟩
  | some b =>
    rw [hl] at hz
    simp only at hz
    subst hz
    cases b
    · simp -dsimp
      exact tidy_same rfl ⟨rfl, by simp [pubB]⟩
    · simp -dsimp
      refine acallsW_of (leave_ok 10 _) ?_
      rintro z H' ⟨rfl, rfl⟩
      simp -dsimp
      exact tidy_sameP (by simp [AV.under, underL]) ⟨rfl, by simp [pubB]⟩
theorem skrec_none (t : Nat) (H : List Blk) : RecSem Tryz.prog ⟨116, [.bp t 0], none⟩ (.v .nilIface) H (fun H' => H' = H) := by
  refine recSem_of_vc (hn := fun _ => false) (od := fun _ => none) Tryz.func116 rfl rfl (by kernel_rfl) ?_
  show vcC _ _ _ _ _ (recQ _) _ _ _
  simp -dsimp
theorem skrec_some (t : Nat) (H : List Blk) (n e : Int) (h : H[t]? = some (.box 40 [I n])) : RecSem Tryz.prog ⟨116, [.bp t 0], none⟩ (refX e) H (fun H' => ∃ L, H' = H.set t (.box 40 [I e]) ++ L) := by
  refine recSem_of_vc (hn := fun _ => false) (od := fun _ => none) Tryz.func116 rfl rfl (by kernel_rfl) ?_
  show vcC _ _ _ _ _ (recQ _) _ _ _
  have hl := lt_of_get h
  have hL := fun L => get_app_old h L
  have hs : ∀ L X, (H ++ L).set t X = H.set t X ++ L := fun L X => by rw [List.set_append, if_pos hl]
  simp -dsimp [assertV, h, hL, hs]
end Go.Proofs
namespace Go.Proofs
open Go.Mu
theorem setsT_app (a b : List (ByteArray × Bool)) (t : Tab) : setsT (a ++ b) t = setsT b (setsT a t) := List.foldl_append
theorem setsT_cons (x : ByteArray × Bool) (l : List (ByteArray × Bool)) (t : Tab) : setsT (x :: l) t = setsT l (aset x.1 x.2 t) := rfl
def rgP (r : Rg) : ByteArray × Bool := (r.name, r.secret)
def vrP (v : Vr) : ByteArray × Bool := (v.name, v.secret)
def vrF (v : Vr) : ByteArray × Bool := (v.name, false)
def aR (l : List Rg) : Tab := setsT (l.map rgP) []
def tP (l : List Vr) : Tab := setsT (l.map vrP) []
def aV (l : List Vr) (t : Tab) : Tab := setsT ((l.filter fun v => !(v.kind == 1)).map vrP) t
def tV (l : List Vr) (t : Tab) : Tab := setsT ((l.filter fun v => v.kind == 1).map vrF) t
theorem aR_take {l : List Rg} {i : Nat} {x : Rg} (h : l[i]? = some x) : aR (l.take (i + 1)) = aset x.name x.secret (aR (l.take i)) := by
  obtain ⟨hi, rfl⟩ := List.getElem?_eq_some_iff.1 h
  rw [take_succ' hi, aR, List.map_append, setsT_app]; rfl
theorem tP_take {l : List Vr} {i : Nat} {x : Vr} (h : l[i]? = some x) : tP (l.take (i + 1)) = aset x.name x.secret (tP (l.take i)) := by
  obtain ⟨hi, rfl⟩ := List.getElem?_eq_some_iff.1 h
  rw [take_succ' hi, tP, List.map_append, setsT_app]; rfl
theorem aV_take {l : List Vr} {i : Nat} {x : Vr} (h : l[i]? = some x) (t : Tab) : aV (l.take (i + 1)) t = if x.kind = 1 then aV (l.take i) t else aset x.name x.secret (aV (l.take i) t) := by
  obtain ⟨hi, rfl⟩ := List.getElem?_eq_some_iff.1 h
  rw [take_succ' hi, aV, List.filter_append, List.map_append, setsT_app]
  by_cases hk : l[i].kind = 1 <;> simp [hk, aV, setsT, vrP]
theorem tV_take {l : List Vr} {i : Nat} {x : Vr} (h : l[i]? = some x) (t : Tab) : tV (l.take (i + 1)) t = if x.kind = 1 then aset x.name false (tV (l.take i) t) else tV (l.take i) t := by
  obtain ⟨hi, rfl⟩ := List.getElem?_eq_some_iff.1 h
  rw [take_succ' hi, tV, List.filter_append, List.map_append, setsT_app]
  by_cases hk : l[i].kind = 1 <;> simp [hk, tV, setsT, vrF]
theorem enterT_eq (F : Fc) : enterT F = tV F.vars (tP F.params) := by rw [enterT, setsT_app]; rfl
theorem arrT_eq (rs : List Rg) (F : Fc) : arrT rs F = aV F.vars (aR rs) := by rw [arrT, setsT_app]; rfl
theorem enter_ok (p : Pg) (f : Nat) (F : Fc) (hF : p.funcs[f]? = some F) (hf40 : p.funcs.length ≤ 2^40) (hr40 : p.regions.length ≤ 2^40) (hp40 : F.params.length ≤ 2^40) (hv40 : F.vars.length ≤ 2^40) (kg : Nat) (g : Int) (H : List Blk) (hg : H[kg]? = some (.box 3 [I g])) :
    ACalls Tryz.prog 65 [.agg p.cells, I f, .bp kg 0] H (fun x H' => ∃ L, x = .ret (.bp (H.length + 3) 0) ∧ H' = H ++ L ∧ CIn H' (H.length + 3) (H.length + 1) kg (H.length + 2) p (arrT p.regions F) (enterT F) g) := by
  refine acalls_of_vc (hn := fun _ => false) (od := fun _ => none) Tryz.func65 rfl (by kernel_rfl) ?_
  obtain ⟨bP, hbP⟩ : ∃ bP, bP = Blk.box 25 [Rg.sl p.regions, Fc.sl p.funcs] := ⟨_, rfl⟩
  obtain ⟨bC, hbC⟩ : ∃ bC, bC = Blk.box 144 [Rg.sl p.regions, Fc.sl p.funcs, .hm (H.length + 1), .hm (H.length + 2), .bp kg 0] := ⟨_, rfl⟩
  obtain ⟨M, hM⟩ : ∃ M : Tab → Tab → List Blk → List Blk, M = fun a t L => H ++ bP :: .map (tabM a) :: .map (tabM t) :: bC :: L := ⟨_, rfl⟩
  have hMe : ∀ a t L, M a t L = H ++ bP :: .map (tabM a) :: .map (tabM t) :: bC :: L := fun a t L => by rw [hM]
  have mA : ∀ a t L X, M a t L ++ X = M a t (L ++ X) := fun a t L X => by rw [hMe, hMe]; simp
  have mL : ∀ a t L, (M a t L).length = H.length + 4 + L.length := fun a t L => by rw [hMe]; simp; omega
  have m0 : ∀ a t L, (M a t L)[H.length]? = some (.box 25 [Rg.sl p.regions, Fc.sl p.funcs]) := fun a t L => by rw [hMe, ← hbP]; simp
  have m1 : ∀ a t L, (M a t L)[H.length + 1]? = some (.map (tabM a)) := fun a t L => by rw [hMe]; simp
  have m2 : ∀ a t L, (M a t L)[H.length + 2]? = some (.map (tabM t)) := fun a t L => by rw [hMe]; simp
  have m3 : ∀ a t L, (M a t L)[H.length + 3]? = some (.box 144 [Rg.sl p.regions, Fc.sl p.funcs, .hm (H.length + 1), .hm (H.length + 2), .bp kg 0]) := fun a t L => by rw [hMe, ← hbC]; simp
  have mN : ∀ a t (a' t' : Tab) L X, (M a' t' (L ++ [X]))[(M a t L).length]? = some X := fun a t a' t' L X => by
    rw [show (M a t L).length = (M a' t' L).length by rw [mL, mL], ← mA]; simp
  have mS : ∀ a t L X Y, (M a t (L ++ [X])).set (M a t L).length Y = M a t (L ++ [Y]) := fun a t L X Y => by rw [← mA, ← mA]; simp
  have s1 : ∀ a t L a', (M a t L).set (H.length + 1) (.map (tabM a')) = M a' t L := fun a t L a' => by rw [hMe, hMe]; simp
  have s2 : ∀ a t L t', (M a t L).set (H.length + 2) (.map (tabM t')) = M a t' L := fun a t L t' => by rw [hMe, hMe]; simp
  have hst : ∀ (n : ByteArray) (x : Bool) (t : Tab), mset .string (.string n) (Bo x) (tabM t) = some (tabM (aset n x t)) := fun n x t => mset_str BoA n x t
  have g0 : H ++ [bP, .map [], .map [], bC] = M [] [] [] := by rw [hMe]; rfl
  have hend : ∀ a t L, a = arrT p.regions F → t = enterT F → ∃ L', M a t L = H ++ L' ∧ CIn (M a t L) (H.length + 3) (H.length + 1) kg (H.length + 2) p (arrT p.regions F) (enterT F) g := fun a t L ha ht => by
    subst ha; subst ht
    exact ⟨_, hMe _ _ _, m3 _ _ _, m1 _ _ _, m2 _ _ _, by rw [hMe]; exact get_app_old hg _, by omega⟩
  clear hM
  have hF2 : (p.funcs.map Fc.cells)[f]? = some F.cells := by rw [List.getElem?_map, hF]; rfl
  simp only [Fc.cells] at hF2
  have hflt := (List.getElem?_eq_some_iff.1 hF).1
  simp -dsimp
  rw [← hbP, ← hbC, g0]
  refine loop_rule (hn := fun _ => false) (od := fun _ => none) (fun (x : Nat × List Blk) f' H' => H' = M (aR (p.regions.take x.1)) [] x.2 ∧ f' 1 = I f ∧ f' 3 = .bp H.length 0 ∧ f' 7 = .bp (H.length + 3) 0 ∧ f' 21 = Rg.sl p.regions ∧ f' 22 = I p.regions.length ∧ f' 23 = I x.1 ∧ x.1 ≤ p.regions.length)
    (fun x => p.regions.length - x.1) (by kernel_rfl) (0, []) ⟨rfl, by simp, by simp, by simp, by simp, by simp, by simp, by simp⟩ ?_
  rintro ⟨i, L⟩ fr _ ⟨rfl, f1, f3, f7, f21, f22, f23, hi⟩
  simp only at f23 hi
  simp -dsimp [f1, f3, f7, f21, f22, f23]
  refine condVW_introD (fun hlt => ?_) (fun hlt => ?_)
  · have hx := List.getElem?_eq_getElem (show i < p.regions.length by omega)
    obtain ⟨r, hr⟩ : ∃ r, r = p.regions[i]'(by omega) := ⟨_, rfl⟩
    rw [← hr] at hx
    have ht := aR_take hx
    have w1 : IntKind.i64.wrap ((i : Int) + 1) = ((i + 1 : Nat) : Int) := wrapS (by omega)
    obtain ⟨A, hA⟩ : ∃ A, A = aR (p.regions.take i) := ⟨_, rfl⟩
    rw [← hA] at ht ⊢
    simp -dsimp [f1, f3, f7, f21, f22, f23, hx, mA, mN, mS, m1, m3, hst, s1]
    exact ⟨i + 1, by omega, ⟨_, by rw [ht]⟩, w1, by omega⟩
  have hti : p.regions.take i = p.regions := List.take_of_length_le (by omega)
  rw [hti]
  obtain ⟨A, hA⟩ : ∃ A, A = aR p.regions := ⟨_, rfl⟩
  rw [← hA]
  simp -dsimp [f1, f3, m0, hF, hF2]
  refine loop_rule (hn := fun _ => false) (od := fun _ => none) (fun (x : Nat × List Blk) f' H' => H' = M A (tP (F.params.take x.1)) x.2 ∧ f' 1 = I f ∧ f' 3 = .bp H.length 0 ∧ f' 7 = .bp (H.length + 3) 0 ∧ f' 41 = Vr.sl F.params ∧ f' 42 = I F.params.length ∧ f' 43 = I x.1 ∧ x.1 ≤ F.params.length)
    (fun x => F.params.length - x.1) (by kernel_rfl) (0, L) ⟨rfl, by simp [f1], by simp [f3], by simp [f7], by simp, by simp, by simp, by simp⟩ ?_
  clear f1 f3 f7 f21 f22 f23 hi hlt hti
  rintro ⟨i, L⟩ fr _ ⟨rfl, f1, f3, f7, f41, f42, f43, hi⟩
  simp only at f43 hi
  simp -dsimp [f1, f3, f7, f41, f42, f43]
  refine condVW_introD (fun hlt => ?_) (fun hlt => ?_)
  · have hx := List.getElem?_eq_getElem (show i < F.params.length by omega)
    obtain ⟨r, hr⟩ : ∃ r, r = F.params[i]'(by omega) := ⟨_, rfl⟩
    rw [← hr] at hx
    have ht := tP_take hx
    have w1 : IntKind.i64.wrap ((i : Int) + 1) = ((i + 1 : Nat) : Int) := wrapS (by omega)
    obtain ⟨T, hT⟩ : ∃ T, T = tP (F.params.take i) := ⟨_, rfl⟩
    rw [← hT] at ht ⊢
    simp -dsimp [f1, f3, f7, f41, f42, f43, hx, mA, mN, mS, m2, m3, hst, s2]
    exact ⟨i + 1, by omega, ⟨_, by rw [ht]⟩, w1, by omega⟩
  have hti : F.params.take i = F.params := List.take_of_length_le (by omega)
  rw [hti]
  obtain ⟨T, hT⟩ : ∃ T, T = tP F.params := ⟨_, rfl⟩
  rw [← hT]
  simp -dsimp [f1, f3, m0, hF, hF2]
  refine loop_rule (hn := fun _ => false) (od := fun _ => none) (fun (x : Nat × List Blk) f' H' => H' = M (aV (F.vars.take x.1) A) (tV (F.vars.take x.1) T) x.2 ∧ f' 7 = .bp (H.length + 3) 0 ∧ f' 61 = Vr.sl F.vars ∧ f' 62 = I F.vars.length ∧ f' 63 = I x.1 ∧ x.1 ≤ F.vars.length)
    (fun x => F.vars.length - x.1) (by kernel_rfl) (0, L) ⟨rfl, by simp [f7], by simp, by simp, by simp, by simp⟩ ?_
  clear f1 f3 f7 f41 f42 f43 hi hlt hti
  rintro ⟨i, L⟩ fr _ ⟨rfl, f7, f61, f62, f63, hi⟩
  simp only at f63 hi
  simp -dsimp [f7, f61, f62, f63]
  refine condVW_introD (fun hlt => ?_) (fun hlt => ?_)
  · have hx := List.getElem?_eq_getElem (show i < F.vars.length by omega)
    obtain ⟨r, hr⟩ : ∃ r, r = F.vars[i]'(by omega) := ⟨_, rfl⟩
    rw [← hr] at hx
    have ht := tV_take hx T
    have ha := aV_take hx A
    have w1 : IntKind.i64.wrap ((i : Int) + 1) = ((i + 1 : Nat) : Int) := wrapS (by omega)
    obtain ⟨t, htt⟩ : ∃ t, t = tV (F.vars.take i) T := ⟨_, rfl⟩
    obtain ⟨a, haa⟩ : ∃ a, a = aV (F.vars.take i) A := ⟨_, rfl⟩
    rw [← htt] at ht ⊢
    rw [← haa] at ha ⊢
    by_cases hk : r.kind = 1
    · rw [if_pos hk] at ht ha
      simp -dsimp [f7, f61, f62, f63, hx, mA, mN, mS, m2, m3, hst, s2, hk]
      exact ⟨i + 1, by omega, ⟨_, by rw [ht, ha]⟩, w1, by omega⟩
    · rw [if_neg hk] at ht ha
      have hkb : (r.kind == 1) = false := by simpa using hk
      simp -dsimp [f7, f61, f62, f63, hx, mA, mN, mS, m1, m3, hst, s1, hkb]
      exact ⟨i + 1, by omega, ⟨_, by rw [ht, ha]⟩, w1, by omega⟩
  · have hti : F.vars.take i = F.vars := List.take_of_length_le (by omega)
    rw [hti]
    simp -dsimp [f7]
    obtain ⟨L', e1, e2⟩ := hend (aV F.vars A) (tV F.vars T) L (by rw [arrT_eq, hA]) (by rw [enterT_eq, hT])
    exact ⟨⟨L', e1⟩, e2⟩
end Go.Proofs
namespace Go.Proofs
open Go.Mu
structure Keep (M M' : List Blk) (kc kg kt : Nat) : Prop where
  len : M.length ≤ M'.length
  get : ∀ i, i < M.length → i ≠ kc → i ≠ kg → i ≠ kt → M'[i]? = M[i]?
def Fresh (M : List Blk) (kt kt' : Nat) : Prop := kt' = kt ∨ M.length ≤ kt'
theorem Keep.refl (M : List Blk) (kc kg kt : Nat) : Keep M M kc kg kt := ⟨Nat.le_refl _, fun _ _ _ _ _ => rfl⟩
theorem Keep.trans {M M1 M2 : List Blk} {kc kg kt kt1 : Nat} (h1 : Keep M M1 kc kg kt) (hf : Fresh M kt kt1) (h2 : Keep M1 M2 kc kg kt1) : Keep M M2 kc kg kt :=
  ⟨Nat.le_trans h1.len h2.len, fun i hi a b c => by
    rw [h2.get i (Nat.lt_of_lt_of_le hi h1.len) a b (by rcases hf with rfl | hf; exact c; omega), h1.get i hi a b c]⟩
theorem Fresh.trans {M M1 : List Blk} {kt kt1 kt2 : Nat} (h : M.length ≤ M1.length) (h1 : Fresh M kt kt1) (h2 : Fresh M1 kt1 kt2) : Fresh M kt kt2 := by
  unfold Fresh at *
  rcases h2 with rfl | h2
  · exact h1
  · exact .inr (by omega)
theorem Keep.app {M M' : List Blk} {kc kg kt : Nat} (h : Keep M M' kc kg kt) (L : List Blk) : Keep M (M' ++ L) kc kg kt :=
  ⟨by have := h.len; simp; omega, fun i hi a b c => by rw [List.getElem?_append_left (by have := h.len; omega)]; exact h.get i hi a b c⟩
theorem Keep.set {M M' : List Blk} {kc kg kt k : Nat} (h : Keep M M' kc kg kt) (hk : k = kc ∨ k = kg ∨ k = kt ∨ M.length ≤ k) (X : Blk) : Keep M (M'.set k X) kc kg kt :=
  ⟨by have := h.len; simp; omega, fun i hi a b c => by rw [List.getElem?_set_ne (by omega)]; exact h.get i hi a b c⟩
variable {M M' : List Blk} {kc ka kg kt : Nat} {p : Pg} {ar t : Tab} {g : Int}
theorem CIn.lt (h : CIn M kc ka kg kt p ar t g) : kc < M.length ∧ ka < M.length ∧ kg < M.length ∧ kt < M.length := ⟨lt_of_get h.box, lt_of_get h.arr, lt_of_get h.gone, lt_of_get h.tab⟩
theorem CIn.dis (h : CIn M kc ka kg kt p ar t g) : kc ≠ ka ∧ kc ≠ kg ∧ kc ≠ kt ∧ ka ≠ kg ∧ kg ≠ kt := by
  refine ⟨?_, ?_, ?_, ?_, ?_⟩
  · rintro rfl; have := h.box.symm.trans h.arr; simp at this
  · rintro rfl; have := h.box.symm.trans h.gone; simp at this
  · rintro rfl; have := h.box.symm.trans h.tab; simp at this
  · rintro rfl; have := h.arr.symm.trans h.gone; simp at this
  · rintro rfl; have := h.gone.symm.trans h.tab; simp at this
theorem get_set_ne {α : Type} {l : List α} {i j : Nat} {x : α} (h : i ≠ j) : (l.set i x)[j]? = l[j]? := List.getElem?_set_ne h
theorem get_set_eq {α : Type} {l : List α} {i : Nat} {x y : α} (h : l[i]? = some y) : (l.set i x)[i]? = some x := by
  rw [List.getElem?_set_self (lt_of_get h)]
theorem CIn.setT (h : CIn M kc ka kg kt p ar t g) (t' : Tab) : CIn (M.set kt (.map (tabM t'))) kc ka kg kt p ar t' g := by
  obtain ⟨d1, d2, d3, d4, d5⟩ := h.dis
  exact ⟨by rw [get_set_ne (Ne.symm d3)]; exact h.box, by rw [get_set_ne (Ne.symm h.ne)]; exact h.arr, get_set_eq h.tab, by rw [get_set_ne (Ne.symm d5)]; exact h.gone, h.ne⟩
theorem CIn.setG (h : CIn M kc ka kg kt p ar t g) (g' : Int) : CIn (M.set kg (.box 3 [I g'])) kc ka kg kt p ar t g' := by
  obtain ⟨d1, d2, d3, d4, d5⟩ := h.dis
  exact ⟨by rw [get_set_ne (Ne.symm d2)]; exact h.box, by rw [get_set_ne (Ne.symm d4)]; exact h.arr, by rw [get_set_ne d5]; exact h.tab, get_set_eq h.gone, h.ne⟩
theorem CIn.setC (h : CIn M kc ka kg kt p ar t g) {kt' : Nat} {t' : Tab} (hk : M[kt']? = some (.map (tabM t'))) (hne : ka ≠ kt') : CIn (M.set kc (.box 144 [Rg.sl p.regions, Fc.sl p.funcs, .hm ka, .hm kt', .bp kg 0])) kc ka kg kt' p ar t' g := by
  obtain ⟨d1, d2, d3, d4, d5⟩ := h.dis
  have d6 : kc ≠ kt' := by rintro rfl; have := h.box.symm.trans hk; simp at this
  exact ⟨get_set_eq h.box, by rw [get_set_ne d1]; exact h.arr, by rw [get_set_ne d6]; exact hk, by rw [get_set_ne d2]; exact h.gone, hne⟩
def Other (b : Blk) : Prop := (∀ m, b ≠ .map m) ∧ (∀ c, b ≠ .box 144 c) ∧ (∀ c, b ≠ .box 3 c)
theorem CIn.keep (h : CIn M kc ka kg kt p ar t g) (hk : Keep M M' kc kg kt) {k : Nat} {b : Blk} (hb : M[k]? = some b) (ho : Other b) : M'[k]? = some b := by
  rw [hk.get k (lt_of_get hb) ?_ ?_ ?_, hb]
  · rintro rfl; exact ho.2.1 _ (Option.some.inj (hb.symm.trans h.box))
  · rintro rfl; exact ho.2.2 _ (Option.some.inj (hb.symm.trans h.gone))
  · rintro rfl; exact ho.1 _ (Option.some.inj (hb.symm.trans h.tab))
theorem CIn.keepM (h : CIn M kc ka kg kt p ar t g) (hk : Keep M M' kc kg kt) {k : Nat} {m : List (Value × AV)} (hb : M[k]? = some (.map m)) (hne : k ≠ kt) : M'[k]? = some (.map m) := by
  rw [hk.get k (lt_of_get hb) ?_ ?_ hne, hb]
  · rintro rfl; have := hb.symm.trans h.box; simp at this
  · rintro rfl; have := hb.symm.trans h.gone; simp at this
def StX (p : Pg) (ar : Tab) (M : List Blk) (kc ka kg kt : Nat) (x : Rs) : AE → List Blk → Prop := fun e M' => Keep M M' kc kg kt ∧ match x with
  | .err c => e = .pan (refX c)
  | .ok t g => e = .ret (.tup []) ∧ ∃ kt', Fresh M kt kt' ∧ CIn M' kc ka kg kt' p ar t g
def GoneIn (g : Int) : Prop := 0 ≤ g ∧ g ≤ 65536
def RoundOk (p : Pg) (ar : Tab) (K : List ByteArray) (kc ka kg : Nat) (D : List Blk → Prop) (R : Tab → Int → Option Rs) (fid : FuncId) (cap : List AV) : Prop :=
  ∀ t g x M kt, R t g = some x → Keys t = K → GoneIn g → CIn M kc ka kg kt p ar t g → D M → ACalls Tryz.prog fid cap M (StX p ar M kc ka kg kt x)
theorem joinT_keys : ∀ {a b : Tab}, Keys a = Keys b → Keys (joinT a b) = Keys a
  | [], b, _ => by cases b <;> rfl
  | (n, x) :: a, [], h => by simp [Keys] at h
  | (n, x) :: a, (m, y) :: b, h => by
    simp only [Keys, List.map_cons, List.cons.injEq] at h
    have := joinT_keys (a := a) (b := b) h.2
    simp only [Keys] at this
    rw [joinT]; simp only [Keys, List.map_cons, this]
theorem least_ok (p : Pg) (ar : Tab) (K : List ByteArray) (hK : K.Nodup) (hK40 : K.length ≤ 2^40) (kc ka kg : Nat) (D : List Blk → Prop) (hD : ∀ M L, D M → D (M ++ L)) (hDk : ∀ M M' kt t g, CIn M kc ka kg kt p ar t g → Keep M M' kc kg kt → D M → D M') (R : Tab → Int → Option Rs) (fid : FuncId) (cap : List AV) (hok : okFn Tryz.prog fid = true)
    (hR : RoundOk p ar K kc ka kg D R fid cap) (hRk : ∀ t g t1 g1, R t g = some (.ok t1 g1) → Keys t = K → GoneIn g → Keys t1 = K ∧ GoneIn g1) (n : Nat) (t : Tab) (g : Int) (x : Rs) (M : List Blk) (kt : Nat) (hx : leastM R n t g = some x) (ht : Keys t = K) (hg : GoneIn g) (hC : CIn M kc ka kg kt p ar t g) (hDM : D M) :
    ACalls Tryz.prog 127 [.bp kc 0, .fn (.func fid) [] cap] M (StX p ar M kc ka kg kt x) := by
  refine acalls_of_awp Tryz.func127 rfl (by kernel_rfl) ?_
  refine awp_scope ?_
  refine awp_all (fun _ => false) (fun _ => none) (by kernel_rfl) ?_
  simp -dsimp
  obtain ⟨I, hI⟩ : ∃ I : Nat → Tab → Int → Nat → List Blk → Prop, I = fun n t g k M' => leastM R n t g = some x ∧ Keys t = K ∧ CIn M' kc ka kg k p ar t g ∧ D M' ∧ Keep M M' kc kg kt ∧ Fresh M kt k ∧ GoneIn g := ⟨_, rfl⟩
  have hIe : ∀ n t g k M', I n t g k M' ↔ leastM R n t g = some x ∧ Keys t = K ∧ CIn M' kc ka kg k p ar t g ∧ D M' ∧ Keep M M' kc kg kt ∧ Fresh M kt k ∧ GoneIn g := fun n t g k M' => by rw [hI]
  clear hI
  refine loop_rule (hn := fun _ => false) (od := fun _ => none) (fun (y : Nat × Tab × Int × Nat) f H' => I y.1 y.2.1 y.2.2.1 y.2.2.2 H' ∧ f 0 = .bp kc 0 ∧ f 1 = .fn (.func fid) [] cap) (fun y => y.1) (by kernel_rfl) (n, t, g, kt)
    ⟨(hIe _ _ _ _ _).2 ⟨hx, ht, hC, hDM, .refl _ _ _ _, .inl rfl, hg⟩, by simp, by simp⟩ ?_
  clear hx ht hC hDM hg
  rintro ⟨n, t, g, k⟩ f M0 ⟨hi, f0, f1⟩
  simp only at hi
  obtain ⟨hx, ht, hC, hDM, hKe, hFr, hg⟩ := (hIe _ _ _ _ _).1 hi
  clear hi
  cases n with
  | zero => cases hx
  | succ n =>
  rw [leastM] at hx
  have hn : (Keys t).Nodup := by rw [ht]; exact hK
  have hl40 : t.length ≤ 2^40 := by have := congrArg List.length ht; simp only [Keys, List.length_map] at this; omega
  obtain ⟨l1, l2, l3, l4⟩ := hC.lt
  have hC1 := hC.app [.map (tabM t)]
  have hD1 := hD _ [.map (tabM t)] hDM
  have hb := hC.box
  simp -dsimp [f0, f1, hb]
  refine acallsW_of (clone_lv (tabM t) k M0 hC.tab) ?_
  rintro e M1 ⟨rfl, hM1⟩
  have ga : M1[M0.length]? = some (.map (tabM t)) := by rw [hM1]; simp
  have hK1 : Keep M M1 kc kg kt := by rw [hM1]; exact hKe.app _
  have hL1 : M1.length = M0.length + 1 := by rw [hM1]; simp
  rw [← hM1] at hC1 hD1
  clear hM1
  simp -dsimp [f0, f1, hok]
  cases hRt : R t g with
  | none => rw [hRt] at hx; cases hx
  | some y =>
  rw [hRt] at hx
  refine acallsW_of (hR t g y M1 k hRt ht hg hC1 hD1) ?_
  rintro e M2 ⟨hk2, he⟩
  have hK2 : Keep M M2 kc kg kt := hK1.trans hFr hk2
  cases y with
  | err c =>
    simp only at he
    subst he
    simp only [bindR, Option.some.injEq] at hx
    subst hx
    simp -dsimp
    exact ⟨rfl, hK2, rfl⟩
  | ok t1 g1 =>
  simp only at he
  obtain ⟨rfl, k1, hF1, hC2⟩ := he
  simp only [bindR] at hx
  obtain ⟨ht1, hg1⟩ := hRk t g t1 g1 hRt ht hg
  have ga2 := hC1.keepM hk2 ga (by omega)
  have hb2 := hC2.box
  have hF2 : Fresh M kt k1 := Fresh.trans hK1.len hFr hF1
  have hD2 := hDk M1 M2 k t g hC1 hk2 hD1
  have hkk : Keys t = Keys t1 := by rw [ht, ht1]
  have hj := joinT_keys hkk
  have hne : ka ≠ M0.length := by omega
  simp -dsimp [f0, f1, hb2]
  refine acallsW_of (joined_ok t t1 M0.length k1 M2 ga2 hC2.tab hkk hn hl40) ?_
  rintro e M3 ⟨rfl, hM3⟩
  have gj : M3[M2.length]? = some (.map (tabM (joinT t t1))) := by rw [hM3]; simp
  have ga3 : M3[M0.length]? = some (.map (tabM t)) := by rw [hM3]; exact get_app_old ga2 _
  have hK3 : Keep M M3 kc kg kt := by rw [hM3]; exact hK2.app _
  have hC3 := hC2.app [.map (tabM (joinT t t1))]
  have hD3 := hD _ [.map (tabM (joinT t t1))] hD2
  have hL3 := hk2.len
  have hL0 := hKe.len
  rw [← hM3] at hC3 hD3
  clear hM3
  have hb3 := hC3.box
  simp -dsimp [f0, f1]
  refine acallsW_det (equal_lv (joinT t t1) t M2.length M0.length M3 gj ga3 hj (by rw [hj]; exact hn) (by have := congrArg List.length hj; simp only [Keys, List.length_map] at this; omega)) ?_
  by_cases hq : joinT t t1 = t
  · rw [if_pos hq] at hx
    obtain rfl := Option.some.inj hx
    simp -dsimp [f0, f1, hb3, hq]
    have hC4 := hC3.setC ga3 hne
    unfold QW
    simp -dsimp
    exact ⟨rfl, [], rfl, hK3.set (.inl rfl) _, rfl, M0.length, .inr hL0, hC4⟩
  · rw [if_neg hq] at hx
    simp -dsimp [f0, f1, hb3, hq]
    have hC4 := hC3.setC gj (show ka ≠ M2.length by omega)
    have hD4 := hDk _ _ _ _ _ hC3 ((Keep.refl M3 kc kg k1).set (.inl rfl) (.box 144 [Rg.sl p.regions, Fc.sl p.funcs, .hm ka, .hm M2.length, .bp kg 0])) hD3
    exact ⟨n, Nat.lt_succ_self n, _, _, _, (hIe _ _ _ _ _).2 ⟨hx, by rw [hj, ht], hC4, hD4, hK3.set (.inl rfl) _, .inr (by omega), hg1⟩⟩
end Go.Proofs
namespace Go.Proofs
open Go.Mu
theorem keys_aset : ∀ (n : ByteArray) (b : Bool) (t : Tab), n ∈ Keys t → Keys (aset n b t) = Keys t
  | n, b, [], h => by simp [Keys] at h
  | n, b, (m, x) :: t, h => by
    simp only [Keys, List.map_cons, List.mem_cons] at h
    rw [aset]
    split
    · rename_i e; simp [Keys, e]
    · rename_i e
      have := keys_aset n b t (by rcases h with h | h; exact absurd h e; exact h)
      simp only [Keys, List.map_cons] at this ⊢
      rw [this]
theorem keys_aset_new : ∀ (n : ByteArray) (b : Bool) (t : Tab), n ∉ Keys t → Keys (aset n b t) = Keys t ++ [n]
  | n, b, [], h => by simp [aset, Keys]
  | n, b, (m, x) :: t, h => by
    simp only [Keys, List.map_cons, List.mem_cons, not_or] at h
    rw [aset, if_neg h.1]
    have := keys_aset_new n b t h.2
    simp only [Keys, List.map_cons, List.cons_append] at this ⊢
    rw [this]
theorem keys_nodup (n : ByteArray) (b : Bool) (t : Tab) (h : (Keys t).Nodup) : (Keys (aset n b t)).Nodup := by
  by_cases hn : n ∈ Keys t
  · rw [keys_aset n b t hn]; exact h
  · rw [keys_aset_new n b t hn, List.nodup_append]
    exact ⟨h, by simp, fun a ha c hc e => hn (by rw [List.mem_singleton] at hc; rw [← hc, ← e]; exact ha)⟩
theorem keys_mem_aset (n m : ByteArray) (b : Bool) (t : Tab) : m ∈ Keys (aset n b t) ↔ m = n ∨ m ∈ Keys t := by
  by_cases hn : n ∈ Keys t
  · rw [keys_aset n b t hn]
    constructor
    · exact .inr
    · rintro (rfl | h)
      · exact hn
      · exact h
  · rw [keys_aset_new n b t hn, List.mem_append, List.mem_singleton]
    exact Or.comm
theorem keys_sets : ∀ (l : List (ByteArray × Bool)) (t : Tab), (∀ x ∈ l, x.1 ∈ Keys t) → Keys (setsT l t) = Keys t
  | [], t, _ => rfl
  | x :: l, t, h => by
    rw [setsT_cons]
    have h1 := keys_aset x.1 x.2 t (h x (List.mem_cons_self ..))
    rw [keys_sets l _ (fun y hy => by rw [h1]; exact h y (List.mem_cons_of_mem _ hy)), h1]
theorem sets_nodup : ∀ (l : List (ByteArray × Bool)) (t : Tab), (Keys t).Nodup → (Keys (setsT l t)).Nodup
  | [], t, h => h
  | x :: l, t, h => by rw [setsT_cons]; exact sets_nodup l _ (keys_nodup _ _ _ h)
theorem sets_mem : ∀ (l : List (ByteArray × Bool)) (t : Tab) (m : ByteArray), m ∈ Keys (setsT l t) ↔ m ∈ l.map Prod.fst ∨ m ∈ Keys t
  | [], t, m => by simp [setsT]
  | x :: l, t, m => by
    rw [setsT_cons, sets_mem l, keys_mem_aset, List.map_cons, List.mem_cons]
    constructor
    · rintro (h | h | h)
      · exact .inl (.inr h)
      · exact .inl (.inl h)
      · exact .inr h
    · rintro ((h | h) | h)
      · exact .inr (.inl h)
      · exact .inl h
      · exact .inr (.inr h)
theorem sets_len : ∀ (l : List (ByteArray × Bool)) (t : Tab), (Keys (setsT l t)).length ≤ l.length + (Keys t).length
  | [], t => by simp [setsT]
  | x :: l, t => by
    have := sets_len l (aset x.1 x.2 t)
    rw [setsT_cons]
    by_cases hn : x.1 ∈ Keys t
    · rw [keys_aset _ _ _ hn] at this; simp only [List.length_cons]; omega
    · rw [keys_aset_new _ _ _ hn] at this; simp only [List.length_cons, List.length_append, List.length_nil] at this ⊢; omega
def inK (n : ByteArray) (K : List ByteArray) : Bool := K.any fun k => decide (k = n)
theorem inK_iff {n : ByteArray} {K : List ByteArray} : inK n K = true ↔ n ∈ K := by
  unfold inK
  rw [List.any_eq_true]
  constructor
  · rintro ⟨k, hk, e⟩
    rw [decide_eq_true_eq] at e; rw [← e]; exact hk
  · intro h; exact ⟨n, h, by simp⟩
mutual
def Sm.wOk (p : Pg) (f : Nat) (K : List ByteArray) : Sm → Bool
  | .mk kind name names e a args low high body els =>
    (!(kind == 1 || kind == 5) || inK name K) &&
    (!(kind == 6) || (decide (fnNo name p.funcs < f) && decide (args.length = (fcAt p (fnNo name p.funcs)).params.length) && decide (names.length = (fcAt p (fnNo name p.funcs)).rets.length) && names.all fun n => inK n K)) &&
    (!(kind == 3 || kind == 4 || kind == 5) || smsWOk p f K body) && (!(kind == 3) || smsWOk p f K els)
def smsWOk (p : Pg) (f : Nat) (K : List ByteArray) : List Sm → Bool
  | [] => true
  | s :: l => s.wOk p f K && smsWOk p f K l
end
structure SmW (p : Pg) (f : Nat) (K : List ByteArray) (s : Sm) : Prop where
  word : s.kind = 1 ∨ s.kind = 5 → s.name ∈ K
  fn : s.kind = 6 → fnNo s.name p.funcs < f
  args : s.kind = 6 → s.args.length = (fcAt p (fnNo s.name p.funcs)).params.length
  names : s.kind = 6 → s.names.length = (fcAt p (fnNo s.name p.funcs)).rets.length
  told : s.kind = 6 → ∀ n ∈ s.names, n ∈ K
  body : s.kind = 3 ∨ s.kind = 4 ∨ s.kind = 5 → smsWOk p f K s.body = true
  els : s.kind = 3 → smsWOk p f K s.els = true
theorem wOk_iff {p : Pg} {f : Nat} {K : List ByteArray} {s : Sm} : s.wOk p f K = true ↔ SmW p f K s := by
  obtain ⟨kind, name, names, e, a, args, low, high, body, els⟩ := s
  rw [Sm.wOk]
  simp only [Bool.and_eq_true, Bool.or_eq_true, Bool.not_eq_true', Bool.or_eq_false_iff, beq_eq_false_iff_ne, decide_eq_true_eq, List.all_eq_true, inK_iff]
  constructor
  · rintro ⟨⟨⟨h1, h2⟩, h3⟩, h4⟩
    refine ⟨fun h => ?_, fun h => ?_, fun h => ?_, fun h => ?_, fun h => ?_, fun h => ?_, fun h => ?_⟩
    · rcases h1 with h1 | h1
      · rcases h with h | h
        · exact absurd h h1.1
        · exact absurd h h1.2
      · exact h1
    · rcases h2 with h2 | h2; exact absurd h h2; exact h2.1.1.1
    · rcases h2 with h2 | h2; exact absurd h h2; exact h2.1.1.2
    · rcases h2 with h2 | h2; exact absurd h h2; exact h2.1.2
    · rcases h2 with h2 | h2; exact absurd h h2; exact h2.2
    · rcases h3 with h3 | h3
      · rcases h with h | h | h
        · exact absurd h h3.1.1
        · exact absurd h h3.1.2
        · exact absurd h h3.2
      · exact h3
    · rcases h4 with h4 | h4; exact absurd h h4; exact h4
  · rintro ⟨h1, h2, h3, h4, h5, h6, h7⟩
    simp only [Sm.kind, Sm.name, Sm.names, Sm.args, Sm.body, Sm.els] at h1 h2 h3 h4 h5 h6 h7
    refine ⟨⟨⟨?_, ?_⟩, ?_⟩, ?_⟩
    · by_cases h : kind = 1 ∨ kind = 5
      · exact .inr (h1 h)
      · exact .inl ⟨fun e => h (.inl e), fun e => h (.inr e)⟩
    · by_cases h : kind = 6
      · exact .inr ⟨⟨⟨h2 h, h3 h⟩, h4 h⟩, h5 h⟩
      · exact .inl h
    · by_cases h : kind = 3 ∨ kind = 4 ∨ kind = 5
      · exact .inr (h6 h)
      · exact .inl ⟨⟨fun e => h (.inl e), fun e => h (.inr (.inl e))⟩, fun e => h (.inr (.inr e))⟩
    · by_cases h : kind = 3
      · exact .inr (h7 h)
      · exact .inl h
theorem least_keys {K : List ByteArray} {R : Tab → Int → Option Rs} (hR : ∀ t g t1 g1, Keys t = K → R t g = some (.ok t1 g1) → Keys t1 = K) : ∀ n t g t' g', Keys t = K → leastM R n t g = some (.ok t' g') → Keys t' = K
  | 0, _, _, _, _, _, h => by cases h
  | n + 1, t, g, t', g', hk, h => by
    rw [leastM] at h
    rcases bindR_some h with ⟨e, _, he⟩ | ⟨t1, g1, h1, h2⟩
    · cases he
    · have h3 := hR _ _ _ _ hk h1
      split at h2
      · cases h2; exact hk
      · exact least_keys hR n _ _ _ _ (by rw [joinT_keys (by rw [hk, h3]), hk]) h2
theorem gM_keys {p : Pg} : ∀ n f l t g t' g', smsWOk p f (Keys t) l = true → gM p n f l t g = some (.ok t' g') → Keys t' = Keys t
  | 0, _, _, _, _, _, _, _, h => by cases h
  | n + 1, f, [], t, g, t', g', _, h => by cases h; rfl
  | n + 1, f, s :: l, t, g, t', g', hw, h => by
    rw [smsWOk, Bool.and_eq_true, wOk_iff] at hw
    rw [gM] at h
    split at h
    · cases h
    rcases bindR_some h with ⟨e, _, he⟩ | ⟨t1, g1, h1, h2⟩
    · cases he
    have hs : Keys t1 = Keys t := by
      clear h h2
      unfold stM at h1
      simp only at h1
      split at h1
      · rename_i k
        split at h1
        · cases h1
        · cases h1; exact keys_aset _ _ _ (hw.1.word (.inl k))
      split at h1
      · split at h1
        · split at h1
          · cases h1
          · split at h1
            · cases h1
            · cases h1; rfl
        · cases h1
      split at h1
      · rename_i k
        split at h1
        · rcases bindR_some h1 with ⟨e, _, he⟩ | ⟨t2, g2, h2, h3⟩
          · cases he
          rcases bindR_some h3 with ⟨e, _, he⟩ | ⟨t3, g3, h4, h5⟩
          · cases he
          cases h5
          have e1 := gM_keys n _ _ _ _ _ _ (hw.1.body (.inl k)) h2
          have e2 := gM_keys n _ _ _ _ _ _ (hw.1.els k) h4
          rw [joinT_keys (by rw [e1, e2]), e2]
        · cases h1
      split at h1
      · rename_i k
        refine least_keys (fun t2 g2 t3 g3 hk h => ?_) _ _ _ _ _ rfl h1
        split at h
        · rw [gM_keys n _ _ _ _ _ _ (by rw [hk]; exact hw.1.body (.inr (.inl k))) h, hk]
        · cases h
      split at h1
      · rename_i k
        have hn := hw.1.word (.inr k)
        rcases bindR_some h1 with ⟨e, _, he⟩ | ⟨t2, g2, h2, h3⟩
        · cases he
        cases h3
        have e1 : Keys t2 = Keys t := by
          refine least_keys (fun t3 g3 t4 g4 hk h => ?_) _ _ _ _ _ rfl h2
          have hk2 : Keys (aset s.name false t3) = Keys t := by rw [keys_aset _ _ _ (by rw [hk]; exact hn), hk]
          rw [gM_keys n _ _ _ _ _ _ (by rw [hk2]; exact hw.1.body (.inr (.inr k))) h, hk2]
        rw [keys_aset _ _ _ (by rw [e1]; exact hn), e1]
      split at h1
      · rename_i k
        unfold callM at h1
        split at h1
        · cases h1
        rcases bindR_some h1 with ⟨e, _, he⟩ | ⟨t2, g2, h2, h3⟩
        · cases he
        cases h3
        refine keys_sets _ _ fun x hx => ?_
        obtain ⟨y, hy, rfl⟩ := List.mem_map.1 hx
        exact hw.1.told k _ (List.of_mem_zip hy).1
      · cases h1; rfl
    have e2 := gM_keys n _ _ _ _ _ _ (by rw [hs]; exact hw.2) h2
    rw [e2, hs]
theorem least_gone {K : List ByteArray} {R : Tab → Int → Option Rs} (hR : ∀ t g t1 g1, GoneIn g → R t g = some (.ok t1 g1) → GoneIn g1) : ∀ n t g t' g', GoneIn g → leastM R n t g = some (.ok t' g') → GoneIn g'
  | 0, _, _, _, _, _, h => by cases h
  | n + 1, t, g, t', g', hk, h => by
    rw [leastM] at h
    rcases bindR_some h with ⟨e, _, he⟩ | ⟨t1, g1, h1, h2⟩
    · cases he
    · have h3 := hR _ _ _ _ hk h1
      split at h2
      · cases h2; exact h3
      · exact least_gone (K := K) hR n _ _ _ _ h3 h2
theorem gM_gone {p : Pg} : ∀ n f l t g t' g', GoneIn g → gM p n f l t g = some (.ok t' g') → GoneIn g'
  | 0, _, _, _, _, _, _, _, h => by cases h
  | n + 1, f, [], t, g, t', g', hg, h => by cases h; exact hg
  | n + 1, f, s :: l, t, g, t', g', hg, h => by
    rw [gM] at h
    split at h
    · cases h
    rename_i hlt
    have hg0 : GoneIn (g + 1) := by unfold GoneIn at *; omega
    rcases bindR_some h with ⟨e, _, he⟩ | ⟨t1, g1, h1, h2⟩
    · cases he
    have hs : GoneIn g1 := by
      clear h h2
      unfold stM at h1
      simp only at h1
      split at h1
      · split at h1
        · cases h1
        · cases h1; exact hg0
      split at h1
      · split at h1
        · split at h1
          · cases h1
          · split at h1
            · cases h1
            · cases h1; exact hg0
        · cases h1
      split at h1
      · split at h1
        · rcases bindR_some h1 with ⟨e, _, he⟩ | ⟨t2, g2, h2, h3⟩
          · cases he
          rcases bindR_some h3 with ⟨e, _, he⟩ | ⟨t3, g3, h4, h5⟩
          · cases he
          cases h5
          exact gM_gone n _ _ _ _ _ _ (gM_gone n _ _ _ _ _ _ hg0 h2) h4
        · cases h1
      split at h1
      · refine least_gone (K := []) (fun t2 g2 t3 g3 hk h => ?_) _ _ _ _ _ hg0 h1
        split at h
        · exact gM_gone n _ _ _ _ _ _ hk h
        · cases h
      split at h1
      · rcases bindR_some h1 with ⟨e, _, he⟩ | ⟨t2, g2, h2, h3⟩
        · cases he
        cases h3
        exact least_gone (K := []) (fun t3 g3 t4 g4 hk h => gM_gone n _ _ _ _ _ _ hk h) _ _ _ _ _ hg0 h2
      split at h1
      · unfold callM at h1
        split at h1
        · cases h1
        rcases bindR_some h1 with ⟨e, _, he⟩ | ⟨t2, g2, h2, h3⟩
        · cases he
        cases h3
        exact gM_gone n _ _ _ _ _ _ hg0 h2
      · cases h1; exact hg0
    exact gM_gone n _ _ _ _ _ _ hs h2
end Go.Proofs
namespace Go.Proofs
open Go.Mu
def StmtsOk (p : Pg) (n : Nat) : Prop := ∀ (f : Nat) (l : List Sm) (t : Tab) (g : Int) (x : Rs) (M : List Blk) (kc ka kg kt : Nat), f < p.funcs.length → gM p n f l t g = some x → smsWOk p f (Keys t) l = true → (Keys t).Nodup → (Keys t).length ≤ 2^30 → smsCount l ≤ 2^40 → GoneIn g →
  CIn M kc ka kg kt p (arrT p.regions (fcAt p f)) t g → ACalls Tryz.prog 89 [.bp kc 0, Sm.sl l] M (StX p (arrT p.regions (fcAt p f)) M kc ka kg kt x)
abbrev pcB (kc : Nat) : Blk := .box 138 [.bp kc 0]
theorem pcB_other (kc : Nat) : Other (pcB kc) := by unfold Other; refine ⟨?_, ?_, ?_⟩ <;> simp
theorem smB_other (s : Sm) : Other (.box 57 s.cells) := by unfold Other; refine ⟨?_, ?_, ?_⟩ <;> simp
theorem forRound_ok (p : Pg) (n f : Nat) (hf : f < p.funcs.length) (ih : StmtsOk p n) (K : List ByteArray) (hK : K.Nodup) (hK30 : K.length ≤ 2^30) (s : Sm) (hs : s.name ∈ K) (hw : smsWOk p f K s.body = true) (hc : smsCount s.body ≤ 2^40) (kc ka kg kb ks : Nat) :
    RoundOk p (arrT p.regions (fcAt p f)) K kc ka kg (fun M => M[kb]? = some (pcB kc) ∧ M[ks]? = some (.box 57 s.cells)) (fun t g => gM p n f s.body (aset s.name false t) g) 128 [.bp kb 0, .bp ks 0] := by
  intro t g x M kt hx ht hg hC ⟨hb, hsb⟩
  refine acalls_of_vc (hn := fun _ => false) (od := fun _ => none) Tryz.func128 rfl (by kernel_rfl) ?_
  simp only [Sm.cells_eq] at hsb
  have hbox := hC.box
  have htab := hC.tab
  have hst := mset_str BoA s.name false t
  have hC1 := hC.setT (aset s.name false t)
  have hK1 : Keep M (M.set kt (.map (tabM (aset s.name false t)))) kc kg kt := (Keep.refl _ _ _ _).set (.inr (.inr (.inl rfl))) _
  have hb1 := hC.keep hK1 hb (pcB_other kc)
  have hsb1 := hC.keep hK1 (by rw [Sm.cells_eq]; exact hsb) (smB_other s)
  simp only [Sm.cells_eq] at hsb1
  obtain ⟨M1, hM1⟩ : ∃ M1, M1 = M.set kt (.map (tabM (aset s.name false t))) := ⟨_, rfl⟩
  rw [← hM1] at hC1 hK1 hb1 hsb1
  simp -dsimp [hb, hsb, hbox, htab, hst]
  rw [← hM1]
  have hk2 : Keys (aset s.name false t) = K := by rw [keys_aset _ _ _ (by rw [ht]; exact hs), ht]
  simp -dsimp [hb1, hsb1]
  refine acallsW_of (ih f s.body (aset s.name false t) g x M1 kc ka kg kt hf hx (by rw [hk2]; exact hw) (by rw [hk2]; exact hK) (by rw [hk2]; exact hK30) hc hg hC1) ?_
  rintro e M2 ⟨hk, he⟩
  have hKK := hK1.trans (.inl rfl) hk
  cases x with
  | err c =>
    simp only at he
    subst he
    simp -dsimp
    exact ⟨hKK, rfl⟩
  | ok t1 g1 =>
    simp only at he
    obtain ⟨rfl, k1, hF, hC2⟩ := he
    simp -dsimp
    refine ⟨hKK, rfl, k1, ?_, hC2⟩
    unfold Fresh at *
    have := hK1.len
    omega
theorem whileRound_ok (p : Pg) (n f : Nat) (hf : f < p.funcs.length) (ih : StmtsOk p n) (K : List ByteArray) (hK : K.Nodup) (hK30 : K.length ≤ 2^30) (s : Sm) (hw : smsWOk p f K s.body = true) (hc : smsCount s.body ≤ 2^40) (he40 : s.e.count ≤ 2^40) (kc ka kg kb ks : Nat) :
    RoundOk p (arrT p.regions (fcAt p f)) K kc ka kg (fun M => M[kb]? = some (pcB kc) ∧ M[ks]? = some (.box 57 s.cells)) (fun t g => match s.e.lev t (arrT p.regions (fcAt p f)) with | some false => gM p n f s.body t g | _ => some (.err 10)) 163 [.bp kb 0, .bp ks 0] := by
  intro t g x M kt hx ht hg hC ⟨hb, hsb⟩
  refine acalls_of_vc (hn := fun _ => false) (od := fun _ => none) Tryz.func163 rfl (by kernel_rfl) ?_
  simp only [Sm.cells_eq] at hsb
  have cp := public_ok p (arrT p.regions (fcAt p f)) t s.e he40 hC
  simp only [Ex.cells_eq] at cp
  simp -dsimp [hb, hsb]
  refine acallsW_of cp ?_
  rintro e M1 ⟨rfl, hr⟩
  by_cases hl : pubB (s.e.lev t (arrT p.regions (fcAt p f))) = true
  · rw [if_pos hl] at hr
    subst hr
    have hl2 : s.e.lev t (arrT p.regions (fcAt p f)) = some false := by
      unfold pubB at hl
      split at hl
      · assumption
      · cases hl
    simp only [hl2] at hx
    simp -dsimp [hb, hsb]
    refine acallsW_of (ih f s.body t g x M1 kc ka kg kt hf hx (by rw [ht]; exact hw) (by rw [ht]; exact hK) (by rw [ht]; exact hK30) hc hg hC) ?_
    rintro e M2 ⟨hk, he⟩
    cases x with
    | err c =>
      simp only at he
      subst he
      simp -dsimp
      exact ⟨hk, rfl⟩
    | ok t1 g1 =>
      simp only at he
      obtain ⟨rfl, k1, hF, hC2⟩ := he
      simp -dsimp
      exact ⟨hk, rfl, k1, hF, hC2⟩
  · rw [if_neg hl] at hr
    subst hr
    have : x = .err 10 := by
      unfold pubB at hl
      simp only at hx
      split at hx
      · rename_i h; rw [h] at hl; exact absurd rfl hl
      · exact (Option.some.inj hx).symm
    subst this
    simp -dsimp
    exact ⟨.refl _ _ _ _, rfl⟩
end Go.Proofs
namespace Go.Proofs
open Go.Mu
theorem fnNo_idx (s : ByteArray) : ∀ (l : List Fc) (i : Nat), fnNo s l < l.length → idxP (fun g => decide (g.name = s)) l (i : Int) = ((i + fnNo s l : Nat) : Int)
  | [], i, h => by simp at h
  | f :: l, i, h => by
    rw [idxP, fnNo]
    by_cases e : f.name = s
    · simp [e]
    · rw [if_neg (by simpa using e), if_neg e]
      rw [fnNo, if_neg e, List.length_cons] at h
      have := fnNo_idx s l (i + 1) (by omega)
      rw [show ((i : Int) + 1) = ((i + 1 : Nat) : Int) by omega, this]
      omega
theorem callFn_ok (f : Fc) (s : Sm) (b : Nat) (H : List Blk) (hb : H[b]? = some (.box 57 s.cells)) : ACalls Tryz.prog 166 [.agg f.cells, .bp b 0] H (fun e H' => e = .ret (Bo (decide (f.name = s.name))) ∧ H' = H) := by
  refine acalls_tidy (acalls_of_vc (hn := fun _ => false) (od := fun _ => none) Tryz.func166 rfl (by kernel_rfl) ?_)
  have hbL := fun L => get_app_old hb L
  simp only [Sm.cells_eq] at hbL
  simp -dsimp [hbL]
  exact tidy_same rfl ⟨rfl, rfl⟩
structure SecIn (p : Pg) : Prop where
  funcs : p.funcs.length ≤ 2^30
  regions : p.regions.length ≤ 2^30
  params : ∀ f ∈ p.funcs, f.params.length ≤ 2^28
  vars : ∀ f ∈ p.funcs, f.vars.length ≤ 2^28
  body : ∀ f ∈ p.funcs, smsCount f.body ≤ 2^40
  ok : ∀ k, k < p.funcs.length → smsWOk p k (Keys (enterT (fcAt p k))) (fcAt p k).body = true
theorem fcAt_get {p : Pg} {k : Nat} (h : k < p.funcs.length) : p.funcs[k]? = some (fcAt p k) ∧ fcAt p k ∈ p.funcs := by
  have e := List.getElem?_eq_getElem h
  have : fcAt p k = p.funcs[k] := by rw [fcAt, e]; rfl
  rw [this]
  exact ⟨e, List.getElem_mem h⟩
theorem enter_keys (p : Pg) (hp : SecIn p) {k : Nat} (h : k < p.funcs.length) : (Keys (enterT (fcAt p k))).Nodup ∧ (Keys (enterT (fcAt p k))).length ≤ 2^30 := by
  have hm := (fcAt_get h).2
  have h1 := hp.params _ hm
  have h2 := hp.vars _ hm
  constructor
  · exact sets_nodup _ _ (by simp [Keys])
  · unfold enterT
    refine Nat.le_trans (sets_len _ _) ?_
    have h3 : ((fcAt p k).vars.filter fun v => v.kind == 1).length ≤ (fcAt p k).vars.length := List.length_filter_le _ _
    simp only [List.length_append, List.length_map, Keys, List.length_nil]
    omega
theorem exs_get_le : ∀ {l : List Ex} {i : Nat} (h : i < l.length), l[i].count ≤ exsCount l
  | e :: l, 0, _ => by simp only [List.getElem_cons_zero, exsCount]; omega
  | e :: l, i + 1, h => by
    have := exs_get_le (l := l) (i := i) (by simpa using h)
    simp only [List.getElem_cons_succ, exsCount]; omega
theorem scall_ok (p : Pg) (hp : SecIn p) (n f : Nat) (hf : f < p.funcs.length) (ih : StmtsOk p n) (s : Sm) (hk6 : s.kind = 6) (hc : s.count ≤ 2^40) (t : Tab) (g : Int) (x : Rs) (hx : callM p (gM p n) f s t g = some x) (hw : SmW p f (Keys t) s) (hK : (Keys t).Nodup) (hg : GoneIn g)
    (M : List Blk) (kc ka kg kt : Nat) (hC : CIn M kc ka kg kt p (arrT p.regions (fcAt p f)) t g) :
    ACalls Tryz.prog 129 [.bp kc 0, .agg s.cells] M (StX p (arrT p.regions (fcAt p f)) M kc ka kg kt x) := by
  refine acalls_of_vc (hn := fun d => d == 55) (od := fun _ => none) Tryz.func129 rfl (by kernel_rfl) ?_
  obtain ⟨ar, har⟩ : ∃ ar, ar = arrT p.regions (fcAt p f) := ⟨_, rfl⟩
  obtain ⟨j, hj⟩ : ∃ j, j = fnNo s.name p.funcs := ⟨_, rfl⟩
  have hjf := hw.fn hk6
  have hal := hw.args hk6
  have hnl := hw.names hk6
  have htold := hw.told hk6
  unfold callM at hx
  rw [← har] at hx hC ⊢
  rw [← hj] at hjf hal hnl hx
  have hjl : j < p.funcs.length := by omega
  obtain ⟨hFg, hFm⟩ := fcAt_get hjl
  obtain ⟨F, hF⟩ : ∃ F, F = fcAt p j := ⟨_, rfl⟩
  have hwF := hp.ok j hjl
  have hkF := enter_keys p hp hjl
  have eok := fun kg g H hg => enter_ok p j (fcAt p j) hFg (by have := hp.funcs; omega) (by have := hp.regions; omega) (by have := hp.params _ hFm; omega) (by have := hp.vars _ hFm; omega) kg g H hg
  rw [← hF] at hFg hFm hal hnl hx hwF hkF eok
  have hFp := hp.params _ hFm
  have hFb := hp.body _ hFm
  have hpl := hp.funcs
  simp only [Sm.cells_eq]
  obtain ⟨bS, hbS⟩ : ∃ bS, bS = Blk.box 57 s.cells := ⟨_, rfl⟩
  obtain ⟨V, hV⟩ : ∃ V : List Blk → List Blk, V = fun L => M ++ bS :: L := ⟨_, rfl⟩
  have hVe : ∀ L, V L = M ++ bS :: L := fun L => by rw [hV]
  have vA : ∀ L R, V L ++ R = V (L ++ R) := fun L R => by rw [hVe, hVe]; simp
  have vL : ∀ L, (V L).length = M.length + 1 + L.length := fun L => by rw [hVe]; simp; omega
  have v0 : ∀ L, (V L)[M.length]? = some (.box 57 s.cells) := fun L => by rw [hVe, ← hbS]; simp
  have vN : ∀ L X, (V (L ++ [X]))[(V L).length]? = some X := fun L X => by rw [← vA]; simp
  have vS : ∀ L X Y, (V (L ++ [X])).set (V L).length Y = V (L ++ [Y]) := fun L X Y => by rw [← vA, ← vA]; simp
  have hCV : ∀ L, CIn (V L) kc ka kg kt p ar t g := fun L => by rw [hVe]; exact hC.app _
  have hKV : ∀ L, Keep M (V L) kc kg kt := fun L => by rw [hVe]; exact (Keep.refl _ _ _ _).app _
  have g0 : M ++ [bS] = V [] := by rw [hVe]
  clear hV
  have ci := func_indexF p.funcs (fun g => decide (g.name = s.name)) 166 [.bp M.length 0] (by kernel_rfl) (by omega) (V []) (fun x _ => callFn_ok x s M.length (V []) (v0 []))
  have hix : idxP (fun g => decide (g.name = s.name)) p.funcs 0 = (j : Int) := by
    have := fnNo_idx s.name p.funcs 0 (by rw [← hj]; exact hjl)
    rw [← hj] at this
    simpa using this
  rw [hix] at ci
  simp only [Sm.cells_eq] at hbS v0
  have hbC : ∀ L, (V L)[kc]? = some (.box 144 [Rg.sl p.regions, Fc.sl p.funcs, .hm ka, .hm kt, .bp kg 0]) := fun L => (hCV L).box
  have hF2 : (p.funcs.map Fc.cells)[j]? = some F.cells := by rw [List.getElem?_map, hFg]; rfl
  simp only [Fc.cells] at hF2
  simp -dsimp
  rw [← hbS, g0]
  simp -dsimp [hbC]
  refine acallsW_det ci ?_
  simp -dsimp [v0]
  have hal40 : s.args.length ≤ 2^40 := by omega
  refine loop_rule (hn := fun d => d == 55) (od := fun _ => none) (fun (y : Nat × List Blk) f' H' => H' = V y.2 ∧ f' 0 = .bp kc 0 ∧ f' 3 = .bp M.length 0 ∧ f' 4 = I j ∧ f' 18 = Ex.sl s.args ∧ f' 19 = I s.args.length ∧ f' 20 = I y.1 ∧ y.1 ≤ s.args.length ∧ argsLev t ar (s.args.drop y.1) (F.params.drop y.1) = argsLev t ar s.args F.params)
    (fun y => s.args.length - y.1) (by kernel_rfl) (0, []) ⟨rfl, by simp, by simp, by simp, by simp, by simp, by simp, by simp, by simp⟩ ?_
  rintro ⟨i, L⟩ f' _ ⟨rfl, f0, f3, f4, f18, f19, f20, hi, hlev⟩
  simp only at f20 hi hlev
  simp -dsimp [f0, f3, f4, f18, f19, f20]
  refine condVW_introD (fun hlt => ?_) (fun hlt => ?_)
  · have hlt' : i < s.args.length := by omega
    have hlp : i < F.params.length := by omega
    have hax := List.getElem?_eq_getElem hlt'
    have hpx := List.getElem?_eq_getElem hlp
    rw [drop_cons hlt', drop_cons hlp, argsLev] at hlev
    have hec := exs_get_le hlt'
    have hcs := Sm.count_eq s
    obtain ⟨e, he⟩ : ∃ e, e = s.args[i] := ⟨_, rfl⟩
    obtain ⟨v, hv⟩ : ∃ v, v = F.params[i] := ⟨_, rfl⟩
    rw [← he] at hax hlev hec
    rw [← hv] at hpx hlev
    simp only [List.head?_cons, List.tail_cons, Option.map_some, Option.getD_some] at hlev
    have cl := lev_ok p ar t _ e (Nat.le_refl _) (by omega) (hCV (L ++ [.box 53 e.cells]))
    simp only [Ex.cells_eq] at cl
    have hsl : (s.args.map Ex.cells)[i]? = some [I e.op, U e.word, St e.name, Ex.sl e.args] := by rw [List.getElem?_map, hax, Option.map_some, Ex.cells_eq]
    have hvl : (F.params.map Vr.cells)[i]? = some [St v.name, I v.kind, I v.size, Bo v.secret] := by rw [List.getElem?_map, hpx]; rfl
    have w1 : IntKind.i64.wrap ((i : Int) + 1) = ((i + 1 : Nat) : Int) := wrapS (by omega)
    have herr : argsLev t ar s.args F.params = none → ∀ L, StX p ar M kc ka kg kt x (.pan (refX 10)) (V L) := fun h L => by
      rw [h] at hx
      obtain rfl := Option.some.inj hx
      exact ⟨hKV L, rfl⟩
    simp -dsimp [f0, f3, f4, f18, f19, f20, hsl, vA, vN, vS]
    refine acallsW_of cl ?_
    rintro z H' ⟨rfl, hz⟩
    cases hl : e.lev t ar with
    | none =>
      rw [hl] at hz hlev
      simp only at hz hlev
      subst hz
      simp -dsimp
      exact herr hlev.symm _
    | some b =>
      rw [hl] at hz hlev
      simp only at hz hlev
      subst hz
      cases b
      · simp only [Bool.false_and, Bool.false_eq_true, if_false] at hlev
        simp -dsimp [f0, f3, f4, f18, f19, f20]
        exact ⟨i + 1, by omega, ⟨_, rfl⟩, w1, by omega, hlev⟩
      · simp only [Bool.true_and] at hlev
        simp -dsimp [f0, f3, f4, f18, f19, f20, hbC, hFg, hF2, hpx, hvl]
        refine condVW_introB (fun hb => ?_) (fun hb => ?_)
        · rw [hb] at hlev
          simp -dsimp
          refine acallsW_of (leave_ok 10 _) ?_
          rintro z H' ⟨rfl, rfl⟩
          simp -dsimp
          exact herr hlev.symm _
        · rw [hb] at hlev
          simp -dsimp [f0, f3, f4, f18, f19, f20]
          exact ⟨i + 1, by omega, ⟨_, rfl⟩, w1, by omega, hlev⟩
  · rw [drop_end (by omega), argsLev] at hlev
    rw [← hlev] at hx
    simp only at hx
    clear hlev f18 f19 f20
    cases hr : gM p n j F.body (enterT F) g with
    | none => rw [hr] at hx; cases hx
    | some y =>
    rw [hr] at hx
    simp -dsimp [f0, f3, f4, hbC]
    refine acallsW_of (eok kg g (V L) (hCV L).gone) ?_
    rintro z M2 ⟨L2, rfl, hM2, hC2⟩
    have hC2' := hCV L
    obtain ⟨l1, l2, l3, l4⟩ := hC2'.lt
    have hb2 : M2[kc]? = some (.box 144 [Rg.sl p.regions, Fc.sl p.funcs, .hm ka, .hm kt, .bp kg 0]) := by rw [hM2]; exact get_app_old (hbC L) _
    have hK2 : Keep M M2 kc kg kt := by rw [hM2]; exact (hKV L).app _
    have hCC : CIn M2 kc ka kg kt p ar t g := by rw [hM2]; exact hC2'.app _
    have hS2 : M2[M.length]? = some bS := by rw [hM2, hbS]; exact get_app_old (v0 L) _
    have hML := vL L
    have hVM : (V L).length ≤ M2.length := by rw [hM2]; simp
    clear hM2
    simp -dsimp [f0, f3, f4, hb2, hFg, hF2]
    refine acallsW_of (ih j F.body (enterT F) g y M2 ((V L).length + 3) ((V L).length + 1) kg ((V L).length + 2) hjl hr hwF hkF.1 hkF.2 hFb hg (by rw [← hF]; exact hC2)) ?_
    rintro z M3 ⟨hk3, he⟩
    obtain ⟨d1, d2, d3, d4, d5⟩ := hC2'.dis
    have hK3 : Keep M M3 kc kg kt := by
      refine ⟨Nat.le_trans hK2.len hk3.len, fun i hi a b c => ?_⟩
      rw [hk3.get i (by have := hK2.len; omega) (by omega) b (by omega), hK2.get i hi a b c]
    cases y with
    | err c =>
      simp only at he
      subst he
      simp only [bindR, Option.some.injEq] at hx
      subst hx
      simp -dsimp
      exact ⟨hK3, rfl⟩
    | ok t1 g1 =>
    simp only at he
    obtain ⟨rfl, k1, hF1, hC3⟩ := he
    simp only [bindR, Option.some.injEq] at hx
    subst hx
    have hml := hC.lt
    have hCC3 : CIn M3 kc ka kg kt p ar t g1 := by
      refine ⟨?_, ?_, ?_, hC3.gone, hCC.ne⟩
      · rw [hk3.get kc (by omega) (by omega) d2 (by omega)]; exact hCC.box
      · rw [hk3.get ka (by omega) (by omega) d4 (by omega)]; exact hCC.arr
      · rw [hk3.get kt (by omega) (by omega) (Ne.symm d5) (by omega)]; exact hCC.tab
    have hS3 : M3[M.length]? = some bS := by rw [hk3.get M.length (by omega) (by omega) (by omega) (by omega)]; exact hS2
    have hkk : k1 ≠ kt := by unfold Fresh at hF1; omega
    have ho3 := hC3.box
    have ht3 := hC3.tab
    obtain ⟨Z, hZ⟩ : ∃ Z, Z = (s.names.zip F.rets).map fun x => (x.1, lookB x.2 t1) := ⟨_, rfl⟩
    rw [← hZ]
    have hZl : Z.length = s.names.length := by rw [hZ]; simp; omega
    obtain ⟨N, hN⟩ : ∃ N : Nat → List Blk, N = fun i => M3.set kt (.map (tabM (setsT (Z.take i) t))) := ⟨_, rfl⟩
    have hNe : ∀ i, N i = M3.set kt (.map (tabM (setsT (Z.take i) t))) := fun i => by rw [hN]
    have nb : ∀ i, (N i)[kc]? = some (.box 144 [Rg.sl p.regions, Fc.sl p.funcs, .hm ka, .hm kt, .bp kg 0]) := fun i => by rw [hNe, get_set_ne (Ne.symm d3)]; exact hCC3.box
    have nt : ∀ i, (N i)[kt]? = some (.map (tabM (setsT (Z.take i) t))) := fun i => by rw [hNe]; exact get_set_eq hCC3.tab
    have no : ∀ i, (N i)[(V L).length + 3]? = some (.box 144 [Rg.sl p.regions, Fc.sl p.funcs, .hm ((V L).length + 1), .hm k1, .bp kg 0]) := fun i => by rw [hNe, get_set_ne (by omega)]; exact ho3
    have nk : ∀ i, (N i)[k1]? = some (.map (tabM t1)) := fun i => by rw [hNe, get_set_ne (Ne.symm hkk)]; exact ht3
    have nC : ∀ i, CIn (N i) kc ka kg kt p ar (setsT (Z.take i) t) g1 := fun i => by rw [hNe]; exact hCC3.setT _
    have nK : ∀ i, Keep M (N i) kc kg kt := fun i => by rw [hNe]; exact hK3.set (.inr (.inr (.inl rfl))) _
    have n0 : M3 = N 0 := by
      rw [hNe, List.take_zero]
      refine (List.ext_getElem? fun q => ?_)
      by_cases hq : kt = q
      · subst hq; rw [get_set_eq hCC3.tab]; exact hCC3.tab
      · rw [get_set_ne hq]
    have ns : ∀ i T, (N i).set kt (.map (tabM T)) = M3.set kt (.map (tabM T)) := fun i T => by rw [hNe, List.set_set]
    have nS : (N 0)[M.length]? = some (.box 57 [I s.kind, St s.name, St.sl s.names, I s.e.op, U s.e.word, St s.e.name, Ex.sl s.e.args, I s.a.op, U s.a.word, St s.a.name, Ex.sl s.a.args, Ex.sl s.args, U s.low, U s.high, Sm.sl s.body, Sm.sl s.els]) := by rw [← n0, hS3, hbS]
    rw [n0]
    clear n0
    simp -dsimp [f3, nS]
    refine loop_rule (hn := fun d => d == 55) (od := fun _ => none) (fun (i : Nat) f' H' => H' = N i ∧ f' 0 = .bp kc 0 ∧ f' 4 = I j ∧ f' 7 = .bp ((V L).length + 3) 0 ∧ f' 68 = St.sl s.names ∧ f' 69 = I s.names.length ∧ f' 70 = I i ∧ i ≤ s.names.length)
      (fun i => s.names.length - i) (by kernel_rfl) 0 ⟨rfl, by simp [f0], by simp [f4], by simp, by simp, by simp, by simp, by simp⟩ ?_
    clear f0 f3 f4
    rintro i f' _ ⟨rfl, f0, f4, f7, f68, f69, f70, hi⟩
    simp -dsimp [f0, f4, f7, f68, f69, f70]
    refine condVW_introD (fun hlt => ?_) (fun hlt => ?_)
    · have hlt' : i < s.names.length := by omega
      have hlr : i < F.rets.length := by omega
      have hnx := List.getElem?_eq_getElem hlt'
      have hrx := List.getElem?_eq_getElem hlr
      obtain ⟨a, ha⟩ : ∃ a, a = s.names[i] := ⟨_, rfl⟩
      obtain ⟨r, hrr⟩ : ∃ r, r = F.rets[i] := ⟨_, rfl⟩
      rw [← ha] at hnx
      rw [← hrr] at hrx
      have hzi : (s.names.zip F.rets)[i]? = some (a, r) := by rw [List.getElem?_zip_eq_some]; exact ⟨hnx, hrx⟩
      have hZi : Z[i]? = some (a, lookB r t1) := by rw [hZ, List.getElem?_map, hzi]; rfl
      have hcs := Sm.count_eq s
      have hZt : setsT (Z.take (i + 1)) t = aset a (lookB r t1) (setsT (Z.take i) t) := by
        obtain ⟨h1, h2⟩ := List.getElem?_eq_some_iff.1 hZi
        rw [take_succ' h1, setsT_app, h2]; rfl
      have hmf := mfind_str BoA r t1
      have hms := mset_str BoA a (lookB r t1) (setsT (Z.take i) t)
      have w1 : IntKind.i64.wrap ((i : Int) + 1) = ((i + 1 : Nat) : Int) := wrapS (by omega)
      have hlk : (Bo ((alook r t1).getD false)) = BoA (lookB r t1) := rfl
      simp -dsimp [f0, f4, f7, f68, f69, f70, hnx, hrx, nb, nt, no, nk, hFg, hF2, hmf, optB_getD, hlk, hms, ns]
      exact ⟨i + 1, by omega, by rw [hNe, hZt], w1, by omega⟩
    · have : Z.take i = Z := List.take_of_length_le (by omega)
      simp -dsimp
      have h1 := nC i
      rw [this] at h1
      exact ⟨nK i, rfl, kt, .inl rfl, h1⟩
end Go.Proofs
namespace Go.Proofs
open Go.Mu
def TwoIn (kc kb ks : Nat) (s : Sm) (M : List Blk) : Prop := M[kb]? = some (pcB kc) ∧ M[ks]? = some (.box 57 s.cells)
theorem two_app {kc kb ks : Nat} {s : Sm} (M L : List Blk) (h : TwoIn kc kb ks s M) : TwoIn kc kb ks s (M ++ L) := ⟨get_app_old h.1 L, get_app_old h.2 L⟩
theorem two_keep {kc kb ks : Nat} {s : Sm} {p : Pg} {ar : Tab} {ka kg : Nat} (M M' : List Blk) (kt : Nat) (t : Tab) (g : Int) (hC : CIn M kc ka kg kt p ar t g) (hk : Keep M M' kc kg kt) (h : TwoIn kc kb ks s M) : TwoIn kc kb ks s M' :=
  ⟨hC.keep hk h.1 (pcB_other kc), hC.keep hk h.2 (smB_other s)⟩
theorem stx_weak {p : Pg} {ar : Tab} {M M' : List Blk} {kc ka kg kt : Nat} {x : Rs} {e : AE} {M2 : List Blk} (hk : Keep M M' kc kg kt) (h : StX p ar M' kc ka kg kt x e M2) : StX p ar M kc ka kg kt x e M2 := by
  obtain ⟨h1, h2⟩ := h
  refine ⟨hk.trans (.inl rfl) h1, ?_⟩
  cases x with
  | err c => exact h2
  | ok t g =>
    obtain ⟨rfl, k1, hF, hC⟩ := h2
    refine ⟨rfl, k1, ?_, hC⟩
    unfold Fresh at *
    have := hk.len
    omega
theorem loop_ok (p : Pg) (m f : Nat) (hf : f < p.funcs.length) (ih : StmtsOk p m) (K : List ByteArray) (hK : K.Nodup) (hK30 : K.length ≤ 2^30) (s : Sm) (hw : smsWOk p f K s.body = true) (hc : s.count ≤ 2^40) (t : Tab) (g : Int) (x : Rs)
    (hx : leastM (fun t g => match s.e.lev t (arrT p.regions (fcAt p f)) with | some false => gM p m f s.body t g | _ => some (.err 10)) m t g = some x) (ht : Keys t = K) (hg : GoneIn g)
    (M : List Blk) (kc ka kg kt : Nat) (hC : CIn M kc ka kg kt p (arrT p.regions (fcAt p f)) t g) :
    ACalls Tryz.prog 126 [.bp kc 0, .agg s.cells] M (StX p (arrT p.regions (fcAt p f)) M kc ka kg kt x) := by
  refine acalls_of_vc (hn := fun _ => false) (od := fun _ => none) Tryz.func126 rfl (by kernel_rfl) ?_
  have hcs := Sm.count_eq s
  obtain ⟨M1, hM1⟩ : ∃ M1, M1 = M ++ [pcB kc, .box 57 s.cells] := ⟨_, rfl⟩
  have hT : TwoIn kc M.length (M.length + 1) s M1 := by rw [hM1]; exact ⟨by simp, by simp⟩
  have hC1 : CIn M1 kc ka kg kt p (arrT p.regions (fcAt p f)) t g := by rw [hM1]; exact hC.app _
  have hK1 : Keep M M1 kc kg kt := by rw [hM1]; exact (Keep.refl _ _ _ _).app _
  have hb1 := hT.1
  have cl := least_ok p (arrT p.regions (fcAt p f)) K hK (by omega) kc ka kg (TwoIn kc M.length (M.length + 1) s) two_app two_keep _ 163 [.bp M.length 0, .bp (M.length + 1) 0] (by kernel_rfl)
    (whileRound_ok p m f hf ih K hK hK30 s hw (by omega) (by omega) kc ka kg M.length (M.length + 1))
    (fun t g t1 g1 h hk hg => by
      split at h
      · exact ⟨by rw [gM_keys m _ _ _ _ _ _ (by rw [hk]; exact hw) h, hk], gM_gone m _ _ _ _ _ _ hg h⟩
      · cases h) m t g x M1 kt hx ht hg hC1 hT
  simp only [Sm.cells_eq] at hM1 ⊢
  simp -dsimp
  rw [← hM1]
  refine acallsW_of cl ?_
  intro e M2 h
  have h2 := stx_weak hK1 h
  clear h
  obtain ⟨h1, h3⟩ := h2
  cases x with
  | err c =>
    simp only at h3
    subst h3
    simp -dsimp
    exact ⟨h1, rfl⟩
  | ok t1 g1 =>
    simp only at h3
    obtain ⟨rfl, h4⟩ := h3
    simp -dsimp
    exact ⟨h1, rfl, h4⟩
end Go.Proofs
namespace Go.Proofs
open Go.Mu
theorem sms_get_le : ∀ {l : List Sm} {i : Nat} (h : i < l.length), l[i].count ≤ smsCount l
  | e :: l, 0, _ => by simp only [List.getElem_cons_zero, smsCount]; omega
  | e :: l, i + 1, h => by
    have := sms_get_le (l := l) (i := i) (by simpa using h)
    simp only [List.getElem_cons_succ, smsCount]; omega
theorem smsWOk_drop {p : Pg} {f : Nat} {K : List ByteArray} : ∀ {l : List Sm}, smsWOk p f K l = true → ∀ {i : Nat} (h : i < l.length), SmW p f K l[i]
  | s :: l, h, 0, _ => by rw [smsWOk, Bool.and_eq_true, wOk_iff] at h; exact h.1
  | s :: l, h, i + 1, hi => by rw [smsWOk, Bool.and_eq_true] at h; exact smsWOk_drop h.2 (by simpa using hi)
theorem stmts_step (p : Pg) (hp : SecIn p) (n : Nat) (ih : ∀ m, m < n → StmtsOk p m) : StmtsOk p n := by
  intro f l t0 g0 x M kc ka kg kt0 hf hx hw hK hK30 hc hg hC
  refine acalls_of_vc (hn := fun d => d == 43 || d == 53 || d == 98) (od := fun i => if i = 9 then some [(0, []), (1, []), (2, []), (3, []), (4, []), (5, []), (6, []), (7, []), (8, []), (9, [0, 1, 2, 3, 4, 5]), (10, [])] else if i = 21 then some [(0, []), (1, []), (2, []), (3, []), (4, []), (5, []), (6, [0]), (7, []), (8, []), (9, [])] else none) Tryz.func89 rfl (by kernel_rfl) ?_
  obtain ⟨ar, har⟩ : ∃ ar, ar = arrT p.regions (fcAt p f) := ⟨_, rfl⟩
  rw [← har] at hC ⊢
  have hll : l.length ≤ smsCount l := sms_len l
  obtain ⟨K, hKe⟩ : ∃ K, K = Keys t0 := ⟨_, rfl⟩
  rw [← hKe] at hw hK hK30
  obtain ⟨Inv, hInv⟩ : ∃ Inv : Nat → Nat → Tab → Int → Nat → List Blk → Prop, Inv = fun m i t g k M' => (gM p m f (l.drop i) t g = some x ∧ m ≤ n ∧ Keys t = K ∧ GoneIn g) ∧ CIn M' kc ka kg k p ar t g ∧ Keep M M' kc kg kt0 ∧ Fresh M kt0 k ∧ M'[M.length]? = some (pcB kc) := ⟨_, rfl⟩
  have hIe : ∀ m i t g k M', Inv m i t g k M' ↔ (gM p m f (l.drop i) t g = some x ∧ m ≤ n ∧ Keys t = K ∧ GoneIn g) ∧ CIn M' kc ka kg k p ar t g ∧ Keep M M' kc kg kt0 ∧ Fresh M kt0 k ∧ M'[M.length]? = some (pcB kc) := fun m i t g k M' => by rw [hInv]
  clear hInv
  simp -dsimp
  refine loop_rule (hn := fun d => d == 43 || d == 53 || d == 98) (od := fun i => if i = 9 then some [(0, []), (1, []), (2, []), (3, []), (4, []), (5, []), (6, []), (7, []), (8, []), (9, [0, 1, 2, 3, 4, 5]), (10, [])] else if i = 21 then some [(0, []), (1, []), (2, []), (3, []), (4, []), (5, []), (6, [0]), (7, []), (8, []), (9, [])] else none) (fun (y : Nat × Nat × Tab × Int × Nat) f' H' => Inv y.1 y.2.1 y.2.2.1 y.2.2.2.1 y.2.2.2.2 H' ∧ f' 2 = .bp M.length 0 ∧ f' 8 = Sm.sl l ∧ f' 9 = I l.length ∧ f' 10 = I y.2.1 ∧ y.2.1 ≤ l.length)
    (fun y => l.length - y.2.1) (by kernel_rfl) (n, 0, t0, g0, kt0) ⟨(hIe _ _ _ _ _ _).2 ⟨⟨hx, Nat.le_refl _, hKe.symm, hg⟩, hC.app _, (Keep.refl _ _ _ _).app _, .inl rfl, by simp⟩, by simp, by simp, by simp, by simp, by simp⟩ ?_
  clear hx hg hC
  rintro ⟨m, i, t, g, k⟩ f' M' ⟨hI, f2, f8, f9, f10, hi⟩
  simp only at hI f10 hi
  obtain ⟨⟨hx, hmn, ht, hg⟩, hC, hKe0, hFr, hkb⟩ := (hIe _ _ _ _ _ _).1 hI
  clear hI
  cases m with
  | zero => cases hx
  | succ m =>
  simp -dsimp [f2, f8, f9, f10]
  refine condVW_introD (fun hlt => ?_) (fun hlt => ?_)
  · have hlt' : i < l.length := by omega
    have hsx := List.getElem?_eq_getElem hlt'
    have hsw := smsWOk_drop hw hlt'
    have hsc := sms_get_le hlt'
    rw [drop_cons hlt', gM] at hx
    obtain ⟨s, hs⟩ : ∃ s, s = l[i] := ⟨_, rfl⟩
    rw [← hs] at hx hsx hsw hsc
    have hcs := Sm.count_eq s
    have ihm := ih m (by omega)
    have hg1 : 65536 < g + 1 ∨ GoneIn (g + 1) := by unfold GoneIn at *; omega
    have hsl : (l.map Sm.cells)[i]? = some s.cells := by rw [List.getElem?_map, hsx]; rfl
    have hst : ∀ t1 g1 k1 M3, stM p (gM p m) m f s t (g + 1) = some (.ok t1 g1) → ¬ 65536 < g + 1 → Keys t1 = K → CIn M3 kc ka kg k1 p ar t1 g1 → Keep M M3 kc kg kt0 → Fresh M kt0 k1 → M3[M.length]? = some (pcB kc) → Inv m (i + 1) t1 g1 k1 M3 := by
      intro t1 g1 k1 M3 h1 h2 h3 h4 h5 h6 h7
      rw [if_neg h2, h1] at hx
      have hgg := gM_gone (m + 2) f [s] t g t1 g1 hg (by rw [gM, if_neg h2, st_up (gM_up m) (Nat.le_succ m) h1]; rfl)
      exact (hIe _ _ _ _ _ _).2 ⟨⟨hx, by omega, h3, hgg⟩, h4, h5, h6, h7⟩
    have herr : ∀ c M3, stM p (gM p m) m f s t (g + 1) = some (.err c) → ¬ 65536 < g + 1 → Keep M M3 kc kg kt0 → StX p ar M kc ka kg kt0 x (.pan (refX c)) M3 := by
      intro c M3 h1 h2 h3
      rw [if_neg h2, h1] at hx
      simp only [bindR, Option.some.injEq] at hx
      subst hx
      exact ⟨h3, rfl⟩
    obtain ⟨l1, l2, l3, l4⟩ := hC.lt
    obtain ⟨d1, d2, d3, d4, d5⟩ := hC.dis
    have hlM := hKe0.len
    have hMl : M.length < M'.length := lt_of_get hkb
    obtain ⟨M1, hM1⟩ : ∃ M1, M1 = M' ++ [.box 57 s.cells] := ⟨_, rfl⟩
    have hC1 : CIn M1 kc ka kg k p ar t g := by rw [hM1]; exact hC.app _
    have hk1 : M1[M.length]? = some (pcB kc) := by rw [hM1]; exact get_app_old hkb _
    have hs1 : M1[M'.length]? = some (.box 57 s.cells) := by rw [hM1]; simp
    have hKe1 : Keep M M1 kc kg kt0 := by rw [hM1]; exact hKe0.app _
    obtain ⟨M2, hM2⟩ : ∃ M2, M2 = M1.set kg (.box 3 [I (g + 1)]) := ⟨_, rfl⟩
    have hC2 : CIn M2 kc ka kg k p ar t (g + 1) := by rw [hM2]; exact hC1.setG _
    have hkg : kg ≠ M.length := by rintro rfl; have := hC.gone.symm.trans hkb; simp at this
    have hkc : kc ≠ M.length := by rintro rfl; have := hC.box.symm.trans hkb; simp at this
    have hk2 : M2[M.length]? = some (pcB kc) := by rw [hM2, get_set_ne hkg]; exact hk1
    have hs2 : M2[M'.length]? = some (.box 57 s.cells) := by rw [hM2, get_set_ne (by omega)]; exact hs1
    have hKe2 : Keep M M2 kc kg kt0 := by rw [hM2]; exact hKe1.set (.inr (.inl rfl)) _
    have hl2 : M2.length = M'.length + 1 := by rw [hM2, hM1]; simp
    have hkm : k ≠ M.length := by rintro rfl; have := hC.tab.symm.trans hkb; simp at this
    have hkf : k = kc ∨ k = kg ∨ k = kt0 ∨ M.length ≤ k := by rcases hFr with h | h; exact .inr (.inr (.inl h)); exact .inr (.inr (.inr h))
    have g1b := hC1.box
    have g1g := hC1.gone
    have g2b := hC2.box
    have g2g := hC2.gone
    have hwr : IntKind.i64.wrap (g + 1) = g + 1 := by unfold GoneIn at hg; exact wrapI (by omega) (by omega)
    have hwi : IntKind.i64.wrap ((i : Int) + 1) = ((i + 1 : Nat) : Int) := wrapS (by omega)
    have hsub : ¬ 65536 < g + 1 → ∀ y e M3, stM p (gM p m) m f s t (g + 1) = some y → StX p ar M2 kc ka kg k y e M3 → match y with
        | .err c => e = .pan (refX c) ∧ StX p ar M kc ka kg kt0 x (.pan (refX c)) M3
        | .ok t1 g1 => e = .ret (.tup []) ∧ ∃ k1, Inv m (i + 1) t1 g1 k1 M3 := by
      intro hgt y e M3 h1 h2
      obtain ⟨h2, h3⟩ := h2
      have h4 := hKe2.trans hFr h2
      cases y with
      | err c => exact ⟨h3, herr _ _ h1 hgt h4⟩
      | ok t1 g1 =>
        obtain ⟨rfl, k1, h5, h6⟩ := h3
        have hkk := gM_keys (m + 2) f [s] t g t1 g1 (by rw [smsWOk, smsWOk, Bool.and_true, ht]; exact wOk_iff.2 hsw) (by rw [gM, if_neg hgt, st_up (gM_up m) (Nat.le_succ m) h1]; rfl)
        exact ⟨rfl, k1, hst _ _ _ _ h1 hgt (by rw [hkk, ht]) h6 h4 (Fresh.trans hKe2.len hFr h5) (hC2.keep h2 hk2 (pcB_other kc))⟩
    simp only [Sm.cells_eq] at hM1 hs1 hs2 hsl
    simp -dsimp [f2, f8, f9, f10, hsl]
    rw [← hM1]
    simp -dsimp [f2, f8, f9, f10, hk1, g1b, g1g, hwr]
    rw [← hM2]
    simp -dsimp [hk2, g2b, g2g]
    refine condVW_introD (fun hgt => ?_) (fun hgt => ?_)
    · rw [if_pos hgt] at hx
      obtain rfl := Option.some.inj hx
      simp -dsimp
      refine acallsW_of (leave_ok 13 _) ?_
      rintro z H' ⟨rfl, rfl⟩
      simp -dsimp
      exact ⟨hKe2, rfl⟩
    have clev := lev_ok p ar t _ s.e (Nat.le_refl _) (by omega) hC2
    have cpub := public_ok p ar t s.e (by omega) hC2
    have cpubA := public_ok p ar t s.a (by omega) hC2
    simp only [Ex.cells_eq] at clev cpub cpubA
    have g2t := hC2.tab
    have g2a := hC2.arr
    simp -dsimp [f2, f8, f9, f10, hs2]
    refine condVW_introE (fun k1 => ?_) (fun k1 k1b k1c => ?_)
    · have hS : stM p (gM p m) m f s t (g + 1) = (match s.e.lev t ar with | none => some (.err 10) | some b => some (.ok (aset s.name b t) (g + 1))) := by
        unfold stM; simp only [← har]; rw [if_pos k1]; rfl
      simp -dsimp [f2, hk2, g2b, g2t, hs2]
      refine acallsW_of clev ?_
      rintro z H' ⟨rfl, hz⟩
      cases hl : s.e.lev t ar with
      | none =>
        rw [hl] at hz hS
        simp only at hz hS
        subst hz
        simp -dsimp
        exact herr _ _ hS hgt hKe2
      | some b =>
        rw [hl] at hz hS
        simp only at hz hS
        subst hz
        have hms := mset_str BoA s.name b t
        simp -dsimp [f2, f8, f9, f10, hk2, g2b, hs2, g2t, hms]
        exact ⟨m, i + 1, by omega, ⟨_, _, _, hst _ _ _ _ hS hgt (by rw [keys_aset _ _ _ (by rw [ht]; exact hsw.word (.inl k1)), ht]) (hC2.setT _) (hKe2.set hkf _) hFr (by rw [get_set_ne hkm]; exact hk2)⟩, hwi, by omega⟩
    simp -dsimp
    refine condVW_introE (fun k2 => ?_) (fun k2 k2b k2c => ?_)
    · have hS : stM p (gM p m) m f s t (g + 1) = (match s.a.lev t ar with
          | some false => (match s.e.lev t ar with | none => some (.err 10) | some b => if (b && !(lookB s.name ar)) = true then some (.err 10) else some (.ok t (g + 1)))
          | _ => some (.err 10)) := by
        unfold stM; simp only [← har]; rw [if_neg k1, if_pos k2]; rfl
      simp -dsimp [f2, hk2, g2b, hs2]
      refine acallsW_of cpubA ?_
      rintro z H' ⟨rfl, hz⟩
      by_cases hl : pubB (s.a.lev t ar) = true
      · rw [if_pos hl] at hz
        subst hz
        have hl2 : s.a.lev t ar = some false := by
          unfold pubB at hl
          split at hl
          · assumption
          · cases hl
        rw [hl2] at hS
        simp only at hS
        simp -dsimp [f2, hk2, g2b, hs2]
        refine acallsW_of clev ?_
        rintro z H' ⟨rfl, hz⟩
        cases hle : s.e.lev t ar with
        | none =>
          rw [hle] at hz hS
          simp only at hz hS
          subst hz
          simp -dsimp
          exact herr _ _ hS hgt hKe2
        | some b =>
          rw [hle] at hz hS
          simp only at hz hS
          subst hz
          cases b
          · simp only [Bool.false_and, Bool.false_eq_true, if_false] at hS
            simp -dsimp [f2, f8, f9, f10]
            exact ⟨m, i + 1, by omega, ⟨_, _, _, hst _ _ _ _ hS hgt ht hC2 hKe2 hFr hk2⟩, hwi, by omega⟩
          · simp only [Bool.true_and] at hS
            have hmf := mfind_str BoA s.name ar
            have hlk : (Bo ((alook s.name ar).getD false)) = BoA (lookB s.name ar) := rfl
            simp -dsimp [f2, f8, f9, f10, hk2, g2b, hs2, g2a, hmf, optB_getD, hlk]
            refine condVW_introB (fun hb => ?_) (fun hb => ?_)
            · rw [hb] at hS
              simp -dsimp
              refine acallsW_of (leave_ok 10 _) ?_
              rintro z H' ⟨rfl, rfl⟩
              simp -dsimp
              exact herr _ _ hS hgt hKe2
            · rw [hb] at hS
              simp -dsimp [f2, f8, f9, f10]
              exact ⟨m, i + 1, by omega, ⟨_, _, _, hst _ _ _ _ hS hgt ht hC2 hKe2 hFr hk2⟩, hwi, by omega⟩
      · rw [if_neg hl] at hz
        subst hz
        have hS2 : stM p (gM p m) m f s t (g + 1) = some (.err 10) := by
          rw [hS]
          unfold pubB at hl
          split
          · rename_i h; rw [h] at hl; exact absurd rfl hl
          · rfl
        simp -dsimp
        exact herr _ _ hS2 hgt hKe2
    simp -dsimp
    refine condVW_introE (fun k3 => ?_) (fun k3 k3b k3c => ?_)
    · have hS : stM p (gM p m) m f s t (g + 1) = (match s.e.lev t ar with
          | some false => bindR (gM p m f s.body t (g + 1)) fun t1 g1 => bindR (gM p m f s.els t g1) fun t2 g2 => some (.ok (joinT t2 t1) g2)
          | _ => some (.err 10)) := by
        unfold stM; simp only [← har]; rw [if_neg k1, if_neg k2, if_pos k3]; rfl
      have hwb := hsw.body (.inl k3)
      have hwe := hsw.els k3
      simp -dsimp [f2, hk2, g2b, hs2]
      refine acallsW_of cpub ?_
      rintro z M2 ⟨rfl, hz⟩
      by_cases hl : pubB (s.e.lev t ar) = true
      · rw [if_pos hl] at hz
        subst hz
        have hl2 : s.e.lev t ar = some false := by
          unfold pubB at hl
          split at hl
          · assumption
          · cases hl
        rw [hl2] at hS
        simp only at hS
        simp -dsimp [f2, hk2, g2b, hs2]
        refine acallsW_of (clone_lv (tabM t) k M2 g2t) ?_
        rintro e M3 ⟨rfl, hM3⟩
        have hC3 : CIn M3 kc ka kg k p ar t (g + 1) := by rw [hM3]; exact hC2.app _
        have hKe3 : Keep M M3 kc kg kt0 := by rw [hM3]; exact hKe2.app _
        have h3k : M3[M.length]? = some (pcB kc) := by rw [hM3]; exact get_app_old hk2 _
        have h3s := get_app_old hs2 [Blk.map (tabM t)]
        rw [← hM3] at h3s
        have h3t : M3[M2.length]? = some (.map (tabM t)) := by rw [hM3]; simp
        have h3l : M3.length = M2.length + 1 := by rw [hM3]; simp
        clear hM3
        have g3b := hC3.box
        simp -dsimp [f2, h3k, g3b, h3s]
        cases hy : gM p m f s.body t (g + 1) with
        | none => rw [if_neg hgt, hS, hy] at hx; cases hx
        | some y =>
        have cb := ihm f s.body t (g + 1) y M3 kc ka kg k hf hy (by rw [ht]; exact hwb) (by rw [ht]; exact hK) (by rw [ht]; exact hK30) (by omega) (hg1.resolve_left hgt) (by rw [← har]; exact hC3)
        rw [← har] at cb
        refine acallsW_of cb ?_
        rintro e M4 ⟨h41, h42⟩
        have hKe4 := hKe3.trans hFr h41
        cases y with
        | err c =>
          simp only at h42
          subst h42
          simp -dsimp
          exact herr _ _ (by rw [hS, hy]; rfl) hgt hKe4
        | ok t1 g1 =>
        simp only at h42
        obtain ⟨rfl, k1', hF4, hC4⟩ := h42
        have hF4' : Fresh M kt0 k1' := Fresh.trans hKe3.len hFr hF4
        have hkt1 : Keys t1 = K := by rw [gM_keys m _ _ _ _ _ _ (by rw [ht]; exact hwb) hy, ht]
        have hgt1 := gM_gone m _ _ _ _ _ _ (hg1.resolve_left hgt) hy
        have h4k := hC3.keep h41 h3k (pcB_other kc)
        have h4s := hC3.keep h41 h3s (by have := smB_other s; rw [Sm.cells_eq] at this; exact this)
        have h4t := hC3.keepM h41 h3t (by omega)
        have g4b := hC4.box
        have h4l := h41.len
        have hk1n : k1' ≠ M2.length := by unfold Fresh at hF4; omega
        have hC5 := hC4.setC h4t (show ka ≠ M2.length by omega)
        obtain ⟨M5, hM5⟩ : ∃ M5, M5 = M4.set kc (.box 144 [Rg.sl p.regions, Fc.sl p.funcs, .hm ka, .hm M2.length, .bp kg 0]) := ⟨_, rfl⟩
        rw [← hM5] at hC5
        have hKe5 : Keep M M5 kc kg kt0 := by rw [hM5]; exact hKe4.set (.inl rfl) _
        have h5k : M5[M.length]? = some (pcB kc) := by rw [hM5, get_set_ne hkc]; exact h4k
        have h5s := h4s
        rw [← get_set_ne (l := M4) (i := kc) (x := .box 144 [Rg.sl p.regions, Fc.sl p.funcs, .hm ka, .hm M2.length, .bp kg 0]) (show kc ≠ M'.length by omega), ← hM5] at h5s
        have h5t : M5[k1']? = some (.map (tabM t1)) := by rw [hM5, get_set_ne (hC4.dis.2.2.1)]; exact hC4.tab
        have g5b := hC5.box
        simp -dsimp [f2, h4k, g4b, h4s]
        rw [← hM5]
        simp -dsimp [f2, h5k, g5b, h5s]
        cases hy2 : gM p m f s.els t g1 with
        | none => rw [if_neg hgt, hS, hy] at hx; simp only [bindR, hy2] at hx; cases hx
        | some y2 =>
        have ce := ihm f s.els t g1 y2 M5 kc ka kg M2.length hf hy2 (by rw [ht]; exact hwe) (by rw [ht]; exact hK) (by rw [ht]; exact hK30) (by omega) hgt1 (by rw [← har]; exact hC5)
        rw [← har] at ce
        refine acallsW_of ce ?_
        rintro e M6 ⟨h61, h62⟩
        have hKe6 := hKe5.trans (.inr (by omega)) h61
        cases y2 with
        | err c =>
          simp only at h62
          subst h62
          simp -dsimp
          exact herr _ _ (by rw [hS, hy]; simp only [bindR, hy2]) hgt hKe6
        | ok t2 g2 =>
        simp only at h62
        obtain ⟨rfl, k2', hF6, hC6⟩ := h62
        have hkt2 : Keys t2 = K := by rw [gM_keys m _ _ _ _ _ _ (by rw [ht]; exact hwe) hy2, ht]
        have h6k := hC5.keep h61 h5k (pcB_other kc)
        have h6s := hC5.keep h61 h5s (by have := smB_other s; rw [Sm.cells_eq] at this; exact this)
        have h6t := hC5.keepM h61 h5t hk1n
        have g6b := hC6.box
        have hl40 : t2.length ≤ 2^40 := by have := congrArg List.length hkt2; simp only [Keys, List.length_map] at this; omega
        have hkk : Keys t2 = Keys t1 := by rw [hkt2, hkt1]
        have h6l := h61.len
        have h5l : M5.length = M4.length := by rw [hM5]; simp
        simp -dsimp [f2, h6k, g6b]
        refine acallsW_of (joined_ok t2 t1 k2' k1' M6 hC6.tab h6t hkk (by rw [hkt2]; exact hK) hl40) ?_
        rintro e M7 ⟨rfl, hM7⟩
        have h7k : M7[M.length]? = some (pcB kc) := by rw [hM7]; exact get_app_old h6k _
        have hC7 : CIn M7 kc ka kg k2' p ar t2 g2 := by rw [hM7]; exact hC6.app _
        have h7j : M7[M6.length]? = some (.map (tabM (joinT t2 t1))) := by rw [hM7]; simp
        have hKe7 : Keep M M7 kc kg kt0 := by rw [hM7]; exact hKe6.app _
        clear hM7
        have g7b := hC7.box
        simp -dsimp [f2, f8, f9, f10, h7k, g7b]
        exact ⟨m, i + 1, by omega, ⟨_, _, _, hst _ _ _ _ (by rw [hS, hy]; simp only [bindR, hy2]) hgt (by rw [joinT_keys hkk, hkt2]) (hC7.setC h7j (show ka ≠ M6.length by omega)) (hKe7.set (.inl rfl) _) (.inr (by omega)) (by rw [get_set_ne hkc]; exact h7k)⟩, hwi, by omega⟩
      · rw [if_neg hl] at hz
        subst hz
        have hS2 : stM p (gM p m) m f s t (g + 1) = some (.err 10) := by
          rw [hS]
          unfold pubB at hl
          split
          · rename_i h; rw [h] at hl; exact absurd rfl hl
          · rfl
        simp -dsimp
        exact herr _ _ hS2 hgt hKe2
    simp -dsimp
    refine condVW_introE (fun k4 => ?_) (fun k4 k4b k4c => ?_)
    · have hS : stM p (gM p m) m f s t (g + 1) = leastM (fun t g => match s.e.lev t ar with | some false => gM p m f s.body t g | _ => some (.err 10)) m t (g + 1) := by
        unfold stM; simp only [← har]; rw [if_neg k1, if_neg k2, if_neg k3, if_pos k4]; rfl
      cases hy : leastM (fun t g => match s.e.lev t ar with | some false => gM p m f s.body t g | _ => some (.err 10)) m t (g + 1) with
      | none => rw [if_neg hgt, hS, hy] at hx; cases hx
      | some y =>
      have cc := loop_ok p m f hf ihm K hK hK30 s (hsw.body (.inr (.inl k4))) (by omega) t (g + 1) y (by rw [← har]; exact hy) ht (hg1.resolve_left hgt) M2 kc ka kg k (by rw [← har]; exact hC2)
      rw [← har] at cc
      simp only [Sm.cells_eq] at cc
      simp -dsimp [f2, hk2, g2b, hs2]
      refine acallsW_of cc ?_
      intro e M3 hh
      have hh := hsub hgt y e M3 (by rw [hS, hy]) hh
      cases y with
      | err c =>
        obtain ⟨rfl, h2⟩ := hh
        simp -dsimp
        exact h2
      | ok t1 g1 =>
        obtain ⟨rfl, k1, h2⟩ := hh
        simp -dsimp [f2, f8, f9, f10]
        exact ⟨m, i + 1, by omega, ⟨_, _, _, h2⟩, hwi, by omega⟩
    simp -dsimp
    refine condVW_introE (fun k5 => ?_) (fun k5 k5b k5c => ?_)
    · have hS : stM p (gM p m) m f s t (g + 1) = bindR (leastM (fun t g => gM p m f s.body (aset s.name false t) g) m t (g + 1)) fun t g => some (.ok (aset s.name false t) g) := by
        unfold stM; simp only; rw [if_neg k1, if_neg k2, if_neg k3, if_neg k4, if_pos k5]
      have hn := hsw.word (.inr k5)
      have hwb := hsw.body (.inr (.inr k5))
      have hka : ∀ t2, Keys t2 = K → Keys (aset s.name false t2) = K := fun t2 h => by rw [keys_aset _ _ _ (by rw [h]; exact hn), h]
      cases hy : leastM (fun t g => gM p m f s.body (aset s.name false t) g) m t (g + 1) with
      | none => rw [if_neg hgt, hS, hy] at hx; cases hx
      | some y =>
      have cc := least_ok p (arrT p.regions (fcAt p f)) K hK (by omega) kc ka kg (TwoIn kc M.length M'.length s) two_app two_keep _ 128 [.bp M.length 0, .bp M'.length 0] (by kernel_rfl)
        (forRound_ok p m f hf ihm K hK hK30 s hn hwb (by omega) kc ka kg M.length M'.length)
        (fun t2 g2 t3 g3 h hk hgx => ⟨by rw [gM_keys m _ _ _ _ _ _ (by rw [hka _ hk]; exact hwb) h, hka _ hk], gM_gone m _ _ _ _ _ _ hgx h⟩) m t (g + 1) y M2 k hy ht (hg1.resolve_left hgt) (by rw [← har]; exact hC2) ⟨hk2, by rw [Sm.cells_eq]; exact hs2⟩
      rw [← har] at cc
      simp -dsimp [f2, hk2, g2b, hs2]
      refine acallsW_of cc ?_
      rintro e M3 ⟨h2, h3⟩
      have h4 := hKe2.trans hFr h2
      cases y with
      | err c =>
        simp only at h3
        subst h3
        simp -dsimp
        exact herr _ _ (by rw [hS, hy]; rfl) hgt h4
      | ok t1 g1 =>
        simp only at h3
        obtain ⟨rfl, k1', h5, h6⟩ := h3
        have g3b := h6.box
        have g3t := h6.tab
        have h7 := hC2.keep h2 hk2 (pcB_other kc)
        have h8 := hC2.keep h2 hs2 (by have := smB_other s; rw [Sm.cells_eq] at this; exact this)
        have hms := mset_str BoA s.name false t1
        have h9 : k1' ≠ M.length := by rintro rfl; have := h6.tab.symm.trans h7; simp at this
        have h10 := Fresh.trans hKe2.len hFr h5
        have hkt1 : Keys t1 = K := by
          refine least_keys (K := K) (fun t2 g2 t3 g3 hk h => ?_) _ _ _ _ _ ht hy
          rw [gM_keys m _ _ _ _ _ _ (by rw [hka _ hk]; exact hwb) h, hka _ hk]
        simp -dsimp [f2, f8, f9, f10, h7, h8, g3b, g3t, hms]
        exact ⟨m, i + 1, by omega, ⟨_, _, _, hst _ _ _ _ (by rw [hS, hy]; rfl) hgt (hka _ hkt1) (h6.setT _) (h4.set (by rcases h10 with h | h; exact .inr (.inr (.inl h)); exact .inr (.inr (.inr h))) _) h10 (by rw [get_set_ne h9]; exact h7)⟩, hwi, by omega⟩
    simp -dsimp
    refine condVW_introE (fun k6 => ?_) (fun k6 k6b k6c => ?_)
    · have hS : stM p (gM p m) m f s t (g + 1) = callM p (gM p m) f s t (g + 1) := by
        unfold stM; simp only; rw [if_neg k1, if_neg k2, if_neg k3, if_neg k4, if_neg k5, if_pos k6]
      cases hy : callM p (gM p m) f s t (g + 1) with
      | none => rw [if_neg hgt, hS, hy] at hx; cases hx
      | some y =>
      have cc := scall_ok p hp m f hf ihm s k6 (by omega) t (g + 1) y hy (by rw [ht]; exact hsw) (by rw [ht]; exact hK) (hg1.resolve_left hgt) M2 kc ka kg k (by rw [← har]; exact hC2)
      rw [← har] at cc
      simp only [Sm.cells_eq] at cc
      simp -dsimp [f2, hk2, g2b, hs2]
      refine acallsW_of cc ?_
      intro e M3 hh
      have hh := hsub hgt y e M3 (by rw [hS, hy]) hh
      cases y with
      | err c =>
        obtain ⟨rfl, h2⟩ := hh
        simp -dsimp
        exact h2
      | ok t1 g1 =>
        obtain ⟨rfl, k1, h2⟩ := hh
        simp -dsimp [f2, f8, f9, f10]
        exact ⟨m, i + 1, by omega, ⟨_, _, _, h2⟩, hwi, by omega⟩
    · have hS : stM p (gM p m) m f s t (g + 1) = some (.ok t (g + 1)) := by
        unfold stM; simp only; rw [if_neg k1, if_neg k2, if_neg k3, if_neg k4, if_neg k5, if_neg k6]
      simp -dsimp [f2, f8, f9, f10]
      exact ⟨m, i + 1, by omega, ⟨_, _, _, hst _ _ _ _ hS hgt ht hC2 hKe2 hFr hk2⟩, hwi, by omega⟩
  · rw [drop_end (by omega), gM] at hx
    obtain rfl := Option.some.inj hx
    simp -dsimp
    exact ⟨hKe0, rfl, k, hFr, hC⟩
end Go.Proofs
namespace Go.Proofs
open Go.Mu
theorem sstmts_ok (p : Pg) (hp : SecIn p) (n : Nat) : StmtsOk p n := by
  induction n using Nat.strongRecOn with
  | ind n ih => exact stmts_step p hp n ih
theorem varsT_mem (n : ByteArray) (v : Vr) : ∀ (l : List Vr) (t : List (ByteArray × Vr)), alook n (l.foldl (fun t v => aset v.name v t) t) = some v → (v ∈ l ∧ v.name = n) ∨ alook n t = some v
  | [], t, h => .inr h
  | w :: l, t, h => by
    rcases varsT_mem n v l _ h with ⟨h1, h2⟩ | h1
    · exact .inl ⟨List.mem_cons_of_mem _ h1, h2⟩
    · rw [alook_set] at h1
      split at h1
      · rename_i e
        cases h1
        exact .inl ⟨List.mem_cons_self .., e.symm⟩
      · exact .inr h1
theorem word_keys {F : Fc} {ta : List (ByteArray × Bool)} {n : ByteArray} (h : wordE (varsT (F.params ++ F.vars)) ta n = 0) : n ∈ Keys (enterT F) := by
  unfold wordE at h
  have h := mustE_0 (by decide) (thenE_0 h).2
  rw [Bool.and_eq_true] at h
  obtain ⟨h1, h2⟩ := h
  unfold isV at h1
  obtain ⟨v, hv⟩ := Option.isSome_iff_exists.1 h1
  unfold kindV at h2
  rw [hv] at h2
  simp only [Option.getD_some, beq_iff_eq] at h2
  unfold varsT at hv
  rcases varsT_mem n v _ _ hv with ⟨h3, h4⟩ | h3
  · unfold enterT
    rw [sets_mem]
    refine .inl ?_
    rw [List.map_append, List.mem_append]
    rcases List.mem_append.1 h3 with h3 | h3
    · refine .inl ?_
      rw [List.map_map, List.mem_map]
      exact ⟨v, h3, h4⟩
    · refine .inr ?_
      rw [List.map_map, List.mem_map]
      exact ⟨v, List.mem_filter.2 ⟨h3, by simp [h2]⟩, h4⟩
  · cases h3
theorem fnNo_le (s : ByteArray) : ∀ l : List Fc, fnNo s l ≤ l.length
  | [] => Nat.le_refl _
  | f :: l => by
    have := fnNo_le s l
    rw [fnNo]; split <;> simp only [List.length_cons] <;> omega
theorem fnNo_no (s : ByteArray) : ∀ (l : List Fc) (i : Int), fnNo s l = l.length → idxP (fun g => decide (g.name = s)) l i = -1
  | [], i, _ => rfl
  | f :: l, i, h => by
    rw [fnNo] at h
    by_cases e : f.name = s
    · rw [if_pos e] at h; simp at h
    · rw [if_neg e, List.length_cons] at h
      rw [idxP, if_neg (by simpa using e)]
      exact fnNo_no s l _ (by omega)
theorem call_w {p : Pg} {f : Nat} {F : Fc} {ta : List (ByteArray × Bool)} {all : List ByteArray} {s : Sm} {deep : Nat} (h : callE p f (varsT (F.params ++ F.vars)) ta all s deep = 0) :
    fnNo s.name p.funcs < f ∧ s.args.length = (fcAt p (fnNo s.name p.funcs)).params.length ∧ s.names.length = (fcAt p (fnNo s.name p.funcs)).rets.length ∧ ∀ n ∈ s.names, n ∈ Keys (enterT F) := by
  unfold callE at h
  have hle := fnNo_le s.name p.funcs
  split at h
  · cases h
  rename_i g hg
  obtain ⟨h1, h⟩ := thenE_0 h
  obtain ⟨h2, h⟩ := thenE_0 h
  obtain ⟨h3, h⟩ := thenE_0 h
  obtain ⟨h4, _⟩ := thenE_0 h
  have h1 := mustE_0 (by decide) h1
  have h2 := mustE_0 (by decide) h2
  have h4 := mustE_0 (by decide) h4
  simp only [decide_eq_true_eq, Bool.and_eq_true, beq_iff_eq] at h1 h2 h4
  have hlt : fnNo s.name p.funcs < p.funcs.length := by
    rcases Nat.lt_or_ge (fnNo s.name p.funcs) p.funcs.length with h | h
    · exact h
    · rw [fnNo_no s.name p.funcs 0 (by omega)] at h1; omega
  have hi := fnNo_idx s.name p.funcs 0 hlt
  rw [Nat.zero_add, show ((0 : Nat) : Int) = 0 from rfl] at hi
  rw [hi] at hg h2
  have hgF : fcAt p (fnNo s.name p.funcs) = g := by
    have : p.funcs[fnNo s.name p.funcs]? = some g := by simpa using hg
    rw [fcAt, this]; rfl
  rw [hgF]
  refine ⟨by omega, by omega, by omega, ?_⟩
  have key : ∀ (l done : List ByteArray), takesE (varsT (F.params ++ F.vars)) ta all done l = 0 → ∀ n ∈ l, n ∈ Keys (enterT F) := by
    intro l
    induction l with
    | nil => intro _ _ n hn; cases hn
    | cons a l ih =>
      intro done h n hn
      rw [takesE] at h
      obtain ⟨t1, h⟩ := thenE_0 h
      obtain ⟨_, h⟩ := thenE_0 h
      obtain ⟨_, h⟩ := thenE_0 h
      rcases List.mem_cons.1 hn with rfl | hn
      · exact word_keys t1
      · exact ih _ h n hn
  exact key _ _ h3
theorem chk_w (m : Nat) : ∀ l : List Sm, smsCount l ≤ m → ∀ (p : Pg) (f : Nat) (F : Fc) ta all (deep : Nat) around, smsChk p f F (varsT (F.params ++ F.vars)) ta all deep around l = 0 → smsWOk p f (Keys (enterT F)) l = true ∧ smsCalls p f l = true := by
  induction m with
  | zero => intro l hl p f F ta all deep around _; have := sms_len l; obtain rfl : l = [] := List.eq_nil_of_length_eq_zero (by omega); exact ⟨rfl, rfl⟩
  | succ m ih =>
    intro l
    induction l with
    | nil => intro _ p f F ta all deep around _; exact ⟨rfl, rfl⟩
    | cons s l ihl =>
      intro h p f F ta all deep around hc
      simp only [smsCount] at h
      have hcc := Sm.count_eq s
      rw [smsChk] at hc
      obtain ⟨c1, c2⟩ := thenE_0 hc
      obtain ⟨h1, h2⟩ := ihl (by omega) p f F ta all deep around c2
      rw [smsWOk, smsCalls, h1, h2, Bool.and_true, Bool.and_true, wOk_iff, Sm.calls_eq]
      rw [Sm.chk_eq] at c1
      obtain ⟨_, c1⟩ := thenE_0 c1
      obtain ⟨k0, c1⟩ := thenE_0 c1
      unfold kindE at k0
      have k0 := mustE_0 (by decide) k0
      simp only [Bool.and_eq_true] at k0
      obtain ⟨⟨⟨⟨⟨⟨⟨kk1, _⟩, _⟩, _⟩, _⟩, _⟩, kk7⟩, kk8⟩ := k0
      have e7 : (s.kind = 3 ∨ s.kind = 4 ∨ s.kind = 5) ∨ s.body = [] := by
        unfold kd7 hasK at kk7
        simp at kk7
        rcases kk7 with h | h | h | h
        · exact .inr h
        · exact .inl (.inl h)
        · exact .inl (.inr (.inl h))
        · exact .inl (.inr (.inr h))
      have e8 : s.kind = 3 ∨ s.els = [] := by
        unfold kd8 hasK at kk8
        simp at kk8
        rcases kk8 with h | h
        · exact .inr h
        · exact .inl h
      have cA : smsWOk p f (Keys (enterT F)) [] = true ∧ smsCalls p f [] = true := ⟨rfl, rfl⟩
      have hb : smsWOk p f (Keys (enterT F)) s.body = true ∧ smsCalls p f s.body = true := by
        rcases e7 with h7 | h7
        · by_cases k5 : s.kind = 5
          · rw [if_neg (by omega), if_neg (by omega), if_neg (by omega), if_pos k5] at c1
            obtain ⟨_, c1⟩ := thenE_0 c1
            obtain ⟨_, c1⟩ := thenE_0 c1
            obtain ⟨_, c1⟩ := thenE_0 c1
            obtain ⟨_, c1⟩ := thenE_0 c1
            exact ih s.body (by omega) _ _ _ _ _ _ _ c1
          · rw [if_neg (by omega), if_neg (by omega), if_pos (by omega)] at c1
            obtain ⟨_, c1⟩ := thenE_0 c1
            exact ih s.body (by omega) _ _ _ _ _ _ _ (thenE_0 c1).1
        · rw [h7]; exact cA
      have he : smsWOk p f (Keys (enterT F)) s.els = true ∧ smsCalls p f s.els = true := by
        rcases e8 with h7 | h7
        · rw [if_neg (by omega), if_neg (by omega), if_pos (by omega)] at c1
          obtain ⟨_, c1⟩ := thenE_0 c1
          exact ih s.els (by omega) _ _ _ _ _ _ _ (thenE_0 c1).2
        · rw [h7]; exact cA
      have hcall : s.kind = 6 → fnNo s.name p.funcs < f ∧ s.args.length = (fcAt p (fnNo s.name p.funcs)).params.length ∧ s.names.length = (fcAt p (fnNo s.name p.funcs)).rets.length ∧ ∀ n ∈ s.names, n ∈ Keys (enterT F) := fun k6 => by
        rw [if_neg (by omega), if_neg (by omega), if_neg (by omega), if_neg (by omega)] at c1
        exact call_w c1
      refine ⟨⟨?_, fun k => (hcall k).1, fun k => (hcall k).2.1, fun k => (hcall k).2.2.1, fun k => (hcall k).2.2.2, fun _ => hb.1, fun _ => he.1⟩, ?_⟩
      · rintro (k | k)
        · rw [if_pos k] at c1
          exact word_keys (thenE_0 c1).1
        · rw [if_neg (by omega), if_neg (by omega), if_neg (by omega), if_pos k] at c1
          exact word_keys (thenE_0 c1).1
      · rw [hb.2, he.2, Bool.and_true, Bool.and_true, Bool.or_eq_true]
        by_cases k : s.kind = 6
        · exact .inr (by rw [decide_eq_true_eq]; exact (hcall k).1)
        · exact .inl (by simpa using k)
theorem may_w {p : Pg} (h : mayE p = 0) : ∀ k, k < p.funcs.length → smsWOk p k (Keys (enterT (fcAt p k))) (fcAt p k).body = true ∧ smsCalls p k (fcAt p k).body = true := by
  unfold mayE at h
  obtain ⟨_, h⟩ := thenE_0 h
  obtain ⟨_, h⟩ := thenE_0 h
  obtain ⟨_, h⟩ := thenE_0 h
  obtain ⟨_, h⟩ := thenE_0 h
  have key : ∀ (l : List Fc) (i : Nat), asksE p i l = 0 → ∀ (k : Nat) F, l[k]? = some F → smsWOk p (i + k) (Keys (enterT F)) F.body = true ∧ smsCalls p (i + k) F.body = true := by
    intro l
    induction l with
    | nil => intro i _ k F hF; simp at hF
    | cons a l ih =>
      intro i h k F hF
      rw [asksE] at h
      obtain ⟨h1, h2⟩ := thenE_0 h
      cases k with
      | zero =>
        simp at hF
        subst hF
        unfold askE at h1
        exact chk_w _ _ (Nat.le_refl _) _ _ _ _ _ _ _ h1
      | succ k =>
        have := ih (i + 1) h2 k F (by simpa using hF)
        rw [show i + (k + 1) = i + 1 + k by omega]
        exact this
  intro k hk
  have := key p.funcs 0 h k (fcAt p k) (fcAt_get hk).1
  simpa using this
end Go.Proofs
namespace Go.Proofs
open Go.Mu
def KeptR (y : Rs) (Q0 Q : List Blk → Prop) : AE → List Blk → Prop := fun e M' => match y with | .err c => e = .ret (I c) ∧ Q0 M' | .ok _ _ => e = .ret (I 0) ∧ Q M'
theorem skept_ok (g : FuncId) (cap : List AV) (H : List Blk) (hok : okFn Tryz.prog g = true) (y : Rs) (Q0 Q : List Blk → Prop) (hQ : ∀ M X L, Q0 M → Q0 (M.set H.length X ++ L))
    (hg : ACalls Tryz.prog g cap (H ++ [.box 40 [I 0]]) (fun e M' => M'[H.length]? = some (.box 40 [I 0]) ∧ match y with | .err c => e = .pan (refX c) ∧ Q0 M' | .ok _ _ => e = .ret (.tup []) ∧ Q M')) :
    ACalls Tryz.prog 67 [.fn (.func g) [] cap] H (KeptR y Q0 Q) := by
  refine acalls_of_vcD (hn := fun _ => false) (od := fun _ => none) Tryz.func67 rfl (by kernel_rfl) ?_
  simp -dsimp [hok]
  refine acallsW_of hg ?_
  rintro e M' ⟨hM, he⟩
  have hMs : M'.set H.length (.box 40 [I 0]) = M' := by
    refine List.ext_getElem? fun q => ?_
    by_cases hq : H.length = q
    · subst hq; rw [get_set_eq hM, hM]
    · rw [get_set_ne hq]
  cases y with
  | err c =>
    simp only at he
    obtain ⟨rfl, h0⟩ := he
    simp -dsimp
    refine recW_of (skrec_some _ _ 0 c hM) ?_
    rintro H' ⟨L, rfl⟩
    have hr : (M'.set H.length (.box 40 [I c]) ++ L)[H.length]? = some (.box 40 [I c]) := get_app_old (get_set_eq hM) L
    simp -dsimp [hr]
    exact ⟨rfl, hQ _ _ _ h0⟩
  | ok t g =>
    simp only at he
    obtain ⟨rfl, hq⟩ := he
    simp -dsimp [hM, hMs]
    refine recW_of (skrec_none _ _) ?_
    rintro H' rfl
    simp -dsimp [hM]
    exact ⟨rfl, hq⟩
theorem check1_ok (p : Pg) (hp : SecIn p) (n : Nat) (last : Nat) (hlast : last < p.funcs.length) (t : Tab) (g : Int) (x : Rs) (hx : gM p n last (fcAt p last).body t g = some x) (hk : Keys t = Keys (enterT (fcAt p last))) (hg : GoneIn g)
    (M : List Blk) (kc ka kg kt k6 k1 k5 : Nat) (hC : CIn M kc ka kg kt p (arrT p.regions (fcAt p last)) t g) (h6 : M[k6]? = some (pcB kc)) (h1 : M[k1]? = some (.box 25 p.cells)) (h5 : M[k5]? = some (.box 3 [I last])) :
    ACalls Tryz.prog 88 [.bp k6 0, .bp k1 0, .bp k5 0] M (StX p (arrT p.regions (fcAt p last)) M kc ka kg kt x) := by
  refine acalls_of_vc (hn := fun d => d == 10) (od := fun _ => none) Tryz.func88 rfl (by kernel_rfl) ?_
  obtain ⟨hF, hm⟩ := fcAt_get hlast
  have hk2 := enter_keys p hp hlast
  have hb := hp.body _ hm
  have cs := sstmts_ok p hp n last (fcAt p last).body t g x M kc ka kg kt hlast hx (by rw [hk]; exact hp.ok last hlast) (by rw [hk]; exact hk2.1) (by rw [hk]; exact hk2.2) hb hg hC
  obtain ⟨F, hFe⟩ : ∃ F, F = fcAt p last := ⟨_, rfl⟩
  rw [← hFe] at hF cs ⊢
  have hF2 : (p.funcs.map Fc.cells)[last]? = some F.cells := by rw [List.getElem?_map, hF]; rfl
  simp only [Fc.cells, Pg.cells] at hF2 h1
  simp -dsimp [h6, h1, h5, hF, hF2]
  refine acallsW_of cs ?_
  rintro e M' ⟨h2, h3⟩
  cases x with
  | err c =>
    simp only at h3
    subst h3
    simp -dsimp
    exact ⟨h2, rfl⟩
  | ok t1 g1 =>
    simp only at h3
    obtain ⟨rfl, h4⟩ := h3
    simp -dsimp
    exact ⟨h2, rfl, h4⟩
theorem keep_pre {H M M' : List Blk} {kc kg kt : Nat} (h : ∃ L, M = H ++ L) (hk : Keep M M' kc kg kt) (h1 : H.length ≤ kc) (h2 : H.length ≤ kg) (h3 : H.length ≤ kt) : ∃ L, M' = H ++ L := by
  obtain ⟨L, rfl⟩ := h
  have hl := hk.len
  simp only [List.length_append] at hl
  refine ⟨M'.drop H.length, ?_⟩
  refine List.ext_getElem? fun q => ?_
  by_cases hq : q < H.length
  · rw [hk.get q (by simp; omega) (by omega) (by omega) (by omega), List.getElem?_append_left hq, List.getElem?_append_left hq]
  · rw [List.getElem?_append_right (by omega), List.getElem?_drop, show H.length + (q - H.length) = q by omega]
abbrev boS (l : List Bool) : AV := .vs 1 (l.map fun b => [Bo b])
theorem mapF_frzC {α : Type} (cells : α → List AV) (h : ∀ a, (cells a).all AV.frzB = true) (l : List α) : (l.map cells).flatten.all AV.frzB = true := by
  rw [List.all_eq_true]
  intro c hc
  obtain ⟨e, he, hce⟩ := List.mem_flatten.1 hc
  obtain ⟨x, _, rfl⟩ := List.mem_map.1 he
  exact List.all_eq_true.1 (h x) c hce
theorem bo_fin {H : List Blk} (hu : underH H.length H = true) (l : List Bool) (n : Int) (L : List Blk) :
    WeakE (Tidy H (fun e H' => e = .ret (.tup [boS l, I n]) ∧ H' = H)) (.ret (.tup [ownS H.length (l.map fun b => [Bo b]), I n])) (H ++ ownB 4 1 (l.map fun b => [Bo b]) :: L) := by
  by_cases hw : (l.map fun b => [Bo b]) = []
  · have : l = [] := by simpa using hw
    subst this
    rw [List.map_nil, ownS_nil]
    refine tidy_weak (r' := .tup [boS [], I n]) (.tupL (.cons (.nil 1) (.cons (.refl _) .nil))) ?_
    exact tidy_same rfl ⟨rfl, rfl⟩
  · refine tidy_weak (.refl _) ?_
    have hz : (l.map fun b => [Bo b]).flatten.all AV.frzB = true := mapF_frzC (fun b : Bool => [Bo b]) (fun b => by simp [AV.frzB]) l
    refine tidy_give hu 0 1 4 (l.map fun b => [Bo b]) (by rw [ownB, if_neg hw]; rfl) hz ?_
    have hf : (AV.tup [ownS H.length (l.map fun b => [Bo b]), I n]).frz (H.length + 0) 1 (l.map fun b => [Bo b]) = .tup [boS l, I n] := by
      simp only [AV.frz, frzL, Nat.add_zero]; rw [frz_own _ _ _ hw]
    rw [hf]
    exact tidy_same rfl ⟨rfl, rfl⟩
def ansR (p : Pg) (last : Nat) : Rs → List Bool × Int
  | .err c => ([], c)
  | .ok t _ => ((fcAt p last).rets.map fun r => lookB r t, 0)
theorem check_ok (p : Pg) (hp2 : p.Ok2) (hp : SecIn p) (hm : mayE p = 0) (n last : Nat) (hl : p.funcs.length = last + 1) (x : Rs) (hx : gM p n last (fcAt p last).body (enterT (fcAt p last)) 0 = some x) (hx0 : ∀ c, x = .err c → c ≠ 0) (hr40 : (fcAt p last).rets.length ≤ 2^36) (H : List Blk) :
    ACalls Tryz.prog 38 [.agg p.cells] H (fun e H' => e = .ret (.tup [boS (ansR p last x).1, I (ansR p last x).2]) ∧ H' = H) := by
  refine acalls_under fun hu _ => acalls_tidy (acalls_weakE (acalls_spare 1 (acalls_of_vc (hn := fun d => d == 48) (od := fun _ => none) Tryz.func38 rfl (by kernel_rfl) ?_)))
  have cm := fun H => may_ok p hp2 H
  rw [hm] at cm
  obtain ⟨hF, hFm⟩ := fcAt_get (p := p) (k := last) (by omega)
  have eok := fun kg g H hg => enter_ok p last (fcAt p last) hF (by have := hp.funcs; omega) (by have := hp.regions; omega) (by have := hp.params _ hFm; omega) (by have := hp.vars _ hFm; omega) kg g H hg
  simp only [Pg.cells] at cm eok
  have hfl := hp.funcs
  have w1 : IntKind.i64.wrap ((p.funcs.length : Int) - 1) = (last : Int) := by rw [wrapI (by omega) (by omega)]; omega
  obtain ⟨W, hW⟩ : ∃ W, W = H ++ [.pend, .box 25 [Rg.sl p.regions, Fc.sl p.funcs], .box 3 [I last], .box 3 [I 0]] := ⟨_, rfl⟩
  have hWl : W.length = H.length + 4 := by rw [hW]; simp
  have hW0 : W[H.length]? = some .pend := by rw [hW]; simp
  have hW1 : W[H.length + 1]? = some (.box 25 [Rg.sl p.regions, Fc.sl p.funcs]) := by rw [hW]; simp
  have hW2 : W[H.length + 2]? = some (.box 3 [I last]) := by rw [hW]; simp
  have hW3 : W[H.length + 3]? = some (.box 3 [I 0]) := by rw [hW]; simp
  have hWH : ∃ L, W = H ++ L := ⟨_, hW⟩
  simp -dsimp
  refine acallsW_det (cm _) ?_
  simp -dsimp [w1]
  rw [← hW]
  refine acallsW_of (eok (H.length + 3) 0 W hW3) ?_
  rintro e M1 ⟨L1, rfl, hM1, hC1⟩
  obtain ⟨kc, hkc⟩ : ∃ kc, kc = W.length + 3 := ⟨_, rfl⟩
  obtain ⟨ka, hka⟩ : ∃ ka, ka = W.length + 1 := ⟨_, rfl⟩
  obtain ⟨kt, hkt⟩ : ∃ kt, kt = W.length + 2 := ⟨_, rfl⟩
  obtain ⟨kg, hkg⟩ : ∃ kg, kg = H.length + 3 := ⟨_, rfl⟩
  rw [← hkc, ← hka, ← hkt, ← hkg] at hC1
  have hM1l : W.length ≤ M1.length := by rw [hM1]; simp
  have m0 : M1[H.length]? = some .pend := by rw [hM1]; exact get_app_old hW0 _
  have m1 : M1[H.length + 1]? = some (.box 25 p.cells) := by rw [hM1]; exact get_app_old hW1 _
  have m2 : M1[H.length + 2]? = some (.box 3 [I last]) := by rw [hM1]; exact get_app_old hW2 _
  have mH : ∃ L, M1 = H ++ L := by obtain ⟨L, hL⟩ := hWH; rw [hM1, hL]; exact ⟨L ++ L1, by simp⟩
  clear hM1 hW hW0 hW1 hW2 hW3 hWH
  obtain ⟨M2, hM2⟩ : ∃ M2, M2 = M1 ++ [pcB kc] := ⟨_, rfl⟩
  obtain ⟨M3, hM3⟩ : ∃ M3, M3 = M2 ++ [.box 40 [I 0]] := ⟨_, rfl⟩
  have e3 : M3 = M1 ++ [pcB kc, .box 40 [I 0]] := by rw [hM3, hM2]; simp
  have hC3 : CIn M3 kc ka kg kt p (arrT p.regions (fcAt p last)) (enterT (fcAt p last)) 0 := by rw [e3]; exact hC1.app _
  have n0 : M3[H.length]? = some .pend := by rw [e3]; exact get_app_old m0 _
  have n1 : M3[H.length + 1]? = some (.box 25 p.cells) := by rw [e3]; exact get_app_old m1 _
  have n2 : M3[H.length + 2]? = some (.box 3 [I last]) := by rw [e3]; exact get_app_old m2 _
  have n6 : M3[M1.length]? = some (pcB kc) := by rw [e3]; simp
  have nE : M3[M2.length]? = some (.box 40 [I 0]) := by rw [hM3]; simp
  have nH : ∃ L, M3 = H ++ L := by obtain ⟨L, hL⟩ := mH; rw [e3, hL]; exact ⟨L ++ [pcB kc, .box 40 [I 0]], by simp⟩
  have hM2l : H.length ≤ M2.length := by rw [hM2]; simp; omega
  have ck := skept_ok 88 [.bp M1.length 0, .bp (H.length + 1) 0, .bp (H.length + 2) 0] M2 (by kernel_rfl) x (fun M' => ∃ L, M' = H ++ L)
    (fun M' => Keep M3 M' kc kg kt ∧ match x with | .err _ => True | .ok t g => ∃ kt', Fresh M3 kt kt' ∧ CIn M' kc ka kg kt' p (arrT p.regions (fcAt p last)) t g)
    (fun M X L h => by
      obtain ⟨L', rfl⟩ := h
      rw [List.set_append, if_neg (by omega), List.append_assoc]
      exact ⟨_, rfl⟩)
    (by
      rw [← hM3]
      refine ACalls.mono (check1_ok p hp n last (by omega) (enterT (fcAt p last)) 0 x hx rfl ⟨by omega, by omega⟩ M3 kc ka kg kt M1.length (H.length + 1) (H.length + 2) hC3 n6 n1 n2) ?_
      rintro e M' ⟨h1, h2⟩
      refine ⟨hC3.keep h1 nE (by unfold Other; refine ⟨?_, ?_, ?_⟩ <;> simp), ?_⟩
      cases x with
      | err c => exact ⟨h2, keep_pre nH h1 (by omega) (by omega) (by omega)⟩
      | ok t g => exact ⟨h2.1, h1, h2.2⟩)
  simp -dsimp
  rw [← hkc, show M1 ++ [Blk.box 138 [.bp kc 0]] = M2 from hM2.symm]
  refine acallsW_of ck ?_
  intro e M4 h4
  cases x with
  | err c =>
    obtain ⟨rfl, L, rfl⟩ := h4
    have hcb : (c != 0) = true := by simpa using hx0 c rfl
    simp -dsimp [hcb]
    refine tidy_weak (r' := .tup [boS [], I c]) (.tupL (.cons (.nil 1) (.cons (.refl _) .nil))) ?_
    exact tidy_same rfl ⟨rfl, rfl⟩
  | ok t g =>
    obtain ⟨rfl, hK, kt', hFr, hC4⟩ := h4
    have hKl := hK.len
    obtain ⟨j1, j2, j3, j4⟩ := hC3.lt
    have hM3l : M2.length < M3.length := by rw [hM3]; simp
    have hM1l2 : M1.length < M2.length := by rw [hM2]; simp
    have q0 : M4[H.length]? = some .pend := by rw [hK.get H.length (by omega) (by omega) (by omega) (by omega)]; exact n0
    have q1 : M4[H.length + 1]? = some (.box 25 p.cells) := by rw [hK.get _ (by omega) (by omega) (by omega) (by omega)]; exact n1
    have q2 : M4[H.length + 2]? = some (.box 3 [I last]) := by rw [hK.get _ (by omega) (by omega) (by omega) (by omega)]; exact n2
    have q6 := hC3.keep hK n6 (pcB_other kc)
    obtain ⟨L4, hL4⟩ : ∃ L, M4 = H ++ .pend :: L := by
      obtain ⟨L, hL⟩ := keep_pre nH hK (by omega) (by omega) (by omega)
      cases L with
      | nil => rw [hL] at q0; simp at q0
      | cons b L => rw [hL] at q0; simp at q0; exact ⟨L, by rw [hL, q0]⟩
    have q3 := hC4.box
    have q4 := hC4.tab
    have hkn : kt' ≠ H.length := by rintro rfl; have := q4.symm.trans q0; simp at this
    obtain ⟨F, hFe⟩ : ∃ F, F = fcAt p last := ⟨_, rfl⟩
    simp only [ansR]
    rw [← hFe] at hF hr40 ⊢
    have hF2 : (p.funcs.map Fc.cells)[last]? = some F.cells := by rw [List.getElem?_map, hF]; rfl
    simp only [Fc.cells, Pg.cells] at hF2 q1
    obtain ⟨es, hes⟩ : ∃ es : List ByteArray → List (List AV), es = fun l => (l.map fun r => lookB r t).map fun b => [Bo b] := ⟨_, rfl⟩
    have hese : ∀ l, es l = (l.map fun r => lookB r t).map fun b => [Bo b] := fun l => by rw [hes]
    obtain ⟨N, hN⟩ : ∃ N : List ByteArray → List Blk, N = fun l => M4.set H.length (ownB 4 1 (es l)) := ⟨_, rfl⟩
    have hNe : ∀ l, N l = M4.set H.length (ownB 4 1 (es l)) := fun l => by rw [hN]
    have hNl : ∀ l, N l = H ++ ownB 4 1 (es l) :: L4 := fun l => by rw [hNe, hL4]; simp
    have r0 : ∀ l, (N l)[H.length]? = some (ownB 4 1 (es l)) := fun l => by rw [hNl]; simp
    have r1 : ∀ l, (N l)[H.length + 1]? = some (.box 25 [Rg.sl p.regions, Fc.sl p.funcs]) := fun l => by rw [hNe, get_set_ne (by omega)]; exact q1
    have r2 : ∀ l, (N l)[H.length + 2]? = some (.box 3 [I last]) := fun l => by rw [hNe, get_set_ne (by omega)]; exact q2
    have r6 : ∀ l, (N l)[M1.length]? = some (pcB kc) := fun l => by rw [hNe, get_set_ne (by omega)]; exact q6
    have r3 : ∀ l, (N l)[kc]? = some (.box 144 [Rg.sl p.regions, Fc.sl p.funcs, .hm ka, .hm kt', .bp kg 0]) := fun l => by rw [hNe, get_set_ne (by omega)]; exact q3
    have r4 : ∀ l, (N l)[kt']? = some (.map (tabM t)) := fun l => by rw [hNe, get_set_ne (Ne.symm hkn)]; exact q4
    have rs : ∀ l l', (N l).set H.length (ownB 4 1 (es l')) = N l' := fun l l' => by rw [hNl, hNl]; simp
    have hN0 : M4 = N [] := by
      rw [hNl, hL4, hese, List.map_nil, List.map_nil, ownB, if_pos rfl]
    rw [hN0]
    clear hN
    simp -dsimp [r1, r2, hF, hF2]
    refine loop_rule (hn := fun d => d == 48) (od := fun _ => none) (fun (i : Nat) f' H' => H' = N (F.rets.take i) ∧ f' 6 = .bp M1.length 0 ∧ f' 8 = ownS H.length (es (F.rets.take i)) ∧ f' 34 = St.sl F.rets ∧ f' 35 = I F.rets.length ∧ f' 36 = I i ∧ i ≤ F.rets.length)
      (fun i => F.rets.length - i) (by kernel_rfl) 0 ⟨by rw [List.take_zero], by simp, by simp [hese], by simp, by simp, by simp, by simp⟩ ?_
    rintro i f' _ ⟨rfl, f6, f8, f34, f35, f36, hi⟩
    simp -dsimp [f6, f8, f34, f35, f36]
    refine condVW_introD (fun hlt => ?_) (fun hlt => ?_)
    · have hlt' : i < F.rets.length := by omega
      have hx := List.getElem?_eq_getElem hlt'
      have ht : F.rets.take (i + 1) = F.rets.take i ++ [F.rets[i]] := List.take_succ_eq_append_getElem hlt'
      obtain ⟨r, hr⟩ : ∃ r, r = F.rets[i] := ⟨_, rfl⟩
      rw [← hr] at hx ht
      have w2 : IntKind.i64.wrap ((i : Int) + 1) = ((i + 1 : Nat) : Int) := wrapS (by omega)
      have hmf := mfind_str BoA r t
      have hlk : (Bo ((alook r t).getD false)) = BoA (lookB r t) := rfl
      have hel : (es (F.rets.take i)).length = i := by rw [hese]; simp; omega
      have hs : es (F.rets.take i) ++ [[Bo (lookB r t)]] = es (F.rets.take (i + 1)) := by rw [ht, hese, hese]; simp
      obtain ⟨a, ha⟩ : ∃ a, a = F.rets.take i := ⟨_, rfl⟩
      obtain ⟨a', ha'⟩ : ∃ a', a' = F.rets.take (i + 1) := ⟨_, rfl⟩
      rw [← ha] at f8 hel hs ⊢
      rw [← ha'] at hs
      simp -dsimp [f6, f8, f34, f35, f36, hx, r6, r3, r4, hmf, optB_getD, hlk]
      refine appendVW_own (es := es a) (by exact r0 _) (by simp; omega) (by simp; omega) ?_
      rw [hs, rs]
      simp -dsimp [f6, f8, f34, f35, f36]
      exact ⟨i + 1, by omega, by rw [ha'], by rw [ha'], w2, by omega⟩
    · have hti : F.rets.take i = F.rets := List.take_of_length_le (by omega)
      rw [hti] at f8 ⊢
      simp -dsimp [f8]
      rw [hNl, hese]
      exact bo_fin hu _ _ _
end Go.Proofs
namespace Go.Proofs.YtihlekehnihnpaaGreat.Lift
open Go.ChangeShapes Go.WideShapes Go.ChangeAt Go.RowKit Go.Mu Go.Proofs
section
variable {H : Type} {enc : TypeId × Value → H} {cx : Cx}
theorem tells_bs (hΦ : ∀ b, b < cx.w.heap.size → cx.Φ b) : ∀ n, Tells enc Tryz.prog cx n 54 (fun l : List Bool => [boS l]) (fun l => l.length + 1) (fun _ => True)
  | 0 => tells_zero
  | n + 1 => (tells_slice (e := 4) (sz := 1) (by kernel_rfl) (by kernel_rfl) (by omega) hΦ (tells_b n)).map id (fun _ => rfl) (fun l => by rw [sizes_one]; exact Nat.le_refl _) (fun _ _ => trivial)
theorem pg_okC {p : Pg} (h : pgSize p ≤ 1048576) : p.OkC := by
  have hr : p.regions.length ≤ pgSize p := by have := sizes_len (size := rgSize) (fun _ => by simp [rgSize]) p.regions; unfold pgSize; omega
  have hf : p.funcs.length ≤ pgSize p := by have := sizes_len (size := fcSize) (fun _ => by simp [fcSize]) p.funcs; unfold pgSize; omega
  have hF : ∀ f ∈ p.funcs, fcSize f ≤ 1048576 := fun f hf => by have := sizes_mem (size := fcSize) hf; unfold pgSize at h; omega
  refine ⟨by omega, by omega, fun f hf => ?_, fun f hf => ?_, fun f hf => ?_, fun f hf => ?_⟩
  · have := hF f hf; have h2 := sizes_len (size := vrSize) (fun _ => by simp [vrSize]) f.params; unfold fcSize at this; omega
  · have := hF f hf; have h2 := sizes_len (size := vrSize) (fun _ => by simp [vrSize]) f.vars; unfold fcSize at this; omega
  · have := hF f hf; have h2 := sizes_len (size := fun s : ByteArray => s.size + 1) (fun _ => by omega) f.rets; unfold fcSize at this; omega
  · have := hF f hf; unfold fcSize at this; omega
end
section
variable {H : Type} {enc : TypeId × Value → H} {W : World} {base : Nat}
theorem arg_ex : ArgOk enc Tryz.prog W base 53 (fun a => .agg (Ex.cells a)) Ex.count (fun _ => True) := arg_struct Tryz.underlying53 (fun n => (tells_exs2 (fun _ h => h) n).1)
theorem arg_i : ArgOk enc Tryz.prog W base 3 (fun i : Int => I i) (fun _ => 1) (fun _ => True) := arg_one (one_int (k := .i64) (by kernel_rfl)) fun n => tells_i 3 (by kernel_rfl) n
theorem arg_bs : ArgOk enc Tryz.prog W base 54 boS (fun l => l.length + 1) (fun _ => True) := arg_one (one_slice (e := 4) (by kernel_rfl)) fun n => tells_bs (fun _ h => h) n
end
end Go.Proofs.YtihlekehnihnpaaGreat.Lift
