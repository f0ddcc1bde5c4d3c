/- The chapter's programs of levels. -/
import Derived.Test.YtihlekehnihnpaaGreatSX2toL7
set_option linter.unusedVariables false
set_option linter.unusedSimpArgs false
set_option maxHeartbeats 4000000
set_option maxRecDepth 100000
namespace Go.Proofs
open Go.Mu
def bS (n : UInt8) : ByteArray := ⟨#[n]⟩
def exN : Ex := .mk 0 0 ByteArray.empty []
def exC (n : Int) : Ex := .mk 1 n ByteArray.empty []
def exW (n : UInt8) : Ex := .mk 2 0 (bS n) []
def ex2 (op : Int) (a b : Ex) : Ex := .mk op 0 ByteArray.empty [a, b]
def smS (n : UInt8) (e : Ex) : Sm := .mk 1 (bS n) [] e exN [] 0 0 [] []
def strMn : ByteArray := ⟨#[109, 97, 105, 110]⟩
def mainS (body : List Sm) : Pg := ⟨[], [⟨bS 102, [⟨bS 112, 1, 0, false⟩], [], [], []⟩, ⟨strMn, [⟨bS 120, 1, 0, true⟩], [⟨bS 121, 1, 0, false⟩, ⟨bS 105, 1, 0, false⟩, ⟨bS 122, 1, 0, false⟩, ⟨bS 115, 3, 4, false⟩], [bS 121], body⟩]⟩
def P1 : Pg := mainS [smS 121 (ex2 6 (exW 120) (exC 1))]
def P2 : Pg := mainS [.mk 3 ByteArray.empty [] (exW 120) exN [] 0 0 [] []]
def P3 : Pg := mainS [.mk 2 (bS 115) [] (exC 1) (exW 120) [] 0 0 [] []]
def P4 : Pg := mainS [.mk 6 (bS 102) [] exN exN [exW 120] 0 0 [] []]
def P5 : Pg := mainS [smS 121 (exW 120), smS 121 (exC 0), .mk 4 ByteArray.empty [] (exW 121) exN [] 0 0 [smS 121 (ex2 7 (exW 121) (exC 1))] []]
def P6 : Pg := mainS [.mk 4 ByteArray.empty [] (ex2 19 (exW 105) (exC 3)) exN [] 0 0 [smS 105 (ex2 6 (exW 105) (exW 122)), smS 122 (exW 120)] []]
theorem m1 : mayE P1 = 0 := by kernel_rfl
theorem m2 : mayE P2 = 0 := by kernel_rfl
theorem m3 : mayE P3 = 0 := by kernel_rfl
theorem m4 : mayE P4 = 0 := by kernel_rfl
theorem m5 : mayE P5 = 0 := by kernel_rfl
theorem m6 : mayE P6 = 0 := by kernel_rfl
theorem a1 : (gM P1 9 1 (fcAt P1 1).body (enterT (fcAt P1 1)) 0).map (ansR P1 1) = some ([true], 0) := by kernel_rfl
theorem a2 : (gM P2 9 1 (fcAt P2 1).body (enterT (fcAt P2 1)) 0).map (ansR P2 1) = some ([], 10) := by kernel_rfl
theorem a3 : (gM P3 9 1 (fcAt P3 1).body (enterT (fcAt P3 1)) 0).map (ansR P3 1) = some ([], 10) := by kernel_rfl
theorem a4 : (gM P4 9 1 (fcAt P4 1).body (enterT (fcAt P4 1)) 0).map (ansR P4 1) = some ([], 10) := by kernel_rfl
theorem a5 : (gM P5 9 1 (fcAt P5 1).body (enterT (fcAt P5 1)) 0).map (ansR P5 1) = some ([false], 0) := by kernel_rfl
theorem a6 : (gM P6 9 1 (fcAt P6 1).body (enterT (fcAt P6 1)) 0).map (ansR P6 1) = some ([], 10) := by kernel_rfl
theorem num_ok (n : Int) (H : List Blk) : ACalls Tryz.prog 64 [U n] H (fun e H' => e = .ret (.agg (exC n).cells) ∧ H' = H) := by
  refine acalls_tidy (acalls_weakE (acalls_of_vc (hn := fun _ => false) (od := fun _ => none) Tryz.func64 rfl (by kernel_rfl) ?_))
  simp -dsimp
  refine tidy_weak (r' := .agg (exC n).cells) (.aggL (.cons (.refl _) (.cons (.refl _) (.cons (.refl _) (.cons (.nil _) .nil))))) ?_
  exact tidy_same rfl ⟨rfl, rfl⟩
theorem wrd_ok (n : UInt8) (H : List Blk) : ACalls Tryz.prog 63 [St (bS n)] H (fun e H' => e = .ret (.agg (exW n).cells) ∧ H' = H) := by
  refine acalls_tidy (acalls_weakE (acalls_of_vc (hn := fun _ => false) (od := fun _ => none) Tryz.func63 rfl (by kernel_rfl) ?_))
  simp -dsimp
  refine tidy_weak (r' := .agg (exW n).cells) (.aggL (.cons (.refl _) (.cons (.refl _) (.cons (.refl _) (.cons (.nil _) .nil))))) ?_
  exact tidy_same rfl ⟨rfl, rfl⟩
theorem two_ok (op : Int) (a b : Ex) (H : List Blk) : ACalls Tryz.prog 62 [I op, .agg a.cells, .agg b.cells] H (fun e H' => e = .ret (.agg (ex2 op a b).cells) ∧ H' = H) := by
  refine acalls_tidy (acalls_weakE (acalls_of_vc (hn := fun _ => false) (od := fun _ => none) Tryz.func62 rfl (by kernel_rfl) ?_))
  simp only [Ex.cells_eq]
  simp -dsimp
  refine tidy_weak (r' := .agg (ex2 op a b).cells) ?_ ?_
  · rw [Ex.cells_eq]
    simp only [ex2, Ex.op, Ex.word, Ex.name, Ex.args, Ex.sl, List.map_cons, List.map_nil, Ex.cells_eq]
    exact .refl _
  · refine tidy_same ?_ ⟨by rw [Ex.cells_eq], rfl⟩
    rw [Ex.cells_eq]; rfl
theorem sset_ok (n : UInt8) (e : Ex) (H : List Blk) : ACalls Tryz.prog 61 [St (bS n), .agg e.cells] H (fun x H' => x = .ret (.agg (smS n e).cells) ∧ H' = H) := by
  refine acalls_tidy (acalls_weakE (acalls_of_vc (hn := fun _ => false) (od := fun _ => none) Tryz.func61 rfl (by kernel_rfl) ?_))
  simp only [Ex.cells_eq]
  simp -dsimp
  refine tidy_weak (r' := .agg (smS n e).cells) ?_ ?_
  · simp only [Sm.cells_eq, smS, Sm.kind, Sm.name, Sm.names, Sm.e, Sm.a, Sm.args, Sm.low, Sm.high, Sm.body, Sm.els, exN, Ex.op, Ex.word, Ex.name, Ex.args]
    refine .aggL ?_
    repeat first | exact WeakL.nil | refine WeakL.cons (by first | exact Weak.nil _ | exact Weak.refl _) ?_
  · refine tidy_same ?_ ⟨by simp only [Sm.cells_eq], rfl⟩
    rw [Sm.cells_eq]; rfl
theorem smain_ok (body : List Sm) (H : List Blk) : ACalls Tryz.prog 60 [Sm.sl body] H (fun e H' => e = .ret (.agg (mainS body).cells) ∧ H' = H) := by
  refine acalls_tidy (acalls_weakE (acalls_of_vc (hn := fun _ => false) (od := fun _ => none) Tryz.func60 rfl (by kernel_rfl) ?_))
  simp -dsimp
  refine tidy_weak (r' := .agg (mainS body).cells) ?_ ?_
  · exact .aggL (.cons (.nil _) (.cons (.vsR (.cons (.cons (.refl _) (.cons (.refl _) (.cons (.nil _) (.cons (.nil _) (.cons (.nil _) .nil))))) (.cons (.cons (.refl _) (.cons (.refl _) (.cons (.refl _) (.cons (.refl _) (.cons (.refl _) .nil))))) .nil))) .nil))
  · refine tidy_same ?_ ⟨rfl, rfl⟩
    rfl
theorem secIn_of {p : Pg} (hm : mayE p = 0) (h1 : p.funcs.length ≤ 2^30) (h2 : p.regions.length ≤ 2^30) (h3 : ∀ f ∈ p.funcs, f.params.length ≤ 2^28 ∧ f.vars.length ≤ 2^28 ∧ smsCount f.body ≤ 2^40) : SecIn p :=
  ⟨h1, h2, fun f hf => (h3 f hf).1, fun f hf => (h3 f hf).2.1, fun f hf => (h3 f hf).2.2, fun k hk => (may_w hm k hk).1⟩
theorem main_ok2 (body : List Sm) (hb : smsCount body ≤ 2^36) : (mainS body).Ok2 := by
  refine ⟨⟨by simp [mainS], by simp [mainS], fun f h => ?_, fun f h => ?_, fun f h => ?_, fun f h => ?_⟩, ⟨by simp [mainS], fun f h => ⟨?_, ?_, ?_⟩⟩, fun f h => ?_⟩
  all_goals
    simp only [mainS, List.mem_cons, List.not_mem_nil, or_false] at h
    rcases h with rfl | rfl
  all_goals first
    | (simp only [smsCount]; omega)
    | (simp only [List.length_cons, List.length_nil]; omega)
    | (intro v hv; simp only [List.nil_append, List.append_nil, List.cons_append, List.mem_cons, List.not_mem_nil, or_false] at hv; rcases hv with rfl | rfl | rfl | rfl | rfl <;> decide)
    | (intro v hv; simp only [List.nil_append, List.append_nil, List.cons_append, List.mem_cons, List.not_mem_nil, or_false] at hv; subst hv; decide)
    | (intro v hv; simp at hv; done)
    | decide
    | exact (by decide : strMn.size ≤ 2^40)
theorem chk6 (body : List Sm) (hb : smsCount body ≤ 2^36) (hm : mayE (mainS body) = 0) (l : List Bool) (e : Int) (ha : (gM (mainS body) 9 1 (fcAt (mainS body) 1).body (enterT (fcAt (mainS body) 1)) 0).map (ansR (mainS body) 1) = some (l, e)) (he : e = 0 → l ≠ []) (H : List Blk) :
    ACalls Tryz.prog 38 [.agg (mainS body).cells] H (fun x H' => x = .ret (.tup [boS l, I e]) ∧ H' = H) := by
  cases hx : gM (mainS body) 9 1 (fcAt (mainS body) 1).body (enterT (fcAt (mainS body) 1)) 0 with
  | none => rw [hx] at ha; cases ha
  | some x =>
    rw [hx, Option.map_some, Option.some.injEq] at ha
    have hs : SecIn (mainS body) := secIn_of hm (by simp [mainS]) (by simp [mainS]) (fun f h => by
      simp only [mainS, List.mem_cons, List.not_mem_nil, or_false] at h
      rcases h with rfl | rfl
      · exact ⟨by decide, by decide, by decide⟩
      · exact ⟨by simp, by simp, by simp only; omega⟩)
    have := check_ok (mainS body) (main_ok2 body hb) hs hm 9 1 rfl x hx (fun c hc => by
      subst hc
      simp only [ansR, Prod.mk.injEq] at ha
      exact fun h0 => he (by rw [← ha.2, h0]) ha.1.symm) (show [bS 121].length ≤ 2^36 by decide) H
    rw [ha] at this
    exact this
theorem sknown_ok (H : List Blk) : ACalls Tryz.prog 21 [] H (fun e H' => e = .ret (Bo true) ∧ H' = H) := by
  refine acalls_tidy (acalls_of_vc (hn := fun _ => false) (od := fun _ => none) Tryz.func21 rfl (by kernel_rfl) ?_)
  have cw := fun n H => wrd_ok n H
  have cn := fun n H => num_ok n H
  have ct := fun op a b H => two_ok op a b H
  have cs := fun n e H => sset_ok n e H
  have d1 := fun H => chk6 [smS 121 (ex2 6 (exW 120) (exC 1))] (by decide) m1 _ _ a1 (by decide) H
  have d2 := fun H => chk6 _ (by decide) m2 _ _ a2 (by decide) H
  have d3 := fun H => chk6 _ (by decide) m3 _ _ a3 (by decide) H
  have d4 := fun H => chk6 _ (by decide) m4 _ _ a4 (by decide) H
  have d5 := fun H => chk6 _ (by decide) m5 _ _ a5 (by decide) H
  have d6 := fun H => chk6 _ (by decide) m6 _ _ a6 (by decide) H
  simp -dsimp
  refine acallsW_det (cw 120 _) ?_
  simp -dsimp [exW, exC, ex2, smS, exN, Ex.cells_eq, Sm.cells_eq, Ex.op, Ex.word, Ex.name, Ex.args, Sm.kind, Sm.name, Sm.names, Sm.e, Sm.a, Sm.args, Sm.low, Sm.high, Sm.body, Sm.els]
  refine acallsW_det (cn 1 _) ?_
  simp -dsimp [exW, exC, ex2, smS, exN, Ex.cells_eq, Sm.cells_eq, Ex.op, Ex.word, Ex.name, Ex.args, Sm.kind, Sm.name, Sm.names, Sm.e, Sm.a, Sm.args, Sm.low, Sm.high, Sm.body, Sm.els]
  refine acallsW_det (ct 6 (exW 120) (exC 1) _) ?_
  simp -dsimp [exW, exC, ex2, smS, exN, Ex.cells_eq, Sm.cells_eq, Ex.op, Ex.word, Ex.name, Ex.args, Sm.kind, Sm.name, Sm.names, Sm.e, Sm.a, Sm.args, Sm.low, Sm.high, Sm.body, Sm.els]
  refine acallsW_det (cs 121 (ex2 6 (exW 120) (exC 1)) _) ?_
  simp -dsimp [exW, exC, ex2, smS, exN, Ex.cells_eq, Sm.cells_eq, Ex.op, Ex.word, Ex.name, Ex.args, Sm.kind, Sm.name, Sm.names, Sm.e, Sm.a, Sm.args, Sm.low, Sm.high, Sm.body, Sm.els]
  refine acallsW_det (smain_ok [smS 121 (ex2 6 (exW 120) (exC 1))] _) ?_
  simp -dsimp [exW, exC, ex2, smS, exN, Ex.cells_eq, Sm.cells_eq, Ex.op, Ex.word, Ex.name, Ex.args, Sm.kind, Sm.name, Sm.names, Sm.e, Sm.a, Sm.args, Sm.low, Sm.high, Sm.body, Sm.els]
  refine acallsW_det (d1 _) ?_
  simp -dsimp [exW, exC, ex2, smS, exN, Ex.cells_eq, Sm.cells_eq, Ex.op, Ex.word, Ex.name, Ex.args, Sm.kind, Sm.name, Sm.names, Sm.e, Sm.a, Sm.args, Sm.low, Sm.high, Sm.body, Sm.els]
  refine acallsW_det (cw 120 _) ?_
  simp -dsimp [exW, exC, ex2, smS, exN, Ex.cells_eq, Sm.cells_eq, Ex.op, Ex.word, Ex.name, Ex.args, Sm.kind, Sm.name, Sm.names, Sm.e, Sm.a, Sm.args, Sm.low, Sm.high, Sm.body, Sm.els]
  refine acallsW_det (acalls_weak (.cons (by repeat first | exact Weak.refl _ | exact Weak.nil _ | exact WeakL.nil | exact WeakR.nil | apply Weak.aggL | apply Weak.vsR | apply WeakL.cons | apply WeakR.cons) .nil) (smain_ok [.mk 3 ByteArray.empty [] (exW 120) exN [] 0 0 [] []] _)) ?_
  simp -dsimp [exW, exC, ex2, smS, exN, Ex.cells_eq, Sm.cells_eq, Ex.op, Ex.word, Ex.name, Ex.args, Sm.kind, Sm.name, Sm.names, Sm.e, Sm.a, Sm.args, Sm.low, Sm.high, Sm.body, Sm.els]
  refine acallsW_det (d2 _) ?_
  simp -dsimp [exW, exC, ex2, smS, exN, Ex.cells_eq, Sm.cells_eq, Ex.op, Ex.word, Ex.name, Ex.args, Sm.kind, Sm.name, Sm.names, Sm.e, Sm.a, Sm.args, Sm.low, Sm.high, Sm.body, Sm.els]
  refine acallsW_det (cw 120 _) ?_
  simp -dsimp [exW, exC, ex2, smS, exN, Ex.cells_eq, Sm.cells_eq, Ex.op, Ex.word, Ex.name, Ex.args, Sm.kind, Sm.name, Sm.names, Sm.e, Sm.a, Sm.args, Sm.low, Sm.high, Sm.body, Sm.els]
  refine acallsW_det (cn 1 _) ?_
  simp -dsimp [exW, exC, ex2, smS, exN, Ex.cells_eq, Sm.cells_eq, Ex.op, Ex.word, Ex.name, Ex.args, Sm.kind, Sm.name, Sm.names, Sm.e, Sm.a, Sm.args, Sm.low, Sm.high, Sm.body, Sm.els]
  refine acallsW_det (acalls_weak (.cons (by repeat first | exact Weak.refl _ | exact Weak.nil _ | exact WeakL.nil | exact WeakR.nil | apply Weak.aggL | apply Weak.vsR | apply WeakL.cons | apply WeakR.cons) .nil) (smain_ok [.mk 2 (bS 115) [] (exC 1) (exW 120) [] 0 0 [] []] _)) ?_
  simp -dsimp [exW, exC, ex2, smS, exN, Ex.cells_eq, Sm.cells_eq, Ex.op, Ex.word, Ex.name, Ex.args, Sm.kind, Sm.name, Sm.names, Sm.e, Sm.a, Sm.args, Sm.low, Sm.high, Sm.body, Sm.els]
  refine acallsW_det (d3 _) ?_
  simp -dsimp [exW, exC, ex2, smS, exN, Ex.cells_eq, Sm.cells_eq, Ex.op, Ex.word, Ex.name, Ex.args, Sm.kind, Sm.name, Sm.names, Sm.e, Sm.a, Sm.args, Sm.low, Sm.high, Sm.body, Sm.els]
  refine acallsW_det (cw 120 _) ?_
  simp -dsimp [exW, exC, ex2, smS, exN, Ex.cells_eq, Sm.cells_eq, Ex.op, Ex.word, Ex.name, Ex.args, Sm.kind, Sm.name, Sm.names, Sm.e, Sm.a, Sm.args, Sm.low, Sm.high, Sm.body, Sm.els]
  refine acallsW_det (acalls_weak (.cons (by repeat first | exact Weak.refl _ | exact Weak.nil _ | exact WeakL.nil | exact WeakR.nil | apply Weak.aggL | apply Weak.vsR | apply WeakL.cons | apply WeakR.cons) .nil) (smain_ok [.mk 6 (bS 102) [] exN exN [exW 120] 0 0 [] []] _)) ?_
  simp -dsimp [exW, exC, ex2, smS, exN, Ex.cells_eq, Sm.cells_eq, Ex.op, Ex.word, Ex.name, Ex.args, Sm.kind, Sm.name, Sm.names, Sm.e, Sm.a, Sm.args, Sm.low, Sm.high, Sm.body, Sm.els]
  refine acallsW_det (d4 _) ?_
  simp -dsimp [exW, exC, ex2, smS, exN, Ex.cells_eq, Sm.cells_eq, Ex.op, Ex.word, Ex.name, Ex.args, Sm.kind, Sm.name, Sm.names, Sm.e, Sm.a, Sm.args, Sm.low, Sm.high, Sm.body, Sm.els]
  refine acallsW_det (cw 120 _) ?_
  simp -dsimp [exW, exC, ex2, smS, exN, Ex.cells_eq, Sm.cells_eq, Ex.op, Ex.word, Ex.name, Ex.args, Sm.kind, Sm.name, Sm.names, Sm.e, Sm.a, Sm.args, Sm.low, Sm.high, Sm.body, Sm.els]
  refine acallsW_det (cs 121 (exW 120) _) ?_
  simp -dsimp [exW, exC, ex2, smS, exN, Ex.cells_eq, Sm.cells_eq, Ex.op, Ex.word, Ex.name, Ex.args, Sm.kind, Sm.name, Sm.names, Sm.e, Sm.a, Sm.args, Sm.low, Sm.high, Sm.body, Sm.els]
  refine acallsW_det (cn 0 _) ?_
  simp -dsimp [exW, exC, ex2, smS, exN, Ex.cells_eq, Sm.cells_eq, Ex.op, Ex.word, Ex.name, Ex.args, Sm.kind, Sm.name, Sm.names, Sm.e, Sm.a, Sm.args, Sm.low, Sm.high, Sm.body, Sm.els]
  refine acallsW_det (cs 121 (exC 0) _) ?_
  simp -dsimp [exW, exC, ex2, smS, exN, Ex.cells_eq, Sm.cells_eq, Ex.op, Ex.word, Ex.name, Ex.args, Sm.kind, Sm.name, Sm.names, Sm.e, Sm.a, Sm.args, Sm.low, Sm.high, Sm.body, Sm.els]
  refine acallsW_det (cw 121 _) ?_
  simp -dsimp [exW, exC, ex2, smS, exN, Ex.cells_eq, Sm.cells_eq, Ex.op, Ex.word, Ex.name, Ex.args, Sm.kind, Sm.name, Sm.names, Sm.e, Sm.a, Sm.args, Sm.low, Sm.high, Sm.body, Sm.els]
  refine acallsW_det (cw 121 _) ?_
  simp -dsimp [exW, exC, ex2, smS, exN, Ex.cells_eq, Sm.cells_eq, Ex.op, Ex.word, Ex.name, Ex.args, Sm.kind, Sm.name, Sm.names, Sm.e, Sm.a, Sm.args, Sm.low, Sm.high, Sm.body, Sm.els]
  refine acallsW_det (cn 1 _) ?_
  simp -dsimp [exW, exC, ex2, smS, exN, Ex.cells_eq, Sm.cells_eq, Ex.op, Ex.word, Ex.name, Ex.args, Sm.kind, Sm.name, Sm.names, Sm.e, Sm.a, Sm.args, Sm.low, Sm.high, Sm.body, Sm.els]
  refine acallsW_det (ct 7 (exW 121) (exC 1) _) ?_
  simp -dsimp [exW, exC, ex2, smS, exN, Ex.cells_eq, Sm.cells_eq, Ex.op, Ex.word, Ex.name, Ex.args, Sm.kind, Sm.name, Sm.names, Sm.e, Sm.a, Sm.args, Sm.low, Sm.high, Sm.body, Sm.els]
  refine acallsW_det (cs 121 (ex2 7 (exW 121) (exC 1)) _) ?_
  simp -dsimp [exW, exC, ex2, smS, exN, Ex.cells_eq, Sm.cells_eq, Ex.op, Ex.word, Ex.name, Ex.args, Sm.kind, Sm.name, Sm.names, Sm.e, Sm.a, Sm.args, Sm.low, Sm.high, Sm.body, Sm.els]
  refine acallsW_det (acalls_weak (.cons (by repeat first | exact Weak.refl _ | exact Weak.nil _ | exact WeakL.nil | exact WeakR.nil | apply Weak.aggL | apply Weak.vsR | apply WeakL.cons | apply WeakR.cons) .nil) (smain_ok [smS 121 (exW 120), smS 121 (exC 0), .mk 4 ByteArray.empty [] (exW 121) exN [] 0 0 [smS 121 (ex2 7 (exW 121) (exC 1))] []] _)) ?_
  simp -dsimp [exW, exC, ex2, smS, exN, Ex.cells_eq, Sm.cells_eq, Ex.op, Ex.word, Ex.name, Ex.args, Sm.kind, Sm.name, Sm.names, Sm.e, Sm.a, Sm.args, Sm.low, Sm.high, Sm.body, Sm.els]
  refine acallsW_det (d5 _) ?_
  simp -dsimp [exW, exC, ex2, smS, exN, Ex.cells_eq, Sm.cells_eq, Ex.op, Ex.word, Ex.name, Ex.args, Sm.kind, Sm.name, Sm.names, Sm.e, Sm.a, Sm.args, Sm.low, Sm.high, Sm.body, Sm.els]
  refine acallsW_det (cw 105 _) ?_
  simp -dsimp [exW, exC, ex2, smS, exN, Ex.cells_eq, Sm.cells_eq, Ex.op, Ex.word, Ex.name, Ex.args, Sm.kind, Sm.name, Sm.names, Sm.e, Sm.a, Sm.args, Sm.low, Sm.high, Sm.body, Sm.els]
  refine acallsW_det (cn 3 _) ?_
  simp -dsimp [exW, exC, ex2, smS, exN, Ex.cells_eq, Sm.cells_eq, Ex.op, Ex.word, Ex.name, Ex.args, Sm.kind, Sm.name, Sm.names, Sm.e, Sm.a, Sm.args, Sm.low, Sm.high, Sm.body, Sm.els]
  refine acallsW_det (ct 19 (exW 105) (exC 3) _) ?_
  simp -dsimp [exW, exC, ex2, smS, exN, Ex.cells_eq, Sm.cells_eq, Ex.op, Ex.word, Ex.name, Ex.args, Sm.kind, Sm.name, Sm.names, Sm.e, Sm.a, Sm.args, Sm.low, Sm.high, Sm.body, Sm.els]
  refine acallsW_det (cw 105 _) ?_
  simp -dsimp [exW, exC, ex2, smS, exN, Ex.cells_eq, Sm.cells_eq, Ex.op, Ex.word, Ex.name, Ex.args, Sm.kind, Sm.name, Sm.names, Sm.e, Sm.a, Sm.args, Sm.low, Sm.high, Sm.body, Sm.els]
  refine acallsW_det (cw 122 _) ?_
  simp -dsimp [exW, exC, ex2, smS, exN, Ex.cells_eq, Sm.cells_eq, Ex.op, Ex.word, Ex.name, Ex.args, Sm.kind, Sm.name, Sm.names, Sm.e, Sm.a, Sm.args, Sm.low, Sm.high, Sm.body, Sm.els]
  refine acallsW_det (ct 6 (exW 105) (exW 122) _) ?_
  simp -dsimp [exW, exC, ex2, smS, exN, Ex.cells_eq, Sm.cells_eq, Ex.op, Ex.word, Ex.name, Ex.args, Sm.kind, Sm.name, Sm.names, Sm.e, Sm.a, Sm.args, Sm.low, Sm.high, Sm.body, Sm.els]
  refine acallsW_det (cs 105 (ex2 6 (exW 105) (exW 122)) _) ?_
  simp -dsimp [exW, exC, ex2, smS, exN, Ex.cells_eq, Sm.cells_eq, Ex.op, Ex.word, Ex.name, Ex.args, Sm.kind, Sm.name, Sm.names, Sm.e, Sm.a, Sm.args, Sm.low, Sm.high, Sm.body, Sm.els]
  refine acallsW_det (cw 120 _) ?_
  simp -dsimp [exW, exC, ex2, smS, exN, Ex.cells_eq, Sm.cells_eq, Ex.op, Ex.word, Ex.name, Ex.args, Sm.kind, Sm.name, Sm.names, Sm.e, Sm.a, Sm.args, Sm.low, Sm.high, Sm.body, Sm.els]
  refine acallsW_det (cs 122 (exW 120) _) ?_
  simp -dsimp [exW, exC, ex2, smS, exN, Ex.cells_eq, Sm.cells_eq, Ex.op, Ex.word, Ex.name, Ex.args, Sm.kind, Sm.name, Sm.names, Sm.e, Sm.a, Sm.args, Sm.low, Sm.high, Sm.body, Sm.els]
  refine acallsW_det (acalls_weak (.cons (by repeat first | exact Weak.refl _ | exact Weak.nil _ | exact WeakL.nil | exact WeakR.nil | apply Weak.aggL | apply Weak.vsR | apply WeakL.cons | apply WeakR.cons) .nil) (smain_ok [.mk 4 ByteArray.empty [] (ex2 19 (exW 105) (exC 3)) exN [] 0 0 [smS 105 (ex2 6 (exW 105) (exW 122)), smS 122 (exW 120)] []] _)) ?_
  simp -dsimp [exW, exC, ex2, smS, exN, Ex.cells_eq, Sm.cells_eq, Ex.op, Ex.word, Ex.name, Ex.args, Sm.kind, Sm.name, Sm.names, Sm.e, Sm.a, Sm.args, Sm.low, Sm.high, Sm.body, Sm.els]
  refine acallsW_det (d6 _) ?_
  simp -dsimp [exW, exC, ex2, smS, exN, Ex.cells_eq, Sm.cells_eq, Ex.op, Ex.word, Ex.name, Ex.args, Sm.kind, Sm.name, Sm.names, Sm.e, Sm.a, Sm.args, Sm.low, Sm.high, Sm.body, Sm.els]
  exact tidy_now rfl ⟨rfl, rfl⟩
end Go.Proofs
namespace Go.Proofs
open Go.Mu
abbrev allV (F : Fc) : List Vr := F.params ++ F.vars
def atOf (F : Fc) (t : Tab) : List Bool := (allV F).map fun v => lookB v.name t
def idxV : List Vr → ByteArray → Nat
  | [], _ => 0
  | v :: l, n => if v.name = n then 0 else idxV l n + 1
def idxR : List Rg → ByteArray → Nat
  | [], _ => 0
  | v :: l, n => if v.name = n then 0 else idxR l n + 1
structure NmF (p : Pg) (F : Fc) : Prop where
  nd : ((allV F).map Vr.name).Nodup
  apart : ∀ v ∈ allV F, ∀ r ∈ p.regions, v.name ≠ r.name
  rnd : (p.regions.map Rg.name).Nodup
  words : ∀ v ∈ F.params, v.kind = 1
  rets : ∀ n ∈ F.rets, n ∈ Keys (enterT F)
theorem find_at : ∀ {l : List Vr} {i : Nat} {v : Vr}, (l.map Vr.name).Nodup → l[i]? = some v → idxV l v.name = i ∧ findV l v.name = if v.kind = 1 then 1 else 2
  | [], i, v, _, h => by simp at h
  | w :: l, 0, v, _, h => by simp at h; subst h; simp [idxV, findV]
  | w :: l, i + 1, v, hn, h => by
    rw [List.map_cons, List.nodup_cons] at hn
    have h' : l[i]? = some v := by simpa using h
    have hm : v.name ∈ l.map Vr.name := List.mem_map.2 ⟨v, List.mem_of_getElem? h', rfl⟩
    have hne : ¬ w.name = v.name := fun e => hn.1 (e ▸ hm)
    have ih := find_at hn.2 h'
    rw [idxV, findV, if_neg hne, if_neg hne, ih.1]
    exact ⟨rfl, ih.2⟩
theorem find_no : ∀ {l : List Vr} {n : ByteArray}, (∀ v ∈ l, v.name ≠ n) → findV l n = 0
  | [], n, _ => rfl
  | w :: l, n, h => by rw [findV, if_neg (h w (by simp))]; exact find_no fun v hv => h v (by simp [hv])
theorem findR_at : ∀ {l : List Rg} {i : Nat} {v : Rg}, (l.map Rg.name).Nodup → l[i]? = some v → idxR l v.name = i ∧ findR l v.name = 3
  | [], i, v, _, h => by simp at h
  | w :: l, 0, v, _, h => by simp at h; subst h; simp [idxR, findR]
  | w :: l, i + 1, v, hn, h => by
    rw [List.map_cons, List.nodup_cons] at hn
    have h' : l[i]? = some v := by simpa using h
    have hm : v.name ∈ l.map Rg.name := List.mem_map.2 ⟨v, List.mem_of_getElem? h', rfl⟩
    have hne : ¬ w.name = v.name := fun e => hn.1 (e ▸ hm)
    have ih := findR_at hn.2 h'
    rw [idxR, findR, if_neg hne, if_neg hne, ih.1]
    exact ⟨rfl, ih.2⟩
theorem alook_sets_no (n : ByteArray) : ∀ (l : List (ByteArray × Bool)) (t : Tab), n ∉ l.map Prod.fst → alook n (setsT l t) = alook n t
  | [], t, _ => rfl
  | x :: l, t, h => by
    rw [List.map_cons, List.mem_cons, not_or] at h
    rw [setsT_cons, alook_sets_no n l _ h.2, alook_set, if_neg h.1]
theorem alook_sets (n : ByteArray) (b : Bool) : ∀ (l : List (ByteArray × Bool)) (t : Tab), (l.map Prod.fst).Nodup → (n, b) ∈ l → alook n (setsT l t) = some b
  | [], t, _, h => by cases h
  | x :: l, t, hn, h => by
    rw [List.map_cons, List.nodup_cons] at hn
    rw [setsT_cons]
    rcases List.mem_cons.1 h with rfl | h
    · rw [alook_sets_no _ _ _ hn.1, alook_set, if_pos rfl]
    · exact alook_sets n b l _ hn.2 h
theorem mem_at {α : Type} {l : List α} {a : α} (h : a ∈ l) : ∃ i : Nat, l[i]? = some a := by
  obtain ⟨i, hi, rfl⟩ := List.mem_iff_getElem.1 h
  exact ⟨i, List.getElem?_eq_getElem hi⟩
theorem enter_mem {F : Fc} (hw : ∀ v ∈ F.params, v.kind = 1) {n : ByteArray} : n ∈ Keys (enterT F) ↔ ∃ v ∈ allV F, v.name = n ∧ v.kind = 1 := by
  unfold enterT
  rw [sets_mem, List.map_append, List.mem_append]
  simp only [List.map_map, List.mem_map, List.mem_filter, Function.comp_apply, beq_iff_eq, Keys, List.map_nil, List.not_mem_nil, or_false, allV, List.mem_append]
  constructor
  · rintro (⟨v, h1, h2⟩ | ⟨v, ⟨h1, h3⟩, h2⟩)
    · exact ⟨v, .inl h1, h2, hw v h1⟩
    · exact ⟨v, .inr h1, h2, h3⟩
  · rintro ⟨v, h1 | h1, h2, h3⟩
    · exact .inl ⟨v, h1, h2⟩
    · exact .inr ⟨v, ⟨h1, h3⟩, h2⟩
theorem arr_mem {rs : List Rg} {F : Fc} {n : ByteArray} : n ∈ Keys (arrT rs F) ↔ (∃ r ∈ rs, r.name = n) ∨ ∃ v ∈ F.vars, v.name = n ∧ v.kind ≠ 1 := by
  unfold arrT
  rw [sets_mem, List.map_append, List.mem_append]
  simp only [List.map_map, List.mem_map, List.mem_filter, Function.comp_apply, Keys, List.map_nil, List.not_mem_nil, or_false, Bool.not_eq_true', beq_eq_false_iff_ne]
  constructor
  · rintro (⟨v, h1, h2⟩ | ⟨v, ⟨h1, h3⟩, h2⟩)
    · exact .inl ⟨v, h1, h2⟩
    · exact .inr ⟨v, h1, h2, h3⟩
  · rintro (⟨v, h1, h2⟩ | ⟨v, h1, h2, h3⟩)
    · exact .inl ⟨v, h1, h2⟩
    · exact .inr ⟨v, ⟨h1, h3⟩, h2⟩
variable {p : Pg} {F : Fc}
theorem find_word (h : NmF p F) {n : ByteArray} (hn : n ∈ Keys (enterT F)) : ∃ v, (allV F)[idxV (allV F) n]? = some v ∧ v.name = n ∧ findV (allV F) n = 1 := by
  obtain ⟨v, h1, rfl, h3⟩ := (enter_mem h.words).1 hn
  obtain ⟨i, hi⟩ := mem_at h1
  obtain ⟨h4, h5⟩ := find_at h.nd hi
  rw [h4, h5, if_pos h3]
  exact ⟨v, hi, rfl, rfl⟩
def ArrAt (p : Pg) (F : Fc) (n : ByteArray) (b : Bool) : Prop :=
  (∃ j v, F.vars[j]? = some v ∧ findV (allV F) n = 2 ∧ idxV (allV F) n = F.params.length + j ∧ v.secret = b) ∨
  (∃ r, p.regions[idxR p.regions n]? = some r ∧ findV (allV F) n = 0 ∧ findR p.regions n = 3 ∧ r.secret = b)
theorem find_arr (h : NmF p F) {n : ByteArray} (hn : n ∈ Keys (arrT p.regions F)) : ArrAt p F n (lookB n (arrT p.regions F)) := by
  have hnd : (((p.regions.map fun r => (r.name, r.secret)) ++ ((F.vars.filter fun v => !(v.kind == 1)).map fun v => (v.name, v.secret))).map Prod.fst).Nodup := by
    rw [List.map_append, List.map_map, List.map_map, List.nodup_append]
    refine ⟨h.rnd, ?_, ?_⟩
    · have h1 := h.nd
      rw [List.map_append, List.nodup_append] at h1
      exact h1.2.1.sublist ((List.filter_sublist).map _)
    · intro a ha b hb e
      obtain ⟨r, hr, rfl⟩ := List.mem_map.1 ha
      obtain ⟨v, hv, rfl⟩ := List.mem_map.1 hb
      exact h.apart v (List.mem_append_right _ (List.mem_filter.1 hv).1) r hr e.symm
  rcases arr_mem.1 hn with ⟨r, h1, rfl⟩ | ⟨v, h1, rfl, h3⟩
  · right
    obtain ⟨i, hi⟩ := mem_at h1
    obtain ⟨h4, h5⟩ := findR_at h.rnd hi
    refine ⟨r, by rw [h4]; exact hi, find_no fun v hv => h.apart v hv r h1, h5, ?_⟩
    unfold lookB arrT
    rw [alook_sets r.name r.secret _ _ hnd (List.mem_append_left _ (List.mem_map.2 ⟨r, h1, rfl⟩))]
    rfl
  · left
    obtain ⟨j, hj⟩ := mem_at h1
    have hi : (allV F)[F.params.length + j]? = some v := by
      rw [List.getElem?_append_right (by omega)]; simpa using hj
    obtain ⟨h4, h5⟩ := find_at h.nd hi
    refine ⟨j, v, hj, by rw [h5, if_neg h3], h4, ?_⟩
    unfold lookB arrT
    rw [alook_sets v.name v.secret _ _ hnd (List.mem_append_right _ (List.mem_map.2 ⟨v, List.mem_filter.2 ⟨h1, by simpa using h3⟩, rfl⟩))]
    rfl
theorem at_len (F : Fc) (t : Tab) : (atOf F t).length = (allV F).length := by simp [atOf]
theorem at_get {t : Tab} {i : Nat} {v : Vr} (h : (allV F)[i]? = some v) : (atOf F t)[i]? = some (lookB v.name t) := by
  unfold atOf; rw [List.getElem?_map, h]; rfl
theorem look_set (n m : ByteArray) (b : Bool) (t : Tab) : lookB n (aset m b t) = if n = m then b else lookB n t := by
  unfold lookB; rw [alook_set]; split <;> rfl
theorem at_set (hn : ((allV F).map Vr.name).Nodup) {i : Nat} {v : Vr} (h : (allV F)[i]? = some v) (b : Bool) (t : Tab) : atOf F (aset v.name b t) = (atOf F t).set i b := by
  apply List.ext_getElem?
  intro j
  rw [List.getElem?_set]
  unfold atOf
  rw [List.getElem?_map, List.getElem?_map]
  by_cases e : i = j
  · subst e
    rw [if_pos rfl, if_pos (by rw [List.length_map]; exact (List.getElem?_eq_some_iff.1 h).1), h]
    simp [look_set]
  · rw [if_neg e]
    cases hj : (allV F)[j]? with
    | none => rfl
    | some w =>
      have : ¬ w.name = v.name := fun q => e (by
        have h1 := (find_at hn h).1
        have h2 := (find_at hn hj).1
        rw [q] at h2
        exact h1.symm.trans h2)
      simp only [Option.map_some, look_set, if_neg this]
theorem at_enter (h : NmF p F) : atOf F (enterT F) = F.params.map (·.secret) ++ F.vars.map fun _ => false := by
  have hnd := h.nd
  rw [List.map_append, List.nodup_append] at hnd
  obtain ⟨n1, n2, n3⟩ := hnd
  have hl : (((F.params.map fun v => (v.name, v.secret)) ++ ((F.vars.filter fun v => v.kind == 1).map fun v => (v.name, false))).map Prod.fst).Nodup := by
    rw [List.map_append, List.map_map, List.map_map, List.nodup_append]
    refine ⟨n1, n2.sublist ((List.filter_sublist).map _), ?_⟩
    intro a ha b hb
    exact n3 a ha b (by obtain ⟨v, hv, rfl⟩ := List.mem_map.1 hb; exact List.mem_map.2 ⟨v, (List.mem_filter.1 hv).1, rfl⟩)
  unfold atOf
  rw [List.map_append]
  congr 1
  · refine List.map_congr_left fun v hv => ?_
    unfold lookB enterT
    rw [alook_sets v.name v.secret _ _ hl (List.mem_append_left _ (List.mem_map.2 ⟨v, hv, rfl⟩))]
    rfl
  · refine List.map_congr_left fun v hv => ?_
    unfold lookB enterT
    by_cases k : v.kind = 1
    · rw [alook_sets v.name false _ _ hl (List.mem_append_right _ (List.mem_map.2 ⟨v, List.mem_filter.2 ⟨hv, by simpa using k⟩, rfl⟩))]
      rfl
    · rw [alook_sets_no]
      · rfl
      · rw [List.map_append, List.map_map, List.map_map, List.mem_append]
        rintro (hm | hm)
        · exact n3 v.name hm v.name (List.mem_map.2 ⟨v, hv, rfl⟩) rfl
        · obtain ⟨w, hw, e⟩ := List.mem_map.1 hm
          have hw := List.mem_filter.1 hw
          obtain ⟨i, hi⟩ := mem_at hv
          obtain ⟨j, hj⟩ := mem_at hw.1
          have h1 := (find_at n2 hi).1
          have h2 := (find_at n2 hj).1
          have e : w.name = v.name := e
          rw [e, h1] at h2
          subst h2
          rw [hi] at hj
          cases hj
          exact k (by simpa using hw.2)
mutual
def Ex.exM (t ar : Tab) : Ex → Bool × Bool
  | .mk op _ name args => if op = 2 then (lookB name t, (exsM t ar args).2) else if op = 3 then (lookB name ar, (exsM t ar args).2 || (exsM t ar args).1) else exsM t ar args
def exsM (t ar : Tab) : List Ex → Bool × Bool
  | [] => (false, false)
  | e :: l => ((e.exM t ar).1 || (exsM t ar l).1, (e.exM t ar).2 || (exsM t ar l).2)
end
theorem Ex.exM_eq (t ar : Tab) (e : Ex) : e.exM t ar = if e.op = 2 then (lookB e.name t, (exsM t ar e.args).2) else if e.op = 3 then (lookB e.name ar, (exsM t ar e.args).2 || (exsM t ar e.args).1) else exsM t ar e.args := by
  cases e; rw [Ex.exM]; rfl
theorem exsM_snoc (t ar : Tab) (e : Ex) : ∀ l, exsM t ar (l ++ [e]) = ((exsM t ar l).1 || (e.exM t ar).1, (exsM t ar l).2 || (e.exM t ar).2)
  | [] => by simp [exsM]
  | x :: l => by rw [List.cons_append, exsM, exsM_snoc t ar e l, exsM]; simp [Bool.or_assoc]
theorem exM_levs (t ar : Tab) (m : Nat) : ∀ l : List Ex, exsCount l ≤ m → exsLev t ar l = if (exsM t ar l).2 = true then none else some (exsM t ar l).1 := by
  induction m with
  | zero => intro l hl; have := exs_len l; obtain rfl : l = [] := List.eq_nil_of_length_eq_zero (by omega); rfl
  | succ m ih =>
    intro l
    induction l with
    | nil => intro _; rfl
    | cons e l ihl =>
      intro hl
      simp only [exsCount] at hl
      have he := Ex.count_eq e
      have h1 := ih e.args (by omega)
      have h2 := ihl (by omega)
      have h3 : e.lev t ar = if (e.exM t ar).2 = true then none else some (e.exM t ar).1 := by
        rw [Ex.lev_eq, Ex.exM_eq, h1]
        generalize exsM t ar e.args = q
        obtain ⟨s, b⟩ := q
        by_cases k2 : e.op = 2
        · simp only [k2, if_true]; cases b <;> rfl
        · by_cases k3 : e.op = 3
          · have h32 : ¬ (3 : Int) = 2 := by decide
            simp only [k3, if_neg h32, if_true]; cases b <;> cases s <;> rfl
          · simp only [if_neg k2, if_neg k3]; cases b <;> rfl
      rw [exsLev, exsM, h3, h2]
      generalize Ex.exM t ar e = q
      generalize exsM t ar l = r
      obtain ⟨s, b⟩ := q
      obtain ⟨s', b'⟩ := r
      cases b <;> cases b' <;> rfl
theorem exM_lev (t ar : Tab) (e : Ex) : e.lev t ar = if (e.exM t ar).2 = true then none else some (e.exM t ar).1 := by
  have := exM_levs t ar _ [e] (Nat.le_refl _)
  simp only [exsLev, exsM, Bool.or_false] at this
  rw [← this]
  cases e.lev t ar <;> simp
def failE (bad : Bool) (e : Int) : Int := if bad = true ∧ e = 0 then 10 else e
theorem failE_no (e : Int) : failE false e = e := by simp [failE]
theorem failE_or (a b : Bool) (e : Int) : failE (a || b) e = failE b (failE a e) := by
  unfold failE
  cases a <;> cases b <;> simp
  split <;> simp_all
mutual
def Ex.nm (K A : List ByteArray) : Ex → Bool
  | .mk op _ name args => (!(op == 2) || inK name K) && (!(op == 3) || inK name A) && exsNm K A args
def exsNm (K A : List ByteArray) : List Ex → Bool
  | [] => true
  | e :: l => e.nm K A && exsNm K A l
end
theorem Ex.nm_eq (K A : List ByteArray) (e : Ex) : e.nm K A = ((!(e.op == 2) || inK e.name K) && (!(e.op == 3) || inK e.name A) && exsNm K A e.args) := by cases e; rw [Ex.nm]; rfl
structure ExN (K A : List ByteArray) (e : Ex) : Prop where
  word : e.op = 2 → e.name ∈ K
  arr : e.op = 3 → e.name ∈ A
  args : exsNm K A e.args = true
theorem nm_iff {K A : List ByteArray} {e : Ex} : e.nm K A = true ↔ ExN K A e := by
  rw [Ex.nm_eq]
  simp only [Bool.and_eq_true, Bool.or_eq_true, Bool.not_eq_true', beq_eq_false_iff_ne, inK_iff]
  constructor
  · rintro ⟨⟨h1, h2⟩, h3⟩
    exact ⟨fun h => h1.resolve_left (fun q => q h), fun h => h2.resolve_left (fun q => q h), h3⟩
  · rintro ⟨h1, h2, h3⟩
    refine ⟨⟨?_, ?_⟩, h3⟩
    · by_cases h : e.op = 2; exact .inr (h1 h); exact .inl h
    · by_cases h : e.op = 3; exact .inr (h2 h); exact .inl h
theorem exsNm_get {K A : List ByteArray} : ∀ {l : List Ex}, exsNm K A l = true → ∀ {i : Nat} (h : i < l.length), l[i].nm K A = true
  | e :: l, h, 0, _ => by rw [exsNm, Bool.and_eq_true] at h; exact h.1
  | e :: l, h, i + 1, hi => by rw [exsNm, Bool.and_eq_true] at h; exact exsNm_get h.2 (by simpa using hi)
mutual
def Sm.nm (K A : List ByteArray) : Sm → Bool
  | .mk kind name names e a args low high body els => (!(kind == 2) || inK name A) && e.nm K A && a.nm K A && exsNm K A args && smsNm K A body && smsNm K A els
def smsNm (K A : List ByteArray) : List Sm → Bool
  | [] => true
  | s :: l => s.nm K A && smsNm K A l
end
structure SmN (K A : List ByteArray) (s : Sm) : Prop where
  arr : s.kind = 2 → s.name ∈ A
  e : s.e.nm K A = true
  a : s.a.nm K A = true
  args : exsNm K A s.args = true
  body : smsNm K A s.body = true
  els : smsNm K A s.els = true
theorem smN_iff {K A : List ByteArray} {s : Sm} : s.nm K A = true ↔ SmN K A s := by
  obtain ⟨kind, name, names, e, a, args, low, high, body, els⟩ := s
  rw [Sm.nm]
  simp only [Bool.and_eq_true, Bool.or_eq_true, Bool.not_eq_true', beq_eq_false_iff_ne, inK_iff]
  constructor
  · rintro ⟨⟨⟨⟨⟨h1, h2⟩, h3⟩, h4⟩, h5⟩, h6⟩
    exact ⟨fun h => h1.resolve_left (fun q => q h), h2, h3, h4, h5, h6⟩
  · rintro ⟨h1, h2, h3, h4, h5, h6⟩
    refine ⟨⟨⟨⟨⟨?_, h2⟩, h3⟩, h4⟩, h5⟩, h6⟩
    simp only [Sm.kind, Sm.name] at h1
    by_cases h : kind = 2; exact .inr (h1 h); exact .inl h
theorem arr_keys {rs : List Rg} (hw : ∀ v ∈ F.params, v.kind = 1) {n : ByteArray} (h : arrayE (varsT (F.params ++ F.vars)) (onesT (rs.map Rg.name) []) n = 0) : n ∈ Keys (arrT rs F) := by
  unfold arrayE at h
  obtain ⟨h1, h2⟩ := thenE_0 h
  have h1 := mustE_0 (by decide) h1
  have h2 := mustE_0 (by decide) h2
  rw [arr_mem]
  unfold isV at h1
  unfold isV kindV at h2
  cases hv : alook n (varsT (F.params ++ F.vars)) with
  | none =>
    rw [hv] at h1
    simp only [Option.isSome_none, Bool.false_or] at h1
    obtain ⟨_, o2⟩ := onesL_E (rs.map Rg.name) [] [] (fun s => rfl)
    rw [o2] at h1
    unfold inB at h1
    rw [List.nil_append, List.any_eq_true] at h1
    obtain ⟨x, hx, e⟩ := h1
    rw [decide_eq_true_eq] at e
    subst e
    obtain ⟨r, hr, e⟩ := List.mem_map.1 hx
    exact .inl ⟨r, hr, e⟩
  | some v =>
    rw [hv] at h2
    simp only [Option.isSome_some, Bool.not_true, Bool.false_or, Option.getD_some, bne_iff_ne] at h2
    unfold varsT at hv
    rcases varsT_mem n v _ _ hv with ⟨h3, h4⟩ | h3
    · rcases List.mem_append.1 h3 with h3 | h3
      · exact absurd (hw v h3) h2
      · exact .inr ⟨v, h3, h4, h2⟩
    · cases h3
theorem chk_exs {rs : List Rg} (hw : ∀ v ∈ F.params, v.kind = 1) (m : Nat) : ∀ l : List Ex, exsCount l ≤ m → ∀ deep : Nat, exsChk (varsT (F.params ++ F.vars)) (onesT (rs.map Rg.name) []) deep l = 0 → exsNm (Keys (enterT F)) (Keys (arrT rs F)) l = true := by
  induction m with
  | zero => intro l hl _ _; have := exs_len l; obtain rfl : l = [] := List.eq_nil_of_length_eq_zero (by omega); rfl
  | succ m ih =>
    intro l
    induction l with
    | nil => intro _ _ _; rfl
    | cons e l ihl =>
      intro hl deep h
      simp only [exsCount] at hl
      have he := Ex.count_eq e
      rw [exsChk] at h
      obtain ⟨h1, h2⟩ := thenE_0 h
      rw [exsNm, ihl (by omega) deep h2, Bool.and_true, nm_iff]
      rw [Ex.chk_eq] at h1
      obtain ⟨_, h1⟩ := thenE_0 h1
      obtain ⟨_, h1⟩ := thenE_0 h1
      obtain ⟨_, h1⟩ := thenE_0 h1
      obtain ⟨h1, h3⟩ := thenE_0 h1
      refine ⟨fun k => ?_, fun k => ?_, ih _ (by omega) _ h3⟩
      · rw [if_pos k] at h1; exact word_keys h1
      · rw [if_neg (by omega), if_pos k] at h1; exact arr_keys hw h1
theorem chk_ex {rs : List Rg} (hw : ∀ v ∈ F.params, v.kind = 1) (e : Ex) (deep : Nat) (h : e.chk (varsT (F.params ++ F.vars)) (onesT (rs.map Rg.name) []) deep = 0) : e.nm (Keys (enterT F)) (Keys (arrT rs F)) = true := by
  have := chk_exs hw _ [e] (Nat.le_refl _) deep (by rw [exsChk, h]; rfl)
  rw [exsNm, Bool.and_eq_true] at this
  exact this.1
theorem blank_nm {K A : List ByteArray} {e : Ex} (h : blankB e = true) : e.nm K A = true := by
  unfold blankB at h
  simp only [Bool.and_eq_true, beq_iff_eq] at h
  have h4 : e.args = [] := List.eq_nil_of_length_eq_zero (by omega)
  rw [nm_iff]
  exact ⟨fun k => by omega, fun k => by omega, by rw [h4]; rfl⟩
end Go.Proofs
namespace Go.Proofs
open Go.Mu
variable {F : Fc}
theorem chk_nm {p : Pg} (hw : ∀ v ∈ F.params, v.kind = 1) (m : Nat) : ∀ l : List Sm, smsCount l ≤ m → ∀ (f : Int) all (deep : Nat) around, smsChk p f F (varsT (F.params ++ F.vars)) (onesT (p.regions.map Rg.name) []) all deep around l = 0 → smsNm (Keys (enterT F)) (Keys (arrT p.regions F)) l = true := by
  induction m with
  | zero => intro l hl f all deep around _; have := sms_len l; obtain rfl : l = [] := List.eq_nil_of_length_eq_zero (by omega); rfl
  | succ m ih =>
    intro l
    induction l with
    | nil => intro _ f all deep around _; rfl
    | cons s l ihl =>
      intro h f all deep around hc
      simp only [smsCount] at h
      have hcc := Sm.count_eq s
      rw [smsChk] at hc
      obtain ⟨c1, c2⟩ := thenE_0 hc
      rw [smsNm, ihl (by omega) f all deep around c2, Bool.and_true, smN_iff]
      rw [Sm.chk_eq] at c1
      obtain ⟨_, c1⟩ := thenE_0 c1
      obtain ⟨k0, c1⟩ := thenE_0 c1
      unfold kindE at k0
      have k0 := mustE_0 (by decide) k0
      simp only [Bool.and_eq_true] at k0
      obtain ⟨⟨⟨⟨⟨⟨⟨kk1, _⟩, kk3⟩, kk4⟩, kk5⟩, _⟩, kk7⟩, kk8⟩ := k0
      have e1 : 1 ≤ s.kind ∧ s.kind ≤ 6 := by unfold kd1 at kk1; simpa using kk1
      have e3 : s.kind = 5 ∨ s.kind = 6 → blankB s.e = true := by
        unfold kd3 hasK at kk3
        rw [Bool.or_eq_true] at kk3
        intro hk
        rcases kk3 with h | h
        · exact h
        · simp at h; omega
      have e4 : s.kind ≠ 2 → blankB s.a = true := by
        unfold kd4 hasK at kk4
        rw [Bool.or_eq_true] at kk4
        intro hk
        rcases kk4 with h | h
        · exact h
        · simp at h; omega
      have e5 : s.kind ≠ 6 → s.args = [] := by
        unfold kd5 hasK at kk5
        rw [Bool.or_eq_true] at kk5
        intro hk
        rcases kk5 with h | h
        · simp at h; exact h.1
        · simp at h; omega
      have e7 : (s.kind = 3 ∨ s.kind = 4 ∨ s.kind = 5) ∨ s.body = [] := by
        unfold kd7 hasK at kk7
        simp at kk7
        rcases kk7 with h | h | h | h
        · exact .inr h
        · exact .inl (.inl h)
        · exact .inl (.inr (.inl h))
        · exact .inl (.inr (.inr h))
      have e8 : s.kind = 3 ∨ s.els = [] := by
        unfold kd8 hasK at kk8
        simp at kk8
        rcases kk8 with h | h
        · exact .inr h
        · exact .inl h
      have hb : smsNm (Keys (enterT F)) (Keys (arrT p.regions F)) s.body = true := by
        rcases e7 with h7 | h7
        · by_cases k5 : s.kind = 5
          · rw [if_neg (by omega), if_neg (by omega), if_neg (by omega), if_pos k5] at c1
            obtain ⟨_, c1⟩ := thenE_0 c1
            obtain ⟨_, c1⟩ := thenE_0 c1
            obtain ⟨_, c1⟩ := thenE_0 c1
            obtain ⟨_, c1⟩ := thenE_0 c1
            exact ih s.body (by omega) _ _ _ _ c1
          · rw [if_neg (by omega), if_neg (by omega), if_pos (by omega)] at c1
            obtain ⟨_, c1⟩ := thenE_0 c1
            exact ih s.body (by omega) _ _ _ _ (thenE_0 c1).1
        · rw [h7]; rfl
      have he : smsNm (Keys (enterT F)) (Keys (arrT p.regions F)) s.els = true := by
        rcases e8 with h7 | h7
        · rw [if_neg (by omega), if_neg (by omega), if_pos (by omega)] at c1
          obtain ⟨_, c1⟩ := thenE_0 c1
          exact ih s.els (by omega) _ _ _ _ (thenE_0 c1).2
        · rw [h7]; rfl
      refine ⟨fun k => ?_, ?_, ?_, ?_, hb, he⟩
      · rw [if_neg (by omega), if_pos k] at c1
        exact arr_keys hw (thenE_0 c1).1
      · by_cases k56 : s.kind = 5 ∨ s.kind = 6
        · exact blank_nm (e3 k56)
        · by_cases k1 : s.kind = 1
          · rw [if_pos k1] at c1
            obtain ⟨_, c1⟩ := thenE_0 c1
            obtain ⟨_, c1⟩ := thenE_0 c1
            exact chk_ex hw _ _ c1
          · by_cases k2 : s.kind = 2
            · rw [if_neg k1, if_pos k2] at c1
              obtain ⟨_, c1⟩ := thenE_0 c1
              obtain ⟨_, c1⟩ := thenE_0 c1
              exact chk_ex hw _ _ (thenE_0 c1).1
            · rw [if_neg k1, if_neg k2, if_pos (by omega)] at c1
              exact chk_ex hw _ _ (thenE_0 c1).1
      · by_cases k2 : s.kind = 2
        · rw [if_neg (by omega), if_pos k2] at c1
          obtain ⟨_, c1⟩ := thenE_0 c1
          exact chk_ex hw _ _ (thenE_0 c1).1
        · exact blank_nm (e4 k2)
      · by_cases k6 : s.kind = 6
        · rw [if_neg (by omega), if_neg (by omega), if_neg (by omega), if_neg (by omega)] at c1
          unfold callE at c1
          split at c1
          · cases c1
          · obtain ⟨_, c1⟩ := thenE_0 c1
            obtain ⟨_, c1⟩ := thenE_0 c1
            obtain ⟨_, c1⟩ := thenE_0 c1
            obtain ⟨_, c1⟩ := thenE_0 c1
            exact chk_exs hw _ _ (Nat.le_refl _) _ c1
        · rw [e5 k6]; rfl
theorem rets_in (words : List ByteArray) : ∀ (l done : List ByteArray), retsL words done l = 0 → ∀ n ∈ l, n ∈ words
  | [], _, _, n, h => by cases h
  | s :: l, done, h0, n, h => by
    rw [retsL] at h0
    obtain ⟨h1, h2⟩ := thenE_0 h0
    rcases List.mem_cons.1 h with rfl | h
    · have := mustE_0 (by decide) h1
      rw [Bool.and_eq_true] at this
      unfold inB at this
      rw [List.any_eq_true] at this
      obtain ⟨⟨x, hx, e⟩, _⟩ := this
      rw [decide_eq_true_eq] at e
      rw [e]; exact hx
    · exact rets_in words l _ h2 n h
structure FnN (p : Pg) (F : Fc) : Prop where
  nm : NmF p F
  body : smsNm (Keys (enterT F)) (Keys (arrT p.regions F)) F.body = true
  words : F.params.length + F.vars.length ≤ 64
  rets : F.rets.length ≤ 64
theorem may_nm {p : Pg} (h : mayE p = 0) : (∀ k, k < p.funcs.length → FnN p (fcAt p k)) ∧ p.regions.length ≤ 16 ∧ p.funcs.length ≤ 32 ∧ 1 ≤ p.funcs.length := by
  unfold mayE at h
  obtain ⟨hm, h⟩ := thenE_0 h
  obtain ⟨hn, h⟩ := thenE_0 h
  obtain ⟨_, h⟩ := thenE_0 h
  obtain ⟨hk, h⟩ := thenE_0 h
  have hl : 1 ≤ p.funcs.length ∧ p.funcs.length ≤ 32 ∧ p.regions.length ≤ 16 := by
    unfold manyE at hm
    have := mustE_0 (by decide) (thenE_0 hm).1
    simp only [Bool.and_eq_true, decide_eq_true_eq] at this
    omega
  have hm2 : allE manyF p.funcs = 0 := by
    unfold manyE at hm
    obtain ⟨_, hm⟩ := thenE_0 hm
    obtain ⟨_, hm⟩ := thenE_0 hm
    exact (thenE_0 hm).1
  rw [← namesL] at hn
  obtain ⟨n1, hn⟩ := thenE_0 hn
  obtain ⟨n2, n3⟩ := thenE_0 hn
  have key : ∀ (l : List Fc) (i : Nat), asksE p i l = 0 → ∀ (k : Nat) F, l[k]? = some F → askE p (i + k) F = 0 := by
    intro l
    induction l with
    | nil => intro i _ k F hF; simp at hF
    | cons a l ih =>
      intro i h k F hF
      rw [asksE] at h
      obtain ⟨h1, h2⟩ := thenE_0 h
      cases k with
      | zero => simp at hF; subst hF; exact h1
      | succ k =>
        have := ih (i + 1) h2 k F (by simpa using hF)
        rw [show i + (k + 1) = i + 1 + k by omega]
        exact this
  refine ⟨fun k hkl => ?_, hl.2.2, hl.2.1, hl.1⟩
  obtain ⟨g1, g2⟩ := fcAt_get hkl
  obtain ⟨F, hF⟩ : ∃ F, F = fcAt p k := ⟨_, rfl⟩
  rw [← hF] at g1 g2 ⊢
  have hw : ∀ v ∈ F.params, v.kind = 1 := fun v hv => by
    have h1 := allE_0 hk F g2
    unfold kindsE at h1
    have h2 := mustE_0 (by decide) (allE_0 (thenE_0 h1).1 v hv)
    simp at h2; exact h2.1
  have hnl := allE_0 n3 F g2
  unfold nameL at hnl
  obtain ⟨q1, q2⟩ := thenE_0 hnl
  obtain ⟨q3, q4⟩ := onesL_new _ _ q1
  obtain ⟨_, q5⟩ := onesL_new _ _ n1
  have hlen := funcs_in hm2 F g2
  refine ⟨⟨q4, fun v hv r hr e => ?_, q5, hw, fun n hn => ?_⟩, ?_, hlen.1, hlen.2⟩
  · have := q3 v.name (List.mem_map.2 ⟨v, hv, rfl⟩)
    unfold inB at this
    rw [List.any_eq_false] at this
    exact this r.name (List.mem_map.2 ⟨r, hr, rfl⟩) (by simpa using e)
  · have := rets_in _ _ _ q2 n hn
    unfold wordsV at this
    obtain ⟨v, hv, rfl⟩ := List.mem_map.1 this
    obtain ⟨h1, h2⟩ := List.mem_filter.1 hv
    exact (enter_mem hw).2 ⟨v, h1, rfl, by simpa using h2⟩
  · have ha := key p.funcs 0 h k F g1
    unfold askE at ha
    exact chk_nm hw _ _ (Nat.le_refl _) _ _ _ _ ha
end Go.Proofs
namespace Go.Proofs
open Go.Mu
theorem exsMuch_ge (most : Int) (m : Nat) : ∀ (l : List Ex) (n : Nat), exsCount l ≤ m → (exsMuch most n l : Int) ≤ most → n + exsCount l ≤ exsMuch most n l := by
  induction m with
  | zero => intro l n hl _; have := exs_len l; obtain rfl : l = [] := List.eq_nil_of_length_eq_zero (by omega); simp [exsMuch, exsCount]
  | succ m ih =>
    intro l
    induction l with
    | nil => intro n _ _; simp [exsMuch, exsCount]
    | cons e l ihl =>
      intro n hl h
      simp only [exsCount] at hl ⊢
      have he := Ex.count_eq e
      rw [exsMuch] at h ⊢
      by_cases hn : (n : Int) ≤ most
      · rw [if_pos hn] at h ⊢
        have h1 := ihl (n + e.much most) (by omega) h
        have h2 := ih e.args 1 (by omega) (by rw [← Ex.much_eq]; omega)
        rw [← Ex.much_eq] at h2
        omega
      · rw [if_neg hn] at h; exact absurd h hn
theorem Ex.much_ge {most : Int} {e : Ex} (h : (e.much most : Int) ≤ most) : e.count ≤ e.much most := by
  rw [Ex.much_eq] at h ⊢
  have := exsMuch_ge most _ e.args 1 (Nat.le_refl _) h
  have := Ex.count_eq e
  omega
theorem argsMuch_ge {most : Int} : ∀ {l : List Ex}, (argsMuch most l : Int) ≤ most → exsCount l ≤ argsMuch most l
  | [], _ => by simp [argsMuch, exsCount]
  | e :: l, h => by
    simp only [argsMuch, exsCount] at h ⊢
    have h1 := Ex.much_ge (most := most) (e := e) (by omega)
    have h2 := argsMuch_ge (most := most) (l := l) (by omega)
    omega
theorem smsMuch_gec (most : Int) (m : Nat) : ∀ (l : List Sm) (n : Nat), smsCount l ≤ m → (smsMuch most n l : Int) ≤ most → n + smsCount l ≤ smsMuch most n l := by
  induction m with
  | zero => intro l n hl _; have := sms_len l; obtain rfl : l = [] := List.eq_nil_of_length_eq_zero (by omega); simp [smsMuch, smsCount]
  | succ m ih =>
    intro l
    induction l with
    | nil => intro n _ _; simp [smsMuch, smsCount]
    | cons s l ihl =>
      intro n hl h
      simp only [smsCount] at hl ⊢
      have hs := Sm.count_eq s
      have hm := Sm.much_eq most s
      rw [smsMuch] at h ⊢
      by_cases hn : (n : Int) ≤ most
      · rw [if_pos hn] at h ⊢
        have h1 := ihl (n + s.much most) (by omega) h
        have h2 := ih s.body 0 (by omega) (by omega)
        have h3 := ih s.els 0 (by omega) (by omega)
        have h4 := Ex.much_ge (most := most) (e := s.e) (by omega)
        have h5 := Ex.much_ge (most := most) (e := s.a) (by omega)
        have h6 := argsMuch_ge (most := most) (l := s.args) (by omega)
        omega
      · rw [if_neg hn] at h; exact absurd h hn
def sumB : List Fc → Nat
  | [] => 0
  | f :: l => smsCount f.body + sumB l
theorem smallF_ge {most : Int} : ∀ (l : List Fc) (n k : Nat), smallF most l n = some k → (k : Int) ≤ most → n + sumB l ≤ k
  | [], n, k, h, _ => by cases h; simp [sumB]
  | f :: l, n, k, h, hk => by
    rw [smallF] at h
    split at h
    · cases h
    · have h1 := smallF_ge l _ _ h hk
      have h2 := smsMuch_gec most _ f.body 0 (Nat.le_refl _) (by omega)
      simp only [sumB]
      omega
theorem small_sum {p : Pg} {most : Int} (h : smallB p most = true) : (sumB p.funcs : Int) ≤ most := by
  unfold smallB at h
  split at h
  · cases h
  · split at h
    · cases h
    · rename_i n hn
      rw [decide_eq_true_eq] at h
      have := smallF_ge _ _ _ hn h
      omega
theorem exsCnt_count (m : Nat) : ∀ (l : List Ex), exsCount l ≤ m → ∀ (deep n : Int), exsCnt deep n l ≤ n + exsCount l := by
  induction m with
  | zero => intro l hl deep n; have := exs_len l; obtain rfl : l = [] := List.eq_nil_of_length_eq_zero (by omega); simp [exsCnt, exsCount]
  | succ m ih =>
    intro l
    induction l with
    | nil => intro _ deep n; simp [exsCnt, exsCount]
    | cons e l ihl =>
      intro hl deep n
      simp only [exsCount] at hl ⊢
      have he := Ex.count_eq e
      rw [exsCnt, Ex.cnt_eq]
      split
      · have := ihl (by omega) deep n; omega
      · split
        · have := ihl (by omega) deep n; omega
        · have h1 := ih e.args (by omega) (deep + 1) (n + 1)
          have h2 := ihl (by omega) deep (exsCnt (deep + 1) (n + 1) e.args)
          omega
theorem Ex.cnt_count (e : Ex) (deep n : Int) : e.cnt deep n ≤ n + e.count := by
  have := exsCnt_count _ [e] (Nat.le_refl _) deep n
  simpa [exsCnt, exsCount] using this
theorem exsCntB_count (deep : Int) : ∀ (l : List Ex) (n : Int), exsCntB deep n l ≤ n + exsCount l
  | [], n => by simp [exsCntB, exsCount]
  | e :: l, n => by
    rw [exsCntB]
    simp only [exsCount]
    split
    · have := exsCntB_count deep l n; omega
    · have h1 := Ex.cnt_count e deep n
      have h2 := exsCntB_count deep l (e.cnt deep n)
      omega
theorem smsCnt_count (m : Nat) : ∀ (l : List Sm), smsCount l ≤ m → ∀ (deep n : Int), smsCnt deep n l ≤ n + smsCount l := by
  induction m with
  | zero => intro l hl deep n; have := sms_len l; obtain rfl : l = [] := List.eq_nil_of_length_eq_zero (by omega); simp [smsCnt, smsCount]
  | succ m ih =>
    intro l
    induction l with
    | nil => intro _ deep n; simp [smsCnt, smsCount]
    | cons s l ihl =>
      intro hl deep n
      simp only [smsCount] at hl ⊢
      have hs := Sm.count_eq s
      rw [smsCnt]
      split
      · omega
      · split
        · omega
        · rw [Sm.cnt_eq]
          have h1 := exsCntB_count deep (s.e :: s.a :: s.args) (n + 1)
          have h2 := ih s.body (by omega) (deep + 1) (exsCntB deep (n + 1) (s.e :: s.a :: s.args))
          have h3 := ih s.els (by omega) (deep + 1) (smsCnt (deep + 1) (exsCntB deep (n + 1) (s.e :: s.a :: s.args)) s.body)
          have h4 := ihl (by omega) deep (smsCnt (deep + 1) (smsCnt (deep + 1) (exsCntB deep (n + 1) (s.e :: s.a :: s.args)) s.body) s.els)
          simp only [exsCount] at h1
          omega
theorem funcsCnt_count : ∀ (l : List Fc) (n : Int), funcsCnt n l ≤ n + sumB l
  | [], n => by simp [funcsCnt, sumB]
  | f :: l, n => by
    rw [funcsCnt]
    have h1 := smsCnt_count _ f.body (Nat.le_refl _) 1 n
    have h2 := funcsCnt_count l (smsCnt 1 n f.body)
    simp only [sumB]
    omega
theorem sumB_app : ∀ (a b : List Fc), sumB (a ++ b) = sumB a + sumB b
  | [], b => by simp [sumB]
  | f :: a, b => by rw [List.cons_append, sumB, sumB_app a b, sumB]; omega
theorem sumB_take : ∀ (a : List Fc) (k : Nat), sumB (a.take k) ≤ sumB a
  | [], k => by simp [sumB]
  | f :: a, 0 => by simp [sumB]
  | f :: a, k + 1 => by rw [List.take_succ_cons, sumB, sumB]; have := sumB_take a k; omega
def lvS (e : Ex) : Sm := .mk 3 ByteArray.empty [] e exN [] 0 0 [] []
def lvF (p : Pg) (f : Nat) (e : Ex) : Fc := { fcAt p f with body := [lvS e] }
def lvQ (p : Pg) (f : Nat) (e : Ex) : Pg := ⟨p.regions, p.funcs.take f ++ [lvF p f e]⟩
theorem lv_size {p : Pg} {f : Nat} {e : Ex} (h : sumB p.funcs ≤ 10000) (he : e.count ≤ 10000) : sizeM (lvQ p f e) ≤ 65536 := by
  have h1 := funcsCnt_count (lvQ p f e).funcs 0
  have h2 := sumB_take p.funcs f
  have h3 : sumB (lvQ p f e).funcs = sumB (p.funcs.take f) + (e.count + 2) := by
    rw [lvQ, sumB_app]
    simp only [sumB, lvF, smsCount, lvS, Sm.count, exN, Ex.count, exsCount, List.length_nil]
    omega
  unfold sizeM
  omega
theorem allE_of {α : Type} {q : α → Int} : ∀ {l : List α}, (∀ a ∈ l, q a = 0) → allE q l = 0
  | [], _ => rfl
  | a :: l, h => by rw [allE, h a (by simp), allE_of fun b hb => h b (by simp [hb])]; rfl
theorem onesE_take : ∀ (l : List ByteArray) (t : Tab) (k : Nat), onesE l t = 0 → onesE (l.take k) t = 0
  | [], t, k, h => by simp [onesE]
  | s :: l, t, 0, h => rfl
  | s :: l, t, k + 1, h => by
    rw [onesE] at h
    obtain ⟨h1, h2⟩ := thenE_0 h
    rw [List.take_succ_cons, onesE, h1, thenE_zero]
    exact onesE_take l _ k h2
theorem idxP_take {α : Type} (q : α → Bool) (m : List α) : ∀ (l : List α) (i : Int) (f k : Nat), 0 ≤ i → idxP q l i = i + k → k < f → idxP q (l.take f ++ m) i = i + k
  | [], i, f, k, h0, h, hk => by simp [idxP] at h; omega
  | a :: l, i, 0, k, h0, h, hk => by omega
  | a :: l, i, f + 1, k, h0, h, hk => by
    rw [idxP] at h
    rw [List.take_succ_cons, List.cons_append, idxP]
    by_cases ha : q a = true
    · rw [if_pos ha] at h ⊢; exact h
    · rw [if_neg ha] at h ⊢
      have : k ≠ 0 := by
        rintro rfl
        rcases idxP_in q l (i + 1).toNat with h1 | ⟨j, _, h1⟩
        · rw [show (((i + 1).toNat : Nat) : Int) = i + 1 by omega] at h1; omega
        · rw [show (((i + 1).toNat : Nat) : Int) = i + 1 by omega] at h1; omega
      have := idxP_take q m l (i + 1) f (k - 1) (by omega) (by rw [h]; omega) (by omega)
      rw [this]; omega
theorem lv_call {p : Pg} {f i : Nat} {e : Ex} (hi : i ≤ f) {F : Fc} {tv : List (ByteArray × Vr)} {ta : List (ByteArray × Bool)} {all : List ByteArray} {s : Sm} {deep : Nat} (h : callE p i tv ta all s deep = 0) : callE (lvQ p f e) i tv ta all s deep = 0 := by
  unfold callE at h
  cases hg : p.funcs[(idxP (fun g => decide (g.name = s.name)) p.funcs 0).toNat]? with
  | none => rw [hg] at h; cases h
  | some g =>
    rw [hg] at h
    simp only at h
    obtain ⟨h1, h⟩ := thenE_0 h
    obtain ⟨h2, h⟩ := thenE_0 h
    have h1' := mustE_0 (by decide) h1
    have h2' := mustE_0 (by decide) h2
    rw [decide_eq_true_eq] at h1' h2'
    obtain ⟨k, hk⟩ : ∃ k : Nat, idxP (fun g : Fc => decide (g.name = s.name)) p.funcs 0 = k := ⟨_, (Int.toNat_of_nonneg h1').symm⟩
    rw [hk] at hg h1 h2 h2'
    have hkf : k < f := by omega
    have hq : idxP (fun g : Fc => decide (g.name = s.name)) (lvQ p f e).funcs 0 = k := by
      have := idxP_take (fun g : Fc => decide (g.name = s.name)) [lvF p f e] p.funcs 0 f k (by omega) (by rw [hk]; omega) hkf
      rw [lvQ, this]; omega
    have hg2 : (lvQ p f e).funcs[(k : Int).toNat]? = some g := by
      have hkl : k < p.funcs.length := by
        have := (List.getElem?_eq_some_iff.1 hg).1; simpa using this
      rw [lvQ]
      rw [List.getElem?_append_left (by simp; omega), List.getElem?_take_of_lt (by simpa using hkf)]
      exact hg
    unfold callE
    rw [hq, hg2]
    simp only
    rw [h1, h2, thenE_zero, thenE_zero, h]
theorem lv_sms {p : Pg} {f : Nat} {e : Ex} (m : Nat) : ∀ l : List Sm, smsCount l ≤ m → ∀ (i : Nat) F tv ta all (deep : Nat) around, i ≤ f → smsChk p i F tv ta all deep around l = 0 → smsChk (lvQ p f e) i F tv ta all deep around l = 0 := by
  induction m with
  | zero => intro l hl i F tv ta all deep around _ _; have := sms_len l; obtain rfl : l = [] := List.eq_nil_of_length_eq_zero (by omega); rfl
  | succ m ih =>
    intro l
    induction l with
    | nil => intro _ i F tv ta all deep around _ _; rfl
    | cons s l ihl =>
      intro hl i F tv ta all deep around hi hc
      simp only [smsCount] at hl
      have hcc := Sm.count_eq s
      rw [smsChk] at hc ⊢
      obtain ⟨c1, c2⟩ := thenE_0 hc
      rw [ihl (by omega) i F tv ta all deep around hi c2]
      have hb := fun all deep around => ih s.body (by omega) i F tv ta all deep around hi
      have he := fun all deep around => ih s.els (by omega) i F tv ta all deep around hi
      have : Sm.chk (lvQ p f e) i F tv ta all deep around s = 0 := by
        rw [Sm.chk_eq] at c1 ⊢
        obtain ⟨d1, c1⟩ := thenE_0 c1
        obtain ⟨d2, c1⟩ := thenE_0 c1
        rw [d1, d2, thenE_zero, thenE_zero]
        by_cases k1 : s.kind = 1
        · rw [if_pos k1] at c1 ⊢; exact c1
        rw [if_neg k1] at c1 ⊢
        by_cases k2 : s.kind = 2
        · rw [if_pos k2] at c1 ⊢
          obtain ⟨d1, c1⟩ := thenE_0 c1
          obtain ⟨d2, c1⟩ := thenE_0 c1
          obtain ⟨d3, c1⟩ := thenE_0 c1
          obtain ⟨d4, c1⟩ := thenE_0 c1
          rw [d1, d2, d3, hb _ _ _ d4, he _ _ _ c1]; rfl
        rw [if_neg k2] at c1 ⊢
        by_cases k3 : s.kind = 3 ∨ s.kind = 4
        · rw [if_pos k3] at c1 ⊢
          obtain ⟨d3, c1⟩ := thenE_0 c1
          obtain ⟨d4, c1⟩ := thenE_0 c1
          rw [d3, hb _ _ _ d4, he _ _ _ c1]; rfl
        rw [if_neg k3] at c1 ⊢
        by_cases k5 : s.kind = 5
        · rw [if_pos k5] at c1 ⊢
          obtain ⟨d1, c1⟩ := thenE_0 c1
          obtain ⟨d2, c1⟩ := thenE_0 c1
          obtain ⟨d3, c1⟩ := thenE_0 c1
          obtain ⟨d4, c1⟩ := thenE_0 c1
          rw [d1, d2, d3, d4, hb _ _ _ c1]; rfl
        rw [if_neg k5] at c1 ⊢
        exact lv_call (F := F) hi c1
      rw [this]; rfl
theorem asksE_app (q : Pg) (F : Fc) : ∀ (l : List Fc) (i : Nat), (∀ (k : Nat) G, l[k]? = some G → askE q (i + k) G = 0) → asksE q i (l ++ [F]) = askE q (i + l.length) F
  | [], i, _ => by rw [List.nil_append, asksE, asksE]; simp only [List.length_nil, Nat.add_zero]; unfold thenE; split; (rename_i h; rw [h]); rfl
  | a :: l, i, h => by
    have h0 : askE q i a = 0 := h 0 a rfl
    rw [List.cons_append, asksE, h0, thenE_zero, asksE_app q F l (i + 1) (fun k G hk => by have := h (k + 1) G (by simpa using hk); rw [show i + 1 + k = i + (k + 1) by omega]; exact this), List.length_cons]
    rw [show i + 1 + l.length = i + (l.length + 1) by omega]
theorem take_getZ {α : Type} {l : List α} {i : Nat} {x : α} (h : l[i]? = some x) : l.take (i + 1) = l.take i ++ [x] := by
  obtain ⟨hi, rfl⟩ := List.getElem?_eq_some_iff.1 h
  exact take_succ' hi
theorem empty_list : ByteArray.empty.toList.isEmpty = true := by kernel_rfl
theorem smsChk_nil (p : Pg) (f : Int) (F : Fc) (tv : List (ByteArray × Vr)) (ta : List (ByteArray × Bool)) (all : List ByteArray) (deep : Nat) (around : List ByteArray) : smsChk p f F tv ta all deep around [] = 0 := by rw [smsChk]
theorem then_last (x : Int) : thenE x 0 = x := by unfold thenE; split; (rename_i h; exact h.symm); rfl
theorem lv_may {p : Pg} {f : Nat} {e : Ex} (hm : mayE p = 0) (hf : f < p.funcs.length) (hz : sizeM (lvQ p f e) ≤ 65536) : mayE (lvQ p f e) = e.chk (varsT ((fcAt p f).params ++ (fcAt p f).vars)) (onesT (p.regions.map Rg.name) []) 1 := by
  obtain ⟨g1, g2⟩ := fcAt_get hf
  have hql : (lvQ p f e).funcs.length = f + 1 := by rw [lvQ]; simp; omega
  have hqr : (lvQ p f e).regions = p.regions := rfl
  have hmem : ∀ F ∈ (lvQ p f e).funcs, F ∈ p.funcs ∨ F = lvF p f e := fun F hF => by
    rw [lvQ] at hF
    rcases List.mem_append.1 hF with h | h
    · exact .inl (List.mem_of_mem_take h)
    · exact .inr (List.mem_singleton.1 h)
  unfold mayE at hm
  obtain ⟨m1, hm⟩ := thenE_0 hm
  obtain ⟨m2, hm⟩ := thenE_0 hm
  obtain ⟨m3, hm⟩ := thenE_0 hm
  obtain ⟨m4, m5⟩ := thenE_0 hm
  have q1 : manyE (lvQ p f e) = 0 := by
    unfold manyE at m1 ⊢
    obtain ⟨n1, m1⟩ := thenE_0 m1
    obtain ⟨n2, m1⟩ := thenE_0 m1
    obtain ⟨n3, n4⟩ := thenE_0 m1
    have n1' := mustE_0 (by decide) n1
    simp only [Bool.and_eq_true, decide_eq_true_eq] at n1'
    have h1 : allE manyF (lvQ p f e).funcs = 0 := allE_of fun F hF => by
      rcases hmem F hF with h | rfl
      · exact allE_0 n3 F h
      · exact (show manyF (fcAt p f) = 0 from allE_0 n3 _ g2)
    rw [hqr, n2, h1, hql, decide_eq_true hz]
    have a1 : decide ((p.regions.length : Int) ≤ 16) = true := by rw [decide_eq_true_eq]; omega
    have a2 : decide (1 ≤ ((f + 1 : Nat) : Int)) = true := by rw [decide_eq_true_eq]; omega
    have a3 : decide (((f + 1 : Nat) : Int) ≤ 32) = true := by rw [decide_eq_true_eq]; omega
    rw [a1, a2, a3]; rfl
  have q2 : namesE (lvQ p f e) = 0 := by
    unfold namesE at m2 ⊢
    obtain ⟨n1, m2⟩ := thenE_0 m2
    obtain ⟨n2, n3⟩ := thenE_0 m2
    have h1 : (lvQ p f e).funcs.map Fc.name = (p.funcs.map Fc.name).take (f + 1) := by
      rw [lvQ, List.map_append, take_getZ (x := (fcAt p f).name) (by rw [List.getElem?_map, g1]; rfl), List.map_take]; rfl
    have h2 : allE (nameF p.regions) (lvQ p f e).funcs = 0 := allE_of fun F hF => by
      rcases hmem F hF with h | rfl
      · exact allE_0 n3 F h
      · exact (show nameF p.regions (fcAt p f) = 0 from allE_0 n3 _ g2)
    rw [hqr, n1, h1, onesE_take _ _ _ n2, h2]; rfl
  have q4 : allE kindsE (lvQ p f e).funcs = 0 := allE_of fun F hF => by
    rcases hmem F hF with h | rfl
    · exact allE_0 m4 F h
    · exact (show kindsE (fcAt p f) = 0 from allE_0 m4 _ g2)
  have key : ∀ (l : List Fc) (i : Nat), asksE p i l = 0 → ∀ (k : Nat) F, l[k]? = some F → askE p (i + k) F = 0 := by
    intro l
    induction l with
    | nil => intro i _ k F hF; simp at hF
    | cons a l ih =>
      intro i h k F hF
      rw [asksE] at h
      obtain ⟨h1, h2⟩ := thenE_0 h
      cases k with
      | zero => simp at hF; subst hF; exact h1
      | succ k =>
        have := ih (i + 1) h2 k F (by simpa using hF)
        rw [show i + (k + 1) = i + 1 + k by omega]
        exact this
  have q5 : asksE (lvQ p f e) 0 (lvQ p f e).funcs = askE (lvQ p f e) f (lvF p f e) := by
    have := asksE_app (lvQ p f e) (lvF p f e) (p.funcs.take f) 0 (fun k G hG => by
      have hk : k < f := by have := (List.getElem?_eq_some_iff.1 hG).1; simp at this; omega
      rw [List.getElem?_take_of_lt hk] at hG
      have := key p.funcs 0 m5 k G hG
      unfold askE at this ⊢
      rw [hqr]
      exact lv_sms _ _ (Nat.le_refl _) _ _ _ _ _ _ _ (by omega) this)
    rw [List.length_take, Nat.min_eq_left (by omega), Nat.zero_add] at this
    exact this
  have hk0 : kindE (lvS e) = 0 := by
    have h1 : kd1 (lvS e) = true := rfl
    have h2 : kd2 (lvS e) = true := by unfold kd2; show (ByteArray.empty.toList.isEmpty || _) = true; rw [empty_list]; rfl
    have h3 : kd3 (lvS e) = true := by unfold kd3; exact Bool.or_true _
    have h4 : kd4 (lvS e) = true := by unfold kd4; show (blankB exN || _) = true; rw [show blankB exN = true by kernel_rfl]; rfl
    have h5 : kd5 (lvS e) = true := rfl
    have h6 : kd6 (lvS e) = true := rfl
    have h7 : kd7 (lvS e) = true := rfl
    have h8 : kd8 (lvS e) = true := rfl
    unfold kindE; rw [h1, h2, h3, h4, h5, h6, h7, h8]; rfl
  have q6 : askE (lvQ p f e) f (lvF p f e) = e.chk (varsT ((fcAt p f).params ++ (fcAt p f).vars)) (onesT (p.regions.map Rg.name) []) 1 := by
    unfold askE
    show smsChk (lvQ p f e) f (lvF p f e) (varsT ((fcAt p f).params ++ (fcAt p f).vars)) (onesT (p.regions.map Rg.name) []) (smsWords 1 [lvS e]) 1 [] [lvS e] = _
    rw [smsChk, smsChk, then_last, Sm.chk_eq, hk0]
    have h1 : mustE (decide (((1 : Nat) : Int) ≤ 64)) 12 = 0 := rfl
    have k3 : (lvS e).kind = 3 := rfl
    rw [h1, thenE_zero, thenE_zero, k3, if_neg (by decide), if_neg (by decide), if_pos (by decide)]
    show thenE (e.chk _ _ 1) (thenE (smsChk _ _ _ _ _ _ _ _ []) (smsChk _ _ _ _ _ _ _ _ [])) = _
    rw [smsChk_nil, thenE_zero, then_last]
  unfold mayE
  rw [q1, q2, hqr, m3, q4, q5, q6]
  rfl
end Go.Proofs
