/- The program's types and functions, as the rules want them (written by a program of our own). -/
import Derived.Test.YtganjkhdlehhdaaGreatFwCptoFwN
import Derived.Test.YtganjkhdlehhdaaGreatProg
import Derived.KernelRfl
set_option linter.unusedVariables false
set_option linter.unusedSimpArgs false
namespace Go.Proofs
open Go.Mu
@[simp] theorem Tryz.sz2 : szOf Tryz.prog 2 = some 1 := by kernel_rfl
@[simp] theorem Tryz.ag2 : aggOf Tryz.prog 2 = some false := by kernel_rfl
@[simp] theorem Tryz.ud2 : undB Tryz.prog 2 = true := by kernel_rfl
@[simp] theorem Tryz.ko2 : kOf Tryz.prog 2 = some .i64 := by kernel_rfl
@[simp] theorem Tryz.sz3 : szOf Tryz.prog 3 = some 1 := by kernel_rfl
@[simp] theorem Tryz.ag3 : aggOf Tryz.prog 3 = some false := by kernel_rfl
@[simp] theorem Tryz.ze3 : zeroOf Tryz.prog 3 = some (.int .i64 0) := by kernel_rfl
@[simp] theorem Tryz.ud3 : undB Tryz.prog 3 = true := by kernel_rfl
@[simp] theorem Tryz.ko3 : kOf Tryz.prog 3 = some .i64 := by kernel_rfl
@[simp] theorem Tryz.sz4 : szOf Tryz.prog 4 = some 1 := by kernel_rfl
@[simp] theorem Tryz.ag4 : aggOf Tryz.prog 4 = some false := by kernel_rfl
@[simp] theorem Tryz.ze4 : zeroOf Tryz.prog 4 = some (.bool false) := by kernel_rfl
@[simp] theorem Tryz.sz5 : szOf Tryz.prog 5 = some 1 := by kernel_rfl
@[simp] theorem Tryz.ag5 : aggOf Tryz.prog 5 = some false := by kernel_rfl
@[simp] theorem Tryz.ud5 : undB Tryz.prog 5 = true := by kernel_rfl
@[simp] theorem Tryz.ko5 : kOf Tryz.prog 5 = some .u8 := by kernel_rfl
@[simp] theorem Tryz.sz9 : szOf Tryz.prog 9 = some 1 := by kernel_rfl
@[simp] theorem Tryz.ag9 : aggOf Tryz.prog 9 = some false := by kernel_rfl
@[simp] theorem Tryz.lk9 : lkOf Tryz.prog 9 = 2 := by kernel_rfl
@[simp] theorem Tryz.ko9 : kOf Tryz.prog 9 = none := by kernel_rfl
@[simp] theorem Tryz.iv9 (x i : AV) (k : AV → Prop) (w : Wit k) : idxValV Tryz.prog 9 x i k w = bindOW (strA x) (fun s => bindOW (intA i) (fun n => andVW (0 ≤ n) (bindOW (s.data.toList[n.toNat]?) (fun b => k (.v (.int .u8 b.toNat))) (wit _)) (wit _)) (wit _)) (wit _) := idxValV_str Tryz.lk9 x i k w
@[simp] theorem Tryz.ud21 : undB Tryz.prog 21 = true := by kernel_rfl
@[simp] theorem Tryz.ko21 : kOf Tryz.prog 21 = some .i32 := by kernel_rfl
@[simp] theorem Tryz.sz22 : szOf Tryz.prog 22 = some 1 := by kernel_rfl
@[simp] theorem Tryz.ag22 : aggOf Tryz.prog 22 = some false := by kernel_rfl
@[simp] theorem Tryz.el22 : elOf Tryz.prog 22 = some 56 := by kernel_rfl
@[simp] theorem Tryz.lk22 : lkOf Tryz.prog 22 = 1 := by kernel_rfl
@[simp] theorem Tryz.ix22 (H : List Blk) (x i : AV) (k : AV → Prop) (w : Wit k) : idxAddrV Tryz.prog H 22 x i k w = bindOW (szOf Tryz.prog 56) (fun sz => bindOW (intA i) (fun n => idxVW H sz x n k (wit _)) (wit _)) (wit _) := idxAddrV_sl Tryz.el22 H x i k w
@[simp] theorem Tryz.sl22 : slbOf Tryz.prog 22 = some (56, 13, [.int .i64 0, .int .i64 0, .int .i64 0, .int .i64 0, .int .i64 0, .int .i64 0, .int .u64 0, .int .i64 0, .int .i64 0, .bool false, .bool false, .int .i64 0, .int .i64 0], 96) := by kernel_rfl
@[simp] theorem Tryz.sz23 : szOf Tryz.prog 23 = some 1 := by kernel_rfl
@[simp] theorem Tryz.ag23 : aggOf Tryz.prog 23 = some false := by kernel_rfl
@[simp] theorem Tryz.ud23 : undB Tryz.prog 23 = true := by kernel_rfl
@[simp] theorem Tryz.ko23 : kOf Tryz.prog 23 = some .u64 := by kernel_rfl
@[simp] theorem Tryz.sz24 : szOf Tryz.prog 24 = some 16 := by kernel_rfl
@[simp] theorem Tryz.ag24 : aggOf Tryz.prog 24 = some true := by kernel_rfl
@[simp] theorem Tryz.ze24 : zeroOf Tryz.prog 24 = some (.agg #[.int .u64 0, .int .u64 0, .int .u64 0, .int .u64 0, .int .u64 0, .int .u64 0, .int .u64 0, .int .u64 0, .int .u64 0, .int .u64 0, .int .u64 0, .int .u64 0, .int .u64 0, .int .u64 0, .int .u64 0, .int .u64 0]) := by kernel_rfl
@[simp] theorem Tryz.ar24 : arOf Tryz.prog 24 = some (16, 23) := by kernel_rfl
@[simp] theorem Tryz.ix24 (H : List Blk) (x i : AV) (k : AV → Prop) (w : Wit k) : idxAddrV Tryz.prog H 24 x i k w = bindOW (szOf Tryz.prog 23) (fun sz => bindOW (intA i) (fun n => idxAW H 16 sz x n k (wit _)) (wit _)) (wit _) := idxAddrV_ar Tryz.ar24 H x i k w
@[simp] theorem Tryz.bl24 : bldOf Tryz.prog 24 = some ([.int .u64 0, .int .u64 0, .int .u64 0, .int .u64 0, .int .u64 0, .int .u64 0, .int .u64 0, .int .u64 0, .int .u64 0, .int .u64 0, .int .u64 0, .int .u64 0, .int .u64 0, .int .u64 0, .int .u64 0, .int .u64 0], [(0, 1), (1, 1), (2, 1), (3, 1), (4, 1), (5, 1), (6, 1), (7, 1), (8, 1), (9, 1), (10, 1), (11, 1), (12, 1), (13, 1), (14, 1), (15, 1)]) := by kernel_rfl
@[simp] theorem Tryz.sz26 : szOf Tryz.prog 26 = some 5 := by kernel_rfl
@[simp] theorem Tryz.ag26 : aggOf Tryz.prog 26 = some true := by kernel_rfl
@[simp] theorem Tryz.ze26 : zeroOf Tryz.prog 26 = some (.agg #[.bool false, .bool false, .bool false, .bool false, .bool false]) := by kernel_rfl
@[simp] theorem Tryz.fl26_0 : fldOf Tryz.prog 26 0 = some (0, 1, false) := by kernel_rfl
@[simp] theorem Tryz.fl26_1 : fldOf Tryz.prog 26 1 = some (1, 1, false) := by kernel_rfl
@[simp] theorem Tryz.fl26_2 : fldOf Tryz.prog 26 2 = some (2, 1, false) := by kernel_rfl
@[simp] theorem Tryz.fl26_3 : fldOf Tryz.prog 26 3 = some (3, 1, false) := by kernel_rfl
@[simp] theorem Tryz.fl26_4 : fldOf Tryz.prog 26 4 = some (4, 1, false) := by kernel_rfl
@[simp] theorem Tryz.bl26 : bldOf Tryz.prog 26 = some ([.bool false, .bool false, .bool false, .bool false, .bool false], [(0, 1), (1, 1), (2, 1), (3, 1), (4, 1)]) := by kernel_rfl
@[simp] theorem Tryz.sz28 : szOf Tryz.prog 28 = some 23 := by kernel_rfl
@[simp] theorem Tryz.ag28 : aggOf Tryz.prog 28 = some true := by kernel_rfl
@[simp] theorem Tryz.ze28 : zeroOf Tryz.prog 28 = some (.agg #[.int .u64 0, .int .u64 0, .int .u64 0, .int .u64 0, .int .u64 0, .int .u64 0, .int .u64 0, .int .u64 0, .int .u64 0, .int .u64 0, .int .u64 0, .int .u64 0, .int .u64 0, .int .u64 0, .int .u64 0, .int .u64 0, .bool false, .bool false, .bool false, .bool false, .bool false, .int .i64 0, .int .i64 0]) := by kernel_rfl
@[simp] theorem Tryz.fl28_0 : fldOf Tryz.prog 28 0 = some (0, 16, true) := by kernel_rfl
@[simp] theorem Tryz.fl28_1 : fldOf Tryz.prog 28 1 = some (16, 5, true) := by kernel_rfl
@[simp] theorem Tryz.fl28_2 : fldOf Tryz.prog 28 2 = some (21, 1, false) := by kernel_rfl
@[simp] theorem Tryz.fl28_3 : fldOf Tryz.prog 28 3 = some (22, 1, false) := by kernel_rfl
@[simp] theorem Tryz.bl28 : bldOf Tryz.prog 28 = some ([.int .u64 0, .int .u64 0, .int .u64 0, .int .u64 0, .int .u64 0, .int .u64 0, .int .u64 0, .int .u64 0, .int .u64 0, .int .u64 0, .int .u64 0, .int .u64 0, .int .u64 0, .int .u64 0, .int .u64 0, .int .u64 0, .bool false, .bool false, .bool false, .bool false, .bool false, .int .i64 0, .int .i64 0], [(0, 16), (16, 5), (21, 1), (22, 1)]) := by kernel_rfl
@[simp] theorem Tryz.sz29 : szOf Tryz.prog 29 = some 1 := by kernel_rfl
@[simp] theorem Tryz.ag29 : aggOf Tryz.prog 29 = some false := by kernel_rfl
@[simp] theorem Tryz.el29 : elOf Tryz.prog 29 = some 125 := by kernel_rfl
@[simp] theorem Tryz.so29 (H : List Blk) (x : AV) (lo hi : Option AV) (k : AV → Prop) (w : Wit k) : sliV Tryz.prog H 29 x lo hi k w = bindOW (szOf Tryz.prog 125) (fun sz => bindOW (optI lo) (fun l => bindOW (optI hi) (fun hh => sliceVW H sz x l hh k (wit _)) (wit _)) (wit _)) (wit _) := sliV_sl Tryz.el29 H x lo hi k w
@[simp] theorem Tryz.lk29 : lkOf Tryz.prog 29 = 1 := by kernel_rfl
@[simp] theorem Tryz.ix29 (H : List Blk) (x i : AV) (k : AV → Prop) (w : Wit k) : idxAddrV Tryz.prog H 29 x i k w = bindOW (szOf Tryz.prog 125) (fun sz => bindOW (intA i) (fun n => idxVW H sz x n k (wit _)) (wit _)) (wit _) := idxAddrV_sl Tryz.el29 H x i k w
@[simp] theorem Tryz.sl29 : slbOf Tryz.prog 29 = some (125, 4, [.string ByteArray.empty, .int .i64 0, .int .i64 0, .bool false], 40) := by kernel_rfl
@[simp] theorem Tryz.el30 : elOf Tryz.prog 30 = some 130 := by kernel_rfl
@[simp] theorem Tryz.lk30 : lkOf Tryz.prog 30 = 1 := by kernel_rfl
@[simp] theorem Tryz.ix30 (H : List Blk) (x i : AV) (k : AV → Prop) (w : Wit k) : idxAddrV Tryz.prog H 30 x i k w = bindOW (szOf Tryz.prog 130) (fun sz => bindOW (intA i) (fun n => idxVW H sz x n k (wit _)) (wit _)) (wit _) := idxAddrV_sl Tryz.el30 H x i k w
@[simp] theorem Tryz.sl30 : slbOf Tryz.prog 30 = some (130, 1, [.slice none 0 0], 24) := by kernel_rfl
@[simp] theorem Tryz.sz34 : szOf Tryz.prog 34 = some 1 := by kernel_rfl
@[simp] theorem Tryz.ag34 : aggOf Tryz.prog 34 = some false := by kernel_rfl
@[simp] theorem Tryz.sz38 : szOf Tryz.prog 38 = some 1 := by kernel_rfl
@[simp] theorem Tryz.ag38 : aggOf Tryz.prog 38 = some false := by kernel_rfl
@[simp] theorem Tryz.el38 : elOf Tryz.prog 38 = some 78 := by kernel_rfl
@[simp] theorem Tryz.lk38 : lkOf Tryz.prog 38 = 1 := by kernel_rfl
@[simp] theorem Tryz.ix38 (H : List Blk) (x i : AV) (k : AV → Prop) (w : Wit k) : idxAddrV Tryz.prog H 38 x i k w = bindOW (szOf Tryz.prog 78) (fun sz => bindOW (intA i) (fun n => idxVW H sz x n k (wit _)) (wit _)) (wit _) := idxAddrV_sl Tryz.el38 H x i k w
@[simp] theorem Tryz.sl38 : slbOf Tryz.prog 38 = some (78, 3, [.bool false, .bool false, .int .u64 0], 16) := by kernel_rfl
@[simp] theorem Tryz.sz39 : szOf Tryz.prog 39 = some 1 := by kernel_rfl
@[simp] theorem Tryz.ag39 : aggOf Tryz.prog 39 = some false := by kernel_rfl
@[simp] theorem Tryz.sz48 : szOf Tryz.prog 48 = some 1 := by kernel_rfl
@[simp] theorem Tryz.ag48 : aggOf Tryz.prog 48 = some false := by kernel_rfl
@[simp] theorem Tryz.sz49 : szOf Tryz.prog 49 = some 1 := by kernel_rfl
@[simp] theorem Tryz.ag49 : aggOf Tryz.prog 49 = some false := by kernel_rfl
@[simp] theorem Tryz.sz50 : szOf Tryz.prog 50 = some 1 := by kernel_rfl
@[simp] theorem Tryz.ag50 : aggOf Tryz.prog 50 = some false := by kernel_rfl
@[simp] theorem Tryz.sz51 : szOf Tryz.prog 51 = some 1 := by kernel_rfl
@[simp] theorem Tryz.ag51 : aggOf Tryz.prog 51 = some false := by kernel_rfl
@[simp] theorem Tryz.sz52 : szOf Tryz.prog 52 = some 1 := by kernel_rfl
@[simp] theorem Tryz.ag52 : aggOf Tryz.prog 52 = some false := by kernel_rfl
@[simp] theorem Tryz.sz54 : szOf Tryz.prog 54 = some 5 := by kernel_rfl
@[simp] theorem Tryz.ag54 : aggOf Tryz.prog 54 = some true := by kernel_rfl
@[simp] theorem Tryz.ze54 : zeroOf Tryz.prog 54 = some (.agg #[.int .i64 0, .int .i64 0, .bool false, .bool false, .int .i64 0]) := by kernel_rfl
@[simp] theorem Tryz.fl54_0 : fldOf Tryz.prog 54 0 = some (0, 1, false) := by kernel_rfl
@[simp] theorem Tryz.fl54_1 : fldOf Tryz.prog 54 1 = some (1, 1, false) := by kernel_rfl
@[simp] theorem Tryz.fl54_2 : fldOf Tryz.prog 54 2 = some (2, 1, false) := by kernel_rfl
@[simp] theorem Tryz.fl54_3 : fldOf Tryz.prog 54 3 = some (3, 1, false) := by kernel_rfl
@[simp] theorem Tryz.fl54_4 : fldOf Tryz.prog 54 4 = some (4, 1, false) := by kernel_rfl
@[simp] theorem Tryz.bl54 : bldOf Tryz.prog 54 = some ([.int .i64 0, .int .i64 0, .bool false, .bool false, .int .i64 0], [(0, 1), (1, 1), (2, 1), (3, 1), (4, 1)]) := by kernel_rfl
@[simp] theorem Tryz.sz56 : szOf Tryz.prog 56 = some 13 := by kernel_rfl
@[simp] theorem Tryz.ag56 : aggOf Tryz.prog 56 = some true := by kernel_rfl
@[simp] theorem Tryz.ze56 : zeroOf Tryz.prog 56 = some (.agg #[.int .i64 0, .int .i64 0, .int .i64 0, .int .i64 0, .int .i64 0, .int .i64 0, .int .u64 0, .int .i64 0, .int .i64 0, .bool false, .bool false, .int .i64 0, .int .i64 0]) := by kernel_rfl
@[simp] theorem Tryz.nq56 (x0 y0 : Int) (x1 y1 : Int) (x2 y2 : Int) (x3 y3 : Int) (x4 y4 : Int) (x5 y5 : Int) (x6 y6 : Int) (x7 y7 : Int) (x8 y8 : Int) (x9 y9 : Bool) (x10 y10 : Bool) (x11 y11 : Int) (x12 y12 : Int) : binE Tryz.prog .neq 56 (.agg [.v (.int .i64 x0), .v (.int .i64 x1), .v (.int .i64 x2), .v (.int .i64 x3), .v (.int .i64 x4), .v (.int .i64 x5), .v (.int .u64 x6), .v (.int .i64 x7), .v (.int .i64 x8), .v (.bool x9), .v (.bool x10), .v (.int .i64 x11), .v (.int .i64 x12)]) (.agg [.v (.int .i64 y0), .v (.int .i64 y1), .v (.int .i64 y2), .v (.int .i64 y3), .v (.int .i64 y4), .v (.int .i64 y5), .v (.int .u64 y6), .v (.int .i64 y7), .v (.int .i64 y8), .v (.bool y9), .v (.bool y10), .v (.int .i64 y11), .v (.int .i64 y12)]) = some (.v (.bool (!((x0 == y0) && ((x1 == y1) && ((x2 == y2) && ((x3 == y3) && ((x4 == y4) && ((x5 == y5) && ((x6 == y6) && (((x7 == y7) && ((x8 == y8) && ((x9 == y9) && ((x10 == y10) && ((x11 == y11) && true))))) && ((x12 == y12) && true)))))))))))) := by kernel_rfl
@[simp] theorem Tryz.fl56_0 : fldOf Tryz.prog 56 0 = some (0, 1, false) := by kernel_rfl
@[simp] theorem Tryz.fl56_1 : fldOf Tryz.prog 56 1 = some (1, 1, false) := by kernel_rfl
@[simp] theorem Tryz.fl56_2 : fldOf Tryz.prog 56 2 = some (2, 1, false) := by kernel_rfl
@[simp] theorem Tryz.fl56_3 : fldOf Tryz.prog 56 3 = some (3, 1, false) := by kernel_rfl
@[simp] theorem Tryz.fl56_4 : fldOf Tryz.prog 56 4 = some (4, 1, false) := by kernel_rfl
@[simp] theorem Tryz.fl56_5 : fldOf Tryz.prog 56 5 = some (5, 1, false) := by kernel_rfl
@[simp] theorem Tryz.fl56_6 : fldOf Tryz.prog 56 6 = some (6, 1, false) := by kernel_rfl
@[simp] theorem Tryz.fl56_7 : fldOf Tryz.prog 56 7 = some (7, 5, true) := by kernel_rfl
@[simp] theorem Tryz.fl56_8 : fldOf Tryz.prog 56 8 = some (12, 1, false) := by kernel_rfl
@[simp] theorem Tryz.bl56 : bldOf Tryz.prog 56 = some ([.int .i64 0, .int .i64 0, .int .i64 0, .int .i64 0, .int .i64 0, .int .i64 0, .int .u64 0, .int .i64 0, .int .i64 0, .bool false, .bool false, .int .i64 0, .int .i64 0], [(0, 1), (1, 1), (2, 1), (3, 1), (4, 1), (5, 1), (6, 1), (7, 5), (12, 1)]) := by kernel_rfl
@[simp] theorem Tryz.sz71 : szOf Tryz.prog 71 = some 25 := by kernel_rfl
@[simp] theorem Tryz.ag71 : aggOf Tryz.prog 71 = some true := by kernel_rfl
@[simp] theorem Tryz.ze71 : zeroOf Tryz.prog 71 = some (.agg #[.int .u64 0, .int .u64 0, .int .u64 0, .int .u64 0, .int .u64 0, .int .u64 0, .int .u64 0, .int .u64 0, .int .u64 0, .int .u64 0, .int .u64 0, .int .u64 0, .int .u64 0, .int .u64 0, .int .u64 0, .int .u64 0, .bool false, .bool false, .bool false, .bool false, .bool false, .int .i64 0, .int .i64 0, .slice none 0 0, .int .i64 0]) := by kernel_rfl
@[simp] theorem Tryz.fl71_0 : fldOf Tryz.prog 71 0 = some (0, 23, true) := by kernel_rfl
@[simp] theorem Tryz.fl71_1 : fldOf Tryz.prog 71 1 = some (23, 1, false) := by kernel_rfl
@[simp] theorem Tryz.fl71_2 : fldOf Tryz.prog 71 2 = some (24, 1, false) := by kernel_rfl
@[simp] theorem Tryz.bl71 : bldOf Tryz.prog 71 = some ([.int .u64 0, .int .u64 0, .int .u64 0, .int .u64 0, .int .u64 0, .int .u64 0, .int .u64 0, .int .u64 0, .int .u64 0, .int .u64 0, .int .u64 0, .int .u64 0, .int .u64 0, .int .u64 0, .int .u64 0, .int .u64 0, .bool false, .bool false, .bool false, .bool false, .bool false, .int .i64 0, .int .i64 0, .slice none 0 0, .int .i64 0], [(0, 23), (23, 1), (24, 1)]) := by kernel_rfl
@[simp] theorem Tryz.sz78 : szOf Tryz.prog 78 = some 3 := by kernel_rfl
@[simp] theorem Tryz.ag78 : aggOf Tryz.prog 78 = some true := by kernel_rfl
@[simp] theorem Tryz.nq78 (x0 y0 : Bool) (x1 y1 : Bool) (x2 y2 : Int) : binE Tryz.prog .neq 78 (.agg [.v (.bool x0), .v (.bool x1), .v (.int .u64 x2)]) (.agg [.v (.bool y0), .v (.bool y1), .v (.int .u64 y2)]) = some (.v (.bool (!((x0 == y0) && ((x1 == y1) && ((x2 == y2) && true)))))) := by kernel_rfl
@[simp] theorem Tryz.fl78_2 : fldOf Tryz.prog 78 2 = some (2, 1, false) := by kernel_rfl
@[simp] theorem Tryz.bl78 : bldOf Tryz.prog 78 = some ([.bool false, .bool false, .int .u64 0], [(0, 1), (1, 1), (2, 1)]) := by kernel_rfl
@[simp] theorem Tryz.sz83 : szOf Tryz.prog 83 = some 1 := by kernel_rfl
@[simp] theorem Tryz.ag83 : aggOf Tryz.prog 83 = some false := by kernel_rfl
@[simp] theorem Tryz.ze83 : zeroOf Tryz.prog 83 = some (.pointer none) := by kernel_rfl
@[simp] theorem Tryz.fl88_0 : fldOf Tryz.prog 88 0 = some (0, 23, true) := by kernel_rfl
@[simp] theorem Tryz.fl88_1 : fldOf Tryz.prog 88 1 = some (23, 1, false) := by kernel_rfl
@[simp] theorem Tryz.fl88_2 : fldOf Tryz.prog 88 2 = some (24, 1, false) := by kernel_rfl
@[simp] theorem Tryz.fl88_3 : fldOf Tryz.prog 88 3 = some (25, 1, false) := by kernel_rfl
@[simp] theorem Tryz.bl88 : bldOf Tryz.prog 88 = some ([.int .u64 0, .int .u64 0, .int .u64 0, .int .u64 0, .int .u64 0, .int .u64 0, .int .u64 0, .int .u64 0, .int .u64 0, .int .u64 0, .int .u64 0, .int .u64 0, .int .u64 0, .int .u64 0, .int .u64 0, .int .u64 0, .bool false, .bool false, .bool false, .bool false, .bool false, .int .i64 0, .int .i64 0, .pointer none, .pointer none, .slice none 0 0], [(0, 23), (23, 1), (24, 1), (25, 1)]) := by kernel_rfl
@[simp] theorem Tryz.mp90 : mapOf Tryz.prog 90 = some (.int .i64, .nilFunc) := by kernel_rfl
@[simp] theorem Tryz.sz95 : szOf Tryz.prog 95 = some 1 := by kernel_rfl
@[simp] theorem Tryz.ag95 : aggOf Tryz.prog 95 = some false := by kernel_rfl
@[simp] theorem Tryz.el95 : elOf Tryz.prog 95 = some 5 := by kernel_rfl
@[simp] theorem Tryz.so95 (H : List Blk) (x : AV) (lo hi : Option AV) (k : AV → Prop) (w : Wit k) : sliV Tryz.prog H 95 x lo hi k w = bindOW (szOf Tryz.prog 5) (fun sz => bindOW (optI lo) (fun l => bindOW (optI hi) (fun hh => sliceVW H sz x l hh k (wit _)) (wit _)) (wit _)) (wit _) := sliV_sl Tryz.el95 H x lo hi k w
@[simp] theorem Tryz.ix95 (H : List Blk) (x i : AV) (k : AV → Prop) (w : Wit k) : idxAddrV Tryz.prog H 95 x i k w = bindOW (szOf Tryz.prog 5) (fun sz => bindOW (intA i) (fun n => idxVW H sz x n k (wit _)) (wit _)) (wit _) := idxAddrV_sl Tryz.el95 H x i k w
@[simp] theorem Tryz.bs95_9 : byS Tryz.prog 95 9 = true := by kernel_rfl
@[simp] theorem Tryz.sl95 : slbOf Tryz.prog 95 = some (5, 1, [.int .u8 0], 1) := by kernel_rfl
@[simp] theorem Tryz.fl98_0 : fldOf Tryz.prog 98 0 = some (0, 1, false) := by kernel_rfl
@[simp] theorem Tryz.fl98_1 : fldOf Tryz.prog 98 1 = some (1, 1, false) := by kernel_rfl
@[simp] theorem Tryz.bl98 : bldOf Tryz.prog 98 = some ([.slice none 0 0, .slice none 0 0], [(0, 1), (1, 1)]) := by kernel_rfl
@[simp] theorem Tryz.ud104 : undB Tryz.prog 104 = true := by kernel_rfl
@[simp] theorem Tryz.ko104 : kOf Tryz.prog 104 = some .i64 := by kernel_rfl
@[simp] theorem Tryz.mp107 : mapOf Tryz.prog 107 = some (.int .i64, .int .i64 0) := by kernel_rfl
@[simp] theorem Tryz.sz110 : szOf Tryz.prog 110 = some 8 := by kernel_rfl
@[simp] theorem Tryz.ag110 : aggOf Tryz.prog 110 = some true := by kernel_rfl
@[simp] theorem Tryz.ze110 : zeroOf Tryz.prog 110 = some (.agg #[.bool false, .bool false, .bool false, .bool false, .bool false, .bool false, .bool false, .bool false]) := by kernel_rfl
@[simp] theorem Tryz.fl110_0 : fldOf Tryz.prog 110 0 = some (0, 1, false) := by kernel_rfl
@[simp] theorem Tryz.fl110_1 : fldOf Tryz.prog 110 1 = some (1, 1, false) := by kernel_rfl
@[simp] theorem Tryz.fl110_2 : fldOf Tryz.prog 110 2 = some (2, 1, false) := by kernel_rfl
@[simp] theorem Tryz.fl110_3 : fldOf Tryz.prog 110 3 = some (3, 1, false) := by kernel_rfl
@[simp] theorem Tryz.fl110_4 : fldOf Tryz.prog 110 4 = some (4, 1, false) := by kernel_rfl
@[simp] theorem Tryz.fl110_5 : fldOf Tryz.prog 110 5 = some (5, 1, false) := by kernel_rfl
@[simp] theorem Tryz.fl110_6 : fldOf Tryz.prog 110 6 = some (6, 1, false) := by kernel_rfl
@[simp] theorem Tryz.fl110_7 : fldOf Tryz.prog 110 7 = some (7, 1, false) := by kernel_rfl
@[simp] theorem Tryz.bl110 : bldOf Tryz.prog 110 = some ([.bool false, .bool false, .bool false, .bool false, .bool false, .bool false, .bool false, .bool false], [(0, 1), (1, 1), (2, 1), (3, 1), (4, 1), (5, 1), (6, 1), (7, 1)]) := by kernel_rfl
@[simp] theorem Tryz.sz125 : szOf Tryz.prog 125 = some 4 := by kernel_rfl
@[simp] theorem Tryz.ag125 : aggOf Tryz.prog 125 = some true := by kernel_rfl
@[simp] theorem Tryz.ze125 : zeroOf Tryz.prog 125 = some (.agg #[.string ByteArray.empty, .int .i64 0, .int .i64 0, .bool false]) := by kernel_rfl
@[simp] theorem Tryz.fl125_0 : fldOf Tryz.prog 125 0 = some (0, 1, false) := by kernel_rfl
@[simp] theorem Tryz.fl125_1 : fldOf Tryz.prog 125 1 = some (1, 1, false) := by kernel_rfl
@[simp] theorem Tryz.fl125_2 : fldOf Tryz.prog 125 2 = some (2, 1, false) := by kernel_rfl
@[simp] theorem Tryz.sz126 : szOf Tryz.prog 126 = some 1 := by kernel_rfl
@[simp] theorem Tryz.ag126 : aggOf Tryz.prog 126 = some false := by kernel_rfl
@[simp] theorem Tryz.sz127 : szOf Tryz.prog 127 = some 65536 := by kernel_rfl
@[simp] theorem Tryz.ag127 : aggOf Tryz.prog 127 = some true := by kernel_rfl
@[simp] theorem Tryz.ap127 : arpOf Tryz.prog 127 = some (65536, 5) := by kernel_rfl
@[simp] theorem Tryz.so127 (H : List Blk) (x : AV) (lo hi : Option AV) (k : AV → Prop) (w : Wit k) : sliV Tryz.prog H 127 x lo hi k w = bindOW (szOf Tryz.prog 5) (fun sz => bindOW (optI lo) (fun l => bindOW (optI hi) (fun hh => sliceAW 65536 sz x l hh k (wit _)) (wit _)) (wit _)) (wit _) := sliV_ar Tryz.ap127 H x lo hi k w
@[simp] theorem Tryz.ar127 : arOf Tryz.prog 127 = some (65536, 5) := by kernel_rfl
@[simp] theorem Tryz.ix127 (H : List Blk) (x i : AV) (k : AV → Prop) (w : Wit k) : idxAddrV Tryz.prog H 127 x i k w = bindOW (szOf Tryz.prog 5) (fun sz => bindOW (intA i) (fun n => idxAW H 65536 sz x n k (wit _)) (wit _)) (wit _) := idxAddrV_ar Tryz.ar127 H x i k w
@[simp] theorem Tryz.fl129_0 : fldOf Tryz.prog 129 0 = some (0, 1, false) := by kernel_rfl
@[simp] theorem Tryz.fl129_1 : fldOf Tryz.prog 129 1 = some (1, 1, false) := by kernel_rfl
@[simp] theorem Tryz.bl129 : bldOf Tryz.prog 129 = some ([.slice none 0 0, .pointer none], [(0, 1), (1, 1)]) := by kernel_rfl
@[simp] theorem Tryz.sz130 : szOf Tryz.prog 130 = some 1 := by kernel_rfl
@[simp] theorem Tryz.ag130 : aggOf Tryz.prog 130 = some false := by kernel_rfl
@[simp] theorem Tryz.el130 : elOf Tryz.prog 130 = some 23 := by kernel_rfl
@[simp] theorem Tryz.lk130 : lkOf Tryz.prog 130 = 1 := by kernel_rfl
@[simp] theorem Tryz.ix130 (H : List Blk) (x i : AV) (k : AV → Prop) (w : Wit k) : idxAddrV Tryz.prog H 130 x i k w = bindOW (szOf Tryz.prog 23) (fun sz => bindOW (intA i) (fun n => idxVW H sz x n k (wit _)) (wit _)) (wit _) := idxAddrV_sl Tryz.el130 H x i k w
@[simp] theorem Tryz.sl130 : slbOf Tryz.prog 130 = some (23, 1, [.int .u64 0], 8) := by kernel_rfl
@[simp] theorem Tryz.sz135 : szOf Tryz.prog 135 = some 1 := by kernel_rfl
@[simp] theorem Tryz.ag135 : aggOf Tryz.prog 135 = some false := by kernel_rfl
@[simp] theorem Tryz.mp135 : mapOf Tryz.prog 135 = some (.int .i64, .int .i64 0) := by kernel_rfl
@[simp] theorem Tryz.fl137_0 : fldOf Tryz.prog 137 0 = some (0, 1, false) := by kernel_rfl
@[simp] theorem Tryz.fl137_1 : fldOf Tryz.prog 137 1 = some (1, 1, false) := by kernel_rfl
@[simp] theorem Tryz.bl137 : bldOf Tryz.prog 137 = some ([.slice none 0 0, .map none], [(0, 1), (1, 1)]) := by kernel_rfl
@[simp] theorem Tryz.sz144 : szOf Tryz.prog 144 = some 1 := by kernel_rfl
@[simp] theorem Tryz.ag144 : aggOf Tryz.prog 144 = some false := by kernel_rfl
@[simp] theorem Tryz.el156 : elOf Tryz.prog 156 = some 4 := by kernel_rfl
@[simp] theorem Tryz.ix156 (H : List Blk) (x i : AV) (k : AV → Prop) (w : Wit k) : idxAddrV Tryz.prog H 156 x i k w = bindOW (szOf Tryz.prog 4) (fun sz => bindOW (intA i) (fun n => idxVW H sz x n k (wit _)) (wit _)) (wit _) := idxAddrV_sl Tryz.el156 H x i k w
@[simp] theorem Tryz.sl156 : slbOf Tryz.prog 156 = some (4, 1, [.bool false], 1) := by kernel_rfl
@[simp] theorem Tryz.ko161 : kOf Tryz.prog 161 = some .u64 := by kernel_rfl
@[simp] theorem Tryz.mp188 : mapOf Tryz.prog 188 = some (.int .i64, .nilFunc) := by kernel_rfl
@[simp] theorem Tryz.sz198 : szOf Tryz.prog 198 = some 1 := by kernel_rfl
@[simp] theorem Tryz.ag198 : aggOf Tryz.prog 198 = some false := by kernel_rfl
@[simp] theorem Tryz.ok6 : okFn Tryz.prog 6 = true := by kernel_rfl
@[simp] theorem Tryz.ok7 : okFn Tryz.prog 7 = true := by kernel_rfl
@[simp] theorem Tryz.ok8 : okFn Tryz.prog 8 = true := by kernel_rfl
@[simp] theorem Tryz.ok9 : okFn Tryz.prog 9 = true := by kernel_rfl
@[simp] theorem Tryz.ok10 : okFn Tryz.prog 10 = true := by kernel_rfl
@[simp] theorem Tryz.ok11 : okFn Tryz.prog 11 = true := by kernel_rfl
@[simp] theorem Tryz.ok12 : okFn Tryz.prog 12 = true := by kernel_rfl
@[simp] theorem Tryz.ok13 : okFn Tryz.prog 13 = true := by kernel_rfl
@[simp] theorem Tryz.ok14 : okFn Tryz.prog 14 = true := by kernel_rfl
@[simp] theorem Tryz.ok15 : okFn Tryz.prog 15 = true := by kernel_rfl
@[simp] theorem Tryz.ok19 : okFn Tryz.prog 19 = true := by kernel_rfl
@[simp] theorem Tryz.ok23 : okFn Tryz.prog 23 = true := by kernel_rfl
@[simp] theorem Tryz.ok24 : okFn Tryz.prog 24 = true := by kernel_rfl
@[simp] theorem Tryz.ok25 : okFn Tryz.prog 25 = true := by kernel_rfl
@[simp] theorem Tryz.ok26 : okFn Tryz.prog 26 = true := by kernel_rfl
@[simp] theorem Tryz.ok27 : okFn Tryz.prog 27 = true := by kernel_rfl
@[simp] theorem Tryz.ok28 : okFn Tryz.prog 28 = true := by kernel_rfl
@[simp] theorem Tryz.ok29 : okFn Tryz.prog 29 = true := by kernel_rfl
@[simp] theorem Tryz.ok30 : okFn Tryz.prog 30 = true := by kernel_rfl
@[simp] theorem Tryz.ok31 : okFn Tryz.prog 31 = true := by kernel_rfl
@[simp] theorem Tryz.ok32 : okFn Tryz.prog 32 = true := by kernel_rfl
@[simp] theorem Tryz.ok33 : okFn Tryz.prog 33 = true := by kernel_rfl
@[simp] theorem Tryz.ok34 : okFn Tryz.prog 34 = true := by kernel_rfl
@[simp] theorem Tryz.ok35 : okFn Tryz.prog 35 = true := by kernel_rfl
@[simp] theorem Tryz.ok36 : okFn Tryz.prog 36 = true := by kernel_rfl
@[simp] theorem Tryz.ok37 : okFn Tryz.prog 37 = true := by kernel_rfl
@[simp] theorem Tryz.ok38 : okFn Tryz.prog 38 = true := by kernel_rfl
@[simp] theorem Tryz.ok39 : okFn Tryz.prog 39 = true := by kernel_rfl
@[simp] theorem Tryz.ok40 : okFn Tryz.prog 40 = true := by kernel_rfl
@[simp] theorem Tryz.ok41 : okFn Tryz.prog 41 = true := by kernel_rfl
@[simp] theorem Tryz.ok42 : okFn Tryz.prog 42 = true := by kernel_rfl
@[simp] theorem Tryz.ok43 : okFn Tryz.prog 43 = true := by kernel_rfl
@[simp] theorem Tryz.ok44 : okFn Tryz.prog 44 = true := by kernel_rfl
@[simp] theorem Tryz.ok45 : okFn Tryz.prog 45 = true := by kernel_rfl
@[simp] theorem Tryz.ok46 : okFn Tryz.prog 46 = true := by kernel_rfl
@[simp] theorem Tryz.ok47 : okFn Tryz.prog 47 = true := by kernel_rfl
@[simp] theorem Tryz.ok48 : okFn Tryz.prog 48 = true := by kernel_rfl
@[simp] theorem Tryz.ok49 : okFn Tryz.prog 49 = true := by kernel_rfl
@[simp] theorem Tryz.ok50 : okFn Tryz.prog 50 = true := by kernel_rfl
@[simp] theorem Tryz.ok51 : okFn Tryz.prog 51 = true := by kernel_rfl
@[simp] theorem Tryz.ok52 : okFn Tryz.prog 52 = true := by kernel_rfl
@[simp] theorem Tryz.ok53 : okFn Tryz.prog 53 = true := by kernel_rfl
@[simp] theorem Tryz.ok54 : okFn Tryz.prog 54 = true := by kernel_rfl
@[simp] theorem Tryz.ok60 : okFn Tryz.prog 60 = true := by kernel_rfl
@[simp] theorem Tryz.ok61 : okFn Tryz.prog 61 = true := by kernel_rfl
@[simp] theorem Tryz.ok62 : okFn Tryz.prog 62 = true := by kernel_rfl
@[simp] theorem Tryz.ok63 : okFn Tryz.prog 63 = true := by kernel_rfl
@[simp] theorem Tryz.ok64 : okFn Tryz.prog 64 = true := by kernel_rfl
@[simp] theorem Tryz.ok65 : okFn Tryz.prog 65 = true := by kernel_rfl
@[simp] theorem Tryz.ok66 : okFn Tryz.prog 66 = true := by kernel_rfl
@[simp] theorem Tryz.ok67 : okFn Tryz.prog 67 = true := by kernel_rfl
@[simp] theorem Tryz.ok68 : okFn Tryz.prog 68 = true := by kernel_rfl
@[simp] theorem Tryz.ok69 : okFn Tryz.prog 69 = true := by kernel_rfl
@[simp] theorem Tryz.ok70 : okFn Tryz.prog 70 = true := by kernel_rfl
@[simp] theorem Tryz.ok84 : okFn Tryz.prog 84 = true := by kernel_rfl
@[simp] theorem Tryz.ok85 : okFn Tryz.prog 85 = true := by kernel_rfl
@[simp] theorem Tryz.ok86 : okFn Tryz.prog 86 = true := by kernel_rfl
@[simp] theorem Tryz.ok87 : okFn Tryz.prog 87 = true := by kernel_rfl
@[simp] theorem Tryz.ok88 : okFn Tryz.prog 88 = true := by kernel_rfl
@[simp] theorem Tryz.ok89 : okFn Tryz.prog 89 = true := by kernel_rfl
@[simp] theorem Tryz.ok90 : okFn Tryz.prog 90 = true := by kernel_rfl
@[simp] theorem Tryz.ok91 : okFn Tryz.prog 91 = true := by kernel_rfl
@[simp] theorem Tryz.ok92 : okFn Tryz.prog 92 = true := by kernel_rfl
@[simp] theorem Tryz.ok93 : okFn Tryz.prog 93 = true := by kernel_rfl
@[simp] theorem Tryz.ok94 : okFn Tryz.prog 94 = true := by kernel_rfl
@[simp] theorem Tryz.ok98 : okFn Tryz.prog 98 = true := by kernel_rfl
@[simp] theorem Tryz.ok99 : okFn Tryz.prog 99 = true := by kernel_rfl
@[simp] theorem Tryz.ok100 : okFn Tryz.prog 100 = true := by kernel_rfl
@[simp] theorem Tryz.ok102 : okFn Tryz.prog 102 = true := by kernel_rfl
@[simp] theorem Tryz.ok103 : okFn Tryz.prog 103 = true := by kernel_rfl
@[simp] theorem Tryz.ok104 : okFn Tryz.prog 104 = true := by kernel_rfl
@[simp] theorem Tryz.ok105 : okFn Tryz.prog 105 = true := by kernel_rfl
@[simp] theorem Tryz.ok106 : okFn Tryz.prog 106 = true := by kernel_rfl
@[simp] theorem Tryz.ok107 : okFn Tryz.prog 107 = true := by kernel_rfl
@[simp] theorem Tryz.ok108 : okFn Tryz.prog 108 = true := by kernel_rfl
@[simp] theorem Tryz.ok109 : okFn Tryz.prog 109 = true := by kernel_rfl
@[simp] theorem Tryz.ok122 : okFn Tryz.prog 122 = true := by kernel_rfl
@[simp] theorem Tryz.ok123 : okFn Tryz.prog 123 = true := by kernel_rfl
@[simp] theorem Tryz.ok124 : okFn Tryz.prog 124 = true := by kernel_rfl
@[simp] theorem Tryz.ok125 : okFn Tryz.prog 125 = true := by kernel_rfl
@[simp] theorem Tryz.ok126 : okFn Tryz.prog 126 = true := by kernel_rfl
@[simp] theorem Tryz.ok127 : okFn Tryz.prog 127 = true := by kernel_rfl
@[simp] theorem Tryz.ok128 : okFn Tryz.prog 128 = true := by kernel_rfl
@[simp] theorem Tryz.ok143 : okFn Tryz.prog 143 = true := by kernel_rfl
@[simp] theorem Tryz.ok147 : okFn Tryz.prog 147 = true := by kernel_rfl
end Go.Proofs
