/- The program's types and functions, as the rules want them (written by a program of our own). -/
import Derived.Test.YteoimifnfkpdeaaGreatFwCptoFwN
import Derived.Test.YteoimifnfkpdeaaGreatProg
import Derived.KernelRfl
set_option linter.unusedVariables false
set_option linter.unusedSimpArgs false
namespace Go.Proofs
open Go.Mu
@[simp] theorem Tryz.ud2 : undB Tryz.prog 2 = true := by kernel_rfl
@[simp] theorem Tryz.ko2 : kOf Tryz.prog 2 = some .i64 := by kernel_rfl
@[simp] theorem Tryz.sz3 : szOf Tryz.prog 3 = some 1 := by kernel_rfl
@[simp] theorem Tryz.ag3 : aggOf Tryz.prog 3 = some false := by kernel_rfl
@[simp] theorem Tryz.ze3 : zeroOf Tryz.prog 3 = some (.int .i64 0) := by kernel_rfl
@[simp] theorem Tryz.ud3 : undB Tryz.prog 3 = true := by kernel_rfl
@[simp] theorem Tryz.ko3 : kOf Tryz.prog 3 = some .i64 := by kernel_rfl
@[simp] theorem Tryz.sz4 : szOf Tryz.prog 4 = some 1 := by kernel_rfl
@[simp] theorem Tryz.ag4 : aggOf Tryz.prog 4 = some false := by kernel_rfl
@[simp] theorem Tryz.sz5 : szOf Tryz.prog 5 = some 1 := by kernel_rfl
@[simp] theorem Tryz.ag5 : aggOf Tryz.prog 5 = some false := by kernel_rfl
@[simp] theorem Tryz.ud5 : undB Tryz.prog 5 = true := by kernel_rfl
@[simp] theorem Tryz.ko5 : kOf Tryz.prog 5 = some .u8 := by kernel_rfl
@[simp] theorem Tryz.sz9 : szOf Tryz.prog 9 = some 1 := by kernel_rfl
@[simp] theorem Tryz.ag9 : aggOf Tryz.prog 9 = some false := by kernel_rfl
@[simp] theorem Tryz.lk9 : lkOf Tryz.prog 9 = 2 := by kernel_rfl
@[simp] theorem Tryz.sz22 : szOf Tryz.prog 22 = some 1 := by kernel_rfl
@[simp] theorem Tryz.ag22 : aggOf Tryz.prog 22 = some false := by kernel_rfl
@[simp] theorem Tryz.el22 : elOf Tryz.prog 22 = some 3 := by kernel_rfl
@[simp] theorem Tryz.so22 (H : List Blk) (x : AV) (lo hi : Option AV) (k : AV → Prop) (w : Wit k) : sliV Tryz.prog H 22 x lo hi k w = bindOW (szOf Tryz.prog 3) (fun sz => bindOW (optI lo) (fun l => bindOW (optI hi) (fun hh => sliceVW H sz x l hh k (wit _)) (wit _)) (wit _)) (wit _) := sliV_sl Tryz.el22 H x lo hi k w
@[simp] theorem Tryz.lk22 : lkOf Tryz.prog 22 = 1 := by kernel_rfl
@[simp] theorem Tryz.ix22 (H : List Blk) (x i : AV) (k : AV → Prop) (w : Wit k) : idxAddrV Tryz.prog H 22 x i k w = bindOW (szOf Tryz.prog 3) (fun sz => bindOW (intA i) (fun n => idxVW H sz x n k (wit _)) (wit _)) (wit _) := idxAddrV_sl Tryz.el22 H x i k w
@[simp] theorem Tryz.sl22 : slbOf Tryz.prog 22 = some (3, 1, [.int .i64 0], 8) := by kernel_rfl
@[simp] theorem Tryz.sz23 : szOf Tryz.prog 23 = some 1 := by kernel_rfl
@[simp] theorem Tryz.ag23 : aggOf Tryz.prog 23 = some false := by kernel_rfl
@[simp] theorem Tryz.el23 : elOf Tryz.prog 23 = some 67 := by kernel_rfl
@[simp] theorem Tryz.lk23 : lkOf Tryz.prog 23 = 1 := by kernel_rfl
@[simp] theorem Tryz.ix23 (H : List Blk) (x i : AV) (k : AV → Prop) (w : Wit k) : idxAddrV Tryz.prog H 23 x i k w = bindOW (szOf Tryz.prog 67) (fun sz => bindOW (intA i) (fun n => idxVW H sz x n k (wit _)) (wit _)) (wit _) := idxAddrV_sl Tryz.el23 H x i k w
@[simp] theorem Tryz.sl23 : slbOf Tryz.prog 23 = some (67, 11, [.int .i64 0, .int .i64 0, .int .i64 0, .int .i64 0, .int .i64 0, .int .i64 0, .int .i64 0, .int .u64 0, .bool false, .int .i64 0, .int .i64 0], 88) := by kernel_rfl
@[simp] theorem Tryz.sz25 : szOf Tryz.prog 25 = some 5 := by kernel_rfl
@[simp] theorem Tryz.ag25 : aggOf Tryz.prog 25 = some true := by kernel_rfl
@[simp] theorem Tryz.ze25 : zeroOf Tryz.prog 25 = some (.agg #[.int .i64 0, .slice none 0 0, .slice none 0 0, .int .i64 0, .slice none 0 0]) := by kernel_rfl
@[simp] theorem Tryz.fl25_0 : fldOf Tryz.prog 25 0 = some (0, 1, false) := by kernel_rfl
@[simp] theorem Tryz.fl25_1 : fldOf Tryz.prog 25 1 = some (1, 1, false) := by kernel_rfl
@[simp] theorem Tryz.fl25_2 : fldOf Tryz.prog 25 2 = some (2, 1, false) := by kernel_rfl
@[simp] theorem Tryz.fl25_3 : fldOf Tryz.prog 25 3 = some (3, 1, false) := by kernel_rfl
@[simp] theorem Tryz.fl25_4 : fldOf Tryz.prog 25 4 = some (4, 1, false) := by kernel_rfl
@[simp] theorem Tryz.bl25 : bldOf Tryz.prog 25 = some ([.int .i64 0, .slice none 0 0, .slice none 0 0, .int .i64 0, .slice none 0 0], [(0, 1), (1, 1), (2, 1), (3, 1), (4, 1)]) := by kernel_rfl
@[simp] theorem Tryz.sz26 : szOf Tryz.prog 26 = some 1 := by kernel_rfl
@[simp] theorem Tryz.ag26 : aggOf Tryz.prog 26 = some false := by kernel_rfl
@[simp] theorem Tryz.el26 : elOf Tryz.prog 26 = some 29 := by kernel_rfl
@[simp] theorem Tryz.so26 (H : List Blk) (x : AV) (lo hi : Option AV) (k : AV → Prop) (w : Wit k) : sliV Tryz.prog H 26 x lo hi k w = bindOW (szOf Tryz.prog 29) (fun sz => bindOW (optI lo) (fun l => bindOW (optI hi) (fun hh => sliceVW H sz x l hh k (wit _)) (wit _)) (wit _)) (wit _) := sliV_sl Tryz.el26 H x lo hi k w
@[simp] theorem Tryz.lk26 : lkOf Tryz.prog 26 = 1 := by kernel_rfl
@[simp] theorem Tryz.ix26 (H : List Blk) (x i : AV) (k : AV → Prop) (w : Wit k) : idxAddrV Tryz.prog H 26 x i k w = bindOW (szOf Tryz.prog 29) (fun sz => bindOW (intA i) (fun n => idxVW H sz x n k (wit _)) (wit _)) (wit _) := idxAddrV_sl Tryz.el26 H x i k w
@[simp] theorem Tryz.sl26 : slbOf Tryz.prog 26 = some (29, 1, [.int .u64 0], 8) := by kernel_rfl
@[simp] theorem Tryz.sz27 : szOf Tryz.prog 27 = some 1 := by kernel_rfl
@[simp] theorem Tryz.ag27 : aggOf Tryz.prog 27 = some false := by kernel_rfl
@[simp] theorem Tryz.el27 : elOf Tryz.prog 27 = some 134 := by kernel_rfl
@[simp] theorem Tryz.so27 (H : List Blk) (x : AV) (lo hi : Option AV) (k : AV → Prop) (w : Wit k) : sliV Tryz.prog H 27 x lo hi k w = bindOW (szOf Tryz.prog 134) (fun sz => bindOW (optI lo) (fun l => bindOW (optI hi) (fun hh => sliceVW H sz x l hh k (wit _)) (wit _)) (wit _)) (wit _) := sliV_sl Tryz.el27 H x lo hi k w
@[simp] theorem Tryz.lk27 : lkOf Tryz.prog 27 = 1 := by kernel_rfl
@[simp] theorem Tryz.ix27 (H : List Blk) (x i : AV) (k : AV → Prop) (w : Wit k) : idxAddrV Tryz.prog H 27 x i k w = bindOW (szOf Tryz.prog 134) (fun sz => bindOW (intA i) (fun n => idxVW H sz x n k (wit _)) (wit _)) (wit _) := idxAddrV_sl Tryz.el27 H x i k w
@[simp] theorem Tryz.sl27 : slbOf Tryz.prog 27 = some (134, 4, [.string ByteArray.empty, .int .i64 0, .int .i64 0, .bool false], 40) := by kernel_rfl
@[simp] theorem Tryz.el28 : elOf Tryz.prog 28 = some 26 := by kernel_rfl
@[simp] theorem Tryz.lk28 : lkOf Tryz.prog 28 = 1 := by kernel_rfl
@[simp] theorem Tryz.ix28 (H : List Blk) (x i : AV) (k : AV → Prop) (w : Wit k) : idxAddrV Tryz.prog H 28 x i k w = bindOW (szOf Tryz.prog 26) (fun sz => bindOW (intA i) (fun n => idxVW H sz x n k (wit _)) (wit _)) (wit _) := idxAddrV_sl Tryz.el28 H x i k w
@[simp] theorem Tryz.sl28 : slbOf Tryz.prog 28 = some (26, 1, [.slice none 0 0], 24) := by kernel_rfl
@[simp] theorem Tryz.sz29 : szOf Tryz.prog 29 = some 1 := by kernel_rfl
@[simp] theorem Tryz.ag29 : aggOf Tryz.prog 29 = some false := by kernel_rfl
@[simp] theorem Tryz.ud29 : undB Tryz.prog 29 = true := by kernel_rfl
@[simp] theorem Tryz.ko29 : kOf Tryz.prog 29 = some .u64 := by kernel_rfl
@[simp] theorem Tryz.sz41 : szOf Tryz.prog 41 = some 1 := by kernel_rfl
@[simp] theorem Tryz.ag41 : aggOf Tryz.prog 41 = some false := by kernel_rfl
@[simp] theorem Tryz.ze41 : zeroOf Tryz.prog 41 = some (.int .i64 0) := by kernel_rfl
@[simp] theorem Tryz.sz44 : szOf Tryz.prog 44 = some 1 := by kernel_rfl
@[simp] theorem Tryz.ag44 : aggOf Tryz.prog 44 = some false := by kernel_rfl
@[simp] theorem Tryz.el44 : elOf Tryz.prog 44 = some 51 := by kernel_rfl
@[simp] theorem Tryz.lk44 : lkOf Tryz.prog 44 = 1 := by kernel_rfl
@[simp] theorem Tryz.ix44 (H : List Blk) (x i : AV) (k : AV → Prop) (w : Wit k) : idxAddrV Tryz.prog H 44 x i k w = bindOW (szOf Tryz.prog 51) (fun sz => bindOW (intA i) (fun n => idxVW H sz x n k (wit _)) (wit _)) (wit _) := idxAddrV_sl Tryz.el44 H x i k w
@[simp] theorem Tryz.sl44 : slbOf Tryz.prog 44 = some (51, 3, [.bool false, .bool false, .int .u64 0], 16) := by kernel_rfl
@[simp] theorem Tryz.sz46 : szOf Tryz.prog 46 = some 4 := by kernel_rfl
@[simp] theorem Tryz.ag46 : aggOf Tryz.prog 46 = some true := by kernel_rfl
@[simp] theorem Tryz.ze46 : zeroOf Tryz.prog 46 = some (.agg #[.slice none 0 0, .slice none 0 0, .int .i64 0, .int .i64 0]) := by kernel_rfl
@[simp] theorem Tryz.fl46_0 : fldOf Tryz.prog 46 0 = some (0, 1, false) := by kernel_rfl
@[simp] theorem Tryz.fl46_1 : fldOf Tryz.prog 46 1 = some (1, 1, false) := by kernel_rfl
@[simp] theorem Tryz.fl46_2 : fldOf Tryz.prog 46 2 = some (2, 1, false) := by kernel_rfl
@[simp] theorem Tryz.fl46_3 : fldOf Tryz.prog 46 3 = some (3, 1, false) := by kernel_rfl
@[simp] theorem Tryz.sz51 : szOf Tryz.prog 51 = some 3 := by kernel_rfl
@[simp] theorem Tryz.ag51 : aggOf Tryz.prog 51 = some true := by kernel_rfl
@[simp] theorem Tryz.nq51 (x0 y0 : Bool) (x1 y1 : Bool) (x2 y2 : Int) : binE Tryz.prog .neq 51 (.agg [.v (.bool x0), .v (.bool x1), .v (.int .u64 x2)]) (.agg [.v (.bool y0), .v (.bool y1), .v (.int .u64 y2)]) = some (.v (.bool (!((x0 == y0) && ((x1 == y1) && ((x2 == y2) && true)))))) := by kernel_rfl
@[simp] theorem Tryz.bl51 : bldOf Tryz.prog 51 = some ([.bool false, .bool false, .int .u64 0], [(0, 1), (1, 1), (2, 1)]) := by kernel_rfl
@[simp] theorem Tryz.el53 : elOf Tryz.prog 53 = some 22 := by kernel_rfl
@[simp] theorem Tryz.lk53 : lkOf Tryz.prog 53 = 1 := by kernel_rfl
@[simp] theorem Tryz.ix53 (H : List Blk) (x i : AV) (k : AV → Prop) (w : Wit k) : idxAddrV Tryz.prog H 53 x i k w = bindOW (szOf Tryz.prog 22) (fun sz => bindOW (intA i) (fun n => idxVW H sz x n k (wit _)) (wit _)) (wit _) := idxAddrV_sl Tryz.el53 H x i k w
@[simp] theorem Tryz.sl53 : slbOf Tryz.prog 53 = some (22, 1, [.slice none 0 0], 24) := by kernel_rfl
@[simp] theorem Tryz.sz61 : szOf Tryz.prog 61 = some 1 := by kernel_rfl
@[simp] theorem Tryz.ag61 : aggOf Tryz.prog 61 = some false := by kernel_rfl
@[simp] theorem Tryz.sz62 : szOf Tryz.prog 62 = some 1 := by kernel_rfl
@[simp] theorem Tryz.ag62 : aggOf Tryz.prog 62 = some false := by kernel_rfl
@[simp] theorem Tryz.sz63 : szOf Tryz.prog 63 = some 1 := by kernel_rfl
@[simp] theorem Tryz.ag63 : aggOf Tryz.prog 63 = some false := by kernel_rfl
@[simp] theorem Tryz.sz65 : szOf Tryz.prog 65 = some 8 := by kernel_rfl
@[simp] theorem Tryz.ag65 : aggOf Tryz.prog 65 = some true := by kernel_rfl
@[simp] theorem Tryz.ze65 : zeroOf Tryz.prog 65 = some (.agg #[.int .i64 0, .int .i64 0, .int .i64 0, .int .i64 0, .int .i64 0, .int .i64 0, .int .u64 0, .bool false]) := by kernel_rfl
@[simp] theorem Tryz.eq65 (x0 y0 : Int) (x1 y1 : Int) (x2 y2 : Int) (x3 y3 : Int) (x4 y4 : Int) (x5 y5 : Int) (x6 y6 : Int) (x7 y7 : Bool) : binE Tryz.prog .eql 65 (.agg [.v (.int .i64 x0), .v (.int .i64 x1), .v (.int .i64 x2), .v (.int .i64 x3), .v (.int .i64 x4), .v (.int .i64 x5), .v (.int .u64 x6), .v (.bool x7)]) (.agg [.v (.int .i64 y0), .v (.int .i64 y1), .v (.int .i64 y2), .v (.int .i64 y3), .v (.int .i64 y4), .v (.int .i64 y5), .v (.int .u64 y6), .v (.bool y7)]) = some (.v (.bool ((x0 == y0) && ((x1 == y1) && ((x2 == y2) && ((x3 == y3) && ((x4 == y4) && ((x5 == y5) && ((x6 == y6) && ((x7 == y7) && true)))))))))) := by kernel_rfl
@[simp] theorem Tryz.nq65 (x0 y0 : Int) (x1 y1 : Int) (x2 y2 : Int) (x3 y3 : Int) (x4 y4 : Int) (x5 y5 : Int) (x6 y6 : Int) (x7 y7 : Bool) : binE Tryz.prog .neq 65 (.agg [.v (.int .i64 x0), .v (.int .i64 x1), .v (.int .i64 x2), .v (.int .i64 x3), .v (.int .i64 x4), .v (.int .i64 x5), .v (.int .u64 x6), .v (.bool x7)]) (.agg [.v (.int .i64 y0), .v (.int .i64 y1), .v (.int .i64 y2), .v (.int .i64 y3), .v (.int .i64 y4), .v (.int .i64 y5), .v (.int .u64 y6), .v (.bool y7)]) = some (.v (.bool (!((x0 == y0) && ((x1 == y1) && ((x2 == y2) && ((x3 == y3) && ((x4 == y4) && ((x5 == y5) && ((x6 == y6) && ((x7 == y7) && true))))))))))) := by kernel_rfl
@[simp] theorem Tryz.fl65_0 : fldOf Tryz.prog 65 0 = some (0, 1, false) := by kernel_rfl
@[simp] theorem Tryz.fl65_1 : fldOf Tryz.prog 65 1 = some (1, 1, false) := by kernel_rfl
@[simp] theorem Tryz.fl65_2 : fldOf Tryz.prog 65 2 = some (2, 1, false) := by kernel_rfl
@[simp] theorem Tryz.fl65_3 : fldOf Tryz.prog 65 3 = some (3, 1, false) := by kernel_rfl
@[simp] theorem Tryz.fl65_4 : fldOf Tryz.prog 65 4 = some (4, 1, false) := by kernel_rfl
@[simp] theorem Tryz.fl65_5 : fldOf Tryz.prog 65 5 = some (5, 1, false) := by kernel_rfl
@[simp] theorem Tryz.fl65_6 : fldOf Tryz.prog 65 6 = some (6, 1, false) := by kernel_rfl
@[simp] theorem Tryz.fl65_7 : fldOf Tryz.prog 65 7 = some (7, 1, false) := by kernel_rfl
@[simp] theorem Tryz.bl65 : bldOf Tryz.prog 65 = some ([.int .i64 0, .int .i64 0, .int .i64 0, .int .i64 0, .int .i64 0, .int .i64 0, .int .u64 0, .bool false], [(0, 1), (1, 1), (2, 1), (3, 1), (4, 1), (5, 1), (6, 1), (7, 1)]) := by kernel_rfl
@[simp] theorem Tryz.sz67 : szOf Tryz.prog 67 = some 11 := by kernel_rfl
@[simp] theorem Tryz.ag67 : aggOf Tryz.prog 67 = some true := by kernel_rfl
@[simp] theorem Tryz.ze67 : zeroOf Tryz.prog 67 = some (.agg #[.int .i64 0, .int .i64 0, .int .i64 0, .int .i64 0, .int .i64 0, .int .i64 0, .int .i64 0, .int .u64 0, .bool false, .int .i64 0, .int .i64 0]) := by kernel_rfl
@[simp] theorem Tryz.nq67 (x0 y0 : Int) (x1 y1 : Int) (x2 y2 : Int) (x3 y3 : Int) (x4 y4 : Int) (x5 y5 : Int) (x6 y6 : Int) (x7 y7 : Int) (x8 y8 : Bool) (x9 y9 : Int) (x10 y10 : Int) : binE Tryz.prog .neq 67 (.agg [.v (.int .i64 x0), .v (.int .i64 x1), .v (.int .i64 x2), .v (.int .i64 x3), .v (.int .i64 x4), .v (.int .i64 x5), .v (.int .i64 x6), .v (.int .u64 x7), .v (.bool x8), .v (.int .i64 x9), .v (.int .i64 x10)]) (.agg [.v (.int .i64 y0), .v (.int .i64 y1), .v (.int .i64 y2), .v (.int .i64 y3), .v (.int .i64 y4), .v (.int .i64 y5), .v (.int .i64 y6), .v (.int .u64 y7), .v (.bool y8), .v (.int .i64 y9), .v (.int .i64 y10)]) = some (.v (.bool (!((x0 == y0) && (((x1 == y1) && ((x2 == y2) && ((x3 == y3) && ((x4 == y4) && ((x5 == y5) && ((x6 == y6) && ((x7 == y7) && ((x8 == y8) && true)))))))) && ((x9 == y9) && ((x10 == y10) && true))))))) := by kernel_rfl
@[simp] theorem Tryz.fl67_0 : fldOf Tryz.prog 67 0 = some (0, 1, false) := by kernel_rfl
@[simp] theorem Tryz.fl67_1 : fldOf Tryz.prog 67 1 = some (1, 8, true) := by kernel_rfl
@[simp] theorem Tryz.fl67_2 : fldOf Tryz.prog 67 2 = some (9, 1, false) := by kernel_rfl
@[simp] theorem Tryz.fl67_3 : fldOf Tryz.prog 67 3 = some (10, 1, false) := by kernel_rfl
@[simp] theorem Tryz.bl67 : bldOf Tryz.prog 67 = some ([.int .i64 0, .int .i64 0, .int .i64 0, .int .i64 0, .int .i64 0, .int .i64 0, .int .i64 0, .int .u64 0, .bool false, .int .i64 0, .int .i64 0], [(0, 1), (1, 8), (9, 1), (10, 1)]) := by kernel_rfl
@[simp] theorem Tryz.mp88 : mapOf Tryz.prog 88 = some (.int .i64, .int .i64 0) := by kernel_rfl
@[simp] theorem Tryz.sz93 : szOf Tryz.prog 93 = some 1 := by kernel_rfl
@[simp] theorem Tryz.ag93 : aggOf Tryz.prog 93 = some false := by kernel_rfl
@[simp] theorem Tryz.el93 : elOf Tryz.prog 93 = some 5 := by kernel_rfl
@[simp] theorem Tryz.lk93 : lkOf Tryz.prog 93 = 1 := by kernel_rfl
@[simp] theorem Tryz.ix93 (H : List Blk) (x i : AV) (k : AV → Prop) (w : Wit k) : idxAddrV Tryz.prog H 93 x i k w = bindOW (szOf Tryz.prog 5) (fun sz => bindOW (intA i) (fun n => idxVW H sz x n k (wit _)) (wit _)) (wit _) := idxAddrV_sl Tryz.el93 H x i k w
@[simp] theorem Tryz.sl93 : slbOf Tryz.prog 93 = some (5, 1, [.int .u8 0], 1) := by kernel_rfl
@[simp] theorem Tryz.sz111 : szOf Tryz.prog 111 = some 1 := by kernel_rfl
@[simp] theorem Tryz.ag111 : aggOf Tryz.prog 111 = some false := by kernel_rfl
@[simp] theorem Tryz.sz112 : szOf Tryz.prog 112 = some 1 := by kernel_rfl
@[simp] theorem Tryz.ag112 : aggOf Tryz.prog 112 = some false := by kernel_rfl
@[simp] theorem Tryz.el112 : elOf Tryz.prog 112 = some 114 := by kernel_rfl
@[simp] theorem Tryz.lk112 : lkOf Tryz.prog 112 = 1 := by kernel_rfl
@[simp] theorem Tryz.ix112 (H : List Blk) (x i : AV) (k : AV → Prop) (w : Wit k) : idxAddrV Tryz.prog H 112 x i k w = bindOW (szOf Tryz.prog 114) (fun sz => bindOW (intA i) (fun n => idxVW H sz x n k (wit _)) (wit _)) (wit _) := idxAddrV_sl Tryz.el112 H x i k w
@[simp] theorem Tryz.sl112 : slbOf Tryz.prog 112 = some (114, 13, [.int .i64 0, .int .i64 0, .int .i64 0, .int .i64 0, .int .i64 0, .int .i64 0, .int .i64 0, .int .u64 0, .bool false, .int .i64 0, .slice none 0 0, .slice none 0 0, .slice none 0 0], 152) := by kernel_rfl
@[simp] theorem Tryz.sz114 : szOf Tryz.prog 114 = some 13 := by kernel_rfl
@[simp] theorem Tryz.ag114 : aggOf Tryz.prog 114 = some true := by kernel_rfl
@[simp] theorem Tryz.ze114 : zeroOf Tryz.prog 114 = some (.agg #[.int .i64 0, .int .i64 0, .int .i64 0, .int .i64 0, .int .i64 0, .int .i64 0, .int .i64 0, .int .u64 0, .bool false, .int .i64 0, .slice none 0 0, .slice none 0 0, .slice none 0 0]) := by kernel_rfl
@[simp] theorem Tryz.fl114_0 : fldOf Tryz.prog 114 0 = some (0, 1, false) := by kernel_rfl
@[simp] theorem Tryz.fl114_1 : fldOf Tryz.prog 114 1 = some (1, 8, true) := by kernel_rfl
@[simp] theorem Tryz.fl114_2 : fldOf Tryz.prog 114 2 = some (9, 1, false) := by kernel_rfl
@[simp] theorem Tryz.fl114_3 : fldOf Tryz.prog 114 3 = some (10, 1, false) := by kernel_rfl
@[simp] theorem Tryz.fl114_4 : fldOf Tryz.prog 114 4 = some (11, 1, false) := by kernel_rfl
@[simp] theorem Tryz.fl114_5 : fldOf Tryz.prog 114 5 = some (12, 1, false) := by kernel_rfl
@[simp] theorem Tryz.bl114 : bldOf Tryz.prog 114 = some ([.int .i64 0, .int .i64 0, .int .i64 0, .int .i64 0, .int .i64 0, .int .i64 0, .int .i64 0, .int .u64 0, .bool false, .int .i64 0, .slice none 0 0, .slice none 0 0, .slice none 0 0], [(0, 1), (1, 8), (9, 1), (10, 1), (11, 1), (12, 1)]) := by kernel_rfl
@[simp] theorem Tryz.sz116 : szOf Tryz.prog 116 = some 5 := by kernel_rfl
@[simp] theorem Tryz.ag116 : aggOf Tryz.prog 116 = some true := by kernel_rfl
@[simp] theorem Tryz.fl116_0 : fldOf Tryz.prog 116 0 = some (0, 1, false) := by kernel_rfl
@[simp] theorem Tryz.fl116_1 : fldOf Tryz.prog 116 1 = some (1, 1, false) := by kernel_rfl
@[simp] theorem Tryz.fl116_2 : fldOf Tryz.prog 116 2 = some (2, 1, false) := by kernel_rfl
@[simp] theorem Tryz.fl116_3 : fldOf Tryz.prog 116 3 = some (3, 1, false) := by kernel_rfl
@[simp] theorem Tryz.fl116_4 : fldOf Tryz.prog 116 4 = some (4, 1, false) := by kernel_rfl
@[simp] theorem Tryz.bl116 : bldOf Tryz.prog 116 = some ([.int .i64 0, .slice none 0 0, .slice none 0 0, .int .i64 0, .slice none 0 0], [(0, 1), (1, 1), (2, 1), (3, 1), (4, 1)]) := by kernel_rfl
@[simp] theorem Tryz.el119 : elOf Tryz.prog 119 = some 120 := by kernel_rfl
@[simp] theorem Tryz.lk119 : lkOf Tryz.prog 119 = 1 := by kernel_rfl
@[simp] theorem Tryz.ix119 (H : List Blk) (x i : AV) (k : AV → Prop) (w : Wit k) : idxAddrV Tryz.prog H 119 x i k w = bindOW (szOf Tryz.prog 120) (fun sz => bindOW (intA i) (fun n => idxVW H sz x n k (wit _)) (wit _)) (wit _) := idxAddrV_sl Tryz.el119 H x i k w
@[simp] theorem Tryz.sl119 : slbOf Tryz.prog 119 = some (120, 1, [.map none], 8) := by kernel_rfl
@[simp] theorem Tryz.sz120 : szOf Tryz.prog 120 = some 1 := by kernel_rfl
@[simp] theorem Tryz.ag120 : aggOf Tryz.prog 120 = some false := by kernel_rfl
@[simp] theorem Tryz.ze120 : zeroOf Tryz.prog 120 = some (.map none) := by kernel_rfl
@[simp] theorem Tryz.mp120 : mapOf Tryz.prog 120 = some (.int .i64, .agg #[.bool false]) := by kernel_rfl
@[simp] theorem Tryz.mt120 : isMapT Tryz.prog 120 = true := by kernel_rfl
@[simp] theorem Tryz.fl121_0 : fldOf Tryz.prog 121 0 = some (0, 1, false) := by kernel_rfl
@[simp] theorem Tryz.bl121 : bldOf Tryz.prog 121 = some ([.bool false], [(0, 1)]) := by kernel_rfl
@[simp] theorem Tryz.sz134 : szOf Tryz.prog 134 = some 4 := by kernel_rfl
@[simp] theorem Tryz.ag134 : aggOf Tryz.prog 134 = some true := by kernel_rfl
@[simp] theorem Tryz.ze134 : zeroOf Tryz.prog 134 = some (.agg #[.string ByteArray.empty, .int .i64 0, .int .i64 0, .bool false]) := by kernel_rfl
@[simp] theorem Tryz.fl134_0 : fldOf Tryz.prog 134 0 = some (0, 1, false) := by kernel_rfl
@[simp] theorem Tryz.fl134_1 : fldOf Tryz.prog 134 1 = some (1, 1, false) := by kernel_rfl
@[simp] theorem Tryz.fl134_2 : fldOf Tryz.prog 134 2 = some (2, 1, false) := by kernel_rfl
@[simp] theorem Tryz.fl139_0 : fldOf Tryz.prog 139 0 = some (0, 1, false) := by kernel_rfl
@[simp] theorem Tryz.fl139_1 : fldOf Tryz.prog 139 1 = some (1, 1, false) := by kernel_rfl
@[simp] theorem Tryz.bl139 : bldOf Tryz.prog 139 = some ([.slice none 0 0, .slice none 0 0], [(0, 1), (1, 1)]) := by kernel_rfl
@[simp] theorem Tryz.sz149 : szOf Tryz.prog 149 = some 1 := by kernel_rfl
@[simp] theorem Tryz.ag149 : aggOf Tryz.prog 149 = some false := by kernel_rfl
@[simp] theorem Tryz.fl151_0 : fldOf Tryz.prog 151 0 = some (0, 1, false) := by kernel_rfl
@[simp] theorem Tryz.fl151_1 : fldOf Tryz.prog 151 1 = some (1, 1, false) := by kernel_rfl
@[simp] theorem Tryz.bl151 : bldOf Tryz.prog 151 = some ([.slice none 0 0, .pointer none], [(0, 1), (1, 1)]) := by kernel_rfl
@[simp] theorem Tryz.sz166 : szOf Tryz.prog 166 = some 0 := by kernel_rfl
@[simp] theorem Tryz.ze166 : zeroOf Tryz.prog 166 = some (.agg #[]) := by kernel_rfl
@[simp] theorem Tryz.ni166 : isNonIface Tryz.prog 166 = true := by kernel_rfl
@[simp] theorem Tryz.bl166 : bldOf Tryz.prog 166 = some ([], []) := by kernel_rfl
@[simp] theorem Tryz.fl169_0 : fldOf Tryz.prog 169 0 = some (0, 1, false) := by kernel_rfl
@[simp] theorem Tryz.fl169_1 : fldOf Tryz.prog 169 1 = some (1, 1, false) := by kernel_rfl
@[simp] theorem Tryz.bl169 : bldOf Tryz.prog 169 = some ([.slice none 0 0, .int .i64 0], [(0, 1), (1, 1)]) := by kernel_rfl
@[simp] theorem Tryz.ap183 : arpOf Tryz.prog 183 = some (65536, 5) := by kernel_rfl
@[simp] theorem Tryz.so183 (H : List Blk) (x : AV) (lo hi : Option AV) (k : AV → Prop) (w : Wit k) : sliV Tryz.prog H 183 x lo hi k w = bindOW (szOf Tryz.prog 5) (fun sz => bindOW (optI lo) (fun l => bindOW (optI hi) (fun hh => sliceAW 65536 sz x l hh k (wit _)) (wit _)) (wit _)) (wit _) := sliV_ar Tryz.ap183 H x lo hi k w
@[simp] theorem Tryz.ar183 : arOf Tryz.prog 183 = some (65536, 5) := by kernel_rfl
@[simp] theorem Tryz.ix183 (H : List Blk) (x i : AV) (k : AV → Prop) (w : Wit k) : idxAddrV Tryz.prog H 183 x i k w = bindOW (szOf Tryz.prog 5) (fun sz => bindOW (intA i) (fun n => idxAW H 65536 sz x n k (wit _)) (wit _)) (wit _) := idxAddrV_ar Tryz.ar183 H x i k w
@[simp] theorem Tryz.ko184 : kOf Tryz.prog 184 = some .u64 := by kernel_rfl
@[simp] theorem Tryz.sz211 : szOf Tryz.prog 211 = some 1 := by kernel_rfl
@[simp] theorem Tryz.ag211 : aggOf Tryz.prog 211 = some false := by kernel_rfl
@[simp] theorem Tryz.ze211 : zeroOf Tryz.prog 211 = some (.pointer none) := by kernel_rfl
@[simp] theorem Tryz.fl213_0 : fldOf Tryz.prog 213 0 = some (0, 1, false) := by kernel_rfl
@[simp] theorem Tryz.fl213_1 : fldOf Tryz.prog 213 1 = some (1, 1, false) := by kernel_rfl
@[simp] theorem Tryz.bl213 : bldOf Tryz.prog 213 = some ([.int .i64 0, .int .i64 0], [(0, 1), (1, 1)]) := by kernel_rfl
@[simp] theorem Tryz.mp221 : mapOf Tryz.prog 221 = some (.int .i64, .nilFunc) := by kernel_rfl
@[simp] theorem Tryz.sz247 : szOf Tryz.prog 247 = some 1 := by kernel_rfl
@[simp] theorem Tryz.ag247 : aggOf Tryz.prog 247 = some false := by kernel_rfl
@[simp] theorem Tryz.sz248 : szOf Tryz.prog 248 = some 1 := by kernel_rfl
@[simp] theorem Tryz.ag248 : aggOf Tryz.prog 248 = some false := by kernel_rfl
@[simp] theorem Tryz.ze248 : zeroOf Tryz.prog 248 = some (.nilFunc) := by kernel_rfl
@[simp] theorem Tryz.sz249 : szOf Tryz.prog 249 = some 1 := by kernel_rfl
@[simp] theorem Tryz.ag249 : aggOf Tryz.prog 249 = some false := by kernel_rfl
@[simp] theorem Tryz.ok6 : okFn Tryz.prog 6 = true := by kernel_rfl
@[simp] theorem Tryz.ok9 : okFn Tryz.prog 9 = true := by kernel_rfl
@[simp] theorem Tryz.ok12 : okFn Tryz.prog 12 = true := by kernel_rfl
@[simp] theorem Tryz.ok13 : okFn Tryz.prog 13 = true := by kernel_rfl
@[simp] theorem Tryz.ok14 : okFn Tryz.prog 14 = true := by kernel_rfl
@[simp] theorem Tryz.ok15 : okFn Tryz.prog 15 = true := by kernel_rfl
@[simp] theorem Tryz.ok16 : okFn Tryz.prog 16 = true := by kernel_rfl
@[simp] theorem Tryz.ok17 : okFn Tryz.prog 17 = true := by kernel_rfl
@[simp] theorem Tryz.ok18 : okFn Tryz.prog 18 = true := by kernel_rfl
@[simp] theorem Tryz.ok22 : okFn Tryz.prog 22 = true := by kernel_rfl
@[simp] theorem Tryz.ok23 : okFn Tryz.prog 23 = true := by kernel_rfl
@[simp] theorem Tryz.ok24 : okFn Tryz.prog 24 = true := by kernel_rfl
@[simp] theorem Tryz.ok25 : okFn Tryz.prog 25 = true := by kernel_rfl
@[simp] theorem Tryz.ok26 : okFn Tryz.prog 26 = true := by kernel_rfl
@[simp] theorem Tryz.ok31 : okFn Tryz.prog 31 = true := by kernel_rfl
@[simp] theorem Tryz.ok33 : okFn Tryz.prog 33 = true := by kernel_rfl
@[simp] theorem Tryz.ok34 : okFn Tryz.prog 34 = true := by kernel_rfl
@[simp] theorem Tryz.ok35 : okFn Tryz.prog 35 = true := by kernel_rfl
@[simp] theorem Tryz.ok36 : okFn Tryz.prog 36 = true := by kernel_rfl
@[simp] theorem Tryz.ok37 : okFn Tryz.prog 37 = true := by kernel_rfl
@[simp] theorem Tryz.ok38 : okFn Tryz.prog 38 = true := by kernel_rfl
@[simp] theorem Tryz.ok39 : okFn Tryz.prog 39 = true := by kernel_rfl
@[simp] theorem Tryz.ok40 : okFn Tryz.prog 40 = true := by kernel_rfl
@[simp] theorem Tryz.ok41 : okFn Tryz.prog 41 = true := by kernel_rfl
@[simp] theorem Tryz.ok42 : okFn Tryz.prog 42 = true := by kernel_rfl
@[simp] theorem Tryz.ok43 : okFn Tryz.prog 43 = true := by kernel_rfl
@[simp] theorem Tryz.ok44 : okFn Tryz.prog 44 = true := by kernel_rfl
@[simp] theorem Tryz.ok45 : okFn Tryz.prog 45 = true := by kernel_rfl
@[simp] theorem Tryz.ok46 : okFn Tryz.prog 46 = true := by kernel_rfl
@[simp] theorem Tryz.ok47 : okFn Tryz.prog 47 = true := by kernel_rfl
@[simp] theorem Tryz.ok48 : okFn Tryz.prog 48 = true := by kernel_rfl
@[simp] theorem Tryz.ok49 : okFn Tryz.prog 49 = true := by kernel_rfl
@[simp] theorem Tryz.ok50 : okFn Tryz.prog 50 = true := by kernel_rfl
@[simp] theorem Tryz.ok51 : okFn Tryz.prog 51 = true := by kernel_rfl
@[simp] theorem Tryz.ok52 : okFn Tryz.prog 52 = true := by kernel_rfl
@[simp] theorem Tryz.ok53 : okFn Tryz.prog 53 = true := by kernel_rfl
@[simp] theorem Tryz.ok62 : okFn Tryz.prog 62 = true := by kernel_rfl
@[simp] theorem Tryz.ok63 : okFn Tryz.prog 63 = true := by kernel_rfl
@[simp] theorem Tryz.ok68 : okFn Tryz.prog 68 = true := by kernel_rfl
@[simp] theorem Tryz.ok69 : okFn Tryz.prog 69 = true := by kernel_rfl
@[simp] theorem Tryz.ok70 : okFn Tryz.prog 70 = true := by kernel_rfl
@[simp] theorem Tryz.ok72 : okFn Tryz.prog 72 = true := by kernel_rfl
@[simp] theorem Tryz.ok73 : okFn Tryz.prog 73 = true := by kernel_rfl
@[simp] theorem Tryz.ok74 : okFn Tryz.prog 74 = true := by kernel_rfl
@[simp] theorem Tryz.ok75 : okFn Tryz.prog 75 = true := by kernel_rfl
@[simp] theorem Tryz.ok77 : okFn Tryz.prog 77 = true := by kernel_rfl
@[simp] theorem Tryz.ok78 : okFn Tryz.prog 78 = true := by kernel_rfl
@[simp] theorem Tryz.ok79 : okFn Tryz.prog 79 = true := by kernel_rfl
@[simp] theorem Tryz.ok80 : okFn Tryz.prog 80 = true := by kernel_rfl
@[simp] theorem Tryz.ok82 : okFn Tryz.prog 82 = true := by kernel_rfl
@[simp] theorem Tryz.ok83 : okFn Tryz.prog 83 = true := by kernel_rfl
@[simp] theorem Tryz.ok84 : okFn Tryz.prog 84 = true := by kernel_rfl
@[simp] theorem Tryz.ok85 : okFn Tryz.prog 85 = true := by kernel_rfl
@[simp] theorem Tryz.ok86 : okFn Tryz.prog 86 = true := by kernel_rfl
@[simp] theorem Tryz.ok87 : okFn Tryz.prog 87 = true := by kernel_rfl
@[simp] theorem Tryz.ok88 : okFn Tryz.prog 88 = true := by kernel_rfl
@[simp] theorem Tryz.ok110 : okFn Tryz.prog 110 = true := by kernel_rfl
@[simp] theorem Tryz.ok111 : okFn Tryz.prog 111 = true := by kernel_rfl
@[simp] theorem Tryz.ok112 : okFn Tryz.prog 112 = true := by kernel_rfl
@[simp] theorem Tryz.ok114 : okFn Tryz.prog 114 = true := by kernel_rfl
@[simp] theorem Tryz.ok115 : okFn Tryz.prog 115 = true := by kernel_rfl
@[simp] theorem Tryz.ok118 : okFn Tryz.prog 118 = true := by kernel_rfl
@[simp] theorem Tryz.ok119 : okFn Tryz.prog 119 = true := by kernel_rfl
@[simp] theorem Tryz.ok120 : okFn Tryz.prog 120 = true := by kernel_rfl
@[simp] theorem Tryz.ok121 : okFn Tryz.prog 121 = true := by kernel_rfl
@[simp] theorem Tryz.ok122 : okFn Tryz.prog 122 = true := by kernel_rfl
@[simp] theorem Tryz.ok132 : okFn Tryz.prog 132 = true := by kernel_rfl
@[simp] theorem Tryz.ok133 : okFn Tryz.prog 133 = true := by kernel_rfl
@[simp] theorem Tryz.ok161 : okFn Tryz.prog 161 = true := by kernel_rfl
@[simp] theorem Tryz.ok168 : okFn Tryz.prog 168 = true := by kernel_rfl
@[simp] theorem Tryz.ok175 : okFn Tryz.prog 175 = true := by kernel_rfl
@[simp] theorem Tryz.ok183 : okFn Tryz.prog 183 = true := by kernel_rfl
end Go.Proofs
