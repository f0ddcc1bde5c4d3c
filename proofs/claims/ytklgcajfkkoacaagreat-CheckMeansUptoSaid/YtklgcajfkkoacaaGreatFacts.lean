/- The program's types and functions, as the rules want them (written by a program of our own). -/
import Derived.Test.YtklgcajfkkoacaaGreatFwCptoFwN
import Derived.Test.YtklgcajfkkoacaaGreatProg
import Derived.KernelRfl
set_option linter.unusedVariables false
set_option linter.unusedSimpArgs false
namespace Go.Proofs
open Go.Mu
@[simp] theorem Tryz.ud2 : undB Tryz.prog 2 = true := by kernel_rfl
@[simp] theorem Tryz.ko2 : kOf Tryz.prog 2 = some .i64 := by kernel_rfl
@[simp] theorem Tryz.sz3 : szOf Tryz.prog 3 = some 1 := by kernel_rfl
@[simp] theorem Tryz.ag3 : aggOf Tryz.prog 3 = some false := by kernel_rfl
@[simp] theorem Tryz.ze3 : zeroOf Tryz.prog 3 = some (.int .i64 0) := by kernel_rfl
@[simp] theorem Tryz.ud3 : undB Tryz.prog 3 = true := by kernel_rfl
@[simp] theorem Tryz.ko3 : kOf Tryz.prog 3 = some .i64 := by kernel_rfl
@[simp] theorem Tryz.sz4 : szOf Tryz.prog 4 = some 1 := by kernel_rfl
@[simp] theorem Tryz.ag4 : aggOf Tryz.prog 4 = some false := by kernel_rfl
@[simp] theorem Tryz.sz5 : szOf Tryz.prog 5 = some 1 := by kernel_rfl
@[simp] theorem Tryz.ag5 : aggOf Tryz.prog 5 = some false := by kernel_rfl
@[simp] theorem Tryz.ud5 : undB Tryz.prog 5 = true := by kernel_rfl
@[simp] theorem Tryz.ko5 : kOf Tryz.prog 5 = some .u8 := by kernel_rfl
@[simp] theorem Tryz.sz9 : szOf Tryz.prog 9 = some 1 := by kernel_rfl
@[simp] theorem Tryz.ag9 : aggOf Tryz.prog 9 = some false := by kernel_rfl
@[simp] theorem Tryz.lk9 : lkOf Tryz.prog 9 = 2 := by kernel_rfl
@[simp] theorem Tryz.sz22 : szOf Tryz.prog 22 = some 1 := by kernel_rfl
@[simp] theorem Tryz.ag22 : aggOf Tryz.prog 22 = some false := by kernel_rfl
@[simp] theorem Tryz.el22 : elOf Tryz.prog 22 = some 3 := by kernel_rfl
@[simp] theorem Tryz.so22 (H : List Blk) (x : AV) (lo hi : Option AV) (k : AV → Prop) (w : Wit k) : sliV Tryz.prog H 22 x lo hi k w = bindOW (szOf Tryz.prog 3) (fun sz => bindOW (optI lo) (fun l => bindOW (optI hi) (fun hh => sliceVW H sz x l hh k (wit _)) (wit _)) (wit _)) (wit _) := sliV_sl Tryz.el22 H x lo hi k w
@[simp] theorem Tryz.lk22 : lkOf Tryz.prog 22 = 1 := by kernel_rfl
@[simp] theorem Tryz.ix22 (H : List Blk) (x i : AV) (k : AV → Prop) (w : Wit k) : idxAddrV Tryz.prog H 22 x i k w = bindOW (szOf Tryz.prog 3) (fun sz => bindOW (intA i) (fun n => idxVW H sz x n k (wit _)) (wit _)) (wit _) := idxAddrV_sl Tryz.el22 H x i k w
@[simp] theorem Tryz.sl22 : slbOf Tryz.prog 22 = some (3, 1, [.int .i64 0], 8) := by kernel_rfl
@[simp] theorem Tryz.sz23 : szOf Tryz.prog 23 = some 1 := by kernel_rfl
@[simp] theorem Tryz.ag23 : aggOf Tryz.prog 23 = some false := by kernel_rfl
@[simp] theorem Tryz.el23 : elOf Tryz.prog 23 = some 67 := by kernel_rfl
@[simp] theorem Tryz.lk23 : lkOf Tryz.prog 23 = 1 := by kernel_rfl
@[simp] theorem Tryz.ix23 (H : List Blk) (x i : AV) (k : AV → Prop) (w : Wit k) : idxAddrV Tryz.prog H 23 x i k w = bindOW (szOf Tryz.prog 67) (fun sz => bindOW (intA i) (fun n => idxVW H sz x n k (wit _)) (wit _)) (wit _) := idxAddrV_sl Tryz.el23 H x i k w
@[simp] theorem Tryz.sl23 : slbOf Tryz.prog 23 = some (67, 11, [.int .i64 0, .int .i64 0, .int .i64 0, .int .i64 0, .int .i64 0, .int .i64 0, .int .i64 0, .int .u64 0, .bool false, .int .i64 0, .int .i64 0], 88) := by kernel_rfl
@[simp] theorem Tryz.sz25 : szOf Tryz.prog 25 = some 5 := by kernel_rfl
@[simp] theorem Tryz.ag25 : aggOf Tryz.prog 25 = some true := by kernel_rfl
@[simp] theorem Tryz.ze25 : zeroOf Tryz.prog 25 = some (.agg #[.int .i64 0, .slice none 0 0, .slice none 0 0, .int .i64 0, .slice none 0 0]) := by kernel_rfl
@[simp] theorem Tryz.fl25_0 : fldOf Tryz.prog 25 0 = some (0, 1, false) := by kernel_rfl
@[simp] theorem Tryz.fl25_1 : fldOf Tryz.prog 25 1 = some (1, 1, false) := by kernel_rfl
@[simp] theorem Tryz.fl25_2 : fldOf Tryz.prog 25 2 = some (2, 1, false) := by kernel_rfl
@[simp] theorem Tryz.fl25_3 : fldOf Tryz.prog 25 3 = some (3, 1, false) := by kernel_rfl
@[simp] theorem Tryz.fl25_4 : fldOf Tryz.prog 25 4 = some (4, 1, false) := by kernel_rfl
@[simp] theorem Tryz.bl25 : bldOf Tryz.prog 25 = some ([.int .i64 0, .slice none 0 0, .slice none 0 0, .int .i64 0, .slice none 0 0], [(0, 1), (1, 1), (2, 1), (3, 1), (4, 1)]) := by kernel_rfl
@[simp] theorem Tryz.sz26 : szOf Tryz.prog 26 = some 1 := by kernel_rfl
@[simp] theorem Tryz.ag26 : aggOf Tryz.prog 26 = some false := by kernel_rfl
@[simp] theorem Tryz.el26 : elOf Tryz.prog 26 = some 29 := by kernel_rfl
@[simp] theorem Tryz.so26 (H : List Blk) (x : AV) (lo hi : Option AV) (k : AV → Prop) (w : Wit k) : sliV Tryz.prog H 26 x lo hi k w = bindOW (szOf Tryz.prog 29) (fun sz => bindOW (optI lo) (fun l => bindOW (optI hi) (fun hh => sliceVW H sz x l hh k (wit _)) (wit _)) (wit _)) (wit _) := sliV_sl Tryz.el26 H x lo hi k w
@[simp] theorem Tryz.lk26 : lkOf Tryz.prog 26 = 1 := by kernel_rfl
@[simp] theorem Tryz.ix26 (H : List Blk) (x i : AV) (k : AV → Prop) (w : Wit k) : idxAddrV Tryz.prog H 26 x i k w = bindOW (szOf Tryz.prog 29) (fun sz => bindOW (intA i) (fun n => idxVW H sz x n k (wit _)) (wit _)) (wit _) := idxAddrV_sl Tryz.el26 H x i k w
@[simp] theorem Tryz.sl26 : slbOf Tryz.prog 26 = some (29, 1, [.int .u64 0], 8) := by kernel_rfl
@[simp] theorem Tryz.sz27 : szOf Tryz.prog 27 = some 1 := by kernel_rfl
@[simp] theorem Tryz.ag27 : aggOf Tryz.prog 27 = some false := by kernel_rfl
@[simp] theorem Tryz.el27 : elOf Tryz.prog 27 = some 73 := by kernel_rfl
@[simp] theorem Tryz.so27 (H : List Blk) (x : AV) (lo hi : Option AV) (k : AV → Prop) (w : Wit k) : sliV Tryz.prog H 27 x lo hi k w = bindOW (szOf Tryz.prog 73) (fun sz => bindOW (optI lo) (fun l => bindOW (optI hi) (fun hh => sliceVW H sz x l hh k (wit _)) (wit _)) (wit _)) (wit _) := sliV_sl Tryz.el27 H x lo hi k w
@[simp] theorem Tryz.lk27 : lkOf Tryz.prog 27 = 1 := by kernel_rfl
@[simp] theorem Tryz.ix27 (H : List Blk) (x i : AV) (k : AV → Prop) (w : Wit k) : idxAddrV Tryz.prog H 27 x i k w = bindOW (szOf Tryz.prog 73) (fun sz => bindOW (intA i) (fun n => idxVW H sz x n k (wit _)) (wit _)) (wit _) := idxAddrV_sl Tryz.el27 H x i k w
@[simp] theorem Tryz.sl27 : slbOf Tryz.prog 27 = some (73, 4, [.string ByteArray.empty, .int .i64 0, .int .i64 0, .bool false], 40) := by kernel_rfl
@[simp] theorem Tryz.el28 : elOf Tryz.prog 28 = some 26 := by kernel_rfl
@[simp] theorem Tryz.lk28 : lkOf Tryz.prog 28 = 1 := by kernel_rfl
@[simp] theorem Tryz.ix28 (H : List Blk) (x i : AV) (k : AV → Prop) (w : Wit k) : idxAddrV Tryz.prog H 28 x i k w = bindOW (szOf Tryz.prog 26) (fun sz => bindOW (intA i) (fun n => idxVW H sz x n k (wit _)) (wit _)) (wit _) := idxAddrV_sl Tryz.el28 H x i k w
@[simp] theorem Tryz.sz29 : szOf Tryz.prog 29 = some 1 := by kernel_rfl
@[simp] theorem Tryz.ag29 : aggOf Tryz.prog 29 = some false := by kernel_rfl
@[simp] theorem Tryz.ud29 : undB Tryz.prog 29 = true := by kernel_rfl
@[simp] theorem Tryz.ko29 : kOf Tryz.prog 29 = some .u64 := by kernel_rfl
@[simp] theorem Tryz.sz34 : szOf Tryz.prog 34 = some 1 := by kernel_rfl
@[simp] theorem Tryz.ag34 : aggOf Tryz.prog 34 = some false := by kernel_rfl
@[simp] theorem Tryz.ze34 : zeroOf Tryz.prog 34 = some (.int .i64 0) := by kernel_rfl
@[simp] theorem Tryz.sz44 : szOf Tryz.prog 44 = some 1 := by kernel_rfl
@[simp] theorem Tryz.ag44 : aggOf Tryz.prog 44 = some false := by kernel_rfl
@[simp] theorem Tryz.el44 : elOf Tryz.prog 44 = some 104 := by kernel_rfl
@[simp] theorem Tryz.lk44 : lkOf Tryz.prog 44 = 1 := by kernel_rfl
@[simp] theorem Tryz.ix44 (H : List Blk) (x i : AV) (k : AV → Prop) (w : Wit k) : idxAddrV Tryz.prog H 44 x i k w = bindOW (szOf Tryz.prog 104) (fun sz => bindOW (intA i) (fun n => idxVW H sz x n k (wit _)) (wit _)) (wit _) := idxAddrV_sl Tryz.el44 H x i k w
@[simp] theorem Tryz.sl44 : slbOf Tryz.prog 44 = some (104, 3, [.bool false, .bool false, .int .u64 0], 16) := by kernel_rfl
@[simp] theorem Tryz.sz46 : szOf Tryz.prog 46 = some 4 := by kernel_rfl
@[simp] theorem Tryz.ag46 : aggOf Tryz.prog 46 = some true := by kernel_rfl
@[simp] theorem Tryz.ze46 : zeroOf Tryz.prog 46 = some (.agg #[.slice none 0 0, .slice none 0 0, .int .i64 0, .int .i64 0]) := by kernel_rfl
@[simp] theorem Tryz.fl46_0 : fldOf Tryz.prog 46 0 = some (0, 1, false) := by kernel_rfl
@[simp] theorem Tryz.fl46_1 : fldOf Tryz.prog 46 1 = some (1, 1, false) := by kernel_rfl
@[simp] theorem Tryz.fl46_2 : fldOf Tryz.prog 46 2 = some (2, 1, false) := by kernel_rfl
@[simp] theorem Tryz.fl46_3 : fldOf Tryz.prog 46 3 = some (3, 1, false) := by kernel_rfl
@[simp] theorem Tryz.bl46 : bldOf Tryz.prog 46 = some ([.slice none 0 0, .slice none 0 0, .int .i64 0, .int .i64 0], [(0, 1), (1, 1), (2, 1), (3, 1)]) := by kernel_rfl
@[simp] theorem Tryz.sz61 : szOf Tryz.prog 61 = some 1 := by kernel_rfl
@[simp] theorem Tryz.ag61 : aggOf Tryz.prog 61 = some false := by kernel_rfl
@[simp] theorem Tryz.sz62 : szOf Tryz.prog 62 = some 1 := by kernel_rfl
@[simp] theorem Tryz.ag62 : aggOf Tryz.prog 62 = some false := by kernel_rfl
@[simp] theorem Tryz.sz63 : szOf Tryz.prog 63 = some 1 := by kernel_rfl
@[simp] theorem Tryz.ag63 : aggOf Tryz.prog 63 = some false := by kernel_rfl
@[simp] theorem Tryz.sz65 : szOf Tryz.prog 65 = some 8 := by kernel_rfl
@[simp] theorem Tryz.ag65 : aggOf Tryz.prog 65 = some true := by kernel_rfl
@[simp] theorem Tryz.ze65 : zeroOf Tryz.prog 65 = some (.agg #[.int .i64 0, .int .i64 0, .int .i64 0, .int .i64 0, .int .i64 0, .int .i64 0, .int .u64 0, .bool false]) := by kernel_rfl
@[simp] theorem Tryz.eq65 (x0 y0 : Int) (x1 y1 : Int) (x2 y2 : Int) (x3 y3 : Int) (x4 y4 : Int) (x5 y5 : Int) (x6 y6 : Int) (x7 y7 : Bool) : binE Tryz.prog .eql 65 (.agg [.v (.int .i64 x0), .v (.int .i64 x1), .v (.int .i64 x2), .v (.int .i64 x3), .v (.int .i64 x4), .v (.int .i64 x5), .v (.int .u64 x6), .v (.bool x7)]) (.agg [.v (.int .i64 y0), .v (.int .i64 y1), .v (.int .i64 y2), .v (.int .i64 y3), .v (.int .i64 y4), .v (.int .i64 y5), .v (.int .u64 y6), .v (.bool y7)]) = some (.v (.bool ((x0 == y0) && ((x1 == y1) && ((x2 == y2) && ((x3 == y3) && ((x4 == y4) && ((x5 == y5) && ((x6 == y6) && ((x7 == y7) && true)))))))))) := by kernel_rfl
@[simp] theorem Tryz.fl65_0 : fldOf Tryz.prog 65 0 = some (0, 1, false) := by kernel_rfl
@[simp] theorem Tryz.fl65_1 : fldOf Tryz.prog 65 1 = some (1, 1, false) := by kernel_rfl
@[simp] theorem Tryz.fl65_2 : fldOf Tryz.prog 65 2 = some (2, 1, false) := by kernel_rfl
@[simp] theorem Tryz.fl65_3 : fldOf Tryz.prog 65 3 = some (3, 1, false) := by kernel_rfl
@[simp] theorem Tryz.fl65_4 : fldOf Tryz.prog 65 4 = some (4, 1, false) := by kernel_rfl
@[simp] theorem Tryz.fl65_5 : fldOf Tryz.prog 65 5 = some (5, 1, false) := by kernel_rfl
@[simp] theorem Tryz.fl65_6 : fldOf Tryz.prog 65 6 = some (6, 1, false) := by kernel_rfl
@[simp] theorem Tryz.fl65_7 : fldOf Tryz.prog 65 7 = some (7, 1, false) := by kernel_rfl
@[simp] theorem Tryz.bl65 : bldOf Tryz.prog 65 = some ([.int .i64 0, .int .i64 0, .int .i64 0, .int .i64 0, .int .i64 0, .int .i64 0, .int .u64 0, .bool false], [(0, 1), (1, 1), (2, 1), (3, 1), (4, 1), (5, 1), (6, 1), (7, 1)]) := by kernel_rfl
@[simp] theorem Tryz.sz67 : szOf Tryz.prog 67 = some 11 := by kernel_rfl
@[simp] theorem Tryz.ag67 : aggOf Tryz.prog 67 = some true := by kernel_rfl
@[simp] theorem Tryz.ze67 : zeroOf Tryz.prog 67 = some (.agg #[.int .i64 0, .int .i64 0, .int .i64 0, .int .i64 0, .int .i64 0, .int .i64 0, .int .i64 0, .int .u64 0, .bool false, .int .i64 0, .int .i64 0]) := by kernel_rfl
@[simp] theorem Tryz.nq67 (x0 y0 : Int) (x1 y1 : Int) (x2 y2 : Int) (x3 y3 : Int) (x4 y4 : Int) (x5 y5 : Int) (x6 y6 : Int) (x7 y7 : Int) (x8 y8 : Bool) (x9 y9 : Int) (x10 y10 : Int) : binE Tryz.prog .neq 67 (.agg [.v (.int .i64 x0), .v (.int .i64 x1), .v (.int .i64 x2), .v (.int .i64 x3), .v (.int .i64 x4), .v (.int .i64 x5), .v (.int .i64 x6), .v (.int .u64 x7), .v (.bool x8), .v (.int .i64 x9), .v (.int .i64 x10)]) (.agg [.v (.int .i64 y0), .v (.int .i64 y1), .v (.int .i64 y2), .v (.int .i64 y3), .v (.int .i64 y4), .v (.int .i64 y5), .v (.int .i64 y6), .v (.int .u64 y7), .v (.bool y8), .v (.int .i64 y9), .v (.int .i64 y10)]) = some (.v (.bool (!((x0 == y0) && (((x1 == y1) && ((x2 == y2) && ((x3 == y3) && ((x4 == y4) && ((x5 == y5) && ((x6 == y6) && ((x7 == y7) && ((x8 == y8) && true)))))))) && ((x9 == y9) && ((x10 == y10) && true))))))) := by kernel_rfl
@[simp] theorem Tryz.fl67_0 : fldOf Tryz.prog 67 0 = some (0, 1, false) := by kernel_rfl
@[simp] theorem Tryz.fl67_1 : fldOf Tryz.prog 67 1 = some (1, 8, true) := by kernel_rfl
@[simp] theorem Tryz.fl67_2 : fldOf Tryz.prog 67 2 = some (9, 1, false) := by kernel_rfl
@[simp] theorem Tryz.fl67_3 : fldOf Tryz.prog 67 3 = some (10, 1, false) := by kernel_rfl
@[simp] theorem Tryz.bl67 : bldOf Tryz.prog 67 = some ([.int .i64 0, .int .i64 0, .int .i64 0, .int .i64 0, .int .i64 0, .int .i64 0, .int .i64 0, .int .u64 0, .bool false, .int .i64 0, .int .i64 0], [(0, 1), (1, 8), (9, 1), (10, 1)]) := by kernel_rfl
@[simp] theorem Tryz.sz73 : szOf Tryz.prog 73 = some 4 := by kernel_rfl
@[simp] theorem Tryz.ag73 : aggOf Tryz.prog 73 = some true := by kernel_rfl
@[simp] theorem Tryz.ze73 : zeroOf Tryz.prog 73 = some (.agg #[.string ByteArray.empty, .int .i64 0, .int .i64 0, .bool false]) := by kernel_rfl
@[simp] theorem Tryz.nq73 (x0 y0 : ByteArray) (x1 y1 : Int) (x2 y2 : Int) (x3 y3 : Bool) : binE Tryz.prog .neq 73 (.agg [.v (.string x0), .v (.int .i64 x1), .v (.int .i64 x2), .v (.bool x3)]) (.agg [.v (.string y0), .v (.int .i64 y1), .v (.int .i64 y2), .v (.bool y3)]) = some (.v (.bool (!((x0.toList == y0.toList) && ((x1 == y1) && ((x2 == y2) && ((x3 == y3) && true))))))) := by kernel_rfl
@[simp] theorem Tryz.fl73_0 : fldOf Tryz.prog 73 0 = some (0, 1, false) := by kernel_rfl
@[simp] theorem Tryz.fl73_1 : fldOf Tryz.prog 73 1 = some (1, 1, false) := by kernel_rfl
@[simp] theorem Tryz.fl73_2 : fldOf Tryz.prog 73 2 = some (2, 1, false) := by kernel_rfl
@[simp] theorem Tryz.sz74 : szOf Tryz.prog 74 = some 1 := by kernel_rfl
@[simp] theorem Tryz.ag74 : aggOf Tryz.prog 74 = some false := by kernel_rfl
@[simp] theorem Tryz.el74 : elOf Tryz.prog 74 = some 22 := by kernel_rfl
@[simp] theorem Tryz.lk74 : lkOf Tryz.prog 74 = 1 := by kernel_rfl
@[simp] theorem Tryz.ix74 (H : List Blk) (x i : AV) (k : AV → Prop) (w : Wit k) : idxAddrV Tryz.prog H 74 x i k w = bindOW (szOf Tryz.prog 22) (fun sz => bindOW (intA i) (fun n => idxVW H sz x n k (wit _)) (wit _)) (wit _) := idxAddrV_sl Tryz.el74 H x i k w
@[simp] theorem Tryz.sl74 : slbOf Tryz.prog 74 = some (22, 1, [.slice none 0 0], 24) := by kernel_rfl
@[simp] theorem Tryz.sz77 : szOf Tryz.prog 77 = some 1 := by kernel_rfl
@[simp] theorem Tryz.ag77 : aggOf Tryz.prog 77 = some false := by kernel_rfl
@[simp] theorem Tryz.fl79_0 : fldOf Tryz.prog 79 0 = some (0, 5, true) := by kernel_rfl
@[simp] theorem Tryz.fl79_1 : fldOf Tryz.prog 79 1 = some (5, 1, false) := by kernel_rfl
@[simp] theorem Tryz.fl79_2 : fldOf Tryz.prog 79 2 = some (6, 1, false) := by kernel_rfl
@[simp] theorem Tryz.bl79 : bldOf Tryz.prog 79 = some ([.int .i64 0, .slice none 0 0, .slice none 0 0, .int .i64 0, .slice none 0 0, .slice none 0 0, .slice none 0 0], [(0, 5), (5, 1), (6, 1)]) := by kernel_rfl
@[simp] theorem Tryz.sz85 : szOf Tryz.prog 85 = some 1 := by kernel_rfl
@[simp] theorem Tryz.ag85 : aggOf Tryz.prog 85 = some false := by kernel_rfl
@[simp] theorem Tryz.el85 : elOf Tryz.prog 85 = some 91 := by kernel_rfl
@[simp] theorem Tryz.lk85 : lkOf Tryz.prog 85 = 1 := by kernel_rfl
@[simp] theorem Tryz.ix85 (H : List Blk) (x i : AV) (k : AV → Prop) (w : Wit k) : idxAddrV Tryz.prog H 85 x i k w = bindOW (szOf Tryz.prog 91) (fun sz => bindOW (intA i) (fun n => idxVW H sz x n k (wit _)) (wit _)) (wit _) := idxAddrV_sl Tryz.el85 H x i k w
@[simp] theorem Tryz.sl85 : slbOf Tryz.prog 85 = some (91, 13, [.int .i64 0, .int .i64 0, .int .i64 0, .int .i64 0, .int .i64 0, .int .i64 0, .int .i64 0, .int .u64 0, .bool false, .int .i64 0, .slice none 0 0, .slice none 0 0, .slice none 0 0], 152) := by kernel_rfl
@[simp] theorem Tryz.fl87_0 : fldOf Tryz.prog 87 0 = some (0, 1, false) := by kernel_rfl
@[simp] theorem Tryz.fl87_1 : fldOf Tryz.prog 87 1 = some (1, 1, false) := by kernel_rfl
@[simp] theorem Tryz.fl87_2 : fldOf Tryz.prog 87 2 = some (2, 1, false) := by kernel_rfl
@[simp] theorem Tryz.fl87_3 : fldOf Tryz.prog 87 3 = some (3, 1, false) := by kernel_rfl
@[simp] theorem Tryz.fl87_4 : fldOf Tryz.prog 87 4 = some (4, 1, false) := by kernel_rfl
@[simp] theorem Tryz.bl87 : bldOf Tryz.prog 87 = some ([.int .i64 0, .slice none 0 0, .slice none 0 0, .int .i64 0, .slice none 0 0], [(0, 1), (1, 1), (2, 1), (3, 1), (4, 1)]) := by kernel_rfl
@[simp] theorem Tryz.sz88 : szOf Tryz.prog 88 = some 1 := by kernel_rfl
@[simp] theorem Tryz.ag88 : aggOf Tryz.prog 88 = some false := by kernel_rfl
@[simp] theorem Tryz.ze88 : zeroOf Tryz.prog 88 = some (.map none) := by kernel_rfl
@[simp] theorem Tryz.mp88 : mapOf Tryz.prog 88 = some (.int .i64, .agg #[.bool false]) := by kernel_rfl
@[simp] theorem Tryz.mt88 : isMapT Tryz.prog 88 = true := by kernel_rfl
@[simp] theorem Tryz.sz89 : szOf Tryz.prog 89 = some 1 := by kernel_rfl
@[simp] theorem Tryz.ag89 : aggOf Tryz.prog 89 = some false := by kernel_rfl
@[simp] theorem Tryz.sz91 : szOf Tryz.prog 91 = some 13 := by kernel_rfl
@[simp] theorem Tryz.ag91 : aggOf Tryz.prog 91 = some true := by kernel_rfl
@[simp] theorem Tryz.ze91 : zeroOf Tryz.prog 91 = some (.agg #[.int .i64 0, .int .i64 0, .int .i64 0, .int .i64 0, .int .i64 0, .int .i64 0, .int .i64 0, .int .u64 0, .bool false, .int .i64 0, .slice none 0 0, .slice none 0 0, .slice none 0 0]) := by kernel_rfl
@[simp] theorem Tryz.fl91_0 : fldOf Tryz.prog 91 0 = some (0, 1, false) := by kernel_rfl
@[simp] theorem Tryz.fl91_1 : fldOf Tryz.prog 91 1 = some (1, 8, true) := by kernel_rfl
@[simp] theorem Tryz.fl91_2 : fldOf Tryz.prog 91 2 = some (9, 1, false) := by kernel_rfl
@[simp] theorem Tryz.fl91_3 : fldOf Tryz.prog 91 3 = some (10, 1, false) := by kernel_rfl
@[simp] theorem Tryz.fl91_4 : fldOf Tryz.prog 91 4 = some (11, 1, false) := by kernel_rfl
@[simp] theorem Tryz.fl91_5 : fldOf Tryz.prog 91 5 = some (12, 1, false) := by kernel_rfl
@[simp] theorem Tryz.bl91 : bldOf Tryz.prog 91 = some ([.int .i64 0, .int .i64 0, .int .i64 0, .int .i64 0, .int .i64 0, .int .i64 0, .int .i64 0, .int .u64 0, .bool false, .int .i64 0, .slice none 0 0, .slice none 0 0, .slice none 0 0], [(0, 1), (1, 8), (9, 1), (10, 1), (11, 1), (12, 1)]) := by kernel_rfl
@[simp] theorem Tryz.fl92_0 : fldOf Tryz.prog 92 0 = some (0, 1, false) := by kernel_rfl
@[simp] theorem Tryz.bl92 : bldOf Tryz.prog 92 = some ([.bool false], [(0, 1)]) := by kernel_rfl
@[simp] theorem Tryz.el97 : elOf Tryz.prog 97 = some 5 := by kernel_rfl
@[simp] theorem Tryz.lk97 : lkOf Tryz.prog 97 = 1 := by kernel_rfl
@[simp] theorem Tryz.sl97 : slbOf Tryz.prog 97 = some (5, 1, [.int .u8 0], 1) := by kernel_rfl
@[simp] theorem Tryz.mp99 : mapOf Tryz.prog 99 = some (.int .i64, .int .i64 0) := by kernel_rfl
@[simp] theorem Tryz.sz104 : szOf Tryz.prog 104 = some 3 := by kernel_rfl
@[simp] theorem Tryz.ag104 : aggOf Tryz.prog 104 = some true := by kernel_rfl
@[simp] theorem Tryz.nq104 (x0 y0 : Bool) (x1 y1 : Bool) (x2 y2 : Int) : binE Tryz.prog .neq 104 (.agg [.v (.bool x0), .v (.bool x1), .v (.int .u64 x2)]) (.agg [.v (.bool y0), .v (.bool y1), .v (.int .u64 y2)]) = some (.v (.bool (!((x0 == y0) && ((x1 == y1) && ((x2 == y2) && true)))))) := by kernel_rfl
@[simp] theorem Tryz.bl104 : bldOf Tryz.prog 104 = some ([.bool false, .bool false, .int .u64 0], [(0, 1), (1, 1), (2, 1)]) := by kernel_rfl
@[simp] theorem Tryz.sz108 : szOf Tryz.prog 108 = some 1 := by kernel_rfl
@[simp] theorem Tryz.ag108 : aggOf Tryz.prog 108 = some false := by kernel_rfl
@[simp] theorem Tryz.fl110_0 : fldOf Tryz.prog 110 0 = some (0, 1, false) := by kernel_rfl
@[simp] theorem Tryz.fl110_1 : fldOf Tryz.prog 110 1 = some (1, 1, false) := by kernel_rfl
@[simp] theorem Tryz.bl110 : bldOf Tryz.prog 110 = some ([.slice none 0 0, .pointer none], [(0, 1), (1, 1)]) := by kernel_rfl
@[simp] theorem Tryz.sz111 : szOf Tryz.prog 111 = some 65536 := by kernel_rfl
@[simp] theorem Tryz.ag111 : aggOf Tryz.prog 111 = some true := by kernel_rfl
@[simp] theorem Tryz.ap111 : arpOf Tryz.prog 111 = some (65536, 5) := by kernel_rfl
@[simp] theorem Tryz.so111 (H : List Blk) (x : AV) (lo hi : Option AV) (k : AV → Prop) (w : Wit k) : sliV Tryz.prog H 111 x lo hi k w = bindOW (szOf Tryz.prog 5) (fun sz => bindOW (optI lo) (fun l => bindOW (optI hi) (fun hh => sliceAW 65536 sz x l hh k (wit _)) (wit _)) (wit _)) (wit _) := sliV_ar Tryz.ap111 H x lo hi k w
@[simp] theorem Tryz.ar111 : arOf Tryz.prog 111 = some (65536, 5) := by kernel_rfl
@[simp] theorem Tryz.ix111 (H : List Blk) (x i : AV) (k : AV → Prop) (w : Wit k) : idxAddrV Tryz.prog H 111 x i k w = bindOW (szOf Tryz.prog 5) (fun sz => bindOW (intA i) (fun n => idxAW H 65536 sz x n k (wit _)) (wit _)) (wit _) := idxAddrV_ar Tryz.ar111 H x i k w
@[simp] theorem Tryz.el135 : elOf Tryz.prog 135 = some 88 := by kernel_rfl
@[simp] theorem Tryz.lk135 : lkOf Tryz.prog 135 = 1 := by kernel_rfl
@[simp] theorem Tryz.ix135 (H : List Blk) (x i : AV) (k : AV → Prop) (w : Wit k) : idxAddrV Tryz.prog H 135 x i k w = bindOW (szOf Tryz.prog 88) (fun sz => bindOW (intA i) (fun n => idxVW H sz x n k (wit _)) (wit _)) (wit _) := idxAddrV_sl Tryz.el135 H x i k w
@[simp] theorem Tryz.sl135 : slbOf Tryz.prog 135 = some (88, 1, [.map none], 8) := by kernel_rfl
@[simp] theorem Tryz.sz143 : szOf Tryz.prog 143 = some 1 := by kernel_rfl
@[simp] theorem Tryz.ze143 : zeroOf Tryz.prog 143 = some (.agg #[.int .i64 0]) := by kernel_rfl
@[simp] theorem Tryz.ni143 : isNonIface Tryz.prog 143 = true := by kernel_rfl
@[simp] theorem Tryz.fl143_0 : fldOf Tryz.prog 143 0 = some (0, 1, false) := by kernel_rfl
@[simp] theorem Tryz.bl143 : bldOf Tryz.prog 143 = some ([.int .i64 0], [(0, 1)]) := by kernel_rfl
@[simp] theorem Tryz.sz147 : szOf Tryz.prog 147 = some 1 := by kernel_rfl
@[simp] theorem Tryz.ag147 : aggOf Tryz.prog 147 = some false := by kernel_rfl
@[simp] theorem Tryz.ze147 : zeroOf Tryz.prog 147 = some (.pointer none) := by kernel_rfl
@[simp] theorem Tryz.fl149_0 : fldOf Tryz.prog 149 0 = some (0, 1, false) := by kernel_rfl
@[simp] theorem Tryz.fl149_1 : fldOf Tryz.prog 149 1 = some (1, 1, false) := by kernel_rfl
@[simp] theorem Tryz.bl149 : bldOf Tryz.prog 149 = some ([.int .i64 0, .int .i64 0], [(0, 1), (1, 1)]) := by kernel_rfl
@[simp] theorem Tryz.mp179 : mapOf Tryz.prog 179 = some (.int .i64, .nilFunc) := by kernel_rfl
@[simp] theorem Tryz.ko186 : kOf Tryz.prog 186 = some .u64 := by kernel_rfl
@[simp] theorem Tryz.sz192 : szOf Tryz.prog 192 = some 1 := by kernel_rfl
@[simp] theorem Tryz.ag192 : aggOf Tryz.prog 192 = some false := by kernel_rfl
@[simp] theorem Tryz.sz193 : szOf Tryz.prog 193 = some 1 := by kernel_rfl
@[simp] theorem Tryz.ag193 : aggOf Tryz.prog 193 = some false := by kernel_rfl
@[simp] theorem Tryz.ze193 : zeroOf Tryz.prog 193 = some (.nilFunc) := by kernel_rfl
@[simp] theorem Tryz.sz194 : szOf Tryz.prog 194 = some 1 := by kernel_rfl
@[simp] theorem Tryz.ag194 : aggOf Tryz.prog 194 = some false := by kernel_rfl
@[simp] theorem Tryz.ok5 : okFn Tryz.prog 5 = true := by kernel_rfl
@[simp] theorem Tryz.ok6 : okFn Tryz.prog 6 = true := by kernel_rfl
@[simp] theorem Tryz.ok7 : okFn Tryz.prog 7 = true := by kernel_rfl
@[simp] theorem Tryz.ok8 : okFn Tryz.prog 8 = true := by kernel_rfl
@[simp] theorem Tryz.ok9 : okFn Tryz.prog 9 = true := by kernel_rfl
@[simp] theorem Tryz.ok10 : okFn Tryz.prog 10 = true := by kernel_rfl
@[simp] theorem Tryz.ok11 : okFn Tryz.prog 11 = true := by kernel_rfl
@[simp] theorem Tryz.ok12 : okFn Tryz.prog 12 = true := by kernel_rfl
@[simp] theorem Tryz.ok13 : okFn Tryz.prog 13 = true := by kernel_rfl
@[simp] theorem Tryz.ok14 : okFn Tryz.prog 14 = true := by kernel_rfl
@[simp] theorem Tryz.ok15 : okFn Tryz.prog 15 = true := by kernel_rfl
@[simp] theorem Tryz.ok16 : okFn Tryz.prog 16 = true := by kernel_rfl
@[simp] theorem Tryz.ok17 : okFn Tryz.prog 17 = true := by kernel_rfl
@[simp] theorem Tryz.ok27 : okFn Tryz.prog 27 = true := by kernel_rfl
@[simp] theorem Tryz.ok28 : okFn Tryz.prog 28 = true := by kernel_rfl
@[simp] theorem Tryz.ok29 : okFn Tryz.prog 29 = true := by kernel_rfl
@[simp] theorem Tryz.ok30 : okFn Tryz.prog 30 = true := by kernel_rfl
@[simp] theorem Tryz.ok31 : okFn Tryz.prog 31 = true := by kernel_rfl
@[simp] theorem Tryz.ok32 : okFn Tryz.prog 32 = true := by kernel_rfl
@[simp] theorem Tryz.ok33 : okFn Tryz.prog 33 = true := by kernel_rfl
@[simp] theorem Tryz.ok34 : okFn Tryz.prog 34 = true := by kernel_rfl
@[simp] theorem Tryz.ok35 : okFn Tryz.prog 35 = true := by kernel_rfl
@[simp] theorem Tryz.ok36 : okFn Tryz.prog 36 = true := by kernel_rfl
@[simp] theorem Tryz.ok37 : okFn Tryz.prog 37 = true := by kernel_rfl
@[simp] theorem Tryz.ok39 : okFn Tryz.prog 39 = true := by kernel_rfl
@[simp] theorem Tryz.ok40 : okFn Tryz.prog 40 = true := by kernel_rfl
@[simp] theorem Tryz.ok41 : okFn Tryz.prog 41 = true := by kernel_rfl
@[simp] theorem Tryz.ok42 : okFn Tryz.prog 42 = true := by kernel_rfl
@[simp] theorem Tryz.ok43 : okFn Tryz.prog 43 = true := by kernel_rfl
@[simp] theorem Tryz.ok44 : okFn Tryz.prog 44 = true := by kernel_rfl
@[simp] theorem Tryz.ok45 : okFn Tryz.prog 45 = true := by kernel_rfl
@[simp] theorem Tryz.ok46 : okFn Tryz.prog 46 = true := by kernel_rfl
@[simp] theorem Tryz.ok47 : okFn Tryz.prog 47 = true := by kernel_rfl
@[simp] theorem Tryz.ok69 : okFn Tryz.prog 69 = true := by kernel_rfl
@[simp] theorem Tryz.ok70 : okFn Tryz.prog 70 = true := by kernel_rfl
@[simp] theorem Tryz.ok71 : okFn Tryz.prog 71 = true := by kernel_rfl
@[simp] theorem Tryz.ok72 : okFn Tryz.prog 72 = true := by kernel_rfl
@[simp] theorem Tryz.ok73 : okFn Tryz.prog 73 = true := by kernel_rfl
@[simp] theorem Tryz.ok75 : okFn Tryz.prog 75 = true := by kernel_rfl
@[simp] theorem Tryz.ok76 : okFn Tryz.prog 76 = true := by kernel_rfl
@[simp] theorem Tryz.ok77 : okFn Tryz.prog 77 = true := by kernel_rfl
@[simp] theorem Tryz.ok78 : okFn Tryz.prog 78 = true := by kernel_rfl
@[simp] theorem Tryz.ok79 : okFn Tryz.prog 79 = true := by kernel_rfl
@[simp] theorem Tryz.ok80 : okFn Tryz.prog 80 = true := by kernel_rfl
@[simp] theorem Tryz.ok82 : okFn Tryz.prog 82 = true := by kernel_rfl
@[simp] theorem Tryz.ok83 : okFn Tryz.prog 83 = true := by kernel_rfl
@[simp] theorem Tryz.ok84 : okFn Tryz.prog 84 = true := by kernel_rfl
@[simp] theorem Tryz.ok85 : okFn Tryz.prog 85 = true := by kernel_rfl
@[simp] theorem Tryz.ok86 : okFn Tryz.prog 86 = true := by kernel_rfl
@[simp] theorem Tryz.ok87 : okFn Tryz.prog 87 = true := by kernel_rfl
@[simp] theorem Tryz.ok88 : okFn Tryz.prog 88 = true := by kernel_rfl
@[simp] theorem Tryz.ok89 : okFn Tryz.prog 89 = true := by kernel_rfl
@[simp] theorem Tryz.ok90 : okFn Tryz.prog 90 = true := by kernel_rfl
@[simp] theorem Tryz.ok106 : okFn Tryz.prog 106 = true := by kernel_rfl
@[simp] theorem Tryz.ok107 : okFn Tryz.prog 107 = true := by kernel_rfl
@[simp] theorem Tryz.ok108 : okFn Tryz.prog 108 = true := by kernel_rfl
@[simp] theorem Tryz.ok109 : okFn Tryz.prog 109 = true := by kernel_rfl
@[simp] theorem Tryz.ok112 : okFn Tryz.prog 112 = true := by kernel_rfl
@[simp] theorem Tryz.ok113 : okFn Tryz.prog 113 = true := by kernel_rfl
@[simp] theorem Tryz.ok115 : okFn Tryz.prog 115 = true := by kernel_rfl
@[simp] theorem Tryz.ok116 : okFn Tryz.prog 116 = true := by kernel_rfl
@[simp] theorem Tryz.ok117 : okFn Tryz.prog 117 = true := by kernel_rfl
@[simp] theorem Tryz.ok118 : okFn Tryz.prog 118 = true := by kernel_rfl
@[simp] theorem Tryz.ok119 : okFn Tryz.prog 119 = true := by kernel_rfl
@[simp] theorem Tryz.ok120 : okFn Tryz.prog 120 = true := by kernel_rfl
@[simp] theorem Tryz.ok121 : okFn Tryz.prog 121 = true := by kernel_rfl
@[simp] theorem Tryz.ok129 : okFn Tryz.prog 129 = true := by kernel_rfl
@[simp] theorem Tryz.ok134 : okFn Tryz.prog 134 = true := by kernel_rfl
@[simp] theorem Tryz.ok135 : okFn Tryz.prog 135 = true := by kernel_rfl
@[simp] theorem Tryz.ok152 : okFn Tryz.prog 152 = true := by kernel_rfl
@[simp] theorem Tryz.ok159 : okFn Tryz.prog 159 = true := by kernel_rfl
@[simp] theorem Tryz.ok182 : okFn Tryz.prog 182 = true := by kernel_rfl
end Go.Proofs
