/- The program's types and functions, as the rules want them (written by a program of our own). -/
import Derived.Test.YtklgcajfkkoacaaGreatFwCptoFwN
import Derived.Test.YtklgcajfkkoacaaGreatProg
import Derived.KernelRfl
set_option linter.unusedVariables false
set_option linter.unusedSimpArgs false
namespace Go.Proofs
open Go.Mu
@[simp] theorem Tryz.sz3 : szOf Tryz.prog 3 = some 1 := by kernel_rfl
@[simp] theorem Tryz.ag3 : aggOf Tryz.prog 3 = some false := by kernel_rfl
@[simp] theorem Tryz.ze3 : zeroOf Tryz.prog 3 = some (.int .i64 0) := by kernel_rfl
@[simp] theorem Tryz.ud3 : undB Tryz.prog 3 = true := by kernel_rfl
@[simp] theorem Tryz.ko3 : kOf Tryz.prog 3 = some .i64 := by kernel_rfl
@[simp] theorem Tryz.sz4 : szOf Tryz.prog 4 = some 1 := by kernel_rfl
@[simp] theorem Tryz.ag4 : aggOf Tryz.prog 4 = some false := by kernel_rfl
@[simp] theorem Tryz.sz22 : szOf Tryz.prog 22 = some 1 := by kernel_rfl
@[simp] theorem Tryz.ag22 : aggOf Tryz.prog 22 = some false := by kernel_rfl
@[simp] theorem Tryz.ze22 : zeroOf Tryz.prog 22 = some (.slice none 0 0) := by kernel_rfl
@[simp] theorem Tryz.el22 : elOf Tryz.prog 22 = some 3 := by kernel_rfl
@[simp] theorem Tryz.so22 (H : List Blk) (x : AV) (lo hi : Option AV) (k : AV → Prop) (w : Wit k) : sliV Tryz.prog H 22 x lo hi k w = bindOW (szOf Tryz.prog 3) (fun sz => bindOW (optI lo) (fun l => bindOW (optI hi) (fun hh => sliceVW H sz x l hh k (wit _)) (wit _)) (wit _)) (wit _) := sliV_sl Tryz.el22 H x lo hi k w
@[simp] theorem Tryz.lk22 : lkOf Tryz.prog 22 = 1 := by kernel_rfl
@[simp] theorem Tryz.ix22 (H : List Blk) (x i : AV) (k : AV → Prop) (w : Wit k) : idxAddrV Tryz.prog H 22 x i k w = bindOW (szOf Tryz.prog 3) (fun sz => bindOW (intA i) (fun n => idxVW H sz x n k (wit _)) (wit _)) (wit _) := idxAddrV_sl Tryz.el22 H x i k w
@[simp] theorem Tryz.sl22 : slbOf Tryz.prog 22 = some (3, 1, [.int .i64 0], 8) := by kernel_rfl
@[simp] theorem Tryz.sz23 : szOf Tryz.prog 23 = some 1 := by kernel_rfl
@[simp] theorem Tryz.ag23 : aggOf Tryz.prog 23 = some false := by kernel_rfl
@[simp] theorem Tryz.el23 : elOf Tryz.prog 23 = some 67 := by kernel_rfl
@[simp] theorem Tryz.lk23 : lkOf Tryz.prog 23 = 1 := by kernel_rfl
@[simp] theorem Tryz.ix23 (H : List Blk) (x i : AV) (k : AV → Prop) (w : Wit k) : idxAddrV Tryz.prog H 23 x i k w = bindOW (szOf Tryz.prog 67) (fun sz => bindOW (intA i) (fun n => idxVW H sz x n k (wit _)) (wit _)) (wit _) := idxAddrV_sl Tryz.el23 H x i k w
@[simp] theorem Tryz.sl23 : slbOf Tryz.prog 23 = some (67, 11, [.int .i64 0, .int .i64 0, .int .i64 0, .int .i64 0, .int .i64 0, .int .i64 0, .int .i64 0, .int .u64 0, .bool false, .int .i64 0, .int .i64 0], 88) := by kernel_rfl
@[simp] theorem Tryz.sz25 : szOf Tryz.prog 25 = some 5 := by kernel_rfl
@[simp] theorem Tryz.ag25 : aggOf Tryz.prog 25 = some true := by kernel_rfl
@[simp] theorem Tryz.ze25 : zeroOf Tryz.prog 25 = some (.agg #[.int .i64 0, .slice none 0 0, .slice none 0 0, .int .i64 0, .slice none 0 0]) := by kernel_rfl
@[simp] theorem Tryz.fl25_0 : fldOf Tryz.prog 25 0 = some (0, 1, false) := by kernel_rfl
@[simp] theorem Tryz.fl25_1 : fldOf Tryz.prog 25 1 = some (1, 1, false) := by kernel_rfl
@[simp] theorem Tryz.fl25_2 : fldOf Tryz.prog 25 2 = some (2, 1, false) := by kernel_rfl
@[simp] theorem Tryz.fl25_3 : fldOf Tryz.prog 25 3 = some (3, 1, false) := by kernel_rfl
@[simp] theorem Tryz.fl25_4 : fldOf Tryz.prog 25 4 = some (4, 1, false) := by kernel_rfl
@[simp] theorem Tryz.bl25 : bldOf Tryz.prog 25 = some ([.int .i64 0, .slice none 0 0, .slice none 0 0, .int .i64 0, .slice none 0 0], [(0, 1), (1, 1), (2, 1), (3, 1), (4, 1)]) := by kernel_rfl
@[simp] theorem Tryz.sz29 : szOf Tryz.prog 29 = some 1 := by kernel_rfl
@[simp] theorem Tryz.ag29 : aggOf Tryz.prog 29 = some false := by kernel_rfl
@[simp] theorem Tryz.sz52 : szOf Tryz.prog 52 = some 1 := by kernel_rfl
@[simp] theorem Tryz.ag52 : aggOf Tryz.prog 52 = some false := by kernel_rfl
@[simp] theorem Tryz.el52 : elOf Tryz.prog 52 = some 58 := by kernel_rfl
@[simp] theorem Tryz.so52 (H : List Blk) (x : AV) (lo hi : Option AV) (k : AV → Prop) (w : Wit k) : sliV Tryz.prog H 52 x lo hi k w = bindOW (szOf Tryz.prog 58) (fun sz => bindOW (optI lo) (fun l => bindOW (optI hi) (fun hh => sliceVW H sz x l hh k (wit _)) (wit _)) (wit _)) (wit _) := sliV_sl Tryz.el52 H x lo hi k w
@[simp] theorem Tryz.lk52 : lkOf Tryz.prog 52 = 1 := by kernel_rfl
@[simp] theorem Tryz.ix52 (H : List Blk) (x i : AV) (k : AV → Prop) (w : Wit k) : idxAddrV Tryz.prog H 52 x i k w = bindOW (szOf Tryz.prog 58) (fun sz => bindOW (intA i) (fun n => idxVW H sz x n k (wit _)) (wit _)) (wit _) := idxAddrV_sl Tryz.el52 H x i k w
@[simp] theorem Tryz.sl52 : slbOf Tryz.prog 52 = some (58, 2, [.int .i64 0, .int .i64 0], 16) := by kernel_rfl
@[simp] theorem Tryz.sz58 : szOf Tryz.prog 58 = some 2 := by kernel_rfl
@[simp] theorem Tryz.ag58 : aggOf Tryz.prog 58 = some true := by kernel_rfl
@[simp] theorem Tryz.ze58 : zeroOf Tryz.prog 58 = some (.agg #[.int .i64 0, .int .i64 0]) := by kernel_rfl
@[simp] theorem Tryz.eq58 (x0 y0 : Int) (x1 y1 : Int) : binE Tryz.prog .eql 58 (.agg [.v (.int .i64 x0), .v (.int .i64 x1)]) (.agg [.v (.int .i64 y0), .v (.int .i64 y1)]) = some (.v (.bool ((x0 == y0) && ((x1 == y1) && true)))) := by kernel_rfl
@[simp] theorem Tryz.nq58 (x0 y0 : Int) (x1 y1 : Int) : binE Tryz.prog .neq 58 (.agg [.v (.int .i64 x0), .v (.int .i64 x1)]) (.agg [.v (.int .i64 y0), .v (.int .i64 y1)]) = some (.v (.bool (!((x0 == y0) && ((x1 == y1) && true))))) := by kernel_rfl
@[simp] theorem Tryz.ar58 : arOf Tryz.prog 58 = some (2, 3) := by kernel_rfl
@[simp] theorem Tryz.ix58 (H : List Blk) (x i : AV) (k : AV → Prop) (w : Wit k) : idxAddrV Tryz.prog H 58 x i k w = bindOW (szOf Tryz.prog 3) (fun sz => bindOW (intA i) (fun n => idxAW H 2 sz x n k (wit _)) (wit _)) (wit _) := idxAddrV_ar Tryz.ar58 H x i k w
@[simp] theorem Tryz.bl58 : bldOf Tryz.prog 58 = some ([.int .i64 0, .int .i64 0], [(0, 1), (1, 1)]) := by kernel_rfl
@[simp] theorem Tryz.sz61 : szOf Tryz.prog 61 = some 1 := by kernel_rfl
@[simp] theorem Tryz.ag61 : aggOf Tryz.prog 61 = some false := by kernel_rfl
@[simp] theorem Tryz.sz62 : szOf Tryz.prog 62 = some 1 := by kernel_rfl
@[simp] theorem Tryz.ag62 : aggOf Tryz.prog 62 = some false := by kernel_rfl
@[simp] theorem Tryz.sz63 : szOf Tryz.prog 63 = some 1 := by kernel_rfl
@[simp] theorem Tryz.ag63 : aggOf Tryz.prog 63 = some false := by kernel_rfl
@[simp] theorem Tryz.sz65 : szOf Tryz.prog 65 = some 8 := by kernel_rfl
@[simp] theorem Tryz.ag65 : aggOf Tryz.prog 65 = some true := by kernel_rfl
@[simp] theorem Tryz.ze65 : zeroOf Tryz.prog 65 = some (.agg #[.int .i64 0, .int .i64 0, .int .i64 0, .int .i64 0, .int .i64 0, .int .i64 0, .int .u64 0, .bool false]) := by kernel_rfl
@[simp] theorem Tryz.eq65 (x0 y0 : Int) (x1 y1 : Int) (x2 y2 : Int) (x3 y3 : Int) (x4 y4 : Int) (x5 y5 : Int) (x6 y6 : Int) (x7 y7 : Bool) : binE Tryz.prog .eql 65 (.agg [.v (.int .i64 x0), .v (.int .i64 x1), .v (.int .i64 x2), .v (.int .i64 x3), .v (.int .i64 x4), .v (.int .i64 x5), .v (.int .u64 x6), .v (.bool x7)]) (.agg [.v (.int .i64 y0), .v (.int .i64 y1), .v (.int .i64 y2), .v (.int .i64 y3), .v (.int .i64 y4), .v (.int .i64 y5), .v (.int .u64 y6), .v (.bool y7)]) = some (.v (.bool ((x0 == y0) && ((x1 == y1) && ((x2 == y2) && ((x3 == y3) && ((x4 == y4) && ((x5 == y5) && ((x6 == y6) && ((x7 == y7) && true)))))))))) := by kernel_rfl
@[simp] theorem Tryz.fl65_0 : fldOf Tryz.prog 65 0 = some (0, 1, false) := by kernel_rfl
@[simp] theorem Tryz.fl65_1 : fldOf Tryz.prog 65 1 = some (1, 1, false) := by kernel_rfl
@[simp] theorem Tryz.fl65_2 : fldOf Tryz.prog 65 2 = some (2, 1, false) := by kernel_rfl
@[simp] theorem Tryz.fl65_3 : fldOf Tryz.prog 65 3 = some (3, 1, false) := by kernel_rfl
@[simp] theorem Tryz.fl65_4 : fldOf Tryz.prog 65 4 = some (4, 1, false) := by kernel_rfl
@[simp] theorem Tryz.fl65_5 : fldOf Tryz.prog 65 5 = some (5, 1, false) := by kernel_rfl
@[simp] theorem Tryz.fl65_6 : fldOf Tryz.prog 65 6 = some (6, 1, false) := by kernel_rfl
@[simp] theorem Tryz.fl65_7 : fldOf Tryz.prog 65 7 = some (7, 1, false) := by kernel_rfl
@[simp] theorem Tryz.bl65 : bldOf Tryz.prog 65 = some ([.int .i64 0, .int .i64 0, .int .i64 0, .int .i64 0, .int .i64 0, .int .i64 0, .int .u64 0, .bool false], [(0, 1), (1, 1), (2, 1), (3, 1), (4, 1), (5, 1), (6, 1), (7, 1)]) := by kernel_rfl
@[simp] theorem Tryz.sz67 : szOf Tryz.prog 67 = some 11 := by kernel_rfl
@[simp] theorem Tryz.ag67 : aggOf Tryz.prog 67 = some true := by kernel_rfl
@[simp] theorem Tryz.ze67 : zeroOf Tryz.prog 67 = some (.agg #[.int .i64 0, .int .i64 0, .int .i64 0, .int .i64 0, .int .i64 0, .int .i64 0, .int .i64 0, .int .u64 0, .bool false, .int .i64 0, .int .i64 0]) := by kernel_rfl
@[simp] theorem Tryz.nq67 (x0 y0 : Int) (x1 y1 : Int) (x2 y2 : Int) (x3 y3 : Int) (x4 y4 : Int) (x5 y5 : Int) (x6 y6 : Int) (x7 y7 : Int) (x8 y8 : Bool) (x9 y9 : Int) (x10 y10 : Int) : binE Tryz.prog .neq 67 (.agg [.v (.int .i64 x0), .v (.int .i64 x1), .v (.int .i64 x2), .v (.int .i64 x3), .v (.int .i64 x4), .v (.int .i64 x5), .v (.int .i64 x6), .v (.int .u64 x7), .v (.bool x8), .v (.int .i64 x9), .v (.int .i64 x10)]) (.agg [.v (.int .i64 y0), .v (.int .i64 y1), .v (.int .i64 y2), .v (.int .i64 y3), .v (.int .i64 y4), .v (.int .i64 y5), .v (.int .i64 y6), .v (.int .u64 y7), .v (.bool y8), .v (.int .i64 y9), .v (.int .i64 y10)]) = some (.v (.bool (!((x0 == y0) && (((x1 == y1) && ((x2 == y2) && ((x3 == y3) && ((x4 == y4) && ((x5 == y5) && ((x6 == y6) && ((x7 == y7) && ((x8 == y8) && true)))))))) && ((x9 == y9) && ((x10 == y10) && true))))))) := by kernel_rfl
@[simp] theorem Tryz.fl67_0 : fldOf Tryz.prog 67 0 = some (0, 1, false) := by kernel_rfl
@[simp] theorem Tryz.fl67_1 : fldOf Tryz.prog 67 1 = some (1, 8, true) := by kernel_rfl
@[simp] theorem Tryz.fl67_2 : fldOf Tryz.prog 67 2 = some (9, 1, false) := by kernel_rfl
@[simp] theorem Tryz.fl67_3 : fldOf Tryz.prog 67 3 = some (10, 1, false) := by kernel_rfl
@[simp] theorem Tryz.bl67 : bldOf Tryz.prog 67 = some ([.int .i64 0, .int .i64 0, .int .i64 0, .int .i64 0, .int .i64 0, .int .i64 0, .int .i64 0, .int .u64 0, .bool false, .int .i64 0, .int .i64 0], [(0, 1), (1, 8), (9, 1), (10, 1)]) := by kernel_rfl
@[simp] theorem Tryz.el74 : elOf Tryz.prog 74 = some 22 := by kernel_rfl
@[simp] theorem Tryz.lk74 : lkOf Tryz.prog 74 = 1 := by kernel_rfl
@[simp] theorem Tryz.ix74 (H : List Blk) (x i : AV) (k : AV → Prop) (w : Wit k) : idxAddrV Tryz.prog H 74 x i k w = bindOW (szOf Tryz.prog 22) (fun sz => bindOW (intA i) (fun n => idxVW H sz x n k (wit _)) (wit _)) (wit _) := idxAddrV_sl Tryz.el74 H x i k w
@[simp] theorem Tryz.sl74 : slbOf Tryz.prog 74 = some (22, 1, [.slice none 0 0], 24) := by kernel_rfl
@[simp] theorem Tryz.sz85 : szOf Tryz.prog 85 = some 1 := by kernel_rfl
@[simp] theorem Tryz.ag85 : aggOf Tryz.prog 85 = some false := by kernel_rfl
@[simp] theorem Tryz.el85 : elOf Tryz.prog 85 = some 91 := by kernel_rfl
@[simp] theorem Tryz.lk85 : lkOf Tryz.prog 85 = 1 := by kernel_rfl
@[simp] theorem Tryz.ix85 (H : List Blk) (x i : AV) (k : AV → Prop) (w : Wit k) : idxAddrV Tryz.prog H 85 x i k w = bindOW (szOf Tryz.prog 91) (fun sz => bindOW (intA i) (fun n => idxVW H sz x n k (wit _)) (wit _)) (wit _) := idxAddrV_sl Tryz.el85 H x i k w
@[simp] theorem Tryz.sl85 : slbOf Tryz.prog 85 = some (91, 13, [.int .i64 0, .int .i64 0, .int .i64 0, .int .i64 0, .int .i64 0, .int .i64 0, .int .i64 0, .int .u64 0, .bool false, .int .i64 0, .slice none 0 0, .slice none 0 0, .slice none 0 0], 152) := by kernel_rfl
@[simp] theorem Tryz.fl87_0 : fldOf Tryz.prog 87 0 = some (0, 1, false) := by kernel_rfl
@[simp] theorem Tryz.fl87_1 : fldOf Tryz.prog 87 1 = some (1, 1, false) := by kernel_rfl
@[simp] theorem Tryz.fl87_2 : fldOf Tryz.prog 87 2 = some (2, 1, false) := by kernel_rfl
@[simp] theorem Tryz.fl87_3 : fldOf Tryz.prog 87 3 = some (3, 1, false) := by kernel_rfl
@[simp] theorem Tryz.fl87_4 : fldOf Tryz.prog 87 4 = some (4, 1, false) := by kernel_rfl
@[simp] theorem Tryz.bl87 : bldOf Tryz.prog 87 = some ([.int .i64 0, .slice none 0 0, .slice none 0 0, .int .i64 0, .slice none 0 0], [(0, 1), (1, 1), (2, 1), (3, 1), (4, 1)]) := by kernel_rfl
@[simp] theorem Tryz.sz88 : szOf Tryz.prog 88 = some 1 := by kernel_rfl
@[simp] theorem Tryz.ag88 : aggOf Tryz.prog 88 = some false := by kernel_rfl
@[simp] theorem Tryz.ze88 : zeroOf Tryz.prog 88 = some (.map none) := by kernel_rfl
@[simp] theorem Tryz.mp88 : mapOf Tryz.prog 88 = some (.int .i64, .agg #[.bool false]) := by kernel_rfl
@[simp] theorem Tryz.mt88 : isMapT Tryz.prog 88 = true := by kernel_rfl
@[simp] theorem Tryz.sz89 : szOf Tryz.prog 89 = some 1 := by kernel_rfl
@[simp] theorem Tryz.ag89 : aggOf Tryz.prog 89 = some false := by kernel_rfl
@[simp] theorem Tryz.sz91 : szOf Tryz.prog 91 = some 13 := by kernel_rfl
@[simp] theorem Tryz.ag91 : aggOf Tryz.prog 91 = some true := by kernel_rfl
@[simp] theorem Tryz.ze91 : zeroOf Tryz.prog 91 = some (.agg #[.int .i64 0, .int .i64 0, .int .i64 0, .int .i64 0, .int .i64 0, .int .i64 0, .int .i64 0, .int .u64 0, .bool false, .int .i64 0, .slice none 0 0, .slice none 0 0, .slice none 0 0]) := by kernel_rfl
@[simp] theorem Tryz.fl91_0 : fldOf Tryz.prog 91 0 = some (0, 1, false) := by kernel_rfl
@[simp] theorem Tryz.fl91_1 : fldOf Tryz.prog 91 1 = some (1, 8, true) := by kernel_rfl
@[simp] theorem Tryz.fl91_2 : fldOf Tryz.prog 91 2 = some (9, 1, false) := by kernel_rfl
@[simp] theorem Tryz.fl91_3 : fldOf Tryz.prog 91 3 = some (10, 1, false) := by kernel_rfl
@[simp] theorem Tryz.fl91_4 : fldOf Tryz.prog 91 4 = some (11, 1, false) := by kernel_rfl
@[simp] theorem Tryz.fl91_5 : fldOf Tryz.prog 91 5 = some (12, 1, false) := by kernel_rfl
@[simp] theorem Tryz.bl91 : bldOf Tryz.prog 91 = some ([.int .i64 0, .int .i64 0, .int .i64 0, .int .i64 0, .int .i64 0, .int .i64 0, .int .i64 0, .int .u64 0, .bool false, .int .i64 0, .slice none 0 0, .slice none 0 0, .slice none 0 0], [(0, 1), (1, 8), (9, 1), (10, 1), (11, 1), (12, 1)]) := by kernel_rfl
@[simp] theorem Tryz.fl92_0 : fldOf Tryz.prog 92 0 = some (0, 1, false) := by kernel_rfl
@[simp] theorem Tryz.bl92 : bldOf Tryz.prog 92 = some ([.bool false], [(0, 1)]) := by kernel_rfl
@[simp] theorem Tryz.mp99 : mapOf Tryz.prog 99 = some (.int .i64, .int .i64 0) := by kernel_rfl
@[simp] theorem Tryz.sz120 : szOf Tryz.prog 120 = some 1 := by kernel_rfl
@[simp] theorem Tryz.ag120 : aggOf Tryz.prog 120 = some false := by kernel_rfl
@[simp] theorem Tryz.mt120 : isMapT Tryz.prog 120 = true := by kernel_rfl
@[simp] theorem Tryz.mn120 : mapOf Tryz.prog 120 = none := by kernel_rfl
@[simp] theorem Tryz.mk120 : mapOfK Tryz.prog 120 = some (58, [.int .i64, .int .i64], .agg #[.bool false]) := by kernel_rfl
@[simp] theorem Tryz.bl121 : bldOf Tryz.prog 121 = some ([.bool false], [(0, 1)]) := by kernel_rfl
@[simp] theorem Tryz.el135 : elOf Tryz.prog 135 = some 88 := by kernel_rfl
@[simp] theorem Tryz.lk135 : lkOf Tryz.prog 135 = 1 := by kernel_rfl
@[simp] theorem Tryz.ix135 (H : List Blk) (x i : AV) (k : AV → Prop) (w : Wit k) : idxAddrV Tryz.prog H 135 x i k w = bindOW (szOf Tryz.prog 88) (fun sz => bindOW (intA i) (fun n => idxVW H sz x n k (wit _)) (wit _)) (wit _) := idxAddrV_sl Tryz.el135 H x i k w
@[simp] theorem Tryz.sl135 : slbOf Tryz.prog 135 = some (88, 1, [.map none], 8) := by kernel_rfl
@[simp] theorem Tryz.sz147 : szOf Tryz.prog 147 = some 1 := by kernel_rfl
@[simp] theorem Tryz.ag147 : aggOf Tryz.prog 147 = some false := by kernel_rfl
@[simp] theorem Tryz.ze147 : zeroOf Tryz.prog 147 = some (.pointer none) := by kernel_rfl
@[simp] theorem Tryz.fl149_0 : fldOf Tryz.prog 149 0 = some (0, 1, false) := by kernel_rfl
@[simp] theorem Tryz.fl149_1 : fldOf Tryz.prog 149 1 = some (1, 1, false) := by kernel_rfl
@[simp] theorem Tryz.bl149 : bldOf Tryz.prog 149 = some ([.int .i64 0, .int .i64 0], [(0, 1), (1, 1)]) := by kernel_rfl
@[simp] theorem Tryz.sz182 : szOf Tryz.prog 182 = some 1 := by kernel_rfl
@[simp] theorem Tryz.ag182 : aggOf Tryz.prog 182 = some false := by kernel_rfl
@[simp] theorem Tryz.ze182 : zeroOf Tryz.prog 182 = some (.map none) := by kernel_rfl
@[simp] theorem Tryz.mp182 : mapOf Tryz.prog 182 = some (.int .i64, .slice none 0 0) := by kernel_rfl
@[simp] theorem Tryz.ud186 : undB Tryz.prog 186 = true := by kernel_rfl
@[simp] theorem Tryz.ko186 : kOf Tryz.prog 186 = some .u64 := by kernel_rfl
@[simp] theorem Tryz.el211 : elOf Tryz.prog 211 = some 4 := by kernel_rfl
@[simp] theorem Tryz.ix211 (H : List Blk) (x i : AV) (k : AV → Prop) (w : Wit k) : idxAddrV Tryz.prog H 211 x i k w = bindOW (szOf Tryz.prog 4) (fun sz => bindOW (intA i) (fun n => idxVW H sz x n k (wit _)) (wit _)) (wit _) := idxAddrV_sl Tryz.el211 H x i k w
@[simp] theorem Tryz.sl211 : slbOf Tryz.prog 211 = some (4, 1, [.bool false], 1) := by kernel_rfl
@[simp] theorem Tryz.ok13 : okFn Tryz.prog 13 = true := by kernel_rfl
@[simp] theorem Tryz.ok18 : okFn Tryz.prog 18 = true := by kernel_rfl
@[simp] theorem Tryz.ok19 : okFn Tryz.prog 19 = true := by kernel_rfl
@[simp] theorem Tryz.ok20 : okFn Tryz.prog 20 = true := by kernel_rfl
@[simp] theorem Tryz.ok21 : okFn Tryz.prog 21 = true := by kernel_rfl
@[simp] theorem Tryz.ok22 : okFn Tryz.prog 22 = true := by kernel_rfl
@[simp] theorem Tryz.ok23 : okFn Tryz.prog 23 = true := by kernel_rfl
@[simp] theorem Tryz.ok24 : okFn Tryz.prog 24 = true := by kernel_rfl
@[simp] theorem Tryz.ok25 : okFn Tryz.prog 25 = true := by kernel_rfl
@[simp] theorem Tryz.ok26 : okFn Tryz.prog 26 = true := by kernel_rfl
@[simp] theorem Tryz.ok31 : okFn Tryz.prog 31 = true := by kernel_rfl
@[simp] theorem Tryz.ok36 : okFn Tryz.prog 36 = true := by kernel_rfl
@[simp] theorem Tryz.ok37 : okFn Tryz.prog 37 = true := by kernel_rfl
@[simp] theorem Tryz.ok42 : okFn Tryz.prog 42 = true := by kernel_rfl
@[simp] theorem Tryz.ok48 : okFn Tryz.prog 48 = true := by kernel_rfl
@[simp] theorem Tryz.ok49 : okFn Tryz.prog 49 = true := by kernel_rfl
@[simp] theorem Tryz.ok50 : okFn Tryz.prog 50 = true := by kernel_rfl
@[simp] theorem Tryz.ok51 : okFn Tryz.prog 51 = true := by kernel_rfl
@[simp] theorem Tryz.ok54 : okFn Tryz.prog 54 = true := by kernel_rfl
@[simp] theorem Tryz.ok55 : okFn Tryz.prog 55 = true := by kernel_rfl
@[simp] theorem Tryz.ok56 : okFn Tryz.prog 56 = true := by kernel_rfl
@[simp] theorem Tryz.ok57 : okFn Tryz.prog 57 = true := by kernel_rfl
@[simp] theorem Tryz.ok58 : okFn Tryz.prog 58 = true := by kernel_rfl
@[simp] theorem Tryz.ok59 : okFn Tryz.prog 59 = true := by kernel_rfl
@[simp] theorem Tryz.ok60 : okFn Tryz.prog 60 = true := by kernel_rfl
@[simp] theorem Tryz.ok61 : okFn Tryz.prog 61 = true := by kernel_rfl
@[simp] theorem Tryz.ok62 : okFn Tryz.prog 62 = true := by kernel_rfl
@[simp] theorem Tryz.ok63 : okFn Tryz.prog 63 = true := by kernel_rfl
@[simp] theorem Tryz.ok64 : okFn Tryz.prog 64 = true := by kernel_rfl
@[simp] theorem Tryz.ok65 : okFn Tryz.prog 65 = true := by kernel_rfl
@[simp] theorem Tryz.ok66 : okFn Tryz.prog 66 = true := by kernel_rfl
@[simp] theorem Tryz.ok67 : okFn Tryz.prog 67 = true := by kernel_rfl
@[simp] theorem Tryz.ok68 : okFn Tryz.prog 68 = true := by kernel_rfl
@[simp] theorem Tryz.ok69 : okFn Tryz.prog 69 = true := by kernel_rfl
@[simp] theorem Tryz.ok70 : okFn Tryz.prog 70 = true := by kernel_rfl
@[simp] theorem Tryz.ok71 : okFn Tryz.prog 71 = true := by kernel_rfl
@[simp] theorem Tryz.ok72 : okFn Tryz.prog 72 = true := by kernel_rfl
@[simp] theorem Tryz.ok73 : okFn Tryz.prog 73 = true := by kernel_rfl
@[simp] theorem Tryz.ok79 : okFn Tryz.prog 79 = true := by kernel_rfl
@[simp] theorem Tryz.ok80 : okFn Tryz.prog 80 = true := by kernel_rfl
@[simp] theorem Tryz.ok82 : okFn Tryz.prog 82 = true := by kernel_rfl
@[simp] theorem Tryz.ok83 : okFn Tryz.prog 83 = true := by kernel_rfl
@[simp] theorem Tryz.ok91 : okFn Tryz.prog 91 = true := by kernel_rfl
@[simp] theorem Tryz.ok93 : okFn Tryz.prog 93 = true := by kernel_rfl
@[simp] theorem Tryz.ok94 : okFn Tryz.prog 94 = true := by kernel_rfl
@[simp] theorem Tryz.ok96 : okFn Tryz.prog 96 = true := by kernel_rfl
@[simp] theorem Tryz.ok97 : okFn Tryz.prog 97 = true := by kernel_rfl
@[simp] theorem Tryz.ok98 : okFn Tryz.prog 98 = true := by kernel_rfl
@[simp] theorem Tryz.ok99 : okFn Tryz.prog 99 = true := by kernel_rfl
@[simp] theorem Tryz.ok100 : okFn Tryz.prog 100 = true := by kernel_rfl
@[simp] theorem Tryz.ok101 : okFn Tryz.prog 101 = true := by kernel_rfl
@[simp] theorem Tryz.ok102 : okFn Tryz.prog 102 = true := by kernel_rfl
@[simp] theorem Tryz.ok103 : okFn Tryz.prog 103 = true := by kernel_rfl
@[simp] theorem Tryz.ok104 : okFn Tryz.prog 104 = true := by kernel_rfl
@[simp] theorem Tryz.ok105 : okFn Tryz.prog 105 = true := by kernel_rfl
@[simp] theorem Tryz.ok106 : okFn Tryz.prog 106 = true := by kernel_rfl
@[simp] theorem Tryz.ok107 : okFn Tryz.prog 107 = true := by kernel_rfl
@[simp] theorem Tryz.ok108 : okFn Tryz.prog 108 = true := by kernel_rfl
@[simp] theorem Tryz.ok109 : okFn Tryz.prog 109 = true := by kernel_rfl
@[simp] theorem Tryz.ok115 : okFn Tryz.prog 115 = true := by kernel_rfl
@[simp] theorem Tryz.ok116 : okFn Tryz.prog 116 = true := by kernel_rfl
@[simp] theorem Tryz.ok122 : okFn Tryz.prog 122 = true := by kernel_rfl
@[simp] theorem Tryz.ok123 : okFn Tryz.prog 123 = true := by kernel_rfl
@[simp] theorem Tryz.ok126 : okFn Tryz.prog 126 = true := by kernel_rfl
@[simp] theorem Tryz.ok129 : okFn Tryz.prog 129 = true := by kernel_rfl
@[simp] theorem Tryz.ok130 : okFn Tryz.prog 130 = true := by kernel_rfl
@[simp] theorem Tryz.ok131 : okFn Tryz.prog 131 = true := by kernel_rfl
@[simp] theorem Tryz.ok132 : okFn Tryz.prog 132 = true := by kernel_rfl
@[simp] theorem Tryz.ok134 : okFn Tryz.prog 134 = true := by kernel_rfl
@[simp] theorem Tryz.ok135 : okFn Tryz.prog 135 = true := by kernel_rfl
@[simp] theorem Tryz.ok160 : okFn Tryz.prog 160 = true := by kernel_rfl
@[simp] theorem Tryz.ok184 : okFn Tryz.prog 184 = true := by kernel_rfl
end Go.Proofs
