/- The program's types and functions, as the rules want them (written by a program of our own). -/
import Derived.Test.YtihlekehnihnpaaFwMtoFwN
import Derived.Test.YtihlekehnihnpaaProg
import Derived.KernelRfl
set_option linter.unusedVariables false
set_option linter.unusedSimpArgs false
namespace Go.Proofs
open Go.Mu
@[simp] theorem Try.sz3 : szOf Try.prog 3 = some 1 := by kernel_rfl
@[simp] theorem Try.ag3 : aggOf Try.prog 3 = some false := by kernel_rfl
@[simp] theorem Try.ud3 : undB Try.prog 3 = true := by kernel_rfl
@[simp] theorem Try.ko3 : kOf Try.prog 3 = some .i64 := by kernel_rfl
@[simp] theorem Try.sz4 : szOf Try.prog 4 = some 1 := by kernel_rfl
@[simp] theorem Try.ag4 : aggOf Try.prog 4 = some false := by kernel_rfl
@[simp] theorem Try.sz5 : szOf Try.prog 5 = some 1 := by kernel_rfl
@[simp] theorem Try.ag5 : aggOf Try.prog 5 = some false := by kernel_rfl
@[simp] theorem Try.sz9 : szOf Try.prog 9 = some 1 := by kernel_rfl
@[simp] theorem Try.ag9 : aggOf Try.prog 9 = some false := by kernel_rfl
@[simp] theorem Try.lk9 : lkOf Try.prog 9 = 2 := by kernel_rfl
@[simp] theorem Try.iv9 (x i : AV) (k : AV → Prop) (w : Wit k) : idxValV Try.prog 9 x i k w = bindOW (strA x) (fun s => bindOW (intA i) (fun n => andVW (0 ≤ n) (bindOW (s.data.toList[n.toNat]?) (fun b => k (.v (.int .u8 b.toNat))) (wit _)) (wit _)) (wit _)) (wit _) := idxValV_str Try.lk9 x i k w
@[simp] theorem Try.sz22 : szOf Try.prog 22 = some 1 := by kernel_rfl
@[simp] theorem Try.ag22 : aggOf Try.prog 22 = some false := by kernel_rfl
@[simp] theorem Try.el22 : elOf Try.prog 22 = some 83 := by kernel_rfl
@[simp] theorem Try.lk22 : lkOf Try.prog 22 = 1 := by kernel_rfl
@[simp] theorem Try.ix22 (H : List Blk) (x i : AV) (k : AV → Prop) (w : Wit k) : idxAddrV Try.prog H 22 x i k w = bindOW (szOf Try.prog 83) (fun sz => bindOW (intA i) (fun n => idxVW H sz x n k (wit _)) (wit _)) (wit _) := idxAddrV_sl Try.el22 H x i k w
@[simp] theorem Try.sl22 : slbOf Try.prog 22 = some (83, 4, [.string ByteArray.empty, .int .i64 0, .int .i64 0, .bool false], 40) := by kernel_rfl
@[simp] theorem Try.sz23 : szOf Try.prog 23 = some 1 := by kernel_rfl
@[simp] theorem Try.ag23 : aggOf Try.prog 23 = some false := by kernel_rfl
@[simp] theorem Try.el23 : elOf Try.prog 23 = some 38 := by kernel_rfl
@[simp] theorem Try.lk23 : lkOf Try.prog 23 = 1 := by kernel_rfl
@[simp] theorem Try.ix23 (H : List Blk) (x i : AV) (k : AV → Prop) (w : Wit k) : idxAddrV Try.prog H 23 x i k w = bindOW (szOf Try.prog 38) (fun sz => bindOW (intA i) (fun n => idxVW H sz x n k (wit _)) (wit _)) (wit _) := idxAddrV_sl Try.el23 H x i k w
@[simp] theorem Try.sl23 : slbOf Try.prog 23 = some (38, 5, [.string ByteArray.empty, .slice none 0 0, .slice none 0 0, .slice none 0 0, .slice none 0 0], 112) := by kernel_rfl
@[simp] theorem Try.sz25 : szOf Try.prog 25 = some 2 := by kernel_rfl
@[simp] theorem Try.ag25 : aggOf Try.prog 25 = some true := by kernel_rfl
@[simp] theorem Try.ze25 : zeroOf Try.prog 25 = some (.agg #[.slice none 0 0, .slice none 0 0]) := by kernel_rfl
@[simp] theorem Try.fl25_0 : fldOf Try.prog 25 0 = some (0, 1, false) := by kernel_rfl
@[simp] theorem Try.fl25_1 : fldOf Try.prog 25 1 = some (1, 1, false) := by kernel_rfl
@[simp] theorem Try.bl25 : bldOf Try.prog 25 = some ([.slice none 0 0, .slice none 0 0], [(0, 1), (1, 1)]) := by kernel_rfl
@[simp] theorem Try.sz28 : szOf Try.prog 28 = some 1 := by kernel_rfl
@[simp] theorem Try.ag28 : aggOf Try.prog 28 = some false := by kernel_rfl
@[simp] theorem Try.ze28 : zeroOf Try.prog 28 = some (.int .i64 0) := by kernel_rfl
@[simp] theorem Try.sz34 : szOf Try.prog 34 = some 1 := by kernel_rfl
@[simp] theorem Try.ag34 : aggOf Try.prog 34 = some false := by kernel_rfl
@[simp] theorem Try.el34 : elOf Try.prog 34 = some 87 := by kernel_rfl
@[simp] theorem Try.lk34 : lkOf Try.prog 34 = 1 := by kernel_rfl
@[simp] theorem Try.ix34 (H : List Blk) (x i : AV) (k : AV → Prop) (w : Wit k) : idxAddrV Try.prog H 34 x i k w = bindOW (szOf Try.prog 87) (fun sz => bindOW (intA i) (fun n => idxVW H sz x n k (wit _)) (wit _)) (wit _) := idxAddrV_sl Try.el34 H x i k w
@[simp] theorem Try.sl34 : slbOf Try.prog 34 = some (87, 4, [.string ByteArray.empty, .int .i64 0, .int .i64 0, .bool false], 40) := by kernel_rfl
@[simp] theorem Try.sz35 : szOf Try.prog 35 = some 1 := by kernel_rfl
@[simp] theorem Try.ag35 : aggOf Try.prog 35 = some false := by kernel_rfl
@[simp] theorem Try.el35 : elOf Try.prog 35 = some 9 := by kernel_rfl
@[simp] theorem Try.lk35 : lkOf Try.prog 35 = 1 := by kernel_rfl
@[simp] theorem Try.ix35 (H : List Blk) (x i : AV) (k : AV → Prop) (w : Wit k) : idxAddrV Try.prog H 35 x i k w = bindOW (szOf Try.prog 9) (fun sz => bindOW (intA i) (fun n => idxVW H sz x n k (wit _)) (wit _)) (wit _) := idxAddrV_sl Try.el35 H x i k w
@[simp] theorem Try.sl35 : slbOf Try.prog 35 = some (9, 1, [.string ByteArray.empty], 16) := by kernel_rfl
@[simp] theorem Try.sz36 : szOf Try.prog 36 = some 1 := by kernel_rfl
@[simp] theorem Try.ag36 : aggOf Try.prog 36 = some false := by kernel_rfl
@[simp] theorem Try.ze36 : zeroOf Try.prog 36 = some (.slice none 0 0) := by kernel_rfl
@[simp] theorem Try.el36 : elOf Try.prog 36 = some 71 := by kernel_rfl
@[simp] theorem Try.lk36 : lkOf Try.prog 36 = 1 := by kernel_rfl
@[simp] theorem Try.ix36 (H : List Blk) (x i : AV) (k : AV → Prop) (w : Wit k) : idxAddrV Try.prog H 36 x i k w = bindOW (szOf Try.prog 71) (fun sz => bindOW (intA i) (fun n => idxVW H sz x n k (wit _)) (wit _)) (wit _) := idxAddrV_sl Try.el36 H x i k w
@[simp] theorem Try.sl36 : slbOf Try.prog 36 = some (71, 16, [.int .i64 0, .string ByteArray.empty, .slice none 0 0, .int .i64 0, .int .u64 0, .string ByteArray.empty, .slice none 0 0, .int .i64 0, .int .u64 0, .string ByteArray.empty, .slice none 0 0, .slice none 0 0, .int .u64 0, .int .u64 0, .slice none 0 0, .slice none 0 0], 248) := by kernel_rfl
@[simp] theorem Try.sz38 : szOf Try.prog 38 = some 5 := by kernel_rfl
@[simp] theorem Try.ag38 : aggOf Try.prog 38 = some true := by kernel_rfl
@[simp] theorem Try.ze38 : zeroOf Try.prog 38 = some (.agg #[.string ByteArray.empty, .slice none 0 0, .slice none 0 0, .slice none 0 0, .slice none 0 0]) := by kernel_rfl
@[simp] theorem Try.fl38_0 : fldOf Try.prog 38 0 = some (0, 1, false) := by kernel_rfl
@[simp] theorem Try.fl38_1 : fldOf Try.prog 38 1 = some (1, 1, false) := by kernel_rfl
@[simp] theorem Try.fl38_2 : fldOf Try.prog 38 2 = some (2, 1, false) := by kernel_rfl
@[simp] theorem Try.fl38_3 : fldOf Try.prog 38 3 = some (3, 1, false) := by kernel_rfl
@[simp] theorem Try.fl38_4 : fldOf Try.prog 38 4 = some (4, 1, false) := by kernel_rfl
@[simp] theorem Try.bl38 : bldOf Try.prog 38 = some ([.string ByteArray.empty, .slice none 0 0, .slice none 0 0, .slice none 0 0, .slice none 0 0], [(0, 1), (1, 1), (2, 1), (3, 1), (4, 1)]) := by kernel_rfl
@[simp] theorem Try.sz40 : szOf Try.prog 40 = some 1 := by kernel_rfl
@[simp] theorem Try.ag40 : aggOf Try.prog 40 = some false := by kernel_rfl
@[simp] theorem Try.ud40 : undB Try.prog 40 = true := by kernel_rfl
@[simp] theorem Try.ko40 : kOf Try.prog 40 = some .u64 := by kernel_rfl
@[simp] theorem Try.sz46 : szOf Try.prog 46 = some 4 := by kernel_rfl
@[simp] theorem Try.ag46 : aggOf Try.prog 46 = some true := by kernel_rfl
@[simp] theorem Try.ze46 : zeroOf Try.prog 46 = some (.agg #[.bool false, .bool false, .bool false, .bool false]) := by kernel_rfl
@[simp] theorem Try.fl46_0 : fldOf Try.prog 46 0 = some (0, 1, false) := by kernel_rfl
@[simp] theorem Try.fl46_1 : fldOf Try.prog 46 1 = some (1, 1, false) := by kernel_rfl
@[simp] theorem Try.fl46_2 : fldOf Try.prog 46 2 = some (2, 1, false) := by kernel_rfl
@[simp] theorem Try.fl46_3 : fldOf Try.prog 46 3 = some (3, 1, false) := by kernel_rfl
@[simp] theorem Try.bl46 : bldOf Try.prog 46 = some ([.bool false, .bool false, .bool false, .bool false], [(0, 1), (1, 1), (2, 1), (3, 1)]) := by kernel_rfl
@[simp] theorem Try.sz49 : szOf Try.prog 49 = some 1 := by kernel_rfl
@[simp] theorem Try.ag49 : aggOf Try.prog 49 = some false := by kernel_rfl
@[simp] theorem Try.ze49 : zeroOf Try.prog 49 = some (.slice none 0 0) := by kernel_rfl
@[simp] theorem Try.el49 : elOf Try.prog 49 = some 80 := by kernel_rfl
@[simp] theorem Try.lk49 : lkOf Try.prog 49 = 1 := by kernel_rfl
@[simp] theorem Try.ix49 (H : List Blk) (x i : AV) (k : AV → Prop) (w : Wit k) : idxAddrV Try.prog H 49 x i k w = bindOW (szOf Try.prog 80) (fun sz => bindOW (intA i) (fun n => idxVW H sz x n k (wit _)) (wit _)) (wit _) := idxAddrV_sl Try.el49 H x i k w
@[simp] theorem Try.sl49 : slbOf Try.prog 49 = some (80, 4, [.int .i64 0, .slice none 0 0, .bool false, .slice none 0 0], 64) := by kernel_rfl
@[simp] theorem Try.sz65 : szOf Try.prog 65 = some 1 := by kernel_rfl
@[simp] theorem Try.ag65 : aggOf Try.prog 65 = some false := by kernel_rfl
@[simp] theorem Try.sz66 : szOf Try.prog 66 = some 1 := by kernel_rfl
@[simp] theorem Try.ag66 : aggOf Try.prog 66 = some false := by kernel_rfl
@[simp] theorem Try.sz67 : szOf Try.prog 67 = some 1 := by kernel_rfl
@[simp] theorem Try.ag67 : aggOf Try.prog 67 = some false := by kernel_rfl
@[simp] theorem Try.el67 : elOf Try.prog 67 = some 69 := by kernel_rfl
@[simp] theorem Try.lk67 : lkOf Try.prog 67 = 1 := by kernel_rfl
@[simp] theorem Try.ix67 (H : List Blk) (x i : AV) (k : AV → Prop) (w : Wit k) : idxAddrV Try.prog H 67 x i k w = bindOW (szOf Try.prog 69) (fun sz => bindOW (intA i) (fun n => idxVW H sz x n k (wit _)) (wit _)) (wit _) := idxAddrV_sl Try.el67 H x i k w
@[simp] theorem Try.sl67 : slbOf Try.prog 67 = some (69, 4, [.int .i64 0, .int .u64 0, .string ByteArray.empty, .slice none 0 0], 56) := by kernel_rfl
@[simp] theorem Try.sz69 : szOf Try.prog 69 = some 4 := by kernel_rfl
@[simp] theorem Try.ag69 : aggOf Try.prog 69 = some true := by kernel_rfl
@[simp] theorem Try.ze69 : zeroOf Try.prog 69 = some (.agg #[.int .i64 0, .int .u64 0, .string ByteArray.empty, .slice none 0 0]) := by kernel_rfl
@[simp] theorem Try.fl69_0 : fldOf Try.prog 69 0 = some (0, 1, false) := by kernel_rfl
@[simp] theorem Try.fl69_1 : fldOf Try.prog 69 1 = some (1, 1, false) := by kernel_rfl
@[simp] theorem Try.fl69_2 : fldOf Try.prog 69 2 = some (2, 1, false) := by kernel_rfl
@[simp] theorem Try.fl69_3 : fldOf Try.prog 69 3 = some (3, 1, false) := by kernel_rfl
@[simp] theorem Try.bl69 : bldOf Try.prog 69 = some ([.int .i64 0, .int .u64 0, .string ByteArray.empty, .slice none 0 0], [(0, 1), (1, 1), (2, 1), (3, 1)]) := by kernel_rfl
@[simp] theorem Try.sz71 : szOf Try.prog 71 = some 16 := by kernel_rfl
@[simp] theorem Try.ag71 : aggOf Try.prog 71 = some true := by kernel_rfl
@[simp] theorem Try.ze71 : zeroOf Try.prog 71 = some (.agg #[.int .i64 0, .string ByteArray.empty, .slice none 0 0, .int .i64 0, .int .u64 0, .string ByteArray.empty, .slice none 0 0, .int .i64 0, .int .u64 0, .string ByteArray.empty, .slice none 0 0, .slice none 0 0, .int .u64 0, .int .u64 0, .slice none 0 0, .slice none 0 0]) := by kernel_rfl
@[simp] theorem Try.fl71_0 : fldOf Try.prog 71 0 = some (0, 1, false) := by kernel_rfl
@[simp] theorem Try.fl71_1 : fldOf Try.prog 71 1 = some (1, 1, false) := by kernel_rfl
@[simp] theorem Try.fl71_2 : fldOf Try.prog 71 2 = some (2, 1, false) := by kernel_rfl
@[simp] theorem Try.fl71_3 : fldOf Try.prog 71 3 = some (3, 4, true) := by kernel_rfl
@[simp] theorem Try.fl71_4 : fldOf Try.prog 71 4 = some (7, 4, true) := by kernel_rfl
@[simp] theorem Try.fl71_5 : fldOf Try.prog 71 5 = some (11, 1, false) := by kernel_rfl
@[simp] theorem Try.fl71_6 : fldOf Try.prog 71 6 = some (12, 1, false) := by kernel_rfl
@[simp] theorem Try.fl71_7 : fldOf Try.prog 71 7 = some (13, 1, false) := by kernel_rfl
@[simp] theorem Try.fl71_8 : fldOf Try.prog 71 8 = some (14, 1, false) := by kernel_rfl
@[simp] theorem Try.fl71_9 : fldOf Try.prog 71 9 = some (15, 1, false) := by kernel_rfl
@[simp] theorem Try.bl71 : bldOf Try.prog 71 = some ([.int .i64 0, .string ByteArray.empty, .slice none 0 0, .int .i64 0, .int .u64 0, .string ByteArray.empty, .slice none 0 0, .int .i64 0, .int .u64 0, .string ByteArray.empty, .slice none 0 0, .slice none 0 0, .int .u64 0, .int .u64 0, .slice none 0 0, .slice none 0 0], [(0, 1), (1, 1), (2, 1), (3, 4), (7, 4), (11, 1), (12, 1), (13, 1), (14, 1), (15, 1)]) := by kernel_rfl
@[simp] theorem Try.sz76 : szOf Try.prog 76 = some 1 := by kernel_rfl
@[simp] theorem Try.ag76 : aggOf Try.prog 76 = some false := by kernel_rfl
@[simp] theorem Try.sz78 : szOf Try.prog 78 = some 1 := by kernel_rfl
@[simp] theorem Try.ag78 : aggOf Try.prog 78 = some false := by kernel_rfl
@[simp] theorem Try.lk78 : lkOf Try.prog 78 = 1 := by kernel_rfl
@[simp] theorem Try.sl78 : slbOf Try.prog 78 = some (49, 1, [.slice none 0 0], 24) := by kernel_rfl
@[simp] theorem Try.sz80 : szOf Try.prog 80 = some 4 := by kernel_rfl
@[simp] theorem Try.ag80 : aggOf Try.prog 80 = some true := by kernel_rfl
@[simp] theorem Try.ze80 : zeroOf Try.prog 80 = some (.agg #[.int .i64 0, .slice none 0 0, .bool false, .slice none 0 0]) := by kernel_rfl
@[simp] theorem Try.fl80_0 : fldOf Try.prog 80 0 = some (0, 1, false) := by kernel_rfl
@[simp] theorem Try.fl80_3 : fldOf Try.prog 80 3 = some (3, 1, false) := by kernel_rfl
@[simp] theorem Try.bl80 : bldOf Try.prog 80 = some ([.int .i64 0, .slice none 0 0, .bool false, .slice none 0 0], [(0, 1), (1, 1), (2, 1), (3, 1)]) := by kernel_rfl
@[simp] theorem Try.sz83 : szOf Try.prog 83 = some 4 := by kernel_rfl
@[simp] theorem Try.ag83 : aggOf Try.prog 83 = some true := by kernel_rfl
@[simp] theorem Try.ze83 : zeroOf Try.prog 83 = some (.agg #[.string ByteArray.empty, .int .i64 0, .int .i64 0, .bool false]) := by kernel_rfl
@[simp] theorem Try.nq83 (x0 y0 : ByteArray) (x1 y1 : Int) (x2 y2 : Int) (x3 y3 : Bool) : binE Try.prog .neq 83 (.agg [.v (.string x0), .v (.int .i64 x1), .v (.int .i64 x2), .v (.bool x3)]) (.agg [.v (.string y0), .v (.int .i64 y1), .v (.int .i64 y2), .v (.bool y3)]) = some (.v (.bool (!((x0.toList == y0.toList) && ((x1 == y1) && ((x2 == y2) && ((x3 == y3) && true))))))) := by kernel_rfl
@[simp] theorem Try.fl83_0 : fldOf Try.prog 83 0 = some (0, 1, false) := by kernel_rfl
@[simp] theorem Try.fl83_1 : fldOf Try.prog 83 1 = some (1, 1, false) := by kernel_rfl
@[simp] theorem Try.fl83_2 : fldOf Try.prog 83 2 = some (2, 1, false) := by kernel_rfl
@[simp] theorem Try.sz85 : szOf Try.prog 85 = some 1 := by kernel_rfl
@[simp] theorem Try.ag85 : aggOf Try.prog 85 = some false := by kernel_rfl
@[simp] theorem Try.sz87 : szOf Try.prog 87 = some 4 := by kernel_rfl
@[simp] theorem Try.ag87 : aggOf Try.prog 87 = some true := by kernel_rfl
@[simp] theorem Try.ze87 : zeroOf Try.prog 87 = some (.agg #[.string ByteArray.empty, .int .i64 0, .int .i64 0, .bool false]) := by kernel_rfl
@[simp] theorem Try.nq87 (x0 y0 : ByteArray) (x1 y1 : Int) (x2 y2 : Int) (x3 y3 : Bool) : binE Try.prog .neq 87 (.agg [.v (.string x0), .v (.int .i64 x1), .v (.int .i64 x2), .v (.bool x3)]) (.agg [.v (.string y0), .v (.int .i64 y1), .v (.int .i64 y2), .v (.bool y3)]) = some (.v (.bool (!((x0.toList == y0.toList) && ((x1 == y1) && ((x2 == y2) && ((x3 == y3) && true))))))) := by kernel_rfl
@[simp] theorem Try.fl87_0 : fldOf Try.prog 87 0 = some (0, 1, false) := by kernel_rfl
@[simp] theorem Try.fl87_1 : fldOf Try.prog 87 1 = some (1, 1, false) := by kernel_rfl
@[simp] theorem Try.fl87_2 : fldOf Try.prog 87 2 = some (2, 1, false) := by kernel_rfl
@[simp] theorem Try.fl87_3 : fldOf Try.prog 87 3 = some (3, 1, false) := by kernel_rfl
@[simp] theorem Try.bl87 : bldOf Try.prog 87 = some ([.string ByteArray.empty, .int .i64 0, .int .i64 0, .bool false], [(0, 1), (1, 1), (2, 1), (3, 1)]) := by kernel_rfl
@[simp] theorem Try.sz92 : szOf Try.prog 92 = some 1 := by kernel_rfl
@[simp] theorem Try.ag92 : aggOf Try.prog 92 = some false := by kernel_rfl
@[simp] theorem Try.ze92 : zeroOf Try.prog 92 = some (.nilFunc) := by kernel_rfl
@[simp] theorem Try.sz94 : szOf Try.prog 94 = some 1 := by kernel_rfl
@[simp] theorem Try.ag94 : aggOf Try.prog 94 = some false := by kernel_rfl
@[simp] theorem Try.ze94 : zeroOf Try.prog 94 = some (.nilFunc) := by kernel_rfl
@[simp] theorem Try.sz109 : szOf Try.prog 109 = some 1 := by kernel_rfl
@[simp] theorem Try.ag109 : aggOf Try.prog 109 = some false := by kernel_rfl
@[simp] theorem Try.ze109 : zeroOf Try.prog 109 = some (.nilFunc) := by kernel_rfl
@[simp] theorem Try.sz126 : szOf Try.prog 126 = some 1 := by kernel_rfl
@[simp] theorem Try.ag126 : aggOf Try.prog 126 = some false := by kernel_rfl
@[simp] theorem Try.mp126 : mapOf Try.prog 126 = some (.string, .agg #[.string ByteArray.empty, .int .i64 0, .int .i64 0, .bool false]) := by kernel_rfl
@[simp] theorem Try.sz127 : szOf Try.prog 127 = some 1 := by kernel_rfl
@[simp] theorem Try.ag127 : aggOf Try.prog 127 = some false := by kernel_rfl
@[simp] theorem Try.mp127 : mapOf Try.prog 127 = some (.string, .agg #[.bool false]) := by kernel_rfl
@[simp] theorem Try.fl130_0 : fldOf Try.prog 130 0 = some (0, 2, true) := by kernel_rfl
@[simp] theorem Try.fl130_1 : fldOf Try.prog 130 1 = some (2, 1, false) := by kernel_rfl
@[simp] theorem Try.fl130_2 : fldOf Try.prog 130 2 = some (3, 1, false) := by kernel_rfl
@[simp] theorem Try.fl130_3 : fldOf Try.prog 130 3 = some (4, 1, false) := by kernel_rfl
@[simp] theorem Try.fl130_4 : fldOf Try.prog 130 4 = some (5, 1, false) := by kernel_rfl
@[simp] theorem Try.fl130_5 : fldOf Try.prog 130 5 = some (6, 1, false) := by kernel_rfl
@[simp] theorem Try.bl130 : bldOf Try.prog 130 = some ([.slice none 0 0, .slice none 0 0, .int .i64 0, .map none, .map none, .slice none 0 0, .slice none 0 0], [(0, 2), (2, 1), (3, 1), (4, 1), (5, 1), (6, 1)]) := by kernel_rfl
@[simp] theorem Try.fl131_0 : fldOf Try.prog 131 0 = some (0, 1, false) := by kernel_rfl
@[simp] theorem Try.bl131 : bldOf Try.prog 131 = some ([.bool false], [(0, 1)]) := by kernel_rfl
@[simp] theorem Try.sz138 : szOf Try.prog 138 = some 0 := by kernel_rfl
@[simp] theorem Try.ze138 : zeroOf Try.prog 138 = some (.agg #[]) := by kernel_rfl
@[simp] theorem Try.ni138 : isNonIface Try.prog 138 = true := by kernel_rfl
@[simp] theorem Try.bl138 : bldOf Try.prog 138 = some ([], []) := by kernel_rfl
@[simp] theorem Try.fl141_0 : fldOf Try.prog 141 0 = some (0, 1, false) := by kernel_rfl
@[simp] theorem Try.bl141 : bldOf Try.prog 141 = some ([.int .i64 0], [(0, 1)]) := by kernel_rfl
@[simp] theorem Try.sz157 : szOf Try.prog 157 = some 1 := by kernel_rfl
@[simp] theorem Try.ze157 : zeroOf Try.prog 157 = some (.agg #[.int .i64 0]) := by kernel_rfl
@[simp] theorem Try.ni157 : isNonIface Try.prog 157 = true := by kernel_rfl
@[simp] theorem Try.fl157_0 : fldOf Try.prog 157 0 = some (0, 1, false) := by kernel_rfl
@[simp] theorem Try.bl157 : bldOf Try.prog 157 = some ([.int .i64 0], [(0, 1)]) := by kernel_rfl
@[simp] theorem Try.fl173_0 : fldOf Try.prog 173 0 = some (0, 1, false) := by kernel_rfl
@[simp] theorem Try.bl173 : bldOf Try.prog 173 = some ([.int .i64 0], [(0, 1)]) := by kernel_rfl
@[simp] theorem Try.el176 : elOf Try.prog 176 = some 5 := by kernel_rfl
@[simp] theorem Try.lk176 : lkOf Try.prog 176 = 1 := by kernel_rfl
@[simp] theorem Try.ix176 (H : List Blk) (x i : AV) (k : AV → Prop) (w : Wit k) : idxAddrV Try.prog H 176 x i k w = bindOW (szOf Try.prog 5) (fun sz => bindOW (intA i) (fun n => idxVW H sz x n k (wit _)) (wit _)) (wit _) := idxAddrV_sl Try.el176 H x i k w
@[simp] theorem Try.ko176 : kOf Try.prog 176 = none := by kernel_rfl
@[simp] theorem Try.by176_9 : byB Try.prog 9 176 = true := by kernel_rfl
@[simp] theorem Try.el178 : elOf Try.prog 178 = some 65 := by kernel_rfl
@[simp] theorem Try.lk178 : lkOf Try.prog 178 = 1 := by kernel_rfl
@[simp] theorem Try.ix178 (H : List Blk) (x i : AV) (k : AV → Prop) (w : Wit k) : idxAddrV Try.prog H 178 x i k w = bindOW (szOf Try.prog 65) (fun sz => bindOW (intA i) (fun n => idxVW H sz x n k (wit _)) (wit _)) (wit _) := idxAddrV_sl Try.el178 H x i k w
@[simp] theorem Try.sl178 : slbOf Try.prog 178 = some (65, 1, [.int .i64 0], 8) := by kernel_rfl
@[simp] theorem Try.ok8 : okFn Try.prog 8 = true := by kernel_rfl
@[simp] theorem Try.ok9 : okFn Try.prog 9 = true := by kernel_rfl
@[simp] theorem Try.ok10 : okFn Try.prog 10 = true := by kernel_rfl
@[simp] theorem Try.ok11 : okFn Try.prog 11 = true := by kernel_rfl
@[simp] theorem Try.ok12 : okFn Try.prog 12 = true := by kernel_rfl
@[simp] theorem Try.ok13 : okFn Try.prog 13 = true := by kernel_rfl
@[simp] theorem Try.ok15 : okFn Try.prog 15 = true := by kernel_rfl
@[simp] theorem Try.ok16 : okFn Try.prog 16 = true := by kernel_rfl
@[simp] theorem Try.ok17 : okFn Try.prog 17 = true := by kernel_rfl
@[simp] theorem Try.ok18 : okFn Try.prog 18 = true := by kernel_rfl
@[simp] theorem Try.ok19 : okFn Try.prog 19 = true := by kernel_rfl
@[simp] theorem Try.ok20 : okFn Try.prog 20 = true := by kernel_rfl
@[simp] theorem Try.ok27 : okFn Try.prog 27 = true := by kernel_rfl
@[simp] theorem Try.ok28 : okFn Try.prog 28 = true := by kernel_rfl
@[simp] theorem Try.ok29 : okFn Try.prog 29 = true := by kernel_rfl
@[simp] theorem Try.ok30 : okFn Try.prog 30 = true := by kernel_rfl
@[simp] theorem Try.ok31 : okFn Try.prog 31 = true := by kernel_rfl
@[simp] theorem Try.ok32 : okFn Try.prog 32 = true := by kernel_rfl
@[simp] theorem Try.ok33 : okFn Try.prog 33 = true := by kernel_rfl
@[simp] theorem Try.ok34 : okFn Try.prog 34 = true := by kernel_rfl
@[simp] theorem Try.ok35 : okFn Try.prog 35 = true := by kernel_rfl
@[simp] theorem Try.ok36 : okFn Try.prog 36 = true := by kernel_rfl
@[simp] theorem Try.ok37 : okFn Try.prog 37 = true := by kernel_rfl
@[simp] theorem Try.ok38 : okFn Try.prog 38 = true := by kernel_rfl
@[simp] theorem Try.ok39 : okFn Try.prog 39 = true := by kernel_rfl
@[simp] theorem Try.ok41 : okFn Try.prog 41 = true := by kernel_rfl
@[simp] theorem Try.ok42 : okFn Try.prog 42 = true := by kernel_rfl
@[simp] theorem Try.ok43 : okFn Try.prog 43 = true := by kernel_rfl
@[simp] theorem Try.ok44 : okFn Try.prog 44 = true := by kernel_rfl
@[simp] theorem Try.ok45 : okFn Try.prog 45 = true := by kernel_rfl
@[simp] theorem Try.ok46 : okFn Try.prog 46 = true := by kernel_rfl
@[simp] theorem Try.ok47 : okFn Try.prog 47 = true := by kernel_rfl
@[simp] theorem Try.ok48 : okFn Try.prog 48 = true := by kernel_rfl
@[simp] theorem Try.ok49 : okFn Try.prog 49 = true := by kernel_rfl
@[simp] theorem Try.ok50 : okFn Try.prog 50 = true := by kernel_rfl
@[simp] theorem Try.ok51 : okFn Try.prog 51 = true := by kernel_rfl
@[simp] theorem Try.ok63 : okFn Try.prog 63 = true := by kernel_rfl
@[simp] theorem Try.ok66 : okFn Try.prog 66 = true := by kernel_rfl
@[simp] theorem Try.ok67 : okFn Try.prog 67 = true := by kernel_rfl
@[simp] theorem Try.ok68 : okFn Try.prog 68 = true := by kernel_rfl
@[simp] theorem Try.ok69 : okFn Try.prog 69 = true := by kernel_rfl
@[simp] theorem Try.ok70 : okFn Try.prog 70 = true := by kernel_rfl
@[simp] theorem Try.ok71 : okFn Try.prog 71 = true := by kernel_rfl
@[simp] theorem Try.ok72 : okFn Try.prog 72 = true := by kernel_rfl
@[simp] theorem Try.ok73 : okFn Try.prog 73 = true := by kernel_rfl
@[simp] theorem Try.ok74 : okFn Try.prog 74 = true := by kernel_rfl
@[simp] theorem Try.ok75 : okFn Try.prog 75 = true := by kernel_rfl
@[simp] theorem Try.ok76 : okFn Try.prog 76 = true := by kernel_rfl
@[simp] theorem Try.ok77 : okFn Try.prog 77 = true := by kernel_rfl
@[simp] theorem Try.ok78 : okFn Try.prog 78 = true := by kernel_rfl
@[simp] theorem Try.ok79 : okFn Try.prog 79 = true := by kernel_rfl
@[simp] theorem Try.ok80 : okFn Try.prog 80 = true := by kernel_rfl
@[simp] theorem Try.ok81 : okFn Try.prog 81 = true := by kernel_rfl
@[simp] theorem Try.ok82 : okFn Try.prog 82 = true := by kernel_rfl
@[simp] theorem Try.ok84 : okFn Try.prog 84 = true := by kernel_rfl
@[simp] theorem Try.ok103 : okFn Try.prog 103 = true := by kernel_rfl
@[simp] theorem Try.ok104 : okFn Try.prog 104 = true := by kernel_rfl
@[simp] theorem Try.ok105 : okFn Try.prog 105 = true := by kernel_rfl
@[simp] theorem Try.ok106 : okFn Try.prog 106 = true := by kernel_rfl
@[simp] theorem Try.ok107 : okFn Try.prog 107 = true := by kernel_rfl
@[simp] theorem Try.ok108 : okFn Try.prog 108 = true := by kernel_rfl
@[simp] theorem Try.ok109 : okFn Try.prog 109 = true := by kernel_rfl
@[simp] theorem Try.ok110 : okFn Try.prog 110 = true := by kernel_rfl
@[simp] theorem Try.ok111 : okFn Try.prog 111 = true := by kernel_rfl
@[simp] theorem Try.ok112 : okFn Try.prog 112 = true := by kernel_rfl
@[simp] theorem Try.ok113 : okFn Try.prog 113 = true := by kernel_rfl
@[simp] theorem Try.ok114 : okFn Try.prog 114 = true := by kernel_rfl
@[simp] theorem Try.ok115 : okFn Try.prog 115 = true := by kernel_rfl
@[simp] theorem Try.ok116 : okFn Try.prog 116 = true := by kernel_rfl
@[simp] theorem Try.ok117 : okFn Try.prog 117 = true := by kernel_rfl
@[simp] theorem Try.ok118 : okFn Try.prog 118 = true := by kernel_rfl
@[simp] theorem Try.ok119 : okFn Try.prog 119 = true := by kernel_rfl
@[simp] theorem Try.ok120 : okFn Try.prog 120 = true := by kernel_rfl
@[simp] theorem Try.ok124 : okFn Try.prog 124 = true := by kernel_rfl
@[simp] theorem Try.ok126 : okFn Try.prog 126 = true := by kernel_rfl
@[simp] theorem Try.ok127 : okFn Try.prog 127 = true := by kernel_rfl
@[simp] theorem Try.ok128 : okFn Try.prog 128 = true := by kernel_rfl
@[simp] theorem Try.ok129 : okFn Try.prog 129 = true := by kernel_rfl
@[simp] theorem Try.ok130 : okFn Try.prog 130 = true := by kernel_rfl
@[simp] theorem Try.ok131 : okFn Try.prog 131 = true := by kernel_rfl
@[simp] theorem Try.ok132 : okFn Try.prog 132 = true := by kernel_rfl
@[simp] theorem Try.ok133 : okFn Try.prog 133 = true := by kernel_rfl
@[simp] theorem Try.ok134 : okFn Try.prog 134 = true := by kernel_rfl
@[simp] theorem Try.ok135 : okFn Try.prog 135 = true := by kernel_rfl
@[simp] theorem Try.ok136 : okFn Try.prog 136 = true := by kernel_rfl
@[simp] theorem Try.ok137 : okFn Try.prog 137 = true := by kernel_rfl
@[simp] theorem Try.ok138 : okFn Try.prog 138 = true := by kernel_rfl
@[simp] theorem Try.ok139 : okFn Try.prog 139 = true := by kernel_rfl
@[simp] theorem Try.ok140 : okFn Try.prog 140 = true := by kernel_rfl
@[simp] theorem Try.ok141 : okFn Try.prog 141 = true := by kernel_rfl
@[simp] theorem Try.ok142 : okFn Try.prog 142 = true := by kernel_rfl
@[simp] theorem Try.ok143 : okFn Try.prog 143 = true := by kernel_rfl
@[simp] theorem Try.ok144 : okFn Try.prog 144 = true := by kernel_rfl
@[simp] theorem Try.ok145 : okFn Try.prog 145 = true := by kernel_rfl
@[simp] theorem Try.ok146 : okFn Try.prog 146 = true := by kernel_rfl
end Go.Proofs
