/- The program's types and functions, as the rules want them (written by a program of our own). -/
import Derived.Test.YtihlekehnihnpaaGreatFwJbtoFwN
import Derived.Test.YtihlekehnihnpaaGreatProg
import Derived.KernelRfl
set_option linter.unusedVariables false
set_option linter.unusedSimpArgs false
namespace Go.Proofs
open Go.Mu
@[simp] theorem Tryz.sz3 : szOf Tryz.prog 3 = some 1 := by kernel_rfl
@[simp] theorem Tryz.ag3 : aggOf Tryz.prog 3 = some false := by kernel_rfl
@[simp] theorem Tryz.ze3 : zeroOf Tryz.prog 3 = some (.int .i64 0) := by kernel_rfl
@[simp] theorem Tryz.sz4 : szOf Tryz.prog 4 = some 1 := by kernel_rfl
@[simp] theorem Tryz.ag4 : aggOf Tryz.prog 4 = some false := by kernel_rfl
@[simp] theorem Tryz.ze4 : zeroOf Tryz.prog 4 = some (.bool false) := by kernel_rfl
@[simp] theorem Tryz.sz5 : szOf Tryz.prog 5 = some 1 := by kernel_rfl
@[simp] theorem Tryz.ag5 : aggOf Tryz.prog 5 = some false := by kernel_rfl
@[simp] theorem Tryz.sz9 : szOf Tryz.prog 9 = some 1 := by kernel_rfl
@[simp] theorem Tryz.ag9 : aggOf Tryz.prog 9 = some false := by kernel_rfl
@[simp] theorem Tryz.lk9 : lkOf Tryz.prog 9 = 2 := by kernel_rfl
@[simp] theorem Tryz.iv9 (x i : AV) (k : AV → Prop) (w : Wit k) : idxValV Tryz.prog 9 x i k w = bindOW (strA x) (fun s => bindOW (intA i) (fun n => andVW (0 ≤ n) (bindOW (s.data.toList[n.toNat]?) (fun b => k (.v (.int .u8 b.toNat))) (wit _)) (wit _)) (wit _)) (wit _) := idxValV_str Tryz.lk9 x i k w
@[simp] theorem Tryz.sz22 : szOf Tryz.prog 22 = some 1 := by kernel_rfl
@[simp] theorem Tryz.ag22 : aggOf Tryz.prog 22 = some false := by kernel_rfl
@[simp] theorem Tryz.el22 : elOf Tryz.prog 22 = some 103 := by kernel_rfl
@[simp] theorem Tryz.lk22 : lkOf Tryz.prog 22 = 1 := by kernel_rfl
@[simp] theorem Tryz.ix22 (H : List Blk) (x i : AV) (k : AV → Prop) (w : Wit k) : idxAddrV Tryz.prog H 22 x i k w = bindOW (szOf Tryz.prog 103) (fun sz => bindOW (intA i) (fun n => idxVW H sz x n k (wit _)) (wit _)) (wit _) := idxAddrV_sl Tryz.el22 H x i k w
@[simp] theorem Tryz.sl22 : slbOf Tryz.prog 22 = some (103, 4, [.string ByteArray.empty, .int .i64 0, .int .i64 0, .bool false], 40) := by kernel_rfl
@[simp] theorem Tryz.sz23 : szOf Tryz.prog 23 = some 1 := by kernel_rfl
@[simp] theorem Tryz.ag23 : aggOf Tryz.prog 23 = some false := by kernel_rfl
@[simp] theorem Tryz.el23 : elOf Tryz.prog 23 = some 37 := by kernel_rfl
@[simp] theorem Tryz.lk23 : lkOf Tryz.prog 23 = 1 := by kernel_rfl
@[simp] theorem Tryz.ix23 (H : List Blk) (x i : AV) (k : AV → Prop) (w : Wit k) : idxAddrV Tryz.prog H 23 x i k w = bindOW (szOf Tryz.prog 37) (fun sz => bindOW (intA i) (fun n => idxVW H sz x n k (wit _)) (wit _)) (wit _) := idxAddrV_sl Tryz.el23 H x i k w
@[simp] theorem Tryz.sl23 : slbOf Tryz.prog 23 = some (37, 5, [.string ByteArray.empty, .slice none 0 0, .slice none 0 0, .slice none 0 0, .slice none 0 0], 112) := by kernel_rfl
@[simp] theorem Tryz.sz25 : szOf Tryz.prog 25 = some 2 := by kernel_rfl
@[simp] theorem Tryz.ag25 : aggOf Tryz.prog 25 = some true := by kernel_rfl
@[simp] theorem Tryz.ze25 : zeroOf Tryz.prog 25 = some (.agg #[.slice none 0 0, .slice none 0 0]) := by kernel_rfl
@[simp] theorem Tryz.fl25_0 : fldOf Tryz.prog 25 0 = some (0, 1, false) := by kernel_rfl
@[simp] theorem Tryz.fl25_1 : fldOf Tryz.prog 25 1 = some (1, 1, false) := by kernel_rfl
@[simp] theorem Tryz.bl25 : bldOf Tryz.prog 25 = some ([.slice none 0 0, .slice none 0 0], [(0, 1), (1, 1)]) := by kernel_rfl
@[simp] theorem Tryz.sz33 : szOf Tryz.prog 33 = some 1 := by kernel_rfl
@[simp] theorem Tryz.ag33 : aggOf Tryz.prog 33 = some false := by kernel_rfl
@[simp] theorem Tryz.el33 : elOf Tryz.prog 33 = some 67 := by kernel_rfl
@[simp] theorem Tryz.lk33 : lkOf Tryz.prog 33 = 1 := by kernel_rfl
@[simp] theorem Tryz.ix33 (H : List Blk) (x i : AV) (k : AV → Prop) (w : Wit k) : idxAddrV Tryz.prog H 33 x i k w = bindOW (szOf Tryz.prog 67) (fun sz => bindOW (intA i) (fun n => idxVW H sz x n k (wit _)) (wit _)) (wit _) := idxAddrV_sl Tryz.el33 H x i k w
@[simp] theorem Tryz.sl33 : slbOf Tryz.prog 33 = some (67, 4, [.string ByteArray.empty, .int .i64 0, .int .i64 0, .bool false], 40) := by kernel_rfl
@[simp] theorem Tryz.sz34 : szOf Tryz.prog 34 = some 1 := by kernel_rfl
@[simp] theorem Tryz.ag34 : aggOf Tryz.prog 34 = some false := by kernel_rfl
@[simp] theorem Tryz.el34 : elOf Tryz.prog 34 = some 9 := by kernel_rfl
@[simp] theorem Tryz.lk34 : lkOf Tryz.prog 34 = 1 := by kernel_rfl
@[simp] theorem Tryz.ix34 (H : List Blk) (x i : AV) (k : AV → Prop) (w : Wit k) : idxAddrV Tryz.prog H 34 x i k w = bindOW (szOf Tryz.prog 9) (fun sz => bindOW (intA i) (fun n => idxVW H sz x n k (wit _)) (wit _)) (wit _) := idxAddrV_sl Tryz.el34 H x i k w
@[simp] theorem Tryz.sl34 : slbOf Tryz.prog 34 = some (9, 1, [.string ByteArray.empty], 16) := by kernel_rfl
@[simp] theorem Tryz.sz35 : szOf Tryz.prog 35 = some 1 := by kernel_rfl
@[simp] theorem Tryz.ag35 : aggOf Tryz.prog 35 = some false := by kernel_rfl
@[simp] theorem Tryz.el35 : elOf Tryz.prog 35 = some 57 := by kernel_rfl
@[simp] theorem Tryz.lk35 : lkOf Tryz.prog 35 = 1 := by kernel_rfl
@[simp] theorem Tryz.ix35 (H : List Blk) (x i : AV) (k : AV → Prop) (w : Wit k) : idxAddrV Tryz.prog H 35 x i k w = bindOW (szOf Tryz.prog 57) (fun sz => bindOW (intA i) (fun n => idxVW H sz x n k (wit _)) (wit _)) (wit _) := idxAddrV_sl Tryz.el35 H x i k w
@[simp] theorem Tryz.sl35 : slbOf Tryz.prog 35 = some (57, 16, [.int .i64 0, .string ByteArray.empty, .slice none 0 0, .int .i64 0, .int .u64 0, .string ByteArray.empty, .slice none 0 0, .int .i64 0, .int .u64 0, .string ByteArray.empty, .slice none 0 0, .slice none 0 0, .int .u64 0, .int .u64 0, .slice none 0 0, .slice none 0 0], 248) := by kernel_rfl
@[simp] theorem Tryz.sz37 : szOf Tryz.prog 37 = some 5 := by kernel_rfl
@[simp] theorem Tryz.ag37 : aggOf Tryz.prog 37 = some true := by kernel_rfl
@[simp] theorem Tryz.ze37 : zeroOf Tryz.prog 37 = some (.agg #[.string ByteArray.empty, .slice none 0 0, .slice none 0 0, .slice none 0 0, .slice none 0 0]) := by kernel_rfl
@[simp] theorem Tryz.fl37_0 : fldOf Tryz.prog 37 0 = some (0, 1, false) := by kernel_rfl
@[simp] theorem Tryz.fl37_1 : fldOf Tryz.prog 37 1 = some (1, 1, false) := by kernel_rfl
@[simp] theorem Tryz.fl37_2 : fldOf Tryz.prog 37 2 = some (2, 1, false) := by kernel_rfl
@[simp] theorem Tryz.fl37_3 : fldOf Tryz.prog 37 3 = some (3, 1, false) := by kernel_rfl
@[simp] theorem Tryz.fl37_4 : fldOf Tryz.prog 37 4 = some (4, 1, false) := by kernel_rfl
@[simp] theorem Tryz.bl37 : bldOf Tryz.prog 37 = some ([.string ByteArray.empty, .slice none 0 0, .slice none 0 0, .slice none 0 0, .slice none 0 0], [(0, 1), (1, 1), (2, 1), (3, 1), (4, 1)]) := by kernel_rfl
@[simp] theorem Tryz.sz40 : szOf Tryz.prog 40 = some 1 := by kernel_rfl
@[simp] theorem Tryz.ag40 : aggOf Tryz.prog 40 = some false := by kernel_rfl
@[simp] theorem Tryz.ze40 : zeroOf Tryz.prog 40 = some (.int .i64 0) := by kernel_rfl
@[simp] theorem Tryz.sz49 : szOf Tryz.prog 49 = some 1 := by kernel_rfl
@[simp] theorem Tryz.ag49 : aggOf Tryz.prog 49 = some false := by kernel_rfl
@[simp] theorem Tryz.sz50 : szOf Tryz.prog 50 = some 1 := by kernel_rfl
@[simp] theorem Tryz.ag50 : aggOf Tryz.prog 50 = some false := by kernel_rfl
@[simp] theorem Tryz.sz51 : szOf Tryz.prog 51 = some 1 := by kernel_rfl
@[simp] theorem Tryz.ag51 : aggOf Tryz.prog 51 = some false := by kernel_rfl
@[simp] theorem Tryz.el51 : elOf Tryz.prog 51 = some 53 := by kernel_rfl
@[simp] theorem Tryz.lk51 : lkOf Tryz.prog 51 = 1 := by kernel_rfl
@[simp] theorem Tryz.ix51 (H : List Blk) (x i : AV) (k : AV → Prop) (w : Wit k) : idxAddrV Tryz.prog H 51 x i k w = bindOW (szOf Tryz.prog 53) (fun sz => bindOW (intA i) (fun n => idxVW H sz x n k (wit _)) (wit _)) (wit _) := idxAddrV_sl Tryz.el51 H x i k w
@[simp] theorem Tryz.sl51 : slbOf Tryz.prog 51 = some (53, 4, [.int .i64 0, .int .u64 0, .string ByteArray.empty, .slice none 0 0], 56) := by kernel_rfl
@[simp] theorem Tryz.sz53 : szOf Tryz.prog 53 = some 4 := by kernel_rfl
@[simp] theorem Tryz.ag53 : aggOf Tryz.prog 53 = some true := by kernel_rfl
@[simp] theorem Tryz.ze53 : zeroOf Tryz.prog 53 = some (.agg #[.int .i64 0, .int .u64 0, .string ByteArray.empty, .slice none 0 0]) := by kernel_rfl
@[simp] theorem Tryz.fl53_0 : fldOf Tryz.prog 53 0 = some (0, 1, false) := by kernel_rfl
@[simp] theorem Tryz.fl53_1 : fldOf Tryz.prog 53 1 = some (1, 1, false) := by kernel_rfl
@[simp] theorem Tryz.fl53_2 : fldOf Tryz.prog 53 2 = some (2, 1, false) := by kernel_rfl
@[simp] theorem Tryz.fl53_3 : fldOf Tryz.prog 53 3 = some (3, 1, false) := by kernel_rfl
@[simp] theorem Tryz.bl53 : bldOf Tryz.prog 53 = some ([.int .i64 0, .int .u64 0, .string ByteArray.empty, .slice none 0 0], [(0, 1), (1, 1), (2, 1), (3, 1)]) := by kernel_rfl
@[simp] theorem Tryz.sz54 : szOf Tryz.prog 54 = some 1 := by kernel_rfl
@[simp] theorem Tryz.ag54 : aggOf Tryz.prog 54 = some false := by kernel_rfl
@[simp] theorem Tryz.el54 : elOf Tryz.prog 54 = some 4 := by kernel_rfl
@[simp] theorem Tryz.lk54 : lkOf Tryz.prog 54 = 1 := by kernel_rfl
@[simp] theorem Tryz.ix54 (H : List Blk) (x i : AV) (k : AV → Prop) (w : Wit k) : idxAddrV Tryz.prog H 54 x i k w = bindOW (szOf Tryz.prog 4) (fun sz => bindOW (intA i) (fun n => idxVW H sz x n k (wit _)) (wit _)) (wit _) := idxAddrV_sl Tryz.el54 H x i k w
@[simp] theorem Tryz.sl54 : slbOf Tryz.prog 54 = some (4, 1, [.bool false], 1) := by kernel_rfl
@[simp] theorem Tryz.sz55 : szOf Tryz.prog 55 = some 1 := by kernel_rfl
@[simp] theorem Tryz.ag55 : aggOf Tryz.prog 55 = some false := by kernel_rfl
@[simp] theorem Tryz.sz57 : szOf Tryz.prog 57 = some 16 := by kernel_rfl
@[simp] theorem Tryz.ag57 : aggOf Tryz.prog 57 = some true := by kernel_rfl
@[simp] theorem Tryz.ze57 : zeroOf Tryz.prog 57 = some (.agg #[.int .i64 0, .string ByteArray.empty, .slice none 0 0, .int .i64 0, .int .u64 0, .string ByteArray.empty, .slice none 0 0, .int .i64 0, .int .u64 0, .string ByteArray.empty, .slice none 0 0, .slice none 0 0, .int .u64 0, .int .u64 0, .slice none 0 0, .slice none 0 0]) := by kernel_rfl
@[simp] theorem Tryz.fl57_0 : fldOf Tryz.prog 57 0 = some (0, 1, false) := by kernel_rfl
@[simp] theorem Tryz.fl57_1 : fldOf Tryz.prog 57 1 = some (1, 1, false) := by kernel_rfl
@[simp] theorem Tryz.fl57_2 : fldOf Tryz.prog 57 2 = some (2, 1, false) := by kernel_rfl
@[simp] theorem Tryz.fl57_3 : fldOf Tryz.prog 57 3 = some (3, 4, true) := by kernel_rfl
@[simp] theorem Tryz.fl57_4 : fldOf Tryz.prog 57 4 = some (7, 4, true) := by kernel_rfl
@[simp] theorem Tryz.fl57_5 : fldOf Tryz.prog 57 5 = some (11, 1, false) := by kernel_rfl
@[simp] theorem Tryz.fl57_6 : fldOf Tryz.prog 57 6 = some (12, 1, false) := by kernel_rfl
@[simp] theorem Tryz.fl57_7 : fldOf Tryz.prog 57 7 = some (13, 1, false) := by kernel_rfl
@[simp] theorem Tryz.fl57_8 : fldOf Tryz.prog 57 8 = some (14, 1, false) := by kernel_rfl
@[simp] theorem Tryz.fl57_9 : fldOf Tryz.prog 57 9 = some (15, 1, false) := by kernel_rfl
@[simp] theorem Tryz.bl57 : bldOf Tryz.prog 57 = some ([.int .i64 0, .string ByteArray.empty, .slice none 0 0, .int .i64 0, .int .u64 0, .string ByteArray.empty, .slice none 0 0, .int .i64 0, .int .u64 0, .string ByteArray.empty, .slice none 0 0, .slice none 0 0, .int .u64 0, .int .u64 0, .slice none 0 0, .slice none 0 0], [(0, 1), (1, 1), (2, 1), (3, 4), (7, 4), (11, 1), (12, 1), (13, 1), (14, 1), (15, 1)]) := by kernel_rfl
@[simp] theorem Tryz.sz58 : szOf Tryz.prog 58 = some 1 := by kernel_rfl
@[simp] theorem Tryz.ag58 : aggOf Tryz.prog 58 = some false := by kernel_rfl
@[simp] theorem Tryz.mp58 : mapOf Tryz.prog 58 = some (.string, .bool false) := by kernel_rfl
@[simp] theorem Tryz.fl64_0 : fldOf Tryz.prog 64 0 = some (0, 2, true) := by kernel_rfl
@[simp] theorem Tryz.fl64_1 : fldOf Tryz.prog 64 1 = some (2, 1, false) := by kernel_rfl
@[simp] theorem Tryz.fl64_2 : fldOf Tryz.prog 64 2 = some (3, 1, false) := by kernel_rfl
@[simp] theorem Tryz.fl64_3 : fldOf Tryz.prog 64 3 = some (4, 1, false) := by kernel_rfl
@[simp] theorem Tryz.bl64 : bldOf Tryz.prog 64 = some ([.slice none 0 0, .slice none 0 0, .int .i64 0, .slice none 0 0, .int .i64 0, .int .i64 0], [(0, 2), (2, 1), (3, 1), (4, 1), (5, 1)]) := by kernel_rfl
@[simp] theorem Tryz.sz65 : szOf Tryz.prog 65 = some 1 := by kernel_rfl
@[simp] theorem Tryz.ag65 : aggOf Tryz.prog 65 = some false := by kernel_rfl
@[simp] theorem Tryz.sz67 : szOf Tryz.prog 67 = some 4 := by kernel_rfl
@[simp] theorem Tryz.ag67 : aggOf Tryz.prog 67 = some true := by kernel_rfl
@[simp] theorem Tryz.ze67 : zeroOf Tryz.prog 67 = some (.agg #[.string ByteArray.empty, .int .i64 0, .int .i64 0, .bool false]) := by kernel_rfl
@[simp] theorem Tryz.fl67_0 : fldOf Tryz.prog 67 0 = some (0, 1, false) := by kernel_rfl
@[simp] theorem Tryz.fl67_1 : fldOf Tryz.prog 67 1 = some (1, 1, false) := by kernel_rfl
@[simp] theorem Tryz.fl67_2 : fldOf Tryz.prog 67 2 = some (2, 1, false) := by kernel_rfl
@[simp] theorem Tryz.fl67_3 : fldOf Tryz.prog 67 3 = some (3, 1, false) := by kernel_rfl
@[simp] theorem Tryz.bl67 : bldOf Tryz.prog 67 = some ([.string ByteArray.empty, .int .i64 0, .int .i64 0, .bool false], [(0, 1), (1, 1), (2, 1), (3, 1)]) := by kernel_rfl
@[simp] theorem Tryz.el94 : elOf Tryz.prog 94 = some 5 := by kernel_rfl
@[simp] theorem Tryz.lk94 : lkOf Tryz.prog 94 = 1 := by kernel_rfl
@[simp] theorem Tryz.ix94 (H : List Blk) (x i : AV) (k : AV → Prop) (w : Wit k) : idxAddrV Tryz.prog H 94 x i k w = bindOW (szOf Tryz.prog 5) (fun sz => bindOW (intA i) (fun n => idxVW H sz x n k (wit _)) (wit _)) (wit _) := idxAddrV_sl Tryz.el94 H x i k w
@[simp] theorem Tryz.ko94 : kOf Tryz.prog 94 = none := by kernel_rfl
@[simp] theorem Tryz.by94_9 : byB Tryz.prog 9 94 = true := by kernel_rfl
@[simp] theorem Tryz.bn94_9 : byS Tryz.prog 9 94 = false := by kernel_rfl
@[simp] theorem Tryz.sz103 : szOf Tryz.prog 103 = some 4 := by kernel_rfl
@[simp] theorem Tryz.ag103 : aggOf Tryz.prog 103 = some true := by kernel_rfl
@[simp] theorem Tryz.ze103 : zeroOf Tryz.prog 103 = some (.agg #[.string ByteArray.empty, .int .i64 0, .int .i64 0, .bool false]) := by kernel_rfl
@[simp] theorem Tryz.fl103_0 : fldOf Tryz.prog 103 0 = some (0, 1, false) := by kernel_rfl
@[simp] theorem Tryz.fl103_1 : fldOf Tryz.prog 103 1 = some (1, 1, false) := by kernel_rfl
@[simp] theorem Tryz.fl103_2 : fldOf Tryz.prog 103 2 = some (2, 1, false) := by kernel_rfl
@[simp] theorem Tryz.fl103_3 : fldOf Tryz.prog 103 3 = some (3, 1, false) := by kernel_rfl
@[simp] theorem Tryz.sz138 : szOf Tryz.prog 138 = some 1 := by kernel_rfl
@[simp] theorem Tryz.ag138 : aggOf Tryz.prog 138 = some false := by kernel_rfl
@[simp] theorem Tryz.ze138 : zeroOf Tryz.prog 138 = some (.pointer none) := by kernel_rfl
@[simp] theorem Tryz.sz140 : szOf Tryz.prog 140 = some 1 := by kernel_rfl
@[simp] theorem Tryz.ag140 : aggOf Tryz.prog 140 = some false := by kernel_rfl
@[simp] theorem Tryz.sz142 : szOf Tryz.prog 142 = some 1 := by kernel_rfl
@[simp] theorem Tryz.ag142 : aggOf Tryz.prog 142 = some false := by kernel_rfl
@[simp] theorem Tryz.lk142 : lkOf Tryz.prog 142 = 3 := by kernel_rfl
@[simp] theorem Tryz.mp142 : mapOf Tryz.prog 142 = some (.string, .bool false) := by kernel_rfl
@[simp] theorem Tryz.mt142 : isMapT Tryz.prog 142 = true := by kernel_rfl
@[simp] theorem Tryz.fl144_0 : fldOf Tryz.prog 144 0 = some (0, 2, true) := by kernel_rfl
@[simp] theorem Tryz.fl144_1 : fldOf Tryz.prog 144 1 = some (2, 1, false) := by kernel_rfl
@[simp] theorem Tryz.fl144_2 : fldOf Tryz.prog 144 2 = some (3, 1, false) := by kernel_rfl
@[simp] theorem Tryz.fl144_3 : fldOf Tryz.prog 144 3 = some (4, 1, false) := by kernel_rfl
@[simp] theorem Tryz.bl144 : bldOf Tryz.prog 144 = some ([.slice none 0 0, .slice none 0 0, .map none, .map none, .pointer none], [(0, 2), (2, 1), (3, 1), (4, 1)]) := by kernel_rfl
@[simp] theorem Tryz.sz186 : szOf Tryz.prog 186 = some 1 := by kernel_rfl
@[simp] theorem Tryz.ag186 : aggOf Tryz.prog 186 = some false := by kernel_rfl
@[simp] theorem Tryz.mp186 : mapOf Tryz.prog 186 = some (.string, .agg #[.string ByteArray.empty, .int .i64 0, .int .i64 0, .bool false]) := by kernel_rfl
@[simp] theorem Tryz.sz187 : szOf Tryz.prog 187 = some 1 := by kernel_rfl
@[simp] theorem Tryz.ag187 : aggOf Tryz.prog 187 = some false := by kernel_rfl
@[simp] theorem Tryz.mp187 : mapOf Tryz.prog 187 = some (.string, .agg #[.bool false]) := by kernel_rfl
@[simp] theorem Tryz.fl189_0 : fldOf Tryz.prog 189 0 = some (0, 2, true) := by kernel_rfl
@[simp] theorem Tryz.fl189_1 : fldOf Tryz.prog 189 1 = some (2, 1, false) := by kernel_rfl
@[simp] theorem Tryz.fl189_2 : fldOf Tryz.prog 189 2 = some (3, 1, false) := by kernel_rfl
@[simp] theorem Tryz.fl189_3 : fldOf Tryz.prog 189 3 = some (4, 1, false) := by kernel_rfl
@[simp] theorem Tryz.fl189_4 : fldOf Tryz.prog 189 4 = some (5, 1, false) := by kernel_rfl
@[simp] theorem Tryz.fl189_5 : fldOf Tryz.prog 189 5 = some (6, 1, false) := by kernel_rfl
@[simp] theorem Tryz.bl189 : bldOf Tryz.prog 189 = some ([.slice none 0 0, .slice none 0 0, .int .i64 0, .map none, .map none, .slice none 0 0, .slice none 0 0], [(0, 2), (2, 1), (3, 1), (4, 1), (5, 1), (6, 1)]) := by kernel_rfl
@[simp] theorem Tryz.fl190_0 : fldOf Tryz.prog 190 0 = some (0, 1, false) := by kernel_rfl
@[simp] theorem Tryz.bl190 : bldOf Tryz.prog 190 = some ([.bool false], [(0, 1)]) := by kernel_rfl
@[simp] theorem Tryz.sz197 : szOf Tryz.prog 197 = some 1 := by kernel_rfl
@[simp] theorem Tryz.ze197 : zeroOf Tryz.prog 197 = some (.agg #[.int .i64 0]) := by kernel_rfl
@[simp] theorem Tryz.ni197 : isNonIface Tryz.prog 197 = true := by kernel_rfl
@[simp] theorem Tryz.fl197_0 : fldOf Tryz.prog 197 0 = some (0, 1, false) := by kernel_rfl
@[simp] theorem Tryz.bl197 : bldOf Tryz.prog 197 = some ([.int .i64 0], [(0, 1)]) := by kernel_rfl
@[simp] theorem Tryz.sz221 : szOf Tryz.prog 221 = some 1 := by kernel_rfl
@[simp] theorem Tryz.ze221 : zeroOf Tryz.prog 221 = some (.agg #[.int .i64 0]) := by kernel_rfl
@[simp] theorem Tryz.ni221 : isNonIface Tryz.prog 221 = true := by kernel_rfl
@[simp] theorem Tryz.fl221_0 : fldOf Tryz.prog 221 0 = some (0, 1, false) := by kernel_rfl
@[simp] theorem Tryz.bl221 : bldOf Tryz.prog 221 = some ([.int .i64 0], [(0, 1)]) := by kernel_rfl
@[simp] theorem Tryz.fl254_0 : fldOf Tryz.prog 254 0 = some (0, 1, false) := by kernel_rfl
@[simp] theorem Tryz.bl254 : bldOf Tryz.prog 254 = some ([.int .i64 0], [(0, 1)]) := by kernel_rfl
@[simp] theorem Tryz.el258 : elOf Tryz.prog 258 = some 55 := by kernel_rfl
@[simp] theorem Tryz.lk258 : lkOf Tryz.prog 258 = 1 := by kernel_rfl
@[simp] theorem Tryz.ix258 (H : List Blk) (x i : AV) (k : AV → Prop) (w : Wit k) : idxAddrV Tryz.prog H 258 x i k w = bindOW (szOf Tryz.prog 55) (fun sz => bindOW (intA i) (fun n => idxVW H sz x n k (wit _)) (wit _)) (wit _) := idxAddrV_sl Tryz.el258 H x i k w
@[simp] theorem Tryz.sl258 : slbOf Tryz.prog 258 = some (55, 1, [.int .i64 0], 8) := by kernel_rfl
@[simp] theorem Tryz.ok10 : okFn Tryz.prog 10 = true := by kernel_rfl
@[simp] theorem Tryz.ok12 : okFn Tryz.prog 12 = true := by kernel_rfl
@[simp] theorem Tryz.ok21 : okFn Tryz.prog 21 = true := by kernel_rfl
@[simp] theorem Tryz.ok22 : okFn Tryz.prog 22 = true := by kernel_rfl
@[simp] theorem Tryz.ok23 : okFn Tryz.prog 23 = true := by kernel_rfl
@[simp] theorem Tryz.ok24 : okFn Tryz.prog 24 = true := by kernel_rfl
@[simp] theorem Tryz.ok25 : okFn Tryz.prog 25 = true := by kernel_rfl
@[simp] theorem Tryz.ok26 : okFn Tryz.prog 26 = true := by kernel_rfl
@[simp] theorem Tryz.ok38 : okFn Tryz.prog 38 = true := by kernel_rfl
@[simp] theorem Tryz.ok40 : okFn Tryz.prog 40 = true := by kernel_rfl
@[simp] theorem Tryz.ok46 : okFn Tryz.prog 46 = true := by kernel_rfl
@[simp] theorem Tryz.ok47 : okFn Tryz.prog 47 = true := by kernel_rfl
@[simp] theorem Tryz.ok48 : okFn Tryz.prog 48 = true := by kernel_rfl
@[simp] theorem Tryz.ok49 : okFn Tryz.prog 49 = true := by kernel_rfl
@[simp] theorem Tryz.ok50 : okFn Tryz.prog 50 = true := by kernel_rfl
@[simp] theorem Tryz.ok54 : okFn Tryz.prog 54 = true := by kernel_rfl
@[simp] theorem Tryz.ok56 : okFn Tryz.prog 56 = true := by kernel_rfl
@[simp] theorem Tryz.ok60 : okFn Tryz.prog 60 = true := by kernel_rfl
@[simp] theorem Tryz.ok61 : okFn Tryz.prog 61 = true := by kernel_rfl
@[simp] theorem Tryz.ok62 : okFn Tryz.prog 62 = true := by kernel_rfl
@[simp] theorem Tryz.ok63 : okFn Tryz.prog 63 = true := by kernel_rfl
@[simp] theorem Tryz.ok64 : okFn Tryz.prog 64 = true := by kernel_rfl
@[simp] theorem Tryz.ok65 : okFn Tryz.prog 65 = true := by kernel_rfl
@[simp] theorem Tryz.ok66 : okFn Tryz.prog 66 = true := by kernel_rfl
@[simp] theorem Tryz.ok67 : okFn Tryz.prog 67 = true := by kernel_rfl
@[simp] theorem Tryz.ok69 : okFn Tryz.prog 69 = true := by kernel_rfl
@[simp] theorem Tryz.ok70 : okFn Tryz.prog 70 = true := by kernel_rfl
@[simp] theorem Tryz.ok71 : okFn Tryz.prog 71 = true := by kernel_rfl
@[simp] theorem Tryz.ok72 : okFn Tryz.prog 72 = true := by kernel_rfl
@[simp] theorem Tryz.ok73 : okFn Tryz.prog 73 = true := by kernel_rfl
@[simp] theorem Tryz.ok74 : okFn Tryz.prog 74 = true := by kernel_rfl
@[simp] theorem Tryz.ok75 : okFn Tryz.prog 75 = true := by kernel_rfl
@[simp] theorem Tryz.ok89 : okFn Tryz.prog 89 = true := by kernel_rfl
@[simp] theorem Tryz.ok91 : okFn Tryz.prog 91 = true := by kernel_rfl
@[simp] theorem Tryz.ok92 : okFn Tryz.prog 92 = true := by kernel_rfl
@[simp] theorem Tryz.ok93 : okFn Tryz.prog 93 = true := by kernel_rfl
@[simp] theorem Tryz.ok94 : okFn Tryz.prog 94 = true := by kernel_rfl
@[simp] theorem Tryz.ok95 : okFn Tryz.prog 95 = true := by kernel_rfl
@[simp] theorem Tryz.ok98 : okFn Tryz.prog 98 = true := by kernel_rfl
@[simp] theorem Tryz.ok99 : okFn Tryz.prog 99 = true := by kernel_rfl
@[simp] theorem Tryz.ok100 : okFn Tryz.prog 100 = true := by kernel_rfl
@[simp] theorem Tryz.ok101 : okFn Tryz.prog 101 = true := by kernel_rfl
@[simp] theorem Tryz.ok104 : okFn Tryz.prog 104 = true := by kernel_rfl
@[simp] theorem Tryz.ok105 : okFn Tryz.prog 105 = true := by kernel_rfl
@[simp] theorem Tryz.ok106 : okFn Tryz.prog 106 = true := by kernel_rfl
@[simp] theorem Tryz.ok107 : okFn Tryz.prog 107 = true := by kernel_rfl
@[simp] theorem Tryz.ok108 : okFn Tryz.prog 108 = true := by kernel_rfl
@[simp] theorem Tryz.ok109 : okFn Tryz.prog 109 = true := by kernel_rfl
@[simp] theorem Tryz.ok110 : okFn Tryz.prog 110 = true := by kernel_rfl
@[simp] theorem Tryz.ok111 : okFn Tryz.prog 111 = true := by kernel_rfl
@[simp] theorem Tryz.ok114 : okFn Tryz.prog 114 = true := by kernel_rfl
@[simp] theorem Tryz.ok117 : okFn Tryz.prog 117 = true := by kernel_rfl
@[simp] theorem Tryz.ok123 : okFn Tryz.prog 123 = true := by kernel_rfl
@[simp] theorem Tryz.ok124 : okFn Tryz.prog 124 = true := by kernel_rfl
@[simp] theorem Tryz.ok125 : okFn Tryz.prog 125 = true := by kernel_rfl
@[simp] theorem Tryz.ok126 : okFn Tryz.prog 126 = true := by kernel_rfl
@[simp] theorem Tryz.ok127 : okFn Tryz.prog 127 = true := by kernel_rfl
@[simp] theorem Tryz.ok129 : okFn Tryz.prog 129 = true := by kernel_rfl
@[simp] theorem Tryz.ok130 : okFn Tryz.prog 130 = true := by kernel_rfl
@[simp] theorem Tryz.ok131 : okFn Tryz.prog 131 = true := by kernel_rfl
@[simp] theorem Tryz.ok132 : okFn Tryz.prog 132 = true := by kernel_rfl
@[simp] theorem Tryz.ok133 : okFn Tryz.prog 133 = true := by kernel_rfl
@[simp] theorem Tryz.ok136 : okFn Tryz.prog 136 = true := by kernel_rfl
@[simp] theorem Tryz.ok137 : okFn Tryz.prog 137 = true := by kernel_rfl
@[simp] theorem Tryz.ok138 : okFn Tryz.prog 138 = true := by kernel_rfl
@[simp] theorem Tryz.ok139 : okFn Tryz.prog 139 = true := by kernel_rfl
@[simp] theorem Tryz.ok140 : okFn Tryz.prog 140 = true := by kernel_rfl
@[simp] theorem Tryz.ok141 : okFn Tryz.prog 141 = true := by kernel_rfl
@[simp] theorem Tryz.ok142 : okFn Tryz.prog 142 = true := by kernel_rfl
@[simp] theorem Tryz.ok143 : okFn Tryz.prog 143 = true := by kernel_rfl
@[simp] theorem Tryz.ok144 : okFn Tryz.prog 144 = true := by kernel_rfl
@[simp] theorem Tryz.ok145 : okFn Tryz.prog 145 = true := by kernel_rfl
@[simp] theorem Tryz.ok146 : okFn Tryz.prog 146 = true := by kernel_rfl
@[simp] theorem Tryz.ok147 : okFn Tryz.prog 147 = true := by kernel_rfl
@[simp] theorem Tryz.ok148 : okFn Tryz.prog 148 = true := by kernel_rfl
@[simp] theorem Tryz.ok149 : okFn Tryz.prog 149 = true := by kernel_rfl
@[simp] theorem Tryz.ok151 : okFn Tryz.prog 151 = true := by kernel_rfl
@[simp] theorem Tryz.ok164 : okFn Tryz.prog 164 = true := by kernel_rfl
@[simp] theorem Tryz.ok165 : okFn Tryz.prog 165 = true := by kernel_rfl
@[simp] theorem Tryz.ok167 : okFn Tryz.prog 167 = true := by kernel_rfl
@[simp] theorem Tryz.ok168 : okFn Tryz.prog 168 = true := by kernel_rfl
@[simp] theorem Tryz.ok169 : okFn Tryz.prog 169 = true := by kernel_rfl
@[simp] theorem Tryz.ok174 : okFn Tryz.prog 174 = true := by kernel_rfl
@[simp] theorem Tryz.ok175 : okFn Tryz.prog 175 = true := by kernel_rfl
@[simp] theorem Tryz.ok176 : okFn Tryz.prog 176 = true := by kernel_rfl
@[simp] theorem Tryz.ok177 : okFn Tryz.prog 177 = true := by kernel_rfl
@[simp] theorem Tryz.ok178 : okFn Tryz.prog 178 = true := by kernel_rfl
@[simp] theorem Tryz.ok179 : okFn Tryz.prog 179 = true := by kernel_rfl
@[simp] theorem Tryz.ok180 : okFn Tryz.prog 180 = true := by kernel_rfl
@[simp] theorem Tryz.ok181 : okFn Tryz.prog 181 = true := by kernel_rfl
@[simp] theorem Tryz.ok182 : okFn Tryz.prog 182 = true := by kernel_rfl
@[simp] theorem Tryz.ok183 : okFn Tryz.prog 183 = true := by kernel_rfl
@[simp] theorem Tryz.ok184 : okFn Tryz.prog 184 = true := by kernel_rfl
@[simp] theorem Tryz.ok192 : okFn Tryz.prog 192 = true := by kernel_rfl
@[simp] theorem Tryz.ok193 : okFn Tryz.prog 193 = true := by kernel_rfl
@[simp] theorem Tryz.ok194 : okFn Tryz.prog 194 = true := by kernel_rfl
end Go.Proofs
