/- The program's types and functions, as the rules want them (written by a program of our own). -/
import Derived.Test.YtihlekehnihnpaaFwJbtoFwN
import Derived.Test.YtihlekehnihnpaaProg
import Derived.KernelRfl
set_option linter.unusedVariables false
set_option linter.unusedSimpArgs false
namespace Go.Proofs
open Go.Mu
@[simp] theorem Try.sz3 : szOf Try.prog 3 = some 1 := by kernel_rfl
@[simp] theorem Try.ag3 : aggOf Try.prog 3 = some false := by kernel_rfl
@[simp] theorem Try.ze3 : zeroOf Try.prog 3 = some (.int .i64 0) := by kernel_rfl
@[simp] theorem Try.sz4 : szOf Try.prog 4 = some 1 := by kernel_rfl
@[simp] theorem Try.ag4 : aggOf Try.prog 4 = some false := by kernel_rfl
@[simp] theorem Try.sz5 : szOf Try.prog 5 = some 1 := by kernel_rfl
@[simp] theorem Try.ag5 : aggOf Try.prog 5 = some false := by kernel_rfl
@[simp] theorem Try.sz9 : szOf Try.prog 9 = some 1 := by kernel_rfl
@[simp] theorem Try.ag9 : aggOf Try.prog 9 = some false := by kernel_rfl
@[simp] theorem Try.lk9 : lkOf Try.prog 9 = 2 := by kernel_rfl
@[simp] theorem Try.iv9 (x i : AV) (k : AV → Prop) (w : Wit k) : idxValV Try.prog 9 x i k w = bindOW (strA x) (fun s => bindOW (intA i) (fun n => andVW (0 ≤ n) (bindOW (s.data.toList[n.toNat]?) (fun b => k (.v (.int .u8 b.toNat))) (wit _)) (wit _)) (wit _)) (wit _) := idxValV_str Try.lk9 x i k w
@[simp] theorem Try.sz22 : szOf Try.prog 22 = some 1 := by kernel_rfl
@[simp] theorem Try.ag22 : aggOf Try.prog 22 = some false := by kernel_rfl
@[simp] theorem Try.el22 : elOf Try.prog 22 = some 83 := by kernel_rfl
@[simp] theorem Try.lk22 : lkOf Try.prog 22 = 1 := by kernel_rfl
@[simp] theorem Try.ix22 (H : List Blk) (x i : AV) (k : AV → Prop) (w : Wit k) : idxAddrV Try.prog H 22 x i k w = bindOW (szOf Try.prog 83) (fun sz => bindOW (intA i) (fun n => idxVW H sz x n k (wit _)) (wit _)) (wit _) := idxAddrV_sl Try.el22 H x i k w
@[simp] theorem Try.sz23 : szOf Try.prog 23 = some 1 := by kernel_rfl
@[simp] theorem Try.ag23 : aggOf Try.prog 23 = some false := by kernel_rfl
@[simp] theorem Try.el23 : elOf Try.prog 23 = some 38 := by kernel_rfl
@[simp] theorem Try.lk23 : lkOf Try.prog 23 = 1 := by kernel_rfl
@[simp] theorem Try.ix23 (H : List Blk) (x i : AV) (k : AV → Prop) (w : Wit k) : idxAddrV Try.prog H 23 x i k w = bindOW (szOf Try.prog 38) (fun sz => bindOW (intA i) (fun n => idxVW H sz x n k (wit _)) (wit _)) (wit _) := idxAddrV_sl Try.el23 H x i k w
@[simp] theorem Try.sl23 : slbOf Try.prog 23 = some (38, 5, [.string ByteArray.empty, .slice none 0 0, .slice none 0 0, .slice none 0 0, .slice none 0 0], 112) := by kernel_rfl
@[simp] theorem Try.sz25 : szOf Try.prog 25 = some 2 := by kernel_rfl
@[simp] theorem Try.ag25 : aggOf Try.prog 25 = some true := by kernel_rfl
@[simp] theorem Try.ze25 : zeroOf Try.prog 25 = some (.agg #[.slice none 0 0, .slice none 0 0]) := by kernel_rfl
@[simp] theorem Try.fl25_0 : fldOf Try.prog 25 0 = some (0, 1, false) := by kernel_rfl
@[simp] theorem Try.fl25_1 : fldOf Try.prog 25 1 = some (1, 1, false) := by kernel_rfl
@[simp] theorem Try.bl25 : bldOf Try.prog 25 = some ([.slice none 0 0, .slice none 0 0], [(0, 1), (1, 1)]) := by kernel_rfl
@[simp] theorem Try.sz28 : szOf Try.prog 28 = some 1 := by kernel_rfl
@[simp] theorem Try.ag28 : aggOf Try.prog 28 = some false := by kernel_rfl
@[simp] theorem Try.ze28 : zeroOf Try.prog 28 = some (.int .i64 0) := by kernel_rfl
@[simp] theorem Try.sz34 : szOf Try.prog 34 = some 1 := by kernel_rfl
@[simp] theorem Try.ag34 : aggOf Try.prog 34 = some false := by kernel_rfl
@[simp] theorem Try.el34 : elOf Try.prog 34 = some 87 := by kernel_rfl
@[simp] theorem Try.lk34 : lkOf Try.prog 34 = 1 := by kernel_rfl
@[simp] theorem Try.ix34 (H : List Blk) (x i : AV) (k : AV → Prop) (w : Wit k) : idxAddrV Try.prog H 34 x i k w = bindOW (szOf Try.prog 87) (fun sz => bindOW (intA i) (fun n => idxVW H sz x n k (wit _)) (wit _)) (wit _) := idxAddrV_sl Try.el34 H x i k w
@[simp] theorem Try.sl34 : slbOf Try.prog 34 = some (87, 4, [.string ByteArray.empty, .int .i64 0, .int .i64 0, .bool false], 40) := by kernel_rfl
@[simp] theorem Try.sz35 : szOf Try.prog 35 = some 1 := by kernel_rfl
@[simp] theorem Try.ag35 : aggOf Try.prog 35 = some false := by kernel_rfl
@[simp] theorem Try.el35 : elOf Try.prog 35 = some 9 := by kernel_rfl
@[simp] theorem Try.lk35 : lkOf Try.prog 35 = 1 := by kernel_rfl
@[simp] theorem Try.ix35 (H : List Blk) (x i : AV) (k : AV → Prop) (w : Wit k) : idxAddrV Try.prog H 35 x i k w = bindOW (szOf Try.prog 9) (fun sz => bindOW (intA i) (fun n => idxVW H sz x n k (wit _)) (wit _)) (wit _) := idxAddrV_sl Try.el35 H x i k w
@[simp] theorem Try.sl35 : slbOf Try.prog 35 = some (9, 1, [.string ByteArray.empty], 16) := by kernel_rfl
@[simp] theorem Try.sz36 : szOf Try.prog 36 = some 1 := by kernel_rfl
@[simp] theorem Try.ag36 : aggOf Try.prog 36 = some false := by kernel_rfl
@[simp] theorem Try.el36 : elOf Try.prog 36 = some 71 := by kernel_rfl
@[simp] theorem Try.lk36 : lkOf Try.prog 36 = 1 := by kernel_rfl
@[simp] theorem Try.ix36 (H : List Blk) (x i : AV) (k : AV → Prop) (w : Wit k) : idxAddrV Try.prog H 36 x i k w = bindOW (szOf Try.prog 71) (fun sz => bindOW (intA i) (fun n => idxVW H sz x n k (wit _)) (wit _)) (wit _) := idxAddrV_sl Try.el36 H x i k w
@[simp] theorem Try.sl36 : slbOf Try.prog 36 = some (71, 16, [.int .i64 0, .string ByteArray.empty, .slice none 0 0, .int .i64 0, .int .u64 0, .string ByteArray.empty, .slice none 0 0, .int .i64 0, .int .u64 0, .string ByteArray.empty, .slice none 0 0, .slice none 0 0, .int .u64 0, .int .u64 0, .slice none 0 0, .slice none 0 0], 248) := by kernel_rfl
@[simp] theorem Try.sz38 : szOf Try.prog 38 = some 5 := by kernel_rfl
@[simp] theorem Try.ag38 : aggOf Try.prog 38 = some true := by kernel_rfl
@[simp] theorem Try.ze38 : zeroOf Try.prog 38 = some (.agg #[.string ByteArray.empty, .slice none 0 0, .slice none 0 0, .slice none 0 0, .slice none 0 0]) := by kernel_rfl
@[simp] theorem Try.fl38_0 : fldOf Try.prog 38 0 = some (0, 1, false) := by kernel_rfl
@[simp] theorem Try.fl38_1 : fldOf Try.prog 38 1 = some (1, 1, false) := by kernel_rfl
@[simp] theorem Try.fl38_2 : fldOf Try.prog 38 2 = some (2, 1, false) := by kernel_rfl
@[simp] theorem Try.fl38_3 : fldOf Try.prog 38 3 = some (3, 1, false) := by kernel_rfl
@[simp] theorem Try.fl38_4 : fldOf Try.prog 38 4 = some (4, 1, false) := by kernel_rfl
@[simp] theorem Try.bl38 : bldOf Try.prog 38 = some ([.string ByteArray.empty, .slice none 0 0, .slice none 0 0, .slice none 0 0, .slice none 0 0], [(0, 1), (1, 1), (2, 1), (3, 1), (4, 1)]) := by kernel_rfl
@[simp] theorem Try.sz40 : szOf Try.prog 40 = some 1 := by kernel_rfl
@[simp] theorem Try.ag40 : aggOf Try.prog 40 = some false := by kernel_rfl
@[simp] theorem Try.sz53 : szOf Try.prog 53 = some 1 := by kernel_rfl
@[simp] theorem Try.ag53 : aggOf Try.prog 53 = some false := by kernel_rfl
@[simp] theorem Try.el53 : elOf Try.prog 53 = some 4 := by kernel_rfl
@[simp] theorem Try.lk53 : lkOf Try.prog 53 = 1 := by kernel_rfl
@[simp] theorem Try.ix53 (H : List Blk) (x i : AV) (k : AV → Prop) (w : Wit k) : idxAddrV Try.prog H 53 x i k w = bindOW (szOf Try.prog 4) (fun sz => bindOW (intA i) (fun n => idxVW H sz x n k (wit _)) (wit _)) (wit _) := idxAddrV_sl Try.el53 H x i k w
@[simp] theorem Try.sl53 : slbOf Try.prog 53 = some (4, 1, [.bool false], 1) := by kernel_rfl
@[simp] theorem Try.sz65 : szOf Try.prog 65 = some 1 := by kernel_rfl
@[simp] theorem Try.ag65 : aggOf Try.prog 65 = some false := by kernel_rfl
@[simp] theorem Try.sz66 : szOf Try.prog 66 = some 1 := by kernel_rfl
@[simp] theorem Try.ag66 : aggOf Try.prog 66 = some false := by kernel_rfl
@[simp] theorem Try.sz67 : szOf Try.prog 67 = some 1 := by kernel_rfl
@[simp] theorem Try.ag67 : aggOf Try.prog 67 = some false := by kernel_rfl
@[simp] theorem Try.el67 : elOf Try.prog 67 = some 69 := by kernel_rfl
@[simp] theorem Try.lk67 : lkOf Try.prog 67 = 1 := by kernel_rfl
@[simp] theorem Try.ix67 (H : List Blk) (x i : AV) (k : AV → Prop) (w : Wit k) : idxAddrV Try.prog H 67 x i k w = bindOW (szOf Try.prog 69) (fun sz => bindOW (intA i) (fun n => idxVW H sz x n k (wit _)) (wit _)) (wit _) := idxAddrV_sl Try.el67 H x i k w
@[simp] theorem Try.sl67 : slbOf Try.prog 67 = some (69, 4, [.int .i64 0, .int .u64 0, .string ByteArray.empty, .slice none 0 0], 56) := by kernel_rfl
@[simp] theorem Try.sz69 : szOf Try.prog 69 = some 4 := by kernel_rfl
@[simp] theorem Try.ag69 : aggOf Try.prog 69 = some true := by kernel_rfl
@[simp] theorem Try.ze69 : zeroOf Try.prog 69 = some (.agg #[.int .i64 0, .int .u64 0, .string ByteArray.empty, .slice none 0 0]) := by kernel_rfl
@[simp] theorem Try.fl69_0 : fldOf Try.prog 69 0 = some (0, 1, false) := by kernel_rfl
@[simp] theorem Try.fl69_1 : fldOf Try.prog 69 1 = some (1, 1, false) := by kernel_rfl
@[simp] theorem Try.fl69_2 : fldOf Try.prog 69 2 = some (2, 1, false) := by kernel_rfl
@[simp] theorem Try.fl69_3 : fldOf Try.prog 69 3 = some (3, 1, false) := by kernel_rfl
@[simp] theorem Try.bl69 : bldOf Try.prog 69 = some ([.int .i64 0, .int .u64 0, .string ByteArray.empty, .slice none 0 0], [(0, 1), (1, 1), (2, 1), (3, 1)]) := by kernel_rfl
@[simp] theorem Try.sz71 : szOf Try.prog 71 = some 16 := by kernel_rfl
@[simp] theorem Try.ag71 : aggOf Try.prog 71 = some true := by kernel_rfl
@[simp] theorem Try.ze71 : zeroOf Try.prog 71 = some (.agg #[.int .i64 0, .string ByteArray.empty, .slice none 0 0, .int .i64 0, .int .u64 0, .string ByteArray.empty, .slice none 0 0, .int .i64 0, .int .u64 0, .string ByteArray.empty, .slice none 0 0, .slice none 0 0, .int .u64 0, .int .u64 0, .slice none 0 0, .slice none 0 0]) := by kernel_rfl
@[simp] theorem Try.fl71_0 : fldOf Try.prog 71 0 = some (0, 1, false) := by kernel_rfl
@[simp] theorem Try.fl71_1 : fldOf Try.prog 71 1 = some (1, 1, false) := by kernel_rfl
@[simp] theorem Try.fl71_2 : fldOf Try.prog 71 2 = some (2, 1, false) := by kernel_rfl
@[simp] theorem Try.fl71_3 : fldOf Try.prog 71 3 = some (3, 4, true) := by kernel_rfl
@[simp] theorem Try.fl71_4 : fldOf Try.prog 71 4 = some (7, 4, true) := by kernel_rfl
@[simp] theorem Try.fl71_5 : fldOf Try.prog 71 5 = some (11, 1, false) := by kernel_rfl
@[simp] theorem Try.fl71_6 : fldOf Try.prog 71 6 = some (12, 1, false) := by kernel_rfl
@[simp] theorem Try.fl71_7 : fldOf Try.prog 71 7 = some (13, 1, false) := by kernel_rfl
@[simp] theorem Try.fl71_8 : fldOf Try.prog 71 8 = some (14, 1, false) := by kernel_rfl
@[simp] theorem Try.fl71_9 : fldOf Try.prog 71 9 = some (15, 1, false) := by kernel_rfl
@[simp] theorem Try.bl71 : bldOf Try.prog 71 = some ([.int .i64 0, .string ByteArray.empty, .slice none 0 0, .int .i64 0, .int .u64 0, .string ByteArray.empty, .slice none 0 0, .int .i64 0, .int .u64 0, .string ByteArray.empty, .slice none 0 0, .slice none 0 0, .int .u64 0, .int .u64 0, .slice none 0 0, .slice none 0 0], [(0, 1), (1, 1), (2, 1), (3, 4), (7, 4), (11, 1), (12, 1), (13, 1), (14, 1), (15, 1)]) := by kernel_rfl
@[simp] theorem Try.sz83 : szOf Try.prog 83 = some 4 := by kernel_rfl
@[simp] theorem Try.ag83 : aggOf Try.prog 83 = some true := by kernel_rfl
@[simp] theorem Try.ze83 : zeroOf Try.prog 83 = some (.agg #[.string ByteArray.empty, .int .i64 0, .int .i64 0, .bool false]) := by kernel_rfl
@[simp] theorem Try.fl83_0 : fldOf Try.prog 83 0 = some (0, 1, false) := by kernel_rfl
@[simp] theorem Try.fl83_1 : fldOf Try.prog 83 1 = some (1, 1, false) := by kernel_rfl
@[simp] theorem Try.fl83_2 : fldOf Try.prog 83 2 = some (2, 1, false) := by kernel_rfl
@[simp] theorem Try.fl83_3 : fldOf Try.prog 83 3 = some (3, 1, false) := by kernel_rfl
@[simp] theorem Try.sz85 : szOf Try.prog 85 = some 1 := by kernel_rfl
@[simp] theorem Try.ag85 : aggOf Try.prog 85 = some false := by kernel_rfl
@[simp] theorem Try.sz87 : szOf Try.prog 87 = some 4 := by kernel_rfl
@[simp] theorem Try.ag87 : aggOf Try.prog 87 = some true := by kernel_rfl
@[simp] theorem Try.ze87 : zeroOf Try.prog 87 = some (.agg #[.string ByteArray.empty, .int .i64 0, .int .i64 0, .bool false]) := by kernel_rfl
@[simp] theorem Try.fl87_0 : fldOf Try.prog 87 0 = some (0, 1, false) := by kernel_rfl
@[simp] theorem Try.fl87_1 : fldOf Try.prog 87 1 = some (1, 1, false) := by kernel_rfl
@[simp] theorem Try.fl87_2 : fldOf Try.prog 87 2 = some (2, 1, false) := by kernel_rfl
@[simp] theorem Try.fl87_3 : fldOf Try.prog 87 3 = some (3, 1, false) := by kernel_rfl
@[simp] theorem Try.bl87 : bldOf Try.prog 87 = some ([.string ByteArray.empty, .int .i64 0, .int .i64 0, .bool false], [(0, 1), (1, 1), (2, 1), (3, 1)]) := by kernel_rfl
@[simp] theorem Try.sz105 : szOf Try.prog 105 = some 1 := by kernel_rfl
@[simp] theorem Try.ag105 : aggOf Try.prog 105 = some false := by kernel_rfl
@[simp] theorem Try.ze105 : zeroOf Try.prog 105 = some (.pointer none) := by kernel_rfl
@[simp] theorem Try.sz107 : szOf Try.prog 107 = some 1 := by kernel_rfl
@[simp] theorem Try.ag107 : aggOf Try.prog 107 = some false := by kernel_rfl
@[simp] theorem Try.sz111 : szOf Try.prog 111 = some 1 := by kernel_rfl
@[simp] theorem Try.ag111 : aggOf Try.prog 111 = some false := by kernel_rfl
@[simp] theorem Try.lk111 : lkOf Try.prog 111 = 3 := by kernel_rfl
@[simp] theorem Try.mp111 : mapOf Try.prog 111 = some (.string, .bool false) := by kernel_rfl
@[simp] theorem Try.mt111 : isMapT Try.prog 111 = true := by kernel_rfl
@[simp] theorem Try.fl113_0 : fldOf Try.prog 113 0 = some (0, 2, true) := by kernel_rfl
@[simp] theorem Try.fl113_1 : fldOf Try.prog 113 1 = some (2, 1, false) := by kernel_rfl
@[simp] theorem Try.fl113_2 : fldOf Try.prog 113 2 = some (3, 1, false) := by kernel_rfl
@[simp] theorem Try.fl113_3 : fldOf Try.prog 113 3 = some (4, 1, false) := by kernel_rfl
@[simp] theorem Try.bl113 : bldOf Try.prog 113 = some ([.slice none 0 0, .slice none 0 0, .map none, .map none, .pointer none], [(0, 2), (2, 1), (3, 1), (4, 1)]) := by kernel_rfl
@[simp] theorem Try.fl119_0 : fldOf Try.prog 119 0 = some (0, 2, true) := by kernel_rfl
@[simp] theorem Try.fl119_1 : fldOf Try.prog 119 1 = some (2, 1, false) := by kernel_rfl
@[simp] theorem Try.fl119_2 : fldOf Try.prog 119 2 = some (3, 1, false) := by kernel_rfl
@[simp] theorem Try.fl119_3 : fldOf Try.prog 119 3 = some (4, 1, false) := by kernel_rfl
@[simp] theorem Try.fl119_4 : fldOf Try.prog 119 4 = some (5, 1, false) := by kernel_rfl
@[simp] theorem Try.bl119 : bldOf Try.prog 119 = some ([.slice none 0 0, .slice none 0 0, .int .i64 0, .slice none 0 0, .int .i64 0, .int .i64 0], [(0, 2), (2, 1), (3, 1), (4, 1), (5, 1)]) := by kernel_rfl
@[simp] theorem Try.sz126 : szOf Try.prog 126 = some 1 := by kernel_rfl
@[simp] theorem Try.ag126 : aggOf Try.prog 126 = some false := by kernel_rfl
@[simp] theorem Try.mp126 : mapOf Try.prog 126 = some (.string, .agg #[.string ByteArray.empty, .int .i64 0, .int .i64 0, .bool false]) := by kernel_rfl
@[simp] theorem Try.sz127 : szOf Try.prog 127 = some 1 := by kernel_rfl
@[simp] theorem Try.ag127 : aggOf Try.prog 127 = some false := by kernel_rfl
@[simp] theorem Try.mp127 : mapOf Try.prog 127 = some (.string, .agg #[.bool false]) := by kernel_rfl
@[simp] theorem Try.fl130_0 : fldOf Try.prog 130 0 = some (0, 2, true) := by kernel_rfl
@[simp] theorem Try.fl130_1 : fldOf Try.prog 130 1 = some (2, 1, false) := by kernel_rfl
@[simp] theorem Try.fl130_2 : fldOf Try.prog 130 2 = some (3, 1, false) := by kernel_rfl
@[simp] theorem Try.fl130_3 : fldOf Try.prog 130 3 = some (4, 1, false) := by kernel_rfl
@[simp] theorem Try.fl130_4 : fldOf Try.prog 130 4 = some (5, 1, false) := by kernel_rfl
@[simp] theorem Try.fl130_5 : fldOf Try.prog 130 5 = some (6, 1, false) := by kernel_rfl
@[simp] theorem Try.bl130 : bldOf Try.prog 130 = some ([.slice none 0 0, .slice none 0 0, .int .i64 0, .map none, .map none, .slice none 0 0, .slice none 0 0], [(0, 2), (2, 1), (3, 1), (4, 1), (5, 1), (6, 1)]) := by kernel_rfl
@[simp] theorem Try.fl131_0 : fldOf Try.prog 131 0 = some (0, 1, false) := by kernel_rfl
@[simp] theorem Try.bl131 : bldOf Try.prog 131 = some ([.bool false], [(0, 1)]) := by kernel_rfl
@[simp] theorem Try.sz145 : szOf Try.prog 145 = some 1 := by kernel_rfl
@[simp] theorem Try.ze145 : zeroOf Try.prog 145 = some (.agg #[.int .i64 0]) := by kernel_rfl
@[simp] theorem Try.ni145 : isNonIface Try.prog 145 = true := by kernel_rfl
@[simp] theorem Try.fl145_0 : fldOf Try.prog 145 0 = some (0, 1, false) := by kernel_rfl
@[simp] theorem Try.bl145 : bldOf Try.prog 145 = some ([.int .i64 0], [(0, 1)]) := by kernel_rfl
@[simp] theorem Try.sz157 : szOf Try.prog 157 = some 1 := by kernel_rfl
@[simp] theorem Try.ze157 : zeroOf Try.prog 157 = some (.agg #[.int .i64 0]) := by kernel_rfl
@[simp] theorem Try.ni157 : isNonIface Try.prog 157 = true := by kernel_rfl
@[simp] theorem Try.fl157_0 : fldOf Try.prog 157 0 = some (0, 1, false) := by kernel_rfl
@[simp] theorem Try.bl157 : bldOf Try.prog 157 = some ([.int .i64 0], [(0, 1)]) := by kernel_rfl
@[simp] theorem Try.fl173_0 : fldOf Try.prog 173 0 = some (0, 1, false) := by kernel_rfl
@[simp] theorem Try.bl173 : bldOf Try.prog 173 = some ([.int .i64 0], [(0, 1)]) := by kernel_rfl
@[simp] theorem Try.el176 : elOf Try.prog 176 = some 5 := by kernel_rfl
@[simp] theorem Try.lk176 : lkOf Try.prog 176 = 1 := by kernel_rfl
@[simp] theorem Try.ix176 (H : List Blk) (x i : AV) (k : AV → Prop) (w : Wit k) : idxAddrV Try.prog H 176 x i k w = bindOW (szOf Try.prog 5) (fun sz => bindOW (intA i) (fun n => idxVW H sz x n k (wit _)) (wit _)) (wit _) := idxAddrV_sl Try.el176 H x i k w
@[simp] theorem Try.ko176 : kOf Try.prog 176 = none := by kernel_rfl
@[simp] theorem Try.by176_9 : byB Try.prog 9 176 = true := by kernel_rfl
@[simp] theorem Try.bn176_9 : byS Try.prog 9 176 = false := by kernel_rfl
@[simp] theorem Try.el178 : elOf Try.prog 178 = some 65 := by kernel_rfl
@[simp] theorem Try.lk178 : lkOf Try.prog 178 = 1 := by kernel_rfl
@[simp] theorem Try.ix178 (H : List Blk) (x i : AV) (k : AV → Prop) (w : Wit k) : idxAddrV Try.prog H 178 x i k w = bindOW (szOf Try.prog 65) (fun sz => bindOW (intA i) (fun n => idxVW H sz x n k (wit _)) (wit _)) (wit _) := idxAddrV_sl Try.el178 H x i k w
@[simp] theorem Try.sl178 : slbOf Try.prog 178 = some (65, 1, [.int .i64 0], 8) := by kernel_rfl
@[simp] theorem Try.ok8 : okFn Try.prog 8 = true := by kernel_rfl
@[simp] theorem Try.ok11 : okFn Try.prog 11 = true := by kernel_rfl
@[simp] theorem Try.ok21 : okFn Try.prog 21 = true := by kernel_rfl
@[simp] theorem Try.ok22 : okFn Try.prog 22 = true := by kernel_rfl
@[simp] theorem Try.ok23 : okFn Try.prog 23 = true := by kernel_rfl
@[simp] theorem Try.ok27 : okFn Try.prog 27 = true := by kernel_rfl
@[simp] theorem Try.ok33 : okFn Try.prog 33 = true := by kernel_rfl
@[simp] theorem Try.ok35 : okFn Try.prog 35 = true := by kernel_rfl
@[simp] theorem Try.ok36 : okFn Try.prog 36 = true := by kernel_rfl
@[simp] theorem Try.ok37 : okFn Try.prog 37 = true := by kernel_rfl
@[simp] theorem Try.ok38 : okFn Try.prog 38 = true := by kernel_rfl
@[simp] theorem Try.ok39 : okFn Try.prog 39 = true := by kernel_rfl
@[simp] theorem Try.ok52 : okFn Try.prog 52 = true := by kernel_rfl
@[simp] theorem Try.ok53 : okFn Try.prog 53 = true := by kernel_rfl
@[simp] theorem Try.ok54 : okFn Try.prog 54 = true := by kernel_rfl
@[simp] theorem Try.ok55 : okFn Try.prog 55 = true := by kernel_rfl
@[simp] theorem Try.ok56 : okFn Try.prog 56 = true := by kernel_rfl
@[simp] theorem Try.ok57 : okFn Try.prog 57 = true := by kernel_rfl
@[simp] theorem Try.ok58 : okFn Try.prog 58 = true := by kernel_rfl
@[simp] theorem Try.ok60 : okFn Try.prog 60 = true := by kernel_rfl
@[simp] theorem Try.ok61 : okFn Try.prog 61 = true := by kernel_rfl
@[simp] theorem Try.ok62 : okFn Try.prog 62 = true := by kernel_rfl
@[simp] theorem Try.ok63 : okFn Try.prog 63 = true := by kernel_rfl
@[simp] theorem Try.ok66 : okFn Try.prog 66 = true := by kernel_rfl
@[simp] theorem Try.ok67 : okFn Try.prog 67 = true := by kernel_rfl
@[simp] theorem Try.ok68 : okFn Try.prog 68 = true := by kernel_rfl
@[simp] theorem Try.ok69 : okFn Try.prog 69 = true := by kernel_rfl
@[simp] theorem Try.ok70 : okFn Try.prog 70 = true := by kernel_rfl
@[simp] theorem Try.ok71 : okFn Try.prog 71 = true := by kernel_rfl
@[simp] theorem Try.ok72 : okFn Try.prog 72 = true := by kernel_rfl
@[simp] theorem Try.ok73 : okFn Try.prog 73 = true := by kernel_rfl
@[simp] theorem Try.ok74 : okFn Try.prog 74 = true := by kernel_rfl
@[simp] theorem Try.ok75 : okFn Try.prog 75 = true := by kernel_rfl
@[simp] theorem Try.ok76 : okFn Try.prog 76 = true := by kernel_rfl
@[simp] theorem Try.ok77 : okFn Try.prog 77 = true := by kernel_rfl
@[simp] theorem Try.ok78 : okFn Try.prog 78 = true := by kernel_rfl
@[simp] theorem Try.ok79 : okFn Try.prog 79 = true := by kernel_rfl
@[simp] theorem Try.ok86 : okFn Try.prog 86 = true := by kernel_rfl
@[simp] theorem Try.ok87 : okFn Try.prog 87 = true := by kernel_rfl
@[simp] theorem Try.ok88 : okFn Try.prog 88 = true := by kernel_rfl
@[simp] theorem Try.ok89 : okFn Try.prog 89 = true := by kernel_rfl
@[simp] theorem Try.ok90 : okFn Try.prog 90 = true := by kernel_rfl
@[simp] theorem Try.ok91 : okFn Try.prog 91 = true := by kernel_rfl
@[simp] theorem Try.ok92 : okFn Try.prog 92 = true := by kernel_rfl
@[simp] theorem Try.ok94 : okFn Try.prog 94 = true := by kernel_rfl
@[simp] theorem Try.ok95 : okFn Try.prog 95 = true := by kernel_rfl
@[simp] theorem Try.ok96 : okFn Try.prog 96 = true := by kernel_rfl
@[simp] theorem Try.ok97 : okFn Try.prog 97 = true := by kernel_rfl
@[simp] theorem Try.ok98 : okFn Try.prog 98 = true := by kernel_rfl
@[simp] theorem Try.ok99 : okFn Try.prog 99 = true := by kernel_rfl
@[simp] theorem Try.ok100 : okFn Try.prog 100 = true := by kernel_rfl
@[simp] theorem Try.ok101 : okFn Try.prog 101 = true := by kernel_rfl
@[simp] theorem Try.ok103 : okFn Try.prog 103 = true := by kernel_rfl
@[simp] theorem Try.ok104 : okFn Try.prog 104 = true := by kernel_rfl
@[simp] theorem Try.ok105 : okFn Try.prog 105 = true := by kernel_rfl
@[simp] theorem Try.ok106 : okFn Try.prog 106 = true := by kernel_rfl
@[simp] theorem Try.ok107 : okFn Try.prog 107 = true := by kernel_rfl
@[simp] theorem Try.ok108 : okFn Try.prog 108 = true := by kernel_rfl
@[simp] theorem Try.ok109 : okFn Try.prog 109 = true := by kernel_rfl
@[simp] theorem Try.ok110 : okFn Try.prog 110 = true := by kernel_rfl
@[simp] theorem Try.ok111 : okFn Try.prog 111 = true := by kernel_rfl
@[simp] theorem Try.ok112 : okFn Try.prog 112 = true := by kernel_rfl
@[simp] theorem Try.ok113 : okFn Try.prog 113 = true := by kernel_rfl
@[simp] theorem Try.ok114 : okFn Try.prog 114 = true := by kernel_rfl
@[simp] theorem Try.ok115 : okFn Try.prog 115 = true := by kernel_rfl
@[simp] theorem Try.ok116 : okFn Try.prog 116 = true := by kernel_rfl
@[simp] theorem Try.ok117 : okFn Try.prog 117 = true := by kernel_rfl
@[simp] theorem Try.ok118 : okFn Try.prog 118 = true := by kernel_rfl
@[simp] theorem Try.ok119 : okFn Try.prog 119 = true := by kernel_rfl
@[simp] theorem Try.ok123 : okFn Try.prog 123 = true := by kernel_rfl
@[simp] theorem Try.ok124 : okFn Try.prog 124 = true := by kernel_rfl
@[simp] theorem Try.ok126 : okFn Try.prog 126 = true := by kernel_rfl
@[simp] theorem Try.ok127 : okFn Try.prog 127 = true := by kernel_rfl
@[simp] theorem Try.ok128 : okFn Try.prog 128 = true := by kernel_rfl
@[simp] theorem Try.ok129 : okFn Try.prog 129 = true := by kernel_rfl
@[simp] theorem Try.ok130 : okFn Try.prog 130 = true := by kernel_rfl
@[simp] theorem Try.ok131 : okFn Try.prog 131 = true := by kernel_rfl
@[simp] theorem Try.ok132 : okFn Try.prog 132 = true := by kernel_rfl
@[simp] theorem Try.ok133 : okFn Try.prog 133 = true := by kernel_rfl
@[simp] theorem Try.ok134 : okFn Try.prog 134 = true := by kernel_rfl
@[simp] theorem Try.ok135 : okFn Try.prog 135 = true := by kernel_rfl
@[simp] theorem Try.ok136 : okFn Try.prog 136 = true := by kernel_rfl
@[simp] theorem Try.ok137 : okFn Try.prog 137 = true := by kernel_rfl
@[simp] theorem Try.ok138 : okFn Try.prog 138 = true := by kernel_rfl
@[simp] theorem Try.ok139 : okFn Try.prog 139 = true := by kernel_rfl
@[simp] theorem Try.ok140 : okFn Try.prog 140 = true := by kernel_rfl
@[simp] theorem Try.ok141 : okFn Try.prog 141 = true := by kernel_rfl
@[simp] theorem Try.ok142 : okFn Try.prog 142 = true := by kernel_rfl
@[simp] theorem Try.ok143 : okFn Try.prog 143 = true := by kernel_rfl
@[simp] theorem Try.ok144 : okFn Try.prog 144 = true := by kernel_rfl
@[simp] theorem Try.ok145 : okFn Try.prog 145 = true := by kernel_rfl
@[simp] theorem Try.ok146 : okFn Try.prog 146 = true := by kernel_rfl
end Go.Proofs
