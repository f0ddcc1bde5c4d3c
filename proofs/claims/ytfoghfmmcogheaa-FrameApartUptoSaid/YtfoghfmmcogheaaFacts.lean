/- The program's types and functions, as the rules want them (written by a program of our own). -/
import Derived.Test.YtfoghfmmcogheaaFwJbtoFwN
import Derived.Test.YtfoghfmmcogheaaProg
import Derived.KernelRfl
set_option linter.unusedVariables false
set_option linter.unusedSimpArgs false
namespace Go.Proofs
open Go.Mu
@[simp] theorem Try.sz3 : szOf Try.prog 3 = some 1 := by kernel_rfl
@[simp] theorem Try.ag3 : aggOf Try.prog 3 = some false := by kernel_rfl
@[simp] theorem Try.ud3 : undB Try.prog 3 = true := by kernel_rfl
@[simp] theorem Try.sz4 : szOf Try.prog 4 = some 1 := by kernel_rfl
@[simp] theorem Try.ag4 : aggOf Try.prog 4 = some false := by kernel_rfl
@[simp] theorem Try.sz5 : szOf Try.prog 5 = some 1 := by kernel_rfl
@[simp] theorem Try.ag5 : aggOf Try.prog 5 = some false := by kernel_rfl
@[simp] theorem Try.ko5 : kOf Try.prog 5 = some .u8 := by kernel_rfl
@[simp] theorem Try.sz9 : szOf Try.prog 9 = some 1 := by kernel_rfl
@[simp] theorem Try.ag9 : aggOf Try.prog 9 = some false := by kernel_rfl
@[simp] theorem Try.lk9 : lkOf Try.prog 9 = 2 := by kernel_rfl
@[simp] theorem Try.ko9 : kOf Try.prog 9 = none := by kernel_rfl
@[simp] theorem Try.iv9 (x i : AV) (k : AV → Prop) (w : Wit k) : idxValV Try.prog 9 x i k w = bindOW (strA x) (fun s => bindOW (intA i) (fun n => andVW (0 ≤ n) (bindOW (s.data.toList[n.toNat]?) (fun b => k (.v (.int .u8 b.toNat))) (wit _)) (wit _)) (wit _)) (wit _) := idxValV_str Try.lk9 x i k w
@[simp] theorem Try.sz22 : szOf Try.prog 22 = some 1 := by kernel_rfl
@[simp] theorem Try.ag22 : aggOf Try.prog 22 = some false := by kernel_rfl
@[simp] theorem Try.el22 : elOf Try.prog 22 = some 39 := by kernel_rfl
@[simp] theorem Try.lk22 : lkOf Try.prog 22 = 1 := by kernel_rfl
@[simp] theorem Try.ix22 (H : List Blk) (x i : AV) (k : AV → Prop) (w : Wit k) : idxAddrV Try.prog H 22 x i k w = bindOW (szOf Try.prog 39) (fun sz => bindOW (intA i) (fun n => idxVW H sz x n k (wit _)) (wit _)) (wit _) := idxAddrV_sl Try.el22 H x i k w
@[simp] theorem Try.sz23 : szOf Try.prog 23 = some 1 := by kernel_rfl
@[simp] theorem Try.ag23 : aggOf Try.prog 23 = some false := by kernel_rfl
@[simp] theorem Try.el23 : elOf Try.prog 23 = some 50 := by kernel_rfl
@[simp] theorem Try.lk23 : lkOf Try.prog 23 = 1 := by kernel_rfl
@[simp] theorem Try.ix23 (H : List Blk) (x i : AV) (k : AV → Prop) (w : Wit k) : idxAddrV Try.prog H 23 x i k w = bindOW (szOf Try.prog 50) (fun sz => bindOW (intA i) (fun n => idxVW H sz x n k (wit _)) (wit _)) (wit _) := idxAddrV_sl Try.el23 H x i k w
@[simp] theorem Try.sl23 : slbOf Try.prog 23 = some (50, 5, [.string ByteArray.empty, .slice none 0 0, .slice none 0 0, .slice none 0 0, .slice none 0 0], 112) := by kernel_rfl
@[simp] theorem Try.sz25 : szOf Try.prog 25 = some 2 := by kernel_rfl
@[simp] theorem Try.ag25 : aggOf Try.prog 25 = some true := by kernel_rfl
@[simp] theorem Try.ze25 : zeroOf Try.prog 25 = some (.agg #[.slice none 0 0, .slice none 0 0]) := by kernel_rfl
@[simp] theorem Try.fl25_0 : fldOf Try.prog 25 0 = some (0, 1, false) := by kernel_rfl
@[simp] theorem Try.fl25_1 : fldOf Try.prog 25 1 = some (1, 1, false) := by kernel_rfl
@[simp] theorem Try.bl25 : bldOf Try.prog 25 = some ([.slice none 0 0, .slice none 0 0], [(0, 1), (1, 1)]) := by kernel_rfl
@[simp] theorem Try.sz26 : szOf Try.prog 26 = some 1 := by kernel_rfl
@[simp] theorem Try.ag26 : aggOf Try.prog 26 = some false := by kernel_rfl
@[simp] theorem Try.ko26 : kOf Try.prog 26 = some .u64 := by kernel_rfl
@[simp] theorem Try.sz29 : szOf Try.prog 29 = some 1 := by kernel_rfl
@[simp] theorem Try.ag29 : aggOf Try.prog 29 = some false := by kernel_rfl
@[simp] theorem Try.el29 : elOf Try.prog 29 = some 54 := by kernel_rfl
@[simp] theorem Try.lk29 : lkOf Try.prog 29 = 1 := by kernel_rfl
@[simp] theorem Try.ix29 (H : List Blk) (x i : AV) (k : AV → Prop) (w : Wit k) : idxAddrV Try.prog H 29 x i k w = bindOW (szOf Try.prog 54) (fun sz => bindOW (intA i) (fun n => idxVW H sz x n k (wit _)) (wit _)) (wit _) := idxAddrV_sl Try.el29 H x i k w
@[simp] theorem Try.sl29 : slbOf Try.prog 29 = some (54, 3, [.string ByteArray.empty, .int .i64 0, .int .i64 0], 32) := by kernel_rfl
@[simp] theorem Try.sz31 : szOf Try.prog 31 = some 2 := by kernel_rfl
@[simp] theorem Try.ag31 : aggOf Try.prog 31 = some true := by kernel_rfl
@[simp] theorem Try.ze31 : zeroOf Try.prog 31 = some (.agg #[.slice none 0 0, .int .i64 0]) := by kernel_rfl
@[simp] theorem Try.fl31_0 : fldOf Try.prog 31 0 = some (0, 1, false) := by kernel_rfl
@[simp] theorem Try.fl31_1 : fldOf Try.prog 31 1 = some (1, 1, false) := by kernel_rfl
@[simp] theorem Try.bl31 : bldOf Try.prog 31 = some ([.slice none 0 0, .int .i64 0], [(0, 1), (1, 1)]) := by kernel_rfl
@[simp] theorem Try.sz32 : szOf Try.prog 32 = some 1 := by kernel_rfl
@[simp] theorem Try.ag32 : aggOf Try.prog 32 = some false := by kernel_rfl
@[simp] theorem Try.ze32 : zeroOf Try.prog 32 = some (.int .i64 0) := by kernel_rfl
@[simp] theorem Try.sz36 : szOf Try.prog 36 = some 1 := by kernel_rfl
@[simp] theorem Try.ag36 : aggOf Try.prog 36 = some false := by kernel_rfl
@[simp] theorem Try.el36 : elOf Try.prog 36 = some 42 := by kernel_rfl
@[simp] theorem Try.lk36 : lkOf Try.prog 36 = 1 := by kernel_rfl
@[simp] theorem Try.ix36 (H : List Blk) (x i : AV) (k : AV → Prop) (w : Wit k) : idxAddrV Try.prog H 36 x i k w = bindOW (szOf Try.prog 42) (fun sz => bindOW (intA i) (fun n => idxVW H sz x n k (wit _)) (wit _)) (wit _) := idxAddrV_sl Try.el36 H x i k w
@[simp] theorem Try.sl36 : slbOf Try.prog 36 = some (42, 4, [.string ByteArray.empty, .int .i64 0, .int .i64 0, .bool false], 40) := by kernel_rfl
@[simp] theorem Try.sz39 : szOf Try.prog 39 = some 4 := by kernel_rfl
@[simp] theorem Try.ag39 : aggOf Try.prog 39 = some true := by kernel_rfl
@[simp] theorem Try.ze39 : zeroOf Try.prog 39 = some (.agg #[.string ByteArray.empty, .int .i64 0, .int .i64 0, .bool false]) := by kernel_rfl
@[simp] theorem Try.fl39_0 : fldOf Try.prog 39 0 = some (0, 1, false) := by kernel_rfl
@[simp] theorem Try.fl39_1 : fldOf Try.prog 39 1 = some (1, 1, false) := by kernel_rfl
@[simp] theorem Try.fl39_2 : fldOf Try.prog 39 2 = some (2, 1, false) := by kernel_rfl
@[simp] theorem Try.sz40 : szOf Try.prog 40 = some 1 := by kernel_rfl
@[simp] theorem Try.ag40 : aggOf Try.prog 40 = some false := by kernel_rfl
@[simp] theorem Try.sz42 : szOf Try.prog 42 = some 4 := by kernel_rfl
@[simp] theorem Try.ag42 : aggOf Try.prog 42 = some true := by kernel_rfl
@[simp] theorem Try.ze42 : zeroOf Try.prog 42 = some (.agg #[.string ByteArray.empty, .int .i64 0, .int .i64 0, .bool false]) := by kernel_rfl
@[simp] theorem Try.fl42_0 : fldOf Try.prog 42 0 = some (0, 1, false) := by kernel_rfl
@[simp] theorem Try.fl42_1 : fldOf Try.prog 42 1 = some (1, 1, false) := by kernel_rfl
@[simp] theorem Try.fl42_2 : fldOf Try.prog 42 2 = some (2, 1, false) := by kernel_rfl
@[simp] theorem Try.fl42_3 : fldOf Try.prog 42 3 = some (3, 1, false) := by kernel_rfl
@[simp] theorem Try.bl42 : bldOf Try.prog 42 = some ([.string ByteArray.empty, .int .i64 0, .int .i64 0, .bool false], [(0, 1), (1, 1), (2, 1), (3, 1)]) := by kernel_rfl
@[simp] theorem Try.el43 : elOf Try.prog 43 = some 26 := by kernel_rfl
@[simp] theorem Try.lk43 : lkOf Try.prog 43 = 1 := by kernel_rfl
@[simp] theorem Try.ix43 (H : List Blk) (x i : AV) (k : AV → Prop) (w : Wit k) : idxAddrV Try.prog H 43 x i k w = bindOW (szOf Try.prog 26) (fun sz => bindOW (intA i) (fun n => idxVW H sz x n k (wit _)) (wit _)) (wit _) := idxAddrV_sl Try.el43 H x i k w
@[simp] theorem Try.sl43 : slbOf Try.prog 43 = some (26, 1, [.int .u64 0], 8) := by kernel_rfl
@[simp] theorem Try.sz47 : szOf Try.prog 47 = some 1 := by kernel_rfl
@[simp] theorem Try.ag47 : aggOf Try.prog 47 = some false := by kernel_rfl
@[simp] theorem Try.el47 : elOf Try.prog 47 = some 9 := by kernel_rfl
@[simp] theorem Try.lk47 : lkOf Try.prog 47 = 1 := by kernel_rfl
@[simp] theorem Try.ix47 (H : List Blk) (x i : AV) (k : AV → Prop) (w : Wit k) : idxAddrV Try.prog H 47 x i k w = bindOW (szOf Try.prog 9) (fun sz => bindOW (intA i) (fun n => idxVW H sz x n k (wit _)) (wit _)) (wit _) := idxAddrV_sl Try.el47 H x i k w
@[simp] theorem Try.sl47 : slbOf Try.prog 47 = some (9, 1, [.string ByteArray.empty], 16) := by kernel_rfl
@[simp] theorem Try.sz48 : szOf Try.prog 48 = some 1 := by kernel_rfl
@[simp] theorem Try.ag48 : aggOf Try.prog 48 = some false := by kernel_rfl
@[simp] theorem Try.el48 : elOf Try.prog 48 = some 64 := by kernel_rfl
@[simp] theorem Try.lk48 : lkOf Try.prog 48 = 1 := by kernel_rfl
@[simp] theorem Try.ix48 (H : List Blk) (x i : AV) (k : AV → Prop) (w : Wit k) : idxAddrV Try.prog H 48 x i k w = bindOW (szOf Try.prog 64) (fun sz => bindOW (intA i) (fun n => idxVW H sz x n k (wit _)) (wit _)) (wit _) := idxAddrV_sl Try.el48 H x i k w
@[simp] theorem Try.sz50 : szOf Try.prog 50 = some 5 := by kernel_rfl
@[simp] theorem Try.ag50 : aggOf Try.prog 50 = some true := by kernel_rfl
@[simp] theorem Try.ze50 : zeroOf Try.prog 50 = some (.agg #[.string ByteArray.empty, .slice none 0 0, .slice none 0 0, .slice none 0 0, .slice none 0 0]) := by kernel_rfl
@[simp] theorem Try.fl50_0 : fldOf Try.prog 50 0 = some (0, 1, false) := by kernel_rfl
@[simp] theorem Try.fl50_1 : fldOf Try.prog 50 1 = some (1, 1, false) := by kernel_rfl
@[simp] theorem Try.fl50_2 : fldOf Try.prog 50 2 = some (2, 1, false) := by kernel_rfl
@[simp] theorem Try.fl50_3 : fldOf Try.prog 50 3 = some (3, 1, false) := by kernel_rfl
@[simp] theorem Try.fl50_4 : fldOf Try.prog 50 4 = some (4, 1, false) := by kernel_rfl
@[simp] theorem Try.bl50 : bldOf Try.prog 50 = some ([.string ByteArray.empty, .slice none 0 0, .slice none 0 0, .slice none 0 0, .slice none 0 0], [(0, 1), (1, 1), (2, 1), (3, 1), (4, 1)]) := by kernel_rfl
@[simp] theorem Try.sz54 : szOf Try.prog 54 = some 3 := by kernel_rfl
@[simp] theorem Try.ag54 : aggOf Try.prog 54 = some true := by kernel_rfl
@[simp] theorem Try.ze54 : zeroOf Try.prog 54 = some (.agg #[.string ByteArray.empty, .int .i64 0, .int .i64 0]) := by kernel_rfl
@[simp] theorem Try.eq54 (x0 y0 : ByteArray) (x1 y1 : Int) (x2 y2 : Int) : binE Try.prog .eql 54 (.agg [.v (.string x0), .v (.int .i64 x1), .v (.int .i64 x2)]) (.agg [.v (.string y0), .v (.int .i64 y1), .v (.int .i64 y2)]) = some (.v (.bool ((x0.toList == y0.toList) && ((x1 == y1) && ((x2 == y2) && true))))) := by kernel_rfl
@[simp] theorem Try.fl54_0 : fldOf Try.prog 54 0 = some (0, 1, false) := by kernel_rfl
@[simp] theorem Try.fl54_1 : fldOf Try.prog 54 1 = some (1, 1, false) := by kernel_rfl
@[simp] theorem Try.fl54_2 : fldOf Try.prog 54 2 = some (2, 1, false) := by kernel_rfl
@[simp] theorem Try.bl54 : bldOf Try.prog 54 = some ([.string ByteArray.empty, .int .i64 0, .int .i64 0], [(0, 1), (1, 1), (2, 1)]) := by kernel_rfl
@[simp] theorem Try.sz58 : szOf Try.prog 58 = some 1 := by kernel_rfl
@[simp] theorem Try.ag58 : aggOf Try.prog 58 = some false := by kernel_rfl
@[simp] theorem Try.sz59 : szOf Try.prog 59 = some 1 := by kernel_rfl
@[simp] theorem Try.ag59 : aggOf Try.prog 59 = some false := by kernel_rfl
@[simp] theorem Try.sz60 : szOf Try.prog 60 = some 1 := by kernel_rfl
@[simp] theorem Try.ag60 : aggOf Try.prog 60 = some false := by kernel_rfl
@[simp] theorem Try.el60 : elOf Try.prog 60 = some 62 := by kernel_rfl
@[simp] theorem Try.lk60 : lkOf Try.prog 60 = 1 := by kernel_rfl
@[simp] theorem Try.ix60 (H : List Blk) (x i : AV) (k : AV → Prop) (w : Wit k) : idxAddrV Try.prog H 60 x i k w = bindOW (szOf Try.prog 62) (fun sz => bindOW (intA i) (fun n => idxVW H sz x n k (wit _)) (wit _)) (wit _) := idxAddrV_sl Try.el60 H x i k w
@[simp] theorem Try.sl60 : slbOf Try.prog 60 = some (62, 4, [.int .i64 0, .int .u64 0, .string ByteArray.empty, .slice none 0 0], 56) := by kernel_rfl
@[simp] theorem Try.sz62 : szOf Try.prog 62 = some 4 := by kernel_rfl
@[simp] theorem Try.ag62 : aggOf Try.prog 62 = some true := by kernel_rfl
@[simp] theorem Try.ze62 : zeroOf Try.prog 62 = some (.agg #[.int .i64 0, .int .u64 0, .string ByteArray.empty, .slice none 0 0]) := by kernel_rfl
@[simp] theorem Try.fl62_0 : fldOf Try.prog 62 0 = some (0, 1, false) := by kernel_rfl
@[simp] theorem Try.fl62_1 : fldOf Try.prog 62 1 = some (1, 1, false) := by kernel_rfl
@[simp] theorem Try.fl62_2 : fldOf Try.prog 62 2 = some (2, 1, false) := by kernel_rfl
@[simp] theorem Try.fl62_3 : fldOf Try.prog 62 3 = some (3, 1, false) := by kernel_rfl
@[simp] theorem Try.sz64 : szOf Try.prog 64 = some 16 := by kernel_rfl
@[simp] theorem Try.ag64 : aggOf Try.prog 64 = some true := by kernel_rfl
@[simp] theorem Try.ze64 : zeroOf Try.prog 64 = some (.agg #[.int .i64 0, .string ByteArray.empty, .slice none 0 0, .int .i64 0, .int .u64 0, .string ByteArray.empty, .slice none 0 0, .int .i64 0, .int .u64 0, .string ByteArray.empty, .slice none 0 0, .slice none 0 0, .int .u64 0, .int .u64 0, .slice none 0 0, .slice none 0 0]) := by kernel_rfl
@[simp] theorem Try.fl64_0 : fldOf Try.prog 64 0 = some (0, 1, false) := by kernel_rfl
@[simp] theorem Try.fl64_1 : fldOf Try.prog 64 1 = some (1, 1, false) := by kernel_rfl
@[simp] theorem Try.fl64_2 : fldOf Try.prog 64 2 = some (2, 1, false) := by kernel_rfl
@[simp] theorem Try.fl64_3 : fldOf Try.prog 64 3 = some (3, 4, true) := by kernel_rfl
@[simp] theorem Try.fl64_4 : fldOf Try.prog 64 4 = some (7, 4, true) := by kernel_rfl
@[simp] theorem Try.fl64_5 : fldOf Try.prog 64 5 = some (11, 1, false) := by kernel_rfl
@[simp] theorem Try.fl64_6 : fldOf Try.prog 64 6 = some (12, 1, false) := by kernel_rfl
@[simp] theorem Try.fl64_7 : fldOf Try.prog 64 7 = some (13, 1, false) := by kernel_rfl
@[simp] theorem Try.fl64_8 : fldOf Try.prog 64 8 = some (14, 1, false) := by kernel_rfl
@[simp] theorem Try.fl64_9 : fldOf Try.prog 64 9 = some (15, 1, false) := by kernel_rfl
@[simp] theorem Try.el66 : elOf Try.prog 66 = some 3 := by kernel_rfl
@[simp] theorem Try.lk66 : lkOf Try.prog 66 = 1 := by kernel_rfl
@[simp] theorem Try.ix66 (H : List Blk) (x i : AV) (k : AV → Prop) (w : Wit k) : idxAddrV Try.prog H 66 x i k w = bindOW (szOf Try.prog 3) (fun sz => bindOW (intA i) (fun n => idxVW H sz x n k (wit _)) (wit _)) (wit _) := idxAddrV_sl Try.el66 H x i k w
@[simp] theorem Try.sl66 : slbOf Try.prog 66 = some (3, 1, [.int .i64 0], 8) := by kernel_rfl
@[simp] theorem Try.el67 : elOf Try.prog 67 = some 5 := by kernel_rfl
@[simp] theorem Try.lk67 : lkOf Try.prog 67 = 1 := by kernel_rfl
@[simp] theorem Try.ix67 (H : List Blk) (x i : AV) (k : AV → Prop) (w : Wit k) : idxAddrV Try.prog H 67 x i k w = bindOW (szOf Try.prog 5) (fun sz => bindOW (intA i) (fun n => idxVW H sz x n k (wit _)) (wit _)) (wit _) := idxAddrV_sl Try.el67 H x i k w
@[simp] theorem Try.ko67 : kOf Try.prog 67 = none := by kernel_rfl
@[simp] theorem Try.by67_9 : byB Try.prog 9 67 = true := by kernel_rfl
@[simp] theorem Try.bs67_9 : byS Try.prog 67 9 = true := by kernel_rfl
@[simp] theorem Try.bn67_9 : byS Try.prog 9 67 = false := by kernel_rfl
@[simp] theorem Try.sl67 : slbOf Try.prog 67 = some (5, 1, [.int .u8 0], 1) := by kernel_rfl
@[simp] theorem Try.sz69 : szOf Try.prog 69 = some 4 := by kernel_rfl
@[simp] theorem Try.ag69 : aggOf Try.prog 69 = some true := by kernel_rfl
@[simp] theorem Try.ze69 : zeroOf Try.prog 69 = some (.agg #[.bool false, .bool false, .bool false, .bool false]) := by kernel_rfl
@[simp] theorem Try.fl69_0 : fldOf Try.prog 69 0 = some (0, 1, false) := by kernel_rfl
@[simp] theorem Try.fl69_1 : fldOf Try.prog 69 1 = some (1, 1, false) := by kernel_rfl
@[simp] theorem Try.fl69_2 : fldOf Try.prog 69 2 = some (2, 1, false) := by kernel_rfl
@[simp] theorem Try.fl69_3 : fldOf Try.prog 69 3 = some (3, 1, false) := by kernel_rfl
@[simp] theorem Try.sz82 : szOf Try.prog 82 = some 1 := by kernel_rfl
@[simp] theorem Try.ag82 : aggOf Try.prog 82 = some false := by kernel_rfl
@[simp] theorem Try.mp82 : mapOf Try.prog 82 = some (.string, .agg #[.string ByteArray.empty, .int .i64 0, .int .i64 0, .bool false]) := by kernel_rfl
@[simp] theorem Try.sz83 : szOf Try.prog 83 = some 1 := by kernel_rfl
@[simp] theorem Try.ag83 : aggOf Try.prog 83 = some false := by kernel_rfl
@[simp] theorem Try.mp83 : mapOf Try.prog 83 = some (.string, .agg #[.bool false]) := by kernel_rfl
@[simp] theorem Try.fl86_0 : fldOf Try.prog 86 0 = some (0, 2, true) := by kernel_rfl
@[simp] theorem Try.fl86_1 : fldOf Try.prog 86 1 = some (2, 1, false) := by kernel_rfl
@[simp] theorem Try.fl86_2 : fldOf Try.prog 86 2 = some (3, 1, false) := by kernel_rfl
@[simp] theorem Try.fl86_3 : fldOf Try.prog 86 3 = some (4, 1, false) := by kernel_rfl
@[simp] theorem Try.fl86_4 : fldOf Try.prog 86 4 = some (5, 1, false) := by kernel_rfl
@[simp] theorem Try.fl86_5 : fldOf Try.prog 86 5 = some (6, 1, false) := by kernel_rfl
@[simp] theorem Try.bl86 : bldOf Try.prog 86 = some ([.slice none 0 0, .slice none 0 0, .int .i64 0, .map none, .map none, .slice none 0 0, .slice none 0 0], [(0, 2), (2, 1), (3, 1), (4, 1), (5, 1), (6, 1)]) := by kernel_rfl
@[simp] theorem Try.fl87_0 : fldOf Try.prog 87 0 = some (0, 1, false) := by kernel_rfl
@[simp] theorem Try.bl87 : bldOf Try.prog 87 = some ([.bool false], [(0, 1)]) := by kernel_rfl
@[simp] theorem Try.sz90 : szOf Try.prog 90 = some 1 := by kernel_rfl
@[simp] theorem Try.ag90 : aggOf Try.prog 90 = some false := by kernel_rfl
@[simp] theorem Try.ze90 : zeroOf Try.prog 90 = some (.nilFunc) := by kernel_rfl
@[simp] theorem Try.sz96 : szOf Try.prog 96 = some 1 := by kernel_rfl
@[simp] theorem Try.ze96 : zeroOf Try.prog 96 = some (.agg #[.int .i64 0]) := by kernel_rfl
@[simp] theorem Try.ni96 : isNonIface Try.prog 96 = true := by kernel_rfl
@[simp] theorem Try.fl96_0 : fldOf Try.prog 96 0 = some (0, 1, false) := by kernel_rfl
@[simp] theorem Try.bl96 : bldOf Try.prog 96 = some ([.int .i64 0], [(0, 1)]) := by kernel_rfl
@[simp] theorem Try.fl115_0 : fldOf Try.prog 115 0 = some (0, 1, false) := by kernel_rfl
@[simp] theorem Try.bl115 : bldOf Try.prog 115 = some ([.int .i64 0], [(0, 1)]) := by kernel_rfl
@[simp] theorem Try.el119 : elOf Try.prog 119 = some 58 := by kernel_rfl
@[simp] theorem Try.lk119 : lkOf Try.prog 119 = 1 := by kernel_rfl
@[simp] theorem Try.ix119 (H : List Blk) (x i : AV) (k : AV → Prop) (w : Wit k) : idxAddrV Try.prog H 119 x i k w = bindOW (szOf Try.prog 58) (fun sz => bindOW (intA i) (fun n => idxVW H sz x n k (wit _)) (wit _)) (wit _) := idxAddrV_sl Try.el119 H x i k w
@[simp] theorem Try.sl119 : slbOf Try.prog 119 = some (58, 1, [.int .i64 0], 8) := by kernel_rfl
@[simp] theorem Try.ok4 : okFn Try.prog 4 = true := by kernel_rfl
@[simp] theorem Try.ok5 : okFn Try.prog 5 = true := by kernel_rfl
@[simp] theorem Try.ok6 : okFn Try.prog 6 = true := by kernel_rfl
@[simp] theorem Try.ok7 : okFn Try.prog 7 = true := by kernel_rfl
@[simp] theorem Try.ok8 : okFn Try.prog 8 = true := by kernel_rfl
@[simp] theorem Try.ok9 : okFn Try.prog 9 = true := by kernel_rfl
@[simp] theorem Try.ok10 : okFn Try.prog 10 = true := by kernel_rfl
@[simp] theorem Try.ok11 : okFn Try.prog 11 = true := by kernel_rfl
@[simp] theorem Try.ok12 : okFn Try.prog 12 = true := by kernel_rfl
@[simp] theorem Try.ok13 : okFn Try.prog 13 = true := by kernel_rfl
@[simp] theorem Try.ok14 : okFn Try.prog 14 = true := by kernel_rfl
@[simp] theorem Try.ok15 : okFn Try.prog 15 = true := by kernel_rfl
@[simp] theorem Try.ok16 : okFn Try.prog 16 = true := by kernel_rfl
@[simp] theorem Try.ok17 : okFn Try.prog 17 = true := by kernel_rfl
@[simp] theorem Try.ok18 : okFn Try.prog 18 = true := by kernel_rfl
@[simp] theorem Try.ok19 : okFn Try.prog 19 = true := by kernel_rfl
@[simp] theorem Try.ok21 : okFn Try.prog 21 = true := by kernel_rfl
@[simp] theorem Try.ok22 : okFn Try.prog 22 = true := by kernel_rfl
@[simp] theorem Try.ok25 : okFn Try.prog 25 = true := by kernel_rfl
@[simp] theorem Try.ok26 : okFn Try.prog 26 = true := by kernel_rfl
@[simp] theorem Try.ok27 : okFn Try.prog 27 = true := by kernel_rfl
@[simp] theorem Try.ok28 : okFn Try.prog 28 = true := by kernel_rfl
@[simp] theorem Try.ok29 : okFn Try.prog 29 = true := by kernel_rfl
@[simp] theorem Try.ok30 : okFn Try.prog 30 = true := by kernel_rfl
@[simp] theorem Try.ok31 : okFn Try.prog 31 = true := by kernel_rfl
@[simp] theorem Try.ok32 : okFn Try.prog 32 = true := by kernel_rfl
@[simp] theorem Try.ok33 : okFn Try.prog 33 = true := by kernel_rfl
@[simp] theorem Try.ok34 : okFn Try.prog 34 = true := by kernel_rfl
@[simp] theorem Try.ok35 : okFn Try.prog 35 = true := by kernel_rfl
@[simp] theorem Try.ok36 : okFn Try.prog 36 = true := by kernel_rfl
@[simp] theorem Try.ok37 : okFn Try.prog 37 = true := by kernel_rfl
@[simp] theorem Try.ok41 : okFn Try.prog 41 = true := by kernel_rfl
@[simp] theorem Try.ok42 : okFn Try.prog 42 = true := by kernel_rfl
@[simp] theorem Try.ok43 : okFn Try.prog 43 = true := by kernel_rfl
@[simp] theorem Try.ok44 : okFn Try.prog 44 = true := by kernel_rfl
@[simp] theorem Try.ok45 : okFn Try.prog 45 = true := by kernel_rfl
@[simp] theorem Try.ok46 : okFn Try.prog 46 = true := by kernel_rfl
@[simp] theorem Try.ok47 : okFn Try.prog 47 = true := by kernel_rfl
@[simp] theorem Try.ok48 : okFn Try.prog 48 = true := by kernel_rfl
@[simp] theorem Try.ok49 : okFn Try.prog 49 = true := by kernel_rfl
@[simp] theorem Try.ok50 : okFn Try.prog 50 = true := by kernel_rfl
@[simp] theorem Try.ok51 : okFn Try.prog 51 = true := by kernel_rfl
@[simp] theorem Try.ok52 : okFn Try.prog 52 = true := by kernel_rfl
@[simp] theorem Try.ok53 : okFn Try.prog 53 = true := by kernel_rfl
@[simp] theorem Try.ok54 : okFn Try.prog 54 = true := by kernel_rfl
@[simp] theorem Try.ok55 : okFn Try.prog 55 = true := by kernel_rfl
@[simp] theorem Try.ok58 : okFn Try.prog 58 = true := by kernel_rfl
@[simp] theorem Try.ok59 : okFn Try.prog 59 = true := by kernel_rfl
@[simp] theorem Try.ok60 : okFn Try.prog 60 = true := by kernel_rfl
@[simp] theorem Try.ok61 : okFn Try.prog 61 = true := by kernel_rfl
@[simp] theorem Try.ok62 : okFn Try.prog 62 = true := by kernel_rfl
@[simp] theorem Try.ok63 : okFn Try.prog 63 = true := by kernel_rfl
@[simp] theorem Try.ok64 : okFn Try.prog 64 = true := by kernel_rfl
@[simp] theorem Try.ok65 : okFn Try.prog 65 = true := by kernel_rfl
@[simp] theorem Try.ok66 : okFn Try.prog 66 = true := by kernel_rfl
@[simp] theorem Try.ok67 : okFn Try.prog 67 = true := by kernel_rfl
@[simp] theorem Try.ok68 : okFn Try.prog 68 = true := by kernel_rfl
@[simp] theorem Try.ok69 : okFn Try.prog 69 = true := by kernel_rfl
@[simp] theorem Try.ok80 : okFn Try.prog 80 = true := by kernel_rfl
@[simp] theorem Try.ok81 : okFn Try.prog 81 = true := by kernel_rfl
@[simp] theorem Try.ok82 : okFn Try.prog 82 = true := by kernel_rfl
end Go.Proofs
