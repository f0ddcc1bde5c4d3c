/- The program's types and functions, as the rules want them (written by a program of our own). -/
import Derived.Test.YtfoghfmmcogheaaGreatFwJbtoFwN
import Derived.Test.YtfoghfmmcogheaaGreatProg
import Derived.KernelRfl
set_option linter.unusedVariables false
set_option linter.unusedSimpArgs false
namespace Go.Proofs
open Go.Mu
@[simp] theorem Tryz.sz3 : szOf Tryz.prog 3 = some 1 := by kernel_rfl
@[simp] theorem Tryz.ag3 : aggOf Tryz.prog 3 = some false := by kernel_rfl
@[simp] theorem Tryz.ud3 : undB Tryz.prog 3 = true := by kernel_rfl
@[simp] theorem Tryz.sz4 : szOf Tryz.prog 4 = some 1 := by kernel_rfl
@[simp] theorem Tryz.ag4 : aggOf Tryz.prog 4 = some false := by kernel_rfl
@[simp] theorem Tryz.sz5 : szOf Tryz.prog 5 = some 1 := by kernel_rfl
@[simp] theorem Tryz.ag5 : aggOf Tryz.prog 5 = some false := by kernel_rfl
@[simp] theorem Tryz.ko5 : kOf Tryz.prog 5 = some .u8 := by kernel_rfl
@[simp] theorem Tryz.sz9 : szOf Tryz.prog 9 = some 1 := by kernel_rfl
@[simp] theorem Tryz.ag9 : aggOf Tryz.prog 9 = some false := by kernel_rfl
@[simp] theorem Tryz.lk9 : lkOf Tryz.prog 9 = 2 := by kernel_rfl
@[simp] theorem Tryz.ko9 : kOf Tryz.prog 9 = none := by kernel_rfl
@[simp] theorem Tryz.iv9 (x i : AV) (k : AV → Prop) (w : Wit k) : idxValV Tryz.prog 9 x i k w = bindOW (strA x) (fun s => bindOW (intA i) (fun n => andVW (0 ≤ n) (bindOW (s.data.toList[n.toNat]?) (fun b => k (.v (.int .u8 b.toNat))) (wit _)) (wit _)) (wit _)) (wit _) := idxValV_str Tryz.lk9 x i k w
@[simp] theorem Tryz.sz22 : szOf Tryz.prog 22 = some 1 := by kernel_rfl
@[simp] theorem Tryz.ag22 : aggOf Tryz.prog 22 = some false := by kernel_rfl
@[simp] theorem Tryz.el22 : elOf Tryz.prog 22 = some 47 := by kernel_rfl
@[simp] theorem Tryz.lk22 : lkOf Tryz.prog 22 = 1 := by kernel_rfl
@[simp] theorem Tryz.ix22 (H : List Blk) (x i : AV) (k : AV → Prop) (w : Wit k) : idxAddrV Tryz.prog H 22 x i k w = bindOW (szOf Tryz.prog 47) (fun sz => bindOW (intA i) (fun n => idxVW H sz x n k (wit _)) (wit _)) (wit _) := idxAddrV_sl Tryz.el22 H x i k w
@[simp] theorem Tryz.sz23 : szOf Tryz.prog 23 = some 1 := by kernel_rfl
@[simp] theorem Tryz.ag23 : aggOf Tryz.prog 23 = some false := by kernel_rfl
@[simp] theorem Tryz.el23 : elOf Tryz.prog 23 = some 52 := by kernel_rfl
@[simp] theorem Tryz.lk23 : lkOf Tryz.prog 23 = 1 := by kernel_rfl
@[simp] theorem Tryz.ix23 (H : List Blk) (x i : AV) (k : AV → Prop) (w : Wit k) : idxAddrV Tryz.prog H 23 x i k w = bindOW (szOf Tryz.prog 52) (fun sz => bindOW (intA i) (fun n => idxVW H sz x n k (wit _)) (wit _)) (wit _) := idxAddrV_sl Tryz.el23 H x i k w
@[simp] theorem Tryz.sl23 : slbOf Tryz.prog 23 = some (52, 5, [.string ByteArray.empty, .slice none 0 0, .slice none 0 0, .slice none 0 0, .slice none 0 0], 112) := by kernel_rfl
@[simp] theorem Tryz.sz25 : szOf Tryz.prog 25 = some 2 := by kernel_rfl
@[simp] theorem Tryz.ag25 : aggOf Tryz.prog 25 = some true := by kernel_rfl
@[simp] theorem Tryz.ze25 : zeroOf Tryz.prog 25 = some (.agg #[.slice none 0 0, .slice none 0 0]) := by kernel_rfl
@[simp] theorem Tryz.fl25_0 : fldOf Tryz.prog 25 0 = some (0, 1, false) := by kernel_rfl
@[simp] theorem Tryz.fl25_1 : fldOf Tryz.prog 25 1 = some (1, 1, false) := by kernel_rfl
@[simp] theorem Tryz.bl25 : bldOf Tryz.prog 25 = some ([.slice none 0 0, .slice none 0 0], [(0, 1), (1, 1)]) := by kernel_rfl
@[simp] theorem Tryz.sz28 : szOf Tryz.prog 28 = some 1 := by kernel_rfl
@[simp] theorem Tryz.ag28 : aggOf Tryz.prog 28 = some false := by kernel_rfl
@[simp] theorem Tryz.el28 : elOf Tryz.prog 28 = some 41 := by kernel_rfl
@[simp] theorem Tryz.lk28 : lkOf Tryz.prog 28 = 1 := by kernel_rfl
@[simp] theorem Tryz.ix28 (H : List Blk) (x i : AV) (k : AV → Prop) (w : Wit k) : idxAddrV Tryz.prog H 28 x i k w = bindOW (szOf Tryz.prog 41) (fun sz => bindOW (intA i) (fun n => idxVW H sz x n k (wit _)) (wit _)) (wit _) := idxAddrV_sl Tryz.el28 H x i k w
@[simp] theorem Tryz.sl28 : slbOf Tryz.prog 28 = some (41, 3, [.string ByteArray.empty, .int .i64 0, .int .i64 0], 32) := by kernel_rfl
@[simp] theorem Tryz.sz30 : szOf Tryz.prog 30 = some 2 := by kernel_rfl
@[simp] theorem Tryz.ag30 : aggOf Tryz.prog 30 = some true := by kernel_rfl
@[simp] theorem Tryz.ze30 : zeroOf Tryz.prog 30 = some (.agg #[.slice none 0 0, .int .i64 0]) := by kernel_rfl
@[simp] theorem Tryz.fl30_0 : fldOf Tryz.prog 30 0 = some (0, 1, false) := by kernel_rfl
@[simp] theorem Tryz.fl30_1 : fldOf Tryz.prog 30 1 = some (1, 1, false) := by kernel_rfl
@[simp] theorem Tryz.bl30 : bldOf Tryz.prog 30 = some ([.slice none 0 0, .int .i64 0], [(0, 1), (1, 1)]) := by kernel_rfl
@[simp] theorem Tryz.sz31 : szOf Tryz.prog 31 = some 1 := by kernel_rfl
@[simp] theorem Tryz.ag31 : aggOf Tryz.prog 31 = some false := by kernel_rfl
@[simp] theorem Tryz.ze31 : zeroOf Tryz.prog 31 = some (.int .i64 0) := by kernel_rfl
@[simp] theorem Tryz.sz35 : szOf Tryz.prog 35 = some 1 := by kernel_rfl
@[simp] theorem Tryz.ag35 : aggOf Tryz.prog 35 = some false := by kernel_rfl
@[simp] theorem Tryz.el35 : elOf Tryz.prog 35 = some 39 := by kernel_rfl
@[simp] theorem Tryz.lk35 : lkOf Tryz.prog 35 = 1 := by kernel_rfl
@[simp] theorem Tryz.ix35 (H : List Blk) (x i : AV) (k : AV → Prop) (w : Wit k) : idxAddrV Tryz.prog H 35 x i k w = bindOW (szOf Tryz.prog 39) (fun sz => bindOW (intA i) (fun n => idxVW H sz x n k (wit _)) (wit _)) (wit _) := idxAddrV_sl Tryz.el35 H x i k w
@[simp] theorem Tryz.sl35 : slbOf Tryz.prog 35 = some (39, 4, [.string ByteArray.empty, .int .i64 0, .int .i64 0, .bool false], 40) := by kernel_rfl
@[simp] theorem Tryz.sz37 : szOf Tryz.prog 37 = some 1 := by kernel_rfl
@[simp] theorem Tryz.ag37 : aggOf Tryz.prog 37 = some false := by kernel_rfl
@[simp] theorem Tryz.sz39 : szOf Tryz.prog 39 = some 4 := by kernel_rfl
@[simp] theorem Tryz.ag39 : aggOf Tryz.prog 39 = some true := by kernel_rfl
@[simp] theorem Tryz.ze39 : zeroOf Tryz.prog 39 = some (.agg #[.string ByteArray.empty, .int .i64 0, .int .i64 0, .bool false]) := by kernel_rfl
@[simp] theorem Tryz.fl39_0 : fldOf Tryz.prog 39 0 = some (0, 1, false) := by kernel_rfl
@[simp] theorem Tryz.fl39_1 : fldOf Tryz.prog 39 1 = some (1, 1, false) := by kernel_rfl
@[simp] theorem Tryz.fl39_2 : fldOf Tryz.prog 39 2 = some (2, 1, false) := by kernel_rfl
@[simp] theorem Tryz.fl39_3 : fldOf Tryz.prog 39 3 = some (3, 1, false) := by kernel_rfl
@[simp] theorem Tryz.bl39 : bldOf Tryz.prog 39 = some ([.string ByteArray.empty, .int .i64 0, .int .i64 0, .bool false], [(0, 1), (1, 1), (2, 1), (3, 1)]) := by kernel_rfl
@[simp] theorem Tryz.sz41 : szOf Tryz.prog 41 = some 3 := by kernel_rfl
@[simp] theorem Tryz.ag41 : aggOf Tryz.prog 41 = some true := by kernel_rfl
@[simp] theorem Tryz.ze41 : zeroOf Tryz.prog 41 = some (.agg #[.string ByteArray.empty, .int .i64 0, .int .i64 0]) := by kernel_rfl
@[simp] theorem Tryz.eq41 (x0 y0 : ByteArray) (x1 y1 : Int) (x2 y2 : Int) : binE Tryz.prog .eql 41 (.agg [.v (.string x0), .v (.int .i64 x1), .v (.int .i64 x2)]) (.agg [.v (.string y0), .v (.int .i64 y1), .v (.int .i64 y2)]) = some (.v (.bool ((x0.toList == y0.toList) && ((x1 == y1) && ((x2 == y2) && true))))) := by kernel_rfl
@[simp] theorem Tryz.fl41_0 : fldOf Tryz.prog 41 0 = some (0, 1, false) := by kernel_rfl
@[simp] theorem Tryz.fl41_1 : fldOf Tryz.prog 41 1 = some (1, 1, false) := by kernel_rfl
@[simp] theorem Tryz.fl41_2 : fldOf Tryz.prog 41 2 = some (2, 1, false) := by kernel_rfl
@[simp] theorem Tryz.bl41 : bldOf Tryz.prog 41 = some ([.string ByteArray.empty, .int .i64 0, .int .i64 0], [(0, 1), (1, 1), (2, 1)]) := by kernel_rfl
@[simp] theorem Tryz.sz47 : szOf Tryz.prog 47 = some 4 := by kernel_rfl
@[simp] theorem Tryz.ag47 : aggOf Tryz.prog 47 = some true := by kernel_rfl
@[simp] theorem Tryz.ze47 : zeroOf Tryz.prog 47 = some (.agg #[.string ByteArray.empty, .int .i64 0, .int .i64 0, .bool false]) := by kernel_rfl
@[simp] theorem Tryz.fl47_0 : fldOf Tryz.prog 47 0 = some (0, 1, false) := by kernel_rfl
@[simp] theorem Tryz.fl47_1 : fldOf Tryz.prog 47 1 = some (1, 1, false) := by kernel_rfl
@[simp] theorem Tryz.fl47_2 : fldOf Tryz.prog 47 2 = some (2, 1, false) := by kernel_rfl
@[simp] theorem Tryz.sz49 : szOf Tryz.prog 49 = some 1 := by kernel_rfl
@[simp] theorem Tryz.ag49 : aggOf Tryz.prog 49 = some false := by kernel_rfl
@[simp] theorem Tryz.el49 : elOf Tryz.prog 49 = some 9 := by kernel_rfl
@[simp] theorem Tryz.lk49 : lkOf Tryz.prog 49 = 1 := by kernel_rfl
@[simp] theorem Tryz.ix49 (H : List Blk) (x i : AV) (k : AV → Prop) (w : Wit k) : idxAddrV Tryz.prog H 49 x i k w = bindOW (szOf Tryz.prog 9) (fun sz => bindOW (intA i) (fun n => idxVW H sz x n k (wit _)) (wit _)) (wit _) := idxAddrV_sl Tryz.el49 H x i k w
@[simp] theorem Tryz.sl49 : slbOf Tryz.prog 49 = some (9, 1, [.string ByteArray.empty], 16) := by kernel_rfl
@[simp] theorem Tryz.sz50 : szOf Tryz.prog 50 = some 1 := by kernel_rfl
@[simp] theorem Tryz.ag50 : aggOf Tryz.prog 50 = some false := by kernel_rfl
@[simp] theorem Tryz.el50 : elOf Tryz.prog 50 = some 74 := by kernel_rfl
@[simp] theorem Tryz.lk50 : lkOf Tryz.prog 50 = 1 := by kernel_rfl
@[simp] theorem Tryz.ix50 (H : List Blk) (x i : AV) (k : AV → Prop) (w : Wit k) : idxAddrV Tryz.prog H 50 x i k w = bindOW (szOf Tryz.prog 74) (fun sz => bindOW (intA i) (fun n => idxVW H sz x n k (wit _)) (wit _)) (wit _) := idxAddrV_sl Tryz.el50 H x i k w
@[simp] theorem Tryz.sz52 : szOf Tryz.prog 52 = some 5 := by kernel_rfl
@[simp] theorem Tryz.ag52 : aggOf Tryz.prog 52 = some true := by kernel_rfl
@[simp] theorem Tryz.ze52 : zeroOf Tryz.prog 52 = some (.agg #[.string ByteArray.empty, .slice none 0 0, .slice none 0 0, .slice none 0 0, .slice none 0 0]) := by kernel_rfl
@[simp] theorem Tryz.fl52_0 : fldOf Tryz.prog 52 0 = some (0, 1, false) := by kernel_rfl
@[simp] theorem Tryz.fl52_1 : fldOf Tryz.prog 52 1 = some (1, 1, false) := by kernel_rfl
@[simp] theorem Tryz.fl52_2 : fldOf Tryz.prog 52 2 = some (2, 1, false) := by kernel_rfl
@[simp] theorem Tryz.fl52_3 : fldOf Tryz.prog 52 3 = some (3, 1, false) := by kernel_rfl
@[simp] theorem Tryz.fl52_4 : fldOf Tryz.prog 52 4 = some (4, 1, false) := by kernel_rfl
@[simp] theorem Tryz.bl52 : bldOf Tryz.prog 52 = some ([.string ByteArray.empty, .slice none 0 0, .slice none 0 0, .slice none 0 0, .slice none 0 0], [(0, 1), (1, 1), (2, 1), (3, 1), (4, 1)]) := by kernel_rfl
@[simp] theorem Tryz.sz58 : szOf Tryz.prog 58 = some 4 := by kernel_rfl
@[simp] theorem Tryz.ag58 : aggOf Tryz.prog 58 = some true := by kernel_rfl
@[simp] theorem Tryz.ze58 : zeroOf Tryz.prog 58 = some (.agg #[.bool false, .bool false, .bool false, .bool false]) := by kernel_rfl
@[simp] theorem Tryz.fl58_0 : fldOf Tryz.prog 58 0 = some (0, 1, false) := by kernel_rfl
@[simp] theorem Tryz.fl58_1 : fldOf Tryz.prog 58 1 = some (1, 1, false) := by kernel_rfl
@[simp] theorem Tryz.fl58_2 : fldOf Tryz.prog 58 2 = some (2, 1, false) := by kernel_rfl
@[simp] theorem Tryz.fl58_3 : fldOf Tryz.prog 58 3 = some (3, 1, false) := by kernel_rfl
@[simp] theorem Tryz.bl58 : bldOf Tryz.prog 58 = some ([.bool false, .bool false, .bool false, .bool false], [(0, 1), (1, 1), (2, 1), (3, 1)]) := by kernel_rfl
@[simp] theorem Tryz.sz67 : szOf Tryz.prog 67 = some 1 := by kernel_rfl
@[simp] theorem Tryz.ag67 : aggOf Tryz.prog 67 = some false := by kernel_rfl
@[simp] theorem Tryz.sz68 : szOf Tryz.prog 68 = some 1 := by kernel_rfl
@[simp] theorem Tryz.ag68 : aggOf Tryz.prog 68 = some false := by kernel_rfl
@[simp] theorem Tryz.sz69 : szOf Tryz.prog 69 = some 1 := by kernel_rfl
@[simp] theorem Tryz.ag69 : aggOf Tryz.prog 69 = some false := by kernel_rfl
@[simp] theorem Tryz.sz70 : szOf Tryz.prog 70 = some 1 := by kernel_rfl
@[simp] theorem Tryz.ag70 : aggOf Tryz.prog 70 = some false := by kernel_rfl
@[simp] theorem Tryz.el70 : elOf Tryz.prog 70 = some 72 := by kernel_rfl
@[simp] theorem Tryz.lk70 : lkOf Tryz.prog 70 = 1 := by kernel_rfl
@[simp] theorem Tryz.ix70 (H : List Blk) (x i : AV) (k : AV → Prop) (w : Wit k) : idxAddrV Tryz.prog H 70 x i k w = bindOW (szOf Tryz.prog 72) (fun sz => bindOW (intA i) (fun n => idxVW H sz x n k (wit _)) (wit _)) (wit _) := idxAddrV_sl Tryz.el70 H x i k w
@[simp] theorem Tryz.sl70 : slbOf Tryz.prog 70 = some (72, 4, [.int .i64 0, .int .u64 0, .string ByteArray.empty, .slice none 0 0], 56) := by kernel_rfl
@[simp] theorem Tryz.sz72 : szOf Tryz.prog 72 = some 4 := by kernel_rfl
@[simp] theorem Tryz.ag72 : aggOf Tryz.prog 72 = some true := by kernel_rfl
@[simp] theorem Tryz.ze72 : zeroOf Tryz.prog 72 = some (.agg #[.int .i64 0, .int .u64 0, .string ByteArray.empty, .slice none 0 0]) := by kernel_rfl
@[simp] theorem Tryz.fl72_0 : fldOf Tryz.prog 72 0 = some (0, 1, false) := by kernel_rfl
@[simp] theorem Tryz.fl72_1 : fldOf Tryz.prog 72 1 = some (1, 1, false) := by kernel_rfl
@[simp] theorem Tryz.fl72_2 : fldOf Tryz.prog 72 2 = some (2, 1, false) := by kernel_rfl
@[simp] theorem Tryz.fl72_3 : fldOf Tryz.prog 72 3 = some (3, 1, false) := by kernel_rfl
@[simp] theorem Tryz.sz74 : szOf Tryz.prog 74 = some 16 := by kernel_rfl
@[simp] theorem Tryz.ag74 : aggOf Tryz.prog 74 = some true := by kernel_rfl
@[simp] theorem Tryz.ze74 : zeroOf Tryz.prog 74 = some (.agg #[.int .i64 0, .string ByteArray.empty, .slice none 0 0, .int .i64 0, .int .u64 0, .string ByteArray.empty, .slice none 0 0, .int .i64 0, .int .u64 0, .string ByteArray.empty, .slice none 0 0, .slice none 0 0, .int .u64 0, .int .u64 0, .slice none 0 0, .slice none 0 0]) := by kernel_rfl
@[simp] theorem Tryz.fl74_0 : fldOf Tryz.prog 74 0 = some (0, 1, false) := by kernel_rfl
@[simp] theorem Tryz.fl74_1 : fldOf Tryz.prog 74 1 = some (1, 1, false) := by kernel_rfl
@[simp] theorem Tryz.fl74_2 : fldOf Tryz.prog 74 2 = some (2, 1, false) := by kernel_rfl
@[simp] theorem Tryz.fl74_3 : fldOf Tryz.prog 74 3 = some (3, 4, true) := by kernel_rfl
@[simp] theorem Tryz.fl74_4 : fldOf Tryz.prog 74 4 = some (7, 4, true) := by kernel_rfl
@[simp] theorem Tryz.fl74_5 : fldOf Tryz.prog 74 5 = some (11, 1, false) := by kernel_rfl
@[simp] theorem Tryz.fl74_6 : fldOf Tryz.prog 74 6 = some (12, 1, false) := by kernel_rfl
@[simp] theorem Tryz.fl74_7 : fldOf Tryz.prog 74 7 = some (13, 1, false) := by kernel_rfl
@[simp] theorem Tryz.fl74_8 : fldOf Tryz.prog 74 8 = some (14, 1, false) := by kernel_rfl
@[simp] theorem Tryz.fl74_9 : fldOf Tryz.prog 74 9 = some (15, 1, false) := by kernel_rfl
@[simp] theorem Tryz.el76 : elOf Tryz.prog 76 = some 3 := by kernel_rfl
@[simp] theorem Tryz.lk76 : lkOf Tryz.prog 76 = 1 := by kernel_rfl
@[simp] theorem Tryz.ix76 (H : List Blk) (x i : AV) (k : AV → Prop) (w : Wit k) : idxAddrV Tryz.prog H 76 x i k w = bindOW (szOf Tryz.prog 3) (fun sz => bindOW (intA i) (fun n => idxVW H sz x n k (wit _)) (wit _)) (wit _) := idxAddrV_sl Tryz.el76 H x i k w
@[simp] theorem Tryz.sl76 : slbOf Tryz.prog 76 = some (3, 1, [.int .i64 0], 8) := by kernel_rfl
@[simp] theorem Tryz.el77 : elOf Tryz.prog 77 = some 5 := by kernel_rfl
@[simp] theorem Tryz.lk77 : lkOf Tryz.prog 77 = 1 := by kernel_rfl
@[simp] theorem Tryz.ix77 (H : List Blk) (x i : AV) (k : AV → Prop) (w : Wit k) : idxAddrV Tryz.prog H 77 x i k w = bindOW (szOf Tryz.prog 5) (fun sz => bindOW (intA i) (fun n => idxVW H sz x n k (wit _)) (wit _)) (wit _) := idxAddrV_sl Tryz.el77 H x i k w
@[simp] theorem Tryz.ko77 : kOf Tryz.prog 77 = none := by kernel_rfl
@[simp] theorem Tryz.by77_9 : byB Tryz.prog 9 77 = true := by kernel_rfl
@[simp] theorem Tryz.bs77_9 : byS Tryz.prog 77 9 = true := by kernel_rfl
@[simp] theorem Tryz.bn77_9 : byS Tryz.prog 9 77 = false := by kernel_rfl
@[simp] theorem Tryz.sl77 : slbOf Tryz.prog 77 = some (5, 1, [.int .u8 0], 1) := by kernel_rfl
@[simp] theorem Tryz.sz91 : szOf Tryz.prog 91 = some 1 := by kernel_rfl
@[simp] theorem Tryz.ag91 : aggOf Tryz.prog 91 = some false := by kernel_rfl
@[simp] theorem Tryz.mp91 : mapOf Tryz.prog 91 = some (.string, .agg #[.string ByteArray.empty, .int .i64 0, .int .i64 0, .bool false]) := by kernel_rfl
@[simp] theorem Tryz.sz92 : szOf Tryz.prog 92 = some 1 := by kernel_rfl
@[simp] theorem Tryz.ag92 : aggOf Tryz.prog 92 = some false := by kernel_rfl
@[simp] theorem Tryz.mp92 : mapOf Tryz.prog 92 = some (.string, .agg #[.bool false]) := by kernel_rfl
@[simp] theorem Tryz.fl95_0 : fldOf Tryz.prog 95 0 = some (0, 2, true) := by kernel_rfl
@[simp] theorem Tryz.fl95_1 : fldOf Tryz.prog 95 1 = some (2, 1, false) := by kernel_rfl
@[simp] theorem Tryz.fl95_2 : fldOf Tryz.prog 95 2 = some (3, 1, false) := by kernel_rfl
@[simp] theorem Tryz.fl95_3 : fldOf Tryz.prog 95 3 = some (4, 1, false) := by kernel_rfl
@[simp] theorem Tryz.fl95_4 : fldOf Tryz.prog 95 4 = some (5, 1, false) := by kernel_rfl
@[simp] theorem Tryz.fl95_5 : fldOf Tryz.prog 95 5 = some (6, 1, false) := by kernel_rfl
@[simp] theorem Tryz.bl95 : bldOf Tryz.prog 95 = some ([.slice none 0 0, .slice none 0 0, .int .i64 0, .map none, .map none, .slice none 0 0, .slice none 0 0], [(0, 2), (2, 1), (3, 1), (4, 1), (5, 1), (6, 1)]) := by kernel_rfl
@[simp] theorem Tryz.fl96_0 : fldOf Tryz.prog 96 0 = some (0, 1, false) := by kernel_rfl
@[simp] theorem Tryz.bl96 : bldOf Tryz.prog 96 = some ([.bool false], [(0, 1)]) := by kernel_rfl
@[simp] theorem Tryz.sz99 : szOf Tryz.prog 99 = some 1 := by kernel_rfl
@[simp] theorem Tryz.ag99 : aggOf Tryz.prog 99 = some false := by kernel_rfl
@[simp] theorem Tryz.ze99 : zeroOf Tryz.prog 99 = some (.nilFunc) := by kernel_rfl
@[simp] theorem Tryz.sz106 : szOf Tryz.prog 106 = some 1 := by kernel_rfl
@[simp] theorem Tryz.ze106 : zeroOf Tryz.prog 106 = some (.agg #[.int .i64 0]) := by kernel_rfl
@[simp] theorem Tryz.ni106 : isNonIface Tryz.prog 106 = true := by kernel_rfl
@[simp] theorem Tryz.fl106_0 : fldOf Tryz.prog 106 0 = some (0, 1, false) := by kernel_rfl
@[simp] theorem Tryz.bl106 : bldOf Tryz.prog 106 = some ([.int .i64 0], [(0, 1)]) := by kernel_rfl
@[simp] theorem Tryz.fl131_0 : fldOf Tryz.prog 131 0 = some (0, 1, false) := by kernel_rfl
@[simp] theorem Tryz.bl131 : bldOf Tryz.prog 131 = some ([.int .i64 0], [(0, 1)]) := by kernel_rfl
@[simp] theorem Tryz.el135 : elOf Tryz.prog 135 = some 67 := by kernel_rfl
@[simp] theorem Tryz.lk135 : lkOf Tryz.prog 135 = 1 := by kernel_rfl
@[simp] theorem Tryz.ix135 (H : List Blk) (x i : AV) (k : AV → Prop) (w : Wit k) : idxAddrV Tryz.prog H 135 x i k w = bindOW (szOf Tryz.prog 67) (fun sz => bindOW (intA i) (fun n => idxVW H sz x n k (wit _)) (wit _)) (wit _) := idxAddrV_sl Tryz.el135 H x i k w
@[simp] theorem Tryz.sl135 : slbOf Tryz.prog 135 = some (67, 1, [.int .i64 0], 8) := by kernel_rfl
@[simp] theorem Tryz.ok5 : okFn Tryz.prog 5 = true := by kernel_rfl
@[simp] theorem Tryz.ok6 : okFn Tryz.prog 6 = true := by kernel_rfl
@[simp] theorem Tryz.ok7 : okFn Tryz.prog 7 = true := by kernel_rfl
@[simp] theorem Tryz.ok8 : okFn Tryz.prog 8 = true := by kernel_rfl
@[simp] theorem Tryz.ok9 : okFn Tryz.prog 9 = true := by kernel_rfl
@[simp] theorem Tryz.ok10 : okFn Tryz.prog 10 = true := by kernel_rfl
@[simp] theorem Tryz.ok11 : okFn Tryz.prog 11 = true := by kernel_rfl
@[simp] theorem Tryz.ok12 : okFn Tryz.prog 12 = true := by kernel_rfl
@[simp] theorem Tryz.ok13 : okFn Tryz.prog 13 = true := by kernel_rfl
@[simp] theorem Tryz.ok14 : okFn Tryz.prog 14 = true := by kernel_rfl
@[simp] theorem Tryz.ok15 : okFn Tryz.prog 15 = true := by kernel_rfl
@[simp] theorem Tryz.ok16 : okFn Tryz.prog 16 = true := by kernel_rfl
@[simp] theorem Tryz.ok17 : okFn Tryz.prog 17 = true := by kernel_rfl
@[simp] theorem Tryz.ok18 : okFn Tryz.prog 18 = true := by kernel_rfl
@[simp] theorem Tryz.ok19 : okFn Tryz.prog 19 = true := by kernel_rfl
@[simp] theorem Tryz.ok20 : okFn Tryz.prog 20 = true := by kernel_rfl
@[simp] theorem Tryz.ok22 : okFn Tryz.prog 22 = true := by kernel_rfl
@[simp] theorem Tryz.ok23 : okFn Tryz.prog 23 = true := by kernel_rfl
@[simp] theorem Tryz.ok26 : okFn Tryz.prog 26 = true := by kernel_rfl
@[simp] theorem Tryz.ok27 : okFn Tryz.prog 27 = true := by kernel_rfl
@[simp] theorem Tryz.ok28 : okFn Tryz.prog 28 = true := by kernel_rfl
@[simp] theorem Tryz.ok29 : okFn Tryz.prog 29 = true := by kernel_rfl
@[simp] theorem Tryz.ok30 : okFn Tryz.prog 30 = true := by kernel_rfl
@[simp] theorem Tryz.ok31 : okFn Tryz.prog 31 = true := by kernel_rfl
@[simp] theorem Tryz.ok32 : okFn Tryz.prog 32 = true := by kernel_rfl
@[simp] theorem Tryz.ok33 : okFn Tryz.prog 33 = true := by kernel_rfl
@[simp] theorem Tryz.ok34 : okFn Tryz.prog 34 = true := by kernel_rfl
@[simp] theorem Tryz.ok35 : okFn Tryz.prog 35 = true := by kernel_rfl
@[simp] theorem Tryz.ok36 : okFn Tryz.prog 36 = true := by kernel_rfl
@[simp] theorem Tryz.ok37 : okFn Tryz.prog 37 = true := by kernel_rfl
@[simp] theorem Tryz.ok40 : okFn Tryz.prog 40 = true := by kernel_rfl
@[simp] theorem Tryz.ok41 : okFn Tryz.prog 41 = true := by kernel_rfl
@[simp] theorem Tryz.ok42 : okFn Tryz.prog 42 = true := by kernel_rfl
@[simp] theorem Tryz.ok43 : okFn Tryz.prog 43 = true := by kernel_rfl
@[simp] theorem Tryz.ok44 : okFn Tryz.prog 44 = true := by kernel_rfl
@[simp] theorem Tryz.ok45 : okFn Tryz.prog 45 = true := by kernel_rfl
@[simp] theorem Tryz.ok46 : okFn Tryz.prog 46 = true := by kernel_rfl
@[simp] theorem Tryz.ok47 : okFn Tryz.prog 47 = true := by kernel_rfl
@[simp] theorem Tryz.ok48 : okFn Tryz.prog 48 = true := by kernel_rfl
@[simp] theorem Tryz.ok49 : okFn Tryz.prog 49 = true := by kernel_rfl
@[simp] theorem Tryz.ok50 : okFn Tryz.prog 50 = true := by kernel_rfl
@[simp] theorem Tryz.ok51 : okFn Tryz.prog 51 = true := by kernel_rfl
@[simp] theorem Tryz.ok52 : okFn Tryz.prog 52 = true := by kernel_rfl
@[simp] theorem Tryz.ok53 : okFn Tryz.prog 53 = true := by kernel_rfl
@[simp] theorem Tryz.ok54 : okFn Tryz.prog 54 = true := by kernel_rfl
@[simp] theorem Tryz.ok58 : okFn Tryz.prog 58 = true := by kernel_rfl
@[simp] theorem Tryz.ok59 : okFn Tryz.prog 59 = true := by kernel_rfl
@[simp] theorem Tryz.ok60 : okFn Tryz.prog 60 = true := by kernel_rfl
@[simp] theorem Tryz.ok61 : okFn Tryz.prog 61 = true := by kernel_rfl
@[simp] theorem Tryz.ok62 : okFn Tryz.prog 62 = true := by kernel_rfl
@[simp] theorem Tryz.ok63 : okFn Tryz.prog 63 = true := by kernel_rfl
@[simp] theorem Tryz.ok64 : okFn Tryz.prog 64 = true := by kernel_rfl
@[simp] theorem Tryz.ok65 : okFn Tryz.prog 65 = true := by kernel_rfl
@[simp] theorem Tryz.ok66 : okFn Tryz.prog 66 = true := by kernel_rfl
@[simp] theorem Tryz.ok67 : okFn Tryz.prog 67 = true := by kernel_rfl
@[simp] theorem Tryz.ok68 : okFn Tryz.prog 68 = true := by kernel_rfl
@[simp] theorem Tryz.ok69 : okFn Tryz.prog 69 = true := by kernel_rfl
@[simp] theorem Tryz.ok70 : okFn Tryz.prog 70 = true := by kernel_rfl
@[simp] theorem Tryz.ok71 : okFn Tryz.prog 71 = true := by kernel_rfl
@[simp] theorem Tryz.ok72 : okFn Tryz.prog 72 = true := by kernel_rfl
@[simp] theorem Tryz.ok73 : okFn Tryz.prog 73 = true := by kernel_rfl
@[simp] theorem Tryz.ok74 : okFn Tryz.prog 74 = true := by kernel_rfl
@[simp] theorem Tryz.ok85 : okFn Tryz.prog 85 = true := by kernel_rfl
@[simp] theorem Tryz.ok86 : okFn Tryz.prog 86 = true := by kernel_rfl
@[simp] theorem Tryz.ok87 : okFn Tryz.prog 87 = true := by kernel_rfl
@[simp] theorem Tryz.ok88 : okFn Tryz.prog 88 = true := by kernel_rfl
@[simp] theorem Tryz.ok89 : okFn Tryz.prog 89 = true := by kernel_rfl
@[simp] theorem Tryz.ok90 : okFn Tryz.prog 90 = true := by kernel_rfl
@[simp] theorem Tryz.ok91 : okFn Tryz.prog 91 = true := by kernel_rfl
@[simp] theorem Tryz.ok92 : okFn Tryz.prog 92 = true := by kernel_rfl
@[simp] theorem Tryz.ok93 : okFn Tryz.prog 93 = true := by kernel_rfl
@[simp] theorem Tryz.ok94 : okFn Tryz.prog 94 = true := by kernel_rfl
@[simp] theorem Tryz.ok95 : okFn Tryz.prog 95 = true := by kernel_rfl
@[simp] theorem Tryz.ok96 : okFn Tryz.prog 96 = true := by kernel_rfl
@[simp] theorem Tryz.ok97 : okFn Tryz.prog 97 = true := by kernel_rfl
@[simp] theorem Tryz.ok98 : okFn Tryz.prog 98 = true := by kernel_rfl
@[simp] theorem Tryz.ok99 : okFn Tryz.prog 99 = true := by kernel_rfl
@[simp] theorem Tryz.ok100 : okFn Tryz.prog 100 = true := by kernel_rfl
@[simp] theorem Tryz.ok101 : okFn Tryz.prog 101 = true := by kernel_rfl
@[simp] theorem Tryz.ok102 : okFn Tryz.prog 102 = true := by kernel_rfl
@[simp] theorem Tryz.ok108 : okFn Tryz.prog 108 = true := by kernel_rfl
@[simp] theorem Tryz.ok109 : okFn Tryz.prog 109 = true := by kernel_rfl
@[simp] theorem Tryz.ok110 : okFn Tryz.prog 110 = true := by kernel_rfl
@[simp] theorem Tryz.ok111 : okFn Tryz.prog 111 = true := by kernel_rfl
@[simp] theorem Tryz.ok112 : okFn Tryz.prog 112 = true := by kernel_rfl
end Go.Proofs
