/- The program's types and functions, as the rules want them (written by a program of our own). -/
import Derived.Test.YtpibcbilkpoomaaGreatFwJbtoFwN
import Derived.Test.YtpibcbilkpoomaaGreatProg
import Derived.KernelRfl
set_option linter.unusedVariables false
set_option linter.unusedSimpArgs false
namespace Go.Proofs
open Go.Mu
@[simp] theorem Tryz.ud2 : undB Tryz.prog 2 = true := by kernel_rfl
@[simp] theorem Tryz.ko2 : kOf Tryz.prog 2 = some .i64 := by kernel_rfl
@[simp] theorem Tryz.sz3 : szOf Tryz.prog 3 = some 1 := by kernel_rfl
@[simp] theorem Tryz.ag3 : aggOf Tryz.prog 3 = some false := by kernel_rfl
@[simp] theorem Tryz.ud3 : undB Tryz.prog 3 = true := by kernel_rfl
@[simp] theorem Tryz.ko3 : kOf Tryz.prog 3 = some .i64 := by kernel_rfl
@[simp] theorem Tryz.sz4 : szOf Tryz.prog 4 = some 1 := by kernel_rfl
@[simp] theorem Tryz.ag4 : aggOf Tryz.prog 4 = some false := by kernel_rfl
@[simp] theorem Tryz.sz5 : szOf Tryz.prog 5 = some 1 := by kernel_rfl
@[simp] theorem Tryz.ag5 : aggOf Tryz.prog 5 = some false := by kernel_rfl
@[simp] theorem Tryz.sz9 : szOf Tryz.prog 9 = some 1 := by kernel_rfl
@[simp] theorem Tryz.ag9 : aggOf Tryz.prog 9 = some false := by kernel_rfl
@[simp] theorem Tryz.lk9 : lkOf Tryz.prog 9 = 2 := by kernel_rfl
@[simp] theorem Tryz.iv9 (x i : AV) (k : AV → Prop) (w : Wit k) : idxValV Tryz.prog 9 x i k w = bindOW (strA x) (fun s => bindOW (intA i) (fun n => andVW (0 ≤ n) (bindOW (s.data.toList[n.toNat]?) (fun b => k (.v (.int .u8 b.toNat))) (wit _)) (wit _)) (wit _)) (wit _) := idxValV_str Tryz.lk9 x i k w
@[simp] theorem Tryz.sz22 : szOf Tryz.prog 22 = some 1 := by kernel_rfl
@[simp] theorem Tryz.ag22 : aggOf Tryz.prog 22 = some false := by kernel_rfl
@[simp] theorem Tryz.el22 : elOf Tryz.prog 22 = some 96 := by kernel_rfl
@[simp] theorem Tryz.lk22 : lkOf Tryz.prog 22 = 1 := by kernel_rfl
@[simp] theorem Tryz.ix22 (H : List Blk) (x i : AV) (k : AV → Prop) (w : Wit k) : idxAddrV Tryz.prog H 22 x i k w = bindOW (szOf Tryz.prog 96) (fun sz => bindOW (intA i) (fun n => idxVW H sz x n k (wit _)) (wit _)) (wit _) := idxAddrV_sl Tryz.el22 H x i k w
@[simp] theorem Tryz.sl22 : slbOf Tryz.prog 22 = some (96, 4, [.string ByteArray.empty, .int .i64 0, .int .i64 0, .bool false], 40) := by kernel_rfl
@[simp] theorem Tryz.sz23 : szOf Tryz.prog 23 = some 1 := by kernel_rfl
@[simp] theorem Tryz.ag23 : aggOf Tryz.prog 23 = some false := by kernel_rfl
@[simp] theorem Tryz.el23 : elOf Tryz.prog 23 = some 56 := by kernel_rfl
@[simp] theorem Tryz.lk23 : lkOf Tryz.prog 23 = 1 := by kernel_rfl
@[simp] theorem Tryz.ix23 (H : List Blk) (x i : AV) (k : AV → Prop) (w : Wit k) : idxAddrV Tryz.prog H 23 x i k w = bindOW (szOf Tryz.prog 56) (fun sz => bindOW (intA i) (fun n => idxVW H sz x n k (wit _)) (wit _)) (wit _) := idxAddrV_sl Tryz.el23 H x i k w
@[simp] theorem Tryz.sl23 : slbOf Tryz.prog 23 = some (56, 5, [.string ByteArray.empty, .slice none 0 0, .slice none 0 0, .slice none 0 0, .slice none 0 0], 112) := by kernel_rfl
@[simp] theorem Tryz.sz25 : szOf Tryz.prog 25 = some 2 := by kernel_rfl
@[simp] theorem Tryz.ag25 : aggOf Tryz.prog 25 = some true := by kernel_rfl
@[simp] theorem Tryz.ze25 : zeroOf Tryz.prog 25 = some (.agg #[.slice none 0 0, .slice none 0 0]) := by kernel_rfl
@[simp] theorem Tryz.fl25_0 : fldOf Tryz.prog 25 0 = some (0, 1, false) := by kernel_rfl
@[simp] theorem Tryz.fl25_1 : fldOf Tryz.prog 25 1 = some (1, 1, false) := by kernel_rfl
@[simp] theorem Tryz.bl25 : bldOf Tryz.prog 25 = some ([.slice none 0 0, .slice none 0 0], [(0, 1), (1, 1)]) := by kernel_rfl
@[simp] theorem Tryz.el26 : elOf Tryz.prog 26 = some 48 := by kernel_rfl
@[simp] theorem Tryz.lk26 : lkOf Tryz.prog 26 = 1 := by kernel_rfl
@[simp] theorem Tryz.ix26 (H : List Blk) (x i : AV) (k : AV → Prop) (w : Wit k) : idxAddrV Tryz.prog H 26 x i k w = bindOW (szOf Tryz.prog 48) (fun sz => bindOW (intA i) (fun n => idxVW H sz x n k (wit _)) (wit _)) (wit _) := idxAddrV_sl Tryz.el26 H x i k w
@[simp] theorem Tryz.sl26 : slbOf Tryz.prog 26 = some (48, 1, [.int .u64 0], 8) := by kernel_rfl
@[simp] theorem Tryz.lk34 : lkOf Tryz.prog 34 = 1 := by kernel_rfl
@[simp] theorem Tryz.sl34 : slbOf Tryz.prog 34 = some (60, 1, [.slice none 0 0], 24) := by kernel_rfl
@[simp] theorem Tryz.sz35 : szOf Tryz.prog 35 = some 1 := by kernel_rfl
@[simp] theorem Tryz.ag35 : aggOf Tryz.prog 35 = some false := by kernel_rfl
@[simp] theorem Tryz.ze35 : zeroOf Tryz.prog 35 = some (.int .i64 0) := by kernel_rfl
@[simp] theorem Tryz.sz48 : szOf Tryz.prog 48 = some 1 := by kernel_rfl
@[simp] theorem Tryz.ag48 : aggOf Tryz.prog 48 = some false := by kernel_rfl
@[simp] theorem Tryz.ze48 : zeroOf Tryz.prog 48 = some (.int .u64 0) := by kernel_rfl
@[simp] theorem Tryz.ud48 : undB Tryz.prog 48 = true := by kernel_rfl
@[simp] theorem Tryz.ko48 : kOf Tryz.prog 48 = some .u64 := by kernel_rfl
@[simp] theorem Tryz.sz52 : szOf Tryz.prog 52 = some 1 := by kernel_rfl
@[simp] theorem Tryz.ag52 : aggOf Tryz.prog 52 = some false := by kernel_rfl
@[simp] theorem Tryz.el52 : elOf Tryz.prog 52 = some 82 := by kernel_rfl
@[simp] theorem Tryz.lk52 : lkOf Tryz.prog 52 = 1 := by kernel_rfl
@[simp] theorem Tryz.ix52 (H : List Blk) (x i : AV) (k : AV → Prop) (w : Wit k) : idxAddrV Tryz.prog H 52 x i k w = bindOW (szOf Tryz.prog 82) (fun sz => bindOW (intA i) (fun n => idxVW H sz x n k (wit _)) (wit _)) (wit _) := idxAddrV_sl Tryz.el52 H x i k w
@[simp] theorem Tryz.sl52 : slbOf Tryz.prog 52 = some (82, 16, [.int .i64 0, .string ByteArray.empty, .slice none 0 0, .int .i64 0, .int .u64 0, .string ByteArray.empty, .slice none 0 0, .int .i64 0, .int .u64 0, .string ByteArray.empty, .slice none 0 0, .slice none 0 0, .int .u64 0, .int .u64 0, .slice none 0 0, .slice none 0 0], 248) := by kernel_rfl
@[simp] theorem Tryz.sz53 : szOf Tryz.prog 53 = some 1 := by kernel_rfl
@[simp] theorem Tryz.ag53 : aggOf Tryz.prog 53 = some false := by kernel_rfl
@[simp] theorem Tryz.el53 : elOf Tryz.prog 53 = some 120 := by kernel_rfl
@[simp] theorem Tryz.lk53 : lkOf Tryz.prog 53 = 1 := by kernel_rfl
@[simp] theorem Tryz.ix53 (H : List Blk) (x i : AV) (k : AV → Prop) (w : Wit k) : idxAddrV Tryz.prog H 53 x i k w = bindOW (szOf Tryz.prog 120) (fun sz => bindOW (intA i) (fun n => idxVW H sz x n k (wit _)) (wit _)) (wit _) := idxAddrV_sl Tryz.el53 H x i k w
@[simp] theorem Tryz.sl53 : slbOf Tryz.prog 53 = some (120, 4, [.string ByteArray.empty, .int .i64 0, .int .i64 0, .bool false], 40) := by kernel_rfl
@[simp] theorem Tryz.sz54 : szOf Tryz.prog 54 = some 1 := by kernel_rfl
@[simp] theorem Tryz.ag54 : aggOf Tryz.prog 54 = some false := by kernel_rfl
@[simp] theorem Tryz.el54 : elOf Tryz.prog 54 = some 9 := by kernel_rfl
@[simp] theorem Tryz.lk54 : lkOf Tryz.prog 54 = 1 := by kernel_rfl
@[simp] theorem Tryz.ix54 (H : List Blk) (x i : AV) (k : AV → Prop) (w : Wit k) : idxAddrV Tryz.prog H 54 x i k w = bindOW (szOf Tryz.prog 9) (fun sz => bindOW (intA i) (fun n => idxVW H sz x n k (wit _)) (wit _)) (wit _) := idxAddrV_sl Tryz.el54 H x i k w
@[simp] theorem Tryz.sl54 : slbOf Tryz.prog 54 = some (9, 1, [.string ByteArray.empty], 16) := by kernel_rfl
@[simp] theorem Tryz.sz56 : szOf Tryz.prog 56 = some 5 := by kernel_rfl
@[simp] theorem Tryz.ag56 : aggOf Tryz.prog 56 = some true := by kernel_rfl
@[simp] theorem Tryz.ze56 : zeroOf Tryz.prog 56 = some (.agg #[.string ByteArray.empty, .slice none 0 0, .slice none 0 0, .slice none 0 0, .slice none 0 0]) := by kernel_rfl
@[simp] theorem Tryz.fl56_0 : fldOf Tryz.prog 56 0 = some (0, 1, false) := by kernel_rfl
@[simp] theorem Tryz.fl56_1 : fldOf Tryz.prog 56 1 = some (1, 1, false) := by kernel_rfl
@[simp] theorem Tryz.fl56_2 : fldOf Tryz.prog 56 2 = some (2, 1, false) := by kernel_rfl
@[simp] theorem Tryz.fl56_3 : fldOf Tryz.prog 56 3 = some (3, 1, false) := by kernel_rfl
@[simp] theorem Tryz.fl56_4 : fldOf Tryz.prog 56 4 = some (4, 1, false) := by kernel_rfl
@[simp] theorem Tryz.bl56 : bldOf Tryz.prog 56 = some ([.string ByteArray.empty, .slice none 0 0, .slice none 0 0, .slice none 0 0, .slice none 0 0], [(0, 1), (1, 1), (2, 1), (3, 1), (4, 1)]) := by kernel_rfl
@[simp] theorem Tryz.el60 : elOf Tryz.prog 60 = some 90 := by kernel_rfl
@[simp] theorem Tryz.lk60 : lkOf Tryz.prog 60 = 1 := by kernel_rfl
@[simp] theorem Tryz.ix60 (H : List Blk) (x i : AV) (k : AV → Prop) (w : Wit k) : idxAddrV Tryz.prog H 60 x i k w = bindOW (szOf Tryz.prog 90) (fun sz => bindOW (intA i) (fun n => idxVW H sz x n k (wit _)) (wit _)) (wit _) := idxAddrV_sl Tryz.el60 H x i k w
@[simp] theorem Tryz.sl60 : slbOf Tryz.prog 60 = some (90, 4, [.int .i64 0, .slice none 0 0, .bool false, .slice none 0 0], 64) := by kernel_rfl
@[simp] theorem Tryz.sz70 : szOf Tryz.prog 70 = some 1 := by kernel_rfl
@[simp] theorem Tryz.ag70 : aggOf Tryz.prog 70 = some false := by kernel_rfl
@[simp] theorem Tryz.sz71 : szOf Tryz.prog 71 = some 1 := by kernel_rfl
@[simp] theorem Tryz.ag71 : aggOf Tryz.prog 71 = some false := by kernel_rfl
@[simp] theorem Tryz.el71 : elOf Tryz.prog 71 = some 73 := by kernel_rfl
@[simp] theorem Tryz.lk71 : lkOf Tryz.prog 71 = 1 := by kernel_rfl
@[simp] theorem Tryz.ix71 (H : List Blk) (x i : AV) (k : AV → Prop) (w : Wit k) : idxAddrV Tryz.prog H 71 x i k w = bindOW (szOf Tryz.prog 73) (fun sz => bindOW (intA i) (fun n => idxVW H sz x n k (wit _)) (wit _)) (wit _) := idxAddrV_sl Tryz.el71 H x i k w
@[simp] theorem Tryz.sl71 : slbOf Tryz.prog 71 = some (73, 4, [.int .i64 0, .int .u64 0, .string ByteArray.empty, .slice none 0 0], 56) := by kernel_rfl
@[simp] theorem Tryz.sz73 : szOf Tryz.prog 73 = some 4 := by kernel_rfl
@[simp] theorem Tryz.ag73 : aggOf Tryz.prog 73 = some true := by kernel_rfl
@[simp] theorem Tryz.ze73 : zeroOf Tryz.prog 73 = some (.agg #[.int .i64 0, .int .u64 0, .string ByteArray.empty, .slice none 0 0]) := by kernel_rfl
@[simp] theorem Tryz.fl73_0 : fldOf Tryz.prog 73 0 = some (0, 1, false) := by kernel_rfl
@[simp] theorem Tryz.fl73_1 : fldOf Tryz.prog 73 1 = some (1, 1, false) := by kernel_rfl
@[simp] theorem Tryz.fl73_2 : fldOf Tryz.prog 73 2 = some (2, 1, false) := by kernel_rfl
@[simp] theorem Tryz.fl73_3 : fldOf Tryz.prog 73 3 = some (3, 1, false) := by kernel_rfl
@[simp] theorem Tryz.bl73 : bldOf Tryz.prog 73 = some ([.int .i64 0, .int .u64 0, .string ByteArray.empty, .slice none 0 0], [(0, 1), (1, 1), (2, 1), (3, 1)]) := by kernel_rfl
@[simp] theorem Tryz.sz80 : szOf Tryz.prog 80 = some 1 := by kernel_rfl
@[simp] theorem Tryz.ag80 : aggOf Tryz.prog 80 = some false := by kernel_rfl
@[simp] theorem Tryz.sz82 : szOf Tryz.prog 82 = some 16 := by kernel_rfl
@[simp] theorem Tryz.ag82 : aggOf Tryz.prog 82 = some true := by kernel_rfl
@[simp] theorem Tryz.ze82 : zeroOf Tryz.prog 82 = some (.agg #[.int .i64 0, .string ByteArray.empty, .slice none 0 0, .int .i64 0, .int .u64 0, .string ByteArray.empty, .slice none 0 0, .int .i64 0, .int .u64 0, .string ByteArray.empty, .slice none 0 0, .slice none 0 0, .int .u64 0, .int .u64 0, .slice none 0 0, .slice none 0 0]) := by kernel_rfl
@[simp] theorem Tryz.fl82_0 : fldOf Tryz.prog 82 0 = some (0, 1, false) := by kernel_rfl
@[simp] theorem Tryz.fl82_1 : fldOf Tryz.prog 82 1 = some (1, 1, false) := by kernel_rfl
@[simp] theorem Tryz.fl82_2 : fldOf Tryz.prog 82 2 = some (2, 1, false) := by kernel_rfl
@[simp] theorem Tryz.fl82_3 : fldOf Tryz.prog 82 3 = some (3, 4, true) := by kernel_rfl
@[simp] theorem Tryz.fl82_4 : fldOf Tryz.prog 82 4 = some (7, 4, true) := by kernel_rfl
@[simp] theorem Tryz.fl82_5 : fldOf Tryz.prog 82 5 = some (11, 1, false) := by kernel_rfl
@[simp] theorem Tryz.fl82_6 : fldOf Tryz.prog 82 6 = some (12, 1, false) := by kernel_rfl
@[simp] theorem Tryz.fl82_7 : fldOf Tryz.prog 82 7 = some (13, 1, false) := by kernel_rfl
@[simp] theorem Tryz.fl82_8 : fldOf Tryz.prog 82 8 = some (14, 1, false) := by kernel_rfl
@[simp] theorem Tryz.fl82_9 : fldOf Tryz.prog 82 9 = some (15, 1, false) := by kernel_rfl
@[simp] theorem Tryz.bl82 : bldOf Tryz.prog 82 = some ([.int .i64 0, .string ByteArray.empty, .slice none 0 0, .int .i64 0, .int .u64 0, .string ByteArray.empty, .slice none 0 0, .int .i64 0, .int .u64 0, .string ByteArray.empty, .slice none 0 0, .slice none 0 0, .int .u64 0, .int .u64 0, .slice none 0 0, .slice none 0 0], [(0, 1), (1, 1), (2, 1), (3, 4), (7, 4), (11, 1), (12, 1), (13, 1), (14, 1), (15, 1)]) := by kernel_rfl
@[simp] theorem Tryz.sz87 : szOf Tryz.prog 87 = some 1 := by kernel_rfl
@[simp] theorem Tryz.ag87 : aggOf Tryz.prog 87 = some false := by kernel_rfl
@[simp] theorem Tryz.sz90 : szOf Tryz.prog 90 = some 4 := by kernel_rfl
@[simp] theorem Tryz.ag90 : aggOf Tryz.prog 90 = some true := by kernel_rfl
@[simp] theorem Tryz.ze90 : zeroOf Tryz.prog 90 = some (.agg #[.int .i64 0, .slice none 0 0, .bool false, .slice none 0 0]) := by kernel_rfl
@[simp] theorem Tryz.fl90_0 : fldOf Tryz.prog 90 0 = some (0, 1, false) := by kernel_rfl
@[simp] theorem Tryz.fl90_2 : fldOf Tryz.prog 90 2 = some (2, 1, false) := by kernel_rfl
@[simp] theorem Tryz.bl90 : bldOf Tryz.prog 90 = some ([.int .i64 0, .slice none 0 0, .bool false, .slice none 0 0], [(0, 1), (1, 1), (2, 1), (3, 1)]) := by kernel_rfl
@[simp] theorem Tryz.sz93 : szOf Tryz.prog 93 = some 4 := by kernel_rfl
@[simp] theorem Tryz.ag93 : aggOf Tryz.prog 93 = some true := by kernel_rfl
@[simp] theorem Tryz.ze93 : zeroOf Tryz.prog 93 = some (.agg #[.bool false, .bool false, .bool false, .bool false]) := by kernel_rfl
@[simp] theorem Tryz.fl93_0 : fldOf Tryz.prog 93 0 = some (0, 1, false) := by kernel_rfl
@[simp] theorem Tryz.fl93_1 : fldOf Tryz.prog 93 1 = some (1, 1, false) := by kernel_rfl
@[simp] theorem Tryz.fl93_2 : fldOf Tryz.prog 93 2 = some (2, 1, false) := by kernel_rfl
@[simp] theorem Tryz.fl93_3 : fldOf Tryz.prog 93 3 = some (3, 1, false) := by kernel_rfl
@[simp] theorem Tryz.sz96 : szOf Tryz.prog 96 = some 4 := by kernel_rfl
@[simp] theorem Tryz.ag96 : aggOf Tryz.prog 96 = some true := by kernel_rfl
@[simp] theorem Tryz.ze96 : zeroOf Tryz.prog 96 = some (.agg #[.string ByteArray.empty, .int .i64 0, .int .i64 0, .bool false]) := by kernel_rfl
@[simp] theorem Tryz.nq96 (x0 y0 : ByteArray) (x1 y1 : Int) (x2 y2 : Int) (x3 y3 : Bool) : binE Tryz.prog .neq 96 (.agg [.v (.string x0), .v (.int .i64 x1), .v (.int .i64 x2), .v (.bool x3)]) (.agg [.v (.string y0), .v (.int .i64 y1), .v (.int .i64 y2), .v (.bool y3)]) = some (.v (.bool (!((x0.toList == y0.toList) && ((x1 == y1) && ((x2 == y2) && ((x3 == y3) && true))))))) := by kernel_rfl
@[simp] theorem Tryz.fl96_0 : fldOf Tryz.prog 96 0 = some (0, 1, false) := by kernel_rfl
@[simp] theorem Tryz.fl96_1 : fldOf Tryz.prog 96 1 = some (1, 1, false) := by kernel_rfl
@[simp] theorem Tryz.fl96_2 : fldOf Tryz.prog 96 2 = some (2, 1, false) := by kernel_rfl
@[simp] theorem Tryz.sz107 : szOf Tryz.prog 107 = some 1 := by kernel_rfl
@[simp] theorem Tryz.ag107 : aggOf Tryz.prog 107 = some false := by kernel_rfl
@[simp] theorem Tryz.ze107 : zeroOf Tryz.prog 107 = some (.map none) := by kernel_rfl
@[simp] theorem Tryz.mp107 : mapOf Tryz.prog 107 = some (.string, .agg #[.bool false]) := by kernel_rfl
@[simp] theorem Tryz.mt107 : isMapT Tryz.prog 107 = true := by kernel_rfl
@[simp] theorem Tryz.sz108 : szOf Tryz.prog 108 = some 1 := by kernel_rfl
@[simp] theorem Tryz.ag108 : aggOf Tryz.prog 108 = some false := by kernel_rfl
@[simp] theorem Tryz.ze108 : zeroOf Tryz.prog 108 = some (.nilFunc) := by kernel_rfl
@[simp] theorem Tryz.bl109 : bldOf Tryz.prog 109 = some ([.bool false], [(0, 1)]) := by kernel_rfl
@[simp] theorem Tryz.sz118 : szOf Tryz.prog 118 = some 1 := by kernel_rfl
@[simp] theorem Tryz.ag118 : aggOf Tryz.prog 118 = some false := by kernel_rfl
@[simp] theorem Tryz.sz120 : szOf Tryz.prog 120 = some 4 := by kernel_rfl
@[simp] theorem Tryz.ag120 : aggOf Tryz.prog 120 = some true := by kernel_rfl
@[simp] theorem Tryz.ze120 : zeroOf Tryz.prog 120 = some (.agg #[.string ByteArray.empty, .int .i64 0, .int .i64 0, .bool false]) := by kernel_rfl
@[simp] theorem Tryz.nq120 (x0 y0 : ByteArray) (x1 y1 : Int) (x2 y2 : Int) (x3 y3 : Bool) : binE Tryz.prog .neq 120 (.agg [.v (.string x0), .v (.int .i64 x1), .v (.int .i64 x2), .v (.bool x3)]) (.agg [.v (.string y0), .v (.int .i64 y1), .v (.int .i64 y2), .v (.bool y3)]) = some (.v (.bool (!((x0.toList == y0.toList) && ((x1 == y1) && ((x2 == y2) && ((x3 == y3) && true))))))) := by kernel_rfl
@[simp] theorem Tryz.fl120_0 : fldOf Tryz.prog 120 0 = some (0, 1, false) := by kernel_rfl
@[simp] theorem Tryz.fl120_1 : fldOf Tryz.prog 120 1 = some (1, 1, false) := by kernel_rfl
@[simp] theorem Tryz.fl120_2 : fldOf Tryz.prog 120 2 = some (2, 1, false) := by kernel_rfl
@[simp] theorem Tryz.fl120_3 : fldOf Tryz.prog 120 3 = some (3, 1, false) := by kernel_rfl
@[simp] theorem Tryz.bl120 : bldOf Tryz.prog 120 = some ([.string ByteArray.empty, .int .i64 0, .int .i64 0, .bool false], [(0, 1), (1, 1), (2, 1), (3, 1)]) := by kernel_rfl
@[simp] theorem Tryz.sz129 : szOf Tryz.prog 129 = some 1 := by kernel_rfl
@[simp] theorem Tryz.ag129 : aggOf Tryz.prog 129 = some false := by kernel_rfl
@[simp] theorem Tryz.ze129 : zeroOf Tryz.prog 129 = some (.map none) := by kernel_rfl
@[simp] theorem Tryz.mp129 : mapOf Tryz.prog 129 = some (.string, .int .u64 0) := by kernel_rfl
@[simp] theorem Tryz.mp181 : mapOf Tryz.prog 181 = some (.int .i64, .nilFunc) := by kernel_rfl
@[simp] theorem Tryz.sz189 : szOf Tryz.prog 189 = some 1 := by kernel_rfl
@[simp] theorem Tryz.ag189 : aggOf Tryz.prog 189 = some false := by kernel_rfl
@[simp] theorem Tryz.mp189 : mapOf Tryz.prog 189 = some (.string, .agg #[.string ByteArray.empty, .int .i64 0, .int .i64 0, .bool false]) := by kernel_rfl
@[simp] theorem Tryz.sz190 : szOf Tryz.prog 190 = some 1 := by kernel_rfl
@[simp] theorem Tryz.ag190 : aggOf Tryz.prog 190 = some false := by kernel_rfl
@[simp] theorem Tryz.mp190 : mapOf Tryz.prog 190 = some (.string, .agg #[.bool false]) := by kernel_rfl
@[simp] theorem Tryz.fl192_0 : fldOf Tryz.prog 192 0 = some (0, 2, true) := by kernel_rfl
@[simp] theorem Tryz.fl192_1 : fldOf Tryz.prog 192 1 = some (2, 1, false) := by kernel_rfl
@[simp] theorem Tryz.fl192_2 : fldOf Tryz.prog 192 2 = some (3, 1, false) := by kernel_rfl
@[simp] theorem Tryz.fl192_3 : fldOf Tryz.prog 192 3 = some (4, 1, false) := by kernel_rfl
@[simp] theorem Tryz.fl192_4 : fldOf Tryz.prog 192 4 = some (5, 1, false) := by kernel_rfl
@[simp] theorem Tryz.fl192_5 : fldOf Tryz.prog 192 5 = some (6, 1, false) := by kernel_rfl
@[simp] theorem Tryz.bl192 : bldOf Tryz.prog 192 = some ([.slice none 0 0, .slice none 0 0, .int .i64 0, .map none, .map none, .slice none 0 0, .slice none 0 0], [(0, 2), (2, 1), (3, 1), (4, 1), (5, 1), (6, 1)]) := by kernel_rfl
@[simp] theorem Tryz.fl193_0 : fldOf Tryz.prog 193 0 = some (0, 1, false) := by kernel_rfl
@[simp] theorem Tryz.bl193 : bldOf Tryz.prog 193 = some ([.bool false], [(0, 1)]) := by kernel_rfl
@[simp] theorem Tryz.ko222 : kOf Tryz.prog 222 = some .u64 := by kernel_rfl
@[simp] theorem Tryz.sz226 : szOf Tryz.prog 226 = some 1 := by kernel_rfl
@[simp] theorem Tryz.ag226 : aggOf Tryz.prog 226 = some false := by kernel_rfl
@[simp] theorem Tryz.sz227 : szOf Tryz.prog 227 = some 1 := by kernel_rfl
@[simp] theorem Tryz.ag227 : aggOf Tryz.prog 227 = some false := by kernel_rfl
@[simp] theorem Tryz.ze227 : zeroOf Tryz.prog 227 = some (.nilFunc) := by kernel_rfl
@[simp] theorem Tryz.sz228 : szOf Tryz.prog 228 = some 1 := by kernel_rfl
@[simp] theorem Tryz.ag228 : aggOf Tryz.prog 228 = some false := by kernel_rfl
@[simp] theorem Tryz.sz233 : szOf Tryz.prog 233 = some 1 := by kernel_rfl
@[simp] theorem Tryz.ze233 : zeroOf Tryz.prog 233 = some (.agg #[.int .i64 0]) := by kernel_rfl
@[simp] theorem Tryz.ni233 : isNonIface Tryz.prog 233 = true := by kernel_rfl
@[simp] theorem Tryz.fl233_0 : fldOf Tryz.prog 233 0 = some (0, 1, false) := by kernel_rfl
@[simp] theorem Tryz.bl233 : bldOf Tryz.prog 233 = some ([.int .i64 0], [(0, 1)]) := by kernel_rfl
@[simp] theorem Tryz.fl274_0 : fldOf Tryz.prog 274 0 = some (0, 1, false) := by kernel_rfl
@[simp] theorem Tryz.bl274 : bldOf Tryz.prog 274 = some ([.int .i64 0], [(0, 1)]) := by kernel_rfl
@[simp] theorem Tryz.el277 : elOf Tryz.prog 277 = some 5 := by kernel_rfl
@[simp] theorem Tryz.lk277 : lkOf Tryz.prog 277 = 1 := by kernel_rfl
@[simp] theorem Tryz.ix277 (H : List Blk) (x i : AV) (k : AV → Prop) (w : Wit k) : idxAddrV Tryz.prog H 277 x i k w = bindOW (szOf Tryz.prog 5) (fun sz => bindOW (intA i) (fun n => idxVW H sz x n k (wit _)) (wit _)) (wit _) := idxAddrV_sl Tryz.el277 H x i k w
@[simp] theorem Tryz.ko277 : kOf Tryz.prog 277 = none := by kernel_rfl
@[simp] theorem Tryz.by277_9 : byB Tryz.prog 9 277 = true := by kernel_rfl
@[simp] theorem Tryz.bn277_9 : byS Tryz.prog 9 277 = false := by kernel_rfl
@[simp] theorem Tryz.el279 : elOf Tryz.prog 279 = some 80 := by kernel_rfl
@[simp] theorem Tryz.lk279 : lkOf Tryz.prog 279 = 1 := by kernel_rfl
@[simp] theorem Tryz.ix279 (H : List Blk) (x i : AV) (k : AV → Prop) (w : Wit k) : idxAddrV Tryz.prog H 279 x i k w = bindOW (szOf Tryz.prog 80) (fun sz => bindOW (intA i) (fun n => idxVW H sz x n k (wit _)) (wit _)) (wit _) := idxAddrV_sl Tryz.el279 H x i k w
@[simp] theorem Tryz.sl279 : slbOf Tryz.prog 279 = some (80, 1, [.int .i64 0], 8) := by kernel_rfl
@[simp] theorem Tryz.ok7 : okFn Tryz.prog 7 = true := by kernel_rfl
@[simp] theorem Tryz.ok8 : okFn Tryz.prog 8 = true := by kernel_rfl
@[simp] theorem Tryz.ok11 : okFn Tryz.prog 11 = true := by kernel_rfl
@[simp] theorem Tryz.ok13 : okFn Tryz.prog 13 = true := by kernel_rfl
@[simp] theorem Tryz.ok17 : okFn Tryz.prog 17 = true := by kernel_rfl
@[simp] theorem Tryz.ok19 : okFn Tryz.prog 19 = true := by kernel_rfl
@[simp] theorem Tryz.ok20 : okFn Tryz.prog 20 = true := by kernel_rfl
@[simp] theorem Tryz.ok24 : okFn Tryz.prog 24 = true := by kernel_rfl
@[simp] theorem Tryz.ok25 : okFn Tryz.prog 25 = true := by kernel_rfl
@[simp] theorem Tryz.ok26 : okFn Tryz.prog 26 = true := by kernel_rfl
@[simp] theorem Tryz.ok27 : okFn Tryz.prog 27 = true := by kernel_rfl
@[simp] theorem Tryz.ok28 : okFn Tryz.prog 28 = true := by kernel_rfl
@[simp] theorem Tryz.ok29 : okFn Tryz.prog 29 = true := by kernel_rfl
@[simp] theorem Tryz.ok30 : okFn Tryz.prog 30 = true := by kernel_rfl
@[simp] theorem Tryz.ok31 : okFn Tryz.prog 31 = true := by kernel_rfl
@[simp] theorem Tryz.ok32 : okFn Tryz.prog 32 = true := by kernel_rfl
@[simp] theorem Tryz.ok33 : okFn Tryz.prog 33 = true := by kernel_rfl
@[simp] theorem Tryz.ok34 : okFn Tryz.prog 34 = true := by kernel_rfl
@[simp] theorem Tryz.ok37 : okFn Tryz.prog 37 = true := by kernel_rfl
@[simp] theorem Tryz.ok38 : okFn Tryz.prog 38 = true := by kernel_rfl
@[simp] theorem Tryz.ok39 : okFn Tryz.prog 39 = true := by kernel_rfl
@[simp] theorem Tryz.ok40 : okFn Tryz.prog 40 = true := by kernel_rfl
@[simp] theorem Tryz.ok45 : okFn Tryz.prog 45 = true := by kernel_rfl
@[simp] theorem Tryz.ok46 : okFn Tryz.prog 46 = true := by kernel_rfl
@[simp] theorem Tryz.ok47 : okFn Tryz.prog 47 = true := by kernel_rfl
@[simp] theorem Tryz.ok49 : okFn Tryz.prog 49 = true := by kernel_rfl
@[simp] theorem Tryz.ok50 : okFn Tryz.prog 50 = true := by kernel_rfl
@[simp] theorem Tryz.ok53 : okFn Tryz.prog 53 = true := by kernel_rfl
@[simp] theorem Tryz.ok54 : okFn Tryz.prog 54 = true := by kernel_rfl
@[simp] theorem Tryz.ok55 : okFn Tryz.prog 55 = true := by kernel_rfl
@[simp] theorem Tryz.ok56 : okFn Tryz.prog 56 = true := by kernel_rfl
@[simp] theorem Tryz.ok58 : okFn Tryz.prog 58 = true := by kernel_rfl
@[simp] theorem Tryz.ok65 : okFn Tryz.prog 65 = true := by kernel_rfl
@[simp] theorem Tryz.ok66 : okFn Tryz.prog 66 = true := by kernel_rfl
@[simp] theorem Tryz.ok67 : okFn Tryz.prog 67 = true := by kernel_rfl
@[simp] theorem Tryz.ok68 : okFn Tryz.prog 68 = true := by kernel_rfl
@[simp] theorem Tryz.ok69 : okFn Tryz.prog 69 = true := by kernel_rfl
@[simp] theorem Tryz.ok70 : okFn Tryz.prog 70 = true := by kernel_rfl
@[simp] theorem Tryz.ok71 : okFn Tryz.prog 71 = true := by kernel_rfl
@[simp] theorem Tryz.ok72 : okFn Tryz.prog 72 = true := by kernel_rfl
@[simp] theorem Tryz.ok73 : okFn Tryz.prog 73 = true := by kernel_rfl
@[simp] theorem Tryz.ok75 : okFn Tryz.prog 75 = true := by kernel_rfl
@[simp] theorem Tryz.ok76 : okFn Tryz.prog 76 = true := by kernel_rfl
@[simp] theorem Tryz.ok77 : okFn Tryz.prog 77 = true := by kernel_rfl
@[simp] theorem Tryz.ok88 : okFn Tryz.prog 88 = true := by kernel_rfl
@[simp] theorem Tryz.ok89 : okFn Tryz.prog 89 = true := by kernel_rfl
@[simp] theorem Tryz.ok97 : okFn Tryz.prog 97 = true := by kernel_rfl
@[simp] theorem Tryz.ok98 : okFn Tryz.prog 98 = true := by kernel_rfl
@[simp] theorem Tryz.ok103 : okFn Tryz.prog 103 = true := by kernel_rfl
@[simp] theorem Tryz.ok104 : okFn Tryz.prog 104 = true := by kernel_rfl
@[simp] theorem Tryz.ok105 : okFn Tryz.prog 105 = true := by kernel_rfl
@[simp] theorem Tryz.ok106 : okFn Tryz.prog 106 = true := by kernel_rfl
@[simp] theorem Tryz.ok107 : okFn Tryz.prog 107 = true := by kernel_rfl
@[simp] theorem Tryz.ok108 : okFn Tryz.prog 108 = true := by kernel_rfl
@[simp] theorem Tryz.ok109 : okFn Tryz.prog 109 = true := by kernel_rfl
@[simp] theorem Tryz.ok110 : okFn Tryz.prog 110 = true := by kernel_rfl
@[simp] theorem Tryz.ok111 : okFn Tryz.prog 111 = true := by kernel_rfl
@[simp] theorem Tryz.ok112 : okFn Tryz.prog 112 = true := by kernel_rfl
@[simp] theorem Tryz.ok113 : okFn Tryz.prog 113 = true := by kernel_rfl
@[simp] theorem Tryz.ok114 : okFn Tryz.prog 114 = true := by kernel_rfl
@[simp] theorem Tryz.ok116 : okFn Tryz.prog 116 = true := by kernel_rfl
@[simp] theorem Tryz.ok117 : okFn Tryz.prog 117 = true := by kernel_rfl
@[simp] theorem Tryz.ok138 : okFn Tryz.prog 138 = true := by kernel_rfl
@[simp] theorem Tryz.ok162 : okFn Tryz.prog 162 = true := by kernel_rfl
@[simp] theorem Tryz.ok173 : okFn Tryz.prog 173 = true := by kernel_rfl
@[simp] theorem Tryz.ok174 : okFn Tryz.prog 174 = true := by kernel_rfl
@[simp] theorem Tryz.ok175 : okFn Tryz.prog 175 = true := by kernel_rfl
@[simp] theorem Tryz.ok176 : okFn Tryz.prog 176 = true := by kernel_rfl
@[simp] theorem Tryz.ok177 : okFn Tryz.prog 177 = true := by kernel_rfl
@[simp] theorem Tryz.ok178 : okFn Tryz.prog 178 = true := by kernel_rfl
@[simp] theorem Tryz.ok179 : okFn Tryz.prog 179 = true := by kernel_rfl
@[simp] theorem Tryz.ok180 : okFn Tryz.prog 180 = true := by kernel_rfl
@[simp] theorem Tryz.ok181 : okFn Tryz.prog 181 = true := by kernel_rfl
@[simp] theorem Tryz.ok182 : okFn Tryz.prog 182 = true := by kernel_rfl
@[simp] theorem Tryz.ok183 : okFn Tryz.prog 183 = true := by kernel_rfl
@[simp] theorem Tryz.ok184 : okFn Tryz.prog 184 = true := by kernel_rfl
@[simp] theorem Tryz.ok185 : okFn Tryz.prog 185 = true := by kernel_rfl
@[simp] theorem Tryz.ok186 : okFn Tryz.prog 186 = true := by kernel_rfl
@[simp] theorem Tryz.ok193 : okFn Tryz.prog 193 = true := by kernel_rfl
@[simp] theorem Tryz.ok225 : okFn Tryz.prog 225 = true := by kernel_rfl
@[simp] theorem Tryz.ok226 : okFn Tryz.prog 226 = true := by kernel_rfl
@[simp] theorem Tryz.ok227 : okFn Tryz.prog 227 = true := by kernel_rfl
@[simp] theorem Tryz.ok228 : okFn Tryz.prog 228 = true := by kernel_rfl
@[simp] theorem Tryz.ok229 : okFn Tryz.prog 229 = true := by kernel_rfl
@[simp] theorem Tryz.ok230 : okFn Tryz.prog 230 = true := by kernel_rfl
@[simp] theorem Tryz.ok231 : okFn Tryz.prog 231 = true := by kernel_rfl
@[simp] theorem Tryz.ok232 : okFn Tryz.prog 232 = true := by kernel_rfl
@[simp] theorem Tryz.ok233 : okFn Tryz.prog 233 = true := by kernel_rfl
@[simp] theorem Tryz.ok234 : okFn Tryz.prog 234 = true := by kernel_rfl
@[simp] theorem Tryz.ok235 : okFn Tryz.prog 235 = true := by kernel_rfl
@[simp] theorem Tryz.ok249 : okFn Tryz.prog 249 = true := by kernel_rfl
@[simp] theorem Tryz.ok250 : okFn Tryz.prog 250 = true := by kernel_rfl
@[simp] theorem Tryz.ok251 : okFn Tryz.prog 251 = true := by kernel_rfl
end Go.Proofs
