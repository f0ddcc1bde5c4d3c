/- The program's types and functions, as the rules want them (written by a program of our own). -/
import Derived.Test.YtihlekehnihnpaaFwMtoFwL
import Derived.Test.YtihlekehnihnpaaProg
import Derived.KernelRfl
set_option linter.unusedVariables false
set_option linter.unusedSimpArgs false
namespace Go.Proofs
open Go.Mu
@[simp] theorem Try.sz1 : szOf Try.prog 1 = some 1 := by kernel_rfl
@[simp] theorem Try.ag1 : aggOf Try.prog 1 = some false := by kernel_rfl
@[simp] theorem Try.ze1 : zeroOf Try.prog 1 = some (.nilFunc) := by kernel_rfl
@[simp] theorem Try.ud1 : undB Try.prog 1 = true := by kernel_rfl
@[simp] theorem Try.ni1 : isNonIface Try.prog 1 = true := by kernel_rfl
@[simp] theorem Try.sz3 : szOf Try.prog 3 = some 1 := by kernel_rfl
@[simp] theorem Try.ag3 : aggOf Try.prog 3 = some false := by kernel_rfl
@[simp] theorem Try.ze3 : zeroOf Try.prog 3 = some (.int .i64 0) := by kernel_rfl
@[simp] theorem Try.ud3 : undB Try.prog 3 = true := by kernel_rfl
@[simp] theorem Try.ni3 : isNonIface Try.prog 3 = true := by kernel_rfl
@[simp] theorem Try.ko3 : kOf Try.prog 3 = some .i64 := by kernel_rfl
@[simp] theorem Try.sz4 : szOf Try.prog 4 = some 1 := by kernel_rfl
@[simp] theorem Try.ag4 : aggOf Try.prog 4 = some false := by kernel_rfl
@[simp] theorem Try.ze4 : zeroOf Try.prog 4 = some (.bool false) := by kernel_rfl
@[simp] theorem Try.ud4 : undB Try.prog 4 = true := by kernel_rfl
@[simp] theorem Try.ni4 : isNonIface Try.prog 4 = true := by kernel_rfl
@[simp] theorem Try.sz5 : szOf Try.prog 5 = some 1 := by kernel_rfl
@[simp] theorem Try.ag5 : aggOf Try.prog 5 = some false := by kernel_rfl
@[simp] theorem Try.ze5 : zeroOf Try.prog 5 = some (.int .u8 0) := by kernel_rfl
@[simp] theorem Try.ud5 : undB Try.prog 5 = true := by kernel_rfl
@[simp] theorem Try.ni5 : isNonIface Try.prog 5 = true := by kernel_rfl
@[simp] theorem Try.ko5 : kOf Try.prog 5 = some .u8 := by kernel_rfl
@[simp] theorem Try.sz9 : szOf Try.prog 9 = some 1 := by kernel_rfl
@[simp] theorem Try.ag9 : aggOf Try.prog 9 = some false := by kernel_rfl
@[simp] theorem Try.ze9 : zeroOf Try.prog 9 = some (.string ByteArray.empty) := by kernel_rfl
@[simp] theorem Try.ud9 : undB Try.prog 9 = true := by kernel_rfl
@[simp] theorem Try.ni9 : isNonIface Try.prog 9 = true := by kernel_rfl
@[simp] theorem Try.lk9 : lkOf Try.prog 9 = 2 := by kernel_rfl
@[simp] theorem Try.iv9 (x i : AV) (k : AV → Prop) (w : Wit k) : idxValV Try.prog 9 x i k w = bindOW (strA x) (fun s => bindOW (intA i) (fun n => andVW (0 ≤ n) (bindOW (s.data.toList[n.toNat]?) (fun b => k (.v (.int .u8 b.toNat))) (wit _)) (wit _)) (wit _)) (wit _) := idxValV_str Try.lk9 x i k w
@[simp] theorem Try.sz20 : szOf Try.prog 20 = some 1 := by kernel_rfl
@[simp] theorem Try.ag20 : aggOf Try.prog 20 = some false := by kernel_rfl
@[simp] theorem Try.ze20 : zeroOf Try.prog 20 = some (.nilIface) := by kernel_rfl
@[simp] theorem Try.ud20 : undB Try.prog 20 = true := by kernel_rfl
@[simp] theorem Try.ni20 : isNonIface Try.prog 20 = false := by kernel_rfl
@[simp] theorem Try.sz22 : szOf Try.prog 22 = some 1 := by kernel_rfl
@[simp] theorem Try.ag22 : aggOf Try.prog 22 = some false := by kernel_rfl
@[simp] theorem Try.ze22 : zeroOf Try.prog 22 = some (.slice none 0 0) := by kernel_rfl
@[simp] theorem Try.ud22 : undB Try.prog 22 = true := by kernel_rfl
@[simp] theorem Try.ni22 : isNonIface Try.prog 22 = true := by kernel_rfl
@[simp] theorem Try.el22 : elOf Try.prog 22 = some 83 := by kernel_rfl
@[simp] theorem Try.lk22 : lkOf Try.prog 22 = 1 := by kernel_rfl
@[simp] theorem Try.ix22 (H : List Blk) (x i : AV) (k : AV → Prop) (w : Wit k) : idxAddrV Try.prog H 22 x i k w = bindOW (szOf Try.prog 83) (fun sz => bindOW (intA i) (fun n => idxVW H sz x n k (wit _)) (wit _)) (wit _) := idxAddrV_sl Try.el22 H x i k w
@[simp] theorem Try.sl22 : slbOf Try.prog 22 = some (83, 4, [.string ByteArray.empty, .int .i64 0, .int .i64 0, .bool false], 40) := by kernel_rfl
@[simp] theorem Try.sz23 : szOf Try.prog 23 = some 1 := by kernel_rfl
@[simp] theorem Try.ag23 : aggOf Try.prog 23 = some false := by kernel_rfl
@[simp] theorem Try.ze23 : zeroOf Try.prog 23 = some (.slice none 0 0) := by kernel_rfl
@[simp] theorem Try.ud23 : undB Try.prog 23 = true := by kernel_rfl
@[simp] theorem Try.ni23 : isNonIface Try.prog 23 = true := by kernel_rfl
@[simp] theorem Try.el23 : elOf Try.prog 23 = some 38 := by kernel_rfl
@[simp] theorem Try.lk23 : lkOf Try.prog 23 = 1 := by kernel_rfl
@[simp] theorem Try.ix23 (H : List Blk) (x i : AV) (k : AV → Prop) (w : Wit k) : idxAddrV Try.prog H 23 x i k w = bindOW (szOf Try.prog 38) (fun sz => bindOW (intA i) (fun n => idxVW H sz x n k (wit _)) (wit _)) (wit _) := idxAddrV_sl Try.el23 H x i k w
@[simp] theorem Try.sl23 : slbOf Try.prog 23 = some (38, 5, [.string ByteArray.empty, .slice none 0 0, .slice none 0 0, .slice none 0 0, .slice none 0 0], 112) := by kernel_rfl
@[simp] theorem Try.sz24 : szOf Try.prog 24 = some 2 := by kernel_rfl
@[simp] theorem Try.ag24 : aggOf Try.prog 24 = some true := by kernel_rfl
@[simp] theorem Try.ze24 : zeroOf Try.prog 24 = some (.agg #[.slice none 0 0, .slice none 0 0]) := by kernel_rfl
@[simp] theorem Try.ud24 : undB Try.prog 24 = true := by kernel_rfl
@[simp] theorem Try.ni24 : isNonIface Try.prog 24 = true := by kernel_rfl
@[simp] theorem Try.fl24_0 : fldOf Try.prog 24 0 = some (0, 1, false) := by kernel_rfl
@[simp] theorem Try.fl24_1 : fldOf Try.prog 24 1 = some (1, 1, false) := by kernel_rfl
@[simp] theorem Try.bl24 : bldOf Try.prog 24 = some ([.slice none 0 0, .slice none 0 0], [(0, 1), (1, 1)]) := by kernel_rfl
@[simp] theorem Try.sz25 : szOf Try.prog 25 = some 2 := by kernel_rfl
@[simp] theorem Try.ag25 : aggOf Try.prog 25 = some true := by kernel_rfl
@[simp] theorem Try.ze25 : zeroOf Try.prog 25 = some (.agg #[.slice none 0 0, .slice none 0 0]) := by kernel_rfl
@[simp] theorem Try.ud25 : undB Try.prog 25 = true := by kernel_rfl
@[simp] theorem Try.ni25 : isNonIface Try.prog 25 = true := by kernel_rfl
@[simp] theorem Try.fl25_0 : fldOf Try.prog 25 0 = some (0, 1, false) := by kernel_rfl
@[simp] theorem Try.fl25_1 : fldOf Try.prog 25 1 = some (1, 1, false) := by kernel_rfl
@[simp] theorem Try.bl25 : bldOf Try.prog 25 = some ([.slice none 0 0, .slice none 0 0], [(0, 1), (1, 1)]) := by kernel_rfl
@[simp] theorem Try.sz28 : szOf Try.prog 28 = some 1 := by kernel_rfl
@[simp] theorem Try.ag28 : aggOf Try.prog 28 = some false := by kernel_rfl
@[simp] theorem Try.ze28 : zeroOf Try.prog 28 = some (.int .i64 0) := by kernel_rfl
@[simp] theorem Try.ud28 : undB Try.prog 28 = true := by kernel_rfl
@[simp] theorem Try.ni28 : isNonIface Try.prog 28 = true := by kernel_rfl
@[simp] theorem Try.ko28 : kOf Try.prog 28 = some .i64 := by kernel_rfl
@[simp] theorem Try.sz34 : szOf Try.prog 34 = some 1 := by kernel_rfl
@[simp] theorem Try.ag34 : aggOf Try.prog 34 = some false := by kernel_rfl
@[simp] theorem Try.ze34 : zeroOf Try.prog 34 = some (.slice none 0 0) := by kernel_rfl
@[simp] theorem Try.ud34 : undB Try.prog 34 = true := by kernel_rfl
@[simp] theorem Try.ni34 : isNonIface Try.prog 34 = true := by kernel_rfl
@[simp] theorem Try.el34 : elOf Try.prog 34 = some 87 := by kernel_rfl
@[simp] theorem Try.lk34 : lkOf Try.prog 34 = 1 := by kernel_rfl
@[simp] theorem Try.ix34 (H : List Blk) (x i : AV) (k : AV → Prop) (w : Wit k) : idxAddrV Try.prog H 34 x i k w = bindOW (szOf Try.prog 87) (fun sz => bindOW (intA i) (fun n => idxVW H sz x n k (wit _)) (wit _)) (wit _) := idxAddrV_sl Try.el34 H x i k w
@[simp] theorem Try.sl34 : slbOf Try.prog 34 = some (87, 4, [.string ByteArray.empty, .int .i64 0, .int .i64 0, .bool false], 40) := by kernel_rfl
@[simp] theorem Try.sz35 : szOf Try.prog 35 = some 1 := by kernel_rfl
@[simp] theorem Try.ag35 : aggOf Try.prog 35 = some false := by kernel_rfl
@[simp] theorem Try.ze35 : zeroOf Try.prog 35 = some (.slice none 0 0) := by kernel_rfl
@[simp] theorem Try.ud35 : undB Try.prog 35 = true := by kernel_rfl
@[simp] theorem Try.ni35 : isNonIface Try.prog 35 = true := by kernel_rfl
@[simp] theorem Try.el35 : elOf Try.prog 35 = some 9 := by kernel_rfl
@[simp] theorem Try.lk35 : lkOf Try.prog 35 = 1 := by kernel_rfl
@[simp] theorem Try.ix35 (H : List Blk) (x i : AV) (k : AV → Prop) (w : Wit k) : idxAddrV Try.prog H 35 x i k w = bindOW (szOf Try.prog 9) (fun sz => bindOW (intA i) (fun n => idxVW H sz x n k (wit _)) (wit _)) (wit _) := idxAddrV_sl Try.el35 H x i k w
@[simp] theorem Try.sl35 : slbOf Try.prog 35 = some (9, 1, [.string ByteArray.empty], 16) := by kernel_rfl
@[simp] theorem Try.sz36 : szOf Try.prog 36 = some 1 := by kernel_rfl
@[simp] theorem Try.ag36 : aggOf Try.prog 36 = some false := by kernel_rfl
@[simp] theorem Try.ze36 : zeroOf Try.prog 36 = some (.slice none 0 0) := by kernel_rfl
@[simp] theorem Try.ud36 : undB Try.prog 36 = true := by kernel_rfl
@[simp] theorem Try.ni36 : isNonIface Try.prog 36 = true := by kernel_rfl
@[simp] theorem Try.el36 : elOf Try.prog 36 = some 71 := by kernel_rfl
@[simp] theorem Try.lk36 : lkOf Try.prog 36 = 1 := by kernel_rfl
@[simp] theorem Try.ix36 (H : List Blk) (x i : AV) (k : AV → Prop) (w : Wit k) : idxAddrV Try.prog H 36 x i k w = bindOW (szOf Try.prog 71) (fun sz => bindOW (intA i) (fun n => idxVW H sz x n k (wit _)) (wit _)) (wit _) := idxAddrV_sl Try.el36 H x i k w
@[simp] theorem Try.sl36 : slbOf Try.prog 36 = some (71, 16, [.int .i64 0, .string ByteArray.empty, .slice none 0 0, .int .i64 0, .int .u64 0, .string ByteArray.empty, .slice none 0 0, .int .i64 0, .int .u64 0, .string ByteArray.empty, .slice none 0 0, .slice none 0 0, .int .u64 0, .int .u64 0, .slice none 0 0, .slice none 0 0], 248) := by kernel_rfl
@[simp] theorem Try.sz37 : szOf Try.prog 37 = some 5 := by kernel_rfl
@[simp] theorem Try.ag37 : aggOf Try.prog 37 = some true := by kernel_rfl
@[simp] theorem Try.ze37 : zeroOf Try.prog 37 = some (.agg #[.string ByteArray.empty, .slice none 0 0, .slice none 0 0, .slice none 0 0, .slice none 0 0]) := by kernel_rfl
@[simp] theorem Try.ud37 : undB Try.prog 37 = true := by kernel_rfl
@[simp] theorem Try.ni37 : isNonIface Try.prog 37 = true := by kernel_rfl
@[simp] theorem Try.fl37_0 : fldOf Try.prog 37 0 = some (0, 1, false) := by kernel_rfl
@[simp] theorem Try.fl37_1 : fldOf Try.prog 37 1 = some (1, 1, false) := by kernel_rfl
@[simp] theorem Try.fl37_2 : fldOf Try.prog 37 2 = some (2, 1, false) := by kernel_rfl
@[simp] theorem Try.fl37_3 : fldOf Try.prog 37 3 = some (3, 1, false) := by kernel_rfl
@[simp] theorem Try.fl37_4 : fldOf Try.prog 37 4 = some (4, 1, false) := by kernel_rfl
@[simp] theorem Try.bl37 : bldOf Try.prog 37 = some ([.string ByteArray.empty, .slice none 0 0, .slice none 0 0, .slice none 0 0, .slice none 0 0], [(0, 1), (1, 1), (2, 1), (3, 1), (4, 1)]) := by kernel_rfl
@[simp] theorem Try.sz38 : szOf Try.prog 38 = some 5 := by kernel_rfl
@[simp] theorem Try.ag38 : aggOf Try.prog 38 = some true := by kernel_rfl
@[simp] theorem Try.ze38 : zeroOf Try.prog 38 = some (.agg #[.string ByteArray.empty, .slice none 0 0, .slice none 0 0, .slice none 0 0, .slice none 0 0]) := by kernel_rfl
@[simp] theorem Try.ud38 : undB Try.prog 38 = true := by kernel_rfl
@[simp] theorem Try.ni38 : isNonIface Try.prog 38 = true := by kernel_rfl
@[simp] theorem Try.fl38_0 : fldOf Try.prog 38 0 = some (0, 1, false) := by kernel_rfl
@[simp] theorem Try.fl38_1 : fldOf Try.prog 38 1 = some (1, 1, false) := by kernel_rfl
@[simp] theorem Try.fl38_2 : fldOf Try.prog 38 2 = some (2, 1, false) := by kernel_rfl
@[simp] theorem Try.fl38_3 : fldOf Try.prog 38 3 = some (3, 1, false) := by kernel_rfl
@[simp] theorem Try.fl38_4 : fldOf Try.prog 38 4 = some (4, 1, false) := by kernel_rfl
@[simp] theorem Try.bl38 : bldOf Try.prog 38 = some ([.string ByteArray.empty, .slice none 0 0, .slice none 0 0, .slice none 0 0, .slice none 0 0], [(0, 1), (1, 1), (2, 1), (3, 1), (4, 1)]) := by kernel_rfl
@[simp] theorem Try.sz40 : szOf Try.prog 40 = some 1 := by kernel_rfl
@[simp] theorem Try.ag40 : aggOf Try.prog 40 = some false := by kernel_rfl
@[simp] theorem Try.ze40 : zeroOf Try.prog 40 = some (.int .u64 0) := by kernel_rfl
@[simp] theorem Try.ud40 : undB Try.prog 40 = true := by kernel_rfl
@[simp] theorem Try.ni40 : isNonIface Try.prog 40 = true := by kernel_rfl
@[simp] theorem Try.ko40 : kOf Try.prog 40 = some .u64 := by kernel_rfl
@[simp] theorem Try.sz45 : szOf Try.prog 45 = some 4 := by kernel_rfl
@[simp] theorem Try.ag45 : aggOf Try.prog 45 = some true := by kernel_rfl
@[simp] theorem Try.ze45 : zeroOf Try.prog 45 = some (.agg #[.bool false, .bool false, .bool false, .bool false]) := by kernel_rfl
@[simp] theorem Try.ud45 : undB Try.prog 45 = true := by kernel_rfl
@[simp] theorem Try.ni45 : isNonIface Try.prog 45 = true := by kernel_rfl
@[simp] theorem Try.eq45 (x0 y0 : Bool) (x1 y1 : Bool) (x2 y2 : Bool) (x3 y3 : Bool) : binE Try.prog .eql 45 (.agg [.v (.bool x0), .v (.bool x1), .v (.bool x2), .v (.bool x3)]) (.agg [.v (.bool y0), .v (.bool y1), .v (.bool y2), .v (.bool y3)]) = some (.v (.bool ((x0 == y0) && ((x1 == y1) && ((x2 == y2) && ((x3 == y3) && true)))))) := by kernel_rfl
@[simp] theorem Try.nq45 (x0 y0 : Bool) (x1 y1 : Bool) (x2 y2 : Bool) (x3 y3 : Bool) : binE Try.prog .neq 45 (.agg [.v (.bool x0), .v (.bool x1), .v (.bool x2), .v (.bool x3)]) (.agg [.v (.bool y0), .v (.bool y1), .v (.bool y2), .v (.bool y3)]) = some (.v (.bool (!((x0 == y0) && ((x1 == y1) && ((x2 == y2) && ((x3 == y3) && true))))))) := by kernel_rfl
@[simp] theorem Try.fl45_0 : fldOf Try.prog 45 0 = some (0, 1, false) := by kernel_rfl
@[simp] theorem Try.fl45_1 : fldOf Try.prog 45 1 = some (1, 1, false) := by kernel_rfl
@[simp] theorem Try.fl45_2 : fldOf Try.prog 45 2 = some (2, 1, false) := by kernel_rfl
@[simp] theorem Try.fl45_3 : fldOf Try.prog 45 3 = some (3, 1, false) := by kernel_rfl
@[simp] theorem Try.bl45 : bldOf Try.prog 45 = some ([.bool false, .bool false, .bool false, .bool false], [(0, 1), (1, 1), (2, 1), (3, 1)]) := by kernel_rfl
@[simp] theorem Try.sz46 : szOf Try.prog 46 = some 4 := by kernel_rfl
@[simp] theorem Try.ag46 : aggOf Try.prog 46 = some true := by kernel_rfl
@[simp] theorem Try.ze46 : zeroOf Try.prog 46 = some (.agg #[.bool false, .bool false, .bool false, .bool false]) := by kernel_rfl
@[simp] theorem Try.ud46 : undB Try.prog 46 = true := by kernel_rfl
@[simp] theorem Try.ni46 : isNonIface Try.prog 46 = true := by kernel_rfl
@[simp] theorem Try.eq46 (x0 y0 : Bool) (x1 y1 : Bool) (x2 y2 : Bool) (x3 y3 : Bool) : binE Try.prog .eql 46 (.agg [.v (.bool x0), .v (.bool x1), .v (.bool x2), .v (.bool x3)]) (.agg [.v (.bool y0), .v (.bool y1), .v (.bool y2), .v (.bool y3)]) = some (.v (.bool ((x0 == y0) && ((x1 == y1) && ((x2 == y2) && ((x3 == y3) && true)))))) := by kernel_rfl
@[simp] theorem Try.nq46 (x0 y0 : Bool) (x1 y1 : Bool) (x2 y2 : Bool) (x3 y3 : Bool) : binE Try.prog .neq 46 (.agg [.v (.bool x0), .v (.bool x1), .v (.bool x2), .v (.bool x3)]) (.agg [.v (.bool y0), .v (.bool y1), .v (.bool y2), .v (.bool y3)]) = some (.v (.bool (!((x0 == y0) && ((x1 == y1) && ((x2 == y2) && ((x3 == y3) && true))))))) := by kernel_rfl
@[simp] theorem Try.fl46_0 : fldOf Try.prog 46 0 = some (0, 1, false) := by kernel_rfl
@[simp] theorem Try.fl46_1 : fldOf Try.prog 46 1 = some (1, 1, false) := by kernel_rfl
@[simp] theorem Try.fl46_2 : fldOf Try.prog 46 2 = some (2, 1, false) := by kernel_rfl
@[simp] theorem Try.fl46_3 : fldOf Try.prog 46 3 = some (3, 1, false) := by kernel_rfl
@[simp] theorem Try.bl46 : bldOf Try.prog 46 = some ([.bool false, .bool false, .bool false, .bool false], [(0, 1), (1, 1), (2, 1), (3, 1)]) := by kernel_rfl
@[simp] theorem Try.sz49 : szOf Try.prog 49 = some 1 := by kernel_rfl
@[simp] theorem Try.ag49 : aggOf Try.prog 49 = some false := by kernel_rfl
@[simp] theorem Try.ze49 : zeroOf Try.prog 49 = some (.slice none 0 0) := by kernel_rfl
@[simp] theorem Try.ud49 : undB Try.prog 49 = true := by kernel_rfl
@[simp] theorem Try.ni49 : isNonIface Try.prog 49 = true := by kernel_rfl
@[simp] theorem Try.el49 : elOf Try.prog 49 = some 80 := by kernel_rfl
@[simp] theorem Try.lk49 : lkOf Try.prog 49 = 1 := by kernel_rfl
@[simp] theorem Try.ix49 (H : List Blk) (x i : AV) (k : AV → Prop) (w : Wit k) : idxAddrV Try.prog H 49 x i k w = bindOW (szOf Try.prog 80) (fun sz => bindOW (intA i) (fun n => idxVW H sz x n k (wit _)) (wit _)) (wit _) := idxAddrV_sl Try.el49 H x i k w
@[simp] theorem Try.sl49 : slbOf Try.prog 49 = some (80, 4, [.int .i64 0, .slice none 0 0, .bool false, .slice none 0 0], 64) := by kernel_rfl
@[simp] theorem Try.sz53 : szOf Try.prog 53 = some 1 := by kernel_rfl
@[simp] theorem Try.ag53 : aggOf Try.prog 53 = some false := by kernel_rfl
@[simp] theorem Try.ze53 : zeroOf Try.prog 53 = some (.slice none 0 0) := by kernel_rfl
@[simp] theorem Try.ud53 : undB Try.prog 53 = true := by kernel_rfl
@[simp] theorem Try.ni53 : isNonIface Try.prog 53 = true := by kernel_rfl
@[simp] theorem Try.el53 : elOf Try.prog 53 = some 4 := by kernel_rfl
@[simp] theorem Try.lk53 : lkOf Try.prog 53 = 1 := by kernel_rfl
@[simp] theorem Try.ix53 (H : List Blk) (x i : AV) (k : AV → Prop) (w : Wit k) : idxAddrV Try.prog H 53 x i k w = bindOW (szOf Try.prog 4) (fun sz => bindOW (intA i) (fun n => idxVW H sz x n k (wit _)) (wit _)) (wit _) := idxAddrV_sl Try.el53 H x i k w
@[simp] theorem Try.sl53 : slbOf Try.prog 53 = some (4, 1, [.bool false], 1) := by kernel_rfl
@[simp] theorem Try.sz58 : szOf Try.prog 58 = some 1 := by kernel_rfl
@[simp] theorem Try.ag58 : aggOf Try.prog 58 = some false := by kernel_rfl
@[simp] theorem Try.ze58 : zeroOf Try.prog 58 = some (.slice none 0 0) := by kernel_rfl
@[simp] theorem Try.ud58 : undB Try.prog 58 = true := by kernel_rfl
@[simp] theorem Try.ni58 : isNonIface Try.prog 58 = true := by kernel_rfl
@[simp] theorem Try.el58 : elOf Try.prog 58 = some 40 := by kernel_rfl
@[simp] theorem Try.lk58 : lkOf Try.prog 58 = 1 := by kernel_rfl
@[simp] theorem Try.ix58 (H : List Blk) (x i : AV) (k : AV → Prop) (w : Wit k) : idxAddrV Try.prog H 58 x i k w = bindOW (szOf Try.prog 40) (fun sz => bindOW (intA i) (fun n => idxVW H sz x n k (wit _)) (wit _)) (wit _) := idxAddrV_sl Try.el58 H x i k w
@[simp] theorem Try.sl58 : slbOf Try.prog 58 = some (40, 1, [.int .u64 0], 8) := by kernel_rfl
@[simp] theorem Try.sz59 : szOf Try.prog 59 = some 1 := by kernel_rfl
@[simp] theorem Try.ag59 : aggOf Try.prog 59 = some false := by kernel_rfl
@[simp] theorem Try.ze59 : zeroOf Try.prog 59 = some (.slice none 0 0) := by kernel_rfl
@[simp] theorem Try.ud59 : undB Try.prog 59 = true := by kernel_rfl
@[simp] theorem Try.ni59 : isNonIface Try.prog 59 = true := by kernel_rfl
@[simp] theorem Try.el59 : elOf Try.prog 59 = some 58 := by kernel_rfl
@[simp] theorem Try.lk59 : lkOf Try.prog 59 = 1 := by kernel_rfl
@[simp] theorem Try.ix59 (H : List Blk) (x i : AV) (k : AV → Prop) (w : Wit k) : idxAddrV Try.prog H 59 x i k w = bindOW (szOf Try.prog 58) (fun sz => bindOW (intA i) (fun n => idxVW H sz x n k (wit _)) (wit _)) (wit _) := idxAddrV_sl Try.el59 H x i k w
@[simp] theorem Try.sl59 : slbOf Try.prog 59 = some (58, 1, [.slice none 0 0], 24) := by kernel_rfl
@[simp] theorem Try.sz60 : szOf Try.prog 60 = some 2 := by kernel_rfl
@[simp] theorem Try.ag60 : aggOf Try.prog 60 = some true := by kernel_rfl
@[simp] theorem Try.ze60 : zeroOf Try.prog 60 = some (.agg #[.slice none 0 0, .slice none 0 0]) := by kernel_rfl
@[simp] theorem Try.ud60 : undB Try.prog 60 = true := by kernel_rfl
@[simp] theorem Try.ni60 : isNonIface Try.prog 60 = true := by kernel_rfl
@[simp] theorem Try.fl60_0 : fldOf Try.prog 60 0 = some (0, 1, false) := by kernel_rfl
@[simp] theorem Try.fl60_1 : fldOf Try.prog 60 1 = some (1, 1, false) := by kernel_rfl
@[simp] theorem Try.bl60 : bldOf Try.prog 60 = some ([.slice none 0 0, .slice none 0 0], [(0, 1), (1, 1)]) := by kernel_rfl
@[simp] theorem Try.sz61 : szOf Try.prog 61 = some 2 := by kernel_rfl
@[simp] theorem Try.ag61 : aggOf Try.prog 61 = some true := by kernel_rfl
@[simp] theorem Try.ze61 : zeroOf Try.prog 61 = some (.agg #[.slice none 0 0, .slice none 0 0]) := by kernel_rfl
@[simp] theorem Try.ud61 : undB Try.prog 61 = true := by kernel_rfl
@[simp] theorem Try.ni61 : isNonIface Try.prog 61 = true := by kernel_rfl
@[simp] theorem Try.fl61_0 : fldOf Try.prog 61 0 = some (0, 1, false) := by kernel_rfl
@[simp] theorem Try.fl61_1 : fldOf Try.prog 61 1 = some (1, 1, false) := by kernel_rfl
@[simp] theorem Try.bl61 : bldOf Try.prog 61 = some ([.slice none 0 0, .slice none 0 0], [(0, 1), (1, 1)]) := by kernel_rfl
@[simp] theorem Try.sz65 : szOf Try.prog 65 = some 1 := by kernel_rfl
@[simp] theorem Try.ag65 : aggOf Try.prog 65 = some false := by kernel_rfl
@[simp] theorem Try.ze65 : zeroOf Try.prog 65 = some (.int .i64 0) := by kernel_rfl
@[simp] theorem Try.ud65 : undB Try.prog 65 = true := by kernel_rfl
@[simp] theorem Try.ni65 : isNonIface Try.prog 65 = true := by kernel_rfl
@[simp] theorem Try.ko65 : kOf Try.prog 65 = some .i64 := by kernel_rfl
@[simp] theorem Try.sz66 : szOf Try.prog 66 = some 1 := by kernel_rfl
@[simp] theorem Try.ag66 : aggOf Try.prog 66 = some false := by kernel_rfl
@[simp] theorem Try.ze66 : zeroOf Try.prog 66 = some (.int .i64 0) := by kernel_rfl
@[simp] theorem Try.ud66 : undB Try.prog 66 = true := by kernel_rfl
@[simp] theorem Try.ni66 : isNonIface Try.prog 66 = true := by kernel_rfl
@[simp] theorem Try.ko66 : kOf Try.prog 66 = some .i64 := by kernel_rfl
@[simp] theorem Try.sz67 : szOf Try.prog 67 = some 1 := by kernel_rfl
@[simp] theorem Try.ag67 : aggOf Try.prog 67 = some false := by kernel_rfl
@[simp] theorem Try.ze67 : zeroOf Try.prog 67 = some (.slice none 0 0) := by kernel_rfl
@[simp] theorem Try.ud67 : undB Try.prog 67 = true := by kernel_rfl
@[simp] theorem Try.ni67 : isNonIface Try.prog 67 = true := by kernel_rfl
@[simp] theorem Try.el67 : elOf Try.prog 67 = some 69 := by kernel_rfl
@[simp] theorem Try.lk67 : lkOf Try.prog 67 = 1 := by kernel_rfl
@[simp] theorem Try.ix67 (H : List Blk) (x i : AV) (k : AV → Prop) (w : Wit k) : idxAddrV Try.prog H 67 x i k w = bindOW (szOf Try.prog 69) (fun sz => bindOW (intA i) (fun n => idxVW H sz x n k (wit _)) (wit _)) (wit _) := idxAddrV_sl Try.el67 H x i k w
@[simp] theorem Try.sl67 : slbOf Try.prog 67 = some (69, 4, [.int .i64 0, .int .u64 0, .string ByteArray.empty, .slice none 0 0], 56) := by kernel_rfl
@[simp] theorem Try.sz68 : szOf Try.prog 68 = some 4 := by kernel_rfl
@[simp] theorem Try.ag68 : aggOf Try.prog 68 = some true := by kernel_rfl
@[simp] theorem Try.ze68 : zeroOf Try.prog 68 = some (.agg #[.int .i64 0, .int .u64 0, .string ByteArray.empty, .slice none 0 0]) := by kernel_rfl
@[simp] theorem Try.ud68 : undB Try.prog 68 = true := by kernel_rfl
@[simp] theorem Try.ni68 : isNonIface Try.prog 68 = true := by kernel_rfl
@[simp] theorem Try.fl68_0 : fldOf Try.prog 68 0 = some (0, 1, false) := by kernel_rfl
@[simp] theorem Try.fl68_1 : fldOf Try.prog 68 1 = some (1, 1, false) := by kernel_rfl
@[simp] theorem Try.fl68_2 : fldOf Try.prog 68 2 = some (2, 1, false) := by kernel_rfl
@[simp] theorem Try.fl68_3 : fldOf Try.prog 68 3 = some (3, 1, false) := by kernel_rfl
@[simp] theorem Try.bl68 : bldOf Try.prog 68 = some ([.int .i64 0, .int .u64 0, .string ByteArray.empty, .slice none 0 0], [(0, 1), (1, 1), (2, 1), (3, 1)]) := by kernel_rfl
@[simp] theorem Try.sz69 : szOf Try.prog 69 = some 4 := by kernel_rfl
@[simp] theorem Try.ag69 : aggOf Try.prog 69 = some true := by kernel_rfl
@[simp] theorem Try.ze69 : zeroOf Try.prog 69 = some (.agg #[.int .i64 0, .int .u64 0, .string ByteArray.empty, .slice none 0 0]) := by kernel_rfl
@[simp] theorem Try.ud69 : undB Try.prog 69 = true := by kernel_rfl
@[simp] theorem Try.ni69 : isNonIface Try.prog 69 = true := by kernel_rfl
@[simp] theorem Try.fl69_0 : fldOf Try.prog 69 0 = some (0, 1, false) := by kernel_rfl
@[simp] theorem Try.fl69_1 : fldOf Try.prog 69 1 = some (1, 1, false) := by kernel_rfl
@[simp] theorem Try.fl69_2 : fldOf Try.prog 69 2 = some (2, 1, false) := by kernel_rfl
@[simp] theorem Try.fl69_3 : fldOf Try.prog 69 3 = some (3, 1, false) := by kernel_rfl
@[simp] theorem Try.bl69 : bldOf Try.prog 69 = some ([.int .i64 0, .int .u64 0, .string ByteArray.empty, .slice none 0 0], [(0, 1), (1, 1), (2, 1), (3, 1)]) := by kernel_rfl
@[simp] theorem Try.sz70 : szOf Try.prog 70 = some 16 := by kernel_rfl
@[simp] theorem Try.ag70 : aggOf Try.prog 70 = some true := by kernel_rfl
@[simp] theorem Try.ze70 : zeroOf Try.prog 70 = some (.agg #[.int .i64 0, .string ByteArray.empty, .slice none 0 0, .int .i64 0, .int .u64 0, .string ByteArray.empty, .slice none 0 0, .int .i64 0, .int .u64 0, .string ByteArray.empty, .slice none 0 0, .slice none 0 0, .int .u64 0, .int .u64 0, .slice none 0 0, .slice none 0 0]) := by kernel_rfl
@[simp] theorem Try.ud70 : undB Try.prog 70 = true := by kernel_rfl
@[simp] theorem Try.ni70 : isNonIface Try.prog 70 = true := by kernel_rfl
@[simp] theorem Try.fl70_0 : fldOf Try.prog 70 0 = some (0, 1, false) := by kernel_rfl
@[simp] theorem Try.fl70_1 : fldOf Try.prog 70 1 = some (1, 1, false) := by kernel_rfl
@[simp] theorem Try.fl70_2 : fldOf Try.prog 70 2 = some (2, 1, false) := by kernel_rfl
@[simp] theorem Try.fl70_3 : fldOf Try.prog 70 3 = some (3, 4, true) := by kernel_rfl
@[simp] theorem Try.fl70_4 : fldOf Try.prog 70 4 = some (7, 4, true) := by kernel_rfl
@[simp] theorem Try.fl70_5 : fldOf Try.prog 70 5 = some (11, 1, false) := by kernel_rfl
@[simp] theorem Try.fl70_6 : fldOf Try.prog 70 6 = some (12, 1, false) := by kernel_rfl
@[simp] theorem Try.fl70_7 : fldOf Try.prog 70 7 = some (13, 1, false) := by kernel_rfl
@[simp] theorem Try.fl70_8 : fldOf Try.prog 70 8 = some (14, 1, false) := by kernel_rfl
@[simp] theorem Try.fl70_9 : fldOf Try.prog 70 9 = some (15, 1, false) := by kernel_rfl
@[simp] theorem Try.bl70 : bldOf Try.prog 70 = some ([.int .i64 0, .string ByteArray.empty, .slice none 0 0, .int .i64 0, .int .u64 0, .string ByteArray.empty, .slice none 0 0, .int .i64 0, .int .u64 0, .string ByteArray.empty, .slice none 0 0, .slice none 0 0, .int .u64 0, .int .u64 0, .slice none 0 0, .slice none 0 0], [(0, 1), (1, 1), (2, 1), (3, 4), (7, 4), (11, 1), (12, 1), (13, 1), (14, 1), (15, 1)]) := by kernel_rfl
@[simp] theorem Try.sz71 : szOf Try.prog 71 = some 16 := by kernel_rfl
@[simp] theorem Try.ag71 : aggOf Try.prog 71 = some true := by kernel_rfl
@[simp] theorem Try.ze71 : zeroOf Try.prog 71 = some (.agg #[.int .i64 0, .string ByteArray.empty, .slice none 0 0, .int .i64 0, .int .u64 0, .string ByteArray.empty, .slice none 0 0, .int .i64 0, .int .u64 0, .string ByteArray.empty, .slice none 0 0, .slice none 0 0, .int .u64 0, .int .u64 0, .slice none 0 0, .slice none 0 0]) := by kernel_rfl
@[simp] theorem Try.ud71 : undB Try.prog 71 = true := by kernel_rfl
@[simp] theorem Try.ni71 : isNonIface Try.prog 71 = true := by kernel_rfl
@[simp] theorem Try.fl71_0 : fldOf Try.prog 71 0 = some (0, 1, false) := by kernel_rfl
@[simp] theorem Try.fl71_1 : fldOf Try.prog 71 1 = some (1, 1, false) := by kernel_rfl
@[simp] theorem Try.fl71_2 : fldOf Try.prog 71 2 = some (2, 1, false) := by kernel_rfl
@[simp] theorem Try.fl71_3 : fldOf Try.prog 71 3 = some (3, 4, true) := by kernel_rfl
@[simp] theorem Try.fl71_4 : fldOf Try.prog 71 4 = some (7, 4, true) := by kernel_rfl
@[simp] theorem Try.fl71_5 : fldOf Try.prog 71 5 = some (11, 1, false) := by kernel_rfl
@[simp] theorem Try.fl71_6 : fldOf Try.prog 71 6 = some (12, 1, false) := by kernel_rfl
@[simp] theorem Try.fl71_7 : fldOf Try.prog 71 7 = some (13, 1, false) := by kernel_rfl
@[simp] theorem Try.fl71_8 : fldOf Try.prog 71 8 = some (14, 1, false) := by kernel_rfl
@[simp] theorem Try.fl71_9 : fldOf Try.prog 71 9 = some (15, 1, false) := by kernel_rfl
@[simp] theorem Try.bl71 : bldOf Try.prog 71 = some ([.int .i64 0, .string ByteArray.empty, .slice none 0 0, .int .i64 0, .int .u64 0, .string ByteArray.empty, .slice none 0 0, .int .i64 0, .int .u64 0, .string ByteArray.empty, .slice none 0 0, .slice none 0 0, .int .u64 0, .int .u64 0, .slice none 0 0, .slice none 0 0], [(0, 1), (1, 1), (2, 1), (3, 4), (7, 4), (11, 1), (12, 1), (13, 1), (14, 1), (15, 1)]) := by kernel_rfl
@[simp] theorem Try.sz76 : szOf Try.prog 76 = some 1 := by kernel_rfl
@[simp] theorem Try.ag76 : aggOf Try.prog 76 = some false := by kernel_rfl
@[simp] theorem Try.ze76 : zeroOf Try.prog 76 = some (.int .i64 0) := by kernel_rfl
@[simp] theorem Try.ud76 : undB Try.prog 76 = true := by kernel_rfl
@[simp] theorem Try.ni76 : isNonIface Try.prog 76 = true := by kernel_rfl
@[simp] theorem Try.ko76 : kOf Try.prog 76 = some .i64 := by kernel_rfl
@[simp] theorem Try.sz77 : szOf Try.prog 77 = some 1 := by kernel_rfl
@[simp] theorem Try.ag77 : aggOf Try.prog 77 = some false := by kernel_rfl
@[simp] theorem Try.ze77 : zeroOf Try.prog 77 = some (.slice none 0 0) := by kernel_rfl
@[simp] theorem Try.ud77 : undB Try.prog 77 = true := by kernel_rfl
@[simp] theorem Try.ni77 : isNonIface Try.prog 77 = true := by kernel_rfl
@[simp] theorem Try.el77 : elOf Try.prog 77 = some 209 := by kernel_rfl
@[simp] theorem Try.lk77 : lkOf Try.prog 77 = 1 := by kernel_rfl
@[simp] theorem Try.ix77 (H : List Blk) (x i : AV) (k : AV → Prop) (w : Wit k) : idxAddrV Try.prog H 77 x i k w = bindOW (szOf Try.prog 209) (fun sz => bindOW (intA i) (fun n => idxVW H sz x n k (wit _)) (wit _)) (wit _) := idxAddrV_sl Try.el77 H x i k w
@[simp] theorem Try.sl77 : slbOf Try.prog 77 = some (209, 1, [.slice none 0 0], 24) := by kernel_rfl
@[simp] theorem Try.sz78 : szOf Try.prog 78 = some 1 := by kernel_rfl
@[simp] theorem Try.ag78 : aggOf Try.prog 78 = some false := by kernel_rfl
@[simp] theorem Try.ze78 : zeroOf Try.prog 78 = some (.slice none 0 0) := by kernel_rfl
@[simp] theorem Try.ud78 : undB Try.prog 78 = true := by kernel_rfl
@[simp] theorem Try.ni78 : isNonIface Try.prog 78 = true := by kernel_rfl
@[simp] theorem Try.el78 : elOf Try.prog 78 = some 49 := by kernel_rfl
@[simp] theorem Try.lk78 : lkOf Try.prog 78 = 1 := by kernel_rfl
@[simp] theorem Try.ix78 (H : List Blk) (x i : AV) (k : AV → Prop) (w : Wit k) : idxAddrV Try.prog H 78 x i k w = bindOW (szOf Try.prog 49) (fun sz => bindOW (intA i) (fun n => idxVW H sz x n k (wit _)) (wit _)) (wit _) := idxAddrV_sl Try.el78 H x i k w
@[simp] theorem Try.sl78 : slbOf Try.prog 78 = some (49, 1, [.slice none 0 0], 24) := by kernel_rfl
@[simp] theorem Try.sz79 : szOf Try.prog 79 = some 4 := by kernel_rfl
@[simp] theorem Try.ag79 : aggOf Try.prog 79 = some true := by kernel_rfl
@[simp] theorem Try.ze79 : zeroOf Try.prog 79 = some (.agg #[.int .i64 0, .slice none 0 0, .bool false, .slice none 0 0]) := by kernel_rfl
@[simp] theorem Try.ud79 : undB Try.prog 79 = true := by kernel_rfl
@[simp] theorem Try.ni79 : isNonIface Try.prog 79 = true := by kernel_rfl
@[simp] theorem Try.fl79_0 : fldOf Try.prog 79 0 = some (0, 1, false) := by kernel_rfl
@[simp] theorem Try.fl79_1 : fldOf Try.prog 79 1 = some (1, 1, false) := by kernel_rfl
@[simp] theorem Try.fl79_2 : fldOf Try.prog 79 2 = some (2, 1, false) := by kernel_rfl
@[simp] theorem Try.fl79_3 : fldOf Try.prog 79 3 = some (3, 1, false) := by kernel_rfl
@[simp] theorem Try.bl79 : bldOf Try.prog 79 = some ([.int .i64 0, .slice none 0 0, .bool false, .slice none 0 0], [(0, 1), (1, 1), (2, 1), (3, 1)]) := by kernel_rfl
@[simp] theorem Try.sz80 : szOf Try.prog 80 = some 4 := by kernel_rfl
@[simp] theorem Try.ag80 : aggOf Try.prog 80 = some true := by kernel_rfl
@[simp] theorem Try.ze80 : zeroOf Try.prog 80 = some (.agg #[.int .i64 0, .slice none 0 0, .bool false, .slice none 0 0]) := by kernel_rfl
@[simp] theorem Try.ud80 : undB Try.prog 80 = true := by kernel_rfl
@[simp] theorem Try.ni80 : isNonIface Try.prog 80 = true := by kernel_rfl
@[simp] theorem Try.fl80_0 : fldOf Try.prog 80 0 = some (0, 1, false) := by kernel_rfl
@[simp] theorem Try.fl80_1 : fldOf Try.prog 80 1 = some (1, 1, false) := by kernel_rfl
@[simp] theorem Try.fl80_2 : fldOf Try.prog 80 2 = some (2, 1, false) := by kernel_rfl
@[simp] theorem Try.fl80_3 : fldOf Try.prog 80 3 = some (3, 1, false) := by kernel_rfl
@[simp] theorem Try.bl80 : bldOf Try.prog 80 = some ([.int .i64 0, .slice none 0 0, .bool false, .slice none 0 0], [(0, 1), (1, 1), (2, 1), (3, 1)]) := by kernel_rfl
@[simp] theorem Try.sz82 : szOf Try.prog 82 = some 4 := by kernel_rfl
@[simp] theorem Try.ag82 : aggOf Try.prog 82 = some true := by kernel_rfl
@[simp] theorem Try.ze82 : zeroOf Try.prog 82 = some (.agg #[.string ByteArray.empty, .int .i64 0, .int .i64 0, .bool false]) := by kernel_rfl
@[simp] theorem Try.ud82 : undB Try.prog 82 = true := by kernel_rfl
@[simp] theorem Try.ni82 : isNonIface Try.prog 82 = true := by kernel_rfl
@[simp] theorem Try.eq82 (x0 y0 : ByteArray) (x1 y1 : Int) (x2 y2 : Int) (x3 y3 : Bool) : binE Try.prog .eql 82 (.agg [.v (.string x0), .v (.int .i64 x1), .v (.int .i64 x2), .v (.bool x3)]) (.agg [.v (.string y0), .v (.int .i64 y1), .v (.int .i64 y2), .v (.bool y3)]) = some (.v (.bool ((x0.toList == y0.toList) && ((x1 == y1) && ((x2 == y2) && ((x3 == y3) && true)))))) := by kernel_rfl
@[simp] theorem Try.nq82 (x0 y0 : ByteArray) (x1 y1 : Int) (x2 y2 : Int) (x3 y3 : Bool) : binE Try.prog .neq 82 (.agg [.v (.string x0), .v (.int .i64 x1), .v (.int .i64 x2), .v (.bool x3)]) (.agg [.v (.string y0), .v (.int .i64 y1), .v (.int .i64 y2), .v (.bool y3)]) = some (.v (.bool (!((x0.toList == y0.toList) && ((x1 == y1) && ((x2 == y2) && ((x3 == y3) && true))))))) := by kernel_rfl
@[simp] theorem Try.fl82_0 : fldOf Try.prog 82 0 = some (0, 1, false) := by kernel_rfl
@[simp] theorem Try.fl82_1 : fldOf Try.prog 82 1 = some (1, 1, false) := by kernel_rfl
@[simp] theorem Try.fl82_2 : fldOf Try.prog 82 2 = some (2, 1, false) := by kernel_rfl
@[simp] theorem Try.fl82_3 : fldOf Try.prog 82 3 = some (3, 1, false) := by kernel_rfl
@[simp] theorem Try.bl82 : bldOf Try.prog 82 = some ([.string ByteArray.empty, .int .i64 0, .int .i64 0, .bool false], [(0, 1), (1, 1), (2, 1), (3, 1)]) := by kernel_rfl
@[simp] theorem Try.sz83 : szOf Try.prog 83 = some 4 := by kernel_rfl
@[simp] theorem Try.ag83 : aggOf Try.prog 83 = some true := by kernel_rfl
@[simp] theorem Try.ze83 : zeroOf Try.prog 83 = some (.agg #[.string ByteArray.empty, .int .i64 0, .int .i64 0, .bool false]) := by kernel_rfl
@[simp] theorem Try.ud83 : undB Try.prog 83 = true := by kernel_rfl
@[simp] theorem Try.ni83 : isNonIface Try.prog 83 = true := by kernel_rfl
@[simp] theorem Try.eq83 (x0 y0 : ByteArray) (x1 y1 : Int) (x2 y2 : Int) (x3 y3 : Bool) : binE Try.prog .eql 83 (.agg [.v (.string x0), .v (.int .i64 x1), .v (.int .i64 x2), .v (.bool x3)]) (.agg [.v (.string y0), .v (.int .i64 y1), .v (.int .i64 y2), .v (.bool y3)]) = some (.v (.bool ((x0.toList == y0.toList) && ((x1 == y1) && ((x2 == y2) && ((x3 == y3) && true)))))) := by kernel_rfl
@[simp] theorem Try.nq83 (x0 y0 : ByteArray) (x1 y1 : Int) (x2 y2 : Int) (x3 y3 : Bool) : binE Try.prog .neq 83 (.agg [.v (.string x0), .v (.int .i64 x1), .v (.int .i64 x2), .v (.bool x3)]) (.agg [.v (.string y0), .v (.int .i64 y1), .v (.int .i64 y2), .v (.bool y3)]) = some (.v (.bool (!((x0.toList == y0.toList) && ((x1 == y1) && ((x2 == y2) && ((x3 == y3) && true))))))) := by kernel_rfl
@[simp] theorem Try.fl83_0 : fldOf Try.prog 83 0 = some (0, 1, false) := by kernel_rfl
@[simp] theorem Try.fl83_1 : fldOf Try.prog 83 1 = some (1, 1, false) := by kernel_rfl
@[simp] theorem Try.fl83_2 : fldOf Try.prog 83 2 = some (2, 1, false) := by kernel_rfl
@[simp] theorem Try.fl83_3 : fldOf Try.prog 83 3 = some (3, 1, false) := by kernel_rfl
@[simp] theorem Try.bl83 : bldOf Try.prog 83 = some ([.string ByteArray.empty, .int .i64 0, .int .i64 0, .bool false], [(0, 1), (1, 1), (2, 1), (3, 1)]) := by kernel_rfl
@[simp] theorem Try.sz85 : szOf Try.prog 85 = some 1 := by kernel_rfl
@[simp] theorem Try.ag85 : aggOf Try.prog 85 = some false := by kernel_rfl
@[simp] theorem Try.ze85 : zeroOf Try.prog 85 = some (.int .i64 0) := by kernel_rfl
@[simp] theorem Try.ud85 : undB Try.prog 85 = true := by kernel_rfl
@[simp] theorem Try.ni85 : isNonIface Try.prog 85 = true := by kernel_rfl
@[simp] theorem Try.ko85 : kOf Try.prog 85 = some .i64 := by kernel_rfl
@[simp] theorem Try.sz86 : szOf Try.prog 86 = some 4 := by kernel_rfl
@[simp] theorem Try.ag86 : aggOf Try.prog 86 = some true := by kernel_rfl
@[simp] theorem Try.ze86 : zeroOf Try.prog 86 = some (.agg #[.string ByteArray.empty, .int .i64 0, .int .i64 0, .bool false]) := by kernel_rfl
@[simp] theorem Try.ud86 : undB Try.prog 86 = true := by kernel_rfl
@[simp] theorem Try.ni86 : isNonIface Try.prog 86 = true := by kernel_rfl
@[simp] theorem Try.eq86 (x0 y0 : ByteArray) (x1 y1 : Int) (x2 y2 : Int) (x3 y3 : Bool) : binE Try.prog .eql 86 (.agg [.v (.string x0), .v (.int .i64 x1), .v (.int .i64 x2), .v (.bool x3)]) (.agg [.v (.string y0), .v (.int .i64 y1), .v (.int .i64 y2), .v (.bool y3)]) = some (.v (.bool ((x0.toList == y0.toList) && ((x1 == y1) && ((x2 == y2) && ((x3 == y3) && true)))))) := by kernel_rfl
@[simp] theorem Try.nq86 (x0 y0 : ByteArray) (x1 y1 : Int) (x2 y2 : Int) (x3 y3 : Bool) : binE Try.prog .neq 86 (.agg [.v (.string x0), .v (.int .i64 x1), .v (.int .i64 x2), .v (.bool x3)]) (.agg [.v (.string y0), .v (.int .i64 y1), .v (.int .i64 y2), .v (.bool y3)]) = some (.v (.bool (!((x0.toList == y0.toList) && ((x1 == y1) && ((x2 == y2) && ((x3 == y3) && true))))))) := by kernel_rfl
@[simp] theorem Try.fl86_0 : fldOf Try.prog 86 0 = some (0, 1, false) := by kernel_rfl
@[simp] theorem Try.fl86_1 : fldOf Try.prog 86 1 = some (1, 1, false) := by kernel_rfl
@[simp] theorem Try.fl86_2 : fldOf Try.prog 86 2 = some (2, 1, false) := by kernel_rfl
@[simp] theorem Try.fl86_3 : fldOf Try.prog 86 3 = some (3, 1, false) := by kernel_rfl
@[simp] theorem Try.bl86 : bldOf Try.prog 86 = some ([.string ByteArray.empty, .int .i64 0, .int .i64 0, .bool false], [(0, 1), (1, 1), (2, 1), (3, 1)]) := by kernel_rfl
@[simp] theorem Try.sz87 : szOf Try.prog 87 = some 4 := by kernel_rfl
@[simp] theorem Try.ag87 : aggOf Try.prog 87 = some true := by kernel_rfl
@[simp] theorem Try.ze87 : zeroOf Try.prog 87 = some (.agg #[.string ByteArray.empty, .int .i64 0, .int .i64 0, .bool false]) := by kernel_rfl
@[simp] theorem Try.ud87 : undB Try.prog 87 = true := by kernel_rfl
@[simp] theorem Try.ni87 : isNonIface Try.prog 87 = true := by kernel_rfl
@[simp] theorem Try.eq87 (x0 y0 : ByteArray) (x1 y1 : Int) (x2 y2 : Int) (x3 y3 : Bool) : binE Try.prog .eql 87 (.agg [.v (.string x0), .v (.int .i64 x1), .v (.int .i64 x2), .v (.bool x3)]) (.agg [.v (.string y0), .v (.int .i64 y1), .v (.int .i64 y2), .v (.bool y3)]) = some (.v (.bool ((x0.toList == y0.toList) && ((x1 == y1) && ((x2 == y2) && ((x3 == y3) && true)))))) := by kernel_rfl
@[simp] theorem Try.nq87 (x0 y0 : ByteArray) (x1 y1 : Int) (x2 y2 : Int) (x3 y3 : Bool) : binE Try.prog .neq 87 (.agg [.v (.string x0), .v (.int .i64 x1), .v (.int .i64 x2), .v (.bool x3)]) (.agg [.v (.string y0), .v (.int .i64 y1), .v (.int .i64 y2), .v (.bool y3)]) = some (.v (.bool (!((x0.toList == y0.toList) && ((x1 == y1) && ((x2 == y2) && ((x3 == y3) && true))))))) := by kernel_rfl
@[simp] theorem Try.fl87_0 : fldOf Try.prog 87 0 = some (0, 1, false) := by kernel_rfl
@[simp] theorem Try.fl87_1 : fldOf Try.prog 87 1 = some (1, 1, false) := by kernel_rfl
@[simp] theorem Try.fl87_2 : fldOf Try.prog 87 2 = some (2, 1, false) := by kernel_rfl
@[simp] theorem Try.fl87_3 : fldOf Try.prog 87 3 = some (3, 1, false) := by kernel_rfl
@[simp] theorem Try.bl87 : bldOf Try.prog 87 = some ([.string ByteArray.empty, .int .i64 0, .int .i64 0, .bool false], [(0, 1), (1, 1), (2, 1), (3, 1)]) := by kernel_rfl
@[simp] theorem Try.sz92 : szOf Try.prog 92 = some 1 := by kernel_rfl
@[simp] theorem Try.ag92 : aggOf Try.prog 92 = some false := by kernel_rfl
@[simp] theorem Try.ze92 : zeroOf Try.prog 92 = some (.nilFunc) := by kernel_rfl
@[simp] theorem Try.ud92 : undB Try.prog 92 = true := by kernel_rfl
@[simp] theorem Try.ni92 : isNonIface Try.prog 92 = true := by kernel_rfl
@[simp] theorem Try.sz94 : szOf Try.prog 94 = some 1 := by kernel_rfl
@[simp] theorem Try.ag94 : aggOf Try.prog 94 = some false := by kernel_rfl
@[simp] theorem Try.ze94 : zeroOf Try.prog 94 = some (.nilFunc) := by kernel_rfl
@[simp] theorem Try.ud94 : undB Try.prog 94 = true := by kernel_rfl
@[simp] theorem Try.ni94 : isNonIface Try.prog 94 = true := by kernel_rfl
@[simp] theorem Try.sz105 : szOf Try.prog 105 = some 1 := by kernel_rfl
@[simp] theorem Try.ag105 : aggOf Try.prog 105 = some false := by kernel_rfl
@[simp] theorem Try.ze105 : zeroOf Try.prog 105 = some (.pointer none) := by kernel_rfl
@[simp] theorem Try.ud105 : undB Try.prog 105 = true := by kernel_rfl
@[simp] theorem Try.ni105 : isNonIface Try.prog 105 = true := by kernel_rfl
@[simp] theorem Try.sz107 : szOf Try.prog 107 = some 1 := by kernel_rfl
@[simp] theorem Try.ag107 : aggOf Try.prog 107 = some false := by kernel_rfl
@[simp] theorem Try.ze107 : zeroOf Try.prog 107 = some (.pointer none) := by kernel_rfl
@[simp] theorem Try.ud107 : undB Try.prog 107 = true := by kernel_rfl
@[simp] theorem Try.ni107 : isNonIface Try.prog 107 = true := by kernel_rfl
@[simp] theorem Try.sz109 : szOf Try.prog 109 = some 1 := by kernel_rfl
@[simp] theorem Try.ag109 : aggOf Try.prog 109 = some false := by kernel_rfl
@[simp] theorem Try.ze109 : zeroOf Try.prog 109 = some (.nilFunc) := by kernel_rfl
@[simp] theorem Try.ud109 : undB Try.prog 109 = true := by kernel_rfl
@[simp] theorem Try.ni109 : isNonIface Try.prog 109 = true := by kernel_rfl
@[simp] theorem Try.sz110 : szOf Try.prog 110 = some 1 := by kernel_rfl
@[simp] theorem Try.ag110 : aggOf Try.prog 110 = some false := by kernel_rfl
@[simp] theorem Try.ze110 : zeroOf Try.prog 110 = some (.map none) := by kernel_rfl
@[simp] theorem Try.ud110 : undB Try.prog 110 = true := by kernel_rfl
@[simp] theorem Try.ni110 : isNonIface Try.prog 110 = true := by kernel_rfl
@[simp] theorem Try.lk110 : lkOf Try.prog 110 = 3 := by kernel_rfl
@[simp] theorem Try.mp110 : mapOf Try.prog 110 = some (.string, .bool false) := by kernel_rfl
@[simp] theorem Try.sz111 : szOf Try.prog 111 = some 1 := by kernel_rfl
@[simp] theorem Try.ag111 : aggOf Try.prog 111 = some false := by kernel_rfl
@[simp] theorem Try.ze111 : zeroOf Try.prog 111 = some (.map none) := by kernel_rfl
@[simp] theorem Try.ud111 : undB Try.prog 111 = true := by kernel_rfl
@[simp] theorem Try.ni111 : isNonIface Try.prog 111 = true := by kernel_rfl
@[simp] theorem Try.lk111 : lkOf Try.prog 111 = 3 := by kernel_rfl
@[simp] theorem Try.mp111 : mapOf Try.prog 111 = some (.string, .bool false) := by kernel_rfl
@[simp] theorem Try.sz112 : szOf Try.prog 112 = some 5 := by kernel_rfl
@[simp] theorem Try.ag112 : aggOf Try.prog 112 = some true := by kernel_rfl
@[simp] theorem Try.ze112 : zeroOf Try.prog 112 = some (.agg #[.slice none 0 0, .slice none 0 0, .map none, .map none, .pointer none]) := by kernel_rfl
@[simp] theorem Try.ud112 : undB Try.prog 112 = true := by kernel_rfl
@[simp] theorem Try.ni112 : isNonIface Try.prog 112 = true := by kernel_rfl
@[simp] theorem Try.fl112_0 : fldOf Try.prog 112 0 = some (0, 2, true) := by kernel_rfl
@[simp] theorem Try.fl112_1 : fldOf Try.prog 112 1 = some (2, 1, false) := by kernel_rfl
@[simp] theorem Try.fl112_2 : fldOf Try.prog 112 2 = some (3, 1, false) := by kernel_rfl
@[simp] theorem Try.fl112_3 : fldOf Try.prog 112 3 = some (4, 1, false) := by kernel_rfl
@[simp] theorem Try.bl112 : bldOf Try.prog 112 = some ([.slice none 0 0, .slice none 0 0, .map none, .map none, .pointer none], [(0, 2), (2, 1), (3, 1), (4, 1)]) := by kernel_rfl
@[simp] theorem Try.sz113 : szOf Try.prog 113 = some 5 := by kernel_rfl
@[simp] theorem Try.ag113 : aggOf Try.prog 113 = some true := by kernel_rfl
@[simp] theorem Try.ze113 : zeroOf Try.prog 113 = some (.agg #[.slice none 0 0, .slice none 0 0, .map none, .map none, .pointer none]) := by kernel_rfl
@[simp] theorem Try.ud113 : undB Try.prog 113 = true := by kernel_rfl
@[simp] theorem Try.ni113 : isNonIface Try.prog 113 = true := by kernel_rfl
@[simp] theorem Try.fl113_0 : fldOf Try.prog 113 0 = some (0, 2, true) := by kernel_rfl
@[simp] theorem Try.fl113_1 : fldOf Try.prog 113 1 = some (2, 1, false) := by kernel_rfl
@[simp] theorem Try.fl113_2 : fldOf Try.prog 113 2 = some (3, 1, false) := by kernel_rfl
@[simp] theorem Try.fl113_3 : fldOf Try.prog 113 3 = some (4, 1, false) := by kernel_rfl
@[simp] theorem Try.bl113 : bldOf Try.prog 113 = some ([.slice none 0 0, .slice none 0 0, .map none, .map none, .pointer none], [(0, 2), (2, 1), (3, 1), (4, 1)]) := by kernel_rfl
@[simp] theorem Try.sz114 : szOf Try.prog 114 = some 1 := by kernel_rfl
@[simp] theorem Try.ag114 : aggOf Try.prog 114 = some false := by kernel_rfl
@[simp] theorem Try.ze114 : zeroOf Try.prog 114 = some (.pointer none) := by kernel_rfl
@[simp] theorem Try.ud114 : undB Try.prog 114 = true := by kernel_rfl
@[simp] theorem Try.ni114 : isNonIface Try.prog 114 = true := by kernel_rfl
@[simp] theorem Try.sz118 : szOf Try.prog 118 = some 6 := by kernel_rfl
@[simp] theorem Try.ag118 : aggOf Try.prog 118 = some true := by kernel_rfl
@[simp] theorem Try.ze118 : zeroOf Try.prog 118 = some (.agg #[.slice none 0 0, .slice none 0 0, .int .i64 0, .slice none 0 0, .int .i64 0, .int .i64 0]) := by kernel_rfl
@[simp] theorem Try.ud118 : undB Try.prog 118 = true := by kernel_rfl
@[simp] theorem Try.ni118 : isNonIface Try.prog 118 = true := by kernel_rfl
@[simp] theorem Try.fl118_0 : fldOf Try.prog 118 0 = some (0, 2, true) := by kernel_rfl
@[simp] theorem Try.fl118_1 : fldOf Try.prog 118 1 = some (2, 1, false) := by kernel_rfl
@[simp] theorem Try.fl118_2 : fldOf Try.prog 118 2 = some (3, 1, false) := by kernel_rfl
@[simp] theorem Try.fl118_3 : fldOf Try.prog 118 3 = some (4, 1, false) := by kernel_rfl
@[simp] theorem Try.fl118_4 : fldOf Try.prog 118 4 = some (5, 1, false) := by kernel_rfl
@[simp] theorem Try.bl118 : bldOf Try.prog 118 = some ([.slice none 0 0, .slice none 0 0, .int .i64 0, .slice none 0 0, .int .i64 0, .int .i64 0], [(0, 2), (2, 1), (3, 1), (4, 1), (5, 1)]) := by kernel_rfl
@[simp] theorem Try.sz119 : szOf Try.prog 119 = some 6 := by kernel_rfl
@[simp] theorem Try.ag119 : aggOf Try.prog 119 = some true := by kernel_rfl
@[simp] theorem Try.ze119 : zeroOf Try.prog 119 = some (.agg #[.slice none 0 0, .slice none 0 0, .int .i64 0, .slice none 0 0, .int .i64 0, .int .i64 0]) := by kernel_rfl
@[simp] theorem Try.ud119 : undB Try.prog 119 = true := by kernel_rfl
@[simp] theorem Try.ni119 : isNonIface Try.prog 119 = true := by kernel_rfl
@[simp] theorem Try.fl119_0 : fldOf Try.prog 119 0 = some (0, 2, true) := by kernel_rfl
@[simp] theorem Try.fl119_1 : fldOf Try.prog 119 1 = some (2, 1, false) := by kernel_rfl
@[simp] theorem Try.fl119_2 : fldOf Try.prog 119 2 = some (3, 1, false) := by kernel_rfl
@[simp] theorem Try.fl119_3 : fldOf Try.prog 119 3 = some (4, 1, false) := by kernel_rfl
@[simp] theorem Try.fl119_4 : fldOf Try.prog 119 4 = some (5, 1, false) := by kernel_rfl
@[simp] theorem Try.bl119 : bldOf Try.prog 119 = some ([.slice none 0 0, .slice none 0 0, .int .i64 0, .slice none 0 0, .int .i64 0, .int .i64 0], [(0, 2), (2, 1), (3, 1), (4, 1), (5, 1)]) := by kernel_rfl
@[simp] theorem Try.sz125 : szOf Try.prog 125 = some 1 := by kernel_rfl
@[simp] theorem Try.ag125 : aggOf Try.prog 125 = some false := by kernel_rfl
@[simp] theorem Try.ze125 : zeroOf Try.prog 125 = some (.pointer none) := by kernel_rfl
@[simp] theorem Try.ud125 : undB Try.prog 125 = true := by kernel_rfl
@[simp] theorem Try.ni125 : isNonIface Try.prog 125 = true := by kernel_rfl
@[simp] theorem Try.sz126 : szOf Try.prog 126 = some 1 := by kernel_rfl
@[simp] theorem Try.ag126 : aggOf Try.prog 126 = some false := by kernel_rfl
@[simp] theorem Try.ze126 : zeroOf Try.prog 126 = some (.map none) := by kernel_rfl
@[simp] theorem Try.ud126 : undB Try.prog 126 = true := by kernel_rfl
@[simp] theorem Try.ni126 : isNonIface Try.prog 126 = true := by kernel_rfl
@[simp] theorem Try.lk126 : lkOf Try.prog 126 = 3 := by kernel_rfl
@[simp] theorem Try.mp126 : mapOf Try.prog 126 = some (.string, .agg #[.string ByteArray.empty, .int .i64 0, .int .i64 0, .bool false]) := by kernel_rfl
@[simp] theorem Try.sz127 : szOf Try.prog 127 = some 1 := by kernel_rfl
@[simp] theorem Try.ag127 : aggOf Try.prog 127 = some false := by kernel_rfl
@[simp] theorem Try.ze127 : zeroOf Try.prog 127 = some (.map none) := by kernel_rfl
@[simp] theorem Try.ud127 : undB Try.prog 127 = true := by kernel_rfl
@[simp] theorem Try.ni127 : isNonIface Try.prog 127 = true := by kernel_rfl
@[simp] theorem Try.lk127 : lkOf Try.prog 127 = 3 := by kernel_rfl
@[simp] theorem Try.mp127 : mapOf Try.prog 127 = some (.string, .agg #[.bool false]) := by kernel_rfl
@[simp] theorem Try.sz129 : szOf Try.prog 129 = some 7 := by kernel_rfl
@[simp] theorem Try.ag129 : aggOf Try.prog 129 = some true := by kernel_rfl
@[simp] theorem Try.ze129 : zeroOf Try.prog 129 = some (.agg #[.slice none 0 0, .slice none 0 0, .int .i64 0, .map none, .map none, .slice none 0 0, .slice none 0 0]) := by kernel_rfl
@[simp] theorem Try.ud129 : undB Try.prog 129 = true := by kernel_rfl
@[simp] theorem Try.ni129 : isNonIface Try.prog 129 = true := by kernel_rfl
@[simp] theorem Try.fl129_0 : fldOf Try.prog 129 0 = some (0, 2, true) := by kernel_rfl
@[simp] theorem Try.fl129_1 : fldOf Try.prog 129 1 = some (2, 1, false) := by kernel_rfl
@[simp] theorem Try.fl129_2 : fldOf Try.prog 129 2 = some (3, 1, false) := by kernel_rfl
@[simp] theorem Try.fl129_3 : fldOf Try.prog 129 3 = some (4, 1, false) := by kernel_rfl
@[simp] theorem Try.fl129_4 : fldOf Try.prog 129 4 = some (5, 1, false) := by kernel_rfl
@[simp] theorem Try.fl129_5 : fldOf Try.prog 129 5 = some (6, 1, false) := by kernel_rfl
@[simp] theorem Try.bl129 : bldOf Try.prog 129 = some ([.slice none 0 0, .slice none 0 0, .int .i64 0, .map none, .map none, .slice none 0 0, .slice none 0 0], [(0, 2), (2, 1), (3, 1), (4, 1), (5, 1), (6, 1)]) := by kernel_rfl
@[simp] theorem Try.sz130 : szOf Try.prog 130 = some 7 := by kernel_rfl
@[simp] theorem Try.ag130 : aggOf Try.prog 130 = some true := by kernel_rfl
@[simp] theorem Try.ze130 : zeroOf Try.prog 130 = some (.agg #[.slice none 0 0, .slice none 0 0, .int .i64 0, .map none, .map none, .slice none 0 0, .slice none 0 0]) := by kernel_rfl
@[simp] theorem Try.ud130 : undB Try.prog 130 = true := by kernel_rfl
@[simp] theorem Try.ni130 : isNonIface Try.prog 130 = true := by kernel_rfl
@[simp] theorem Try.fl130_0 : fldOf Try.prog 130 0 = some (0, 2, true) := by kernel_rfl
@[simp] theorem Try.fl130_1 : fldOf Try.prog 130 1 = some (2, 1, false) := by kernel_rfl
@[simp] theorem Try.fl130_2 : fldOf Try.prog 130 2 = some (3, 1, false) := by kernel_rfl
@[simp] theorem Try.fl130_3 : fldOf Try.prog 130 3 = some (4, 1, false) := by kernel_rfl
@[simp] theorem Try.fl130_4 : fldOf Try.prog 130 4 = some (5, 1, false) := by kernel_rfl
@[simp] theorem Try.fl130_5 : fldOf Try.prog 130 5 = some (6, 1, false) := by kernel_rfl
@[simp] theorem Try.bl130 : bldOf Try.prog 130 = some ([.slice none 0 0, .slice none 0 0, .int .i64 0, .map none, .map none, .slice none 0 0, .slice none 0 0], [(0, 2), (2, 1), (3, 1), (4, 1), (5, 1), (6, 1)]) := by kernel_rfl
@[simp] theorem Try.sz131 : szOf Try.prog 131 = some 1 := by kernel_rfl
@[simp] theorem Try.ag131 : aggOf Try.prog 131 = some true := by kernel_rfl
@[simp] theorem Try.ze131 : zeroOf Try.prog 131 = some (.agg #[.bool false]) := by kernel_rfl
@[simp] theorem Try.ud131 : undB Try.prog 131 = true := by kernel_rfl
@[simp] theorem Try.ni131 : isNonIface Try.prog 131 = true := by kernel_rfl
@[simp] theorem Try.eq131 (x0 y0 : Bool) : binE Try.prog .eql 131 (.agg [.v (.bool x0)]) (.agg [.v (.bool y0)]) = some (.v (.bool ((x0 == y0) && true))) := by kernel_rfl
@[simp] theorem Try.nq131 (x0 y0 : Bool) : binE Try.prog .neq 131 (.agg [.v (.bool x0)]) (.agg [.v (.bool y0)]) = some (.v (.bool (!((x0 == y0) && true)))) := by kernel_rfl
@[simp] theorem Try.fl131_0 : fldOf Try.prog 131 0 = some (0, 1, false) := by kernel_rfl
@[simp] theorem Try.bl131 : bldOf Try.prog 131 = some ([.bool false], [(0, 1)]) := by kernel_rfl
@[simp] theorem Try.sz137 : szOf Try.prog 137 = some 0 := by kernel_rfl
@[simp] theorem Try.ag137 : aggOf Try.prog 137 = some true := by kernel_rfl
@[simp] theorem Try.ze137 : zeroOf Try.prog 137 = some (.agg #[]) := by kernel_rfl
@[simp] theorem Try.ud137 : undB Try.prog 137 = true := by kernel_rfl
@[simp] theorem Try.ni137 : isNonIface Try.prog 137 = true := by kernel_rfl
@[simp] theorem Try.eq137 : binE Try.prog .eql 137 (.agg []) (.agg []) = some (.v (.bool true)) := by kernel_rfl
@[simp] theorem Try.nq137 : binE Try.prog .neq 137 (.agg []) (.agg []) = some (.v (.bool (!true))) := by kernel_rfl
@[simp] theorem Try.bl137 : bldOf Try.prog 137 = some ([], []) := by kernel_rfl
@[simp] theorem Try.sz138 : szOf Try.prog 138 = some 0 := by kernel_rfl
@[simp] theorem Try.ag138 : aggOf Try.prog 138 = some true := by kernel_rfl
@[simp] theorem Try.ze138 : zeroOf Try.prog 138 = some (.agg #[]) := by kernel_rfl
@[simp] theorem Try.ud138 : undB Try.prog 138 = true := by kernel_rfl
@[simp] theorem Try.ni138 : isNonIface Try.prog 138 = true := by kernel_rfl
@[simp] theorem Try.eq138 : binE Try.prog .eql 138 (.agg []) (.agg []) = some (.v (.bool true)) := by kernel_rfl
@[simp] theorem Try.nq138 : binE Try.prog .neq 138 (.agg []) (.agg []) = some (.v (.bool (!true))) := by kernel_rfl
@[simp] theorem Try.bl138 : bldOf Try.prog 138 = some ([], []) := by kernel_rfl
@[simp] theorem Try.sz139 : szOf Try.prog 139 = some 1 := by kernel_rfl
@[simp] theorem Try.ag139 : aggOf Try.prog 139 = some false := by kernel_rfl
@[simp] theorem Try.ze139 : zeroOf Try.prog 139 = some (.pointer none) := by kernel_rfl
@[simp] theorem Try.ud139 : undB Try.prog 139 = true := by kernel_rfl
@[simp] theorem Try.ni139 : isNonIface Try.prog 139 = true := by kernel_rfl
@[simp] theorem Try.sz140 : szOf Try.prog 140 = some 1 := by kernel_rfl
@[simp] theorem Try.ag140 : aggOf Try.prog 140 = some true := by kernel_rfl
@[simp] theorem Try.ze140 : zeroOf Try.prog 140 = some (.agg #[.int .i64 0]) := by kernel_rfl
@[simp] theorem Try.ud140 : undB Try.prog 140 = true := by kernel_rfl
@[simp] theorem Try.ni140 : isNonIface Try.prog 140 = true := by kernel_rfl
@[simp] theorem Try.eq140 (x0 y0 : Int) : binE Try.prog .eql 140 (.agg [.v (.int .i64 x0)]) (.agg [.v (.int .i64 y0)]) = some (.v (.bool ((x0 == y0) && true))) := by kernel_rfl
@[simp] theorem Try.nq140 (x0 y0 : Int) : binE Try.prog .neq 140 (.agg [.v (.int .i64 x0)]) (.agg [.v (.int .i64 y0)]) = some (.v (.bool (!((x0 == y0) && true)))) := by kernel_rfl
@[simp] theorem Try.fl140_0 : fldOf Try.prog 140 0 = some (0, 1, false) := by kernel_rfl
@[simp] theorem Try.bl140 : bldOf Try.prog 140 = some ([.int .i64 0], [(0, 1)]) := by kernel_rfl
@[simp] theorem Try.sz141 : szOf Try.prog 141 = some 1 := by kernel_rfl
@[simp] theorem Try.ag141 : aggOf Try.prog 141 = some true := by kernel_rfl
@[simp] theorem Try.ze141 : zeroOf Try.prog 141 = some (.agg #[.int .i64 0]) := by kernel_rfl
@[simp] theorem Try.ud141 : undB Try.prog 141 = true := by kernel_rfl
@[simp] theorem Try.ni141 : isNonIface Try.prog 141 = true := by kernel_rfl
@[simp] theorem Try.eq141 (x0 y0 : Int) : binE Try.prog .eql 141 (.agg [.v (.int .i64 x0)]) (.agg [.v (.int .i64 y0)]) = some (.v (.bool ((x0 == y0) && true))) := by kernel_rfl
@[simp] theorem Try.nq141 (x0 y0 : Int) : binE Try.prog .neq 141 (.agg [.v (.int .i64 x0)]) (.agg [.v (.int .i64 y0)]) = some (.v (.bool (!((x0 == y0) && true)))) := by kernel_rfl
@[simp] theorem Try.fl141_0 : fldOf Try.prog 141 0 = some (0, 1, false) := by kernel_rfl
@[simp] theorem Try.bl141 : bldOf Try.prog 141 = some ([.int .i64 0], [(0, 1)]) := by kernel_rfl
@[simp] theorem Try.sz144 : szOf Try.prog 144 = some 1 := by kernel_rfl
@[simp] theorem Try.ag144 : aggOf Try.prog 144 = some true := by kernel_rfl
@[simp] theorem Try.ze144 : zeroOf Try.prog 144 = some (.agg #[.int .i64 0]) := by kernel_rfl
@[simp] theorem Try.ud144 : undB Try.prog 144 = true := by kernel_rfl
@[simp] theorem Try.ni144 : isNonIface Try.prog 144 = true := by kernel_rfl
@[simp] theorem Try.eq144 (x0 y0 : Int) : binE Try.prog .eql 144 (.agg [.v (.int .i64 x0)]) (.agg [.v (.int .i64 y0)]) = some (.v (.bool ((x0 == y0) && true))) := by kernel_rfl
@[simp] theorem Try.nq144 (x0 y0 : Int) : binE Try.prog .neq 144 (.agg [.v (.int .i64 x0)]) (.agg [.v (.int .i64 y0)]) = some (.v (.bool (!((x0 == y0) && true)))) := by kernel_rfl
@[simp] theorem Try.fl144_0 : fldOf Try.prog 144 0 = some (0, 1, false) := by kernel_rfl
@[simp] theorem Try.bl144 : bldOf Try.prog 144 = some ([.int .i64 0], [(0, 1)]) := by kernel_rfl
@[simp] theorem Try.sz145 : szOf Try.prog 145 = some 1 := by kernel_rfl
@[simp] theorem Try.ag145 : aggOf Try.prog 145 = some true := by kernel_rfl
@[simp] theorem Try.ze145 : zeroOf Try.prog 145 = some (.agg #[.int .i64 0]) := by kernel_rfl
@[simp] theorem Try.ud145 : undB Try.prog 145 = true := by kernel_rfl
@[simp] theorem Try.ni145 : isNonIface Try.prog 145 = true := by kernel_rfl
@[simp] theorem Try.eq145 (x0 y0 : Int) : binE Try.prog .eql 145 (.agg [.v (.int .i64 x0)]) (.agg [.v (.int .i64 y0)]) = some (.v (.bool ((x0 == y0) && true))) := by kernel_rfl
@[simp] theorem Try.nq145 (x0 y0 : Int) : binE Try.prog .neq 145 (.agg [.v (.int .i64 x0)]) (.agg [.v (.int .i64 y0)]) = some (.v (.bool (!((x0 == y0) && true)))) := by kernel_rfl
@[simp] theorem Try.fl145_0 : fldOf Try.prog 145 0 = some (0, 1, false) := by kernel_rfl
@[simp] theorem Try.bl145 : bldOf Try.prog 145 = some ([.int .i64 0], [(0, 1)]) := by kernel_rfl
@[simp] theorem Try.sz152 : szOf Try.prog 152 = some 1 := by kernel_rfl
@[simp] theorem Try.ag152 : aggOf Try.prog 152 = some false := by kernel_rfl
@[simp] theorem Try.ze152 : zeroOf Try.prog 152 = some (.nilFunc) := by kernel_rfl
@[simp] theorem Try.ud152 : undB Try.prog 152 = true := by kernel_rfl
@[simp] theorem Try.ni152 : isNonIface Try.prog 152 = true := by kernel_rfl
@[simp] theorem Try.sz156 : szOf Try.prog 156 = some 1 := by kernel_rfl
@[simp] theorem Try.ag156 : aggOf Try.prog 156 = some true := by kernel_rfl
@[simp] theorem Try.ze156 : zeroOf Try.prog 156 = some (.agg #[.int .i64 0]) := by kernel_rfl
@[simp] theorem Try.ud156 : undB Try.prog 156 = true := by kernel_rfl
@[simp] theorem Try.ni156 : isNonIface Try.prog 156 = true := by kernel_rfl
@[simp] theorem Try.eq156 (x0 y0 : Int) : binE Try.prog .eql 156 (.agg [.v (.int .i64 x0)]) (.agg [.v (.int .i64 y0)]) = some (.v (.bool ((x0 == y0) && true))) := by kernel_rfl
@[simp] theorem Try.nq156 (x0 y0 : Int) : binE Try.prog .neq 156 (.agg [.v (.int .i64 x0)]) (.agg [.v (.int .i64 y0)]) = some (.v (.bool (!((x0 == y0) && true)))) := by kernel_rfl
@[simp] theorem Try.fl156_0 : fldOf Try.prog 156 0 = some (0, 1, false) := by kernel_rfl
@[simp] theorem Try.bl156 : bldOf Try.prog 156 = some ([.int .i64 0], [(0, 1)]) := by kernel_rfl
@[simp] theorem Try.sz157 : szOf Try.prog 157 = some 1 := by kernel_rfl
@[simp] theorem Try.ag157 : aggOf Try.prog 157 = some true := by kernel_rfl
@[simp] theorem Try.ze157 : zeroOf Try.prog 157 = some (.agg #[.int .i64 0]) := by kernel_rfl
@[simp] theorem Try.ud157 : undB Try.prog 157 = true := by kernel_rfl
@[simp] theorem Try.ni157 : isNonIface Try.prog 157 = true := by kernel_rfl
@[simp] theorem Try.eq157 (x0 y0 : Int) : binE Try.prog .eql 157 (.agg [.v (.int .i64 x0)]) (.agg [.v (.int .i64 y0)]) = some (.v (.bool ((x0 == y0) && true))) := by kernel_rfl
@[simp] theorem Try.nq157 (x0 y0 : Int) : binE Try.prog .neq 157 (.agg [.v (.int .i64 x0)]) (.agg [.v (.int .i64 y0)]) = some (.v (.bool (!((x0 == y0) && true)))) := by kernel_rfl
@[simp] theorem Try.fl157_0 : fldOf Try.prog 157 0 = some (0, 1, false) := by kernel_rfl
@[simp] theorem Try.bl157 : bldOf Try.prog 157 = some ([.int .i64 0], [(0, 1)]) := by kernel_rfl
@[simp] theorem Try.sz159 : szOf Try.prog 159 = some 1 := by kernel_rfl
@[simp] theorem Try.ag159 : aggOf Try.prog 159 = some false := by kernel_rfl
@[simp] theorem Try.ze159 : zeroOf Try.prog 159 = some (.nilFunc) := by kernel_rfl
@[simp] theorem Try.ud159 : undB Try.prog 159 = true := by kernel_rfl
@[simp] theorem Try.ni159 : isNonIface Try.prog 159 = true := by kernel_rfl
@[simp] theorem Try.sz163 : szOf Try.prog 163 = some 1 := by kernel_rfl
@[simp] theorem Try.ag163 : aggOf Try.prog 163 = some false := by kernel_rfl
@[simp] theorem Try.ze163 : zeroOf Try.prog 163 = some (.nilFunc) := by kernel_rfl
@[simp] theorem Try.ud163 : undB Try.prog 163 = true := by kernel_rfl
@[simp] theorem Try.ni163 : isNonIface Try.prog 163 = true := by kernel_rfl
@[simp] theorem Try.sz170 : szOf Try.prog 170 = some 1 := by kernel_rfl
@[simp] theorem Try.ag170 : aggOf Try.prog 170 = some false := by kernel_rfl
@[simp] theorem Try.ze170 : zeroOf Try.prog 170 = some (.nilFunc) := by kernel_rfl
@[simp] theorem Try.ud170 : undB Try.prog 170 = true := by kernel_rfl
@[simp] theorem Try.ni170 : isNonIface Try.prog 170 = true := by kernel_rfl
@[simp] theorem Try.sz171 : szOf Try.prog 171 = some 1 := by kernel_rfl
@[simp] theorem Try.ag171 : aggOf Try.prog 171 = some false := by kernel_rfl
@[simp] theorem Try.ze171 : zeroOf Try.prog 171 = some (.pointer none) := by kernel_rfl
@[simp] theorem Try.ud171 : undB Try.prog 171 = true := by kernel_rfl
@[simp] theorem Try.ni171 : isNonIface Try.prog 171 = true := by kernel_rfl
@[simp] theorem Try.sz172 : szOf Try.prog 172 = some 1 := by kernel_rfl
@[simp] theorem Try.ag172 : aggOf Try.prog 172 = some true := by kernel_rfl
@[simp] theorem Try.ze172 : zeroOf Try.prog 172 = some (.agg #[.int .i64 0]) := by kernel_rfl
@[simp] theorem Try.ud172 : undB Try.prog 172 = true := by kernel_rfl
@[simp] theorem Try.ni172 : isNonIface Try.prog 172 = true := by kernel_rfl
@[simp] theorem Try.eq172 (x0 y0 : Int) : binE Try.prog .eql 172 (.agg [.v (.int .i64 x0)]) (.agg [.v (.int .i64 y0)]) = some (.v (.bool ((x0 == y0) && true))) := by kernel_rfl
@[simp] theorem Try.nq172 (x0 y0 : Int) : binE Try.prog .neq 172 (.agg [.v (.int .i64 x0)]) (.agg [.v (.int .i64 y0)]) = some (.v (.bool (!((x0 == y0) && true)))) := by kernel_rfl
@[simp] theorem Try.fl172_0 : fldOf Try.prog 172 0 = some (0, 1, false) := by kernel_rfl
@[simp] theorem Try.bl172 : bldOf Try.prog 172 = some ([.int .i64 0], [(0, 1)]) := by kernel_rfl
@[simp] theorem Try.sz173 : szOf Try.prog 173 = some 1 := by kernel_rfl
@[simp] theorem Try.ag173 : aggOf Try.prog 173 = some true := by kernel_rfl
@[simp] theorem Try.ze173 : zeroOf Try.prog 173 = some (.agg #[.int .i64 0]) := by kernel_rfl
@[simp] theorem Try.ud173 : undB Try.prog 173 = true := by kernel_rfl
@[simp] theorem Try.ni173 : isNonIface Try.prog 173 = true := by kernel_rfl
@[simp] theorem Try.eq173 (x0 y0 : Int) : binE Try.prog .eql 173 (.agg [.v (.int .i64 x0)]) (.agg [.v (.int .i64 y0)]) = some (.v (.bool ((x0 == y0) && true))) := by kernel_rfl
@[simp] theorem Try.nq173 (x0 y0 : Int) : binE Try.prog .neq 173 (.agg [.v (.int .i64 x0)]) (.agg [.v (.int .i64 y0)]) = some (.v (.bool (!((x0 == y0) && true)))) := by kernel_rfl
@[simp] theorem Try.fl173_0 : fldOf Try.prog 173 0 = some (0, 1, false) := by kernel_rfl
@[simp] theorem Try.bl173 : bldOf Try.prog 173 = some ([.int .i64 0], [(0, 1)]) := by kernel_rfl
@[simp] theorem Try.sz176 : szOf Try.prog 176 = some 1 := by kernel_rfl
@[simp] theorem Try.ag176 : aggOf Try.prog 176 = some false := by kernel_rfl
@[simp] theorem Try.ze176 : zeroOf Try.prog 176 = some (.slice none 0 0) := by kernel_rfl
@[simp] theorem Try.ud176 : undB Try.prog 176 = true := by kernel_rfl
@[simp] theorem Try.ni176 : isNonIface Try.prog 176 = true := by kernel_rfl
@[simp] theorem Try.el176 : elOf Try.prog 176 = some 5 := by kernel_rfl
@[simp] theorem Try.lk176 : lkOf Try.prog 176 = 1 := by kernel_rfl
@[simp] theorem Try.ix176 (H : List Blk) (x i : AV) (k : AV → Prop) (w : Wit k) : idxAddrV Try.prog H 176 x i k w = bindOW (szOf Try.prog 5) (fun sz => bindOW (intA i) (fun n => idxVW H sz x n k (wit _)) (wit _)) (wit _) := idxAddrV_sl Try.el176 H x i k w
@[simp] theorem Try.ko176 : kOf Try.prog 176 = none := by kernel_rfl
@[simp] theorem Try.by176_9 : byB Try.prog 9 176 = true := by kernel_rfl
@[simp] theorem Try.by176_10 : byB Try.prog 10 176 = true := by kernel_rfl
@[simp] theorem Try.by176_11 : byB Try.prog 11 176 = true := by kernel_rfl
@[simp] theorem Try.sl176 : slbOf Try.prog 176 = some (5, 1, [.int .u8 0], 1) := by kernel_rfl
@[simp] theorem Try.sz177 : szOf Try.prog 177 = some 1 := by kernel_rfl
@[simp] theorem Try.ag177 : aggOf Try.prog 177 = some false := by kernel_rfl
@[simp] theorem Try.ze177 : zeroOf Try.prog 177 = some (.nilFunc) := by kernel_rfl
@[simp] theorem Try.ud177 : undB Try.prog 177 = true := by kernel_rfl
@[simp] theorem Try.ni177 : isNonIface Try.prog 177 = true := by kernel_rfl
@[simp] theorem Try.sz178 : szOf Try.prog 178 = some 1 := by kernel_rfl
@[simp] theorem Try.ag178 : aggOf Try.prog 178 = some false := by kernel_rfl
@[simp] theorem Try.ze178 : zeroOf Try.prog 178 = some (.slice none 0 0) := by kernel_rfl
@[simp] theorem Try.ud178 : undB Try.prog 178 = true := by kernel_rfl
@[simp] theorem Try.ni178 : isNonIface Try.prog 178 = true := by kernel_rfl
@[simp] theorem Try.el178 : elOf Try.prog 178 = some 65 := by kernel_rfl
@[simp] theorem Try.lk178 : lkOf Try.prog 178 = 1 := by kernel_rfl
@[simp] theorem Try.ix178 (H : List Blk) (x i : AV) (k : AV → Prop) (w : Wit k) : idxAddrV Try.prog H 178 x i k w = bindOW (szOf Try.prog 65) (fun sz => bindOW (intA i) (fun n => idxVW H sz x n k (wit _)) (wit _)) (wit _) := idxAddrV_sl Try.el178 H x i k w
@[simp] theorem Try.sl178 : slbOf Try.prog 178 = some (65, 1, [.int .i64 0], 8) := by kernel_rfl
@[simp] theorem Try.sz180 : szOf Try.prog 180 = some 1 := by kernel_rfl
@[simp] theorem Try.ag180 : aggOf Try.prog 180 = some false := by kernel_rfl
@[simp] theorem Try.ze180 : zeroOf Try.prog 180 = some (.nilFunc) := by kernel_rfl
@[simp] theorem Try.ud180 : undB Try.prog 180 = true := by kernel_rfl
@[simp] theorem Try.ni180 : isNonIface Try.prog 180 = true := by kernel_rfl
@[simp] theorem Try.sz209 : szOf Try.prog 209 = some 1 := by kernel_rfl
@[simp] theorem Try.ag209 : aggOf Try.prog 209 = some false := by kernel_rfl
@[simp] theorem Try.ze209 : zeroOf Try.prog 209 = some (.slice none 0 0) := by kernel_rfl
@[simp] theorem Try.ud209 : undB Try.prog 209 = true := by kernel_rfl
@[simp] theorem Try.ni209 : isNonIface Try.prog 209 = true := by kernel_rfl
@[simp] theorem Try.el209 : elOf Try.prog 209 = some 213 := by kernel_rfl
@[simp] theorem Try.lk209 : lkOf Try.prog 209 = 1 := by kernel_rfl
@[simp] theorem Try.ix209 (H : List Blk) (x i : AV) (k : AV → Prop) (w : Wit k) : idxAddrV Try.prog H 209 x i k w = bindOW (szOf Try.prog 213) (fun sz => bindOW (intA i) (fun n => idxVW H sz x n k (wit _)) (wit _)) (wit _) := idxAddrV_sl Try.el209 H x i k w
@[simp] theorem Try.sl209 : slbOf Try.prog 209 = some (213, 4, [.int .i64 0, .int .i64 0, .int .u64 0, .bool false], 32) := by kernel_rfl
@[simp] theorem Try.sz211 : szOf Try.prog 211 = some 1 := by kernel_rfl
@[simp] theorem Try.ag211 : aggOf Try.prog 211 = some false := by kernel_rfl
@[simp] theorem Try.ze211 : zeroOf Try.prog 211 = some (.int .i64 0) := by kernel_rfl
@[simp] theorem Try.ud211 : undB Try.prog 211 = true := by kernel_rfl
@[simp] theorem Try.ni211 : isNonIface Try.prog 211 = true := by kernel_rfl
@[simp] theorem Try.ko211 : kOf Try.prog 211 = some .i64 := by kernel_rfl
@[simp] theorem Try.sz212 : szOf Try.prog 212 = some 4 := by kernel_rfl
@[simp] theorem Try.ag212 : aggOf Try.prog 212 = some true := by kernel_rfl
@[simp] theorem Try.ze212 : zeroOf Try.prog 212 = some (.agg #[.int .i64 0, .int .i64 0, .int .u64 0, .bool false]) := by kernel_rfl
@[simp] theorem Try.ud212 : undB Try.prog 212 = true := by kernel_rfl
@[simp] theorem Try.ni212 : isNonIface Try.prog 212 = true := by kernel_rfl
@[simp] theorem Try.eq212 (x0 y0 : Int) (x1 y1 : Int) (x2 y2 : Int) (x3 y3 : Bool) : binE Try.prog .eql 212 (.agg [.v (.int .i64 x0), .v (.int .i64 x1), .v (.int .u64 x2), .v (.bool x3)]) (.agg [.v (.int .i64 y0), .v (.int .i64 y1), .v (.int .u64 y2), .v (.bool y3)]) = some (.v (.bool ((x0 == y0) && ((x1 == y1) && ((x2 == y2) && ((x3 == y3) && true)))))) := by kernel_rfl
@[simp] theorem Try.nq212 (x0 y0 : Int) (x1 y1 : Int) (x2 y2 : Int) (x3 y3 : Bool) : binE Try.prog .neq 212 (.agg [.v (.int .i64 x0), .v (.int .i64 x1), .v (.int .u64 x2), .v (.bool x3)]) (.agg [.v (.int .i64 y0), .v (.int .i64 y1), .v (.int .u64 y2), .v (.bool y3)]) = some (.v (.bool (!((x0 == y0) && ((x1 == y1) && ((x2 == y2) && ((x3 == y3) && true))))))) := by kernel_rfl
@[simp] theorem Try.fl212_0 : fldOf Try.prog 212 0 = some (0, 1, false) := by kernel_rfl
@[simp] theorem Try.fl212_1 : fldOf Try.prog 212 1 = some (1, 1, false) := by kernel_rfl
@[simp] theorem Try.fl212_2 : fldOf Try.prog 212 2 = some (2, 1, false) := by kernel_rfl
@[simp] theorem Try.fl212_3 : fldOf Try.prog 212 3 = some (3, 1, false) := by kernel_rfl
@[simp] theorem Try.bl212 : bldOf Try.prog 212 = some ([.int .i64 0, .int .i64 0, .int .u64 0, .bool false], [(0, 1), (1, 1), (2, 1), (3, 1)]) := by kernel_rfl
@[simp] theorem Try.sz213 : szOf Try.prog 213 = some 4 := by kernel_rfl
@[simp] theorem Try.ag213 : aggOf Try.prog 213 = some true := by kernel_rfl
@[simp] theorem Try.ze213 : zeroOf Try.prog 213 = some (.agg #[.int .i64 0, .int .i64 0, .int .u64 0, .bool false]) := by kernel_rfl
@[simp] theorem Try.ud213 : undB Try.prog 213 = true := by kernel_rfl
@[simp] theorem Try.ni213 : isNonIface Try.prog 213 = true := by kernel_rfl
@[simp] theorem Try.eq213 (x0 y0 : Int) (x1 y1 : Int) (x2 y2 : Int) (x3 y3 : Bool) : binE Try.prog .eql 213 (.agg [.v (.int .i64 x0), .v (.int .i64 x1), .v (.int .u64 x2), .v (.bool x3)]) (.agg [.v (.int .i64 y0), .v (.int .i64 y1), .v (.int .u64 y2), .v (.bool y3)]) = some (.v (.bool ((x0 == y0) && ((x1 == y1) && ((x2 == y2) && ((x3 == y3) && true)))))) := by kernel_rfl
@[simp] theorem Try.nq213 (x0 y0 : Int) (x1 y1 : Int) (x2 y2 : Int) (x3 y3 : Bool) : binE Try.prog .neq 213 (.agg [.v (.int .i64 x0), .v (.int .i64 x1), .v (.int .u64 x2), .v (.bool x3)]) (.agg [.v (.int .i64 y0), .v (.int .i64 y1), .v (.int .u64 y2), .v (.bool y3)]) = some (.v (.bool (!((x0 == y0) && ((x1 == y1) && ((x2 == y2) && ((x3 == y3) && true))))))) := by kernel_rfl
@[simp] theorem Try.fl213_0 : fldOf Try.prog 213 0 = some (0, 1, false) := by kernel_rfl
@[simp] theorem Try.fl213_1 : fldOf Try.prog 213 1 = some (1, 1, false) := by kernel_rfl
@[simp] theorem Try.fl213_2 : fldOf Try.prog 213 2 = some (2, 1, false) := by kernel_rfl
@[simp] theorem Try.fl213_3 : fldOf Try.prog 213 3 = some (3, 1, false) := by kernel_rfl
@[simp] theorem Try.bl213 : bldOf Try.prog 213 = some ([.int .i64 0, .int .i64 0, .int .u64 0, .bool false], [(0, 1), (1, 1), (2, 1), (3, 1)]) := by kernel_rfl
@[simp] theorem Try.ok2 : okFn Try.prog 2 = true := by kernel_rfl
@[simp] theorem Try.ok3 : okFn Try.prog 3 = true := by kernel_rfl
@[simp] theorem Try.ok4 : okFn Try.prog 4 = true := by kernel_rfl
@[simp] theorem Try.ok5 : okFn Try.prog 5 = true := by kernel_rfl
@[simp] theorem Try.ok6 : okFn Try.prog 6 = true := by kernel_rfl
@[simp] theorem Try.ok7 : okFn Try.prog 7 = true := by kernel_rfl
@[simp] theorem Try.ok8 : okFn Try.prog 8 = true := by kernel_rfl
@[simp] theorem Try.ok9 : okFn Try.prog 9 = true := by kernel_rfl
@[simp] theorem Try.ok10 : okFn Try.prog 10 = true := by kernel_rfl
@[simp] theorem Try.ok11 : okFn Try.prog 11 = true := by kernel_rfl
@[simp] theorem Try.ok12 : okFn Try.prog 12 = true := by kernel_rfl
@[simp] theorem Try.ok13 : okFn Try.prog 13 = true := by kernel_rfl
@[simp] theorem Try.ok14 : okFn Try.prog 14 = true := by kernel_rfl
@[simp] theorem Try.ok15 : okFn Try.prog 15 = true := by kernel_rfl
@[simp] theorem Try.ok16 : okFn Try.prog 16 = true := by kernel_rfl
@[simp] theorem Try.ok17 : okFn Try.prog 17 = true := by kernel_rfl
@[simp] theorem Try.ok18 : okFn Try.prog 18 = true := by kernel_rfl
@[simp] theorem Try.ok19 : okFn Try.prog 19 = true := by kernel_rfl
@[simp] theorem Try.ok20 : okFn Try.prog 20 = true := by kernel_rfl
@[simp] theorem Try.ok21 : okFn Try.prog 21 = true := by kernel_rfl
@[simp] theorem Try.ok22 : okFn Try.prog 22 = true := by kernel_rfl
@[simp] theorem Try.ok23 : okFn Try.prog 23 = true := by kernel_rfl
@[simp] theorem Try.ok24 : okFn Try.prog 24 = true := by kernel_rfl
@[simp] theorem Try.ok25 : okFn Try.prog 25 = true := by kernel_rfl
@[simp] theorem Try.ok26 : okFn Try.prog 26 = true := by kernel_rfl
@[simp] theorem Try.ok27 : okFn Try.prog 27 = true := by kernel_rfl
@[simp] theorem Try.ok28 : okFn Try.prog 28 = true := by kernel_rfl
@[simp] theorem Try.ok29 : okFn Try.prog 29 = true := by kernel_rfl
@[simp] theorem Try.ok30 : okFn Try.prog 30 = true := by kernel_rfl
@[simp] theorem Try.ok31 : okFn Try.prog 31 = true := by kernel_rfl
@[simp] theorem Try.ok32 : okFn Try.prog 32 = true := by kernel_rfl
@[simp] theorem Try.ok33 : okFn Try.prog 33 = true := by kernel_rfl
@[simp] theorem Try.ok34 : okFn Try.prog 34 = true := by kernel_rfl
@[simp] theorem Try.ok35 : okFn Try.prog 35 = true := by kernel_rfl
@[simp] theorem Try.ok36 : okFn Try.prog 36 = true := by kernel_rfl
@[simp] theorem Try.ok37 : okFn Try.prog 37 = true := by kernel_rfl
@[simp] theorem Try.ok38 : okFn Try.prog 38 = true := by kernel_rfl
@[simp] theorem Try.ok39 : okFn Try.prog 39 = true := by kernel_rfl
@[simp] theorem Try.ok40 : okFn Try.prog 40 = true := by kernel_rfl
@[simp] theorem Try.ok41 : okFn Try.prog 41 = true := by kernel_rfl
@[simp] theorem Try.ok42 : okFn Try.prog 42 = true := by kernel_rfl
@[simp] theorem Try.ok43 : okFn Try.prog 43 = true := by kernel_rfl
@[simp] theorem Try.ok44 : okFn Try.prog 44 = true := by kernel_rfl
@[simp] theorem Try.ok45 : okFn Try.prog 45 = true := by kernel_rfl
@[simp] theorem Try.ok46 : okFn Try.prog 46 = true := by kernel_rfl
@[simp] theorem Try.ok47 : okFn Try.prog 47 = true := by kernel_rfl
@[simp] theorem Try.ok48 : okFn Try.prog 48 = true := by kernel_rfl
@[simp] theorem Try.ok49 : okFn Try.prog 49 = true := by kernel_rfl
@[simp] theorem Try.ok50 : okFn Try.prog 50 = true := by kernel_rfl
@[simp] theorem Try.ok51 : okFn Try.prog 51 = true := by kernel_rfl
@[simp] theorem Try.ok52 : okFn Try.prog 52 = true := by kernel_rfl
@[simp] theorem Try.ok53 : okFn Try.prog 53 = true := by kernel_rfl
@[simp] theorem Try.ok54 : okFn Try.prog 54 = true := by kernel_rfl
@[simp] theorem Try.ok55 : okFn Try.prog 55 = true := by kernel_rfl
@[simp] theorem Try.ok56 : okFn Try.prog 56 = true := by kernel_rfl
@[simp] theorem Try.ok57 : okFn Try.prog 57 = true := by kernel_rfl
@[simp] theorem Try.ok58 : okFn Try.prog 58 = true := by kernel_rfl
@[simp] theorem Try.ok59 : okFn Try.prog 59 = true := by kernel_rfl
@[simp] theorem Try.ok60 : okFn Try.prog 60 = true := by kernel_rfl
@[simp] theorem Try.ok61 : okFn Try.prog 61 = true := by kernel_rfl
@[simp] theorem Try.ok62 : okFn Try.prog 62 = true := by kernel_rfl
@[simp] theorem Try.ok63 : okFn Try.prog 63 = true := by kernel_rfl
@[simp] theorem Try.ok64 : okFn Try.prog 64 = true := by kernel_rfl
@[simp] theorem Try.ok65 : okFn Try.prog 65 = true := by kernel_rfl
@[simp] theorem Try.ok66 : okFn Try.prog 66 = true := by kernel_rfl
@[simp] theorem Try.ok67 : okFn Try.prog 67 = true := by kernel_rfl
@[simp] theorem Try.ok68 : okFn Try.prog 68 = true := by kernel_rfl
@[simp] theorem Try.ok69 : okFn Try.prog 69 = true := by kernel_rfl
@[simp] theorem Try.ok70 : okFn Try.prog 70 = true := by kernel_rfl
@[simp] theorem Try.ok71 : okFn Try.prog 71 = true := by kernel_rfl
@[simp] theorem Try.ok72 : okFn Try.prog 72 = true := by kernel_rfl
@[simp] theorem Try.ok73 : okFn Try.prog 73 = true := by kernel_rfl
@[simp] theorem Try.ok74 : okFn Try.prog 74 = true := by kernel_rfl
@[simp] theorem Try.ok75 : okFn Try.prog 75 = true := by kernel_rfl
@[simp] theorem Try.ok76 : okFn Try.prog 76 = true := by kernel_rfl
@[simp] theorem Try.ok77 : okFn Try.prog 77 = true := by kernel_rfl
@[simp] theorem Try.ok78 : okFn Try.prog 78 = true := by kernel_rfl
@[simp] theorem Try.ok79 : okFn Try.prog 79 = true := by kernel_rfl
@[simp] theorem Try.ok80 : okFn Try.prog 80 = true := by kernel_rfl
@[simp] theorem Try.ok81 : okFn Try.prog 81 = true := by kernel_rfl
@[simp] theorem Try.ok82 : okFn Try.prog 82 = true := by kernel_rfl
@[simp] theorem Try.ok83 : okFn Try.prog 83 = true := by kernel_rfl
@[simp] theorem Try.ok84 : okFn Try.prog 84 = true := by kernel_rfl
@[simp] theorem Try.ok85 : okFn Try.prog 85 = true := by kernel_rfl
@[simp] theorem Try.ok86 : okFn Try.prog 86 = true := by kernel_rfl
@[simp] theorem Try.ok87 : okFn Try.prog 87 = true := by kernel_rfl
@[simp] theorem Try.ok88 : okFn Try.prog 88 = true := by kernel_rfl
@[simp] theorem Try.ok89 : okFn Try.prog 89 = true := by kernel_rfl
@[simp] theorem Try.ok90 : okFn Try.prog 90 = true := by kernel_rfl
@[simp] theorem Try.ok91 : okFn Try.prog 91 = true := by kernel_rfl
@[simp] theorem Try.ok92 : okFn Try.prog 92 = true := by kernel_rfl
@[simp] theorem Try.ok93 : okFn Try.prog 93 = true := by kernel_rfl
@[simp] theorem Try.ok94 : okFn Try.prog 94 = true := by kernel_rfl
@[simp] theorem Try.ok95 : okFn Try.prog 95 = true := by kernel_rfl
@[simp] theorem Try.ok96 : okFn Try.prog 96 = true := by kernel_rfl
@[simp] theorem Try.ok97 : okFn Try.prog 97 = true := by kernel_rfl
@[simp] theorem Try.ok98 : okFn Try.prog 98 = true := by kernel_rfl
@[simp] theorem Try.ok99 : okFn Try.prog 99 = true := by kernel_rfl
@[simp] theorem Try.ok100 : okFn Try.prog 100 = true := by kernel_rfl
@[simp] theorem Try.ok101 : okFn Try.prog 101 = true := by kernel_rfl
@[simp] theorem Try.ok102 : okFn Try.prog 102 = true := by kernel_rfl
@[simp] theorem Try.ok103 : okFn Try.prog 103 = true := by kernel_rfl
@[simp] theorem Try.ok104 : okFn Try.prog 104 = true := by kernel_rfl
@[simp] theorem Try.ok105 : okFn Try.prog 105 = true := by kernel_rfl
@[simp] theorem Try.ok106 : okFn Try.prog 106 = true := by kernel_rfl
@[simp] theorem Try.ok107 : okFn Try.prog 107 = true := by kernel_rfl
@[simp] theorem Try.ok108 : okFn Try.prog 108 = true := by kernel_rfl
@[simp] theorem Try.ok109 : okFn Try.prog 109 = true := by kernel_rfl
@[simp] theorem Try.ok110 : okFn Try.prog 110 = true := by kernel_rfl
@[simp] theorem Try.ok111 : okFn Try.prog 111 = true := by kernel_rfl
@[simp] theorem Try.ok112 : okFn Try.prog 112 = true := by kernel_rfl
@[simp] theorem Try.ok113 : okFn Try.prog 113 = true := by kernel_rfl
@[simp] theorem Try.ok114 : okFn Try.prog 114 = true := by kernel_rfl
@[simp] theorem Try.ok115 : okFn Try.prog 115 = true := by kernel_rfl
@[simp] theorem Try.ok116 : okFn Try.prog 116 = true := by kernel_rfl
@[simp] theorem Try.ok117 : okFn Try.prog 117 = true := by kernel_rfl
@[simp] theorem Try.ok118 : okFn Try.prog 118 = true := by kernel_rfl
@[simp] theorem Try.ok119 : okFn Try.prog 119 = true := by kernel_rfl
@[simp] theorem Try.ok120 : okFn Try.prog 120 = true := by kernel_rfl
@[simp] theorem Try.ok122 : okFn Try.prog 122 = true := by kernel_rfl
@[simp] theorem Try.ok123 : okFn Try.prog 123 = true := by kernel_rfl
@[simp] theorem Try.ok124 : okFn Try.prog 124 = true := by kernel_rfl
@[simp] theorem Try.ok125 : okFn Try.prog 125 = true := by kernel_rfl
@[simp] theorem Try.ok126 : okFn Try.prog 126 = true := by kernel_rfl
@[simp] theorem Try.ok127 : okFn Try.prog 127 = true := by kernel_rfl
@[simp] theorem Try.ok128 : okFn Try.prog 128 = true := by kernel_rfl
@[simp] theorem Try.ok129 : okFn Try.prog 129 = true := by kernel_rfl
@[simp] theorem Try.ok130 : okFn Try.prog 130 = true := by kernel_rfl
@[simp] theorem Try.ok131 : okFn Try.prog 131 = true := by kernel_rfl
@[simp] theorem Try.ok132 : okFn Try.prog 132 = true := by kernel_rfl
@[simp] theorem Try.ok133 : okFn Try.prog 133 = true := by kernel_rfl
@[simp] theorem Try.ok134 : okFn Try.prog 134 = true := by kernel_rfl
@[simp] theorem Try.ok135 : okFn Try.prog 135 = true := by kernel_rfl
@[simp] theorem Try.ok136 : okFn Try.prog 136 = true := by kernel_rfl
@[simp] theorem Try.ok137 : okFn Try.prog 137 = true := by kernel_rfl
@[simp] theorem Try.ok138 : okFn Try.prog 138 = true := by kernel_rfl
@[simp] theorem Try.ok139 : okFn Try.prog 139 = true := by kernel_rfl
@[simp] theorem Try.ok140 : okFn Try.prog 140 = true := by kernel_rfl
@[simp] theorem Try.ok141 : okFn Try.prog 141 = true := by kernel_rfl
@[simp] theorem Try.ok142 : okFn Try.prog 142 = true := by kernel_rfl
@[simp] theorem Try.ok143 : okFn Try.prog 143 = true := by kernel_rfl
@[simp] theorem Try.ok144 : okFn Try.prog 144 = true := by kernel_rfl
@[simp] theorem Try.ok145 : okFn Try.prog 145 = true := by kernel_rfl
@[simp] theorem Try.ok146 : okFn Try.prog 146 = true := by kernel_rfl
end Go.Proofs
