/- The program's types and functions, as the rules want them (written by a program of our own). -/
import Derived.Test.YteoimifnfkpdeaaFwMtoFwL
import Derived.Test.YteoimifnfkpdeaaProg
import Derived.KernelRfl
set_option linter.unusedVariables false
set_option linter.unusedSimpArgs false
namespace Go.Proofs
open Go.Mu
@[simp] theorem Try.sz1 : szOf Try.prog 1 = some 1 := by kernel_rfl
@[simp] theorem Try.ag1 : aggOf Try.prog 1 = some false := by kernel_rfl
@[simp] theorem Try.ze1 : zeroOf Try.prog 1 = some (.nilFunc) := by kernel_rfl
@[simp] theorem Try.ud1 : undB Try.prog 1 = true := by kernel_rfl
@[simp] theorem Try.ni1 : isNonIface Try.prog 1 = true := by kernel_rfl
@[simp] theorem Try.sz2 : szOf Try.prog 2 = some 1 := by kernel_rfl
@[simp] theorem Try.ag2 : aggOf Try.prog 2 = some false := by kernel_rfl
@[simp] theorem Try.ze2 : zeroOf Try.prog 2 = some (.int .i64 0) := by kernel_rfl
@[simp] theorem Try.ud2 : undB Try.prog 2 = true := by kernel_rfl
@[simp] theorem Try.ni2 : isNonIface Try.prog 2 = true := by kernel_rfl
@[simp] theorem Try.ko2 : kOf Try.prog 2 = some .i64 := by kernel_rfl
@[simp] theorem Try.sz3 : szOf Try.prog 3 = some 1 := by kernel_rfl
@[simp] theorem Try.ag3 : aggOf Try.prog 3 = some false := by kernel_rfl
@[simp] theorem Try.ze3 : zeroOf Try.prog 3 = some (.int .i64 0) := by kernel_rfl
@[simp] theorem Try.ud3 : undB Try.prog 3 = true := by kernel_rfl
@[simp] theorem Try.ni3 : isNonIface Try.prog 3 = true := by kernel_rfl
@[simp] theorem Try.ko3 : kOf Try.prog 3 = some .i64 := by kernel_rfl
@[simp] theorem Try.sz4 : szOf Try.prog 4 = some 1 := by kernel_rfl
@[simp] theorem Try.ag4 : aggOf Try.prog 4 = some false := by kernel_rfl
@[simp] theorem Try.ze4 : zeroOf Try.prog 4 = some (.bool false) := by kernel_rfl
@[simp] theorem Try.ud4 : undB Try.prog 4 = true := by kernel_rfl
@[simp] theorem Try.ni4 : isNonIface Try.prog 4 = true := by kernel_rfl
@[simp] theorem Try.sz5 : szOf Try.prog 5 = some 1 := by kernel_rfl
@[simp] theorem Try.ag5 : aggOf Try.prog 5 = some false := by kernel_rfl
@[simp] theorem Try.ze5 : zeroOf Try.prog 5 = some (.int .u8 0) := by kernel_rfl
@[simp] theorem Try.ud5 : undB Try.prog 5 = true := by kernel_rfl
@[simp] theorem Try.ni5 : isNonIface Try.prog 5 = true := by kernel_rfl
@[simp] theorem Try.ko5 : kOf Try.prog 5 = some .u8 := by kernel_rfl
@[simp] theorem Try.sz9 : szOf Try.prog 9 = some 1 := by kernel_rfl
@[simp] theorem Try.ag9 : aggOf Try.prog 9 = some false := by kernel_rfl
@[simp] theorem Try.ze9 : zeroOf Try.prog 9 = some (.string ByteArray.empty) := by kernel_rfl
@[simp] theorem Try.ud9 : undB Try.prog 9 = true := by kernel_rfl
@[simp] theorem Try.ni9 : isNonIface Try.prog 9 = true := by kernel_rfl
@[simp] theorem Try.lk9 : lkOf Try.prog 9 = 2 := by kernel_rfl
@[simp] theorem Try.iv9 (x i : AV) (k : AV → Prop) (w : Wit k) : idxValV Try.prog 9 x i k w = bindOW (strA x) (fun s => bindOW (intA i) (fun n => andVW (0 ≤ n) (bindOW (s.data.toList[n.toNat]?) (fun b => k (.v (.int .u8 b.toNat))) (wit _)) (wit _)) (wit _)) (wit _) := idxValV_str Try.lk9 x i k w
@[simp] theorem Try.sz20 : szOf Try.prog 20 = some 1 := by kernel_rfl
@[simp] theorem Try.ag20 : aggOf Try.prog 20 = some false := by kernel_rfl
@[simp] theorem Try.ze20 : zeroOf Try.prog 20 = some (.nilIface) := by kernel_rfl
@[simp] theorem Try.ud20 : undB Try.prog 20 = true := by kernel_rfl
@[simp] theorem Try.ni20 : isNonIface Try.prog 20 = false := by kernel_rfl
@[simp] theorem Try.sz21 : szOf Try.prog 21 = some 1 := by kernel_rfl
@[simp] theorem Try.ag21 : aggOf Try.prog 21 = some false := by kernel_rfl
@[simp] theorem Try.ze21 : zeroOf Try.prog 21 = some (.int .i32 0) := by kernel_rfl
@[simp] theorem Try.ud21 : undB Try.prog 21 = true := by kernel_rfl
@[simp] theorem Try.ni21 : isNonIface Try.prog 21 = true := by kernel_rfl
@[simp] theorem Try.ko21 : kOf Try.prog 21 = some .i32 := by kernel_rfl
@[simp] theorem Try.sz22 : szOf Try.prog 22 = some 1 := by kernel_rfl
@[simp] theorem Try.ag22 : aggOf Try.prog 22 = some false := by kernel_rfl
@[simp] theorem Try.ze22 : zeroOf Try.prog 22 = some (.slice none 0 0) := by kernel_rfl
@[simp] theorem Try.ud22 : undB Try.prog 22 = true := by kernel_rfl
@[simp] theorem Try.ni22 : isNonIface Try.prog 22 = true := by kernel_rfl
@[simp] theorem Try.el22 : elOf Try.prog 22 = some 3 := by kernel_rfl
@[simp] theorem Try.lk22 : lkOf Try.prog 22 = 1 := by kernel_rfl
@[simp] theorem Try.ix22 (H : List Blk) (x i : AV) (k : AV → Prop) (w : Wit k) : idxAddrV Try.prog H 22 x i k w = bindOW (szOf Try.prog 3) (fun sz => bindOW (intA i) (fun n => idxVW H sz x n k (wit _)) (wit _)) (wit _) := idxAddrV_sl Try.el22 H x i k w
@[simp] theorem Try.sl22 : slbOf Try.prog 22 = some (3, 1, [.int .i64 0], 8) := by kernel_rfl
@[simp] theorem Try.sz23 : szOf Try.prog 23 = some 1 := by kernel_rfl
@[simp] theorem Try.ag23 : aggOf Try.prog 23 = some false := by kernel_rfl
@[simp] theorem Try.ze23 : zeroOf Try.prog 23 = some (.slice none 0 0) := by kernel_rfl
@[simp] theorem Try.ud23 : undB Try.prog 23 = true := by kernel_rfl
@[simp] theorem Try.ni23 : isNonIface Try.prog 23 = true := by kernel_rfl
@[simp] theorem Try.el23 : elOf Try.prog 23 = some 91 := by kernel_rfl
@[simp] theorem Try.lk23 : lkOf Try.prog 23 = 1 := by kernel_rfl
@[simp] theorem Try.ix23 (H : List Blk) (x i : AV) (k : AV → Prop) (w : Wit k) : idxAddrV Try.prog H 23 x i k w = bindOW (szOf Try.prog 91) (fun sz => bindOW (intA i) (fun n => idxVW H sz x n k (wit _)) (wit _)) (wit _) := idxAddrV_sl Try.el23 H x i k w
@[simp] theorem Try.sl23 : slbOf Try.prog 23 = some (91, 13, [.int .i64 0, .int .i64 0, .int .i64 0, .int .i64 0, .int .i64 0, .int .i64 0, .int .i64 0, .int .u64 0, .bool false, .int .i64 0, .slice none 0 0, .slice none 0 0, .slice none 0 0], 152) := by kernel_rfl
@[simp] theorem Try.sz24 : szOf Try.prog 24 = some 5 := by kernel_rfl
@[simp] theorem Try.ag24 : aggOf Try.prog 24 = some true := by kernel_rfl
@[simp] theorem Try.ze24 : zeroOf Try.prog 24 = some (.agg #[.int .i64 0, .slice none 0 0, .slice none 0 0, .int .i64 0, .slice none 0 0]) := by kernel_rfl
@[simp] theorem Try.ud24 : undB Try.prog 24 = true := by kernel_rfl
@[simp] theorem Try.ni24 : isNonIface Try.prog 24 = true := by kernel_rfl
@[simp] theorem Try.fl24_0 : fldOf Try.prog 24 0 = some (0, 1, false) := by kernel_rfl
@[simp] theorem Try.fl24_1 : fldOf Try.prog 24 1 = some (1, 1, false) := by kernel_rfl
@[simp] theorem Try.fl24_2 : fldOf Try.prog 24 2 = some (2, 1, false) := by kernel_rfl
@[simp] theorem Try.fl24_3 : fldOf Try.prog 24 3 = some (3, 1, false) := by kernel_rfl
@[simp] theorem Try.fl24_4 : fldOf Try.prog 24 4 = some (4, 1, false) := by kernel_rfl
@[simp] theorem Try.bl24 : bldOf Try.prog 24 = some ([.int .i64 0, .slice none 0 0, .slice none 0 0, .int .i64 0, .slice none 0 0], [(0, 1), (1, 1), (2, 1), (3, 1), (4, 1)]) := by kernel_rfl
@[simp] theorem Try.sz25 : szOf Try.prog 25 = some 5 := by kernel_rfl
@[simp] theorem Try.ag25 : aggOf Try.prog 25 = some true := by kernel_rfl
@[simp] theorem Try.ze25 : zeroOf Try.prog 25 = some (.agg #[.int .i64 0, .slice none 0 0, .slice none 0 0, .int .i64 0, .slice none 0 0]) := by kernel_rfl
@[simp] theorem Try.ud25 : undB Try.prog 25 = true := by kernel_rfl
@[simp] theorem Try.ni25 : isNonIface Try.prog 25 = true := by kernel_rfl
@[simp] theorem Try.fl25_0 : fldOf Try.prog 25 0 = some (0, 1, false) := by kernel_rfl
@[simp] theorem Try.fl25_1 : fldOf Try.prog 25 1 = some (1, 1, false) := by kernel_rfl
@[simp] theorem Try.fl25_2 : fldOf Try.prog 25 2 = some (2, 1, false) := by kernel_rfl
@[simp] theorem Try.fl25_3 : fldOf Try.prog 25 3 = some (3, 1, false) := by kernel_rfl
@[simp] theorem Try.fl25_4 : fldOf Try.prog 25 4 = some (4, 1, false) := by kernel_rfl
@[simp] theorem Try.bl25 : bldOf Try.prog 25 = some ([.int .i64 0, .slice none 0 0, .slice none 0 0, .int .i64 0, .slice none 0 0], [(0, 1), (1, 1), (2, 1), (3, 1), (4, 1)]) := by kernel_rfl
@[simp] theorem Try.sz28 : szOf Try.prog 28 = some 1 := by kernel_rfl
@[simp] theorem Try.ag28 : aggOf Try.prog 28 = some false := by kernel_rfl
@[simp] theorem Try.ze28 : zeroOf Try.prog 28 = some (.slice none 0 0) := by kernel_rfl
@[simp] theorem Try.ud28 : undB Try.prog 28 = true := by kernel_rfl
@[simp] theorem Try.ni28 : isNonIface Try.prog 28 = true := by kernel_rfl
@[simp] theorem Try.el28 : elOf Try.prog 28 = some 45 := by kernel_rfl
@[simp] theorem Try.lk28 : lkOf Try.prog 28 = 1 := by kernel_rfl
@[simp] theorem Try.ix28 (H : List Blk) (x i : AV) (k : AV → Prop) (w : Wit k) : idxAddrV Try.prog H 28 x i k w = bindOW (szOf Try.prog 45) (fun sz => bindOW (intA i) (fun n => idxVW H sz x n k (wit _)) (wit _)) (wit _) := idxAddrV_sl Try.el28 H x i k w
@[simp] theorem Try.sl28 : slbOf Try.prog 28 = some (45, 11, [.int .i64 0, .int .i64 0, .int .i64 0, .int .i64 0, .int .i64 0, .int .i64 0, .int .i64 0, .int .u64 0, .bool false, .int .i64 0, .int .i64 0], 88) := by kernel_rfl
@[simp] theorem Try.sz29 : szOf Try.prog 29 = some 5 := by kernel_rfl
@[simp] theorem Try.ag29 : aggOf Try.prog 29 = some true := by kernel_rfl
@[simp] theorem Try.ze29 : zeroOf Try.prog 29 = some (.agg #[.int .i64 0, .slice none 0 0, .slice none 0 0, .int .i64 0, .slice none 0 0]) := by kernel_rfl
@[simp] theorem Try.ud29 : undB Try.prog 29 = true := by kernel_rfl
@[simp] theorem Try.ni29 : isNonIface Try.prog 29 = true := by kernel_rfl
@[simp] theorem Try.fl29_0 : fldOf Try.prog 29 0 = some (0, 1, false) := by kernel_rfl
@[simp] theorem Try.fl29_1 : fldOf Try.prog 29 1 = some (1, 1, false) := by kernel_rfl
@[simp] theorem Try.fl29_2 : fldOf Try.prog 29 2 = some (2, 1, false) := by kernel_rfl
@[simp] theorem Try.fl29_3 : fldOf Try.prog 29 3 = some (3, 1, false) := by kernel_rfl
@[simp] theorem Try.fl29_4 : fldOf Try.prog 29 4 = some (4, 1, false) := by kernel_rfl
@[simp] theorem Try.bl29 : bldOf Try.prog 29 = some ([.int .i64 0, .slice none 0 0, .slice none 0 0, .int .i64 0, .slice none 0 0], [(0, 1), (1, 1), (2, 1), (3, 1), (4, 1)]) := by kernel_rfl
@[simp] theorem Try.sz30 : szOf Try.prog 30 = some 5 := by kernel_rfl
@[simp] theorem Try.ag30 : aggOf Try.prog 30 = some true := by kernel_rfl
@[simp] theorem Try.ze30 : zeroOf Try.prog 30 = some (.agg #[.int .i64 0, .slice none 0 0, .slice none 0 0, .int .i64 0, .slice none 0 0]) := by kernel_rfl
@[simp] theorem Try.ud30 : undB Try.prog 30 = true := by kernel_rfl
@[simp] theorem Try.ni30 : isNonIface Try.prog 30 = true := by kernel_rfl
@[simp] theorem Try.fl30_0 : fldOf Try.prog 30 0 = some (0, 1, false) := by kernel_rfl
@[simp] theorem Try.fl30_1 : fldOf Try.prog 30 1 = some (1, 1, false) := by kernel_rfl
@[simp] theorem Try.fl30_2 : fldOf Try.prog 30 2 = some (2, 1, false) := by kernel_rfl
@[simp] theorem Try.fl30_3 : fldOf Try.prog 30 3 = some (3, 1, false) := by kernel_rfl
@[simp] theorem Try.fl30_4 : fldOf Try.prog 30 4 = some (4, 1, false) := by kernel_rfl
@[simp] theorem Try.bl30 : bldOf Try.prog 30 = some ([.int .i64 0, .slice none 0 0, .slice none 0 0, .int .i64 0, .slice none 0 0], [(0, 1), (1, 1), (2, 1), (3, 1), (4, 1)]) := by kernel_rfl
@[simp] theorem Try.sz31 : szOf Try.prog 31 = some 1 := by kernel_rfl
@[simp] theorem Try.ag31 : aggOf Try.prog 31 = some false := by kernel_rfl
@[simp] theorem Try.ze31 : zeroOf Try.prog 31 = some (.int .i64 0) := by kernel_rfl
@[simp] theorem Try.ud31 : undB Try.prog 31 = true := by kernel_rfl
@[simp] theorem Try.ni31 : isNonIface Try.prog 31 = true := by kernel_rfl
@[simp] theorem Try.ko31 : kOf Try.prog 31 = some .i64 := by kernel_rfl
@[simp] theorem Try.sz38 : szOf Try.prog 38 = some 1 := by kernel_rfl
@[simp] theorem Try.ag38 : aggOf Try.prog 38 = some false := by kernel_rfl
@[simp] theorem Try.ze38 : zeroOf Try.prog 38 = some (.int .i64 0) := by kernel_rfl
@[simp] theorem Try.ud38 : undB Try.prog 38 = true := by kernel_rfl
@[simp] theorem Try.ni38 : isNonIface Try.prog 38 = true := by kernel_rfl
@[simp] theorem Try.ko38 : kOf Try.prog 38 = some .i64 := by kernel_rfl
@[simp] theorem Try.sz39 : szOf Try.prog 39 = some 1 := by kernel_rfl
@[simp] theorem Try.ag39 : aggOf Try.prog 39 = some false := by kernel_rfl
@[simp] theorem Try.ze39 : zeroOf Try.prog 39 = some (.int .i64 0) := by kernel_rfl
@[simp] theorem Try.ud39 : undB Try.prog 39 = true := by kernel_rfl
@[simp] theorem Try.ni39 : isNonIface Try.prog 39 = true := by kernel_rfl
@[simp] theorem Try.ko39 : kOf Try.prog 39 = some .i64 := by kernel_rfl
@[simp] theorem Try.sz40 : szOf Try.prog 40 = some 1 := by kernel_rfl
@[simp] theorem Try.ag40 : aggOf Try.prog 40 = some false := by kernel_rfl
@[simp] theorem Try.ze40 : zeroOf Try.prog 40 = some (.int .i64 0) := by kernel_rfl
@[simp] theorem Try.ud40 : undB Try.prog 40 = true := by kernel_rfl
@[simp] theorem Try.ni40 : isNonIface Try.prog 40 = true := by kernel_rfl
@[simp] theorem Try.ko40 : kOf Try.prog 40 = some .i64 := by kernel_rfl
@[simp] theorem Try.sz41 : szOf Try.prog 41 = some 1 := by kernel_rfl
@[simp] theorem Try.ag41 : aggOf Try.prog 41 = some false := by kernel_rfl
@[simp] theorem Try.ze41 : zeroOf Try.prog 41 = some (.int .u64 0) := by kernel_rfl
@[simp] theorem Try.ud41 : undB Try.prog 41 = true := by kernel_rfl
@[simp] theorem Try.ni41 : isNonIface Try.prog 41 = true := by kernel_rfl
@[simp] theorem Try.ko41 : kOf Try.prog 41 = some .u64 := by kernel_rfl
@[simp] theorem Try.sz42 : szOf Try.prog 42 = some 8 := by kernel_rfl
@[simp] theorem Try.ag42 : aggOf Try.prog 42 = some true := by kernel_rfl
@[simp] theorem Try.ze42 : zeroOf Try.prog 42 = some (.agg #[.int .i64 0, .int .i64 0, .int .i64 0, .int .i64 0, .int .i64 0, .int .i64 0, .int .u64 0, .bool false]) := by kernel_rfl
@[simp] theorem Try.ud42 : undB Try.prog 42 = true := by kernel_rfl
@[simp] theorem Try.ni42 : isNonIface Try.prog 42 = true := by kernel_rfl
@[simp] theorem Try.eq42 (x0 y0 : Int) (x1 y1 : Int) (x2 y2 : Int) (x3 y3 : Int) (x4 y4 : Int) (x5 y5 : Int) (x6 y6 : Int) (x7 y7 : Bool) : binE Try.prog .eql 42 (.agg [.v (.int .i64 x0), .v (.int .i64 x1), .v (.int .i64 x2), .v (.int .i64 x3), .v (.int .i64 x4), .v (.int .i64 x5), .v (.int .u64 x6), .v (.bool x7)]) (.agg [.v (.int .i64 y0), .v (.int .i64 y1), .v (.int .i64 y2), .v (.int .i64 y3), .v (.int .i64 y4), .v (.int .i64 y5), .v (.int .u64 y6), .v (.bool y7)]) = some (.v (.bool ((x0 == y0) && ((x1 == y1) && ((x2 == y2) && ((x3 == y3) && ((x4 == y4) && ((x5 == y5) && ((x6 == y6) && ((x7 == y7) && true)))))))))) := by kernel_rfl
@[simp] theorem Try.nq42 (x0 y0 : Int) (x1 y1 : Int) (x2 y2 : Int) (x3 y3 : Int) (x4 y4 : Int) (x5 y5 : Int) (x6 y6 : Int) (x7 y7 : Bool) : binE Try.prog .neq 42 (.agg [.v (.int .i64 x0), .v (.int .i64 x1), .v (.int .i64 x2), .v (.int .i64 x3), .v (.int .i64 x4), .v (.int .i64 x5), .v (.int .u64 x6), .v (.bool x7)]) (.agg [.v (.int .i64 y0), .v (.int .i64 y1), .v (.int .i64 y2), .v (.int .i64 y3), .v (.int .i64 y4), .v (.int .i64 y5), .v (.int .u64 y6), .v (.bool y7)]) = some (.v (.bool (!((x0 == y0) && ((x1 == y1) && ((x2 == y2) && ((x3 == y3) && ((x4 == y4) && ((x5 == y5) && ((x6 == y6) && ((x7 == y7) && true))))))))))) := by kernel_rfl
@[simp] theorem Try.fl42_0 : fldOf Try.prog 42 0 = some (0, 1, false) := by kernel_rfl
@[simp] theorem Try.fl42_1 : fldOf Try.prog 42 1 = some (1, 1, false) := by kernel_rfl
@[simp] theorem Try.fl42_2 : fldOf Try.prog 42 2 = some (2, 1, false) := by kernel_rfl
@[simp] theorem Try.fl42_3 : fldOf Try.prog 42 3 = some (3, 1, false) := by kernel_rfl
@[simp] theorem Try.fl42_4 : fldOf Try.prog 42 4 = some (4, 1, false) := by kernel_rfl
@[simp] theorem Try.fl42_5 : fldOf Try.prog 42 5 = some (5, 1, false) := by kernel_rfl
@[simp] theorem Try.fl42_6 : fldOf Try.prog 42 6 = some (6, 1, false) := by kernel_rfl
@[simp] theorem Try.fl42_7 : fldOf Try.prog 42 7 = some (7, 1, false) := by kernel_rfl
@[simp] theorem Try.bl42 : bldOf Try.prog 42 = some ([.int .i64 0, .int .i64 0, .int .i64 0, .int .i64 0, .int .i64 0, .int .i64 0, .int .u64 0, .bool false], [(0, 1), (1, 1), (2, 1), (3, 1), (4, 1), (5, 1), (6, 1), (7, 1)]) := by kernel_rfl
@[simp] theorem Try.sz43 : szOf Try.prog 43 = some 8 := by kernel_rfl
@[simp] theorem Try.ag43 : aggOf Try.prog 43 = some true := by kernel_rfl
@[simp] theorem Try.ze43 : zeroOf Try.prog 43 = some (.agg #[.int .i64 0, .int .i64 0, .int .i64 0, .int .i64 0, .int .i64 0, .int .i64 0, .int .u64 0, .bool false]) := by kernel_rfl
@[simp] theorem Try.ud43 : undB Try.prog 43 = true := by kernel_rfl
@[simp] theorem Try.ni43 : isNonIface Try.prog 43 = true := by kernel_rfl
@[simp] theorem Try.eq43 (x0 y0 : Int) (x1 y1 : Int) (x2 y2 : Int) (x3 y3 : Int) (x4 y4 : Int) (x5 y5 : Int) (x6 y6 : Int) (x7 y7 : Bool) : binE Try.prog .eql 43 (.agg [.v (.int .i64 x0), .v (.int .i64 x1), .v (.int .i64 x2), .v (.int .i64 x3), .v (.int .i64 x4), .v (.int .i64 x5), .v (.int .u64 x6), .v (.bool x7)]) (.agg [.v (.int .i64 y0), .v (.int .i64 y1), .v (.int .i64 y2), .v (.int .i64 y3), .v (.int .i64 y4), .v (.int .i64 y5), .v (.int .u64 y6), .v (.bool y7)]) = some (.v (.bool ((x0 == y0) && ((x1 == y1) && ((x2 == y2) && ((x3 == y3) && ((x4 == y4) && ((x5 == y5) && ((x6 == y6) && ((x7 == y7) && true)))))))))) := by kernel_rfl
@[simp] theorem Try.nq43 (x0 y0 : Int) (x1 y1 : Int) (x2 y2 : Int) (x3 y3 : Int) (x4 y4 : Int) (x5 y5 : Int) (x6 y6 : Int) (x7 y7 : Bool) : binE Try.prog .neq 43 (.agg [.v (.int .i64 x0), .v (.int .i64 x1), .v (.int .i64 x2), .v (.int .i64 x3), .v (.int .i64 x4), .v (.int .i64 x5), .v (.int .u64 x6), .v (.bool x7)]) (.agg [.v (.int .i64 y0), .v (.int .i64 y1), .v (.int .i64 y2), .v (.int .i64 y3), .v (.int .i64 y4), .v (.int .i64 y5), .v (.int .u64 y6), .v (.bool y7)]) = some (.v (.bool (!((x0 == y0) && ((x1 == y1) && ((x2 == y2) && ((x3 == y3) && ((x4 == y4) && ((x5 == y5) && ((x6 == y6) && ((x7 == y7) && true))))))))))) := by kernel_rfl
@[simp] theorem Try.fl43_0 : fldOf Try.prog 43 0 = some (0, 1, false) := by kernel_rfl
@[simp] theorem Try.fl43_1 : fldOf Try.prog 43 1 = some (1, 1, false) := by kernel_rfl
@[simp] theorem Try.fl43_2 : fldOf Try.prog 43 2 = some (2, 1, false) := by kernel_rfl
@[simp] theorem Try.fl43_3 : fldOf Try.prog 43 3 = some (3, 1, false) := by kernel_rfl
@[simp] theorem Try.fl43_4 : fldOf Try.prog 43 4 = some (4, 1, false) := by kernel_rfl
@[simp] theorem Try.fl43_5 : fldOf Try.prog 43 5 = some (5, 1, false) := by kernel_rfl
@[simp] theorem Try.fl43_6 : fldOf Try.prog 43 6 = some (6, 1, false) := by kernel_rfl
@[simp] theorem Try.fl43_7 : fldOf Try.prog 43 7 = some (7, 1, false) := by kernel_rfl
@[simp] theorem Try.bl43 : bldOf Try.prog 43 = some ([.int .i64 0, .int .i64 0, .int .i64 0, .int .i64 0, .int .i64 0, .int .i64 0, .int .u64 0, .bool false], [(0, 1), (1, 1), (2, 1), (3, 1), (4, 1), (5, 1), (6, 1), (7, 1)]) := by kernel_rfl
@[simp] theorem Try.sz44 : szOf Try.prog 44 = some 11 := by kernel_rfl
@[simp] theorem Try.ag44 : aggOf Try.prog 44 = some true := by kernel_rfl
@[simp] theorem Try.ze44 : zeroOf Try.prog 44 = some (.agg #[.int .i64 0, .int .i64 0, .int .i64 0, .int .i64 0, .int .i64 0, .int .i64 0, .int .i64 0, .int .u64 0, .bool false, .int .i64 0, .int .i64 0]) := by kernel_rfl
@[simp] theorem Try.ud44 : undB Try.prog 44 = true := by kernel_rfl
@[simp] theorem Try.ni44 : isNonIface Try.prog 44 = true := by kernel_rfl
@[simp] theorem Try.eq44 (x0 y0 : Int) (x1 y1 : Int) (x2 y2 : Int) (x3 y3 : Int) (x4 y4 : Int) (x5 y5 : Int) (x6 y6 : Int) (x7 y7 : Int) (x8 y8 : Bool) (x9 y9 : Int) (x10 y10 : Int) : binE Try.prog .eql 44 (.agg [.v (.int .i64 x0), .v (.int .i64 x1), .v (.int .i64 x2), .v (.int .i64 x3), .v (.int .i64 x4), .v (.int .i64 x5), .v (.int .i64 x6), .v (.int .u64 x7), .v (.bool x8), .v (.int .i64 x9), .v (.int .i64 x10)]) (.agg [.v (.int .i64 y0), .v (.int .i64 y1), .v (.int .i64 y2), .v (.int .i64 y3), .v (.int .i64 y4), .v (.int .i64 y5), .v (.int .i64 y6), .v (.int .u64 y7), .v (.bool y8), .v (.int .i64 y9), .v (.int .i64 y10)]) = some (.v (.bool ((x0 == y0) && (((x1 == y1) && ((x2 == y2) && ((x3 == y3) && ((x4 == y4) && ((x5 == y5) && ((x6 == y6) && ((x7 == y7) && ((x8 == y8) && true)))))))) && ((x9 == y9) && ((x10 == y10) && true)))))) := by kernel_rfl
@[simp] theorem Try.nq44 (x0 y0 : Int) (x1 y1 : Int) (x2 y2 : Int) (x3 y3 : Int) (x4 y4 : Int) (x5 y5 : Int) (x6 y6 : Int) (x7 y7 : Int) (x8 y8 : Bool) (x9 y9 : Int) (x10 y10 : Int) : binE Try.prog .neq 44 (.agg [.v (.int .i64 x0), .v (.int .i64 x1), .v (.int .i64 x2), .v (.int .i64 x3), .v (.int .i64 x4), .v (.int .i64 x5), .v (.int .i64 x6), .v (.int .u64 x7), .v (.bool x8), .v (.int .i64 x9), .v (.int .i64 x10)]) (.agg [.v (.int .i64 y0), .v (.int .i64 y1), .v (.int .i64 y2), .v (.int .i64 y3), .v (.int .i64 y4), .v (.int .i64 y5), .v (.int .i64 y6), .v (.int .u64 y7), .v (.bool y8), .v (.int .i64 y9), .v (.int .i64 y10)]) = some (.v (.bool (!((x0 == y0) && (((x1 == y1) && ((x2 == y2) && ((x3 == y3) && ((x4 == y4) && ((x5 == y5) && ((x6 == y6) && ((x7 == y7) && ((x8 == y8) && true)))))))) && ((x9 == y9) && ((x10 == y10) && true))))))) := by kernel_rfl
@[simp] theorem Try.fl44_0 : fldOf Try.prog 44 0 = some (0, 1, false) := by kernel_rfl
@[simp] theorem Try.fl44_1 : fldOf Try.prog 44 1 = some (1, 8, true) := by kernel_rfl
@[simp] theorem Try.fl44_2 : fldOf Try.prog 44 2 = some (9, 1, false) := by kernel_rfl
@[simp] theorem Try.fl44_3 : fldOf Try.prog 44 3 = some (10, 1, false) := by kernel_rfl
@[simp] theorem Try.bl44 : bldOf Try.prog 44 = some ([.int .i64 0, .int .i64 0, .int .i64 0, .int .i64 0, .int .i64 0, .int .i64 0, .int .i64 0, .int .u64 0, .bool false, .int .i64 0, .int .i64 0], [(0, 1), (1, 8), (9, 1), (10, 1)]) := by kernel_rfl
@[simp] theorem Try.sz45 : szOf Try.prog 45 = some 11 := by kernel_rfl
@[simp] theorem Try.ag45 : aggOf Try.prog 45 = some true := by kernel_rfl
@[simp] theorem Try.ze45 : zeroOf Try.prog 45 = some (.agg #[.int .i64 0, .int .i64 0, .int .i64 0, .int .i64 0, .int .i64 0, .int .i64 0, .int .i64 0, .int .u64 0, .bool false, .int .i64 0, .int .i64 0]) := by kernel_rfl
@[simp] theorem Try.ud45 : undB Try.prog 45 = true := by kernel_rfl
@[simp] theorem Try.ni45 : isNonIface Try.prog 45 = true := by kernel_rfl
@[simp] theorem Try.eq45 (x0 y0 : Int) (x1 y1 : Int) (x2 y2 : Int) (x3 y3 : Int) (x4 y4 : Int) (x5 y5 : Int) (x6 y6 : Int) (x7 y7 : Int) (x8 y8 : Bool) (x9 y9 : Int) (x10 y10 : Int) : binE Try.prog .eql 45 (.agg [.v (.int .i64 x0), .v (.int .i64 x1), .v (.int .i64 x2), .v (.int .i64 x3), .v (.int .i64 x4), .v (.int .i64 x5), .v (.int .i64 x6), .v (.int .u64 x7), .v (.bool x8), .v (.int .i64 x9), .v (.int .i64 x10)]) (.agg [.v (.int .i64 y0), .v (.int .i64 y1), .v (.int .i64 y2), .v (.int .i64 y3), .v (.int .i64 y4), .v (.int .i64 y5), .v (.int .i64 y6), .v (.int .u64 y7), .v (.bool y8), .v (.int .i64 y9), .v (.int .i64 y10)]) = some (.v (.bool ((x0 == y0) && (((x1 == y1) && ((x2 == y2) && ((x3 == y3) && ((x4 == y4) && ((x5 == y5) && ((x6 == y6) && ((x7 == y7) && ((x8 == y8) && true)))))))) && ((x9 == y9) && ((x10 == y10) && true)))))) := by kernel_rfl
@[simp] theorem Try.nq45 (x0 y0 : Int) (x1 y1 : Int) (x2 y2 : Int) (x3 y3 : Int) (x4 y4 : Int) (x5 y5 : Int) (x6 y6 : Int) (x7 y7 : Int) (x8 y8 : Bool) (x9 y9 : Int) (x10 y10 : Int) : binE Try.prog .neq 45 (.agg [.v (.int .i64 x0), .v (.int .i64 x1), .v (.int .i64 x2), .v (.int .i64 x3), .v (.int .i64 x4), .v (.int .i64 x5), .v (.int .i64 x6), .v (.int .u64 x7), .v (.bool x8), .v (.int .i64 x9), .v (.int .i64 x10)]) (.agg [.v (.int .i64 y0), .v (.int .i64 y1), .v (.int .i64 y2), .v (.int .i64 y3), .v (.int .i64 y4), .v (.int .i64 y5), .v (.int .i64 y6), .v (.int .u64 y7), .v (.bool y8), .v (.int .i64 y9), .v (.int .i64 y10)]) = some (.v (.bool (!((x0 == y0) && (((x1 == y1) && ((x2 == y2) && ((x3 == y3) && ((x4 == y4) && ((x5 == y5) && ((x6 == y6) && ((x7 == y7) && ((x8 == y8) && true)))))))) && ((x9 == y9) && ((x10 == y10) && true))))))) := by kernel_rfl
@[simp] theorem Try.fl45_0 : fldOf Try.prog 45 0 = some (0, 1, false) := by kernel_rfl
@[simp] theorem Try.fl45_1 : fldOf Try.prog 45 1 = some (1, 8, true) := by kernel_rfl
@[simp] theorem Try.fl45_2 : fldOf Try.prog 45 2 = some (9, 1, false) := by kernel_rfl
@[simp] theorem Try.fl45_3 : fldOf Try.prog 45 3 = some (10, 1, false) := by kernel_rfl
@[simp] theorem Try.bl45 : bldOf Try.prog 45 = some ([.int .i64 0, .int .i64 0, .int .i64 0, .int .i64 0, .int .i64 0, .int .i64 0, .int .i64 0, .int .u64 0, .bool false, .int .i64 0, .int .i64 0], [(0, 1), (1, 8), (9, 1), (10, 1)]) := by kernel_rfl
@[simp] theorem Try.sz46 : szOf Try.prog 46 = some 1 := by kernel_rfl
@[simp] theorem Try.ag46 : aggOf Try.prog 46 = some false := by kernel_rfl
@[simp] theorem Try.ze46 : zeroOf Try.prog 46 = some (.int .i64 0) := by kernel_rfl
@[simp] theorem Try.ud46 : undB Try.prog 46 = true := by kernel_rfl
@[simp] theorem Try.ni46 : isNonIface Try.prog 46 = true := by kernel_rfl
@[simp] theorem Try.ko46 : kOf Try.prog 46 = some .i64 := by kernel_rfl
@[simp] theorem Try.sz49 : szOf Try.prog 49 = some 1 := by kernel_rfl
@[simp] theorem Try.ag49 : aggOf Try.prog 49 = some false := by kernel_rfl
@[simp] theorem Try.ze49 : zeroOf Try.prog 49 = some (.slice none 0 0) := by kernel_rfl
@[simp] theorem Try.ud49 : undB Try.prog 49 = true := by kernel_rfl
@[simp] theorem Try.ni49 : isNonIface Try.prog 49 = true := by kernel_rfl
@[simp] theorem Try.el49 : elOf Try.prog 49 = some 46 := by kernel_rfl
@[simp] theorem Try.lk49 : lkOf Try.prog 49 = 1 := by kernel_rfl
@[simp] theorem Try.ix49 (H : List Blk) (x i : AV) (k : AV → Prop) (w : Wit k) : idxAddrV Try.prog H 49 x i k w = bindOW (szOf Try.prog 46) (fun sz => bindOW (intA i) (fun n => idxVW H sz x n k (wit _)) (wit _)) (wit _) := idxAddrV_sl Try.el49 H x i k w
@[simp] theorem Try.sl49 : slbOf Try.prog 49 = some (46, 1, [.int .i64 0], 8) := by kernel_rfl
@[simp] theorem Try.sz51 : szOf Try.prog 51 = some 1 := by kernel_rfl
@[simp] theorem Try.ag51 : aggOf Try.prog 51 = some false := by kernel_rfl
@[simp] theorem Try.ze51 : zeroOf Try.prog 51 = some (.slice none 0 0) := by kernel_rfl
@[simp] theorem Try.ud51 : undB Try.prog 51 = true := by kernel_rfl
@[simp] theorem Try.ni51 : isNonIface Try.prog 51 = true := by kernel_rfl
@[simp] theorem Try.el51 : elOf Try.prog 51 = some 69 := by kernel_rfl
@[simp] theorem Try.lk51 : lkOf Try.prog 51 = 1 := by kernel_rfl
@[simp] theorem Try.ix51 (H : List Blk) (x i : AV) (k : AV → Prop) (w : Wit k) : idxAddrV Try.prog H 51 x i k w = bindOW (szOf Try.prog 69) (fun sz => bindOW (intA i) (fun n => idxVW H sz x n k (wit _)) (wit _)) (wit _) := idxAddrV_sl Try.el51 H x i k w
@[simp] theorem Try.sl51 : slbOf Try.prog 51 = some (69, 13, [.int .i64 0, .int .i64 0, .int .i64 0, .int .i64 0, .int .i64 0, .int .i64 0, .int .u64 0, .int .i64 0, .int .i64 0, .bool false, .bool false, .int .i64 0, .int .i64 0], 96) := by kernel_rfl
@[simp] theorem Try.sz58 : szOf Try.prog 58 = some 4 := by kernel_rfl
@[simp] theorem Try.ag58 : aggOf Try.prog 58 = some true := by kernel_rfl
@[simp] theorem Try.ze58 : zeroOf Try.prog 58 = some (.agg #[.slice none 0 0, .slice none 0 0, .slice none 0 0, .int .i64 0]) := by kernel_rfl
@[simp] theorem Try.ud58 : undB Try.prog 58 = true := by kernel_rfl
@[simp] theorem Try.ni58 : isNonIface Try.prog 58 = true := by kernel_rfl
@[simp] theorem Try.fl58_0 : fldOf Try.prog 58 0 = some (0, 1, false) := by kernel_rfl
@[simp] theorem Try.fl58_1 : fldOf Try.prog 58 1 = some (1, 1, false) := by kernel_rfl
@[simp] theorem Try.fl58_2 : fldOf Try.prog 58 2 = some (2, 1, false) := by kernel_rfl
@[simp] theorem Try.fl58_3 : fldOf Try.prog 58 3 = some (3, 1, false) := by kernel_rfl
@[simp] theorem Try.bl58 : bldOf Try.prog 58 = some ([.slice none 0 0, .slice none 0 0, .slice none 0 0, .int .i64 0], [(0, 1), (1, 1), (2, 1), (3, 1)]) := by kernel_rfl
@[simp] theorem Try.sz59 : szOf Try.prog 59 = some 4 := by kernel_rfl
@[simp] theorem Try.ag59 : aggOf Try.prog 59 = some true := by kernel_rfl
@[simp] theorem Try.ze59 : zeroOf Try.prog 59 = some (.agg #[.slice none 0 0, .slice none 0 0, .slice none 0 0, .int .i64 0]) := by kernel_rfl
@[simp] theorem Try.ud59 : undB Try.prog 59 = true := by kernel_rfl
@[simp] theorem Try.ni59 : isNonIface Try.prog 59 = true := by kernel_rfl
@[simp] theorem Try.fl59_0 : fldOf Try.prog 59 0 = some (0, 1, false) := by kernel_rfl
@[simp] theorem Try.fl59_1 : fldOf Try.prog 59 1 = some (1, 1, false) := by kernel_rfl
@[simp] theorem Try.fl59_2 : fldOf Try.prog 59 2 = some (2, 1, false) := by kernel_rfl
@[simp] theorem Try.fl59_3 : fldOf Try.prog 59 3 = some (3, 1, false) := by kernel_rfl
@[simp] theorem Try.bl59 : bldOf Try.prog 59 = some ([.slice none 0 0, .slice none 0 0, .slice none 0 0, .int .i64 0], [(0, 1), (1, 1), (2, 1), (3, 1)]) := by kernel_rfl
@[simp] theorem Try.sz62 : szOf Try.prog 62 = some 1 := by kernel_rfl
@[simp] theorem Try.ag62 : aggOf Try.prog 62 = some false := by kernel_rfl
@[simp] theorem Try.ze62 : zeroOf Try.prog 62 = some (.int .i64 0) := by kernel_rfl
@[simp] theorem Try.ud62 : undB Try.prog 62 = true := by kernel_rfl
@[simp] theorem Try.ni62 : isNonIface Try.prog 62 = true := by kernel_rfl
@[simp] theorem Try.ko62 : kOf Try.prog 62 = some .i64 := by kernel_rfl
@[simp] theorem Try.sz63 : szOf Try.prog 63 = some 1 := by kernel_rfl
@[simp] theorem Try.ag63 : aggOf Try.prog 63 = some false := by kernel_rfl
@[simp] theorem Try.ze63 : zeroOf Try.prog 63 = some (.int .i64 0) := by kernel_rfl
@[simp] theorem Try.ud63 : undB Try.prog 63 = true := by kernel_rfl
@[simp] theorem Try.ni63 : isNonIface Try.prog 63 = true := by kernel_rfl
@[simp] theorem Try.ko63 : kOf Try.prog 63 = some .i64 := by kernel_rfl
@[simp] theorem Try.sz64 : szOf Try.prog 64 = some 1 := by kernel_rfl
@[simp] theorem Try.ag64 : aggOf Try.prog 64 = some false := by kernel_rfl
@[simp] theorem Try.ze64 : zeroOf Try.prog 64 = some (.int .i64 0) := by kernel_rfl
@[simp] theorem Try.ud64 : undB Try.prog 64 = true := by kernel_rfl
@[simp] theorem Try.ni64 : isNonIface Try.prog 64 = true := by kernel_rfl
@[simp] theorem Try.ko64 : kOf Try.prog 64 = some .i64 := by kernel_rfl
@[simp] theorem Try.sz65 : szOf Try.prog 65 = some 1 := by kernel_rfl
@[simp] theorem Try.ag65 : aggOf Try.prog 65 = some false := by kernel_rfl
@[simp] theorem Try.ze65 : zeroOf Try.prog 65 = some (.int .i64 0) := by kernel_rfl
@[simp] theorem Try.ud65 : undB Try.prog 65 = true := by kernel_rfl
@[simp] theorem Try.ni65 : isNonIface Try.prog 65 = true := by kernel_rfl
@[simp] theorem Try.ko65 : kOf Try.prog 65 = some .i64 := by kernel_rfl
@[simp] theorem Try.sz66 : szOf Try.prog 66 = some 5 := by kernel_rfl
@[simp] theorem Try.ag66 : aggOf Try.prog 66 = some true := by kernel_rfl
@[simp] theorem Try.ze66 : zeroOf Try.prog 66 = some (.agg #[.int .i64 0, .int .i64 0, .bool false, .bool false, .int .i64 0]) := by kernel_rfl
@[simp] theorem Try.ud66 : undB Try.prog 66 = true := by kernel_rfl
@[simp] theorem Try.ni66 : isNonIface Try.prog 66 = true := by kernel_rfl
@[simp] theorem Try.eq66 (x0 y0 : Int) (x1 y1 : Int) (x2 y2 : Bool) (x3 y3 : Bool) (x4 y4 : Int) : binE Try.prog .eql 66 (.agg [.v (.int .i64 x0), .v (.int .i64 x1), .v (.bool x2), .v (.bool x3), .v (.int .i64 x4)]) (.agg [.v (.int .i64 y0), .v (.int .i64 y1), .v (.bool y2), .v (.bool y3), .v (.int .i64 y4)]) = some (.v (.bool ((x0 == y0) && ((x1 == y1) && ((x2 == y2) && ((x3 == y3) && ((x4 == y4) && true))))))) := by kernel_rfl
@[simp] theorem Try.nq66 (x0 y0 : Int) (x1 y1 : Int) (x2 y2 : Bool) (x3 y3 : Bool) (x4 y4 : Int) : binE Try.prog .neq 66 (.agg [.v (.int .i64 x0), .v (.int .i64 x1), .v (.bool x2), .v (.bool x3), .v (.int .i64 x4)]) (.agg [.v (.int .i64 y0), .v (.int .i64 y1), .v (.bool y2), .v (.bool y3), .v (.int .i64 y4)]) = some (.v (.bool (!((x0 == y0) && ((x1 == y1) && ((x2 == y2) && ((x3 == y3) && ((x4 == y4) && true)))))))) := by kernel_rfl
@[simp] theorem Try.fl66_0 : fldOf Try.prog 66 0 = some (0, 1, false) := by kernel_rfl
@[simp] theorem Try.fl66_1 : fldOf Try.prog 66 1 = some (1, 1, false) := by kernel_rfl
@[simp] theorem Try.fl66_2 : fldOf Try.prog 66 2 = some (2, 1, false) := by kernel_rfl
@[simp] theorem Try.fl66_3 : fldOf Try.prog 66 3 = some (3, 1, false) := by kernel_rfl
@[simp] theorem Try.fl66_4 : fldOf Try.prog 66 4 = some (4, 1, false) := by kernel_rfl
@[simp] theorem Try.bl66 : bldOf Try.prog 66 = some ([.int .i64 0, .int .i64 0, .bool false, .bool false, .int .i64 0], [(0, 1), (1, 1), (2, 1), (3, 1), (4, 1)]) := by kernel_rfl
@[simp] theorem Try.sz67 : szOf Try.prog 67 = some 5 := by kernel_rfl
@[simp] theorem Try.ag67 : aggOf Try.prog 67 = some true := by kernel_rfl
@[simp] theorem Try.ze67 : zeroOf Try.prog 67 = some (.agg #[.int .i64 0, .int .i64 0, .bool false, .bool false, .int .i64 0]) := by kernel_rfl
@[simp] theorem Try.ud67 : undB Try.prog 67 = true := by kernel_rfl
@[simp] theorem Try.ni67 : isNonIface Try.prog 67 = true := by kernel_rfl
@[simp] theorem Try.eq67 (x0 y0 : Int) (x1 y1 : Int) (x2 y2 : Bool) (x3 y3 : Bool) (x4 y4 : Int) : binE Try.prog .eql 67 (.agg [.v (.int .i64 x0), .v (.int .i64 x1), .v (.bool x2), .v (.bool x3), .v (.int .i64 x4)]) (.agg [.v (.int .i64 y0), .v (.int .i64 y1), .v (.bool y2), .v (.bool y3), .v (.int .i64 y4)]) = some (.v (.bool ((x0 == y0) && ((x1 == y1) && ((x2 == y2) && ((x3 == y3) && ((x4 == y4) && true))))))) := by kernel_rfl
@[simp] theorem Try.nq67 (x0 y0 : Int) (x1 y1 : Int) (x2 y2 : Bool) (x3 y3 : Bool) (x4 y4 : Int) : binE Try.prog .neq 67 (.agg [.v (.int .i64 x0), .v (.int .i64 x1), .v (.bool x2), .v (.bool x3), .v (.int .i64 x4)]) (.agg [.v (.int .i64 y0), .v (.int .i64 y1), .v (.bool y2), .v (.bool y3), .v (.int .i64 y4)]) = some (.v (.bool (!((x0 == y0) && ((x1 == y1) && ((x2 == y2) && ((x3 == y3) && ((x4 == y4) && true)))))))) := by kernel_rfl
@[simp] theorem Try.fl67_0 : fldOf Try.prog 67 0 = some (0, 1, false) := by kernel_rfl
@[simp] theorem Try.fl67_1 : fldOf Try.prog 67 1 = some (1, 1, false) := by kernel_rfl
@[simp] theorem Try.fl67_2 : fldOf Try.prog 67 2 = some (2, 1, false) := by kernel_rfl
@[simp] theorem Try.fl67_3 : fldOf Try.prog 67 3 = some (3, 1, false) := by kernel_rfl
@[simp] theorem Try.fl67_4 : fldOf Try.prog 67 4 = some (4, 1, false) := by kernel_rfl
@[simp] theorem Try.bl67 : bldOf Try.prog 67 = some ([.int .i64 0, .int .i64 0, .bool false, .bool false, .int .i64 0], [(0, 1), (1, 1), (2, 1), (3, 1), (4, 1)]) := by kernel_rfl
@[simp] theorem Try.sz68 : szOf Try.prog 68 = some 13 := by kernel_rfl
@[simp] theorem Try.ag68 : aggOf Try.prog 68 = some true := by kernel_rfl
@[simp] theorem Try.ze68 : zeroOf Try.prog 68 = some (.agg #[.int .i64 0, .int .i64 0, .int .i64 0, .int .i64 0, .int .i64 0, .int .i64 0, .int .u64 0, .int .i64 0, .int .i64 0, .bool false, .bool false, .int .i64 0, .int .i64 0]) := by kernel_rfl
@[simp] theorem Try.ud68 : undB Try.prog 68 = true := by kernel_rfl
@[simp] theorem Try.ni68 : isNonIface Try.prog 68 = true := by kernel_rfl
@[simp] theorem Try.eq68 (x0 y0 : Int) (x1 y1 : Int) (x2 y2 : Int) (x3 y3 : Int) (x4 y4 : Int) (x5 y5 : Int) (x6 y6 : Int) (x7 y7 : Int) (x8 y8 : Int) (x9 y9 : Bool) (x10 y10 : Bool) (x11 y11 : Int) (x12 y12 : Int) : binE Try.prog .eql 68 (.agg [.v (.int .i64 x0), .v (.int .i64 x1), .v (.int .i64 x2), .v (.int .i64 x3), .v (.int .i64 x4), .v (.int .i64 x5), .v (.int .u64 x6), .v (.int .i64 x7), .v (.int .i64 x8), .v (.bool x9), .v (.bool x10), .v (.int .i64 x11), .v (.int .i64 x12)]) (.agg [.v (.int .i64 y0), .v (.int .i64 y1), .v (.int .i64 y2), .v (.int .i64 y3), .v (.int .i64 y4), .v (.int .i64 y5), .v (.int .u64 y6), .v (.int .i64 y7), .v (.int .i64 y8), .v (.bool y9), .v (.bool y10), .v (.int .i64 y11), .v (.int .i64 y12)]) = some (.v (.bool ((x0 == y0) && ((x1 == y1) && ((x2 == y2) && ((x3 == y3) && ((x4 == y4) && ((x5 == y5) && ((x6 == y6) && (((x7 == y7) && ((x8 == y8) && ((x9 == y9) && ((x10 == y10) && ((x11 == y11) && true))))) && ((x12 == y12) && true))))))))))) := by kernel_rfl
@[simp] theorem Try.nq68 (x0 y0 : Int) (x1 y1 : Int) (x2 y2 : Int) (x3 y3 : Int) (x4 y4 : Int) (x5 y5 : Int) (x6 y6 : Int) (x7 y7 : Int) (x8 y8 : Int) (x9 y9 : Bool) (x10 y10 : Bool) (x11 y11 : Int) (x12 y12 : Int) : binE Try.prog .neq 68 (.agg [.v (.int .i64 x0), .v (.int .i64 x1), .v (.int .i64 x2), .v (.int .i64 x3), .v (.int .i64 x4), .v (.int .i64 x5), .v (.int .u64 x6), .v (.int .i64 x7), .v (.int .i64 x8), .v (.bool x9), .v (.bool x10), .v (.int .i64 x11), .v (.int .i64 x12)]) (.agg [.v (.int .i64 y0), .v (.int .i64 y1), .v (.int .i64 y2), .v (.int .i64 y3), .v (.int .i64 y4), .v (.int .i64 y5), .v (.int .u64 y6), .v (.int .i64 y7), .v (.int .i64 y8), .v (.bool y9), .v (.bool y10), .v (.int .i64 y11), .v (.int .i64 y12)]) = some (.v (.bool (!((x0 == y0) && ((x1 == y1) && ((x2 == y2) && ((x3 == y3) && ((x4 == y4) && ((x5 == y5) && ((x6 == y6) && (((x7 == y7) && ((x8 == y8) && ((x9 == y9) && ((x10 == y10) && ((x11 == y11) && true))))) && ((x12 == y12) && true)))))))))))) := by kernel_rfl
@[simp] theorem Try.fl68_0 : fldOf Try.prog 68 0 = some (0, 1, false) := by kernel_rfl
@[simp] theorem Try.fl68_1 : fldOf Try.prog 68 1 = some (1, 1, false) := by kernel_rfl
@[simp] theorem Try.fl68_2 : fldOf Try.prog 68 2 = some (2, 1, false) := by kernel_rfl
@[simp] theorem Try.fl68_3 : fldOf Try.prog 68 3 = some (3, 1, false) := by kernel_rfl
@[simp] theorem Try.fl68_4 : fldOf Try.prog 68 4 = some (4, 1, false) := by kernel_rfl
@[simp] theorem Try.fl68_5 : fldOf Try.prog 68 5 = some (5, 1, false) := by kernel_rfl
@[simp] theorem Try.fl68_6 : fldOf Try.prog 68 6 = some (6, 1, false) := by kernel_rfl
@[simp] theorem Try.fl68_7 : fldOf Try.prog 68 7 = some (7, 5, true) := by kernel_rfl
@[simp] theorem Try.fl68_8 : fldOf Try.prog 68 8 = some (12, 1, false) := by kernel_rfl
@[simp] theorem Try.bl68 : bldOf Try.prog 68 = some ([.int .i64 0, .int .i64 0, .int .i64 0, .int .i64 0, .int .i64 0, .int .i64 0, .int .u64 0, .int .i64 0, .int .i64 0, .bool false, .bool false, .int .i64 0, .int .i64 0], [(0, 1), (1, 1), (2, 1), (3, 1), (4, 1), (5, 1), (6, 1), (7, 5), (12, 1)]) := by kernel_rfl
@[simp] theorem Try.sz69 : szOf Try.prog 69 = some 13 := by kernel_rfl
@[simp] theorem Try.ag69 : aggOf Try.prog 69 = some true := by kernel_rfl
@[simp] theorem Try.ze69 : zeroOf Try.prog 69 = some (.agg #[.int .i64 0, .int .i64 0, .int .i64 0, .int .i64 0, .int .i64 0, .int .i64 0, .int .u64 0, .int .i64 0, .int .i64 0, .bool false, .bool false, .int .i64 0, .int .i64 0]) := by kernel_rfl
@[simp] theorem Try.ud69 : undB Try.prog 69 = true := by kernel_rfl
@[simp] theorem Try.ni69 : isNonIface Try.prog 69 = true := by kernel_rfl
@[simp] theorem Try.eq69 (x0 y0 : Int) (x1 y1 : Int) (x2 y2 : Int) (x3 y3 : Int) (x4 y4 : Int) (x5 y5 : Int) (x6 y6 : Int) (x7 y7 : Int) (x8 y8 : Int) (x9 y9 : Bool) (x10 y10 : Bool) (x11 y11 : Int) (x12 y12 : Int) : binE Try.prog .eql 69 (.agg [.v (.int .i64 x0), .v (.int .i64 x1), .v (.int .i64 x2), .v (.int .i64 x3), .v (.int .i64 x4), .v (.int .i64 x5), .v (.int .u64 x6), .v (.int .i64 x7), .v (.int .i64 x8), .v (.bool x9), .v (.bool x10), .v (.int .i64 x11), .v (.int .i64 x12)]) (.agg [.v (.int .i64 y0), .v (.int .i64 y1), .v (.int .i64 y2), .v (.int .i64 y3), .v (.int .i64 y4), .v (.int .i64 y5), .v (.int .u64 y6), .v (.int .i64 y7), .v (.int .i64 y8), .v (.bool y9), .v (.bool y10), .v (.int .i64 y11), .v (.int .i64 y12)]) = some (.v (.bool ((x0 == y0) && ((x1 == y1) && ((x2 == y2) && ((x3 == y3) && ((x4 == y4) && ((x5 == y5) && ((x6 == y6) && (((x7 == y7) && ((x8 == y8) && ((x9 == y9) && ((x10 == y10) && ((x11 == y11) && true))))) && ((x12 == y12) && true))))))))))) := by kernel_rfl
@[simp] theorem Try.nq69 (x0 y0 : Int) (x1 y1 : Int) (x2 y2 : Int) (x3 y3 : Int) (x4 y4 : Int) (x5 y5 : Int) (x6 y6 : Int) (x7 y7 : Int) (x8 y8 : Int) (x9 y9 : Bool) (x10 y10 : Bool) (x11 y11 : Int) (x12 y12 : Int) : binE Try.prog .neq 69 (.agg [.v (.int .i64 x0), .v (.int .i64 x1), .v (.int .i64 x2), .v (.int .i64 x3), .v (.int .i64 x4), .v (.int .i64 x5), .v (.int .u64 x6), .v (.int .i64 x7), .v (.int .i64 x8), .v (.bool x9), .v (.bool x10), .v (.int .i64 x11), .v (.int .i64 x12)]) (.agg [.v (.int .i64 y0), .v (.int .i64 y1), .v (.int .i64 y2), .v (.int .i64 y3), .v (.int .i64 y4), .v (.int .i64 y5), .v (.int .u64 y6), .v (.int .i64 y7), .v (.int .i64 y8), .v (.bool y9), .v (.bool y10), .v (.int .i64 y11), .v (.int .i64 y12)]) = some (.v (.bool (!((x0 == y0) && ((x1 == y1) && ((x2 == y2) && ((x3 == y3) && ((x4 == y4) && ((x5 == y5) && ((x6 == y6) && (((x7 == y7) && ((x8 == y8) && ((x9 == y9) && ((x10 == y10) && ((x11 == y11) && true))))) && ((x12 == y12) && true)))))))))))) := by kernel_rfl
@[simp] theorem Try.fl69_0 : fldOf Try.prog 69 0 = some (0, 1, false) := by kernel_rfl
@[simp] theorem Try.fl69_1 : fldOf Try.prog 69 1 = some (1, 1, false) := by kernel_rfl
@[simp] theorem Try.fl69_2 : fldOf Try.prog 69 2 = some (2, 1, false) := by kernel_rfl
@[simp] theorem Try.fl69_3 : fldOf Try.prog 69 3 = some (3, 1, false) := by kernel_rfl
@[simp] theorem Try.fl69_4 : fldOf Try.prog 69 4 = some (4, 1, false) := by kernel_rfl
@[simp] theorem Try.fl69_5 : fldOf Try.prog 69 5 = some (5, 1, false) := by kernel_rfl
@[simp] theorem Try.fl69_6 : fldOf Try.prog 69 6 = some (6, 1, false) := by kernel_rfl
@[simp] theorem Try.fl69_7 : fldOf Try.prog 69 7 = some (7, 5, true) := by kernel_rfl
@[simp] theorem Try.fl69_8 : fldOf Try.prog 69 8 = some (12, 1, false) := by kernel_rfl
@[simp] theorem Try.bl69 : bldOf Try.prog 69 = some ([.int .i64 0, .int .i64 0, .int .i64 0, .int .i64 0, .int .i64 0, .int .i64 0, .int .u64 0, .int .i64 0, .int .i64 0, .bool false, .bool false, .int .i64 0, .int .i64 0], [(0, 1), (1, 1), (2, 1), (3, 1), (4, 1), (5, 1), (6, 1), (7, 5), (12, 1)]) := by kernel_rfl
@[simp] theorem Try.sz73 : szOf Try.prog 73 = some 1 := by kernel_rfl
@[simp] theorem Try.ag73 : aggOf Try.prog 73 = some false := by kernel_rfl
@[simp] theorem Try.ze73 : zeroOf Try.prog 73 = some (.slice none 0 0) := by kernel_rfl
@[simp] theorem Try.ud73 : undB Try.prog 73 = true := by kernel_rfl
@[simp] theorem Try.ni73 : isNonIface Try.prog 73 = true := by kernel_rfl
@[simp] theorem Try.el73 : elOf Try.prog 73 = some 41 := by kernel_rfl
@[simp] theorem Try.lk73 : lkOf Try.prog 73 = 1 := by kernel_rfl
@[simp] theorem Try.ix73 (H : List Blk) (x i : AV) (k : AV → Prop) (w : Wit k) : idxAddrV Try.prog H 73 x i k w = bindOW (szOf Try.prog 41) (fun sz => bindOW (intA i) (fun n => idxVW H sz x n k (wit _)) (wit _)) (wit _) := idxAddrV_sl Try.el73 H x i k w
@[simp] theorem Try.sl73 : slbOf Try.prog 73 = some (41, 1, [.int .u64 0], 8) := by kernel_rfl
@[simp] theorem Try.sz74 : szOf Try.prog 74 = some 1 := by kernel_rfl
@[simp] theorem Try.ag74 : aggOf Try.prog 74 = some false := by kernel_rfl
@[simp] theorem Try.ze74 : zeroOf Try.prog 74 = some (.slice none 0 0) := by kernel_rfl
@[simp] theorem Try.ud74 : undB Try.prog 74 = true := by kernel_rfl
@[simp] theorem Try.ni74 : isNonIface Try.prog 74 = true := by kernel_rfl
@[simp] theorem Try.el74 : elOf Try.prog 74 = some 168 := by kernel_rfl
@[simp] theorem Try.lk74 : lkOf Try.prog 74 = 1 := by kernel_rfl
@[simp] theorem Try.ix74 (H : List Blk) (x i : AV) (k : AV → Prop) (w : Wit k) : idxAddrV Try.prog H 74 x i k w = bindOW (szOf Try.prog 168) (fun sz => bindOW (intA i) (fun n => idxVW H sz x n k (wit _)) (wit _)) (wit _) := idxAddrV_sl Try.el74 H x i k w
@[simp] theorem Try.sl74 : slbOf Try.prog 74 = some (168, 4, [.string ByteArray.empty, .int .i64 0, .int .i64 0, .bool false], 40) := by kernel_rfl
@[simp] theorem Try.sz75 : szOf Try.prog 75 = some 1 := by kernel_rfl
@[simp] theorem Try.ag75 : aggOf Try.prog 75 = some false := by kernel_rfl
@[simp] theorem Try.ze75 : zeroOf Try.prog 75 = some (.slice none 0 0) := by kernel_rfl
@[simp] theorem Try.ud75 : undB Try.prog 75 = true := by kernel_rfl
@[simp] theorem Try.ni75 : isNonIface Try.prog 75 = true := by kernel_rfl
@[simp] theorem Try.el75 : elOf Try.prog 75 = some 73 := by kernel_rfl
@[simp] theorem Try.lk75 : lkOf Try.prog 75 = 1 := by kernel_rfl
@[simp] theorem Try.ix75 (H : List Blk) (x i : AV) (k : AV → Prop) (w : Wit k) : idxAddrV Try.prog H 75 x i k w = bindOW (szOf Try.prog 73) (fun sz => bindOW (intA i) (fun n => idxVW H sz x n k (wit _)) (wit _)) (wit _) := idxAddrV_sl Try.el75 H x i k w
@[simp] theorem Try.sl75 : slbOf Try.prog 75 = some (73, 1, [.slice none 0 0], 24) := by kernel_rfl
@[simp] theorem Try.sz76 : szOf Try.prog 76 = some 1 := by kernel_rfl
@[simp] theorem Try.ag76 : aggOf Try.prog 76 = some false := by kernel_rfl
@[simp] theorem Try.ze76 : zeroOf Try.prog 76 = some (.pointer none) := by kernel_rfl
@[simp] theorem Try.ud76 : undB Try.prog 76 = true := by kernel_rfl
@[simp] theorem Try.ni76 : isNonIface Try.prog 76 = true := by kernel_rfl
@[simp] theorem Try.sz77 : szOf Try.prog 77 = some 1 := by kernel_rfl
@[simp] theorem Try.ag77 : aggOf Try.prog 77 = some false := by kernel_rfl
@[simp] theorem Try.ze77 : zeroOf Try.prog 77 = some (.pointer none) := by kernel_rfl
@[simp] theorem Try.ud77 : undB Try.prog 77 = true := by kernel_rfl
@[simp] theorem Try.ni77 : isNonIface Try.prog 77 = true := by kernel_rfl
@[simp] theorem Try.sz80 : szOf Try.prog 80 = some 1 := by kernel_rfl
@[simp] theorem Try.ag80 : aggOf Try.prog 80 = some false := by kernel_rfl
@[simp] theorem Try.ze80 : zeroOf Try.prog 80 = some (.slice none 0 0) := by kernel_rfl
@[simp] theorem Try.ud80 : undB Try.prog 80 = true := by kernel_rfl
@[simp] theorem Try.ni80 : isNonIface Try.prog 80 = true := by kernel_rfl
@[simp] theorem Try.el80 : elOf Try.prog 80 = some 136 := by kernel_rfl
@[simp] theorem Try.lk80 : lkOf Try.prog 80 = 1 := by kernel_rfl
@[simp] theorem Try.ix80 (H : List Blk) (x i : AV) (k : AV → Prop) (w : Wit k) : idxAddrV Try.prog H 80 x i k w = bindOW (szOf Try.prog 136) (fun sz => bindOW (intA i) (fun n => idxVW H sz x n k (wit _)) (wit _)) (wit _) := idxAddrV_sl Try.el80 H x i k w
@[simp] theorem Try.sl80 : slbOf Try.prog 80 = some (136, 3, [.bool false, .bool false, .int .u64 0], 16) := by kernel_rfl
@[simp] theorem Try.sz81 : szOf Try.prog 81 = some 4 := by kernel_rfl
@[simp] theorem Try.ag81 : aggOf Try.prog 81 = some true := by kernel_rfl
@[simp] theorem Try.ze81 : zeroOf Try.prog 81 = some (.agg #[.slice none 0 0, .slice none 0 0, .int .i64 0, .int .i64 0]) := by kernel_rfl
@[simp] theorem Try.ud81 : undB Try.prog 81 = true := by kernel_rfl
@[simp] theorem Try.ni81 : isNonIface Try.prog 81 = true := by kernel_rfl
@[simp] theorem Try.fl81_0 : fldOf Try.prog 81 0 = some (0, 1, false) := by kernel_rfl
@[simp] theorem Try.fl81_1 : fldOf Try.prog 81 1 = some (1, 1, false) := by kernel_rfl
@[simp] theorem Try.fl81_2 : fldOf Try.prog 81 2 = some (2, 1, false) := by kernel_rfl
@[simp] theorem Try.fl81_3 : fldOf Try.prog 81 3 = some (3, 1, false) := by kernel_rfl
@[simp] theorem Try.bl81 : bldOf Try.prog 81 = some ([.slice none 0 0, .slice none 0 0, .int .i64 0, .int .i64 0], [(0, 1), (1, 1), (2, 1), (3, 1)]) := by kernel_rfl
@[simp] theorem Try.sz82 : szOf Try.prog 82 = some 4 := by kernel_rfl
@[simp] theorem Try.ag82 : aggOf Try.prog 82 = some true := by kernel_rfl
@[simp] theorem Try.ze82 : zeroOf Try.prog 82 = some (.agg #[.slice none 0 0, .slice none 0 0, .int .i64 0, .int .i64 0]) := by kernel_rfl
@[simp] theorem Try.ud82 : undB Try.prog 82 = true := by kernel_rfl
@[simp] theorem Try.ni82 : isNonIface Try.prog 82 = true := by kernel_rfl
@[simp] theorem Try.fl82_0 : fldOf Try.prog 82 0 = some (0, 1, false) := by kernel_rfl
@[simp] theorem Try.fl82_1 : fldOf Try.prog 82 1 = some (1, 1, false) := by kernel_rfl
@[simp] theorem Try.fl82_2 : fldOf Try.prog 82 2 = some (2, 1, false) := by kernel_rfl
@[simp] theorem Try.fl82_3 : fldOf Try.prog 82 3 = some (3, 1, false) := by kernel_rfl
@[simp] theorem Try.bl82 : bldOf Try.prog 82 = some ([.slice none 0 0, .slice none 0 0, .int .i64 0, .int .i64 0], [(0, 1), (1, 1), (2, 1), (3, 1)]) := by kernel_rfl
@[simp] theorem Try.sz89 : szOf Try.prog 89 = some 1 := by kernel_rfl
@[simp] theorem Try.ag89 : aggOf Try.prog 89 = some false := by kernel_rfl
@[simp] theorem Try.ze89 : zeroOf Try.prog 89 = some (.int .i64 0) := by kernel_rfl
@[simp] theorem Try.ud89 : undB Try.prog 89 = true := by kernel_rfl
@[simp] theorem Try.ni89 : isNonIface Try.prog 89 = true := by kernel_rfl
@[simp] theorem Try.ko89 : kOf Try.prog 89 = some .i64 := by kernel_rfl
@[simp] theorem Try.sz90 : szOf Try.prog 90 = some 13 := by kernel_rfl
@[simp] theorem Try.ag90 : aggOf Try.prog 90 = some true := by kernel_rfl
@[simp] theorem Try.ze90 : zeroOf Try.prog 90 = some (.agg #[.int .i64 0, .int .i64 0, .int .i64 0, .int .i64 0, .int .i64 0, .int .i64 0, .int .i64 0, .int .u64 0, .bool false, .int .i64 0, .slice none 0 0, .slice none 0 0, .slice none 0 0]) := by kernel_rfl
@[simp] theorem Try.ud90 : undB Try.prog 90 = true := by kernel_rfl
@[simp] theorem Try.ni90 : isNonIface Try.prog 90 = true := by kernel_rfl
@[simp] theorem Try.fl90_0 : fldOf Try.prog 90 0 = some (0, 1, false) := by kernel_rfl
@[simp] theorem Try.fl90_1 : fldOf Try.prog 90 1 = some (1, 8, true) := by kernel_rfl
@[simp] theorem Try.fl90_2 : fldOf Try.prog 90 2 = some (9, 1, false) := by kernel_rfl
@[simp] theorem Try.fl90_3 : fldOf Try.prog 90 3 = some (10, 1, false) := by kernel_rfl
@[simp] theorem Try.fl90_4 : fldOf Try.prog 90 4 = some (11, 1, false) := by kernel_rfl
@[simp] theorem Try.fl90_5 : fldOf Try.prog 90 5 = some (12, 1, false) := by kernel_rfl
@[simp] theorem Try.bl90 : bldOf Try.prog 90 = some ([.int .i64 0, .int .i64 0, .int .i64 0, .int .i64 0, .int .i64 0, .int .i64 0, .int .i64 0, .int .u64 0, .bool false, .int .i64 0, .slice none 0 0, .slice none 0 0, .slice none 0 0], [(0, 1), (1, 8), (9, 1), (10, 1), (11, 1), (12, 1)]) := by kernel_rfl
@[simp] theorem Try.sz91 : szOf Try.prog 91 = some 13 := by kernel_rfl
@[simp] theorem Try.ag91 : aggOf Try.prog 91 = some true := by kernel_rfl
@[simp] theorem Try.ze91 : zeroOf Try.prog 91 = some (.agg #[.int .i64 0, .int .i64 0, .int .i64 0, .int .i64 0, .int .i64 0, .int .i64 0, .int .i64 0, .int .u64 0, .bool false, .int .i64 0, .slice none 0 0, .slice none 0 0, .slice none 0 0]) := by kernel_rfl
@[simp] theorem Try.ud91 : undB Try.prog 91 = true := by kernel_rfl
@[simp] theorem Try.ni91 : isNonIface Try.prog 91 = true := by kernel_rfl
@[simp] theorem Try.fl91_0 : fldOf Try.prog 91 0 = some (0, 1, false) := by kernel_rfl
@[simp] theorem Try.fl91_1 : fldOf Try.prog 91 1 = some (1, 8, true) := by kernel_rfl
@[simp] theorem Try.fl91_2 : fldOf Try.prog 91 2 = some (9, 1, false) := by kernel_rfl
@[simp] theorem Try.fl91_3 : fldOf Try.prog 91 3 = some (10, 1, false) := by kernel_rfl
@[simp] theorem Try.fl91_4 : fldOf Try.prog 91 4 = some (11, 1, false) := by kernel_rfl
@[simp] theorem Try.fl91_5 : fldOf Try.prog 91 5 = some (12, 1, false) := by kernel_rfl
@[simp] theorem Try.bl91 : bldOf Try.prog 91 = some ([.int .i64 0, .int .i64 0, .int .i64 0, .int .i64 0, .int .i64 0, .int .i64 0, .int .i64 0, .int .u64 0, .bool false, .int .i64 0, .slice none 0 0, .slice none 0 0, .slice none 0 0], [(0, 1), (1, 8), (9, 1), (10, 1), (11, 1), (12, 1)]) := by kernel_rfl
@[simp] theorem Try.sz92 : szOf Try.prog 92 = some 0 := by kernel_rfl
@[simp] theorem Try.ag92 : aggOf Try.prog 92 = some true := by kernel_rfl
@[simp] theorem Try.ze92 : zeroOf Try.prog 92 = some (.agg #[]) := by kernel_rfl
@[simp] theorem Try.ud92 : undB Try.prog 92 = true := by kernel_rfl
@[simp] theorem Try.ni92 : isNonIface Try.prog 92 = true := by kernel_rfl
@[simp] theorem Try.eq92 : binE Try.prog .eql 92 (.agg []) (.agg []) = some (.v (.bool true)) := by kernel_rfl
@[simp] theorem Try.nq92 : binE Try.prog .neq 92 (.agg []) (.agg []) = some (.v (.bool (!true))) := by kernel_rfl
@[simp] theorem Try.bl92 : bldOf Try.prog 92 = some ([], []) := by kernel_rfl
@[simp] theorem Try.sz93 : szOf Try.prog 93 = some 0 := by kernel_rfl
@[simp] theorem Try.ag93 : aggOf Try.prog 93 = some true := by kernel_rfl
@[simp] theorem Try.ze93 : zeroOf Try.prog 93 = some (.agg #[]) := by kernel_rfl
@[simp] theorem Try.ud93 : undB Try.prog 93 = true := by kernel_rfl
@[simp] theorem Try.ni93 : isNonIface Try.prog 93 = true := by kernel_rfl
@[simp] theorem Try.eq93 : binE Try.prog .eql 93 (.agg []) (.agg []) = some (.v (.bool true)) := by kernel_rfl
@[simp] theorem Try.nq93 : binE Try.prog .neq 93 (.agg []) (.agg []) = some (.v (.bool (!true))) := by kernel_rfl
@[simp] theorem Try.bl93 : bldOf Try.prog 93 = some ([], []) := by kernel_rfl
@[simp] theorem Try.sz94 : szOf Try.prog 94 = some 1 := by kernel_rfl
@[simp] theorem Try.ag94 : aggOf Try.prog 94 = some false := by kernel_rfl
@[simp] theorem Try.ze94 : zeroOf Try.prog 94 = some (.pointer none) := by kernel_rfl
@[simp] theorem Try.ud94 : undB Try.prog 94 = true := by kernel_rfl
@[simp] theorem Try.ni94 : isNonIface Try.prog 94 = true := by kernel_rfl
@[simp] theorem Try.sz95 : szOf Try.prog 95 = some 2 := by kernel_rfl
@[simp] theorem Try.ag95 : aggOf Try.prog 95 = some true := by kernel_rfl
@[simp] theorem Try.ze95 : zeroOf Try.prog 95 = some (.agg #[.slice none 0 0, .int .i64 0]) := by kernel_rfl
@[simp] theorem Try.ud95 : undB Try.prog 95 = true := by kernel_rfl
@[simp] theorem Try.ni95 : isNonIface Try.prog 95 = true := by kernel_rfl
@[simp] theorem Try.fl95_0 : fldOf Try.prog 95 0 = some (0, 1, false) := by kernel_rfl
@[simp] theorem Try.fl95_1 : fldOf Try.prog 95 1 = some (1, 1, false) := by kernel_rfl
@[simp] theorem Try.bl95 : bldOf Try.prog 95 = some ([.slice none 0 0, .int .i64 0], [(0, 1), (1, 1)]) := by kernel_rfl
@[simp] theorem Try.sz96 : szOf Try.prog 96 = some 2 := by kernel_rfl
@[simp] theorem Try.ag96 : aggOf Try.prog 96 = some true := by kernel_rfl
@[simp] theorem Try.ze96 : zeroOf Try.prog 96 = some (.agg #[.slice none 0 0, .int .i64 0]) := by kernel_rfl
@[simp] theorem Try.ud96 : undB Try.prog 96 = true := by kernel_rfl
@[simp] theorem Try.ni96 : isNonIface Try.prog 96 = true := by kernel_rfl
@[simp] theorem Try.fl96_0 : fldOf Try.prog 96 0 = some (0, 1, false) := by kernel_rfl
@[simp] theorem Try.fl96_1 : fldOf Try.prog 96 1 = some (1, 1, false) := by kernel_rfl
@[simp] theorem Try.bl96 : bldOf Try.prog 96 = some ([.slice none 0 0, .int .i64 0], [(0, 1), (1, 1)]) := by kernel_rfl
@[simp] theorem Try.sz103 : szOf Try.prog 103 = some 1 := by kernel_rfl
@[simp] theorem Try.ag103 : aggOf Try.prog 103 = some false := by kernel_rfl
@[simp] theorem Try.ze103 : zeroOf Try.prog 103 = some (.pointer none) := by kernel_rfl
@[simp] theorem Try.ud103 : undB Try.prog 103 = true := by kernel_rfl
@[simp] theorem Try.ni103 : isNonIface Try.prog 103 = true := by kernel_rfl
@[simp] theorem Try.sz104 : szOf Try.prog 104 = some 2 := by kernel_rfl
@[simp] theorem Try.ag104 : aggOf Try.prog 104 = some true := by kernel_rfl
@[simp] theorem Try.ze104 : zeroOf Try.prog 104 = some (.agg #[.slice none 0 0, .int .i64 0]) := by kernel_rfl
@[simp] theorem Try.ud104 : undB Try.prog 104 = true := by kernel_rfl
@[simp] theorem Try.ni104 : isNonIface Try.prog 104 = true := by kernel_rfl
@[simp] theorem Try.fl104_0 : fldOf Try.prog 104 0 = some (0, 1, false) := by kernel_rfl
@[simp] theorem Try.fl104_1 : fldOf Try.prog 104 1 = some (1, 1, false) := by kernel_rfl
@[simp] theorem Try.bl104 : bldOf Try.prog 104 = some ([.slice none 0 0, .int .i64 0], [(0, 1), (1, 1)]) := by kernel_rfl
@[simp] theorem Try.sz105 : szOf Try.prog 105 = some 2 := by kernel_rfl
@[simp] theorem Try.ag105 : aggOf Try.prog 105 = some true := by kernel_rfl
@[simp] theorem Try.ze105 : zeroOf Try.prog 105 = some (.agg #[.slice none 0 0, .int .i64 0]) := by kernel_rfl
@[simp] theorem Try.ud105 : undB Try.prog 105 = true := by kernel_rfl
@[simp] theorem Try.ni105 : isNonIface Try.prog 105 = true := by kernel_rfl
@[simp] theorem Try.fl105_0 : fldOf Try.prog 105 0 = some (0, 1, false) := by kernel_rfl
@[simp] theorem Try.fl105_1 : fldOf Try.prog 105 1 = some (1, 1, false) := by kernel_rfl
@[simp] theorem Try.bl105 : bldOf Try.prog 105 = some ([.slice none 0 0, .int .i64 0], [(0, 1), (1, 1)]) := by kernel_rfl
@[simp] theorem Try.sz106 : szOf Try.prog 106 = some 1 := by kernel_rfl
@[simp] theorem Try.ag106 : aggOf Try.prog 106 = some false := by kernel_rfl
@[simp] theorem Try.ze106 : zeroOf Try.prog 106 = some (.map none) := by kernel_rfl
@[simp] theorem Try.ud106 : undB Try.prog 106 = true := by kernel_rfl
@[simp] theorem Try.ni106 : isNonIface Try.prog 106 = true := by kernel_rfl
@[simp] theorem Try.lk106 : lkOf Try.prog 106 = 3 := by kernel_rfl
@[simp] theorem Try.mp106 : mapOf Try.prog 106 = some (.int .i64, .agg #[.bool false]) := by kernel_rfl
@[simp] theorem Try.sz107 : szOf Try.prog 107 = some 1 := by kernel_rfl
@[simp] theorem Try.ag107 : aggOf Try.prog 107 = some true := by kernel_rfl
@[simp] theorem Try.ze107 : zeroOf Try.prog 107 = some (.agg #[.bool false]) := by kernel_rfl
@[simp] theorem Try.ud107 : undB Try.prog 107 = true := by kernel_rfl
@[simp] theorem Try.ni107 : isNonIface Try.prog 107 = true := by kernel_rfl
@[simp] theorem Try.eq107 (x0 y0 : Bool) : binE Try.prog .eql 107 (.agg [.v (.bool x0)]) (.agg [.v (.bool y0)]) = some (.v (.bool ((x0 == y0) && true))) := by kernel_rfl
@[simp] theorem Try.nq107 (x0 y0 : Bool) : binE Try.prog .neq 107 (.agg [.v (.bool x0)]) (.agg [.v (.bool y0)]) = some (.v (.bool (!((x0 == y0) && true)))) := by kernel_rfl
@[simp] theorem Try.fl107_0 : fldOf Try.prog 107 0 = some (0, 1, false) := by kernel_rfl
@[simp] theorem Try.bl107 : bldOf Try.prog 107 = some ([.bool false], [(0, 1)]) := by kernel_rfl
@[simp] theorem Try.sz109 : szOf Try.prog 109 = some 1 := by kernel_rfl
@[simp] theorem Try.ag109 : aggOf Try.prog 109 = some false := by kernel_rfl
@[simp] theorem Try.ze109 : zeroOf Try.prog 109 = some (.nilFunc) := by kernel_rfl
@[simp] theorem Try.ud109 : undB Try.prog 109 = true := by kernel_rfl
@[simp] theorem Try.ni109 : isNonIface Try.prog 109 = true := by kernel_rfl
@[simp] theorem Try.sz110 : szOf Try.prog 110 = some 11 := by kernel_rfl
@[simp] theorem Try.ag110 : aggOf Try.prog 110 = some true := by kernel_rfl
@[simp] theorem Try.ze110 : zeroOf Try.prog 110 = some (.agg #[.int .i64 0, .int .i64 0, .int .i64 0, .int .i64 0, .int .i64 0, .int .i64 0, .int .i64 0, .int .i64 0, .int .i64 0, .int .i64 0, .int .i64 0]) := by kernel_rfl
@[simp] theorem Try.ud110 : undB Try.prog 110 = true := by kernel_rfl
@[simp] theorem Try.ni110 : isNonIface Try.prog 110 = true := by kernel_rfl
@[simp] theorem Try.ar110 : arOf Try.prog 110 = some (11, 46) := by kernel_rfl
@[simp] theorem Try.ix110 (H : List Blk) (x i : AV) (k : AV → Prop) (w : Wit k) : idxAddrV Try.prog H 110 x i k w = bindOW (szOf Try.prog 46) (fun sz => bindOW (intA i) (fun n => idxAW 11 sz x n k (wit _)) (wit _)) (wit _) := idxAddrV_ar Try.ar110 H x i k w
@[simp] theorem Try.iv110 (x i : AV) (k : AV → Prop) (w : Wit k) : idxValV Try.prog 110 x i k w = bindOW (szOf Try.prog 46) (fun sz => bindOW (aggOf Try.prog 46) (fun agg => bindOW (intA i) (fun n => bindOW (idxVal x agg 11 sz n) k (wit _)) (wit _)) (wit _)) (wit _) := idxValV_ar Try.ar110 x i k w
@[simp] theorem Try.bl110 : bldOf Try.prog 110 = some ([.int .i64 0, .int .i64 0, .int .i64 0, .int .i64 0, .int .i64 0, .int .i64 0, .int .i64 0, .int .i64 0, .int .i64 0, .int .i64 0, .int .i64 0], [(0, 1), (1, 1), (2, 1), (3, 1), (4, 1), (5, 1), (6, 1), (7, 1), (8, 1), (9, 1), (10, 1)]) := by kernel_rfl
@[simp] theorem Try.sz115 : szOf Try.prog 115 = some 1 := by kernel_rfl
@[simp] theorem Try.ag115 : aggOf Try.prog 115 = some false := by kernel_rfl
@[simp] theorem Try.ze115 : zeroOf Try.prog 115 = some (.map none) := by kernel_rfl
@[simp] theorem Try.ud115 : undB Try.prog 115 = true := by kernel_rfl
@[simp] theorem Try.ni115 : isNonIface Try.prog 115 = true := by kernel_rfl
@[simp] theorem Try.lk115 : lkOf Try.prog 115 = 3 := by kernel_rfl
@[simp] theorem Try.mp115 : mapOf Try.prog 115 = some (.int .i64, .int .i64 0) := by kernel_rfl
@[simp] theorem Try.sz116 : szOf Try.prog 116 = some 1 := by kernel_rfl
@[simp] theorem Try.ag116 : aggOf Try.prog 116 = some false := by kernel_rfl
@[simp] theorem Try.ze116 : zeroOf Try.prog 116 = some (.pointer none) := by kernel_rfl
@[simp] theorem Try.ud116 : undB Try.prog 116 = true := by kernel_rfl
@[simp] theorem Try.ni116 : isNonIface Try.prog 116 = true := by kernel_rfl
@[simp] theorem Try.sz119 : szOf Try.prog 119 = some 1 := by kernel_rfl
@[simp] theorem Try.ag119 : aggOf Try.prog 119 = some false := by kernel_rfl
@[simp] theorem Try.ze119 : zeroOf Try.prog 119 = some (.nilFunc) := by kernel_rfl
@[simp] theorem Try.ud119 : undB Try.prog 119 = true := by kernel_rfl
@[simp] theorem Try.ni119 : isNonIface Try.prog 119 = true := by kernel_rfl
@[simp] theorem Try.sz130 : szOf Try.prog 130 = some 1 := by kernel_rfl
@[simp] theorem Try.ag130 : aggOf Try.prog 130 = some false := by kernel_rfl
@[simp] theorem Try.ze130 : zeroOf Try.prog 130 = some (.slice none 0 0) := by kernel_rfl
@[simp] theorem Try.ud130 : undB Try.prog 130 = true := by kernel_rfl
@[simp] theorem Try.ni130 : isNonIface Try.prog 130 = true := by kernel_rfl
@[simp] theorem Try.el130 : elOf Try.prog 130 = some 5 := by kernel_rfl
@[simp] theorem Try.lk130 : lkOf Try.prog 130 = 1 := by kernel_rfl
@[simp] theorem Try.ix130 (H : List Blk) (x i : AV) (k : AV → Prop) (w : Wit k) : idxAddrV Try.prog H 130 x i k w = bindOW (szOf Try.prog 5) (fun sz => bindOW (intA i) (fun n => idxVW H sz x n k (wit _)) (wit _)) (wit _) := idxAddrV_sl Try.el130 H x i k w
@[simp] theorem Try.sl130 : slbOf Try.prog 130 = some (5, 1, [.int .u8 0], 1) := by kernel_rfl
@[simp] theorem Try.sz135 : szOf Try.prog 135 = some 3 := by kernel_rfl
@[simp] theorem Try.ag135 : aggOf Try.prog 135 = some true := by kernel_rfl
@[simp] theorem Try.ze135 : zeroOf Try.prog 135 = some (.agg #[.bool false, .bool false, .int .u64 0]) := by kernel_rfl
@[simp] theorem Try.ud135 : undB Try.prog 135 = true := by kernel_rfl
@[simp] theorem Try.ni135 : isNonIface Try.prog 135 = true := by kernel_rfl
@[simp] theorem Try.eq135 (x0 y0 : Bool) (x1 y1 : Bool) (x2 y2 : Int) : binE Try.prog .eql 135 (.agg [.v (.bool x0), .v (.bool x1), .v (.int .u64 x2)]) (.agg [.v (.bool y0), .v (.bool y1), .v (.int .u64 y2)]) = some (.v (.bool ((x0 == y0) && ((x1 == y1) && ((x2 == y2) && true))))) := by kernel_rfl
@[simp] theorem Try.nq135 (x0 y0 : Bool) (x1 y1 : Bool) (x2 y2 : Int) : binE Try.prog .neq 135 (.agg [.v (.bool x0), .v (.bool x1), .v (.int .u64 x2)]) (.agg [.v (.bool y0), .v (.bool y1), .v (.int .u64 y2)]) = some (.v (.bool (!((x0 == y0) && ((x1 == y1) && ((x2 == y2) && true)))))) := by kernel_rfl
@[simp] theorem Try.fl135_0 : fldOf Try.prog 135 0 = some (0, 1, false) := by kernel_rfl
@[simp] theorem Try.fl135_1 : fldOf Try.prog 135 1 = some (1, 1, false) := by kernel_rfl
@[simp] theorem Try.fl135_2 : fldOf Try.prog 135 2 = some (2, 1, false) := by kernel_rfl
@[simp] theorem Try.bl135 : bldOf Try.prog 135 = some ([.bool false, .bool false, .int .u64 0], [(0, 1), (1, 1), (2, 1)]) := by kernel_rfl
@[simp] theorem Try.sz136 : szOf Try.prog 136 = some 3 := by kernel_rfl
@[simp] theorem Try.ag136 : aggOf Try.prog 136 = some true := by kernel_rfl
@[simp] theorem Try.ze136 : zeroOf Try.prog 136 = some (.agg #[.bool false, .bool false, .int .u64 0]) := by kernel_rfl
@[simp] theorem Try.ud136 : undB Try.prog 136 = true := by kernel_rfl
@[simp] theorem Try.ni136 : isNonIface Try.prog 136 = true := by kernel_rfl
@[simp] theorem Try.eq136 (x0 y0 : Bool) (x1 y1 : Bool) (x2 y2 : Int) : binE Try.prog .eql 136 (.agg [.v (.bool x0), .v (.bool x1), .v (.int .u64 x2)]) (.agg [.v (.bool y0), .v (.bool y1), .v (.int .u64 y2)]) = some (.v (.bool ((x0 == y0) && ((x1 == y1) && ((x2 == y2) && true))))) := by kernel_rfl
@[simp] theorem Try.nq136 (x0 y0 : Bool) (x1 y1 : Bool) (x2 y2 : Int) : binE Try.prog .neq 136 (.agg [.v (.bool x0), .v (.bool x1), .v (.int .u64 x2)]) (.agg [.v (.bool y0), .v (.bool y1), .v (.int .u64 y2)]) = some (.v (.bool (!((x0 == y0) && ((x1 == y1) && ((x2 == y2) && true)))))) := by kernel_rfl
@[simp] theorem Try.fl136_0 : fldOf Try.prog 136 0 = some (0, 1, false) := by kernel_rfl
@[simp] theorem Try.fl136_1 : fldOf Try.prog 136 1 = some (1, 1, false) := by kernel_rfl
@[simp] theorem Try.fl136_2 : fldOf Try.prog 136 2 = some (2, 1, false) := by kernel_rfl
@[simp] theorem Try.bl136 : bldOf Try.prog 136 = some ([.bool false, .bool false, .int .u64 0], [(0, 1), (1, 1), (2, 1)]) := by kernel_rfl
@[simp] theorem Try.sz138 : szOf Try.prog 138 = some 1 := by kernel_rfl
@[simp] theorem Try.ag138 : aggOf Try.prog 138 = some false := by kernel_rfl
@[simp] theorem Try.ze138 : zeroOf Try.prog 138 = some (.slice none 0 0) := by kernel_rfl
@[simp] theorem Try.ud138 : undB Try.prog 138 = true := by kernel_rfl
@[simp] theorem Try.ni138 : isNonIface Try.prog 138 = true := by kernel_rfl
@[simp] theorem Try.el138 : elOf Try.prog 138 = some 23 := by kernel_rfl
@[simp] theorem Try.lk138 : lkOf Try.prog 138 = 1 := by kernel_rfl
@[simp] theorem Try.ix138 (H : List Blk) (x i : AV) (k : AV → Prop) (w : Wit k) : idxAddrV Try.prog H 138 x i k w = bindOW (szOf Try.prog 23) (fun sz => bindOW (intA i) (fun n => idxVW H sz x n k (wit _)) (wit _)) (wit _) := idxAddrV_sl Try.el138 H x i k w
@[simp] theorem Try.sl138 : slbOf Try.prog 138 = some (23, 1, [.slice none 0 0], 24) := by kernel_rfl
@[simp] theorem Try.sz139 : szOf Try.prog 139 = some 1 := by kernel_rfl
@[simp] theorem Try.ag139 : aggOf Try.prog 139 = some false := by kernel_rfl
@[simp] theorem Try.ze139 : zeroOf Try.prog 139 = some (.pointer none) := by kernel_rfl
@[simp] theorem Try.ud139 : undB Try.prog 139 = true := by kernel_rfl
@[simp] theorem Try.ni139 : isNonIface Try.prog 139 = true := by kernel_rfl
@[simp] theorem Try.sz140 : szOf Try.prog 140 = some 2 := by kernel_rfl
@[simp] theorem Try.ag140 : aggOf Try.prog 140 = some true := by kernel_rfl
@[simp] theorem Try.ze140 : zeroOf Try.prog 140 = some (.agg #[.int .i64 0, .int .i64 0]) := by kernel_rfl
@[simp] theorem Try.ud140 : undB Try.prog 140 = true := by kernel_rfl
@[simp] theorem Try.ni140 : isNonIface Try.prog 140 = true := by kernel_rfl
@[simp] theorem Try.eq140 (x0 y0 : Int) (x1 y1 : Int) : binE Try.prog .eql 140 (.agg [.v (.int .i64 x0), .v (.int .i64 x1)]) (.agg [.v (.int .i64 y0), .v (.int .i64 y1)]) = some (.v (.bool ((x0 == y0) && ((x1 == y1) && true)))) := by kernel_rfl
@[simp] theorem Try.nq140 (x0 y0 : Int) (x1 y1 : Int) : binE Try.prog .neq 140 (.agg [.v (.int .i64 x0), .v (.int .i64 x1)]) (.agg [.v (.int .i64 y0), .v (.int .i64 y1)]) = some (.v (.bool (!((x0 == y0) && ((x1 == y1) && true))))) := by kernel_rfl
@[simp] theorem Try.fl140_0 : fldOf Try.prog 140 0 = some (0, 1, false) := by kernel_rfl
@[simp] theorem Try.fl140_1 : fldOf Try.prog 140 1 = some (1, 1, false) := by kernel_rfl
@[simp] theorem Try.bl140 : bldOf Try.prog 140 = some ([.int .i64 0, .int .i64 0], [(0, 1), (1, 1)]) := by kernel_rfl
@[simp] theorem Try.sz141 : szOf Try.prog 141 = some 2 := by kernel_rfl
@[simp] theorem Try.ag141 : aggOf Try.prog 141 = some true := by kernel_rfl
@[simp] theorem Try.ze141 : zeroOf Try.prog 141 = some (.agg #[.int .i64 0, .int .i64 0]) := by kernel_rfl
@[simp] theorem Try.ud141 : undB Try.prog 141 = true := by kernel_rfl
@[simp] theorem Try.ni141 : isNonIface Try.prog 141 = true := by kernel_rfl
@[simp] theorem Try.eq141 (x0 y0 : Int) (x1 y1 : Int) : binE Try.prog .eql 141 (.agg [.v (.int .i64 x0), .v (.int .i64 x1)]) (.agg [.v (.int .i64 y0), .v (.int .i64 y1)]) = some (.v (.bool ((x0 == y0) && ((x1 == y1) && true)))) := by kernel_rfl
@[simp] theorem Try.nq141 (x0 y0 : Int) (x1 y1 : Int) : binE Try.prog .neq 141 (.agg [.v (.int .i64 x0), .v (.int .i64 x1)]) (.agg [.v (.int .i64 y0), .v (.int .i64 y1)]) = some (.v (.bool (!((x0 == y0) && ((x1 == y1) && true))))) := by kernel_rfl
@[simp] theorem Try.fl141_0 : fldOf Try.prog 141 0 = some (0, 1, false) := by kernel_rfl
@[simp] theorem Try.fl141_1 : fldOf Try.prog 141 1 = some (1, 1, false) := by kernel_rfl
@[simp] theorem Try.bl141 : bldOf Try.prog 141 = some ([.int .i64 0, .int .i64 0], [(0, 1), (1, 1)]) := by kernel_rfl
@[simp] theorem Try.sz142 : szOf Try.prog 142 = some 1 := by kernel_rfl
@[simp] theorem Try.ag142 : aggOf Try.prog 142 = some false := by kernel_rfl
@[simp] theorem Try.ze142 : zeroOf Try.prog 142 = some (.nilFunc) := by kernel_rfl
@[simp] theorem Try.ud142 : undB Try.prog 142 = true := by kernel_rfl
@[simp] theorem Try.ni142 : isNonIface Try.prog 142 = true := by kernel_rfl
@[simp] theorem Try.sz150 : szOf Try.prog 150 = some 1 := by kernel_rfl
@[simp] theorem Try.ag150 : aggOf Try.prog 150 = some false := by kernel_rfl
@[simp] theorem Try.ze150 : zeroOf Try.prog 150 = some (.slice none 0 0) := by kernel_rfl
@[simp] theorem Try.ud150 : undB Try.prog 150 = true := by kernel_rfl
@[simp] theorem Try.ni150 : isNonIface Try.prog 150 = true := by kernel_rfl
@[simp] theorem Try.el150 : elOf Try.prog 150 = some 40 := by kernel_rfl
@[simp] theorem Try.lk150 : lkOf Try.prog 150 = 1 := by kernel_rfl
@[simp] theorem Try.ix150 (H : List Blk) (x i : AV) (k : AV → Prop) (w : Wit k) : idxAddrV Try.prog H 150 x i k w = bindOW (szOf Try.prog 40) (fun sz => bindOW (intA i) (fun n => idxVW H sz x n k (wit _)) (wit _)) (wit _) := idxAddrV_sl Try.el150 H x i k w
@[simp] theorem Try.sl150 : slbOf Try.prog 150 = some (40, 1, [.int .i64 0], 8) := by kernel_rfl
@[simp] theorem Try.sz151 : szOf Try.prog 151 = some 1 := by kernel_rfl
@[simp] theorem Try.ag151 : aggOf Try.prog 151 = some false := by kernel_rfl
@[simp] theorem Try.ze151 : zeroOf Try.prog 151 = some (.slice none 0 0) := by kernel_rfl
@[simp] theorem Try.ud151 : undB Try.prog 151 = true := by kernel_rfl
@[simp] theorem Try.ni151 : isNonIface Try.prog 151 = true := by kernel_rfl
@[simp] theorem Try.el151 : elOf Try.prog 151 = some 63 := by kernel_rfl
@[simp] theorem Try.lk151 : lkOf Try.prog 151 = 1 := by kernel_rfl
@[simp] theorem Try.ix151 (H : List Blk) (x i : AV) (k : AV → Prop) (w : Wit k) : idxAddrV Try.prog H 151 x i k w = bindOW (szOf Try.prog 63) (fun sz => bindOW (intA i) (fun n => idxVW H sz x n k (wit _)) (wit _)) (wit _) := idxAddrV_sl Try.el151 H x i k w
@[simp] theorem Try.sl151 : slbOf Try.prog 151 = some (63, 1, [.int .i64 0], 8) := by kernel_rfl
@[simp] theorem Try.sz152 : szOf Try.prog 152 = some 1 := by kernel_rfl
@[simp] theorem Try.ag152 : aggOf Try.prog 152 = some false := by kernel_rfl
@[simp] theorem Try.ze152 : zeroOf Try.prog 152 = some (.slice none 0 0) := by kernel_rfl
@[simp] theorem Try.ud152 : undB Try.prog 152 = true := by kernel_rfl
@[simp] theorem Try.ni152 : isNonIface Try.prog 152 = true := by kernel_rfl
@[simp] theorem Try.el152 : elOf Try.prog 152 = some 64 := by kernel_rfl
@[simp] theorem Try.lk152 : lkOf Try.prog 152 = 1 := by kernel_rfl
@[simp] theorem Try.ix152 (H : List Blk) (x i : AV) (k : AV → Prop) (w : Wit k) : idxAddrV Try.prog H 152 x i k w = bindOW (szOf Try.prog 64) (fun sz => bindOW (intA i) (fun n => idxVW H sz x n k (wit _)) (wit _)) (wit _) := idxAddrV_sl Try.el152 H x i k w
@[simp] theorem Try.sl152 : slbOf Try.prog 152 = some (64, 1, [.int .i64 0], 8) := by kernel_rfl
@[simp] theorem Try.sz153 : szOf Try.prog 153 = some 1 := by kernel_rfl
@[simp] theorem Try.ag153 : aggOf Try.prog 153 = some false := by kernel_rfl
@[simp] theorem Try.ze153 : zeroOf Try.prog 153 = some (.slice none 0 0) := by kernel_rfl
@[simp] theorem Try.ud153 : undB Try.prog 153 = true := by kernel_rfl
@[simp] theorem Try.ni153 : isNonIface Try.prog 153 = true := by kernel_rfl
@[simp] theorem Try.el153 : elOf Try.prog 153 = some 65 := by kernel_rfl
@[simp] theorem Try.lk153 : lkOf Try.prog 153 = 1 := by kernel_rfl
@[simp] theorem Try.ix153 (H : List Blk) (x i : AV) (k : AV → Prop) (w : Wit k) : idxAddrV Try.prog H 153 x i k w = bindOW (szOf Try.prog 65) (fun sz => bindOW (intA i) (fun n => idxVW H sz x n k (wit _)) (wit _)) (wit _) := idxAddrV_sl Try.el153 H x i k w
@[simp] theorem Try.sl153 : slbOf Try.prog 153 = some (65, 1, [.int .i64 0], 8) := by kernel_rfl
@[simp] theorem Try.sz154 : szOf Try.prog 154 = some 2 := by kernel_rfl
@[simp] theorem Try.ag154 : aggOf Try.prog 154 = some true := by kernel_rfl
@[simp] theorem Try.ze154 : zeroOf Try.prog 154 = some (.agg #[.slice none 0 0, .map none]) := by kernel_rfl
@[simp] theorem Try.ud154 : undB Try.prog 154 = true := by kernel_rfl
@[simp] theorem Try.ni154 : isNonIface Try.prog 154 = true := by kernel_rfl
@[simp] theorem Try.fl154_0 : fldOf Try.prog 154 0 = some (0, 1, false) := by kernel_rfl
@[simp] theorem Try.fl154_1 : fldOf Try.prog 154 1 = some (1, 1, false) := by kernel_rfl
@[simp] theorem Try.bl154 : bldOf Try.prog 154 = some ([.slice none 0 0, .map none], [(0, 1), (1, 1)]) := by kernel_rfl
@[simp] theorem Try.sz155 : szOf Try.prog 155 = some 2 := by kernel_rfl
@[simp] theorem Try.ag155 : aggOf Try.prog 155 = some true := by kernel_rfl
@[simp] theorem Try.ze155 : zeroOf Try.prog 155 = some (.agg #[.slice none 0 0, .map none]) := by kernel_rfl
@[simp] theorem Try.ud155 : undB Try.prog 155 = true := by kernel_rfl
@[simp] theorem Try.ni155 : isNonIface Try.prog 155 = true := by kernel_rfl
@[simp] theorem Try.fl155_0 : fldOf Try.prog 155 0 = some (0, 1, false) := by kernel_rfl
@[simp] theorem Try.fl155_1 : fldOf Try.prog 155 1 = some (1, 1, false) := by kernel_rfl
@[simp] theorem Try.bl155 : bldOf Try.prog 155 = some ([.slice none 0 0, .map none], [(0, 1), (1, 1)]) := by kernel_rfl
@[simp] theorem Try.sz156 : szOf Try.prog 156 = some 1 := by kernel_rfl
@[simp] theorem Try.ag156 : aggOf Try.prog 156 = some false := by kernel_rfl
@[simp] theorem Try.ze156 : zeroOf Try.prog 156 = some (.nilFunc) := by kernel_rfl
@[simp] theorem Try.ud156 : undB Try.prog 156 = true := by kernel_rfl
@[simp] theorem Try.ni156 : isNonIface Try.prog 156 = true := by kernel_rfl
@[simp] theorem Try.sz157 : szOf Try.prog 157 = some 1 := by kernel_rfl
@[simp] theorem Try.ag157 : aggOf Try.prog 157 = some false := by kernel_rfl
@[simp] theorem Try.ze157 : zeroOf Try.prog 157 = some (.nilFunc) := by kernel_rfl
@[simp] theorem Try.ud157 : undB Try.prog 157 = true := by kernel_rfl
@[simp] theorem Try.ni157 : isNonIface Try.prog 157 = true := by kernel_rfl
@[simp] theorem Try.sz160 : szOf Try.prog 160 = some 1 := by kernel_rfl
@[simp] theorem Try.ag160 : aggOf Try.prog 160 = some false := by kernel_rfl
@[simp] theorem Try.ze160 : zeroOf Try.prog 160 = some (.map none) := by kernel_rfl
@[simp] theorem Try.ud160 : undB Try.prog 160 = true := by kernel_rfl
@[simp] theorem Try.ni160 : isNonIface Try.prog 160 = true := by kernel_rfl
@[simp] theorem Try.lk160 : lkOf Try.prog 160 = 3 := by kernel_rfl
@[simp] theorem Try.mp160 : mapOf Try.prog 160 = some (.int .i64, .int .i64 0) := by kernel_rfl
@[simp] theorem Try.sz165 : szOf Try.prog 165 = some 1 := by kernel_rfl
@[simp] theorem Try.ag165 : aggOf Try.prog 165 = some false := by kernel_rfl
@[simp] theorem Try.ze165 : zeroOf Try.prog 165 = some (.nilFunc) := by kernel_rfl
@[simp] theorem Try.ud165 : undB Try.prog 165 = true := by kernel_rfl
@[simp] theorem Try.ni165 : isNonIface Try.prog 165 = true := by kernel_rfl
@[simp] theorem Try.sz167 : szOf Try.prog 167 = some 4 := by kernel_rfl
@[simp] theorem Try.ag167 : aggOf Try.prog 167 = some true := by kernel_rfl
@[simp] theorem Try.ze167 : zeroOf Try.prog 167 = some (.agg #[.string ByteArray.empty, .int .i64 0, .int .i64 0, .bool false]) := by kernel_rfl
@[simp] theorem Try.ud167 : undB Try.prog 167 = true := by kernel_rfl
@[simp] theorem Try.ni167 : isNonIface Try.prog 167 = true := by kernel_rfl
@[simp] theorem Try.eq167 (x0 y0 : ByteArray) (x1 y1 : Int) (x2 y2 : Int) (x3 y3 : Bool) : binE Try.prog .eql 167 (.agg [.v (.string x0), .v (.int .i64 x1), .v (.int .i64 x2), .v (.bool x3)]) (.agg [.v (.string y0), .v (.int .i64 y1), .v (.int .i64 y2), .v (.bool y3)]) = some (.v (.bool ((x0.toList == y0.toList) && ((x1 == y1) && ((x2 == y2) && ((x3 == y3) && true)))))) := by kernel_rfl
@[simp] theorem Try.nq167 (x0 y0 : ByteArray) (x1 y1 : Int) (x2 y2 : Int) (x3 y3 : Bool) : binE Try.prog .neq 167 (.agg [.v (.string x0), .v (.int .i64 x1), .v (.int .i64 x2), .v (.bool x3)]) (.agg [.v (.string y0), .v (.int .i64 y1), .v (.int .i64 y2), .v (.bool y3)]) = some (.v (.bool (!((x0.toList == y0.toList) && ((x1 == y1) && ((x2 == y2) && ((x3 == y3) && true))))))) := by kernel_rfl
@[simp] theorem Try.fl167_0 : fldOf Try.prog 167 0 = some (0, 1, false) := by kernel_rfl
@[simp] theorem Try.fl167_1 : fldOf Try.prog 167 1 = some (1, 1, false) := by kernel_rfl
@[simp] theorem Try.fl167_2 : fldOf Try.prog 167 2 = some (2, 1, false) := by kernel_rfl
@[simp] theorem Try.fl167_3 : fldOf Try.prog 167 3 = some (3, 1, false) := by kernel_rfl
@[simp] theorem Try.bl167 : bldOf Try.prog 167 = some ([.string ByteArray.empty, .int .i64 0, .int .i64 0, .bool false], [(0, 1), (1, 1), (2, 1), (3, 1)]) := by kernel_rfl
@[simp] theorem Try.sz168 : szOf Try.prog 168 = some 4 := by kernel_rfl
@[simp] theorem Try.ag168 : aggOf Try.prog 168 = some true := by kernel_rfl
@[simp] theorem Try.ze168 : zeroOf Try.prog 168 = some (.agg #[.string ByteArray.empty, .int .i64 0, .int .i64 0, .bool false]) := by kernel_rfl
@[simp] theorem Try.ud168 : undB Try.prog 168 = true := by kernel_rfl
@[simp] theorem Try.ni168 : isNonIface Try.prog 168 = true := by kernel_rfl
@[simp] theorem Try.eq168 (x0 y0 : ByteArray) (x1 y1 : Int) (x2 y2 : Int) (x3 y3 : Bool) : binE Try.prog .eql 168 (.agg [.v (.string x0), .v (.int .i64 x1), .v (.int .i64 x2), .v (.bool x3)]) (.agg [.v (.string y0), .v (.int .i64 y1), .v (.int .i64 y2), .v (.bool y3)]) = some (.v (.bool ((x0.toList == y0.toList) && ((x1 == y1) && ((x2 == y2) && ((x3 == y3) && true)))))) := by kernel_rfl
@[simp] theorem Try.nq168 (x0 y0 : ByteArray) (x1 y1 : Int) (x2 y2 : Int) (x3 y3 : Bool) : binE Try.prog .neq 168 (.agg [.v (.string x0), .v (.int .i64 x1), .v (.int .i64 x2), .v (.bool x3)]) (.agg [.v (.string y0), .v (.int .i64 y1), .v (.int .i64 y2), .v (.bool y3)]) = some (.v (.bool (!((x0.toList == y0.toList) && ((x1 == y1) && ((x2 == y2) && ((x3 == y3) && true))))))) := by kernel_rfl
@[simp] theorem Try.fl168_0 : fldOf Try.prog 168 0 = some (0, 1, false) := by kernel_rfl
@[simp] theorem Try.fl168_1 : fldOf Try.prog 168 1 = some (1, 1, false) := by kernel_rfl
@[simp] theorem Try.fl168_2 : fldOf Try.prog 168 2 = some (2, 1, false) := by kernel_rfl
@[simp] theorem Try.fl168_3 : fldOf Try.prog 168 3 = some (3, 1, false) := by kernel_rfl
@[simp] theorem Try.bl168 : bldOf Try.prog 168 = some ([.string ByteArray.empty, .int .i64 0, .int .i64 0, .bool false], [(0, 1), (1, 1), (2, 1), (3, 1)]) := by kernel_rfl
@[simp] theorem Try.sz171 : szOf Try.prog 171 = some 2 := by kernel_rfl
@[simp] theorem Try.ag171 : aggOf Try.prog 171 = some true := by kernel_rfl
@[simp] theorem Try.ze171 : zeroOf Try.prog 171 = some (.agg #[.slice none 0 0, .slice none 0 0]) := by kernel_rfl
@[simp] theorem Try.ud171 : undB Try.prog 171 = true := by kernel_rfl
@[simp] theorem Try.ni171 : isNonIface Try.prog 171 = true := by kernel_rfl
@[simp] theorem Try.fl171_0 : fldOf Try.prog 171 0 = some (0, 1, false) := by kernel_rfl
@[simp] theorem Try.fl171_1 : fldOf Try.prog 171 1 = some (1, 1, false) := by kernel_rfl
@[simp] theorem Try.bl171 : bldOf Try.prog 171 = some ([.slice none 0 0, .slice none 0 0], [(0, 1), (1, 1)]) := by kernel_rfl
@[simp] theorem Try.sz172 : szOf Try.prog 172 = some 2 := by kernel_rfl
@[simp] theorem Try.ag172 : aggOf Try.prog 172 = some true := by kernel_rfl
@[simp] theorem Try.ze172 : zeroOf Try.prog 172 = some (.agg #[.slice none 0 0, .slice none 0 0]) := by kernel_rfl
@[simp] theorem Try.ud172 : undB Try.prog 172 = true := by kernel_rfl
@[simp] theorem Try.ni172 : isNonIface Try.prog 172 = true := by kernel_rfl
@[simp] theorem Try.fl172_0 : fldOf Try.prog 172 0 = some (0, 1, false) := by kernel_rfl
@[simp] theorem Try.fl172_1 : fldOf Try.prog 172 1 = some (1, 1, false) := by kernel_rfl
@[simp] theorem Try.bl172 : bldOf Try.prog 172 = some ([.slice none 0 0, .slice none 0 0], [(0, 1), (1, 1)]) := by kernel_rfl
@[simp] theorem Try.sz174 : szOf Try.prog 174 = some 1 := by kernel_rfl
@[simp] theorem Try.ag174 : aggOf Try.prog 174 = some false := by kernel_rfl
@[simp] theorem Try.ze174 : zeroOf Try.prog 174 = some (.pointer none) := by kernel_rfl
@[simp] theorem Try.ud174 : undB Try.prog 174 = true := by kernel_rfl
@[simp] theorem Try.ni174 : isNonIface Try.prog 174 = true := by kernel_rfl
@[simp] theorem Try.sz175 : szOf Try.prog 175 = some 2 := by kernel_rfl
@[simp] theorem Try.ag175 : aggOf Try.prog 175 = some true := by kernel_rfl
@[simp] theorem Try.ze175 : zeroOf Try.prog 175 = some (.agg #[.slice none 0 0, .pointer none]) := by kernel_rfl
@[simp] theorem Try.ud175 : undB Try.prog 175 = true := by kernel_rfl
@[simp] theorem Try.ni175 : isNonIface Try.prog 175 = true := by kernel_rfl
@[simp] theorem Try.fl175_0 : fldOf Try.prog 175 0 = some (0, 1, false) := by kernel_rfl
@[simp] theorem Try.fl175_1 : fldOf Try.prog 175 1 = some (1, 1, false) := by kernel_rfl
@[simp] theorem Try.bl175 : bldOf Try.prog 175 = some ([.slice none 0 0, .pointer none], [(0, 1), (1, 1)]) := by kernel_rfl
@[simp] theorem Try.sz176 : szOf Try.prog 176 = some 2 := by kernel_rfl
@[simp] theorem Try.ag176 : aggOf Try.prog 176 = some true := by kernel_rfl
@[simp] theorem Try.ze176 : zeroOf Try.prog 176 = some (.agg #[.slice none 0 0, .pointer none]) := by kernel_rfl
@[simp] theorem Try.ud176 : undB Try.prog 176 = true := by kernel_rfl
@[simp] theorem Try.ni176 : isNonIface Try.prog 176 = true := by kernel_rfl
@[simp] theorem Try.fl176_0 : fldOf Try.prog 176 0 = some (0, 1, false) := by kernel_rfl
@[simp] theorem Try.fl176_1 : fldOf Try.prog 176 1 = some (1, 1, false) := by kernel_rfl
@[simp] theorem Try.bl176 : bldOf Try.prog 176 = some ([.slice none 0 0, .pointer none], [(0, 1), (1, 1)]) := by kernel_rfl
@[simp] theorem Try.sz185 : szOf Try.prog 185 = some 1 := by kernel_rfl
@[simp] theorem Try.ag185 : aggOf Try.prog 185 = some false := by kernel_rfl
@[simp] theorem Try.ze185 : zeroOf Try.prog 185 = some (.map none) := by kernel_rfl
@[simp] theorem Try.ud185 : undB Try.prog 185 = true := by kernel_rfl
@[simp] theorem Try.ni185 : isNonIface Try.prog 185 = true := by kernel_rfl
@[simp] theorem Try.lk185 : lkOf Try.prog 185 = 3 := by kernel_rfl
@[simp] theorem Try.mp185 : mapOf Try.prog 185 = some (.int .i64, .int .i64 0) := by kernel_rfl
@[simp] theorem Try.sz188 : szOf Try.prog 188 = some 1 := by kernel_rfl
@[simp] theorem Try.ag188 : aggOf Try.prog 188 = some false := by kernel_rfl
@[simp] theorem Try.ze188 : zeroOf Try.prog 188 = some (.map none) := by kernel_rfl
@[simp] theorem Try.ud188 : undB Try.prog 188 = true := by kernel_rfl
@[simp] theorem Try.ni188 : isNonIface Try.prog 188 = true := by kernel_rfl
@[simp] theorem Try.lk188 : lkOf Try.prog 188 = 3 := by kernel_rfl
@[simp] theorem Try.mp188 : mapOf Try.prog 188 = some (.int .i64, .int .i64 0) := by kernel_rfl
@[simp] theorem Try.sz191 : szOf Try.prog 191 = some 1 := by kernel_rfl
@[simp] theorem Try.ag191 : aggOf Try.prog 191 = some false := by kernel_rfl
@[simp] theorem Try.ze191 : zeroOf Try.prog 191 = some (.map none) := by kernel_rfl
@[simp] theorem Try.ud191 : undB Try.prog 191 = true := by kernel_rfl
@[simp] theorem Try.ni191 : isNonIface Try.prog 191 = true := by kernel_rfl
@[simp] theorem Try.lk191 : lkOf Try.prog 191 = 3 := by kernel_rfl
@[simp] theorem Try.mp191 : mapOf Try.prog 191 = some (.int .i64, .int .i64 0) := by kernel_rfl
@[simp] theorem Try.sz197 : szOf Try.prog 197 = some 65536 := by kernel_rfl
@[simp] theorem Try.ag197 : aggOf Try.prog 197 = some true := by kernel_rfl
@[simp] theorem Try.ud197 : undB Try.prog 197 = true := by kernel_rfl
@[simp] theorem Try.ni197 : isNonIface Try.prog 197 = true := by kernel_rfl
@[simp] theorem Try.ar197 : arOf Try.prog 197 = some (65536, 5) := by kernel_rfl
@[simp] theorem Try.ix197 (H : List Blk) (x i : AV) (k : AV → Prop) (w : Wit k) : idxAddrV Try.prog H 197 x i k w = bindOW (szOf Try.prog 5) (fun sz => bindOW (intA i) (fun n => idxAW 65536 sz x n k (wit _)) (wit _)) (wit _) := idxAddrV_ar Try.ar197 H x i k w
@[simp] theorem Try.iv197 (x i : AV) (k : AV → Prop) (w : Wit k) : idxValV Try.prog 197 x i k w = bindOW (szOf Try.prog 5) (fun sz => bindOW (aggOf Try.prog 5) (fun agg => bindOW (intA i) (fun n => bindOW (idxVal x agg 65536 sz n) k (wit _)) (wit _)) (wit _)) (wit _) := idxValV_ar Try.ar197 x i k w
@[simp] theorem Try.sz198 : szOf Try.prog 198 = some 1 := by kernel_rfl
@[simp] theorem Try.ag198 : aggOf Try.prog 198 = some false := by kernel_rfl
@[simp] theorem Try.ze198 : zeroOf Try.prog 198 = some (.int .u64 0) := by kernel_rfl
@[simp] theorem Try.ud198 : undB Try.prog 198 = true := by kernel_rfl
@[simp] theorem Try.ni198 : isNonIface Try.prog 198 = true := by kernel_rfl
@[simp] theorem Try.ko198 : kOf Try.prog 198 = some .u64 := by kernel_rfl
@[simp] theorem Try.sz199 : szOf Try.prog 199 = some 1 := by kernel_rfl
@[simp] theorem Try.ag199 : aggOf Try.prog 199 = some false := by kernel_rfl
@[simp] theorem Try.ze199 : zeroOf Try.prog 199 = some (.nilFunc) := by kernel_rfl
@[simp] theorem Try.ud199 : undB Try.prog 199 = true := by kernel_rfl
@[simp] theorem Try.ni199 : isNonIface Try.prog 199 = true := by kernel_rfl
@[simp] theorem Try.sz200 : szOf Try.prog 200 = some 1 := by kernel_rfl
@[simp] theorem Try.ag200 : aggOf Try.prog 200 = some false := by kernel_rfl
@[simp] theorem Try.ze200 : zeroOf Try.prog 200 = some (.map none) := by kernel_rfl
@[simp] theorem Try.ud200 : undB Try.prog 200 = true := by kernel_rfl
@[simp] theorem Try.ni200 : isNonIface Try.prog 200 = true := by kernel_rfl
@[simp] theorem Try.lk200 : lkOf Try.prog 200 = 3 := by kernel_rfl
@[simp] theorem Try.mp200 : mapOf Try.prog 200 = some (.int .i64, .nilFunc) := by kernel_rfl
@[simp] theorem Try.sz203 : szOf Try.prog 203 = some 1 := by kernel_rfl
@[simp] theorem Try.ag203 : aggOf Try.prog 203 = some false := by kernel_rfl
@[simp] theorem Try.ze203 : zeroOf Try.prog 203 = some (.nilFunc) := by kernel_rfl
@[simp] theorem Try.ud203 : undB Try.prog 203 = true := by kernel_rfl
@[simp] theorem Try.ni203 : isNonIface Try.prog 203 = true := by kernel_rfl
@[simp] theorem Try.sz205 : szOf Try.prog 205 = some 1 := by kernel_rfl
@[simp] theorem Try.ag205 : aggOf Try.prog 205 = some false := by kernel_rfl
@[simp] theorem Try.ze205 : zeroOf Try.prog 205 = some (.nilFunc) := by kernel_rfl
@[simp] theorem Try.ud205 : undB Try.prog 205 = true := by kernel_rfl
@[simp] theorem Try.ni205 : isNonIface Try.prog 205 = true := by kernel_rfl
@[simp] theorem Try.sz206 : szOf Try.prog 206 = some 1 := by kernel_rfl
@[simp] theorem Try.ag206 : aggOf Try.prog 206 = some false := by kernel_rfl
@[simp] theorem Try.ze206 : zeroOf Try.prog 206 = some (.nilFunc) := by kernel_rfl
@[simp] theorem Try.ud206 : undB Try.prog 206 = true := by kernel_rfl
@[simp] theorem Try.ni206 : isNonIface Try.prog 206 = true := by kernel_rfl
@[simp] theorem Try.sz207 : szOf Try.prog 207 = some 1 := by kernel_rfl
@[simp] theorem Try.ag207 : aggOf Try.prog 207 = some false := by kernel_rfl
@[simp] theorem Try.ze207 : zeroOf Try.prog 207 = some (.nilFunc) := by kernel_rfl
@[simp] theorem Try.ud207 : undB Try.prog 207 = true := by kernel_rfl
@[simp] theorem Try.ni207 : isNonIface Try.prog 207 = true := by kernel_rfl
@[simp] theorem Try.sz208 : szOf Try.prog 208 = some 1 := by kernel_rfl
@[simp] theorem Try.ag208 : aggOf Try.prog 208 = some false := by kernel_rfl
@[simp] theorem Try.ze208 : zeroOf Try.prog 208 = some (.nilFunc) := by kernel_rfl
@[simp] theorem Try.ud208 : undB Try.prog 208 = true := by kernel_rfl
@[simp] theorem Try.ni208 : isNonIface Try.prog 208 = true := by kernel_rfl
@[simp] theorem Try.ok2 : okFn Try.prog 2 = true := by kernel_rfl
@[simp] theorem Try.ok3 : okFn Try.prog 3 = true := by kernel_rfl
@[simp] theorem Try.ok4 : okFn Try.prog 4 = true := by kernel_rfl
@[simp] theorem Try.ok5 : okFn Try.prog 5 = true := by kernel_rfl
@[simp] theorem Try.ok6 : okFn Try.prog 6 = true := by kernel_rfl
@[simp] theorem Try.ok7 : okFn Try.prog 7 = true := by kernel_rfl
@[simp] theorem Try.ok8 : okFn Try.prog 8 = true := by kernel_rfl
@[simp] theorem Try.ok9 : okFn Try.prog 9 = true := by kernel_rfl
@[simp] theorem Try.ok10 : okFn Try.prog 10 = true := by kernel_rfl
@[simp] theorem Try.ok11 : okFn Try.prog 11 = true := by kernel_rfl
@[simp] theorem Try.ok12 : okFn Try.prog 12 = true := by kernel_rfl
@[simp] theorem Try.ok13 : okFn Try.prog 13 = true := by kernel_rfl
@[simp] theorem Try.ok14 : okFn Try.prog 14 = true := by kernel_rfl
@[simp] theorem Try.ok15 : okFn Try.prog 15 = true := by kernel_rfl
@[simp] theorem Try.ok16 : okFn Try.prog 16 = true := by kernel_rfl
@[simp] theorem Try.ok17 : okFn Try.prog 17 = true := by kernel_rfl
@[simp] theorem Try.ok18 : okFn Try.prog 18 = true := by kernel_rfl
@[simp] theorem Try.ok19 : okFn Try.prog 19 = true := by kernel_rfl
@[simp] theorem Try.ok20 : okFn Try.prog 20 = true := by kernel_rfl
@[simp] theorem Try.ok21 : okFn Try.prog 21 = true := by kernel_rfl
@[simp] theorem Try.ok22 : okFn Try.prog 22 = true := by kernel_rfl
@[simp] theorem Try.ok23 : okFn Try.prog 23 = true := by kernel_rfl
@[simp] theorem Try.ok24 : okFn Try.prog 24 = true := by kernel_rfl
@[simp] theorem Try.ok25 : okFn Try.prog 25 = true := by kernel_rfl
@[simp] theorem Try.ok26 : okFn Try.prog 26 = true := by kernel_rfl
@[simp] theorem Try.ok27 : okFn Try.prog 27 = true := by kernel_rfl
@[simp] theorem Try.ok28 : okFn Try.prog 28 = true := by kernel_rfl
@[simp] theorem Try.ok29 : okFn Try.prog 29 = true := by kernel_rfl
@[simp] theorem Try.ok30 : okFn Try.prog 30 = true := by kernel_rfl
@[simp] theorem Try.ok31 : okFn Try.prog 31 = true := by kernel_rfl
@[simp] theorem Try.ok32 : okFn Try.prog 32 = true := by kernel_rfl
@[simp] theorem Try.ok33 : okFn Try.prog 33 = true := by kernel_rfl
@[simp] theorem Try.ok34 : okFn Try.prog 34 = true := by kernel_rfl
@[simp] theorem Try.ok35 : okFn Try.prog 35 = true := by kernel_rfl
@[simp] theorem Try.ok36 : okFn Try.prog 36 = true := by kernel_rfl
@[simp] theorem Try.ok37 : okFn Try.prog 37 = true := by kernel_rfl
@[simp] theorem Try.ok38 : okFn Try.prog 38 = true := by kernel_rfl
@[simp] theorem Try.ok39 : okFn Try.prog 39 = true := by kernel_rfl
@[simp] theorem Try.ok40 : okFn Try.prog 40 = true := by kernel_rfl
@[simp] theorem Try.ok41 : okFn Try.prog 41 = true := by kernel_rfl
@[simp] theorem Try.ok42 : okFn Try.prog 42 = true := by kernel_rfl
@[simp] theorem Try.ok43 : okFn Try.prog 43 = true := by kernel_rfl
@[simp] theorem Try.ok44 : okFn Try.prog 44 = true := by kernel_rfl
@[simp] theorem Try.ok45 : okFn Try.prog 45 = true := by kernel_rfl
@[simp] theorem Try.ok46 : okFn Try.prog 46 = true := by kernel_rfl
@[simp] theorem Try.ok47 : okFn Try.prog 47 = true := by kernel_rfl
@[simp] theorem Try.ok48 : okFn Try.prog 48 = true := by kernel_rfl
@[simp] theorem Try.ok49 : okFn Try.prog 49 = true := by kernel_rfl
@[simp] theorem Try.ok50 : okFn Try.prog 50 = true := by kernel_rfl
@[simp] theorem Try.ok51 : okFn Try.prog 51 = true := by kernel_rfl
@[simp] theorem Try.ok52 : okFn Try.prog 52 = true := by kernel_rfl
@[simp] theorem Try.ok53 : okFn Try.prog 53 = true := by kernel_rfl
@[simp] theorem Try.ok54 : okFn Try.prog 54 = true := by kernel_rfl
@[simp] theorem Try.ok55 : okFn Try.prog 55 = true := by kernel_rfl
@[simp] theorem Try.ok56 : okFn Try.prog 56 = true := by kernel_rfl
@[simp] theorem Try.ok57 : okFn Try.prog 57 = true := by kernel_rfl
@[simp] theorem Try.ok58 : okFn Try.prog 58 = true := by kernel_rfl
@[simp] theorem Try.ok59 : okFn Try.prog 59 = true := by kernel_rfl
@[simp] theorem Try.ok60 : okFn Try.prog 60 = true := by kernel_rfl
@[simp] theorem Try.ok61 : okFn Try.prog 61 = true := by kernel_rfl
@[simp] theorem Try.ok62 : okFn Try.prog 62 = true := by kernel_rfl
@[simp] theorem Try.ok63 : okFn Try.prog 63 = true := by kernel_rfl
@[simp] theorem Try.ok64 : okFn Try.prog 64 = true := by kernel_rfl
@[simp] theorem Try.ok65 : okFn Try.prog 65 = true := by kernel_rfl
@[simp] theorem Try.ok66 : okFn Try.prog 66 = true := by kernel_rfl
@[simp] theorem Try.ok67 : okFn Try.prog 67 = true := by kernel_rfl
@[simp] theorem Try.ok68 : okFn Try.prog 68 = true := by kernel_rfl
@[simp] theorem Try.ok69 : okFn Try.prog 69 = true := by kernel_rfl
@[simp] theorem Try.ok70 : okFn Try.prog 70 = true := by kernel_rfl
@[simp] theorem Try.ok71 : okFn Try.prog 71 = true := by kernel_rfl
@[simp] theorem Try.ok72 : okFn Try.prog 72 = true := by kernel_rfl
@[simp] theorem Try.ok73 : okFn Try.prog 73 = true := by kernel_rfl
@[simp] theorem Try.ok74 : okFn Try.prog 74 = true := by kernel_rfl
@[simp] theorem Try.ok75 : okFn Try.prog 75 = true := by kernel_rfl
@[simp] theorem Try.ok76 : okFn Try.prog 76 = true := by kernel_rfl
@[simp] theorem Try.ok77 : okFn Try.prog 77 = true := by kernel_rfl
@[simp] theorem Try.ok78 : okFn Try.prog 78 = true := by kernel_rfl
@[simp] theorem Try.ok79 : okFn Try.prog 79 = true := by kernel_rfl
@[simp] theorem Try.ok80 : okFn Try.prog 80 = true := by kernel_rfl
@[simp] theorem Try.ok81 : okFn Try.prog 81 = true := by kernel_rfl
@[simp] theorem Try.ok82 : okFn Try.prog 82 = true := by kernel_rfl
@[simp] theorem Try.ok83 : okFn Try.prog 83 = true := by kernel_rfl
@[simp] theorem Try.ok84 : okFn Try.prog 84 = true := by kernel_rfl
@[simp] theorem Try.ok85 : okFn Try.prog 85 = true := by kernel_rfl
@[simp] theorem Try.ok86 : okFn Try.prog 86 = true := by kernel_rfl
@[simp] theorem Try.ok87 : okFn Try.prog 87 = true := by kernel_rfl
@[simp] theorem Try.ok88 : okFn Try.prog 88 = true := by kernel_rfl
@[simp] theorem Try.ok89 : okFn Try.prog 89 = true := by kernel_rfl
@[simp] theorem Try.ok90 : okFn Try.prog 90 = true := by kernel_rfl
@[simp] theorem Try.ok91 : okFn Try.prog 91 = true := by kernel_rfl
@[simp] theorem Try.ok92 : okFn Try.prog 92 = true := by kernel_rfl
@[simp] theorem Try.ok93 : okFn Try.prog 93 = true := by kernel_rfl
@[simp] theorem Try.ok94 : okFn Try.prog 94 = true := by kernel_rfl
@[simp] theorem Try.ok95 : okFn Try.prog 95 = true := by kernel_rfl
@[simp] theorem Try.ok96 : okFn Try.prog 96 = true := by kernel_rfl
@[simp] theorem Try.ok97 : okFn Try.prog 97 = true := by kernel_rfl
@[simp] theorem Try.ok98 : okFn Try.prog 98 = true := by kernel_rfl
@[simp] theorem Try.ok99 : okFn Try.prog 99 = true := by kernel_rfl
@[simp] theorem Try.ok100 : okFn Try.prog 100 = true := by kernel_rfl
@[simp] theorem Try.ok101 : okFn Try.prog 101 = true := by kernel_rfl
@[simp] theorem Try.ok102 : okFn Try.prog 102 = true := by kernel_rfl
@[simp] theorem Try.ok103 : okFn Try.prog 103 = true := by kernel_rfl
@[simp] theorem Try.ok104 : okFn Try.prog 104 = true := by kernel_rfl
@[simp] theorem Try.ok105 : okFn Try.prog 105 = true := by kernel_rfl
@[simp] theorem Try.ok106 : okFn Try.prog 106 = true := by kernel_rfl
@[simp] theorem Try.ok107 : okFn Try.prog 107 = true := by kernel_rfl
@[simp] theorem Try.ok108 : okFn Try.prog 108 = true := by kernel_rfl
@[simp] theorem Try.ok109 : okFn Try.prog 109 = true := by kernel_rfl
@[simp] theorem Try.ok110 : okFn Try.prog 110 = true := by kernel_rfl
@[simp] theorem Try.ok111 : okFn Try.prog 111 = true := by kernel_rfl
@[simp] theorem Try.ok112 : okFn Try.prog 112 = true := by kernel_rfl
@[simp] theorem Try.ok113 : okFn Try.prog 113 = true := by kernel_rfl
@[simp] theorem Try.ok114 : okFn Try.prog 114 = true := by kernel_rfl
@[simp] theorem Try.ok115 : okFn Try.prog 115 = true := by kernel_rfl
@[simp] theorem Try.ok116 : okFn Try.prog 116 = true := by kernel_rfl
@[simp] theorem Try.ok117 : okFn Try.prog 117 = true := by kernel_rfl
@[simp] theorem Try.ok118 : okFn Try.prog 118 = true := by kernel_rfl
@[simp] theorem Try.ok119 : okFn Try.prog 119 = true := by kernel_rfl
@[simp] theorem Try.ok120 : okFn Try.prog 120 = true := by kernel_rfl
@[simp] theorem Try.ok121 : okFn Try.prog 121 = true := by kernel_rfl
@[simp] theorem Try.ok122 : okFn Try.prog 122 = true := by kernel_rfl
@[simp] theorem Try.ok123 : okFn Try.prog 123 = true := by kernel_rfl
@[simp] theorem Try.ok124 : okFn Try.prog 124 = true := by kernel_rfl
@[simp] theorem Try.ok125 : okFn Try.prog 125 = true := by kernel_rfl
@[simp] theorem Try.ok126 : okFn Try.prog 126 = true := by kernel_rfl
@[simp] theorem Try.ok127 : okFn Try.prog 127 = true := by kernel_rfl
@[simp] theorem Try.ok128 : okFn Try.prog 128 = true := by kernel_rfl
@[simp] theorem Try.ok129 : okFn Try.prog 129 = true := by kernel_rfl
@[simp] theorem Try.ok130 : okFn Try.prog 130 = true := by kernel_rfl
@[simp] theorem Try.ok131 : okFn Try.prog 131 = true := by kernel_rfl
@[simp] theorem Try.ok132 : okFn Try.prog 132 = true := by kernel_rfl
@[simp] theorem Try.ok133 : okFn Try.prog 133 = true := by kernel_rfl
@[simp] theorem Try.ok134 : okFn Try.prog 134 = true := by kernel_rfl
@[simp] theorem Try.ok135 : okFn Try.prog 135 = true := by kernel_rfl
@[simp] theorem Try.ok136 : okFn Try.prog 136 = true := by kernel_rfl
@[simp] theorem Try.ok137 : okFn Try.prog 137 = true := by kernel_rfl
@[simp] theorem Try.ok138 : okFn Try.prog 138 = true := by kernel_rfl
end Go.Proofs
