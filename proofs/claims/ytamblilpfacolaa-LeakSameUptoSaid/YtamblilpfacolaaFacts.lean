/- The program's types and functions, as the rules want them (written by a program of our own). -/
import Derived.Test.YtamblilpfacolaaFwMtoFwL
import Derived.Test.YtamblilpfacolaaProg
import Derived.KernelRfl
set_option linter.unusedVariables false
set_option linter.unusedSimpArgs false
namespace Go.Proofs
open Go.Mu
@[simp] theorem Try.sz1 : szOf Try.prog 1 = some 1 := by kernel_rfl
@[simp] theorem Try.ag1 : aggOf Try.prog 1 = some false := by kernel_rfl
@[simp] theorem Try.ze1 : zeroOf Try.prog 1 = some (.nilFunc) := by kernel_rfl
@[simp] theorem Try.ud1 : undB Try.prog 1 = true := by kernel_rfl
@[simp] theorem Try.ni1 : isNonIface Try.prog 1 = true := by kernel_rfl
@[simp] theorem Try.sz3 : szOf Try.prog 3 = some 1 := by kernel_rfl
@[simp] theorem Try.ag3 : aggOf Try.prog 3 = some false := by kernel_rfl
@[simp] theorem Try.ze3 : zeroOf Try.prog 3 = some (.int .i64 0) := by kernel_rfl
@[simp] theorem Try.ud3 : undB Try.prog 3 = true := by kernel_rfl
@[simp] theorem Try.ni3 : isNonIface Try.prog 3 = true := by kernel_rfl
@[simp] theorem Try.ko3 : kOf Try.prog 3 = some .i64 := by kernel_rfl
@[simp] theorem Try.sz4 : szOf Try.prog 4 = some 1 := by kernel_rfl
@[simp] theorem Try.ag4 : aggOf Try.prog 4 = some false := by kernel_rfl
@[simp] theorem Try.ze4 : zeroOf Try.prog 4 = some (.bool false) := by kernel_rfl
@[simp] theorem Try.ud4 : undB Try.prog 4 = true := by kernel_rfl
@[simp] theorem Try.ni4 : isNonIface Try.prog 4 = true := by kernel_rfl
@[simp] theorem Try.sz5 : szOf Try.prog 5 = some 1 := by kernel_rfl
@[simp] theorem Try.ag5 : aggOf Try.prog 5 = some false := by kernel_rfl
@[simp] theorem Try.ze5 : zeroOf Try.prog 5 = some (.int .u8 0) := by kernel_rfl
@[simp] theorem Try.ud5 : undB Try.prog 5 = true := by kernel_rfl
@[simp] theorem Try.ni5 : isNonIface Try.prog 5 = true := by kernel_rfl
@[simp] theorem Try.ko5 : kOf Try.prog 5 = some .u8 := by kernel_rfl
@[simp] theorem Try.sz9 : szOf Try.prog 9 = some 1 := by kernel_rfl
@[simp] theorem Try.ag9 : aggOf Try.prog 9 = some false := by kernel_rfl
@[simp] theorem Try.ze9 : zeroOf Try.prog 9 = some (.string ByteArray.empty) := by kernel_rfl
@[simp] theorem Try.ud9 : undB Try.prog 9 = true := by kernel_rfl
@[simp] theorem Try.ni9 : isNonIface Try.prog 9 = true := by kernel_rfl
@[simp] theorem Try.lk9 : lkOf Try.prog 9 = 2 := by kernel_rfl
@[simp] theorem Try.iv9 (x i : AV) (k : AV → Prop) (w : Wit k) : idxValV Try.prog 9 x i k w = bindOW (strA x) (fun s => bindOW (intA i) (fun n => andVW (0 ≤ n) (bindOW (s.data.toList[n.toNat]?) (fun b => k (.v (.int .u8 b.toNat))) (wit _)) (wit _)) (wit _)) (wit _) := idxValV_str Try.lk9 x i k w
@[simp] theorem Try.sz20 : szOf Try.prog 20 = some 1 := by kernel_rfl
@[simp] theorem Try.ag20 : aggOf Try.prog 20 = some false := by kernel_rfl
@[simp] theorem Try.ze20 : zeroOf Try.prog 20 = some (.nilIface) := by kernel_rfl
@[simp] theorem Try.ud20 : undB Try.prog 20 = true := by kernel_rfl
@[simp] theorem Try.ni20 : isNonIface Try.prog 20 = false := by kernel_rfl
@[simp] theorem Try.sz22 : szOf Try.prog 22 = some 1 := by kernel_rfl
@[simp] theorem Try.ag22 : aggOf Try.prog 22 = some false := by kernel_rfl
@[simp] theorem Try.ze22 : zeroOf Try.prog 22 = some (.int .i64 0) := by kernel_rfl
@[simp] theorem Try.ud22 : undB Try.prog 22 = true := by kernel_rfl
@[simp] theorem Try.ni22 : isNonIface Try.prog 22 = true := by kernel_rfl
@[simp] theorem Try.ko22 : kOf Try.prog 22 = some .i64 := by kernel_rfl
@[simp] theorem Try.sz23 : szOf Try.prog 23 = some 1 := by kernel_rfl
@[simp] theorem Try.ag23 : aggOf Try.prog 23 = some false := by kernel_rfl
@[simp] theorem Try.ze23 : zeroOf Try.prog 23 = some (.int .u64 0) := by kernel_rfl
@[simp] theorem Try.ud23 : undB Try.prog 23 = true := by kernel_rfl
@[simp] theorem Try.ni23 : isNonIface Try.prog 23 = true := by kernel_rfl
@[simp] theorem Try.ko23 : kOf Try.prog 23 = some .u64 := by kernel_rfl
@[simp] theorem Try.sz24 : szOf Try.prog 24 = some 1 := by kernel_rfl
@[simp] theorem Try.ag24 : aggOf Try.prog 24 = some false := by kernel_rfl
@[simp] theorem Try.ze24 : zeroOf Try.prog 24 = some (.slice none 0 0) := by kernel_rfl
@[simp] theorem Try.ud24 : undB Try.prog 24 = true := by kernel_rfl
@[simp] theorem Try.ni24 : isNonIface Try.prog 24 = true := by kernel_rfl
@[simp] theorem Try.el24 : elOf Try.prog 24 = some 26 := by kernel_rfl
@[simp] theorem Try.lk24 : lkOf Try.prog 24 = 1 := by kernel_rfl
@[simp] theorem Try.ix24 (H : List Blk) (x i : AV) (k : AV → Prop) (w : Wit k) : idxAddrV Try.prog H 24 x i k w = bindOW (szOf Try.prog 26) (fun sz => bindOW (intA i) (fun n => idxVW H sz x n k (wit _)) (wit _)) (wit _) := idxAddrV_sl Try.el24 H x i k w
@[simp] theorem Try.sl24 : slbOf Try.prog 24 = some (26, 4, [.int .i64 0, .int .u64 0, .string ByteArray.empty, .slice none 0 0], 56) := by kernel_rfl
@[simp] theorem Try.sz25 : szOf Try.prog 25 = some 4 := by kernel_rfl
@[simp] theorem Try.ag25 : aggOf Try.prog 25 = some true := by kernel_rfl
@[simp] theorem Try.ze25 : zeroOf Try.prog 25 = some (.agg #[.int .i64 0, .int .u64 0, .string ByteArray.empty, .slice none 0 0]) := by kernel_rfl
@[simp] theorem Try.ud25 : undB Try.prog 25 = true := by kernel_rfl
@[simp] theorem Try.ni25 : isNonIface Try.prog 25 = true := by kernel_rfl
@[simp] theorem Try.fl25_0 : fldOf Try.prog 25 0 = some (0, 1, false) := by kernel_rfl
@[simp] theorem Try.fl25_1 : fldOf Try.prog 25 1 = some (1, 1, false) := by kernel_rfl
@[simp] theorem Try.fl25_2 : fldOf Try.prog 25 2 = some (2, 1, false) := by kernel_rfl
@[simp] theorem Try.fl25_3 : fldOf Try.prog 25 3 = some (3, 1, false) := by kernel_rfl
@[simp] theorem Try.bl25 : bldOf Try.prog 25 = some ([.int .i64 0, .int .u64 0, .string ByteArray.empty, .slice none 0 0], [(0, 1), (1, 1), (2, 1), (3, 1)]) := by kernel_rfl
@[simp] theorem Try.sz26 : szOf Try.prog 26 = some 4 := by kernel_rfl
@[simp] theorem Try.ag26 : aggOf Try.prog 26 = some true := by kernel_rfl
@[simp] theorem Try.ze26 : zeroOf Try.prog 26 = some (.agg #[.int .i64 0, .int .u64 0, .string ByteArray.empty, .slice none 0 0]) := by kernel_rfl
@[simp] theorem Try.ud26 : undB Try.prog 26 = true := by kernel_rfl
@[simp] theorem Try.ni26 : isNonIface Try.prog 26 = true := by kernel_rfl
@[simp] theorem Try.fl26_0 : fldOf Try.prog 26 0 = some (0, 1, false) := by kernel_rfl
@[simp] theorem Try.fl26_1 : fldOf Try.prog 26 1 = some (1, 1, false) := by kernel_rfl
@[simp] theorem Try.fl26_2 : fldOf Try.prog 26 2 = some (2, 1, false) := by kernel_rfl
@[simp] theorem Try.fl26_3 : fldOf Try.prog 26 3 = some (3, 1, false) := by kernel_rfl
@[simp] theorem Try.bl26 : bldOf Try.prog 26 = some ([.int .i64 0, .int .u64 0, .string ByteArray.empty, .slice none 0 0], [(0, 1), (1, 1), (2, 1), (3, 1)]) := by kernel_rfl
@[simp] theorem Try.sz27 : szOf Try.prog 27 = some 1 := by kernel_rfl
@[simp] theorem Try.ag27 : aggOf Try.prog 27 = some false := by kernel_rfl
@[simp] theorem Try.ze27 : zeroOf Try.prog 27 = some (.int .i64 0) := by kernel_rfl
@[simp] theorem Try.ud27 : undB Try.prog 27 = true := by kernel_rfl
@[simp] theorem Try.ni27 : isNonIface Try.prog 27 = true := by kernel_rfl
@[simp] theorem Try.ko27 : kOf Try.prog 27 = some .i64 := by kernel_rfl
@[simp] theorem Try.sz29 : szOf Try.prog 29 = some 1 := by kernel_rfl
@[simp] theorem Try.ag29 : aggOf Try.prog 29 = some false := by kernel_rfl
@[simp] theorem Try.ze29 : zeroOf Try.prog 29 = some (.slice none 0 0) := by kernel_rfl
@[simp] theorem Try.ud29 : undB Try.prog 29 = true := by kernel_rfl
@[simp] theorem Try.ni29 : isNonIface Try.prog 29 = true := by kernel_rfl
@[simp] theorem Try.el29 : elOf Try.prog 29 = some 92 := by kernel_rfl
@[simp] theorem Try.lk29 : lkOf Try.prog 29 = 1 := by kernel_rfl
@[simp] theorem Try.ix29 (H : List Blk) (x i : AV) (k : AV → Prop) (w : Wit k) : idxAddrV Try.prog H 29 x i k w = bindOW (szOf Try.prog 92) (fun sz => bindOW (intA i) (fun n => idxVW H sz x n k (wit _)) (wit _)) (wit _) := idxAddrV_sl Try.el29 H x i k w
@[simp] theorem Try.sl29 : slbOf Try.prog 29 = some (92, 4, [.string ByteArray.empty, .int .i64 0, .int .i64 0, .bool false], 40) := by kernel_rfl
@[simp] theorem Try.sz30 : szOf Try.prog 30 = some 1 := by kernel_rfl
@[simp] theorem Try.ag30 : aggOf Try.prog 30 = some false := by kernel_rfl
@[simp] theorem Try.ze30 : zeroOf Try.prog 30 = some (.slice none 0 0) := by kernel_rfl
@[simp] theorem Try.ud30 : undB Try.prog 30 = true := by kernel_rfl
@[simp] theorem Try.ni30 : isNonIface Try.prog 30 = true := by kernel_rfl
@[simp] theorem Try.el30 : elOf Try.prog 30 = some 44 := by kernel_rfl
@[simp] theorem Try.lk30 : lkOf Try.prog 30 = 1 := by kernel_rfl
@[simp] theorem Try.ix30 (H : List Blk) (x i : AV) (k : AV → Prop) (w : Wit k) : idxAddrV Try.prog H 30 x i k w = bindOW (szOf Try.prog 44) (fun sz => bindOW (intA i) (fun n => idxVW H sz x n k (wit _)) (wit _)) (wit _) := idxAddrV_sl Try.el30 H x i k w
@[simp] theorem Try.sl30 : slbOf Try.prog 30 = some (44, 5, [.string ByteArray.empty, .slice none 0 0, .slice none 0 0, .slice none 0 0, .slice none 0 0], 112) := by kernel_rfl
@[simp] theorem Try.sz31 : szOf Try.prog 31 = some 2 := by kernel_rfl
@[simp] theorem Try.ag31 : aggOf Try.prog 31 = some true := by kernel_rfl
@[simp] theorem Try.ze31 : zeroOf Try.prog 31 = some (.agg #[.slice none 0 0, .slice none 0 0]) := by kernel_rfl
@[simp] theorem Try.ud31 : undB Try.prog 31 = true := by kernel_rfl
@[simp] theorem Try.ni31 : isNonIface Try.prog 31 = true := by kernel_rfl
@[simp] theorem Try.fl31_0 : fldOf Try.prog 31 0 = some (0, 1, false) := by kernel_rfl
@[simp] theorem Try.fl31_1 : fldOf Try.prog 31 1 = some (1, 1, false) := by kernel_rfl
@[simp] theorem Try.bl31 : bldOf Try.prog 31 = some ([.slice none 0 0, .slice none 0 0], [(0, 1), (1, 1)]) := by kernel_rfl
@[simp] theorem Try.sz32 : szOf Try.prog 32 = some 2 := by kernel_rfl
@[simp] theorem Try.ag32 : aggOf Try.prog 32 = some true := by kernel_rfl
@[simp] theorem Try.ze32 : zeroOf Try.prog 32 = some (.agg #[.slice none 0 0, .slice none 0 0]) := by kernel_rfl
@[simp] theorem Try.ud32 : undB Try.prog 32 = true := by kernel_rfl
@[simp] theorem Try.ni32 : isNonIface Try.prog 32 = true := by kernel_rfl
@[simp] theorem Try.fl32_0 : fldOf Try.prog 32 0 = some (0, 1, false) := by kernel_rfl
@[simp] theorem Try.fl32_1 : fldOf Try.prog 32 1 = some (1, 1, false) := by kernel_rfl
@[simp] theorem Try.bl32 : bldOf Try.prog 32 = some ([.slice none 0 0, .slice none 0 0], [(0, 1), (1, 1)]) := by kernel_rfl
@[simp] theorem Try.sz34 : szOf Try.prog 34 = some 1 := by kernel_rfl
@[simp] theorem Try.ag34 : aggOf Try.prog 34 = some false := by kernel_rfl
@[simp] theorem Try.ze34 : zeroOf Try.prog 34 = some (.int .i64 0) := by kernel_rfl
@[simp] theorem Try.ud34 : undB Try.prog 34 = true := by kernel_rfl
@[simp] theorem Try.ni34 : isNonIface Try.prog 34 = true := by kernel_rfl
@[simp] theorem Try.ko34 : kOf Try.prog 34 = some .i64 := by kernel_rfl
@[simp] theorem Try.sz35 : szOf Try.prog 35 = some 1 := by kernel_rfl
@[simp] theorem Try.ag35 : aggOf Try.prog 35 = some false := by kernel_rfl
@[simp] theorem Try.ze35 : zeroOf Try.prog 35 = some (.slice none 0 0) := by kernel_rfl
@[simp] theorem Try.ud35 : undB Try.prog 35 = true := by kernel_rfl
@[simp] theorem Try.ni35 : isNonIface Try.prog 35 = true := by kernel_rfl
@[simp] theorem Try.el35 : elOf Try.prog 35 = some 9 := by kernel_rfl
@[simp] theorem Try.lk35 : lkOf Try.prog 35 = 1 := by kernel_rfl
@[simp] theorem Try.ix35 (H : List Blk) (x i : AV) (k : AV → Prop) (w : Wit k) : idxAddrV Try.prog H 35 x i k w = bindOW (szOf Try.prog 9) (fun sz => bindOW (intA i) (fun n => idxVW H sz x n k (wit _)) (wit _)) (wit _) := idxAddrV_sl Try.el35 H x i k w
@[simp] theorem Try.sl35 : slbOf Try.prog 35 = some (9, 1, [.string ByteArray.empty], 16) := by kernel_rfl
@[simp] theorem Try.sz36 : szOf Try.prog 36 = some 1 := by kernel_rfl
@[simp] theorem Try.ag36 : aggOf Try.prog 36 = some false := by kernel_rfl
@[simp] theorem Try.ze36 : zeroOf Try.prog 36 = some (.slice none 0 0) := by kernel_rfl
@[simp] theorem Try.ud36 : undB Try.prog 36 = true := by kernel_rfl
@[simp] theorem Try.ni36 : isNonIface Try.prog 36 = true := by kernel_rfl
@[simp] theorem Try.el36 : elOf Try.prog 36 = some 38 := by kernel_rfl
@[simp] theorem Try.lk36 : lkOf Try.prog 36 = 1 := by kernel_rfl
@[simp] theorem Try.ix36 (H : List Blk) (x i : AV) (k : AV → Prop) (w : Wit k) : idxAddrV Try.prog H 36 x i k w = bindOW (szOf Try.prog 38) (fun sz => bindOW (intA i) (fun n => idxVW H sz x n k (wit _)) (wit _)) (wit _) := idxAddrV_sl Try.el36 H x i k w
@[simp] theorem Try.sl36 : slbOf Try.prog 36 = some (38, 16, [.int .i64 0, .string ByteArray.empty, .slice none 0 0, .int .i64 0, .int .u64 0, .string ByteArray.empty, .slice none 0 0, .int .i64 0, .int .u64 0, .string ByteArray.empty, .slice none 0 0, .slice none 0 0, .int .u64 0, .int .u64 0, .slice none 0 0, .slice none 0 0], 248) := by kernel_rfl
@[simp] theorem Try.sz37 : szOf Try.prog 37 = some 16 := by kernel_rfl
@[simp] theorem Try.ag37 : aggOf Try.prog 37 = some true := by kernel_rfl
@[simp] theorem Try.ze37 : zeroOf Try.prog 37 = some (.agg #[.int .i64 0, .string ByteArray.empty, .slice none 0 0, .int .i64 0, .int .u64 0, .string ByteArray.empty, .slice none 0 0, .int .i64 0, .int .u64 0, .string ByteArray.empty, .slice none 0 0, .slice none 0 0, .int .u64 0, .int .u64 0, .slice none 0 0, .slice none 0 0]) := by kernel_rfl
@[simp] theorem Try.ud37 : undB Try.prog 37 = true := by kernel_rfl
@[simp] theorem Try.ni37 : isNonIface Try.prog 37 = true := by kernel_rfl
@[simp] theorem Try.fl37_0 : fldOf Try.prog 37 0 = some (0, 1, false) := by kernel_rfl
@[simp] theorem Try.fl37_1 : fldOf Try.prog 37 1 = some (1, 1, false) := by kernel_rfl
@[simp] theorem Try.fl37_2 : fldOf Try.prog 37 2 = some (2, 1, false) := by kernel_rfl
@[simp] theorem Try.fl37_3 : fldOf Try.prog 37 3 = some (3, 4, true) := by kernel_rfl
@[simp] theorem Try.fl37_4 : fldOf Try.prog 37 4 = some (7, 4, true) := by kernel_rfl
@[simp] theorem Try.fl37_5 : fldOf Try.prog 37 5 = some (11, 1, false) := by kernel_rfl
@[simp] theorem Try.fl37_6 : fldOf Try.prog 37 6 = some (12, 1, false) := by kernel_rfl
@[simp] theorem Try.fl37_7 : fldOf Try.prog 37 7 = some (13, 1, false) := by kernel_rfl
@[simp] theorem Try.fl37_8 : fldOf Try.prog 37 8 = some (14, 1, false) := by kernel_rfl
@[simp] theorem Try.fl37_9 : fldOf Try.prog 37 9 = some (15, 1, false) := by kernel_rfl
@[simp] theorem Try.bl37 : bldOf Try.prog 37 = some ([.int .i64 0, .string ByteArray.empty, .slice none 0 0, .int .i64 0, .int .u64 0, .string ByteArray.empty, .slice none 0 0, .int .i64 0, .int .u64 0, .string ByteArray.empty, .slice none 0 0, .slice none 0 0, .int .u64 0, .int .u64 0, .slice none 0 0, .slice none 0 0], [(0, 1), (1, 1), (2, 1), (3, 4), (7, 4), (11, 1), (12, 1), (13, 1), (14, 1), (15, 1)]) := by kernel_rfl
@[simp] theorem Try.sz38 : szOf Try.prog 38 = some 16 := by kernel_rfl
@[simp] theorem Try.ag38 : aggOf Try.prog 38 = some true := by kernel_rfl
@[simp] theorem Try.ze38 : zeroOf Try.prog 38 = some (.agg #[.int .i64 0, .string ByteArray.empty, .slice none 0 0, .int .i64 0, .int .u64 0, .string ByteArray.empty, .slice none 0 0, .int .i64 0, .int .u64 0, .string ByteArray.empty, .slice none 0 0, .slice none 0 0, .int .u64 0, .int .u64 0, .slice none 0 0, .slice none 0 0]) := by kernel_rfl
@[simp] theorem Try.ud38 : undB Try.prog 38 = true := by kernel_rfl
@[simp] theorem Try.ni38 : isNonIface Try.prog 38 = true := by kernel_rfl
@[simp] theorem Try.fl38_0 : fldOf Try.prog 38 0 = some (0, 1, false) := by kernel_rfl
@[simp] theorem Try.fl38_1 : fldOf Try.prog 38 1 = some (1, 1, false) := by kernel_rfl
@[simp] theorem Try.fl38_2 : fldOf Try.prog 38 2 = some (2, 1, false) := by kernel_rfl
@[simp] theorem Try.fl38_3 : fldOf Try.prog 38 3 = some (3, 4, true) := by kernel_rfl
@[simp] theorem Try.fl38_4 : fldOf Try.prog 38 4 = some (7, 4, true) := by kernel_rfl
@[simp] theorem Try.fl38_5 : fldOf Try.prog 38 5 = some (11, 1, false) := by kernel_rfl
@[simp] theorem Try.fl38_6 : fldOf Try.prog 38 6 = some (12, 1, false) := by kernel_rfl
@[simp] theorem Try.fl38_7 : fldOf Try.prog 38 7 = some (13, 1, false) := by kernel_rfl
@[simp] theorem Try.fl38_8 : fldOf Try.prog 38 8 = some (14, 1, false) := by kernel_rfl
@[simp] theorem Try.fl38_9 : fldOf Try.prog 38 9 = some (15, 1, false) := by kernel_rfl
@[simp] theorem Try.bl38 : bldOf Try.prog 38 = some ([.int .i64 0, .string ByteArray.empty, .slice none 0 0, .int .i64 0, .int .u64 0, .string ByteArray.empty, .slice none 0 0, .int .i64 0, .int .u64 0, .string ByteArray.empty, .slice none 0 0, .slice none 0 0, .int .u64 0, .int .u64 0, .slice none 0 0, .slice none 0 0], [(0, 1), (1, 1), (2, 1), (3, 4), (7, 4), (11, 1), (12, 1), (13, 1), (14, 1), (15, 1)]) := by kernel_rfl
@[simp] theorem Try.sz39 : szOf Try.prog 39 = some 1 := by kernel_rfl
@[simp] theorem Try.ag39 : aggOf Try.prog 39 = some false := by kernel_rfl
@[simp] theorem Try.ze39 : zeroOf Try.prog 39 = some (.int .i64 0) := by kernel_rfl
@[simp] theorem Try.ud39 : undB Try.prog 39 = true := by kernel_rfl
@[simp] theorem Try.ni39 : isNonIface Try.prog 39 = true := by kernel_rfl
@[simp] theorem Try.ko39 : kOf Try.prog 39 = some .i64 := by kernel_rfl
@[simp] theorem Try.sz40 : szOf Try.prog 40 = some 4 := by kernel_rfl
@[simp] theorem Try.ag40 : aggOf Try.prog 40 = some true := by kernel_rfl
@[simp] theorem Try.ze40 : zeroOf Try.prog 40 = some (.agg #[.string ByteArray.empty, .int .i64 0, .int .i64 0, .bool false]) := by kernel_rfl
@[simp] theorem Try.ud40 : undB Try.prog 40 = true := by kernel_rfl
@[simp] theorem Try.ni40 : isNonIface Try.prog 40 = true := by kernel_rfl
@[simp] theorem Try.eq40 (x0 y0 : ByteArray) (x1 y1 : Int) (x2 y2 : Int) (x3 y3 : Bool) : binE Try.prog .eql 40 (.agg [.v (.string x0), .v (.int .i64 x1), .v (.int .i64 x2), .v (.bool x3)]) (.agg [.v (.string y0), .v (.int .i64 y1), .v (.int .i64 y2), .v (.bool y3)]) = some (.v (.bool ((x0.toList == y0.toList) && ((x1 == y1) && ((x2 == y2) && ((x3 == y3) && true)))))) := by kernel_rfl
@[simp] theorem Try.nq40 (x0 y0 : ByteArray) (x1 y1 : Int) (x2 y2 : Int) (x3 y3 : Bool) : binE Try.prog .neq 40 (.agg [.v (.string x0), .v (.int .i64 x1), .v (.int .i64 x2), .v (.bool x3)]) (.agg [.v (.string y0), .v (.int .i64 y1), .v (.int .i64 y2), .v (.bool y3)]) = some (.v (.bool (!((x0.toList == y0.toList) && ((x1 == y1) && ((x2 == y2) && ((x3 == y3) && true))))))) := by kernel_rfl
@[simp] theorem Try.fl40_0 : fldOf Try.prog 40 0 = some (0, 1, false) := by kernel_rfl
@[simp] theorem Try.fl40_1 : fldOf Try.prog 40 1 = some (1, 1, false) := by kernel_rfl
@[simp] theorem Try.fl40_2 : fldOf Try.prog 40 2 = some (2, 1, false) := by kernel_rfl
@[simp] theorem Try.fl40_3 : fldOf Try.prog 40 3 = some (3, 1, false) := by kernel_rfl
@[simp] theorem Try.bl40 : bldOf Try.prog 40 = some ([.string ByteArray.empty, .int .i64 0, .int .i64 0, .bool false], [(0, 1), (1, 1), (2, 1), (3, 1)]) := by kernel_rfl
@[simp] theorem Try.sz41 : szOf Try.prog 41 = some 4 := by kernel_rfl
@[simp] theorem Try.ag41 : aggOf Try.prog 41 = some true := by kernel_rfl
@[simp] theorem Try.ze41 : zeroOf Try.prog 41 = some (.agg #[.string ByteArray.empty, .int .i64 0, .int .i64 0, .bool false]) := by kernel_rfl
@[simp] theorem Try.ud41 : undB Try.prog 41 = true := by kernel_rfl
@[simp] theorem Try.ni41 : isNonIface Try.prog 41 = true := by kernel_rfl
@[simp] theorem Try.eq41 (x0 y0 : ByteArray) (x1 y1 : Int) (x2 y2 : Int) (x3 y3 : Bool) : binE Try.prog .eql 41 (.agg [.v (.string x0), .v (.int .i64 x1), .v (.int .i64 x2), .v (.bool x3)]) (.agg [.v (.string y0), .v (.int .i64 y1), .v (.int .i64 y2), .v (.bool y3)]) = some (.v (.bool ((x0.toList == y0.toList) && ((x1 == y1) && ((x2 == y2) && ((x3 == y3) && true)))))) := by kernel_rfl
@[simp] theorem Try.nq41 (x0 y0 : ByteArray) (x1 y1 : Int) (x2 y2 : Int) (x3 y3 : Bool) : binE Try.prog .neq 41 (.agg [.v (.string x0), .v (.int .i64 x1), .v (.int .i64 x2), .v (.bool x3)]) (.agg [.v (.string y0), .v (.int .i64 y1), .v (.int .i64 y2), .v (.bool y3)]) = some (.v (.bool (!((x0.toList == y0.toList) && ((x1 == y1) && ((x2 == y2) && ((x3 == y3) && true))))))) := by kernel_rfl
@[simp] theorem Try.fl41_0 : fldOf Try.prog 41 0 = some (0, 1, false) := by kernel_rfl
@[simp] theorem Try.fl41_1 : fldOf Try.prog 41 1 = some (1, 1, false) := by kernel_rfl
@[simp] theorem Try.fl41_2 : fldOf Try.prog 41 2 = some (2, 1, false) := by kernel_rfl
@[simp] theorem Try.fl41_3 : fldOf Try.prog 41 3 = some (3, 1, false) := by kernel_rfl
@[simp] theorem Try.bl41 : bldOf Try.prog 41 = some ([.string ByteArray.empty, .int .i64 0, .int .i64 0, .bool false], [(0, 1), (1, 1), (2, 1), (3, 1)]) := by kernel_rfl
@[simp] theorem Try.sz42 : szOf Try.prog 42 = some 1 := by kernel_rfl
@[simp] theorem Try.ag42 : aggOf Try.prog 42 = some false := by kernel_rfl
@[simp] theorem Try.ze42 : zeroOf Try.prog 42 = some (.slice none 0 0) := by kernel_rfl
@[simp] theorem Try.ud42 : undB Try.prog 42 = true := by kernel_rfl
@[simp] theorem Try.ni42 : isNonIface Try.prog 42 = true := by kernel_rfl
@[simp] theorem Try.el42 : elOf Try.prog 42 = some 41 := by kernel_rfl
@[simp] theorem Try.lk42 : lkOf Try.prog 42 = 1 := by kernel_rfl
@[simp] theorem Try.ix42 (H : List Blk) (x i : AV) (k : AV → Prop) (w : Wit k) : idxAddrV Try.prog H 42 x i k w = bindOW (szOf Try.prog 41) (fun sz => bindOW (intA i) (fun n => idxVW H sz x n k (wit _)) (wit _)) (wit _) := idxAddrV_sl Try.el42 H x i k w
@[simp] theorem Try.sl42 : slbOf Try.prog 42 = some (41, 4, [.string ByteArray.empty, .int .i64 0, .int .i64 0, .bool false], 40) := by kernel_rfl
@[simp] theorem Try.sz43 : szOf Try.prog 43 = some 5 := by kernel_rfl
@[simp] theorem Try.ag43 : aggOf Try.prog 43 = some true := by kernel_rfl
@[simp] theorem Try.ze43 : zeroOf Try.prog 43 = some (.agg #[.string ByteArray.empty, .slice none 0 0, .slice none 0 0, .slice none 0 0, .slice none 0 0]) := by kernel_rfl
@[simp] theorem Try.ud43 : undB Try.prog 43 = true := by kernel_rfl
@[simp] theorem Try.ni43 : isNonIface Try.prog 43 = true := by kernel_rfl
@[simp] theorem Try.fl43_0 : fldOf Try.prog 43 0 = some (0, 1, false) := by kernel_rfl
@[simp] theorem Try.fl43_1 : fldOf Try.prog 43 1 = some (1, 1, false) := by kernel_rfl
@[simp] theorem Try.fl43_2 : fldOf Try.prog 43 2 = some (2, 1, false) := by kernel_rfl
@[simp] theorem Try.fl43_3 : fldOf Try.prog 43 3 = some (3, 1, false) := by kernel_rfl
@[simp] theorem Try.fl43_4 : fldOf Try.prog 43 4 = some (4, 1, false) := by kernel_rfl
@[simp] theorem Try.bl43 : bldOf Try.prog 43 = some ([.string ByteArray.empty, .slice none 0 0, .slice none 0 0, .slice none 0 0, .slice none 0 0], [(0, 1), (1, 1), (2, 1), (3, 1), (4, 1)]) := by kernel_rfl
@[simp] theorem Try.sz44 : szOf Try.prog 44 = some 5 := by kernel_rfl
@[simp] theorem Try.ag44 : aggOf Try.prog 44 = some true := by kernel_rfl
@[simp] theorem Try.ze44 : zeroOf Try.prog 44 = some (.agg #[.string ByteArray.empty, .slice none 0 0, .slice none 0 0, .slice none 0 0, .slice none 0 0]) := by kernel_rfl
@[simp] theorem Try.ud44 : undB Try.prog 44 = true := by kernel_rfl
@[simp] theorem Try.ni44 : isNonIface Try.prog 44 = true := by kernel_rfl
@[simp] theorem Try.fl44_0 : fldOf Try.prog 44 0 = some (0, 1, false) := by kernel_rfl
@[simp] theorem Try.fl44_1 : fldOf Try.prog 44 1 = some (1, 1, false) := by kernel_rfl
@[simp] theorem Try.fl44_2 : fldOf Try.prog 44 2 = some (2, 1, false) := by kernel_rfl
@[simp] theorem Try.fl44_3 : fldOf Try.prog 44 3 = some (3, 1, false) := by kernel_rfl
@[simp] theorem Try.fl44_4 : fldOf Try.prog 44 4 = some (4, 1, false) := by kernel_rfl
@[simp] theorem Try.bl44 : bldOf Try.prog 44 = some ([.string ByteArray.empty, .slice none 0 0, .slice none 0 0, .slice none 0 0, .slice none 0 0], [(0, 1), (1, 1), (2, 1), (3, 1), (4, 1)]) := by kernel_rfl
@[simp] theorem Try.sz46 : szOf Try.prog 46 = some 1 := by kernel_rfl
@[simp] theorem Try.ag46 : aggOf Try.prog 46 = some false := by kernel_rfl
@[simp] theorem Try.ze46 : zeroOf Try.prog 46 = some (.slice none 0 0) := by kernel_rfl
@[simp] theorem Try.ud46 : undB Try.prog 46 = true := by kernel_rfl
@[simp] theorem Try.ni46 : isNonIface Try.prog 46 = true := by kernel_rfl
@[simp] theorem Try.el46 : elOf Try.prog 46 = some 23 := by kernel_rfl
@[simp] theorem Try.lk46 : lkOf Try.prog 46 = 1 := by kernel_rfl
@[simp] theorem Try.ix46 (H : List Blk) (x i : AV) (k : AV → Prop) (w : Wit k) : idxAddrV Try.prog H 46 x i k w = bindOW (szOf Try.prog 23) (fun sz => bindOW (intA i) (fun n => idxVW H sz x n k (wit _)) (wit _)) (wit _) := idxAddrV_sl Try.el46 H x i k w
@[simp] theorem Try.sl46 : slbOf Try.prog 46 = some (23, 1, [.int .u64 0], 8) := by kernel_rfl
@[simp] theorem Try.sz47 : szOf Try.prog 47 = some 1 := by kernel_rfl
@[simp] theorem Try.ag47 : aggOf Try.prog 47 = some false := by kernel_rfl
@[simp] theorem Try.ze47 : zeroOf Try.prog 47 = some (.slice none 0 0) := by kernel_rfl
@[simp] theorem Try.ud47 : undB Try.prog 47 = true := by kernel_rfl
@[simp] theorem Try.ni47 : isNonIface Try.prog 47 = true := by kernel_rfl
@[simp] theorem Try.el47 : elOf Try.prog 47 = some 46 := by kernel_rfl
@[simp] theorem Try.lk47 : lkOf Try.prog 47 = 1 := by kernel_rfl
@[simp] theorem Try.ix47 (H : List Blk) (x i : AV) (k : AV → Prop) (w : Wit k) : idxAddrV Try.prog H 47 x i k w = bindOW (szOf Try.prog 46) (fun sz => bindOW (intA i) (fun n => idxVW H sz x n k (wit _)) (wit _)) (wit _) := idxAddrV_sl Try.el47 H x i k w
@[simp] theorem Try.sl47 : slbOf Try.prog 47 = some (46, 1, [.slice none 0 0], 24) := by kernel_rfl
@[simp] theorem Try.sz48 : szOf Try.prog 48 = some 2 := by kernel_rfl
@[simp] theorem Try.ag48 : aggOf Try.prog 48 = some true := by kernel_rfl
@[simp] theorem Try.ze48 : zeroOf Try.prog 48 = some (.agg #[.slice none 0 0, .slice none 0 0]) := by kernel_rfl
@[simp] theorem Try.ud48 : undB Try.prog 48 = true := by kernel_rfl
@[simp] theorem Try.ni48 : isNonIface Try.prog 48 = true := by kernel_rfl
@[simp] theorem Try.fl48_0 : fldOf Try.prog 48 0 = some (0, 1, false) := by kernel_rfl
@[simp] theorem Try.fl48_1 : fldOf Try.prog 48 1 = some (1, 1, false) := by kernel_rfl
@[simp] theorem Try.bl48 : bldOf Try.prog 48 = some ([.slice none 0 0, .slice none 0 0], [(0, 1), (1, 1)]) := by kernel_rfl
@[simp] theorem Try.sz49 : szOf Try.prog 49 = some 2 := by kernel_rfl
@[simp] theorem Try.ag49 : aggOf Try.prog 49 = some true := by kernel_rfl
@[simp] theorem Try.ze49 : zeroOf Try.prog 49 = some (.agg #[.slice none 0 0, .slice none 0 0]) := by kernel_rfl
@[simp] theorem Try.ud49 : undB Try.prog 49 = true := by kernel_rfl
@[simp] theorem Try.ni49 : isNonIface Try.prog 49 = true := by kernel_rfl
@[simp] theorem Try.fl49_0 : fldOf Try.prog 49 0 = some (0, 1, false) := by kernel_rfl
@[simp] theorem Try.fl49_1 : fldOf Try.prog 49 1 = some (1, 1, false) := by kernel_rfl
@[simp] theorem Try.bl49 : bldOf Try.prog 49 = some ([.slice none 0 0, .slice none 0 0], [(0, 1), (1, 1)]) := by kernel_rfl
@[simp] theorem Try.sz56 : szOf Try.prog 56 = some 1 := by kernel_rfl
@[simp] theorem Try.ag56 : aggOf Try.prog 56 = some false := by kernel_rfl
@[simp] theorem Try.ze56 : zeroOf Try.prog 56 = some (.slice none 0 0) := by kernel_rfl
@[simp] theorem Try.ud56 : undB Try.prog 56 = true := by kernel_rfl
@[simp] theorem Try.ni56 : isNonIface Try.prog 56 = true := by kernel_rfl
@[simp] theorem Try.el56 : elOf Try.prog 56 = some 76 := by kernel_rfl
@[simp] theorem Try.lk56 : lkOf Try.prog 56 = 1 := by kernel_rfl
@[simp] theorem Try.ix56 (H : List Blk) (x i : AV) (k : AV → Prop) (w : Wit k) : idxAddrV Try.prog H 56 x i k w = bindOW (szOf Try.prog 76) (fun sz => bindOW (intA i) (fun n => idxVW H sz x n k (wit _)) (wit _)) (wit _) := idxAddrV_sl Try.el56 H x i k w
@[simp] theorem Try.sl56 : slbOf Try.prog 56 = some (76, 4, [.int .i64 0, .slice none 0 0, .bool false, .slice none 0 0], 64) := by kernel_rfl
@[simp] theorem Try.sz58 : szOf Try.prog 58 = some 1 := by kernel_rfl
@[simp] theorem Try.ag58 : aggOf Try.prog 58 = some false := by kernel_rfl
@[simp] theorem Try.ze58 : zeroOf Try.prog 58 = some (.slice none 0 0) := by kernel_rfl
@[simp] theorem Try.ud58 : undB Try.prog 58 = true := by kernel_rfl
@[simp] theorem Try.ni58 : isNonIface Try.prog 58 = true := by kernel_rfl
@[simp] theorem Try.el58 : elOf Try.prog 58 = some 67 := by kernel_rfl
@[simp] theorem Try.lk58 : lkOf Try.prog 58 = 1 := by kernel_rfl
@[simp] theorem Try.ix58 (H : List Blk) (x i : AV) (k : AV → Prop) (w : Wit k) : idxAddrV Try.prog H 58 x i k w = bindOW (szOf Try.prog 67) (fun sz => bindOW (intA i) (fun n => idxVW H sz x n k (wit _)) (wit _)) (wit _) := idxAddrV_sl Try.el58 H x i k w
@[simp] theorem Try.sl58 : slbOf Try.prog 58 = some (67, 4, [.int .i64 0, .slice none 0 0, .bool false, .slice none 0 0], 64) := by kernel_rfl
@[simp] theorem Try.sz62 : szOf Try.prog 62 = some 1 := by kernel_rfl
@[simp] theorem Try.ag62 : aggOf Try.prog 62 = some false := by kernel_rfl
@[simp] theorem Try.ze62 : zeroOf Try.prog 62 = some (.nilFunc) := by kernel_rfl
@[simp] theorem Try.ud62 : undB Try.prog 62 = true := by kernel_rfl
@[simp] theorem Try.ni62 : isNonIface Try.prog 62 = true := by kernel_rfl
@[simp] theorem Try.sz64 : szOf Try.prog 64 = some 1 := by kernel_rfl
@[simp] theorem Try.ag64 : aggOf Try.prog 64 = some false := by kernel_rfl
@[simp] theorem Try.ze64 : zeroOf Try.prog 64 = some (.int .i64 0) := by kernel_rfl
@[simp] theorem Try.ud64 : undB Try.prog 64 = true := by kernel_rfl
@[simp] theorem Try.ni64 : isNonIface Try.prog 64 = true := by kernel_rfl
@[simp] theorem Try.ko64 : kOf Try.prog 64 = some .i64 := by kernel_rfl
@[simp] theorem Try.sz65 : szOf Try.prog 65 = some 1 := by kernel_rfl
@[simp] theorem Try.ag65 : aggOf Try.prog 65 = some false := by kernel_rfl
@[simp] theorem Try.ze65 : zeroOf Try.prog 65 = some (.slice none 0 0) := by kernel_rfl
@[simp] theorem Try.ud65 : undB Try.prog 65 = true := by kernel_rfl
@[simp] theorem Try.ni65 : isNonIface Try.prog 65 = true := by kernel_rfl
@[simp] theorem Try.el65 : elOf Try.prog 65 = some 58 := by kernel_rfl
@[simp] theorem Try.lk65 : lkOf Try.prog 65 = 1 := by kernel_rfl
@[simp] theorem Try.ix65 (H : List Blk) (x i : AV) (k : AV → Prop) (w : Wit k) : idxAddrV Try.prog H 65 x i k w = bindOW (szOf Try.prog 58) (fun sz => bindOW (intA i) (fun n => idxVW H sz x n k (wit _)) (wit _)) (wit _) := idxAddrV_sl Try.el65 H x i k w
@[simp] theorem Try.sl65 : slbOf Try.prog 65 = some (58, 1, [.slice none 0 0], 24) := by kernel_rfl
@[simp] theorem Try.sz66 : szOf Try.prog 66 = some 4 := by kernel_rfl
@[simp] theorem Try.ag66 : aggOf Try.prog 66 = some true := by kernel_rfl
@[simp] theorem Try.ze66 : zeroOf Try.prog 66 = some (.agg #[.int .i64 0, .slice none 0 0, .bool false, .slice none 0 0]) := by kernel_rfl
@[simp] theorem Try.ud66 : undB Try.prog 66 = true := by kernel_rfl
@[simp] theorem Try.ni66 : isNonIface Try.prog 66 = true := by kernel_rfl
@[simp] theorem Try.fl66_0 : fldOf Try.prog 66 0 = some (0, 1, false) := by kernel_rfl
@[simp] theorem Try.fl66_1 : fldOf Try.prog 66 1 = some (1, 1, false) := by kernel_rfl
@[simp] theorem Try.fl66_2 : fldOf Try.prog 66 2 = some (2, 1, false) := by kernel_rfl
@[simp] theorem Try.fl66_3 : fldOf Try.prog 66 3 = some (3, 1, false) := by kernel_rfl
@[simp] theorem Try.bl66 : bldOf Try.prog 66 = some ([.int .i64 0, .slice none 0 0, .bool false, .slice none 0 0], [(0, 1), (1, 1), (2, 1), (3, 1)]) := by kernel_rfl
@[simp] theorem Try.sz67 : szOf Try.prog 67 = some 4 := by kernel_rfl
@[simp] theorem Try.ag67 : aggOf Try.prog 67 = some true := by kernel_rfl
@[simp] theorem Try.ze67 : zeroOf Try.prog 67 = some (.agg #[.int .i64 0, .slice none 0 0, .bool false, .slice none 0 0]) := by kernel_rfl
@[simp] theorem Try.ud67 : undB Try.prog 67 = true := by kernel_rfl
@[simp] theorem Try.ni67 : isNonIface Try.prog 67 = true := by kernel_rfl
@[simp] theorem Try.fl67_0 : fldOf Try.prog 67 0 = some (0, 1, false) := by kernel_rfl
@[simp] theorem Try.fl67_1 : fldOf Try.prog 67 1 = some (1, 1, false) := by kernel_rfl
@[simp] theorem Try.fl67_2 : fldOf Try.prog 67 2 = some (2, 1, false) := by kernel_rfl
@[simp] theorem Try.fl67_3 : fldOf Try.prog 67 3 = some (3, 1, false) := by kernel_rfl
@[simp] theorem Try.bl67 : bldOf Try.prog 67 = some ([.int .i64 0, .slice none 0 0, .bool false, .slice none 0 0], [(0, 1), (1, 1), (2, 1), (3, 1)]) := by kernel_rfl
@[simp] theorem Try.sz68 : szOf Try.prog 68 = some 1 := by kernel_rfl
@[simp] theorem Try.ag68 : aggOf Try.prog 68 = some false := by kernel_rfl
@[simp] theorem Try.ze68 : zeroOf Try.prog 68 = some (.slice none 0 0) := by kernel_rfl
@[simp] theorem Try.ud68 : undB Try.prog 68 = true := by kernel_rfl
@[simp] theorem Try.ni68 : isNonIface Try.prog 68 = true := by kernel_rfl
@[simp] theorem Try.el68 : elOf Try.prog 68 = some 81 := by kernel_rfl
@[simp] theorem Try.lk68 : lkOf Try.prog 68 = 1 := by kernel_rfl
@[simp] theorem Try.ix68 (H : List Blk) (x i : AV) (k : AV → Prop) (w : Wit k) : idxAddrV Try.prog H 68 x i k w = bindOW (szOf Try.prog 81) (fun sz => bindOW (intA i) (fun n => idxVW H sz x n k (wit _)) (wit _)) (wit _) := idxAddrV_sl Try.el68 H x i k w
@[simp] theorem Try.sl68 : slbOf Try.prog 68 = some (81, 3, [.bool false, .bool false, .int .u64 0], 16) := by kernel_rfl
@[simp] theorem Try.sz72 : szOf Try.prog 72 = some 1 := by kernel_rfl
@[simp] theorem Try.ag72 : aggOf Try.prog 72 = some false := by kernel_rfl
@[simp] theorem Try.ze72 : zeroOf Try.prog 72 = some (.slice none 0 0) := by kernel_rfl
@[simp] theorem Try.ud72 : undB Try.prog 72 = true := by kernel_rfl
@[simp] theorem Try.ni72 : isNonIface Try.prog 72 = true := by kernel_rfl
@[simp] theorem Try.el72 : elOf Try.prog 72 = some 56 := by kernel_rfl
@[simp] theorem Try.lk72 : lkOf Try.prog 72 = 1 := by kernel_rfl
@[simp] theorem Try.ix72 (H : List Blk) (x i : AV) (k : AV → Prop) (w : Wit k) : idxAddrV Try.prog H 72 x i k w = bindOW (szOf Try.prog 56) (fun sz => bindOW (intA i) (fun n => idxVW H sz x n k (wit _)) (wit _)) (wit _) := idxAddrV_sl Try.el72 H x i k w
@[simp] theorem Try.sl72 : slbOf Try.prog 72 = some (56, 1, [.slice none 0 0], 24) := by kernel_rfl
@[simp] theorem Try.sz73 : szOf Try.prog 73 = some 1 := by kernel_rfl
@[simp] theorem Try.ag73 : aggOf Try.prog 73 = some false := by kernel_rfl
@[simp] theorem Try.ze73 : zeroOf Try.prog 73 = some (.int .i64 0) := by kernel_rfl
@[simp] theorem Try.ud73 : undB Try.prog 73 = true := by kernel_rfl
@[simp] theorem Try.ni73 : isNonIface Try.prog 73 = true := by kernel_rfl
@[simp] theorem Try.ko73 : kOf Try.prog 73 = some .i64 := by kernel_rfl
@[simp] theorem Try.sz74 : szOf Try.prog 74 = some 1 := by kernel_rfl
@[simp] theorem Try.ag74 : aggOf Try.prog 74 = some false := by kernel_rfl
@[simp] theorem Try.ze74 : zeroOf Try.prog 74 = some (.slice none 0 0) := by kernel_rfl
@[simp] theorem Try.ud74 : undB Try.prog 74 = true := by kernel_rfl
@[simp] theorem Try.ni74 : isNonIface Try.prog 74 = true := by kernel_rfl
@[simp] theorem Try.el74 : elOf Try.prog 74 = some 115 := by kernel_rfl
@[simp] theorem Try.lk74 : lkOf Try.prog 74 = 1 := by kernel_rfl
@[simp] theorem Try.ix74 (H : List Blk) (x i : AV) (k : AV → Prop) (w : Wit k) : idxAddrV Try.prog H 74 x i k w = bindOW (szOf Try.prog 115) (fun sz => bindOW (intA i) (fun n => idxVW H sz x n k (wit _)) (wit _)) (wit _) := idxAddrV_sl Try.el74 H x i k w
@[simp] theorem Try.sl74 : slbOf Try.prog 74 = some (115, 1, [.slice none 0 0], 24) := by kernel_rfl
@[simp] theorem Try.sz75 : szOf Try.prog 75 = some 4 := by kernel_rfl
@[simp] theorem Try.ag75 : aggOf Try.prog 75 = some true := by kernel_rfl
@[simp] theorem Try.ze75 : zeroOf Try.prog 75 = some (.agg #[.int .i64 0, .slice none 0 0, .bool false, .slice none 0 0]) := by kernel_rfl
@[simp] theorem Try.ud75 : undB Try.prog 75 = true := by kernel_rfl
@[simp] theorem Try.ni75 : isNonIface Try.prog 75 = true := by kernel_rfl
@[simp] theorem Try.fl75_0 : fldOf Try.prog 75 0 = some (0, 1, false) := by kernel_rfl
@[simp] theorem Try.fl75_1 : fldOf Try.prog 75 1 = some (1, 1, false) := by kernel_rfl
@[simp] theorem Try.fl75_2 : fldOf Try.prog 75 2 = some (2, 1, false) := by kernel_rfl
@[simp] theorem Try.fl75_3 : fldOf Try.prog 75 3 = some (3, 1, false) := by kernel_rfl
@[simp] theorem Try.bl75 : bldOf Try.prog 75 = some ([.int .i64 0, .slice none 0 0, .bool false, .slice none 0 0], [(0, 1), (1, 1), (2, 1), (3, 1)]) := by kernel_rfl
@[simp] theorem Try.sz76 : szOf Try.prog 76 = some 4 := by kernel_rfl
@[simp] theorem Try.ag76 : aggOf Try.prog 76 = some true := by kernel_rfl
@[simp] theorem Try.ze76 : zeroOf Try.prog 76 = some (.agg #[.int .i64 0, .slice none 0 0, .bool false, .slice none 0 0]) := by kernel_rfl
@[simp] theorem Try.ud76 : undB Try.prog 76 = true := by kernel_rfl
@[simp] theorem Try.ni76 : isNonIface Try.prog 76 = true := by kernel_rfl
@[simp] theorem Try.fl76_0 : fldOf Try.prog 76 0 = some (0, 1, false) := by kernel_rfl
@[simp] theorem Try.fl76_1 : fldOf Try.prog 76 1 = some (1, 1, false) := by kernel_rfl
@[simp] theorem Try.fl76_2 : fldOf Try.prog 76 2 = some (2, 1, false) := by kernel_rfl
@[simp] theorem Try.fl76_3 : fldOf Try.prog 76 3 = some (3, 1, false) := by kernel_rfl
@[simp] theorem Try.bl76 : bldOf Try.prog 76 = some ([.int .i64 0, .slice none 0 0, .bool false, .slice none 0 0], [(0, 1), (1, 1), (2, 1), (3, 1)]) := by kernel_rfl
@[simp] theorem Try.sz80 : szOf Try.prog 80 = some 3 := by kernel_rfl
@[simp] theorem Try.ag80 : aggOf Try.prog 80 = some true := by kernel_rfl
@[simp] theorem Try.ze80 : zeroOf Try.prog 80 = some (.agg #[.bool false, .bool false, .int .u64 0]) := by kernel_rfl
@[simp] theorem Try.ud80 : undB Try.prog 80 = true := by kernel_rfl
@[simp] theorem Try.ni80 : isNonIface Try.prog 80 = true := by kernel_rfl
@[simp] theorem Try.eq80 (x0 y0 : Bool) (x1 y1 : Bool) (x2 y2 : Int) : binE Try.prog .eql 80 (.agg [.v (.bool x0), .v (.bool x1), .v (.int .u64 x2)]) (.agg [.v (.bool y0), .v (.bool y1), .v (.int .u64 y2)]) = some (.v (.bool ((x0 == y0) && ((x1 == y1) && ((x2 == y2) && true))))) := by kernel_rfl
@[simp] theorem Try.nq80 (x0 y0 : Bool) (x1 y1 : Bool) (x2 y2 : Int) : binE Try.prog .neq 80 (.agg [.v (.bool x0), .v (.bool x1), .v (.int .u64 x2)]) (.agg [.v (.bool y0), .v (.bool y1), .v (.int .u64 y2)]) = some (.v (.bool (!((x0 == y0) && ((x1 == y1) && ((x2 == y2) && true)))))) := by kernel_rfl
@[simp] theorem Try.fl80_0 : fldOf Try.prog 80 0 = some (0, 1, false) := by kernel_rfl
@[simp] theorem Try.fl80_1 : fldOf Try.prog 80 1 = some (1, 1, false) := by kernel_rfl
@[simp] theorem Try.fl80_2 : fldOf Try.prog 80 2 = some (2, 1, false) := by kernel_rfl
@[simp] theorem Try.bl80 : bldOf Try.prog 80 = some ([.bool false, .bool false, .int .u64 0], [(0, 1), (1, 1), (2, 1)]) := by kernel_rfl
@[simp] theorem Try.sz81 : szOf Try.prog 81 = some 3 := by kernel_rfl
@[simp] theorem Try.ag81 : aggOf Try.prog 81 = some true := by kernel_rfl
@[simp] theorem Try.ze81 : zeroOf Try.prog 81 = some (.agg #[.bool false, .bool false, .int .u64 0]) := by kernel_rfl
@[simp] theorem Try.ud81 : undB Try.prog 81 = true := by kernel_rfl
@[simp] theorem Try.ni81 : isNonIface Try.prog 81 = true := by kernel_rfl
@[simp] theorem Try.eq81 (x0 y0 : Bool) (x1 y1 : Bool) (x2 y2 : Int) : binE Try.prog .eql 81 (.agg [.v (.bool x0), .v (.bool x1), .v (.int .u64 x2)]) (.agg [.v (.bool y0), .v (.bool y1), .v (.int .u64 y2)]) = some (.v (.bool ((x0 == y0) && ((x1 == y1) && ((x2 == y2) && true))))) := by kernel_rfl
@[simp] theorem Try.nq81 (x0 y0 : Bool) (x1 y1 : Bool) (x2 y2 : Int) : binE Try.prog .neq 81 (.agg [.v (.bool x0), .v (.bool x1), .v (.int .u64 x2)]) (.agg [.v (.bool y0), .v (.bool y1), .v (.int .u64 y2)]) = some (.v (.bool (!((x0 == y0) && ((x1 == y1) && ((x2 == y2) && true)))))) := by kernel_rfl
@[simp] theorem Try.fl81_0 : fldOf Try.prog 81 0 = some (0, 1, false) := by kernel_rfl
@[simp] theorem Try.fl81_1 : fldOf Try.prog 81 1 = some (1, 1, false) := by kernel_rfl
@[simp] theorem Try.fl81_2 : fldOf Try.prog 81 2 = some (2, 1, false) := by kernel_rfl
@[simp] theorem Try.bl81 : bldOf Try.prog 81 = some ([.bool false, .bool false, .int .u64 0], [(0, 1), (1, 1), (2, 1)]) := by kernel_rfl
@[simp] theorem Try.sz85 : szOf Try.prog 85 = some 1 := by kernel_rfl
@[simp] theorem Try.ag85 : aggOf Try.prog 85 = some false := by kernel_rfl
@[simp] theorem Try.ze85 : zeroOf Try.prog 85 = some (.pointer none) := by kernel_rfl
@[simp] theorem Try.ud85 : undB Try.prog 85 = true := by kernel_rfl
@[simp] theorem Try.ni85 : isNonIface Try.prog 85 = true := by kernel_rfl
@[simp] theorem Try.sz86 : szOf Try.prog 86 = some 1 := by kernel_rfl
@[simp] theorem Try.ag86 : aggOf Try.prog 86 = some false := by kernel_rfl
@[simp] theorem Try.ze86 : zeroOf Try.prog 86 = some (.map none) := by kernel_rfl
@[simp] theorem Try.ud86 : undB Try.prog 86 = true := by kernel_rfl
@[simp] theorem Try.ni86 : isNonIface Try.prog 86 = true := by kernel_rfl
@[simp] theorem Try.lk86 : lkOf Try.prog 86 = 3 := by kernel_rfl
@[simp] theorem Try.mp86 : mapOf Try.prog 86 = some (.string, .agg #[.string ByteArray.empty, .int .i64 0, .int .i64 0, .bool false]) := by kernel_rfl
@[simp] theorem Try.sz87 : szOf Try.prog 87 = some 1 := by kernel_rfl
@[simp] theorem Try.ag87 : aggOf Try.prog 87 = some false := by kernel_rfl
@[simp] theorem Try.ze87 : zeroOf Try.prog 87 = some (.map none) := by kernel_rfl
@[simp] theorem Try.ud87 : undB Try.prog 87 = true := by kernel_rfl
@[simp] theorem Try.ni87 : isNonIface Try.prog 87 = true := by kernel_rfl
@[simp] theorem Try.lk87 : lkOf Try.prog 87 = 3 := by kernel_rfl
@[simp] theorem Try.mp87 : mapOf Try.prog 87 = some (.string, .agg #[.bool false]) := by kernel_rfl
@[simp] theorem Try.sz89 : szOf Try.prog 89 = some 7 := by kernel_rfl
@[simp] theorem Try.ag89 : aggOf Try.prog 89 = some true := by kernel_rfl
@[simp] theorem Try.ze89 : zeroOf Try.prog 89 = some (.agg #[.slice none 0 0, .slice none 0 0, .int .i64 0, .map none, .map none, .slice none 0 0, .slice none 0 0]) := by kernel_rfl
@[simp] theorem Try.ud89 : undB Try.prog 89 = true := by kernel_rfl
@[simp] theorem Try.ni89 : isNonIface Try.prog 89 = true := by kernel_rfl
@[simp] theorem Try.fl89_0 : fldOf Try.prog 89 0 = some (0, 2, true) := by kernel_rfl
@[simp] theorem Try.fl89_1 : fldOf Try.prog 89 1 = some (2, 1, false) := by kernel_rfl
@[simp] theorem Try.fl89_2 : fldOf Try.prog 89 2 = some (3, 1, false) := by kernel_rfl
@[simp] theorem Try.fl89_3 : fldOf Try.prog 89 3 = some (4, 1, false) := by kernel_rfl
@[simp] theorem Try.fl89_4 : fldOf Try.prog 89 4 = some (5, 1, false) := by kernel_rfl
@[simp] theorem Try.fl89_5 : fldOf Try.prog 89 5 = some (6, 1, false) := by kernel_rfl
@[simp] theorem Try.bl89 : bldOf Try.prog 89 = some ([.slice none 0 0, .slice none 0 0, .int .i64 0, .map none, .map none, .slice none 0 0, .slice none 0 0], [(0, 2), (2, 1), (3, 1), (4, 1), (5, 1), (6, 1)]) := by kernel_rfl
@[simp] theorem Try.sz90 : szOf Try.prog 90 = some 7 := by kernel_rfl
@[simp] theorem Try.ag90 : aggOf Try.prog 90 = some true := by kernel_rfl
@[simp] theorem Try.ze90 : zeroOf Try.prog 90 = some (.agg #[.slice none 0 0, .slice none 0 0, .int .i64 0, .map none, .map none, .slice none 0 0, .slice none 0 0]) := by kernel_rfl
@[simp] theorem Try.ud90 : undB Try.prog 90 = true := by kernel_rfl
@[simp] theorem Try.ni90 : isNonIface Try.prog 90 = true := by kernel_rfl
@[simp] theorem Try.fl90_0 : fldOf Try.prog 90 0 = some (0, 2, true) := by kernel_rfl
@[simp] theorem Try.fl90_1 : fldOf Try.prog 90 1 = some (2, 1, false) := by kernel_rfl
@[simp] theorem Try.fl90_2 : fldOf Try.prog 90 2 = some (3, 1, false) := by kernel_rfl
@[simp] theorem Try.fl90_3 : fldOf Try.prog 90 3 = some (4, 1, false) := by kernel_rfl
@[simp] theorem Try.fl90_4 : fldOf Try.prog 90 4 = some (5, 1, false) := by kernel_rfl
@[simp] theorem Try.fl90_5 : fldOf Try.prog 90 5 = some (6, 1, false) := by kernel_rfl
@[simp] theorem Try.bl90 : bldOf Try.prog 90 = some ([.slice none 0 0, .slice none 0 0, .int .i64 0, .map none, .map none, .slice none 0 0, .slice none 0 0], [(0, 2), (2, 1), (3, 1), (4, 1), (5, 1), (6, 1)]) := by kernel_rfl
@[simp] theorem Try.sz91 : szOf Try.prog 91 = some 4 := by kernel_rfl
@[simp] theorem Try.ag91 : aggOf Try.prog 91 = some true := by kernel_rfl
@[simp] theorem Try.ze91 : zeroOf Try.prog 91 = some (.agg #[.string ByteArray.empty, .int .i64 0, .int .i64 0, .bool false]) := by kernel_rfl
@[simp] theorem Try.ud91 : undB Try.prog 91 = true := by kernel_rfl
@[simp] theorem Try.ni91 : isNonIface Try.prog 91 = true := by kernel_rfl
@[simp] theorem Try.eq91 (x0 y0 : ByteArray) (x1 y1 : Int) (x2 y2 : Int) (x3 y3 : Bool) : binE Try.prog .eql 91 (.agg [.v (.string x0), .v (.int .i64 x1), .v (.int .i64 x2), .v (.bool x3)]) (.agg [.v (.string y0), .v (.int .i64 y1), .v (.int .i64 y2), .v (.bool y3)]) = some (.v (.bool ((x0.toList == y0.toList) && ((x1 == y1) && ((x2 == y2) && ((x3 == y3) && true)))))) := by kernel_rfl
@[simp] theorem Try.nq91 (x0 y0 : ByteArray) (x1 y1 : Int) (x2 y2 : Int) (x3 y3 : Bool) : binE Try.prog .neq 91 (.agg [.v (.string x0), .v (.int .i64 x1), .v (.int .i64 x2), .v (.bool x3)]) (.agg [.v (.string y0), .v (.int .i64 y1), .v (.int .i64 y2), .v (.bool y3)]) = some (.v (.bool (!((x0.toList == y0.toList) && ((x1 == y1) && ((x2 == y2) && ((x3 == y3) && true))))))) := by kernel_rfl
@[simp] theorem Try.fl91_0 : fldOf Try.prog 91 0 = some (0, 1, false) := by kernel_rfl
@[simp] theorem Try.fl91_1 : fldOf Try.prog 91 1 = some (1, 1, false) := by kernel_rfl
@[simp] theorem Try.fl91_2 : fldOf Try.prog 91 2 = some (2, 1, false) := by kernel_rfl
@[simp] theorem Try.fl91_3 : fldOf Try.prog 91 3 = some (3, 1, false) := by kernel_rfl
@[simp] theorem Try.bl91 : bldOf Try.prog 91 = some ([.string ByteArray.empty, .int .i64 0, .int .i64 0, .bool false], [(0, 1), (1, 1), (2, 1), (3, 1)]) := by kernel_rfl
@[simp] theorem Try.sz92 : szOf Try.prog 92 = some 4 := by kernel_rfl
@[simp] theorem Try.ag92 : aggOf Try.prog 92 = some true := by kernel_rfl
@[simp] theorem Try.ze92 : zeroOf Try.prog 92 = some (.agg #[.string ByteArray.empty, .int .i64 0, .int .i64 0, .bool false]) := by kernel_rfl
@[simp] theorem Try.ud92 : undB Try.prog 92 = true := by kernel_rfl
@[simp] theorem Try.ni92 : isNonIface Try.prog 92 = true := by kernel_rfl
@[simp] theorem Try.eq92 (x0 y0 : ByteArray) (x1 y1 : Int) (x2 y2 : Int) (x3 y3 : Bool) : binE Try.prog .eql 92 (.agg [.v (.string x0), .v (.int .i64 x1), .v (.int .i64 x2), .v (.bool x3)]) (.agg [.v (.string y0), .v (.int .i64 y1), .v (.int .i64 y2), .v (.bool y3)]) = some (.v (.bool ((x0.toList == y0.toList) && ((x1 == y1) && ((x2 == y2) && ((x3 == y3) && true)))))) := by kernel_rfl
@[simp] theorem Try.nq92 (x0 y0 : ByteArray) (x1 y1 : Int) (x2 y2 : Int) (x3 y3 : Bool) : binE Try.prog .neq 92 (.agg [.v (.string x0), .v (.int .i64 x1), .v (.int .i64 x2), .v (.bool x3)]) (.agg [.v (.string y0), .v (.int .i64 y1), .v (.int .i64 y2), .v (.bool y3)]) = some (.v (.bool (!((x0.toList == y0.toList) && ((x1 == y1) && ((x2 == y2) && ((x3 == y3) && true))))))) := by kernel_rfl
@[simp] theorem Try.fl92_0 : fldOf Try.prog 92 0 = some (0, 1, false) := by kernel_rfl
@[simp] theorem Try.fl92_1 : fldOf Try.prog 92 1 = some (1, 1, false) := by kernel_rfl
@[simp] theorem Try.fl92_2 : fldOf Try.prog 92 2 = some (2, 1, false) := by kernel_rfl
@[simp] theorem Try.fl92_3 : fldOf Try.prog 92 3 = some (3, 1, false) := by kernel_rfl
@[simp] theorem Try.bl92 : bldOf Try.prog 92 = some ([.string ByteArray.empty, .int .i64 0, .int .i64 0, .bool false], [(0, 1), (1, 1), (2, 1), (3, 1)]) := by kernel_rfl
@[simp] theorem Try.sz93 : szOf Try.prog 93 = some 1 := by kernel_rfl
@[simp] theorem Try.ag93 : aggOf Try.prog 93 = some true := by kernel_rfl
@[simp] theorem Try.ze93 : zeroOf Try.prog 93 = some (.agg #[.bool false]) := by kernel_rfl
@[simp] theorem Try.ud93 : undB Try.prog 93 = true := by kernel_rfl
@[simp] theorem Try.ni93 : isNonIface Try.prog 93 = true := by kernel_rfl
@[simp] theorem Try.eq93 (x0 y0 : Bool) : binE Try.prog .eql 93 (.agg [.v (.bool x0)]) (.agg [.v (.bool y0)]) = some (.v (.bool ((x0 == y0) && true))) := by kernel_rfl
@[simp] theorem Try.nq93 (x0 y0 : Bool) : binE Try.prog .neq 93 (.agg [.v (.bool x0)]) (.agg [.v (.bool y0)]) = some (.v (.bool (!((x0 == y0) && true)))) := by kernel_rfl
@[simp] theorem Try.fl93_0 : fldOf Try.prog 93 0 = some (0, 1, false) := by kernel_rfl
@[simp] theorem Try.bl93 : bldOf Try.prog 93 = some ([.bool false], [(0, 1)]) := by kernel_rfl
@[simp] theorem Try.sz103 : szOf Try.prog 103 = some 1 := by kernel_rfl
@[simp] theorem Try.ag103 : aggOf Try.prog 103 = some false := by kernel_rfl
@[simp] theorem Try.ze103 : zeroOf Try.prog 103 = some (.nilFunc) := by kernel_rfl
@[simp] theorem Try.ud103 : undB Try.prog 103 = true := by kernel_rfl
@[simp] theorem Try.ni103 : isNonIface Try.prog 103 = true := by kernel_rfl
@[simp] theorem Try.sz104 : szOf Try.prog 104 = some 1 := by kernel_rfl
@[simp] theorem Try.ag104 : aggOf Try.prog 104 = some false := by kernel_rfl
@[simp] theorem Try.ze104 : zeroOf Try.prog 104 = some (.nilFunc) := by kernel_rfl
@[simp] theorem Try.ud104 : undB Try.prog 104 = true := by kernel_rfl
@[simp] theorem Try.ni104 : isNonIface Try.prog 104 = true := by kernel_rfl
@[simp] theorem Try.sz112 : szOf Try.prog 112 = some 1 := by kernel_rfl
@[simp] theorem Try.ag112 : aggOf Try.prog 112 = some false := by kernel_rfl
@[simp] theorem Try.ze112 : zeroOf Try.prog 112 = some (.int .i64 0) := by kernel_rfl
@[simp] theorem Try.ud112 : undB Try.prog 112 = true := by kernel_rfl
@[simp] theorem Try.ni112 : isNonIface Try.prog 112 = true := by kernel_rfl
@[simp] theorem Try.ko112 : kOf Try.prog 112 = some .i64 := by kernel_rfl
@[simp] theorem Try.sz113 : szOf Try.prog 113 = some 4 := by kernel_rfl
@[simp] theorem Try.ag113 : aggOf Try.prog 113 = some true := by kernel_rfl
@[simp] theorem Try.ze113 : zeroOf Try.prog 113 = some (.agg #[.int .i64 0, .int .i64 0, .int .u64 0, .bool false]) := by kernel_rfl
@[simp] theorem Try.ud113 : undB Try.prog 113 = true := by kernel_rfl
@[simp] theorem Try.ni113 : isNonIface Try.prog 113 = true := by kernel_rfl
@[simp] theorem Try.eq113 (x0 y0 : Int) (x1 y1 : Int) (x2 y2 : Int) (x3 y3 : Bool) : binE Try.prog .eql 113 (.agg [.v (.int .i64 x0), .v (.int .i64 x1), .v (.int .u64 x2), .v (.bool x3)]) (.agg [.v (.int .i64 y0), .v (.int .i64 y1), .v (.int .u64 y2), .v (.bool y3)]) = some (.v (.bool ((x0 == y0) && ((x1 == y1) && ((x2 == y2) && ((x3 == y3) && true)))))) := by kernel_rfl
@[simp] theorem Try.nq113 (x0 y0 : Int) (x1 y1 : Int) (x2 y2 : Int) (x3 y3 : Bool) : binE Try.prog .neq 113 (.agg [.v (.int .i64 x0), .v (.int .i64 x1), .v (.int .u64 x2), .v (.bool x3)]) (.agg [.v (.int .i64 y0), .v (.int .i64 y1), .v (.int .u64 y2), .v (.bool y3)]) = some (.v (.bool (!((x0 == y0) && ((x1 == y1) && ((x2 == y2) && ((x3 == y3) && true))))))) := by kernel_rfl
@[simp] theorem Try.fl113_0 : fldOf Try.prog 113 0 = some (0, 1, false) := by kernel_rfl
@[simp] theorem Try.fl113_1 : fldOf Try.prog 113 1 = some (1, 1, false) := by kernel_rfl
@[simp] theorem Try.fl113_2 : fldOf Try.prog 113 2 = some (2, 1, false) := by kernel_rfl
@[simp] theorem Try.fl113_3 : fldOf Try.prog 113 3 = some (3, 1, false) := by kernel_rfl
@[simp] theorem Try.bl113 : bldOf Try.prog 113 = some ([.int .i64 0, .int .i64 0, .int .u64 0, .bool false], [(0, 1), (1, 1), (2, 1), (3, 1)]) := by kernel_rfl
@[simp] theorem Try.sz114 : szOf Try.prog 114 = some 4 := by kernel_rfl
@[simp] theorem Try.ag114 : aggOf Try.prog 114 = some true := by kernel_rfl
@[simp] theorem Try.ze114 : zeroOf Try.prog 114 = some (.agg #[.int .i64 0, .int .i64 0, .int .u64 0, .bool false]) := by kernel_rfl
@[simp] theorem Try.ud114 : undB Try.prog 114 = true := by kernel_rfl
@[simp] theorem Try.ni114 : isNonIface Try.prog 114 = true := by kernel_rfl
@[simp] theorem Try.eq114 (x0 y0 : Int) (x1 y1 : Int) (x2 y2 : Int) (x3 y3 : Bool) : binE Try.prog .eql 114 (.agg [.v (.int .i64 x0), .v (.int .i64 x1), .v (.int .u64 x2), .v (.bool x3)]) (.agg [.v (.int .i64 y0), .v (.int .i64 y1), .v (.int .u64 y2), .v (.bool y3)]) = some (.v (.bool ((x0 == y0) && ((x1 == y1) && ((x2 == y2) && ((x3 == y3) && true)))))) := by kernel_rfl
@[simp] theorem Try.nq114 (x0 y0 : Int) (x1 y1 : Int) (x2 y2 : Int) (x3 y3 : Bool) : binE Try.prog .neq 114 (.agg [.v (.int .i64 x0), .v (.int .i64 x1), .v (.int .u64 x2), .v (.bool x3)]) (.agg [.v (.int .i64 y0), .v (.int .i64 y1), .v (.int .u64 y2), .v (.bool y3)]) = some (.v (.bool (!((x0 == y0) && ((x1 == y1) && ((x2 == y2) && ((x3 == y3) && true))))))) := by kernel_rfl
@[simp] theorem Try.fl114_0 : fldOf Try.prog 114 0 = some (0, 1, false) := by kernel_rfl
@[simp] theorem Try.fl114_1 : fldOf Try.prog 114 1 = some (1, 1, false) := by kernel_rfl
@[simp] theorem Try.fl114_2 : fldOf Try.prog 114 2 = some (2, 1, false) := by kernel_rfl
@[simp] theorem Try.fl114_3 : fldOf Try.prog 114 3 = some (3, 1, false) := by kernel_rfl
@[simp] theorem Try.bl114 : bldOf Try.prog 114 = some ([.int .i64 0, .int .i64 0, .int .u64 0, .bool false], [(0, 1), (1, 1), (2, 1), (3, 1)]) := by kernel_rfl
@[simp] theorem Try.sz115 : szOf Try.prog 115 = some 1 := by kernel_rfl
@[simp] theorem Try.ag115 : aggOf Try.prog 115 = some false := by kernel_rfl
@[simp] theorem Try.ze115 : zeroOf Try.prog 115 = some (.slice none 0 0) := by kernel_rfl
@[simp] theorem Try.ud115 : undB Try.prog 115 = true := by kernel_rfl
@[simp] theorem Try.ni115 : isNonIface Try.prog 115 = true := by kernel_rfl
@[simp] theorem Try.el115 : elOf Try.prog 115 = some 114 := by kernel_rfl
@[simp] theorem Try.lk115 : lkOf Try.prog 115 = 1 := by kernel_rfl
@[simp] theorem Try.ix115 (H : List Blk) (x i : AV) (k : AV → Prop) (w : Wit k) : idxAddrV Try.prog H 115 x i k w = bindOW (szOf Try.prog 114) (fun sz => bindOW (intA i) (fun n => idxVW H sz x n k (wit _)) (wit _)) (wit _) := idxAddrV_sl Try.el115 H x i k w
@[simp] theorem Try.sl115 : slbOf Try.prog 115 = some (114, 4, [.int .i64 0, .int .i64 0, .int .u64 0, .bool false], 32) := by kernel_rfl
@[simp] theorem Try.sz116 : szOf Try.prog 116 = some 1 := by kernel_rfl
@[simp] theorem Try.ag116 : aggOf Try.prog 116 = some false := by kernel_rfl
@[simp] theorem Try.ze116 : zeroOf Try.prog 116 = some (.pointer none) := by kernel_rfl
@[simp] theorem Try.ud116 : undB Try.prog 116 = true := by kernel_rfl
@[simp] theorem Try.ni116 : isNonIface Try.prog 116 = true := by kernel_rfl
@[simp] theorem Try.sz117 : szOf Try.prog 117 = some 1 := by kernel_rfl
@[simp] theorem Try.ag117 : aggOf Try.prog 117 = some true := by kernel_rfl
@[simp] theorem Try.ze117 : zeroOf Try.prog 117 = some (.agg #[.int .i64 0]) := by kernel_rfl
@[simp] theorem Try.ud117 : undB Try.prog 117 = true := by kernel_rfl
@[simp] theorem Try.ni117 : isNonIface Try.prog 117 = true := by kernel_rfl
@[simp] theorem Try.eq117 (x0 y0 : Int) : binE Try.prog .eql 117 (.agg [.v (.int .i64 x0)]) (.agg [.v (.int .i64 y0)]) = some (.v (.bool ((x0 == y0) && true))) := by kernel_rfl
@[simp] theorem Try.nq117 (x0 y0 : Int) : binE Try.prog .neq 117 (.agg [.v (.int .i64 x0)]) (.agg [.v (.int .i64 y0)]) = some (.v (.bool (!((x0 == y0) && true)))) := by kernel_rfl
@[simp] theorem Try.fl117_0 : fldOf Try.prog 117 0 = some (0, 1, false) := by kernel_rfl
@[simp] theorem Try.bl117 : bldOf Try.prog 117 = some ([.int .i64 0], [(0, 1)]) := by kernel_rfl
@[simp] theorem Try.sz118 : szOf Try.prog 118 = some 1 := by kernel_rfl
@[simp] theorem Try.ag118 : aggOf Try.prog 118 = some true := by kernel_rfl
@[simp] theorem Try.ze118 : zeroOf Try.prog 118 = some (.agg #[.int .i64 0]) := by kernel_rfl
@[simp] theorem Try.ud118 : undB Try.prog 118 = true := by kernel_rfl
@[simp] theorem Try.ni118 : isNonIface Try.prog 118 = true := by kernel_rfl
@[simp] theorem Try.eq118 (x0 y0 : Int) : binE Try.prog .eql 118 (.agg [.v (.int .i64 x0)]) (.agg [.v (.int .i64 y0)]) = some (.v (.bool ((x0 == y0) && true))) := by kernel_rfl
@[simp] theorem Try.nq118 (x0 y0 : Int) : binE Try.prog .neq 118 (.agg [.v (.int .i64 x0)]) (.agg [.v (.int .i64 y0)]) = some (.v (.bool (!((x0 == y0) && true)))) := by kernel_rfl
@[simp] theorem Try.fl118_0 : fldOf Try.prog 118 0 = some (0, 1, false) := by kernel_rfl
@[simp] theorem Try.bl118 : bldOf Try.prog 118 = some ([.int .i64 0], [(0, 1)]) := by kernel_rfl
@[simp] theorem Try.sz119 : szOf Try.prog 119 = some 1 := by kernel_rfl
@[simp] theorem Try.ag119 : aggOf Try.prog 119 = some false := by kernel_rfl
@[simp] theorem Try.ze119 : zeroOf Try.prog 119 = some (.nilFunc) := by kernel_rfl
@[simp] theorem Try.ud119 : undB Try.prog 119 = true := by kernel_rfl
@[simp] theorem Try.ni119 : isNonIface Try.prog 119 = true := by kernel_rfl
@[simp] theorem Try.sz121 : szOf Try.prog 121 = some 1 := by kernel_rfl
@[simp] theorem Try.ag121 : aggOf Try.prog 121 = some false := by kernel_rfl
@[simp] theorem Try.ze121 : zeroOf Try.prog 121 = some (.nilFunc) := by kernel_rfl
@[simp] theorem Try.ud121 : undB Try.prog 121 = true := by kernel_rfl
@[simp] theorem Try.ni121 : isNonIface Try.prog 121 = true := by kernel_rfl
@[simp] theorem Try.sz124 : szOf Try.prog 124 = some 1 := by kernel_rfl
@[simp] theorem Try.ag124 : aggOf Try.prog 124 = some false := by kernel_rfl
@[simp] theorem Try.ze124 : zeroOf Try.prog 124 = some (.nilFunc) := by kernel_rfl
@[simp] theorem Try.ud124 : undB Try.prog 124 = true := by kernel_rfl
@[simp] theorem Try.ni124 : isNonIface Try.prog 124 = true := by kernel_rfl
@[simp] theorem Try.sz125 : szOf Try.prog 125 = some 1 := by kernel_rfl
@[simp] theorem Try.ag125 : aggOf Try.prog 125 = some false := by kernel_rfl
@[simp] theorem Try.ze125 : zeroOf Try.prog 125 = some (.nilFunc) := by kernel_rfl
@[simp] theorem Try.ud125 : undB Try.prog 125 = true := by kernel_rfl
@[simp] theorem Try.ni125 : isNonIface Try.prog 125 = true := by kernel_rfl
@[simp] theorem Try.sz129 : szOf Try.prog 129 = some 1 := by kernel_rfl
@[simp] theorem Try.ag129 : aggOf Try.prog 129 = some false := by kernel_rfl
@[simp] theorem Try.ze129 : zeroOf Try.prog 129 = some (.pointer none) := by kernel_rfl
@[simp] theorem Try.ud129 : undB Try.prog 129 = true := by kernel_rfl
@[simp] theorem Try.ni129 : isNonIface Try.prog 129 = true := by kernel_rfl
@[simp] theorem Try.sz130 : szOf Try.prog 130 = some 3 := by kernel_rfl
@[simp] theorem Try.ag130 : aggOf Try.prog 130 = some true := by kernel_rfl
@[simp] theorem Try.ze130 : zeroOf Try.prog 130 = some (.agg #[.int .u64 0, .bool false, .int .i64 0]) := by kernel_rfl
@[simp] theorem Try.ud130 : undB Try.prog 130 = true := by kernel_rfl
@[simp] theorem Try.ni130 : isNonIface Try.prog 130 = true := by kernel_rfl
@[simp] theorem Try.eq130 (x0 y0 : Int) (x1 y1 : Bool) (x2 y2 : Int) : binE Try.prog .eql 130 (.agg [.v (.int .u64 x0), .v (.bool x1), .v (.int .i64 x2)]) (.agg [.v (.int .u64 y0), .v (.bool y1), .v (.int .i64 y2)]) = some (.v (.bool ((x0 == y0) && ((x1 == y1) && (((x2 == y2) && true) && true))))) := by kernel_rfl
@[simp] theorem Try.nq130 (x0 y0 : Int) (x1 y1 : Bool) (x2 y2 : Int) : binE Try.prog .neq 130 (.agg [.v (.int .u64 x0), .v (.bool x1), .v (.int .i64 x2)]) (.agg [.v (.int .u64 y0), .v (.bool y1), .v (.int .i64 y2)]) = some (.v (.bool (!((x0 == y0) && ((x1 == y1) && (((x2 == y2) && true) && true)))))) := by kernel_rfl
@[simp] theorem Try.fl130_0 : fldOf Try.prog 130 0 = some (0, 1, false) := by kernel_rfl
@[simp] theorem Try.fl130_1 : fldOf Try.prog 130 1 = some (1, 1, false) := by kernel_rfl
@[simp] theorem Try.fl130_2 : fldOf Try.prog 130 2 = some (2, 1, true) := by kernel_rfl
@[simp] theorem Try.bl130 : bldOf Try.prog 130 = some ([.int .u64 0, .bool false, .int .i64 0], [(0, 1), (1, 1), (2, 1)]) := by kernel_rfl
@[simp] theorem Try.sz131 : szOf Try.prog 131 = some 3 := by kernel_rfl
@[simp] theorem Try.ag131 : aggOf Try.prog 131 = some true := by kernel_rfl
@[simp] theorem Try.ze131 : zeroOf Try.prog 131 = some (.agg #[.int .u64 0, .bool false, .int .i64 0]) := by kernel_rfl
@[simp] theorem Try.ud131 : undB Try.prog 131 = true := by kernel_rfl
@[simp] theorem Try.ni131 : isNonIface Try.prog 131 = true := by kernel_rfl
@[simp] theorem Try.eq131 (x0 y0 : Int) (x1 y1 : Bool) (x2 y2 : Int) : binE Try.prog .eql 131 (.agg [.v (.int .u64 x0), .v (.bool x1), .v (.int .i64 x2)]) (.agg [.v (.int .u64 y0), .v (.bool y1), .v (.int .i64 y2)]) = some (.v (.bool ((x0 == y0) && ((x1 == y1) && (((x2 == y2) && true) && true))))) := by kernel_rfl
@[simp] theorem Try.nq131 (x0 y0 : Int) (x1 y1 : Bool) (x2 y2 : Int) : binE Try.prog .neq 131 (.agg [.v (.int .u64 x0), .v (.bool x1), .v (.int .i64 x2)]) (.agg [.v (.int .u64 y0), .v (.bool y1), .v (.int .i64 y2)]) = some (.v (.bool (!((x0 == y0) && ((x1 == y1) && (((x2 == y2) && true) && true)))))) := by kernel_rfl
@[simp] theorem Try.fl131_0 : fldOf Try.prog 131 0 = some (0, 1, false) := by kernel_rfl
@[simp] theorem Try.fl131_1 : fldOf Try.prog 131 1 = some (1, 1, false) := by kernel_rfl
@[simp] theorem Try.fl131_2 : fldOf Try.prog 131 2 = some (2, 1, true) := by kernel_rfl
@[simp] theorem Try.bl131 : bldOf Try.prog 131 = some ([.int .u64 0, .bool false, .int .i64 0], [(0, 1), (1, 1), (2, 1)]) := by kernel_rfl
@[simp] theorem Try.sz139 : szOf Try.prog 139 = some 1 := by kernel_rfl
@[simp] theorem Try.ag139 : aggOf Try.prog 139 = some false := by kernel_rfl
@[simp] theorem Try.ze139 : zeroOf Try.prog 139 = some (.nilFunc) := by kernel_rfl
@[simp] theorem Try.ud139 : undB Try.prog 139 = true := by kernel_rfl
@[simp] theorem Try.ni139 : isNonIface Try.prog 139 = true := by kernel_rfl
@[simp] theorem Try.sz141 : szOf Try.prog 141 = some 1 := by kernel_rfl
@[simp] theorem Try.ag141 : aggOf Try.prog 141 = some true := by kernel_rfl
@[simp] theorem Try.ze141 : zeroOf Try.prog 141 = some (.agg #[.int .i64 0]) := by kernel_rfl
@[simp] theorem Try.ud141 : undB Try.prog 141 = true := by kernel_rfl
@[simp] theorem Try.ni141 : isNonIface Try.prog 141 = true := by kernel_rfl
@[simp] theorem Try.eq141 (x0 y0 : Int) : binE Try.prog .eql 141 (.agg [.v (.int .i64 x0)]) (.agg [.v (.int .i64 y0)]) = some (.v (.bool ((x0 == y0) && true))) := by kernel_rfl
@[simp] theorem Try.nq141 (x0 y0 : Int) : binE Try.prog .neq 141 (.agg [.v (.int .i64 x0)]) (.agg [.v (.int .i64 y0)]) = some (.v (.bool (!((x0 == y0) && true)))) := by kernel_rfl
@[simp] theorem Try.fl141_0 : fldOf Try.prog 141 0 = some (0, 1, false) := by kernel_rfl
@[simp] theorem Try.bl141 : bldOf Try.prog 141 = some ([.int .i64 0], [(0, 1)]) := by kernel_rfl
@[simp] theorem Try.sz142 : szOf Try.prog 142 = some 1 := by kernel_rfl
@[simp] theorem Try.ag142 : aggOf Try.prog 142 = some true := by kernel_rfl
@[simp] theorem Try.ze142 : zeroOf Try.prog 142 = some (.agg #[.int .i64 0]) := by kernel_rfl
@[simp] theorem Try.ud142 : undB Try.prog 142 = true := by kernel_rfl
@[simp] theorem Try.ni142 : isNonIface Try.prog 142 = true := by kernel_rfl
@[simp] theorem Try.eq142 (x0 y0 : Int) : binE Try.prog .eql 142 (.agg [.v (.int .i64 x0)]) (.agg [.v (.int .i64 y0)]) = some (.v (.bool ((x0 == y0) && true))) := by kernel_rfl
@[simp] theorem Try.nq142 (x0 y0 : Int) : binE Try.prog .neq 142 (.agg [.v (.int .i64 x0)]) (.agg [.v (.int .i64 y0)]) = some (.v (.bool (!((x0 == y0) && true)))) := by kernel_rfl
@[simp] theorem Try.fl142_0 : fldOf Try.prog 142 0 = some (0, 1, false) := by kernel_rfl
@[simp] theorem Try.bl142 : bldOf Try.prog 142 = some ([.int .i64 0], [(0, 1)]) := by kernel_rfl
@[simp] theorem Try.sz145 : szOf Try.prog 145 = some 1 := by kernel_rfl
@[simp] theorem Try.ag145 : aggOf Try.prog 145 = some false := by kernel_rfl
@[simp] theorem Try.ze145 : zeroOf Try.prog 145 = some (.nilFunc) := by kernel_rfl
@[simp] theorem Try.ud145 : undB Try.prog 145 = true := by kernel_rfl
@[simp] theorem Try.ni145 : isNonIface Try.prog 145 = true := by kernel_rfl
@[simp] theorem Try.sz151 : szOf Try.prog 151 = some 1 := by kernel_rfl
@[simp] theorem Try.ag151 : aggOf Try.prog 151 = some false := by kernel_rfl
@[simp] theorem Try.ze151 : zeroOf Try.prog 151 = some (.nilFunc) := by kernel_rfl
@[simp] theorem Try.ud151 : undB Try.prog 151 = true := by kernel_rfl
@[simp] theorem Try.ni151 : isNonIface Try.prog 151 = true := by kernel_rfl
@[simp] theorem Try.sz156 : szOf Try.prog 156 = some 1 := by kernel_rfl
@[simp] theorem Try.ag156 : aggOf Try.prog 156 = some false := by kernel_rfl
@[simp] theorem Try.ze156 : zeroOf Try.prog 156 = some (.nilFunc) := by kernel_rfl
@[simp] theorem Try.ud156 : undB Try.prog 156 = true := by kernel_rfl
@[simp] theorem Try.ni156 : isNonIface Try.prog 156 = true := by kernel_rfl
@[simp] theorem Try.sz160 : szOf Try.prog 160 = some 1 := by kernel_rfl
@[simp] theorem Try.ag160 : aggOf Try.prog 160 = some true := by kernel_rfl
@[simp] theorem Try.ze160 : zeroOf Try.prog 160 = some (.agg #[.int .i64 0]) := by kernel_rfl
@[simp] theorem Try.ud160 : undB Try.prog 160 = true := by kernel_rfl
@[simp] theorem Try.ni160 : isNonIface Try.prog 160 = true := by kernel_rfl
@[simp] theorem Try.eq160 (x0 y0 : Int) : binE Try.prog .eql 160 (.agg [.v (.int .i64 x0)]) (.agg [.v (.int .i64 y0)]) = some (.v (.bool ((x0 == y0) && true))) := by kernel_rfl
@[simp] theorem Try.nq160 (x0 y0 : Int) : binE Try.prog .neq 160 (.agg [.v (.int .i64 x0)]) (.agg [.v (.int .i64 y0)]) = some (.v (.bool (!((x0 == y0) && true)))) := by kernel_rfl
@[simp] theorem Try.fl160_0 : fldOf Try.prog 160 0 = some (0, 1, false) := by kernel_rfl
@[simp] theorem Try.bl160 : bldOf Try.prog 160 = some ([.int .i64 0], [(0, 1)]) := by kernel_rfl
@[simp] theorem Try.sz161 : szOf Try.prog 161 = some 1 := by kernel_rfl
@[simp] theorem Try.ag161 : aggOf Try.prog 161 = some true := by kernel_rfl
@[simp] theorem Try.ze161 : zeroOf Try.prog 161 = some (.agg #[.int .i64 0]) := by kernel_rfl
@[simp] theorem Try.ud161 : undB Try.prog 161 = true := by kernel_rfl
@[simp] theorem Try.ni161 : isNonIface Try.prog 161 = true := by kernel_rfl
@[simp] theorem Try.eq161 (x0 y0 : Int) : binE Try.prog .eql 161 (.agg [.v (.int .i64 x0)]) (.agg [.v (.int .i64 y0)]) = some (.v (.bool ((x0 == y0) && true))) := by kernel_rfl
@[simp] theorem Try.nq161 (x0 y0 : Int) : binE Try.prog .neq 161 (.agg [.v (.int .i64 x0)]) (.agg [.v (.int .i64 y0)]) = some (.v (.bool (!((x0 == y0) && true)))) := by kernel_rfl
@[simp] theorem Try.fl161_0 : fldOf Try.prog 161 0 = some (0, 1, false) := by kernel_rfl
@[simp] theorem Try.bl161 : bldOf Try.prog 161 = some ([.int .i64 0], [(0, 1)]) := by kernel_rfl
@[simp] theorem Try.sz164 : szOf Try.prog 164 = some 1 := by kernel_rfl
@[simp] theorem Try.ag164 : aggOf Try.prog 164 = some false := by kernel_rfl
@[simp] theorem Try.ze164 : zeroOf Try.prog 164 = some (.map none) := by kernel_rfl
@[simp] theorem Try.ud164 : undB Try.prog 164 = true := by kernel_rfl
@[simp] theorem Try.ni164 : isNonIface Try.prog 164 = true := by kernel_rfl
@[simp] theorem Try.lk164 : lkOf Try.prog 164 = 3 := by kernel_rfl
@[simp] theorem Try.mp164 : mapOf Try.prog 164 = some (.int .i64, .nilFunc) := by kernel_rfl
@[simp] theorem Try.sz166 : szOf Try.prog 166 = some 1 := by kernel_rfl
@[simp] theorem Try.ag166 : aggOf Try.prog 166 = some false := by kernel_rfl
@[simp] theorem Try.ze166 : zeroOf Try.prog 166 = some (.nilFunc) := by kernel_rfl
@[simp] theorem Try.ud166 : undB Try.prog 166 = true := by kernel_rfl
@[simp] theorem Try.ni166 : isNonIface Try.prog 166 = true := by kernel_rfl
@[simp] theorem Try.sz167 : szOf Try.prog 167 = some 1 := by kernel_rfl
@[simp] theorem Try.ag167 : aggOf Try.prog 167 = some false := by kernel_rfl
@[simp] theorem Try.ze167 : zeroOf Try.prog 167 = some (.pointer none) := by kernel_rfl
@[simp] theorem Try.ud167 : undB Try.prog 167 = true := by kernel_rfl
@[simp] theorem Try.ni167 : isNonIface Try.prog 167 = true := by kernel_rfl
@[simp] theorem Try.sz168 : szOf Try.prog 168 = some 1 := by kernel_rfl
@[simp] theorem Try.ag168 : aggOf Try.prog 168 = some true := by kernel_rfl
@[simp] theorem Try.ze168 : zeroOf Try.prog 168 = some (.agg #[.int .i64 0]) := by kernel_rfl
@[simp] theorem Try.ud168 : undB Try.prog 168 = true := by kernel_rfl
@[simp] theorem Try.ni168 : isNonIface Try.prog 168 = true := by kernel_rfl
@[simp] theorem Try.eq168 (x0 y0 : Int) : binE Try.prog .eql 168 (.agg [.v (.int .i64 x0)]) (.agg [.v (.int .i64 y0)]) = some (.v (.bool ((x0 == y0) && true))) := by kernel_rfl
@[simp] theorem Try.nq168 (x0 y0 : Int) : binE Try.prog .neq 168 (.agg [.v (.int .i64 x0)]) (.agg [.v (.int .i64 y0)]) = some (.v (.bool (!((x0 == y0) && true)))) := by kernel_rfl
@[simp] theorem Try.fl168_0 : fldOf Try.prog 168 0 = some (0, 1, false) := by kernel_rfl
@[simp] theorem Try.bl168 : bldOf Try.prog 168 = some ([.int .i64 0], [(0, 1)]) := by kernel_rfl
@[simp] theorem Try.sz169 : szOf Try.prog 169 = some 1 := by kernel_rfl
@[simp] theorem Try.ag169 : aggOf Try.prog 169 = some true := by kernel_rfl
@[simp] theorem Try.ze169 : zeroOf Try.prog 169 = some (.agg #[.int .i64 0]) := by kernel_rfl
@[simp] theorem Try.ud169 : undB Try.prog 169 = true := by kernel_rfl
@[simp] theorem Try.ni169 : isNonIface Try.prog 169 = true := by kernel_rfl
@[simp] theorem Try.eq169 (x0 y0 : Int) : binE Try.prog .eql 169 (.agg [.v (.int .i64 x0)]) (.agg [.v (.int .i64 y0)]) = some (.v (.bool ((x0 == y0) && true))) := by kernel_rfl
@[simp] theorem Try.nq169 (x0 y0 : Int) : binE Try.prog .neq 169 (.agg [.v (.int .i64 x0)]) (.agg [.v (.int .i64 y0)]) = some (.v (.bool (!((x0 == y0) && true)))) := by kernel_rfl
@[simp] theorem Try.fl169_0 : fldOf Try.prog 169 0 = some (0, 1, false) := by kernel_rfl
@[simp] theorem Try.bl169 : bldOf Try.prog 169 = some ([.int .i64 0], [(0, 1)]) := by kernel_rfl
@[simp] theorem Try.sz172 : szOf Try.prog 172 = some 1 := by kernel_rfl
@[simp] theorem Try.ag172 : aggOf Try.prog 172 = some false := by kernel_rfl
@[simp] theorem Try.ze172 : zeroOf Try.prog 172 = some (.slice none 0 0) := by kernel_rfl
@[simp] theorem Try.ud172 : undB Try.prog 172 = true := by kernel_rfl
@[simp] theorem Try.ni172 : isNonIface Try.prog 172 = true := by kernel_rfl
@[simp] theorem Try.el172 : elOf Try.prog 172 = some 5 := by kernel_rfl
@[simp] theorem Try.lk172 : lkOf Try.prog 172 = 1 := by kernel_rfl
@[simp] theorem Try.ix172 (H : List Blk) (x i : AV) (k : AV → Prop) (w : Wit k) : idxAddrV Try.prog H 172 x i k w = bindOW (szOf Try.prog 5) (fun sz => bindOW (intA i) (fun n => idxVW H sz x n k (wit _)) (wit _)) (wit _) := idxAddrV_sl Try.el172 H x i k w
@[simp] theorem Try.ko172 : kOf Try.prog 172 = none := by kernel_rfl
@[simp] theorem Try.by172_9 : byB Try.prog 9 172 = true := by kernel_rfl
@[simp] theorem Try.by172_10 : byB Try.prog 10 172 = true := by kernel_rfl
@[simp] theorem Try.by172_11 : byB Try.prog 11 172 = true := by kernel_rfl
@[simp] theorem Try.sl172 : slbOf Try.prog 172 = some (5, 1, [.int .u8 0], 1) := by kernel_rfl
@[simp] theorem Try.sz173 : szOf Try.prog 173 = some 1 := by kernel_rfl
@[simp] theorem Try.ag173 : aggOf Try.prog 173 = some false := by kernel_rfl
@[simp] theorem Try.ze173 : zeroOf Try.prog 173 = some (.nilFunc) := by kernel_rfl
@[simp] theorem Try.ud173 : undB Try.prog 173 = true := by kernel_rfl
@[simp] theorem Try.ni173 : isNonIface Try.prog 173 = true := by kernel_rfl
@[simp] theorem Try.sz174 : szOf Try.prog 174 = some 1 := by kernel_rfl
@[simp] theorem Try.ag174 : aggOf Try.prog 174 = some false := by kernel_rfl
@[simp] theorem Try.ze174 : zeroOf Try.prog 174 = some (.slice none 0 0) := by kernel_rfl
@[simp] theorem Try.ud174 : undB Try.prog 174 = true := by kernel_rfl
@[simp] theorem Try.ni174 : isNonIface Try.prog 174 = true := by kernel_rfl
@[simp] theorem Try.el174 : elOf Try.prog 174 = some 34 := by kernel_rfl
@[simp] theorem Try.lk174 : lkOf Try.prog 174 = 1 := by kernel_rfl
@[simp] theorem Try.ix174 (H : List Blk) (x i : AV) (k : AV → Prop) (w : Wit k) : idxAddrV Try.prog H 174 x i k w = bindOW (szOf Try.prog 34) (fun sz => bindOW (intA i) (fun n => idxVW H sz x n k (wit _)) (wit _)) (wit _) := idxAddrV_sl Try.el174 H x i k w
@[simp] theorem Try.sl174 : slbOf Try.prog 174 = some (34, 1, [.int .i64 0], 8) := by kernel_rfl
@[simp] theorem Try.sz176 : szOf Try.prog 176 = some 1 := by kernel_rfl
@[simp] theorem Try.ag176 : aggOf Try.prog 176 = some false := by kernel_rfl
@[simp] theorem Try.ze176 : zeroOf Try.prog 176 = some (.nilFunc) := by kernel_rfl
@[simp] theorem Try.ud176 : undB Try.prog 176 = true := by kernel_rfl
@[simp] theorem Try.ni176 : isNonIface Try.prog 176 = true := by kernel_rfl
@[simp] theorem Try.sz183 : szOf Try.prog 183 = some 1 := by kernel_rfl
@[simp] theorem Try.ag183 : aggOf Try.prog 183 = some false := by kernel_rfl
@[simp] theorem Try.ze183 : zeroOf Try.prog 183 = some (.nilFunc) := by kernel_rfl
@[simp] theorem Try.ud183 : undB Try.prog 183 = true := by kernel_rfl
@[simp] theorem Try.ni183 : isNonIface Try.prog 183 = true := by kernel_rfl
@[simp] theorem Try.ok2 : okFn Try.prog 2 = true := by kernel_rfl
@[simp] theorem Try.ok3 : okFn Try.prog 3 = true := by kernel_rfl
@[simp] theorem Try.ok4 : okFn Try.prog 4 = true := by kernel_rfl
@[simp] theorem Try.ok5 : okFn Try.prog 5 = true := by kernel_rfl
@[simp] theorem Try.ok6 : okFn Try.prog 6 = true := by kernel_rfl
@[simp] theorem Try.ok7 : okFn Try.prog 7 = true := by kernel_rfl
@[simp] theorem Try.ok8 : okFn Try.prog 8 = true := by kernel_rfl
@[simp] theorem Try.ok9 : okFn Try.prog 9 = true := by kernel_rfl
@[simp] theorem Try.ok10 : okFn Try.prog 10 = true := by kernel_rfl
@[simp] theorem Try.ok11 : okFn Try.prog 11 = true := by kernel_rfl
@[simp] theorem Try.ok12 : okFn Try.prog 12 = true := by kernel_rfl
@[simp] theorem Try.ok13 : okFn Try.prog 13 = true := by kernel_rfl
@[simp] theorem Try.ok14 : okFn Try.prog 14 = true := by kernel_rfl
@[simp] theorem Try.ok15 : okFn Try.prog 15 = true := by kernel_rfl
@[simp] theorem Try.ok16 : okFn Try.prog 16 = true := by kernel_rfl
@[simp] theorem Try.ok17 : okFn Try.prog 17 = true := by kernel_rfl
@[simp] theorem Try.ok18 : okFn Try.prog 18 = true := by kernel_rfl
@[simp] theorem Try.ok19 : okFn Try.prog 19 = true := by kernel_rfl
@[simp] theorem Try.ok20 : okFn Try.prog 20 = true := by kernel_rfl
@[simp] theorem Try.ok21 : okFn Try.prog 21 = true := by kernel_rfl
@[simp] theorem Try.ok22 : okFn Try.prog 22 = true := by kernel_rfl
@[simp] theorem Try.ok23 : okFn Try.prog 23 = true := by kernel_rfl
@[simp] theorem Try.ok24 : okFn Try.prog 24 = true := by kernel_rfl
@[simp] theorem Try.ok25 : okFn Try.prog 25 = true := by kernel_rfl
@[simp] theorem Try.ok26 : okFn Try.prog 26 = true := by kernel_rfl
@[simp] theorem Try.ok27 : okFn Try.prog 27 = true := by kernel_rfl
@[simp] theorem Try.ok28 : okFn Try.prog 28 = true := by kernel_rfl
@[simp] theorem Try.ok29 : okFn Try.prog 29 = true := by kernel_rfl
@[simp] theorem Try.ok30 : okFn Try.prog 30 = true := by kernel_rfl
@[simp] theorem Try.ok31 : okFn Try.prog 31 = true := by kernel_rfl
@[simp] theorem Try.ok32 : okFn Try.prog 32 = true := by kernel_rfl
@[simp] theorem Try.ok33 : okFn Try.prog 33 = true := by kernel_rfl
@[simp] theorem Try.ok34 : okFn Try.prog 34 = true := by kernel_rfl
@[simp] theorem Try.ok35 : okFn Try.prog 35 = true := by kernel_rfl
@[simp] theorem Try.ok36 : okFn Try.prog 36 = true := by kernel_rfl
@[simp] theorem Try.ok37 : okFn Try.prog 37 = true := by kernel_rfl
@[simp] theorem Try.ok38 : okFn Try.prog 38 = true := by kernel_rfl
@[simp] theorem Try.ok39 : okFn Try.prog 39 = true := by kernel_rfl
@[simp] theorem Try.ok40 : okFn Try.prog 40 = true := by kernel_rfl
@[simp] theorem Try.ok41 : okFn Try.prog 41 = true := by kernel_rfl
@[simp] theorem Try.ok42 : okFn Try.prog 42 = true := by kernel_rfl
@[simp] theorem Try.ok43 : okFn Try.prog 43 = true := by kernel_rfl
@[simp] theorem Try.ok44 : okFn Try.prog 44 = true := by kernel_rfl
@[simp] theorem Try.ok45 : okFn Try.prog 45 = true := by kernel_rfl
@[simp] theorem Try.ok46 : okFn Try.prog 46 = true := by kernel_rfl
@[simp] theorem Try.ok47 : okFn Try.prog 47 = true := by kernel_rfl
@[simp] theorem Try.ok48 : okFn Try.prog 48 = true := by kernel_rfl
@[simp] theorem Try.ok49 : okFn Try.prog 49 = true := by kernel_rfl
@[simp] theorem Try.ok50 : okFn Try.prog 50 = true := by kernel_rfl
@[simp] theorem Try.ok51 : okFn Try.prog 51 = true := by kernel_rfl
@[simp] theorem Try.ok52 : okFn Try.prog 52 = true := by kernel_rfl
@[simp] theorem Try.ok53 : okFn Try.prog 53 = true := by kernel_rfl
@[simp] theorem Try.ok54 : okFn Try.prog 54 = true := by kernel_rfl
@[simp] theorem Try.ok55 : okFn Try.prog 55 = true := by kernel_rfl
@[simp] theorem Try.ok56 : okFn Try.prog 56 = true := by kernel_rfl
@[simp] theorem Try.ok57 : okFn Try.prog 57 = true := by kernel_rfl
@[simp] theorem Try.ok58 : okFn Try.prog 58 = true := by kernel_rfl
@[simp] theorem Try.ok59 : okFn Try.prog 59 = true := by kernel_rfl
@[simp] theorem Try.ok60 : okFn Try.prog 60 = true := by kernel_rfl
@[simp] theorem Try.ok61 : okFn Try.prog 61 = true := by kernel_rfl
@[simp] theorem Try.ok62 : okFn Try.prog 62 = true := by kernel_rfl
@[simp] theorem Try.ok63 : okFn Try.prog 63 = true := by kernel_rfl
@[simp] theorem Try.ok64 : okFn Try.prog 64 = true := by kernel_rfl
@[simp] theorem Try.ok65 : okFn Try.prog 65 = true := by kernel_rfl
@[simp] theorem Try.ok66 : okFn Try.prog 66 = true := by kernel_rfl
@[simp] theorem Try.ok67 : okFn Try.prog 67 = true := by kernel_rfl
@[simp] theorem Try.ok68 : okFn Try.prog 68 = true := by kernel_rfl
@[simp] theorem Try.ok69 : okFn Try.prog 69 = true := by kernel_rfl
@[simp] theorem Try.ok70 : okFn Try.prog 70 = true := by kernel_rfl
@[simp] theorem Try.ok71 : okFn Try.prog 71 = true := by kernel_rfl
@[simp] theorem Try.ok72 : okFn Try.prog 72 = true := by kernel_rfl
@[simp] theorem Try.ok73 : okFn Try.prog 73 = true := by kernel_rfl
@[simp] theorem Try.ok74 : okFn Try.prog 74 = true := by kernel_rfl
@[simp] theorem Try.ok75 : okFn Try.prog 75 = true := by kernel_rfl
@[simp] theorem Try.ok76 : okFn Try.prog 76 = true := by kernel_rfl
@[simp] theorem Try.ok77 : okFn Try.prog 77 = true := by kernel_rfl
@[simp] theorem Try.ok78 : okFn Try.prog 78 = true := by kernel_rfl
@[simp] theorem Try.ok79 : okFn Try.prog 79 = true := by kernel_rfl
@[simp] theorem Try.ok80 : okFn Try.prog 80 = true := by kernel_rfl
@[simp] theorem Try.ok81 : okFn Try.prog 81 = true := by kernel_rfl
@[simp] theorem Try.ok82 : okFn Try.prog 82 = true := by kernel_rfl
@[simp] theorem Try.ok83 : okFn Try.prog 83 = true := by kernel_rfl
@[simp] theorem Try.ok84 : okFn Try.prog 84 = true := by kernel_rfl
@[simp] theorem Try.ok85 : okFn Try.prog 85 = true := by kernel_rfl
@[simp] theorem Try.ok86 : okFn Try.prog 86 = true := by kernel_rfl
@[simp] theorem Try.ok87 : okFn Try.prog 87 = true := by kernel_rfl
@[simp] theorem Try.ok88 : okFn Try.prog 88 = true := by kernel_rfl
@[simp] theorem Try.ok89 : okFn Try.prog 89 = true := by kernel_rfl
@[simp] theorem Try.ok90 : okFn Try.prog 90 = true := by kernel_rfl
@[simp] theorem Try.ok91 : okFn Try.prog 91 = true := by kernel_rfl
@[simp] theorem Try.ok92 : okFn Try.prog 92 = true := by kernel_rfl
@[simp] theorem Try.ok93 : okFn Try.prog 93 = true := by kernel_rfl
@[simp] theorem Try.ok94 : okFn Try.prog 94 = true := by kernel_rfl
@[simp] theorem Try.ok95 : okFn Try.prog 95 = true := by kernel_rfl
@[simp] theorem Try.ok96 : okFn Try.prog 96 = true := by kernel_rfl
@[simp] theorem Try.ok97 : okFn Try.prog 97 = true := by kernel_rfl
@[simp] theorem Try.ok98 : okFn Try.prog 98 = true := by kernel_rfl
@[simp] theorem Try.ok99 : okFn Try.prog 99 = true := by kernel_rfl
@[simp] theorem Try.ok100 : okFn Try.prog 100 = true := by kernel_rfl
@[simp] theorem Try.ok101 : okFn Try.prog 101 = true := by kernel_rfl
@[simp] theorem Try.ok102 : okFn Try.prog 102 = true := by kernel_rfl
@[simp] theorem Try.ok103 : okFn Try.prog 103 = true := by kernel_rfl
@[simp] theorem Try.ok104 : okFn Try.prog 104 = true := by kernel_rfl
@[simp] theorem Try.ok105 : okFn Try.prog 105 = true := by kernel_rfl
@[simp] theorem Try.ok106 : okFn Try.prog 106 = true := by kernel_rfl
@[simp] theorem Try.ok107 : okFn Try.prog 107 = true := by kernel_rfl
@[simp] theorem Try.ok108 : okFn Try.prog 108 = true := by kernel_rfl
@[simp] theorem Try.ok109 : okFn Try.prog 109 = true := by kernel_rfl
@[simp] theorem Try.ok110 : okFn Try.prog 110 = true := by kernel_rfl
@[simp] theorem Try.ok111 : okFn Try.prog 111 = true := by kernel_rfl
@[simp] theorem Try.ok112 : okFn Try.prog 112 = true := by kernel_rfl
@[simp] theorem Try.ok113 : okFn Try.prog 113 = true := by kernel_rfl
@[simp] theorem Try.ok114 : okFn Try.prog 114 = true := by kernel_rfl
@[simp] theorem Try.ok115 : okFn Try.prog 115 = true := by kernel_rfl
@[simp] theorem Try.ok116 : okFn Try.prog 116 = true := by kernel_rfl
@[simp] theorem Try.ok117 : okFn Try.prog 117 = true := by kernel_rfl
@[simp] theorem Try.ok118 : okFn Try.prog 118 = true := by kernel_rfl
@[simp] theorem Try.ok119 : okFn Try.prog 119 = true := by kernel_rfl
@[simp] theorem Try.ok120 : okFn Try.prog 120 = true := by kernel_rfl
@[simp] theorem Try.ok121 : okFn Try.prog 121 = true := by kernel_rfl
@[simp] theorem Try.ok122 : okFn Try.prog 122 = true := by kernel_rfl
@[simp] theorem Try.ok123 : okFn Try.prog 123 = true := by kernel_rfl
@[simp] theorem Try.ok124 : okFn Try.prog 124 = true := by kernel_rfl
@[simp] theorem Try.ok125 : okFn Try.prog 125 = true := by kernel_rfl
@[simp] theorem Try.ok126 : okFn Try.prog 126 = true := by kernel_rfl
@[simp] theorem Try.ok127 : okFn Try.prog 127 = true := by kernel_rfl
@[simp] theorem Try.ok128 : okFn Try.prog 128 = true := by kernel_rfl
@[simp] theorem Try.ok129 : okFn Try.prog 129 = true := by kernel_rfl
@[simp] theorem Try.ok130 : okFn Try.prog 130 = true := by kernel_rfl
@[simp] theorem Try.ok131 : okFn Try.prog 131 = true := by kernel_rfl
@[simp] theorem Try.ok132 : okFn Try.prog 132 = true := by kernel_rfl
@[simp] theorem Try.ok133 : okFn Try.prog 133 = true := by kernel_rfl
@[simp] theorem Try.ok134 : okFn Try.prog 134 = true := by kernel_rfl
@[simp] theorem Try.ok135 : okFn Try.prog 135 = true := by kernel_rfl
@[simp] theorem Try.ok136 : okFn Try.prog 136 = true := by kernel_rfl
@[simp] theorem Try.ok137 : okFn Try.prog 137 = true := by kernel_rfl
@[simp] theorem Try.ok138 : okFn Try.prog 138 = true := by kernel_rfl
@[simp] theorem Try.ok139 : okFn Try.prog 139 = true := by kernel_rfl
@[simp] theorem Try.ok140 : okFn Try.prog 140 = true := by kernel_rfl
@[simp] theorem Try.ok141 : okFn Try.prog 141 = true := by kernel_rfl
@[simp] theorem Try.ok142 : okFn Try.prog 142 = true := by kernel_rfl
@[simp] theorem Try.ok143 : okFn Try.prog 143 = true := by kernel_rfl
@[simp] theorem Try.ok144 : okFn Try.prog 144 = true := by kernel_rfl
@[simp] theorem Try.ok145 : okFn Try.prog 145 = true := by kernel_rfl
@[simp] theorem Try.ok146 : okFn Try.prog 146 = true := by kernel_rfl
@[simp] theorem Try.ok147 : okFn Try.prog 147 = true := by kernel_rfl
@[simp] theorem Try.ok148 : okFn Try.prog 148 = true := by kernel_rfl
@[simp] theorem Try.ok149 : okFn Try.prog 149 = true := by kernel_rfl
@[simp] theorem Try.ok150 : okFn Try.prog 150 = true := by kernel_rfl
@[simp] theorem Try.ok151 : okFn Try.prog 151 = true := by kernel_rfl
@[simp] theorem Try.ok152 : okFn Try.prog 152 = true := by kernel_rfl
@[simp] theorem Try.ok153 : okFn Try.prog 153 = true := by kernel_rfl
@[simp] theorem Try.ok154 : okFn Try.prog 154 = true := by kernel_rfl
@[simp] theorem Try.ok155 : okFn Try.prog 155 = true := by kernel_rfl
@[simp] theorem Try.ok156 : okFn Try.prog 156 = true := by kernel_rfl
@[simp] theorem Try.ok157 : okFn Try.prog 157 = true := by kernel_rfl
@[simp] theorem Try.ok158 : okFn Try.prog 158 = true := by kernel_rfl
@[simp] theorem Try.ok159 : okFn Try.prog 159 = true := by kernel_rfl
@[simp] theorem Try.ok160 : okFn Try.prog 160 = true := by kernel_rfl
@[simp] theorem Try.ok161 : okFn Try.prog 161 = true := by kernel_rfl
@[simp] theorem Try.ok162 : okFn Try.prog 162 = true := by kernel_rfl
@[simp] theorem Try.ok163 : okFn Try.prog 163 = true := by kernel_rfl
@[simp] theorem Try.ok164 : okFn Try.prog 164 = true := by kernel_rfl
@[simp] theorem Try.ok165 : okFn Try.prog 165 = true := by kernel_rfl
end Go.Proofs
