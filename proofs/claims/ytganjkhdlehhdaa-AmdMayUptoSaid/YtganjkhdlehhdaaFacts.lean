/- The program's types and functions, as the rules want them (written by a program of our own). -/
import Derived.Test.YtganjkhdlehhdaaFwCptoFwN
import Derived.Test.YtganjkhdlehhdaaProg
import Derived.KernelRfl
set_option linter.unusedVariables false
set_option linter.unusedSimpArgs false
namespace Go.Proofs
open Go.Mu
@[simp] theorem Try.sz2 : szOf Try.prog 2 = some 1 := by kernel_rfl
@[simp] theorem Try.ag2 : aggOf Try.prog 2 = some false := by kernel_rfl
@[simp] theorem Try.ud2 : undB Try.prog 2 = true := by kernel_rfl
@[simp] theorem Try.ko2 : kOf Try.prog 2 = some .i64 := by kernel_rfl
@[simp] theorem Try.sz3 : szOf Try.prog 3 = some 1 := by kernel_rfl
@[simp] theorem Try.ag3 : aggOf Try.prog 3 = some false := by kernel_rfl
@[simp] theorem Try.ze3 : zeroOf Try.prog 3 = some (.int .i64 0) := by kernel_rfl
@[simp] theorem Try.ko3 : kOf Try.prog 3 = some .i64 := by kernel_rfl
@[simp] theorem Try.sz4 : szOf Try.prog 4 = some 1 := by kernel_rfl
@[simp] theorem Try.ag4 : aggOf Try.prog 4 = some false := by kernel_rfl
@[simp] theorem Try.ze4 : zeroOf Try.prog 4 = some (.bool false) := by kernel_rfl
@[simp] theorem Try.sz5 : szOf Try.prog 5 = some 1 := by kernel_rfl
@[simp] theorem Try.ag5 : aggOf Try.prog 5 = some false := by kernel_rfl
@[simp] theorem Try.ud5 : undB Try.prog 5 = true := by kernel_rfl
@[simp] theorem Try.ko5 : kOf Try.prog 5 = some .u8 := by kernel_rfl
@[simp] theorem Try.sz9 : szOf Try.prog 9 = some 1 := by kernel_rfl
@[simp] theorem Try.ag9 : aggOf Try.prog 9 = some false := by kernel_rfl
@[simp] theorem Try.lk9 : lkOf Try.prog 9 = 2 := by kernel_rfl
@[simp] theorem Try.iv9 (x i : AV) (k : AV → Prop) (w : Wit k) : idxValV Try.prog 9 x i k w = bindOW (strA x) (fun s => bindOW (intA i) (fun n => andVW (0 ≤ n) (bindOW (s.data.toList[n.toNat]?) (fun b => k (.v (.int .u8 b.toNat))) (wit _)) (wit _)) (wit _)) (wit _) := idxValV_str Try.lk9 x i k w
@[simp] theorem Try.ud21 : undB Try.prog 21 = true := by kernel_rfl
@[simp] theorem Try.ko21 : kOf Try.prog 21 = some .i32 := by kernel_rfl
@[simp] theorem Try.sz22 : szOf Try.prog 22 = some 1 := by kernel_rfl
@[simp] theorem Try.ag22 : aggOf Try.prog 22 = some false := by kernel_rfl
@[simp] theorem Try.el22 : elOf Try.prog 22 = some 53 := by kernel_rfl
@[simp] theorem Try.lk22 : lkOf Try.prog 22 = 1 := by kernel_rfl
@[simp] theorem Try.ix22 (H : List Blk) (x i : AV) (k : AV → Prop) (w : Wit k) : idxAddrV Try.prog H 22 x i k w = bindOW (szOf Try.prog 53) (fun sz => bindOW (intA i) (fun n => idxVW H sz x n k (wit _)) (wit _)) (wit _) := idxAddrV_sl Try.el22 H x i k w
@[simp] theorem Try.sl22 : slbOf Try.prog 22 = some (53, 13, [.int .i64 0, .int .i64 0, .int .i64 0, .int .i64 0, .int .i64 0, .int .i64 0, .int .u64 0, .int .i64 0, .int .i64 0, .bool false, .bool false, .int .i64 0, .int .i64 0], 96) := by kernel_rfl
@[simp] theorem Try.sz27 : szOf Try.prog 27 = some 1 := by kernel_rfl
@[simp] theorem Try.ag27 : aggOf Try.prog 27 = some false := by kernel_rfl
@[simp] theorem Try.ud27 : undB Try.prog 27 = true := by kernel_rfl
@[simp] theorem Try.ko27 : kOf Try.prog 27 = some .u64 := by kernel_rfl
@[simp] theorem Try.sz28 : szOf Try.prog 28 = some 16 := by kernel_rfl
@[simp] theorem Try.ag28 : aggOf Try.prog 28 = some true := by kernel_rfl
@[simp] theorem Try.ze28 : zeroOf Try.prog 28 = some (.agg #[.int .u64 0, .int .u64 0, .int .u64 0, .int .u64 0, .int .u64 0, .int .u64 0, .int .u64 0, .int .u64 0, .int .u64 0, .int .u64 0, .int .u64 0, .int .u64 0, .int .u64 0, .int .u64 0, .int .u64 0, .int .u64 0]) := by kernel_rfl
@[simp] theorem Try.ar28 : arOf Try.prog 28 = some (16, 27) := by kernel_rfl
@[simp] theorem Try.ix28 (H : List Blk) (x i : AV) (k : AV → Prop) (w : Wit k) : idxAddrV Try.prog H 28 x i k w = bindOW (szOf Try.prog 27) (fun sz => bindOW (intA i) (fun n => idxAW H 16 sz x n k (wit _)) (wit _)) (wit _) := idxAddrV_ar Try.ar28 H x i k w
@[simp] theorem Try.bl28 : bldOf Try.prog 28 = some ([.int .u64 0, .int .u64 0, .int .u64 0, .int .u64 0, .int .u64 0, .int .u64 0, .int .u64 0, .int .u64 0, .int .u64 0, .int .u64 0, .int .u64 0, .int .u64 0, .int .u64 0, .int .u64 0, .int .u64 0, .int .u64 0], [(0, 1), (1, 1), (2, 1), (3, 1), (4, 1), (5, 1), (6, 1), (7, 1), (8, 1), (9, 1), (10, 1), (11, 1), (12, 1), (13, 1), (14, 1), (15, 1)]) := by kernel_rfl
@[simp] theorem Try.sz30 : szOf Try.prog 30 = some 5 := by kernel_rfl
@[simp] theorem Try.ag30 : aggOf Try.prog 30 = some true := by kernel_rfl
@[simp] theorem Try.ze30 : zeroOf Try.prog 30 = some (.agg #[.bool false, .bool false, .bool false, .bool false, .bool false]) := by kernel_rfl
@[simp] theorem Try.fl30_0 : fldOf Try.prog 30 0 = some (0, 1, false) := by kernel_rfl
@[simp] theorem Try.fl30_1 : fldOf Try.prog 30 1 = some (1, 1, false) := by kernel_rfl
@[simp] theorem Try.fl30_2 : fldOf Try.prog 30 2 = some (2, 1, false) := by kernel_rfl
@[simp] theorem Try.fl30_3 : fldOf Try.prog 30 3 = some (3, 1, false) := by kernel_rfl
@[simp] theorem Try.fl30_4 : fldOf Try.prog 30 4 = some (4, 1, false) := by kernel_rfl
@[simp] theorem Try.bl30 : bldOf Try.prog 30 = some ([.bool false, .bool false, .bool false, .bool false, .bool false], [(0, 1), (1, 1), (2, 1), (3, 1), (4, 1)]) := by kernel_rfl
@[simp] theorem Try.sz32 : szOf Try.prog 32 = some 23 := by kernel_rfl
@[simp] theorem Try.ag32 : aggOf Try.prog 32 = some true := by kernel_rfl
@[simp] theorem Try.fl32_0 : fldOf Try.prog 32 0 = some (0, 16, true) := by kernel_rfl
@[simp] theorem Try.fl32_1 : fldOf Try.prog 32 1 = some (16, 5, true) := by kernel_rfl
@[simp] theorem Try.fl32_2 : fldOf Try.prog 32 2 = some (21, 1, false) := by kernel_rfl
@[simp] theorem Try.fl32_3 : fldOf Try.prog 32 3 = some (22, 1, false) := by kernel_rfl
@[simp] theorem Try.bl32 : bldOf Try.prog 32 = some ([.int .u64 0, .int .u64 0, .int .u64 0, .int .u64 0, .int .u64 0, .int .u64 0, .int .u64 0, .int .u64 0, .int .u64 0, .int .u64 0, .int .u64 0, .int .u64 0, .int .u64 0, .int .u64 0, .int .u64 0, .int .u64 0, .bool false, .bool false, .bool false, .bool false, .bool false, .int .i64 0, .int .i64 0], [(0, 16), (16, 5), (21, 1), (22, 1)]) := by kernel_rfl
@[simp] theorem Try.sz33 : szOf Try.prog 33 = some 1 := by kernel_rfl
@[simp] theorem Try.ag33 : aggOf Try.prog 33 = some false := by kernel_rfl
@[simp] theorem Try.el33 : elOf Try.prog 33 = some 59 := by kernel_rfl
@[simp] theorem Try.lk33 : lkOf Try.prog 33 = 1 := by kernel_rfl
@[simp] theorem Try.ix33 (H : List Blk) (x i : AV) (k : AV → Prop) (w : Wit k) : idxAddrV Try.prog H 33 x i k w = bindOW (szOf Try.prog 59) (fun sz => bindOW (intA i) (fun n => idxVW H sz x n k (wit _)) (wit _)) (wit _) := idxAddrV_sl Try.el33 H x i k w
@[simp] theorem Try.sl33 : slbOf Try.prog 33 = some (59, 3, [.bool false, .bool false, .int .u64 0], 16) := by kernel_rfl
@[simp] theorem Try.sz34 : szOf Try.prog 34 = some 1 := by kernel_rfl
@[simp] theorem Try.ag34 : aggOf Try.prog 34 = some false := by kernel_rfl
@[simp] theorem Try.sz36 : szOf Try.prog 36 = some 25 := by kernel_rfl
@[simp] theorem Try.ag36 : aggOf Try.prog 36 = some true := by kernel_rfl
@[simp] theorem Try.ze36 : zeroOf Try.prog 36 = some (.agg #[.int .u64 0, .int .u64 0, .int .u64 0, .int .u64 0, .int .u64 0, .int .u64 0, .int .u64 0, .int .u64 0, .int .u64 0, .int .u64 0, .int .u64 0, .int .u64 0, .int .u64 0, .int .u64 0, .int .u64 0, .int .u64 0, .bool false, .bool false, .bool false, .bool false, .bool false, .int .i64 0, .int .i64 0, .slice none 0 0, .int .i64 0]) := by kernel_rfl
@[simp] theorem Try.fl36_0 : fldOf Try.prog 36 0 = some (0, 23, true) := by kernel_rfl
@[simp] theorem Try.fl36_1 : fldOf Try.prog 36 1 = some (23, 1, false) := by kernel_rfl
@[simp] theorem Try.fl36_2 : fldOf Try.prog 36 2 = some (24, 1, false) := by kernel_rfl
@[simp] theorem Try.bl36 : bldOf Try.prog 36 = some ([.int .u64 0, .int .u64 0, .int .u64 0, .int .u64 0, .int .u64 0, .int .u64 0, .int .u64 0, .int .u64 0, .int .u64 0, .int .u64 0, .int .u64 0, .int .u64 0, .int .u64 0, .int .u64 0, .int .u64 0, .int .u64 0, .bool false, .bool false, .bool false, .bool false, .bool false, .int .i64 0, .int .i64 0, .slice none 0 0, .int .i64 0], [(0, 23), (23, 1), (24, 1)]) := by kernel_rfl
@[simp] theorem Try.sz37 : szOf Try.prog 37 = some 1 := by kernel_rfl
@[simp] theorem Try.ag37 : aggOf Try.prog 37 = some false := by kernel_rfl
@[simp] theorem Try.sz45 : szOf Try.prog 45 = some 1 := by kernel_rfl
@[simp] theorem Try.ag45 : aggOf Try.prog 45 = some false := by kernel_rfl
@[simp] theorem Try.sz46 : szOf Try.prog 46 = some 1 := by kernel_rfl
@[simp] theorem Try.ag46 : aggOf Try.prog 46 = some false := by kernel_rfl
@[simp] theorem Try.sz47 : szOf Try.prog 47 = some 1 := by kernel_rfl
@[simp] theorem Try.ag47 : aggOf Try.prog 47 = some false := by kernel_rfl
@[simp] theorem Try.sz48 : szOf Try.prog 48 = some 1 := by kernel_rfl
@[simp] theorem Try.ag48 : aggOf Try.prog 48 = some false := by kernel_rfl
@[simp] theorem Try.sz49 : szOf Try.prog 49 = some 1 := by kernel_rfl
@[simp] theorem Try.ag49 : aggOf Try.prog 49 = some false := by kernel_rfl
@[simp] theorem Try.sz51 : szOf Try.prog 51 = some 5 := by kernel_rfl
@[simp] theorem Try.ag51 : aggOf Try.prog 51 = some true := by kernel_rfl
@[simp] theorem Try.ze51 : zeroOf Try.prog 51 = some (.agg #[.int .i64 0, .int .i64 0, .bool false, .bool false, .int .i64 0]) := by kernel_rfl
@[simp] theorem Try.fl51_0 : fldOf Try.prog 51 0 = some (0, 1, false) := by kernel_rfl
@[simp] theorem Try.fl51_1 : fldOf Try.prog 51 1 = some (1, 1, false) := by kernel_rfl
@[simp] theorem Try.fl51_2 : fldOf Try.prog 51 2 = some (2, 1, false) := by kernel_rfl
@[simp] theorem Try.fl51_3 : fldOf Try.prog 51 3 = some (3, 1, false) := by kernel_rfl
@[simp] theorem Try.fl51_4 : fldOf Try.prog 51 4 = some (4, 1, false) := by kernel_rfl
@[simp] theorem Try.bl51 : bldOf Try.prog 51 = some ([.int .i64 0, .int .i64 0, .bool false, .bool false, .int .i64 0], [(0, 1), (1, 1), (2, 1), (3, 1), (4, 1)]) := by kernel_rfl
@[simp] theorem Try.sz53 : szOf Try.prog 53 = some 13 := by kernel_rfl
@[simp] theorem Try.ag53 : aggOf Try.prog 53 = some true := by kernel_rfl
@[simp] theorem Try.ze53 : zeroOf Try.prog 53 = some (.agg #[.int .i64 0, .int .i64 0, .int .i64 0, .int .i64 0, .int .i64 0, .int .i64 0, .int .u64 0, .int .i64 0, .int .i64 0, .bool false, .bool false, .int .i64 0, .int .i64 0]) := by kernel_rfl
@[simp] theorem Try.nq53 (x0 y0 : Int) (x1 y1 : Int) (x2 y2 : Int) (x3 y3 : Int) (x4 y4 : Int) (x5 y5 : Int) (x6 y6 : Int) (x7 y7 : Int) (x8 y8 : Int) (x9 y9 : Bool) (x10 y10 : Bool) (x11 y11 : Int) (x12 y12 : Int) : binE Try.prog .neq 53 (.agg [.v (.int .i64 x0), .v (.int .i64 x1), .v (.int .i64 x2), .v (.int .i64 x3), .v (.int .i64 x4), .v (.int .i64 x5), .v (.int .u64 x6), .v (.int .i64 x7), .v (.int .i64 x8), .v (.bool x9), .v (.bool x10), .v (.int .i64 x11), .v (.int .i64 x12)]) (.agg [.v (.int .i64 y0), .v (.int .i64 y1), .v (.int .i64 y2), .v (.int .i64 y3), .v (.int .i64 y4), .v (.int .i64 y5), .v (.int .u64 y6), .v (.int .i64 y7), .v (.int .i64 y8), .v (.bool y9), .v (.bool y10), .v (.int .i64 y11), .v (.int .i64 y12)]) = some (.v (.bool (!((x0 == y0) && ((x1 == y1) && ((x2 == y2) && ((x3 == y3) && ((x4 == y4) && ((x5 == y5) && ((x6 == y6) && (((x7 == y7) && ((x8 == y8) && ((x9 == y9) && ((x10 == y10) && ((x11 == y11) && true))))) && ((x12 == y12) && true)))))))))))) := by kernel_rfl
@[simp] theorem Try.fl53_0 : fldOf Try.prog 53 0 = some (0, 1, false) := by kernel_rfl
@[simp] theorem Try.fl53_1 : fldOf Try.prog 53 1 = some (1, 1, false) := by kernel_rfl
@[simp] theorem Try.fl53_2 : fldOf Try.prog 53 2 = some (2, 1, false) := by kernel_rfl
@[simp] theorem Try.fl53_3 : fldOf Try.prog 53 3 = some (3, 1, false) := by kernel_rfl
@[simp] theorem Try.fl53_4 : fldOf Try.prog 53 4 = some (4, 1, false) := by kernel_rfl
@[simp] theorem Try.fl53_5 : fldOf Try.prog 53 5 = some (5, 1, false) := by kernel_rfl
@[simp] theorem Try.fl53_6 : fldOf Try.prog 53 6 = some (6, 1, false) := by kernel_rfl
@[simp] theorem Try.fl53_7 : fldOf Try.prog 53 7 = some (7, 5, true) := by kernel_rfl
@[simp] theorem Try.fl53_8 : fldOf Try.prog 53 8 = some (12, 1, false) := by kernel_rfl
@[simp] theorem Try.bl53 : bldOf Try.prog 53 = some ([.int .i64 0, .int .i64 0, .int .i64 0, .int .i64 0, .int .i64 0, .int .i64 0, .int .u64 0, .int .i64 0, .int .i64 0, .bool false, .bool false, .int .i64 0, .int .i64 0], [(0, 1), (1, 1), (2, 1), (3, 1), (4, 1), (5, 1), (6, 1), (7, 5), (12, 1)]) := by kernel_rfl
@[simp] theorem Try.sz59 : szOf Try.prog 59 = some 3 := by kernel_rfl
@[simp] theorem Try.ag59 : aggOf Try.prog 59 = some true := by kernel_rfl
@[simp] theorem Try.fl59_2 : fldOf Try.prog 59 2 = some (2, 1, false) := by kernel_rfl
@[simp] theorem Try.bl59 : bldOf Try.prog 59 = some ([.bool false, .bool false, .int .u64 0], [(0, 1), (1, 1), (2, 1)]) := by kernel_rfl
@[simp] theorem Try.sz60 : szOf Try.prog 60 = some 1 := by kernel_rfl
@[simp] theorem Try.ag60 : aggOf Try.prog 60 = some false := by kernel_rfl
@[simp] theorem Try.ze60 : zeroOf Try.prog 60 = some (.pointer none) := by kernel_rfl
@[simp] theorem Try.fl70_0 : fldOf Try.prog 70 0 = some (0, 23, true) := by kernel_rfl
@[simp] theorem Try.fl70_1 : fldOf Try.prog 70 1 = some (23, 1, false) := by kernel_rfl
@[simp] theorem Try.fl70_2 : fldOf Try.prog 70 2 = some (24, 1, false) := by kernel_rfl
@[simp] theorem Try.fl70_3 : fldOf Try.prog 70 3 = some (25, 1, false) := by kernel_rfl
@[simp] theorem Try.bl70 : bldOf Try.prog 70 = some ([.int .u64 0, .int .u64 0, .int .u64 0, .int .u64 0, .int .u64 0, .int .u64 0, .int .u64 0, .int .u64 0, .int .u64 0, .int .u64 0, .int .u64 0, .int .u64 0, .int .u64 0, .int .u64 0, .int .u64 0, .int .u64 0, .bool false, .bool false, .bool false, .bool false, .bool false, .int .i64 0, .int .i64 0, .pointer none, .pointer none, .slice none 0 0], [(0, 23), (23, 1), (24, 1), (25, 1)]) := by kernel_rfl
@[simp] theorem Try.mp71 : mapOf Try.prog 71 = some (.int .i64, .nilFunc) := by kernel_rfl
@[simp] theorem Try.sz74 : szOf Try.prog 74 = some 1 := by kernel_rfl
@[simp] theorem Try.ag74 : aggOf Try.prog 74 = some false := by kernel_rfl
@[simp] theorem Try.el74 : elOf Try.prog 74 = some 78 := by kernel_rfl
@[simp] theorem Try.so74 (H : List Blk) (x : AV) (lo hi : Option AV) (k : AV → Prop) (w : Wit k) : sliV Try.prog H 74 x lo hi k w = bindOW (szOf Try.prog 78) (fun sz => bindOW (optI lo) (fun l => bindOW (optI hi) (fun hh => sliceVW H sz x l hh k (wit _)) (wit _)) (wit _)) (wit _) := sliV_sl Try.el74 H x lo hi k w
@[simp] theorem Try.lk74 : lkOf Try.prog 74 = 1 := by kernel_rfl
@[simp] theorem Try.ix74 (H : List Blk) (x i : AV) (k : AV → Prop) (w : Wit k) : idxAddrV Try.prog H 74 x i k w = bindOW (szOf Try.prog 78) (fun sz => bindOW (intA i) (fun n => idxVW H sz x n k (wit _)) (wit _)) (wit _) := idxAddrV_sl Try.el74 H x i k w
@[simp] theorem Try.sl74 : slbOf Try.prog 74 = some (78, 4, [.string ByteArray.empty, .int .i64 0, .int .i64 0, .bool false], 40) := by kernel_rfl
@[simp] theorem Try.sz78 : szOf Try.prog 78 = some 4 := by kernel_rfl
@[simp] theorem Try.ag78 : aggOf Try.prog 78 = some true := by kernel_rfl
@[simp] theorem Try.ze78 : zeroOf Try.prog 78 = some (.agg #[.string ByteArray.empty, .int .i64 0, .int .i64 0, .bool false]) := by kernel_rfl
@[simp] theorem Try.fl78_0 : fldOf Try.prog 78 0 = some (0, 1, false) := by kernel_rfl
@[simp] theorem Try.fl78_1 : fldOf Try.prog 78 1 = some (1, 1, false) := by kernel_rfl
@[simp] theorem Try.fl78_2 : fldOf Try.prog 78 2 = some (2, 1, false) := by kernel_rfl
@[simp] theorem Try.sz79 : szOf Try.prog 79 = some 1 := by kernel_rfl
@[simp] theorem Try.ag79 : aggOf Try.prog 79 = some false := by kernel_rfl
@[simp] theorem Try.sz80 : szOf Try.prog 80 = some 65536 := by kernel_rfl
@[simp] theorem Try.ag80 : aggOf Try.prog 80 = some true := by kernel_rfl
@[simp] theorem Try.ar80 : arOf Try.prog 80 = some (65536, 5) := by kernel_rfl
@[simp] theorem Try.ix80 (H : List Blk) (x i : AV) (k : AV → Prop) (w : Wit k) : idxAddrV Try.prog H 80 x i k w = bindOW (szOf Try.prog 5) (fun sz => bindOW (intA i) (fun n => idxAW H 65536 sz x n k (wit _)) (wit _)) (wit _) := idxAddrV_ar Try.ar80 H x i k w
@[simp] theorem Try.fl82_0 : fldOf Try.prog 82 0 = some (0, 1, false) := by kernel_rfl
@[simp] theorem Try.fl82_1 : fldOf Try.prog 82 1 = some (1, 1, false) := by kernel_rfl
@[simp] theorem Try.bl82 : bldOf Try.prog 82 = some ([.slice none 0 0, .pointer none], [(0, 1), (1, 1)]) := by kernel_rfl
@[simp] theorem Try.mp84 : mapOf Try.prog 84 = some (.int .i64, .int .i64 0) := by kernel_rfl
@[simp] theorem Try.sz88 : szOf Try.prog 88 = some 1 := by kernel_rfl
@[simp] theorem Try.ag88 : aggOf Try.prog 88 = some false := by kernel_rfl
@[simp] theorem Try.mp88 : mapOf Try.prog 88 = some (.int .i64, .int .i64 0) := by kernel_rfl
@[simp] theorem Try.fl90_0 : fldOf Try.prog 90 0 = some (0, 1, false) := by kernel_rfl
@[simp] theorem Try.fl90_1 : fldOf Try.prog 90 1 = some (1, 1, false) := by kernel_rfl
@[simp] theorem Try.bl90 : bldOf Try.prog 90 = some ([.slice none 0 0, .map none], [(0, 1), (1, 1)]) := by kernel_rfl
@[simp] theorem Try.sz93 : szOf Try.prog 93 = some 8 := by kernel_rfl
@[simp] theorem Try.ag93 : aggOf Try.prog 93 = some true := by kernel_rfl
@[simp] theorem Try.ze93 : zeroOf Try.prog 93 = some (.agg #[.bool false, .bool false, .bool false, .bool false, .bool false, .bool false, .bool false, .bool false]) := by kernel_rfl
@[simp] theorem Try.fl93_0 : fldOf Try.prog 93 0 = some (0, 1, false) := by kernel_rfl
@[simp] theorem Try.fl93_1 : fldOf Try.prog 93 1 = some (1, 1, false) := by kernel_rfl
@[simp] theorem Try.fl93_2 : fldOf Try.prog 93 2 = some (2, 1, false) := by kernel_rfl
@[simp] theorem Try.fl93_3 : fldOf Try.prog 93 3 = some (3, 1, false) := by kernel_rfl
@[simp] theorem Try.fl93_4 : fldOf Try.prog 93 4 = some (4, 1, false) := by kernel_rfl
@[simp] theorem Try.fl93_5 : fldOf Try.prog 93 5 = some (5, 1, false) := by kernel_rfl
@[simp] theorem Try.fl93_6 : fldOf Try.prog 93 6 = some (6, 1, false) := by kernel_rfl
@[simp] theorem Try.fl93_7 : fldOf Try.prog 93 7 = some (7, 1, false) := by kernel_rfl
@[simp] theorem Try.bl93 : bldOf Try.prog 93 = some ([.bool false, .bool false, .bool false, .bool false, .bool false, .bool false, .bool false, .bool false], [(0, 1), (1, 1), (2, 1), (3, 1), (4, 1), (5, 1), (6, 1), (7, 1)]) := by kernel_rfl
@[simp] theorem Try.sz99 : szOf Try.prog 99 = some 1 := by kernel_rfl
@[simp] theorem Try.ag99 : aggOf Try.prog 99 = some false := by kernel_rfl
@[simp] theorem Try.ko113 : kOf Try.prog 113 = some .i64 := by kernel_rfl
@[simp] theorem Try.mp122 : mapOf Try.prog 122 = some (.int .i64, .nilFunc) := by kernel_rfl
@[simp] theorem Try.sz129 : szOf Try.prog 129 = some 1 := by kernel_rfl
@[simp] theorem Try.ag129 : aggOf Try.prog 129 = some false := by kernel_rfl
@[simp] theorem Try.ok5 : okFn Try.prog 5 = true := by kernel_rfl
@[simp] theorem Try.ok6 : okFn Try.prog 6 = true := by kernel_rfl
@[simp] theorem Try.ok7 : okFn Try.prog 7 = true := by kernel_rfl
@[simp] theorem Try.ok8 : okFn Try.prog 8 = true := by kernel_rfl
@[simp] theorem Try.ok9 : okFn Try.prog 9 = true := by kernel_rfl
@[simp] theorem Try.ok10 : okFn Try.prog 10 = true := by kernel_rfl
@[simp] theorem Try.ok12 : okFn Try.prog 12 = true := by kernel_rfl
@[simp] theorem Try.ok13 : okFn Try.prog 13 = true := by kernel_rfl
@[simp] theorem Try.ok14 : okFn Try.prog 14 = true := by kernel_rfl
@[simp] theorem Try.ok16 : okFn Try.prog 16 = true := by kernel_rfl
@[simp] theorem Try.ok17 : okFn Try.prog 17 = true := by kernel_rfl
@[simp] theorem Try.ok18 : okFn Try.prog 18 = true := by kernel_rfl
@[simp] theorem Try.ok19 : okFn Try.prog 19 = true := by kernel_rfl
@[simp] theorem Try.ok20 : okFn Try.prog 20 = true := by kernel_rfl
@[simp] theorem Try.ok21 : okFn Try.prog 21 = true := by kernel_rfl
@[simp] theorem Try.ok22 : okFn Try.prog 22 = true := by kernel_rfl
@[simp] theorem Try.ok23 : okFn Try.prog 23 = true := by kernel_rfl
@[simp] theorem Try.ok24 : okFn Try.prog 24 = true := by kernel_rfl
@[simp] theorem Try.ok25 : okFn Try.prog 25 = true := by kernel_rfl
@[simp] theorem Try.ok26 : okFn Try.prog 26 = true := by kernel_rfl
@[simp] theorem Try.ok27 : okFn Try.prog 27 = true := by kernel_rfl
@[simp] theorem Try.ok28 : okFn Try.prog 28 = true := by kernel_rfl
@[simp] theorem Try.ok29 : okFn Try.prog 29 = true := by kernel_rfl
@[simp] theorem Try.ok30 : okFn Try.prog 30 = true := by kernel_rfl
@[simp] theorem Try.ok31 : okFn Try.prog 31 = true := by kernel_rfl
@[simp] theorem Try.ok32 : okFn Try.prog 32 = true := by kernel_rfl
@[simp] theorem Try.ok34 : okFn Try.prog 34 = true := by kernel_rfl
@[simp] theorem Try.ok35 : okFn Try.prog 35 = true := by kernel_rfl
@[simp] theorem Try.ok49 : okFn Try.prog 49 = true := by kernel_rfl
@[simp] theorem Try.ok50 : okFn Try.prog 50 = true := by kernel_rfl
@[simp] theorem Try.ok51 : okFn Try.prog 51 = true := by kernel_rfl
@[simp] theorem Try.ok52 : okFn Try.prog 52 = true := by kernel_rfl
@[simp] theorem Try.ok53 : okFn Try.prog 53 = true := by kernel_rfl
@[simp] theorem Try.ok54 : okFn Try.prog 54 = true := by kernel_rfl
@[simp] theorem Try.ok55 : okFn Try.prog 55 = true := by kernel_rfl
@[simp] theorem Try.ok56 : okFn Try.prog 56 = true := by kernel_rfl
@[simp] theorem Try.ok57 : okFn Try.prog 57 = true := by kernel_rfl
@[simp] theorem Try.ok58 : okFn Try.prog 58 = true := by kernel_rfl
@[simp] theorem Try.ok59 : okFn Try.prog 59 = true := by kernel_rfl
@[simp] theorem Try.ok60 : okFn Try.prog 60 = true := by kernel_rfl
@[simp] theorem Try.ok61 : okFn Try.prog 61 = true := by kernel_rfl
@[simp] theorem Try.ok63 : okFn Try.prog 63 = true := by kernel_rfl
@[simp] theorem Try.ok64 : okFn Try.prog 64 = true := by kernel_rfl
@[simp] theorem Try.ok65 : okFn Try.prog 65 = true := by kernel_rfl
@[simp] theorem Try.ok66 : okFn Try.prog 66 = true := by kernel_rfl
@[simp] theorem Try.ok67 : okFn Try.prog 67 = true := by kernel_rfl
@[simp] theorem Try.ok68 : okFn Try.prog 68 = true := by kernel_rfl
@[simp] theorem Try.ok69 : okFn Try.prog 69 = true := by kernel_rfl
@[simp] theorem Try.ok70 : okFn Try.prog 70 = true := by kernel_rfl
@[simp] theorem Try.ok79 : okFn Try.prog 79 = true := by kernel_rfl
@[simp] theorem Try.ok82 : okFn Try.prog 82 = true := by kernel_rfl
end Go.Proofs
