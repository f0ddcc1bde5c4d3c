/- The program's types and functions, as the rules want them (written by a program of our own). -/
import Derived.Test.YtklgcajfkkoacaaFwCptoFwN
import Derived.Test.YtklgcajfkkoacaaProg
import Derived.KernelRfl
set_option linter.unusedVariables false
set_option linter.unusedSimpArgs false
namespace Go.Proofs
open Go.Mu
@[simp] theorem Try.sz3 : szOf Try.prog 3 = some 1 := by kernel_rfl
@[simp] theorem Try.ag3 : aggOf Try.prog 3 = some false := by kernel_rfl
@[simp] theorem Try.ze3 : zeroOf Try.prog 3 = some (.int .i64 0) := by kernel_rfl
@[simp] theorem Try.ud3 : undB Try.prog 3 = true := by kernel_rfl
@[simp] theorem Try.ko3 : kOf Try.prog 3 = some .i64 := by kernel_rfl
@[simp] theorem Try.sz4 : szOf Try.prog 4 = some 1 := by kernel_rfl
@[simp] theorem Try.ag4 : aggOf Try.prog 4 = some false := by kernel_rfl
@[simp] theorem Try.sz22 : szOf Try.prog 22 = some 1 := by kernel_rfl
@[simp] theorem Try.ag22 : aggOf Try.prog 22 = some false := by kernel_rfl
@[simp] theorem Try.ze22 : zeroOf Try.prog 22 = some (.slice none 0 0) := by kernel_rfl
@[simp] theorem Try.el22 : elOf Try.prog 22 = some 3 := by kernel_rfl
@[simp] theorem Try.so22 (H : List Blk) (x : AV) (lo hi : Option AV) (k : AV → Prop) (w : Wit k) : sliV Try.prog H 22 x lo hi k w = bindOW (szOf Try.prog 3) (fun sz => bindOW (optI lo) (fun l => bindOW (optI hi) (fun hh => sliceVW H sz x l hh k (wit _)) (wit _)) (wit _)) (wit _) := sliV_sl Try.el22 H x lo hi k w
@[simp] theorem Try.lk22 : lkOf Try.prog 22 = 1 := by kernel_rfl
@[simp] theorem Try.ix22 (H : List Blk) (x i : AV) (k : AV → Prop) (w : Wit k) : idxAddrV Try.prog H 22 x i k w = bindOW (szOf Try.prog 3) (fun sz => bindOW (intA i) (fun n => idxVW H sz x n k (wit _)) (wit _)) (wit _) := idxAddrV_sl Try.el22 H x i k w
@[simp] theorem Try.sl22 : slbOf Try.prog 22 = some (3, 1, [.int .i64 0], 8) := by kernel_rfl
@[simp] theorem Try.sz23 : szOf Try.prog 23 = some 1 := by kernel_rfl
@[simp] theorem Try.ag23 : aggOf Try.prog 23 = some false := by kernel_rfl
@[simp] theorem Try.el23 : elOf Try.prog 23 = some 41 := by kernel_rfl
@[simp] theorem Try.lk23 : lkOf Try.prog 23 = 1 := by kernel_rfl
@[simp] theorem Try.ix23 (H : List Blk) (x i : AV) (k : AV → Prop) (w : Wit k) : idxAddrV Try.prog H 23 x i k w = bindOW (szOf Try.prog 41) (fun sz => bindOW (intA i) (fun n => idxVW H sz x n k (wit _)) (wit _)) (wit _) := idxAddrV_sl Try.el23 H x i k w
@[simp] theorem Try.sl23 : slbOf Try.prog 23 = some (41, 11, [.int .i64 0, .int .i64 0, .int .i64 0, .int .i64 0, .int .i64 0, .int .i64 0, .int .i64 0, .int .u64 0, .bool false, .int .i64 0, .int .i64 0], 88) := by kernel_rfl
@[simp] theorem Try.sz25 : szOf Try.prog 25 = some 5 := by kernel_rfl
@[simp] theorem Try.ag25 : aggOf Try.prog 25 = some true := by kernel_rfl
@[simp] theorem Try.ze25 : zeroOf Try.prog 25 = some (.agg #[.int .i64 0, .slice none 0 0, .slice none 0 0, .int .i64 0, .slice none 0 0]) := by kernel_rfl
@[simp] theorem Try.fl25_0 : fldOf Try.prog 25 0 = some (0, 1, false) := by kernel_rfl
@[simp] theorem Try.fl25_1 : fldOf Try.prog 25 1 = some (1, 1, false) := by kernel_rfl
@[simp] theorem Try.fl25_2 : fldOf Try.prog 25 2 = some (2, 1, false) := by kernel_rfl
@[simp] theorem Try.fl25_3 : fldOf Try.prog 25 3 = some (3, 1, false) := by kernel_rfl
@[simp] theorem Try.fl25_4 : fldOf Try.prog 25 4 = some (4, 1, false) := by kernel_rfl
@[simp] theorem Try.bl25 : bldOf Try.prog 25 = some ([.int .i64 0, .slice none 0 0, .slice none 0 0, .int .i64 0, .slice none 0 0], [(0, 1), (1, 1), (2, 1), (3, 1), (4, 1)]) := by kernel_rfl
@[simp] theorem Try.sz34 : szOf Try.prog 34 = some 1 := by kernel_rfl
@[simp] theorem Try.ag34 : aggOf Try.prog 34 = some false := by kernel_rfl
@[simp] theorem Try.sz35 : szOf Try.prog 35 = some 1 := by kernel_rfl
@[simp] theorem Try.ag35 : aggOf Try.prog 35 = some false := by kernel_rfl
@[simp] theorem Try.sz36 : szOf Try.prog 36 = some 1 := by kernel_rfl
@[simp] theorem Try.ag36 : aggOf Try.prog 36 = some false := by kernel_rfl
@[simp] theorem Try.sz37 : szOf Try.prog 37 = some 1 := by kernel_rfl
@[simp] theorem Try.ag37 : aggOf Try.prog 37 = some false := by kernel_rfl
@[simp] theorem Try.sz39 : szOf Try.prog 39 = some 8 := by kernel_rfl
@[simp] theorem Try.ag39 : aggOf Try.prog 39 = some true := by kernel_rfl
@[simp] theorem Try.ze39 : zeroOf Try.prog 39 = some (.agg #[.int .i64 0, .int .i64 0, .int .i64 0, .int .i64 0, .int .i64 0, .int .i64 0, .int .u64 0, .bool false]) := by kernel_rfl
@[simp] theorem Try.eq39 (x0 y0 : Int) (x1 y1 : Int) (x2 y2 : Int) (x3 y3 : Int) (x4 y4 : Int) (x5 y5 : Int) (x6 y6 : Int) (x7 y7 : Bool) : binE Try.prog .eql 39 (.agg [.v (.int .i64 x0), .v (.int .i64 x1), .v (.int .i64 x2), .v (.int .i64 x3), .v (.int .i64 x4), .v (.int .i64 x5), .v (.int .u64 x6), .v (.bool x7)]) (.agg [.v (.int .i64 y0), .v (.int .i64 y1), .v (.int .i64 y2), .v (.int .i64 y3), .v (.int .i64 y4), .v (.int .i64 y5), .v (.int .u64 y6), .v (.bool y7)]) = some (.v (.bool ((x0 == y0) && ((x1 == y1) && ((x2 == y2) && ((x3 == y3) && ((x4 == y4) && ((x5 == y5) && ((x6 == y6) && ((x7 == y7) && true)))))))))) := by kernel_rfl
@[simp] theorem Try.fl39_0 : fldOf Try.prog 39 0 = some (0, 1, false) := by kernel_rfl
@[simp] theorem Try.fl39_1 : fldOf Try.prog 39 1 = some (1, 1, false) := by kernel_rfl
@[simp] theorem Try.fl39_2 : fldOf Try.prog 39 2 = some (2, 1, false) := by kernel_rfl
@[simp] theorem Try.fl39_3 : fldOf Try.prog 39 3 = some (3, 1, false) := by kernel_rfl
@[simp] theorem Try.fl39_4 : fldOf Try.prog 39 4 = some (4, 1, false) := by kernel_rfl
@[simp] theorem Try.fl39_5 : fldOf Try.prog 39 5 = some (5, 1, false) := by kernel_rfl
@[simp] theorem Try.fl39_6 : fldOf Try.prog 39 6 = some (6, 1, false) := by kernel_rfl
@[simp] theorem Try.fl39_7 : fldOf Try.prog 39 7 = some (7, 1, false) := by kernel_rfl
@[simp] theorem Try.bl39 : bldOf Try.prog 39 = some ([.int .i64 0, .int .i64 0, .int .i64 0, .int .i64 0, .int .i64 0, .int .i64 0, .int .u64 0, .bool false], [(0, 1), (1, 1), (2, 1), (3, 1), (4, 1), (5, 1), (6, 1), (7, 1)]) := by kernel_rfl
@[simp] theorem Try.sz41 : szOf Try.prog 41 = some 11 := by kernel_rfl
@[simp] theorem Try.ag41 : aggOf Try.prog 41 = some true := by kernel_rfl
@[simp] theorem Try.ze41 : zeroOf Try.prog 41 = some (.agg #[.int .i64 0, .int .i64 0, .int .i64 0, .int .i64 0, .int .i64 0, .int .i64 0, .int .i64 0, .int .u64 0, .bool false, .int .i64 0, .int .i64 0]) := by kernel_rfl
@[simp] theorem Try.nq41 (x0 y0 : Int) (x1 y1 : Int) (x2 y2 : Int) (x3 y3 : Int) (x4 y4 : Int) (x5 y5 : Int) (x6 y6 : Int) (x7 y7 : Int) (x8 y8 : Bool) (x9 y9 : Int) (x10 y10 : Int) : binE Try.prog .neq 41 (.agg [.v (.int .i64 x0), .v (.int .i64 x1), .v (.int .i64 x2), .v (.int .i64 x3), .v (.int .i64 x4), .v (.int .i64 x5), .v (.int .i64 x6), .v (.int .u64 x7), .v (.bool x8), .v (.int .i64 x9), .v (.int .i64 x10)]) (.agg [.v (.int .i64 y0), .v (.int .i64 y1), .v (.int .i64 y2), .v (.int .i64 y3), .v (.int .i64 y4), .v (.int .i64 y5), .v (.int .i64 y6), .v (.int .u64 y7), .v (.bool y8), .v (.int .i64 y9), .v (.int .i64 y10)]) = some (.v (.bool (!((x0 == y0) && (((x1 == y1) && ((x2 == y2) && ((x3 == y3) && ((x4 == y4) && ((x5 == y5) && ((x6 == y6) && ((x7 == y7) && ((x8 == y8) && true)))))))) && ((x9 == y9) && ((x10 == y10) && true))))))) := by kernel_rfl
@[simp] theorem Try.fl41_0 : fldOf Try.prog 41 0 = some (0, 1, false) := by kernel_rfl
@[simp] theorem Try.fl41_1 : fldOf Try.prog 41 1 = some (1, 8, true) := by kernel_rfl
@[simp] theorem Try.fl41_2 : fldOf Try.prog 41 2 = some (9, 1, false) := by kernel_rfl
@[simp] theorem Try.fl41_3 : fldOf Try.prog 41 3 = some (10, 1, false) := by kernel_rfl
@[simp] theorem Try.bl41 : bldOf Try.prog 41 = some ([.int .i64 0, .int .i64 0, .int .i64 0, .int .i64 0, .int .i64 0, .int .i64 0, .int .i64 0, .int .u64 0, .bool false, .int .i64 0, .int .i64 0], [(0, 1), (1, 8), (9, 1), (10, 1)]) := by kernel_rfl
@[simp] theorem Try.el59 : elOf Try.prog 59 = some 22 := by kernel_rfl
@[simp] theorem Try.lk59 : lkOf Try.prog 59 = 1 := by kernel_rfl
@[simp] theorem Try.ix59 (H : List Blk) (x i : AV) (k : AV → Prop) (w : Wit k) : idxAddrV Try.prog H 59 x i k w = bindOW (szOf Try.prog 22) (fun sz => bindOW (intA i) (fun n => idxVW H sz x n k (wit _)) (wit _)) (wit _) := idxAddrV_sl Try.el59 H x i k w
@[simp] theorem Try.sl59 : slbOf Try.prog 59 = some (22, 1, [.slice none 0 0], 24) := by kernel_rfl
@[simp] theorem Try.sz62 : szOf Try.prog 62 = some 1 := by kernel_rfl
@[simp] theorem Try.ag62 : aggOf Try.prog 62 = some false := by kernel_rfl
@[simp] theorem Try.el62 : elOf Try.prog 62 = some 65 := by kernel_rfl
@[simp] theorem Try.lk62 : lkOf Try.prog 62 = 1 := by kernel_rfl
@[simp] theorem Try.ix62 (H : List Blk) (x i : AV) (k : AV → Prop) (w : Wit k) : idxAddrV Try.prog H 62 x i k w = bindOW (szOf Try.prog 65) (fun sz => bindOW (intA i) (fun n => idxVW H sz x n k (wit _)) (wit _)) (wit _) := idxAddrV_sl Try.el62 H x i k w
@[simp] theorem Try.sl62 : slbOf Try.prog 62 = some (65, 2, [.int .i64 0, .int .i64 0], 16) := by kernel_rfl
@[simp] theorem Try.sz65 : szOf Try.prog 65 = some 2 := by kernel_rfl
@[simp] theorem Try.ag65 : aggOf Try.prog 65 = some true := by kernel_rfl
@[simp] theorem Try.ze65 : zeroOf Try.prog 65 = some (.agg #[.int .i64 0, .int .i64 0]) := by kernel_rfl
@[simp] theorem Try.ar65 : arOf Try.prog 65 = some (2, 3) := by kernel_rfl
@[simp] theorem Try.ix65 (H : List Blk) (x i : AV) (k : AV → Prop) (w : Wit k) : idxAddrV Try.prog H 65 x i k w = bindOW (szOf Try.prog 3) (fun sz => bindOW (intA i) (fun n => idxAW H 2 sz x n k (wit _)) (wit _)) (wit _) := idxAddrV_ar Try.ar65 H x i k w
@[simp] theorem Try.bl65 : bldOf Try.prog 65 = some ([.int .i64 0, .int .i64 0], [(0, 1), (1, 1)]) := by kernel_rfl
@[simp] theorem Try.sz92 : szOf Try.prog 92 = some 1 := by kernel_rfl
@[simp] theorem Try.ag92 : aggOf Try.prog 92 = some false := by kernel_rfl
@[simp] theorem Try.ze92 : zeroOf Try.prog 92 = some (.map none) := by kernel_rfl
@[simp] theorem Try.mp92 : mapOf Try.prog 92 = some (.int .i64, .slice none 0 0) := by kernel_rfl
@[simp] theorem Try.sz94 : szOf Try.prog 94 = some 1 := by kernel_rfl
@[simp] theorem Try.ag94 : aggOf Try.prog 94 = some false := by kernel_rfl
@[simp] theorem Try.mt94 : isMapT Try.prog 94 = true := by kernel_rfl
@[simp] theorem Try.mn94 : mapOf Try.prog 94 = none := by kernel_rfl
@[simp] theorem Try.mk94 : mapOfK Try.prog 94 = some (65, [.int .i64, .int .i64], .agg #[.bool false]) := by kernel_rfl
@[simp] theorem Try.bl107 : bldOf Try.prog 107 = some ([.bool false], [(0, 1)]) := by kernel_rfl
@[simp] theorem Try.mp108 : mapOf Try.prog 108 = some (.int .i64, .int .i64 0) := by kernel_rfl
@[simp] theorem Try.el110 : elOf Try.prog 110 = some 111 := by kernel_rfl
@[simp] theorem Try.lk110 : lkOf Try.prog 110 = 1 := by kernel_rfl
@[simp] theorem Try.ix110 (H : List Blk) (x i : AV) (k : AV → Prop) (w : Wit k) : idxAddrV Try.prog H 110 x i k w = bindOW (szOf Try.prog 111) (fun sz => bindOW (intA i) (fun n => idxVW H sz x n k (wit _)) (wit _)) (wit _) := idxAddrV_sl Try.el110 H x i k w
@[simp] theorem Try.sl110 : slbOf Try.prog 110 = some (111, 1, [.map none], 8) := by kernel_rfl
@[simp] theorem Try.sz111 : szOf Try.prog 111 = some 1 := by kernel_rfl
@[simp] theorem Try.ag111 : aggOf Try.prog 111 = some false := by kernel_rfl
@[simp] theorem Try.ze111 : zeroOf Try.prog 111 = some (.map none) := by kernel_rfl
@[simp] theorem Try.mp111 : mapOf Try.prog 111 = some (.int .i64, .agg #[.bool false]) := by kernel_rfl
@[simp] theorem Try.mt111 : isMapT Try.prog 111 = true := by kernel_rfl
@[simp] theorem Try.fl112_0 : fldOf Try.prog 112 0 = some (0, 1, false) := by kernel_rfl
@[simp] theorem Try.bl112 : bldOf Try.prog 112 = some ([.bool false], [(0, 1)]) := by kernel_rfl
@[simp] theorem Try.ud126 : undB Try.prog 126 = true := by kernel_rfl
@[simp] theorem Try.ko126 : kOf Try.prog 126 = some .u64 := by kernel_rfl
@[simp] theorem Try.sz140 : szOf Try.prog 140 = some 1 := by kernel_rfl
@[simp] theorem Try.ag140 : aggOf Try.prog 140 = some false := by kernel_rfl
@[simp] theorem Try.el140 : elOf Try.prog 140 = some 145 := by kernel_rfl
@[simp] theorem Try.lk140 : lkOf Try.prog 140 = 1 := by kernel_rfl
@[simp] theorem Try.ix140 (H : List Blk) (x i : AV) (k : AV → Prop) (w : Wit k) : idxAddrV Try.prog H 140 x i k w = bindOW (szOf Try.prog 145) (fun sz => bindOW (intA i) (fun n => idxVW H sz x n k (wit _)) (wit _)) (wit _) := idxAddrV_sl Try.el140 H x i k w
@[simp] theorem Try.sl140 : slbOf Try.prog 140 = some (145, 13, [.int .i64 0, .int .i64 0, .int .i64 0, .int .i64 0, .int .i64 0, .int .i64 0, .int .i64 0, .int .u64 0, .bool false, .int .i64 0, .slice none 0 0, .slice none 0 0, .slice none 0 0], 152) := by kernel_rfl
@[simp] theorem Try.fl142_0 : fldOf Try.prog 142 0 = some (0, 1, false) := by kernel_rfl
@[simp] theorem Try.fl142_1 : fldOf Try.prog 142 1 = some (1, 1, false) := by kernel_rfl
@[simp] theorem Try.fl142_2 : fldOf Try.prog 142 2 = some (2, 1, false) := by kernel_rfl
@[simp] theorem Try.fl142_3 : fldOf Try.prog 142 3 = some (3, 1, false) := by kernel_rfl
@[simp] theorem Try.fl142_4 : fldOf Try.prog 142 4 = some (4, 1, false) := by kernel_rfl
@[simp] theorem Try.bl142 : bldOf Try.prog 142 = some ([.int .i64 0, .slice none 0 0, .slice none 0 0, .int .i64 0, .slice none 0 0], [(0, 1), (1, 1), (2, 1), (3, 1), (4, 1)]) := by kernel_rfl
@[simp] theorem Try.sz143 : szOf Try.prog 143 = some 1 := by kernel_rfl
@[simp] theorem Try.ag143 : aggOf Try.prog 143 = some false := by kernel_rfl
@[simp] theorem Try.sz145 : szOf Try.prog 145 = some 13 := by kernel_rfl
@[simp] theorem Try.ag145 : aggOf Try.prog 145 = some true := by kernel_rfl
@[simp] theorem Try.ze145 : zeroOf Try.prog 145 = some (.agg #[.int .i64 0, .int .i64 0, .int .i64 0, .int .i64 0, .int .i64 0, .int .i64 0, .int .i64 0, .int .u64 0, .bool false, .int .i64 0, .slice none 0 0, .slice none 0 0, .slice none 0 0]) := by kernel_rfl
@[simp] theorem Try.fl145_0 : fldOf Try.prog 145 0 = some (0, 1, false) := by kernel_rfl
@[simp] theorem Try.fl145_1 : fldOf Try.prog 145 1 = some (1, 8, true) := by kernel_rfl
@[simp] theorem Try.fl145_2 : fldOf Try.prog 145 2 = some (9, 1, false) := by kernel_rfl
@[simp] theorem Try.fl145_3 : fldOf Try.prog 145 3 = some (10, 1, false) := by kernel_rfl
@[simp] theorem Try.fl145_4 : fldOf Try.prog 145 4 = some (11, 1, false) := by kernel_rfl
@[simp] theorem Try.fl145_5 : fldOf Try.prog 145 5 = some (12, 1, false) := by kernel_rfl
@[simp] theorem Try.bl145 : bldOf Try.prog 145 = some ([.int .i64 0, .int .i64 0, .int .i64 0, .int .i64 0, .int .i64 0, .int .i64 0, .int .i64 0, .int .u64 0, .bool false, .int .i64 0, .slice none 0 0, .slice none 0 0, .slice none 0 0], [(0, 1), (1, 8), (9, 1), (10, 1), (11, 1), (12, 1)]) := by kernel_rfl
@[simp] theorem Try.sz168 : szOf Try.prog 168 = some 1 := by kernel_rfl
@[simp] theorem Try.ag168 : aggOf Try.prog 168 = some false := by kernel_rfl
@[simp] theorem Try.ze168 : zeroOf Try.prog 168 = some (.pointer none) := by kernel_rfl
@[simp] theorem Try.fl170_0 : fldOf Try.prog 170 0 = some (0, 1, false) := by kernel_rfl
@[simp] theorem Try.fl170_1 : fldOf Try.prog 170 1 = some (1, 1, false) := by kernel_rfl
@[simp] theorem Try.bl170 : bldOf Try.prog 170 = some ([.int .i64 0, .int .i64 0], [(0, 1), (1, 1)]) := by kernel_rfl
@[simp] theorem Try.ok23 : okFn Try.prog 23 = true := by kernel_rfl
@[simp] theorem Try.ok27 : okFn Try.prog 27 = true := by kernel_rfl
@[simp] theorem Try.ok28 : okFn Try.prog 28 = true := by kernel_rfl
@[simp] theorem Try.ok29 : okFn Try.prog 29 = true := by kernel_rfl
@[simp] theorem Try.ok31 : okFn Try.prog 31 = true := by kernel_rfl
@[simp] theorem Try.ok34 : okFn Try.prog 34 = true := by kernel_rfl
@[simp] theorem Try.ok35 : okFn Try.prog 35 = true := by kernel_rfl
@[simp] theorem Try.ok36 : okFn Try.prog 36 = true := by kernel_rfl
@[simp] theorem Try.ok38 : okFn Try.prog 38 = true := by kernel_rfl
@[simp] theorem Try.ok45 : okFn Try.prog 45 = true := by kernel_rfl
@[simp] theorem Try.ok46 : okFn Try.prog 46 = true := by kernel_rfl
@[simp] theorem Try.ok47 : okFn Try.prog 47 = true := by kernel_rfl
@[simp] theorem Try.ok48 : okFn Try.prog 48 = true := by kernel_rfl
@[simp] theorem Try.ok57 : okFn Try.prog 57 = true := by kernel_rfl
@[simp] theorem Try.ok58 : okFn Try.prog 58 = true := by kernel_rfl
@[simp] theorem Try.ok59 : okFn Try.prog 59 = true := by kernel_rfl
@[simp] theorem Try.ok60 : okFn Try.prog 60 = true := by kernel_rfl
@[simp] theorem Try.ok61 : okFn Try.prog 61 = true := by kernel_rfl
@[simp] theorem Try.ok62 : okFn Try.prog 62 = true := by kernel_rfl
@[simp] theorem Try.ok63 : okFn Try.prog 63 = true := by kernel_rfl
@[simp] theorem Try.ok64 : okFn Try.prog 64 = true := by kernel_rfl
@[simp] theorem Try.ok65 : okFn Try.prog 65 = true := by kernel_rfl
@[simp] theorem Try.ok69 : okFn Try.prog 69 = true := by kernel_rfl
@[simp] theorem Try.ok75 : okFn Try.prog 75 = true := by kernel_rfl
@[simp] theorem Try.ok76 : okFn Try.prog 76 = true := by kernel_rfl
@[simp] theorem Try.ok77 : okFn Try.prog 77 = true := by kernel_rfl
@[simp] theorem Try.ok78 : okFn Try.prog 78 = true := by kernel_rfl
@[simp] theorem Try.ok79 : okFn Try.prog 79 = true := by kernel_rfl
@[simp] theorem Try.ok80 : okFn Try.prog 80 = true := by kernel_rfl
@[simp] theorem Try.ok81 : okFn Try.prog 81 = true := by kernel_rfl
@[simp] theorem Try.ok82 : okFn Try.prog 82 = true := by kernel_rfl
@[simp] theorem Try.ok89 : okFn Try.prog 89 = true := by kernel_rfl
@[simp] theorem Try.ok96 : okFn Try.prog 96 = true := by kernel_rfl
@[simp] theorem Try.ok97 : okFn Try.prog 97 = true := by kernel_rfl
@[simp] theorem Try.ok98 : okFn Try.prog 98 = true := by kernel_rfl
@[simp] theorem Try.ok99 : okFn Try.prog 99 = true := by kernel_rfl
@[simp] theorem Try.ok102 : okFn Try.prog 102 = true := by kernel_rfl
@[simp] theorem Try.ok105 : okFn Try.prog 105 = true := by kernel_rfl
@[simp] theorem Try.ok106 : okFn Try.prog 106 = true := by kernel_rfl
@[simp] theorem Try.ok108 : okFn Try.prog 108 = true := by kernel_rfl
@[simp] theorem Try.ok109 : okFn Try.prog 109 = true := by kernel_rfl
@[simp] theorem Try.ok111 : okFn Try.prog 111 = true := by kernel_rfl
@[simp] theorem Try.ok112 : okFn Try.prog 112 = true := by kernel_rfl
@[simp] theorem Try.ok130 : okFn Try.prog 130 = true := by kernel_rfl
@[simp] theorem Try.ok131 : okFn Try.prog 131 = true := by kernel_rfl
@[simp] theorem Try.ok133 : okFn Try.prog 133 = true := by kernel_rfl
@[simp] theorem Try.ok135 : okFn Try.prog 135 = true := by kernel_rfl
@[simp] theorem Try.ok137 : okFn Try.prog 137 = true := by kernel_rfl
@[simp] theorem Try.ok138 : okFn Try.prog 138 = true := by kernel_rfl
@[simp] theorem Try.ok139 : okFn Try.prog 139 = true := by kernel_rfl
@[simp] theorem Try.ok154 : okFn Try.prog 154 = true := by kernel_rfl
@[simp] theorem Try.ok159 : okFn Try.prog 159 = true := by kernel_rfl
end Go.Proofs
