/- The program's types and functions, as the rules want them (written by a program of our own). -/
import Derived.Test.YteoimifnfkpdeaaFwCptoFwN
import Derived.Test.YteoimifnfkpdeaaProg
import Derived.KernelRfl
set_option linter.unusedVariables false
set_option linter.unusedSimpArgs false
namespace Go.Proofs
open Go.Mu
@[simp] theorem Try.ud2 : undB Try.prog 2 = true := by kernel_rfl
@[simp] theorem Try.ko2 : kOf Try.prog 2 = some .i64 := by kernel_rfl
@[simp] theorem Try.sz3 : szOf Try.prog 3 = some 1 := by kernel_rfl
@[simp] theorem Try.ag3 : aggOf Try.prog 3 = some false := by kernel_rfl
@[simp] theorem Try.ze3 : zeroOf Try.prog 3 = some (.int .i64 0) := by kernel_rfl
@[simp] theorem Try.ud3 : undB Try.prog 3 = true := by kernel_rfl
@[simp] theorem Try.ko3 : kOf Try.prog 3 = some .i64 := by kernel_rfl
@[simp] theorem Try.sz4 : szOf Try.prog 4 = some 1 := by kernel_rfl
@[simp] theorem Try.ag4 : aggOf Try.prog 4 = some false := by kernel_rfl
@[simp] theorem Try.sz5 : szOf Try.prog 5 = some 1 := by kernel_rfl
@[simp] theorem Try.ag5 : aggOf Try.prog 5 = some false := by kernel_rfl
@[simp] theorem Try.ud5 : undB Try.prog 5 = true := by kernel_rfl
@[simp] theorem Try.ko5 : kOf Try.prog 5 = some .u8 := by kernel_rfl
@[simp] theorem Try.sz9 : szOf Try.prog 9 = some 1 := by kernel_rfl
@[simp] theorem Try.ag9 : aggOf Try.prog 9 = some false := by kernel_rfl
@[simp] theorem Try.lk9 : lkOf Try.prog 9 = 2 := by kernel_rfl
@[simp] theorem Try.sz22 : szOf Try.prog 22 = some 1 := by kernel_rfl
@[simp] theorem Try.ag22 : aggOf Try.prog 22 = some false := by kernel_rfl
@[simp] theorem Try.el22 : elOf Try.prog 22 = some 3 := by kernel_rfl
@[simp] theorem Try.so22 (H : List Blk) (x : AV) (lo hi : Option AV) (k : AV → Prop) (w : Wit k) : sliV Try.prog H 22 x lo hi k w = bindOW (szOf Try.prog 3) (fun sz => bindOW (optI lo) (fun l => bindOW (optI hi) (fun hh => sliceVW H sz x l hh k (wit _)) (wit _)) (wit _)) (wit _) := sliV_sl Try.el22 H x lo hi k w
@[simp] theorem Try.lk22 : lkOf Try.prog 22 = 1 := by kernel_rfl
@[simp] theorem Try.ix22 (H : List Blk) (x i : AV) (k : AV → Prop) (w : Wit k) : idxAddrV Try.prog H 22 x i k w = bindOW (szOf Try.prog 3) (fun sz => bindOW (intA i) (fun n => idxVW H sz x n k (wit _)) (wit _)) (wit _) := idxAddrV_sl Try.el22 H x i k w
@[simp] theorem Try.sl22 : slbOf Try.prog 22 = some (3, 1, [.int .i64 0], 8) := by kernel_rfl
@[simp] theorem Try.sz23 : szOf Try.prog 23 = some 1 := by kernel_rfl
@[simp] theorem Try.ag23 : aggOf Try.prog 23 = some false := by kernel_rfl
@[simp] theorem Try.el23 : elOf Try.prog 23 = some 91 := by kernel_rfl
@[simp] theorem Try.lk23 : lkOf Try.prog 23 = 1 := by kernel_rfl
@[simp] theorem Try.ix23 (H : List Blk) (x i : AV) (k : AV → Prop) (w : Wit k) : idxAddrV Try.prog H 23 x i k w = bindOW (szOf Try.prog 91) (fun sz => bindOW (intA i) (fun n => idxVW H sz x n k (wit _)) (wit _)) (wit _) := idxAddrV_sl Try.el23 H x i k w
@[simp] theorem Try.sl23 : slbOf Try.prog 23 = some (91, 13, [.int .i64 0, .int .i64 0, .int .i64 0, .int .i64 0, .int .i64 0, .int .i64 0, .int .i64 0, .int .u64 0, .bool false, .int .i64 0, .slice none 0 0, .slice none 0 0, .slice none 0 0], 152) := by kernel_rfl
@[simp] theorem Try.sz25 : szOf Try.prog 25 = some 5 := by kernel_rfl
@[simp] theorem Try.ag25 : aggOf Try.prog 25 = some true := by kernel_rfl
@[simp] theorem Try.fl25_0 : fldOf Try.prog 25 0 = some (0, 1, false) := by kernel_rfl
@[simp] theorem Try.fl25_1 : fldOf Try.prog 25 1 = some (1, 1, false) := by kernel_rfl
@[simp] theorem Try.fl25_2 : fldOf Try.prog 25 2 = some (2, 1, false) := by kernel_rfl
@[simp] theorem Try.fl25_3 : fldOf Try.prog 25 3 = some (3, 1, false) := by kernel_rfl
@[simp] theorem Try.fl25_4 : fldOf Try.prog 25 4 = some (4, 1, false) := by kernel_rfl
@[simp] theorem Try.bl25 : bldOf Try.prog 25 = some ([.int .i64 0, .slice none 0 0, .slice none 0 0, .int .i64 0, .slice none 0 0], [(0, 1), (1, 1), (2, 1), (3, 1), (4, 1)]) := by kernel_rfl
@[simp] theorem Try.sz28 : szOf Try.prog 28 = some 1 := by kernel_rfl
@[simp] theorem Try.ag28 : aggOf Try.prog 28 = some false := by kernel_rfl
@[simp] theorem Try.el28 : elOf Try.prog 28 = some 45 := by kernel_rfl
@[simp] theorem Try.lk28 : lkOf Try.prog 28 = 1 := by kernel_rfl
@[simp] theorem Try.ix28 (H : List Blk) (x i : AV) (k : AV → Prop) (w : Wit k) : idxAddrV Try.prog H 28 x i k w = bindOW (szOf Try.prog 45) (fun sz => bindOW (intA i) (fun n => idxVW H sz x n k (wit _)) (wit _)) (wit _) := idxAddrV_sl Try.el28 H x i k w
@[simp] theorem Try.sl28 : slbOf Try.prog 28 = some (45, 11, [.int .i64 0, .int .i64 0, .int .i64 0, .int .i64 0, .int .i64 0, .int .i64 0, .int .i64 0, .int .u64 0, .bool false, .int .i64 0, .int .i64 0], 88) := by kernel_rfl
@[simp] theorem Try.sz30 : szOf Try.prog 30 = some 5 := by kernel_rfl
@[simp] theorem Try.ag30 : aggOf Try.prog 30 = some true := by kernel_rfl
@[simp] theorem Try.ze30 : zeroOf Try.prog 30 = some (.agg #[.int .i64 0, .slice none 0 0, .slice none 0 0, .int .i64 0, .slice none 0 0]) := by kernel_rfl
@[simp] theorem Try.fl30_0 : fldOf Try.prog 30 0 = some (0, 1, false) := by kernel_rfl
@[simp] theorem Try.fl30_1 : fldOf Try.prog 30 1 = some (1, 1, false) := by kernel_rfl
@[simp] theorem Try.fl30_2 : fldOf Try.prog 30 2 = some (2, 1, false) := by kernel_rfl
@[simp] theorem Try.fl30_3 : fldOf Try.prog 30 3 = some (3, 1, false) := by kernel_rfl
@[simp] theorem Try.fl30_4 : fldOf Try.prog 30 4 = some (4, 1, false) := by kernel_rfl
@[simp] theorem Try.bl30 : bldOf Try.prog 30 = some ([.int .i64 0, .slice none 0 0, .slice none 0 0, .int .i64 0, .slice none 0 0], [(0, 1), (1, 1), (2, 1), (3, 1), (4, 1)]) := by kernel_rfl
@[simp] theorem Try.sz31 : szOf Try.prog 31 = some 1 := by kernel_rfl
@[simp] theorem Try.ag31 : aggOf Try.prog 31 = some false := by kernel_rfl
@[simp] theorem Try.ze31 : zeroOf Try.prog 31 = some (.int .i64 0) := by kernel_rfl
@[simp] theorem Try.sz38 : szOf Try.prog 38 = some 1 := by kernel_rfl
@[simp] theorem Try.ag38 : aggOf Try.prog 38 = some false := by kernel_rfl
@[simp] theorem Try.sz39 : szOf Try.prog 39 = some 1 := by kernel_rfl
@[simp] theorem Try.ag39 : aggOf Try.prog 39 = some false := by kernel_rfl
@[simp] theorem Try.sz40 : szOf Try.prog 40 = some 1 := by kernel_rfl
@[simp] theorem Try.ag40 : aggOf Try.prog 40 = some false := by kernel_rfl
@[simp] theorem Try.sz41 : szOf Try.prog 41 = some 1 := by kernel_rfl
@[simp] theorem Try.ag41 : aggOf Try.prog 41 = some false := by kernel_rfl
@[simp] theorem Try.ud41 : undB Try.prog 41 = true := by kernel_rfl
@[simp] theorem Try.ko41 : kOf Try.prog 41 = some .u64 := by kernel_rfl
@[simp] theorem Try.sz43 : szOf Try.prog 43 = some 8 := by kernel_rfl
@[simp] theorem Try.ag43 : aggOf Try.prog 43 = some true := by kernel_rfl
@[simp] theorem Try.ze43 : zeroOf Try.prog 43 = some (.agg #[.int .i64 0, .int .i64 0, .int .i64 0, .int .i64 0, .int .i64 0, .int .i64 0, .int .u64 0, .bool false]) := by kernel_rfl
@[simp] theorem Try.eq43 (x0 y0 : Int) (x1 y1 : Int) (x2 y2 : Int) (x3 y3 : Int) (x4 y4 : Int) (x5 y5 : Int) (x6 y6 : Int) (x7 y7 : Bool) : binE Try.prog .eql 43 (.agg [.v (.int .i64 x0), .v (.int .i64 x1), .v (.int .i64 x2), .v (.int .i64 x3), .v (.int .i64 x4), .v (.int .i64 x5), .v (.int .u64 x6), .v (.bool x7)]) (.agg [.v (.int .i64 y0), .v (.int .i64 y1), .v (.int .i64 y2), .v (.int .i64 y3), .v (.int .i64 y4), .v (.int .i64 y5), .v (.int .u64 y6), .v (.bool y7)]) = some (.v (.bool ((x0 == y0) && ((x1 == y1) && ((x2 == y2) && ((x3 == y3) && ((x4 == y4) && ((x5 == y5) && ((x6 == y6) && ((x7 == y7) && true)))))))))) := by kernel_rfl
@[simp] theorem Try.nq43 (x0 y0 : Int) (x1 y1 : Int) (x2 y2 : Int) (x3 y3 : Int) (x4 y4 : Int) (x5 y5 : Int) (x6 y6 : Int) (x7 y7 : Bool) : binE Try.prog .neq 43 (.agg [.v (.int .i64 x0), .v (.int .i64 x1), .v (.int .i64 x2), .v (.int .i64 x3), .v (.int .i64 x4), .v (.int .i64 x5), .v (.int .u64 x6), .v (.bool x7)]) (.agg [.v (.int .i64 y0), .v (.int .i64 y1), .v (.int .i64 y2), .v (.int .i64 y3), .v (.int .i64 y4), .v (.int .i64 y5), .v (.int .u64 y6), .v (.bool y7)]) = some (.v (.bool (!((x0 == y0) && ((x1 == y1) && ((x2 == y2) && ((x3 == y3) && ((x4 == y4) && ((x5 == y5) && ((x6 == y6) && ((x7 == y7) && true))))))))))) := by kernel_rfl
@[simp] theorem Try.fl43_0 : fldOf Try.prog 43 0 = some (0, 1, false) := by kernel_rfl
@[simp] theorem Try.fl43_1 : fldOf Try.prog 43 1 = some (1, 1, false) := by kernel_rfl
@[simp] theorem Try.fl43_2 : fldOf Try.prog 43 2 = some (2, 1, false) := by kernel_rfl
@[simp] theorem Try.fl43_3 : fldOf Try.prog 43 3 = some (3, 1, false) := by kernel_rfl
@[simp] theorem Try.fl43_4 : fldOf Try.prog 43 4 = some (4, 1, false) := by kernel_rfl
@[simp] theorem Try.fl43_5 : fldOf Try.prog 43 5 = some (5, 1, false) := by kernel_rfl
@[simp] theorem Try.fl43_6 : fldOf Try.prog 43 6 = some (6, 1, false) := by kernel_rfl
@[simp] theorem Try.fl43_7 : fldOf Try.prog 43 7 = some (7, 1, false) := by kernel_rfl
@[simp] theorem Try.bl43 : bldOf Try.prog 43 = some ([.int .i64 0, .int .i64 0, .int .i64 0, .int .i64 0, .int .i64 0, .int .i64 0, .int .u64 0, .bool false], [(0, 1), (1, 1), (2, 1), (3, 1), (4, 1), (5, 1), (6, 1), (7, 1)]) := by kernel_rfl
@[simp] theorem Try.sz45 : szOf Try.prog 45 = some 11 := by kernel_rfl
@[simp] theorem Try.ag45 : aggOf Try.prog 45 = some true := by kernel_rfl
@[simp] theorem Try.ze45 : zeroOf Try.prog 45 = some (.agg #[.int .i64 0, .int .i64 0, .int .i64 0, .int .i64 0, .int .i64 0, .int .i64 0, .int .i64 0, .int .u64 0, .bool false, .int .i64 0, .int .i64 0]) := by kernel_rfl
@[simp] theorem Try.nq45 (x0 y0 : Int) (x1 y1 : Int) (x2 y2 : Int) (x3 y3 : Int) (x4 y4 : Int) (x5 y5 : Int) (x6 y6 : Int) (x7 y7 : Int) (x8 y8 : Bool) (x9 y9 : Int) (x10 y10 : Int) : binE Try.prog .neq 45 (.agg [.v (.int .i64 x0), .v (.int .i64 x1), .v (.int .i64 x2), .v (.int .i64 x3), .v (.int .i64 x4), .v (.int .i64 x5), .v (.int .i64 x6), .v (.int .u64 x7), .v (.bool x8), .v (.int .i64 x9), .v (.int .i64 x10)]) (.agg [.v (.int .i64 y0), .v (.int .i64 y1), .v (.int .i64 y2), .v (.int .i64 y3), .v (.int .i64 y4), .v (.int .i64 y5), .v (.int .i64 y6), .v (.int .u64 y7), .v (.bool y8), .v (.int .i64 y9), .v (.int .i64 y10)]) = some (.v (.bool (!((x0 == y0) && (((x1 == y1) && ((x2 == y2) && ((x3 == y3) && ((x4 == y4) && ((x5 == y5) && ((x6 == y6) && ((x7 == y7) && ((x8 == y8) && true)))))))) && ((x9 == y9) && ((x10 == y10) && true))))))) := by kernel_rfl
@[simp] theorem Try.fl45_0 : fldOf Try.prog 45 0 = some (0, 1, false) := by kernel_rfl
@[simp] theorem Try.fl45_1 : fldOf Try.prog 45 1 = some (1, 8, true) := by kernel_rfl
@[simp] theorem Try.fl45_2 : fldOf Try.prog 45 2 = some (9, 1, false) := by kernel_rfl
@[simp] theorem Try.fl45_3 : fldOf Try.prog 45 3 = some (10, 1, false) := by kernel_rfl
@[simp] theorem Try.bl45 : bldOf Try.prog 45 = some ([.int .i64 0, .int .i64 0, .int .i64 0, .int .i64 0, .int .i64 0, .int .i64 0, .int .i64 0, .int .u64 0, .bool false, .int .i64 0, .int .i64 0], [(0, 1), (1, 8), (9, 1), (10, 1)]) := by kernel_rfl
@[simp] theorem Try.sz73 : szOf Try.prog 73 = some 1 := by kernel_rfl
@[simp] theorem Try.ag73 : aggOf Try.prog 73 = some false := by kernel_rfl
@[simp] theorem Try.el73 : elOf Try.prog 73 = some 41 := by kernel_rfl
@[simp] theorem Try.so73 (H : List Blk) (x : AV) (lo hi : Option AV) (k : AV → Prop) (w : Wit k) : sliV Try.prog H 73 x lo hi k w = bindOW (szOf Try.prog 41) (fun sz => bindOW (optI lo) (fun l => bindOW (optI hi) (fun hh => sliceVW H sz x l hh k (wit _)) (wit _)) (wit _)) (wit _) := sliV_sl Try.el73 H x lo hi k w
@[simp] theorem Try.lk73 : lkOf Try.prog 73 = 1 := by kernel_rfl
@[simp] theorem Try.ix73 (H : List Blk) (x i : AV) (k : AV → Prop) (w : Wit k) : idxAddrV Try.prog H 73 x i k w = bindOW (szOf Try.prog 41) (fun sz => bindOW (intA i) (fun n => idxVW H sz x n k (wit _)) (wit _)) (wit _) := idxAddrV_sl Try.el73 H x i k w
@[simp] theorem Try.sl73 : slbOf Try.prog 73 = some (41, 1, [.int .u64 0], 8) := by kernel_rfl
@[simp] theorem Try.sz74 : szOf Try.prog 74 = some 1 := by kernel_rfl
@[simp] theorem Try.ag74 : aggOf Try.prog 74 = some false := by kernel_rfl
@[simp] theorem Try.el74 : elOf Try.prog 74 = some 168 := by kernel_rfl
@[simp] theorem Try.so74 (H : List Blk) (x : AV) (lo hi : Option AV) (k : AV → Prop) (w : Wit k) : sliV Try.prog H 74 x lo hi k w = bindOW (szOf Try.prog 168) (fun sz => bindOW (optI lo) (fun l => bindOW (optI hi) (fun hh => sliceVW H sz x l hh k (wit _)) (wit _)) (wit _)) (wit _) := sliV_sl Try.el74 H x lo hi k w
@[simp] theorem Try.lk74 : lkOf Try.prog 74 = 1 := by kernel_rfl
@[simp] theorem Try.ix74 (H : List Blk) (x i : AV) (k : AV → Prop) (w : Wit k) : idxAddrV Try.prog H 74 x i k w = bindOW (szOf Try.prog 168) (fun sz => bindOW (intA i) (fun n => idxVW H sz x n k (wit _)) (wit _)) (wit _) := idxAddrV_sl Try.el74 H x i k w
@[simp] theorem Try.sl74 : slbOf Try.prog 74 = some (168, 4, [.string ByteArray.empty, .int .i64 0, .int .i64 0, .bool false], 40) := by kernel_rfl
@[simp] theorem Try.el75 : elOf Try.prog 75 = some 73 := by kernel_rfl
@[simp] theorem Try.lk75 : lkOf Try.prog 75 = 1 := by kernel_rfl
@[simp] theorem Try.ix75 (H : List Blk) (x i : AV) (k : AV → Prop) (w : Wit k) : idxAddrV Try.prog H 75 x i k w = bindOW (szOf Try.prog 73) (fun sz => bindOW (intA i) (fun n => idxVW H sz x n k (wit _)) (wit _)) (wit _) := idxAddrV_sl Try.el75 H x i k w
@[simp] theorem Try.sz80 : szOf Try.prog 80 = some 1 := by kernel_rfl
@[simp] theorem Try.ag80 : aggOf Try.prog 80 = some false := by kernel_rfl
@[simp] theorem Try.el80 : elOf Try.prog 80 = some 136 := by kernel_rfl
@[simp] theorem Try.so80 (H : List Blk) (x : AV) (lo hi : Option AV) (k : AV → Prop) (w : Wit k) : sliV Try.prog H 80 x lo hi k w = bindOW (szOf Try.prog 136) (fun sz => bindOW (optI lo) (fun l => bindOW (optI hi) (fun hh => sliceVW H sz x l hh k (wit _)) (wit _)) (wit _)) (wit _) := sliV_sl Try.el80 H x lo hi k w
@[simp] theorem Try.lk80 : lkOf Try.prog 80 = 1 := by kernel_rfl
@[simp] theorem Try.ix80 (H : List Blk) (x i : AV) (k : AV → Prop) (w : Wit k) : idxAddrV Try.prog H 80 x i k w = bindOW (szOf Try.prog 136) (fun sz => bindOW (intA i) (fun n => idxVW H sz x n k (wit _)) (wit _)) (wit _) := idxAddrV_sl Try.el80 H x i k w
@[simp] theorem Try.sl80 : slbOf Try.prog 80 = some (136, 3, [.bool false, .bool false, .int .u64 0], 16) := by kernel_rfl
@[simp] theorem Try.sz82 : szOf Try.prog 82 = some 4 := by kernel_rfl
@[simp] theorem Try.ag82 : aggOf Try.prog 82 = some true := by kernel_rfl
@[simp] theorem Try.ze82 : zeroOf Try.prog 82 = some (.agg #[.slice none 0 0, .slice none 0 0, .int .i64 0, .int .i64 0]) := by kernel_rfl
@[simp] theorem Try.fl82_0 : fldOf Try.prog 82 0 = some (0, 1, false) := by kernel_rfl
@[simp] theorem Try.fl82_1 : fldOf Try.prog 82 1 = some (1, 1, false) := by kernel_rfl
@[simp] theorem Try.fl82_2 : fldOf Try.prog 82 2 = some (2, 1, false) := by kernel_rfl
@[simp] theorem Try.fl82_3 : fldOf Try.prog 82 3 = some (3, 1, false) := by kernel_rfl
@[simp] theorem Try.sz89 : szOf Try.prog 89 = some 1 := by kernel_rfl
@[simp] theorem Try.ag89 : aggOf Try.prog 89 = some false := by kernel_rfl
@[simp] theorem Try.sz91 : szOf Try.prog 91 = some 13 := by kernel_rfl
@[simp] theorem Try.ag91 : aggOf Try.prog 91 = some true := by kernel_rfl
@[simp] theorem Try.ze91 : zeroOf Try.prog 91 = some (.agg #[.int .i64 0, .int .i64 0, .int .i64 0, .int .i64 0, .int .i64 0, .int .i64 0, .int .i64 0, .int .u64 0, .bool false, .int .i64 0, .slice none 0 0, .slice none 0 0, .slice none 0 0]) := by kernel_rfl
@[simp] theorem Try.fl91_0 : fldOf Try.prog 91 0 = some (0, 1, false) := by kernel_rfl
@[simp] theorem Try.fl91_1 : fldOf Try.prog 91 1 = some (1, 8, true) := by kernel_rfl
@[simp] theorem Try.fl91_2 : fldOf Try.prog 91 2 = some (9, 1, false) := by kernel_rfl
@[simp] theorem Try.fl91_3 : fldOf Try.prog 91 3 = some (10, 1, false) := by kernel_rfl
@[simp] theorem Try.fl91_4 : fldOf Try.prog 91 4 = some (11, 1, false) := by kernel_rfl
@[simp] theorem Try.fl91_5 : fldOf Try.prog 91 5 = some (12, 1, false) := by kernel_rfl
@[simp] theorem Try.bl91 : bldOf Try.prog 91 = some ([.int .i64 0, .int .i64 0, .int .i64 0, .int .i64 0, .int .i64 0, .int .i64 0, .int .i64 0, .int .u64 0, .bool false, .int .i64 0, .slice none 0 0, .slice none 0 0, .slice none 0 0], [(0, 1), (1, 8), (9, 1), (10, 1), (11, 1), (12, 1)]) := by kernel_rfl
@[simp] theorem Try.sz93 : szOf Try.prog 93 = some 0 := by kernel_rfl
@[simp] theorem Try.ze93 : zeroOf Try.prog 93 = some (.agg #[]) := by kernel_rfl
@[simp] theorem Try.ni93 : isNonIface Try.prog 93 = true := by kernel_rfl
@[simp] theorem Try.bl93 : bldOf Try.prog 93 = some ([], []) := by kernel_rfl
@[simp] theorem Try.fl96_0 : fldOf Try.prog 96 0 = some (0, 1, false) := by kernel_rfl
@[simp] theorem Try.fl96_1 : fldOf Try.prog 96 1 = some (1, 1, false) := by kernel_rfl
@[simp] theorem Try.bl96 : bldOf Try.prog 96 = some ([.slice none 0 0, .int .i64 0], [(0, 1), (1, 1)]) := by kernel_rfl
@[simp] theorem Try.sz106 : szOf Try.prog 106 = some 1 := by kernel_rfl
@[simp] theorem Try.ag106 : aggOf Try.prog 106 = some false := by kernel_rfl
@[simp] theorem Try.ze106 : zeroOf Try.prog 106 = some (.map none) := by kernel_rfl
@[simp] theorem Try.mp106 : mapOf Try.prog 106 = some (.int .i64, .agg #[.bool false]) := by kernel_rfl
@[simp] theorem Try.fl107_0 : fldOf Try.prog 107 0 = some (0, 1, false) := by kernel_rfl
@[simp] theorem Try.bl107 : bldOf Try.prog 107 = some ([.bool false], [(0, 1)]) := by kernel_rfl
@[simp] theorem Try.mp115 : mapOf Try.prog 115 = some (.int .i64, .int .i64 0) := by kernel_rfl
@[simp] theorem Try.sz130 : szOf Try.prog 130 = some 1 := by kernel_rfl
@[simp] theorem Try.ag130 : aggOf Try.prog 130 = some false := by kernel_rfl
@[simp] theorem Try.el130 : elOf Try.prog 130 = some 5 := by kernel_rfl
@[simp] theorem Try.lk130 : lkOf Try.prog 130 = 1 := by kernel_rfl
@[simp] theorem Try.ix130 (H : List Blk) (x i : AV) (k : AV → Prop) (w : Wit k) : idxAddrV Try.prog H 130 x i k w = bindOW (szOf Try.prog 5) (fun sz => bindOW (intA i) (fun n => idxVW H sz x n k (wit _)) (wit _)) (wit _) := idxAddrV_sl Try.el130 H x i k w
@[simp] theorem Try.sl130 : slbOf Try.prog 130 = some (5, 1, [.int .u8 0], 1) := by kernel_rfl
@[simp] theorem Try.sz136 : szOf Try.prog 136 = some 3 := by kernel_rfl
@[simp] theorem Try.ag136 : aggOf Try.prog 136 = some true := by kernel_rfl
@[simp] theorem Try.nq136 (x0 y0 : Bool) (x1 y1 : Bool) (x2 y2 : Int) : binE Try.prog .neq 136 (.agg [.v (.bool x0), .v (.bool x1), .v (.int .u64 x2)]) (.agg [.v (.bool y0), .v (.bool y1), .v (.int .u64 y2)]) = some (.v (.bool (!((x0 == y0) && ((x1 == y1) && ((x2 == y2) && true)))))) := by kernel_rfl
@[simp] theorem Try.bl136 : bldOf Try.prog 136 = some ([.bool false, .bool false, .int .u64 0], [(0, 1), (1, 1), (2, 1)]) := by kernel_rfl
@[simp] theorem Try.sz139 : szOf Try.prog 139 = some 1 := by kernel_rfl
@[simp] theorem Try.ag139 : aggOf Try.prog 139 = some false := by kernel_rfl
@[simp] theorem Try.ze139 : zeroOf Try.prog 139 = some (.pointer none) := by kernel_rfl
@[simp] theorem Try.fl141_0 : fldOf Try.prog 141 0 = some (0, 1, false) := by kernel_rfl
@[simp] theorem Try.fl141_1 : fldOf Try.prog 141 1 = some (1, 1, false) := by kernel_rfl
@[simp] theorem Try.bl141 : bldOf Try.prog 141 = some ([.int .i64 0, .int .i64 0], [(0, 1), (1, 1)]) := by kernel_rfl
@[simp] theorem Try.sz168 : szOf Try.prog 168 = some 4 := by kernel_rfl
@[simp] theorem Try.ag168 : aggOf Try.prog 168 = some true := by kernel_rfl
@[simp] theorem Try.ze168 : zeroOf Try.prog 168 = some (.agg #[.string ByteArray.empty, .int .i64 0, .int .i64 0, .bool false]) := by kernel_rfl
@[simp] theorem Try.fl168_0 : fldOf Try.prog 168 0 = some (0, 1, false) := by kernel_rfl
@[simp] theorem Try.fl168_1 : fldOf Try.prog 168 1 = some (1, 1, false) := by kernel_rfl
@[simp] theorem Try.fl168_2 : fldOf Try.prog 168 2 = some (2, 1, false) := by kernel_rfl
@[simp] theorem Try.fl172_0 : fldOf Try.prog 172 0 = some (0, 1, false) := by kernel_rfl
@[simp] theorem Try.fl172_1 : fldOf Try.prog 172 1 = some (1, 1, false) := by kernel_rfl
@[simp] theorem Try.bl172 : bldOf Try.prog 172 = some ([.slice none 0 0, .slice none 0 0], [(0, 1), (1, 1)]) := by kernel_rfl
@[simp] theorem Try.sz174 : szOf Try.prog 174 = some 1 := by kernel_rfl
@[simp] theorem Try.ag174 : aggOf Try.prog 174 = some false := by kernel_rfl
@[simp] theorem Try.fl176_0 : fldOf Try.prog 176 0 = some (0, 1, false) := by kernel_rfl
@[simp] theorem Try.fl176_1 : fldOf Try.prog 176 1 = some (1, 1, false) := by kernel_rfl
@[simp] theorem Try.bl176 : bldOf Try.prog 176 = some ([.slice none 0 0, .pointer none], [(0, 1), (1, 1)]) := by kernel_rfl
@[simp] theorem Try.ap197 : arpOf Try.prog 197 = some (65536, 5) := by kernel_rfl
@[simp] theorem Try.so197 (H : List Blk) (x : AV) (lo hi : Option AV) (k : AV → Prop) (w : Wit k) : sliV Try.prog H 197 x lo hi k w = bindOW (szOf Try.prog 5) (fun sz => bindOW (optI lo) (fun l => bindOW (optI hi) (fun hh => sliceAW 65536 sz x l hh k (wit _)) (wit _)) (wit _)) (wit _) := sliV_ar Try.ap197 H x lo hi k w
@[simp] theorem Try.ar197 : arOf Try.prog 197 = some (65536, 5) := by kernel_rfl
@[simp] theorem Try.ix197 (H : List Blk) (x i : AV) (k : AV → Prop) (w : Wit k) : idxAddrV Try.prog H 197 x i k w = bindOW (szOf Try.prog 5) (fun sz => bindOW (intA i) (fun n => idxAW H 65536 sz x n k (wit _)) (wit _)) (wit _) := idxAddrV_ar Try.ar197 H x i k w
@[simp] theorem Try.ko198 : kOf Try.prog 198 = some .u64 := by kernel_rfl
@[simp] theorem Try.mp200 : mapOf Try.prog 200 = some (.int .i64, .nilFunc) := by kernel_rfl
@[simp] theorem Try.sz205 : szOf Try.prog 205 = some 1 := by kernel_rfl
@[simp] theorem Try.ag205 : aggOf Try.prog 205 = some false := by kernel_rfl
@[simp] theorem Try.sz206 : szOf Try.prog 206 = some 1 := by kernel_rfl
@[simp] theorem Try.ag206 : aggOf Try.prog 206 = some false := by kernel_rfl
@[simp] theorem Try.ze206 : zeroOf Try.prog 206 = some (.nilFunc) := by kernel_rfl
@[simp] theorem Try.sz207 : szOf Try.prog 207 = some 1 := by kernel_rfl
@[simp] theorem Try.ag207 : aggOf Try.prog 207 = some false := by kernel_rfl
@[simp] theorem Try.ok10 : okFn Try.prog 10 = true := by kernel_rfl
@[simp] theorem Try.ok11 : okFn Try.prog 11 = true := by kernel_rfl
@[simp] theorem Try.ok13 : okFn Try.prog 13 = true := by kernel_rfl
@[simp] theorem Try.ok15 : okFn Try.prog 15 = true := by kernel_rfl
@[simp] theorem Try.ok23 : okFn Try.prog 23 = true := by kernel_rfl
@[simp] theorem Try.ok28 : okFn Try.prog 28 = true := by kernel_rfl
@[simp] theorem Try.ok29 : okFn Try.prog 29 = true := by kernel_rfl
@[simp] theorem Try.ok30 : okFn Try.prog 30 = true := by kernel_rfl
@[simp] theorem Try.ok31 : okFn Try.prog 31 = true := by kernel_rfl
@[simp] theorem Try.ok32 : okFn Try.prog 32 = true := by kernel_rfl
@[simp] theorem Try.ok35 : okFn Try.prog 35 = true := by kernel_rfl
@[simp] theorem Try.ok37 : okFn Try.prog 37 = true := by kernel_rfl
@[simp] theorem Try.ok38 : okFn Try.prog 38 = true := by kernel_rfl
@[simp] theorem Try.ok39 : okFn Try.prog 39 = true := by kernel_rfl
@[simp] theorem Try.ok40 : okFn Try.prog 40 = true := by kernel_rfl
@[simp] theorem Try.ok42 : okFn Try.prog 42 = true := by kernel_rfl
@[simp] theorem Try.ok44 : okFn Try.prog 44 = true := by kernel_rfl
@[simp] theorem Try.ok55 : okFn Try.prog 55 = true := by kernel_rfl
@[simp] theorem Try.ok56 : okFn Try.prog 56 = true := by kernel_rfl
@[simp] theorem Try.ok57 : okFn Try.prog 57 = true := by kernel_rfl
@[simp] theorem Try.ok58 : okFn Try.prog 58 = true := by kernel_rfl
@[simp] theorem Try.ok59 : okFn Try.prog 59 = true := by kernel_rfl
@[simp] theorem Try.ok60 : okFn Try.prog 60 = true := by kernel_rfl
@[simp] theorem Try.ok61 : okFn Try.prog 61 = true := by kernel_rfl
@[simp] theorem Try.ok62 : okFn Try.prog 62 = true := by kernel_rfl
@[simp] theorem Try.ok63 : okFn Try.prog 63 = true := by kernel_rfl
@[simp] theorem Try.ok64 : okFn Try.prog 64 = true := by kernel_rfl
@[simp] theorem Try.ok65 : okFn Try.prog 65 = true := by kernel_rfl
@[simp] theorem Try.ok66 : okFn Try.prog 66 = true := by kernel_rfl
@[simp] theorem Try.ok67 : okFn Try.prog 67 = true := by kernel_rfl
@[simp] theorem Try.ok68 : okFn Try.prog 68 = true := by kernel_rfl
@[simp] theorem Try.ok70 : okFn Try.prog 70 = true := by kernel_rfl
@[simp] theorem Try.ok71 : okFn Try.prog 71 = true := by kernel_rfl
@[simp] theorem Try.ok72 : okFn Try.prog 72 = true := by kernel_rfl
@[simp] theorem Try.ok83 : okFn Try.prog 83 = true := by kernel_rfl
@[simp] theorem Try.ok84 : okFn Try.prog 84 = true := by kernel_rfl
@[simp] theorem Try.ok85 : okFn Try.prog 85 = true := by kernel_rfl
@[simp] theorem Try.ok86 : okFn Try.prog 86 = true := by kernel_rfl
@[simp] theorem Try.ok87 : okFn Try.prog 87 = true := by kernel_rfl
@[simp] theorem Try.ok88 : okFn Try.prog 88 = true := by kernel_rfl
@[simp] theorem Try.ok89 : okFn Try.prog 89 = true := by kernel_rfl
@[simp] theorem Try.ok90 : okFn Try.prog 90 = true := by kernel_rfl
@[simp] theorem Try.ok91 : okFn Try.prog 91 = true := by kernel_rfl
@[simp] theorem Try.ok92 : okFn Try.prog 92 = true := by kernel_rfl
@[simp] theorem Try.ok93 : okFn Try.prog 93 = true := by kernel_rfl
@[simp] theorem Try.ok94 : okFn Try.prog 94 = true := by kernel_rfl
@[simp] theorem Try.ok95 : okFn Try.prog 95 = true := by kernel_rfl
@[simp] theorem Try.ok96 : okFn Try.prog 96 = true := by kernel_rfl
@[simp] theorem Try.ok104 : okFn Try.prog 104 = true := by kernel_rfl
@[simp] theorem Try.ok105 : okFn Try.prog 105 = true := by kernel_rfl
@[simp] theorem Try.ok106 : okFn Try.prog 106 = true := by kernel_rfl
@[simp] theorem Try.ok107 : okFn Try.prog 107 = true := by kernel_rfl
@[simp] theorem Try.ok108 : okFn Try.prog 108 = true := by kernel_rfl
@[simp] theorem Try.ok109 : okFn Try.prog 109 = true := by kernel_rfl
@[simp] theorem Try.ok110 : okFn Try.prog 110 = true := by kernel_rfl
@[simp] theorem Try.ok111 : okFn Try.prog 111 = true := by kernel_rfl
@[simp] theorem Try.ok112 : okFn Try.prog 112 = true := by kernel_rfl
@[simp] theorem Try.ok129 : okFn Try.prog 129 = true := by kernel_rfl
@[simp] theorem Try.ok136 : okFn Try.prog 136 = true := by kernel_rfl
@[simp] theorem Try.ok138 : okFn Try.prog 138 = true := by kernel_rfl
end Go.Proofs
