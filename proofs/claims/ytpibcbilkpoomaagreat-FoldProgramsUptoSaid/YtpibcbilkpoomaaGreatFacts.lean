import Derived.KernelRfl
import Derived.Test.YtpibcbilkpoomaaGreatProg
import Derived.Test.YtpibcbilkpoomaaGreatm7
set_option linter.all false
namespace Go.Proofs
open Go.Mu
@[simp] theorem Tryz.ud2:Zpc Tryz.prog 2=true:=by kernel_rfl
@[simp] theorem Tryz.ko2:kOf Tryz.prog 2=some .i64:=by kernel_rfl
@[simp] theorem Tryz.sz3:Yt Tryz.prog 3=some 1:=by kernel_rfl
@[simp] theorem Tryz.ag3:Y4 Tryz.prog 3=some false:=by kernel_rfl
@[simp] theorem Tryz.ud3:Zpc Tryz.prog 3=true:=by kernel_rfl
@[simp] theorem Tryz.ko3:kOf Tryz.prog 3=some .i64:=by kernel_rfl
@[simp] theorem Tryz.sz4:Yt Tryz.prog 4=some 1:=by kernel_rfl
@[simp] theorem Tryz.ag4:Y4 Tryz.prog 4=some false:=by kernel_rfl
@[simp] theorem Tryz.sz5:Yt Tryz.prog 5=some 1:=by kernel_rfl
@[simp] theorem Tryz.ag5:Y4 Tryz.prog 5=some false:=by kernel_rfl
@[simp] theorem Tryz.sz9:Yt Tryz.prog 9=some 1:=by kernel_rfl
@[simp] theorem Tryz.ag9:Y4 Tryz.prog 9=some false:=by kernel_rfl
@[simp] theorem Tryz.lk9:ZaY Tryz.prog 9=2:=by kernel_rfl
@[simp] theorem Tryz.iv9 (x i:AV) (k:AV→Prop) (w:ZQ k):Zf4 Tryz.prog 9 x i k w=Z8 (ZgJ x) (fun s=>Z8 (Xe i) (fun n=>JQ (0≤n) (Z8 (s.data.toList[n.toNat]?) (fun b=>k (.v (.int .u8 b.toNat))) (Z5 _)) (Z5 _)) (Z5 _)) (Z5 _):=Zmk Tryz.lk9 x i k w
@[simp] theorem Tryz.sz22:Yt Tryz.prog 22=some 1:=by kernel_rfl
@[simp] theorem Tryz.ag22:Y4 Tryz.prog 22=some false:=by kernel_rfl
@[simp] theorem Tryz.el22:ZaG Tryz.prog 22=some 96:=by kernel_rfl
@[simp] theorem Tryz.lk22:ZaY Tryz.prog 22=1:=by kernel_rfl
@[simp] theorem Tryz.ix22 (H:List Ze) (x i:AV) (k:AV→Prop) (w:ZQ k):JK Tryz.prog H 22 x i k w=Z8 (Yt Tryz.prog 96) (fun sz=>Z8 (Xe i) (fun n=>Zb8 H sz x n k (Z5 _)) (Z5 _)) (Z5 _):=Jo Tryz.el22 H x i k w
@[simp] theorem Tryz.sl22:Xg Tryz.prog 22=some (96,4,[.string ByteArray.empty,.int .i64 0,.int .i64 0,.bool false],40):=by kernel_rfl
@[simp] theorem Tryz.sz23:Yt Tryz.prog 23=some 1:=by kernel_rfl
@[simp] theorem Tryz.ag23:Y4 Tryz.prog 23=some false:=by kernel_rfl
@[simp] theorem Tryz.el23:ZaG Tryz.prog 23=some 56:=by kernel_rfl
@[simp] theorem Tryz.lk23:ZaY Tryz.prog 23=1:=by kernel_rfl
@[simp] theorem Tryz.ix23 (H:List Ze) (x i:AV) (k:AV→Prop) (w:ZQ k):JK Tryz.prog H 23 x i k w=Z8 (Yt Tryz.prog 56) (fun sz=>Z8 (Xe i) (fun n=>Zb8 H sz x n k (Z5 _)) (Z5 _)) (Z5 _):=Jo Tryz.el23 H x i k w
@[simp] theorem Tryz.sl23:Xg Tryz.prog 23=some (56,5,[.string ByteArray.empty,.slice none 0 0,.slice none 0 0,.slice none 0 0,.slice none 0 0],112):=by kernel_rfl
@[simp] theorem Tryz.sz25:Yt Tryz.prog 25=some 2:=by kernel_rfl
@[simp] theorem Tryz.ag25:Y4 Tryz.prog 25=some true:=by kernel_rfl
@[simp] theorem Tryz.ze25:Jq Tryz.prog 25=some (.agg #[.slice none 0 0,.slice none 0 0]):=by kernel_rfl
@[simp] theorem Tryz.fl25_0:Y5 Tryz.prog 25 0=some (0,1,false):=by kernel_rfl
@[simp] theorem Tryz.fl25_1:Y5 Tryz.prog 25 1=some (1,1,false):=by kernel_rfl
@[simp] theorem Tryz.bl25:Zbr Tryz.prog 25=some ([.slice none 0 0,.slice none 0 0],[(0,1),(1,1)]):=by kernel_rfl
@[simp] theorem Tryz.el26:ZaG Tryz.prog 26=some 48:=by kernel_rfl
@[simp] theorem Tryz.lk26:ZaY Tryz.prog 26=1:=by kernel_rfl
@[simp] theorem Tryz.ix26 (H:List Ze) (x i:AV) (k:AV→Prop) (w:ZQ k):JK Tryz.prog H 26 x i k w=Z8 (Yt Tryz.prog 48) (fun sz=>Z8 (Xe i) (fun n=>Zb8 H sz x n k (Z5 _)) (Z5 _)) (Z5 _):=Jo Tryz.el26 H x i k w
@[simp] theorem Tryz.sl26:Xg Tryz.prog 26=some (48,1,[.int .u64 0],8):=by kernel_rfl
@[simp] theorem Tryz.sz34:Yt Tryz.prog 34=some 1:=by kernel_rfl
@[simp] theorem Tryz.ag34:Y4 Tryz.prog 34=some false:=by kernel_rfl
@[simp] theorem Tryz.el34:ZaG Tryz.prog 34=some 60:=by kernel_rfl
@[simp] theorem Tryz.lk34:ZaY Tryz.prog 34=1:=by kernel_rfl
@[simp] theorem Tryz.ix34 (H:List Ze) (x i:AV) (k:AV→Prop) (w:ZQ k):JK Tryz.prog H 34 x i k w=Z8 (Yt Tryz.prog 60) (fun sz=>Z8 (Xe i) (fun n=>Zb8 H sz x n k (Z5 _)) (Z5 _)) (Z5 _):=Jo Tryz.el34 H x i k w
@[simp] theorem Tryz.sl34:Xg Tryz.prog 34=some (60,1,[.slice none 0 0],24):=by kernel_rfl
@[simp] theorem Tryz.sz35:Yt Tryz.prog 35=some 1:=by kernel_rfl
@[simp] theorem Tryz.ag35:Y4 Tryz.prog 35=some false:=by kernel_rfl
@[simp] theorem Tryz.ze35:Jq Tryz.prog 35=some (.int .i64 0):=by kernel_rfl
@[simp] theorem Tryz.sz48:Yt Tryz.prog 48=some 1:=by kernel_rfl
@[simp] theorem Tryz.ag48:Y4 Tryz.prog 48=some false:=by kernel_rfl
@[simp] theorem Tryz.ze48:Jq Tryz.prog 48=some (.int .u64 0):=by kernel_rfl
@[simp] theorem Tryz.ud48:Zpc Tryz.prog 48=true:=by kernel_rfl
@[simp] theorem Tryz.ko48:kOf Tryz.prog 48=some .u64:=by kernel_rfl
@[simp] theorem Tryz.sz52:Yt Tryz.prog 52=some 1:=by kernel_rfl
@[simp] theorem Tryz.ag52:Y4 Tryz.prog 52=some false:=by kernel_rfl
@[simp] theorem Tryz.el52:ZaG Tryz.prog 52=some 82:=by kernel_rfl
@[simp] theorem Tryz.lk52:ZaY Tryz.prog 52=1:=by kernel_rfl
@[simp] theorem Tryz.ix52 (H:List Ze) (x i:AV) (k:AV→Prop) (w:ZQ k):JK Tryz.prog H 52 x i k w=Z8 (Yt Tryz.prog 82) (fun sz=>Z8 (Xe i) (fun n=>Zb8 H sz x n k (Z5 _)) (Z5 _)) (Z5 _):=Jo Tryz.el52 H x i k w
@[simp] theorem Tryz.sl52:Xg Tryz.prog 52=some (82,16,[.int .i64 0,.string ByteArray.empty,.slice none 0 0,.int .i64 0,.int .u64 0,.string ByteArray.empty,.slice none 0 0,.int .i64 0,.int .u64 0,.string ByteArray.empty,.slice none 0 0,.slice none 0 0,.int .u64 0,.int .u64 0,.slice none 0 0,.slice none 0 0],248):=by kernel_rfl
@[simp] theorem Tryz.sz53:Yt Tryz.prog 53=some 1:=by kernel_rfl
@[simp] theorem Tryz.ag53:Y4 Tryz.prog 53=some false:=by kernel_rfl
@[simp] theorem Tryz.el53:ZaG Tryz.prog 53=some 120:=by kernel_rfl
@[simp] theorem Tryz.lk53:ZaY Tryz.prog 53=1:=by kernel_rfl
@[simp] theorem Tryz.ix53 (H:List Ze) (x i:AV) (k:AV→Prop) (w:ZQ k):JK Tryz.prog H 53 x i k w=Z8 (Yt Tryz.prog 120) (fun sz=>Z8 (Xe i) (fun n=>Zb8 H sz x n k (Z5 _)) (Z5 _)) (Z5 _):=Jo Tryz.el53 H x i k w
@[simp] theorem Tryz.sl53:Xg Tryz.prog 53=some (120,4,[.string ByteArray.empty,.int .i64 0,.int .i64 0,.bool false],40):=by kernel_rfl
@[simp] theorem Tryz.sz54:Yt Tryz.prog 54=some 1:=by kernel_rfl
@[simp] theorem Tryz.ag54:Y4 Tryz.prog 54=some false:=by kernel_rfl
@[simp] theorem Tryz.el54:ZaG Tryz.prog 54=some 9:=by kernel_rfl
@[simp] theorem Tryz.lk54:ZaY Tryz.prog 54=1:=by kernel_rfl
@[simp] theorem Tryz.ix54 (H:List Ze) (x i:AV) (k:AV→Prop) (w:ZQ k):JK Tryz.prog H 54 x i k w=Z8 (Yt Tryz.prog 9) (fun sz=>Z8 (Xe i) (fun n=>Zb8 H sz x n k (Z5 _)) (Z5 _)) (Z5 _):=Jo Tryz.el54 H x i k w
@[simp] theorem Tryz.sl54:Xg Tryz.prog 54=some (9,1,[.string ByteArray.empty],16):=by kernel_rfl
@[simp] theorem Tryz.sz56:Yt Tryz.prog 56=some 5:=by kernel_rfl
@[simp] theorem Tryz.ag56:Y4 Tryz.prog 56=some true:=by kernel_rfl
@[simp] theorem Tryz.ze56:Jq Tryz.prog 56=some (.agg #[.string ByteArray.empty,.slice none 0 0,.slice none 0 0,.slice none 0 0,.slice none 0 0]):=by kernel_rfl
@[simp] theorem Tryz.fl56_0:Y5 Tryz.prog 56 0=some (0,1,false):=by kernel_rfl
@[simp] theorem Tryz.fl56_1:Y5 Tryz.prog 56 1=some (1,1,false):=by kernel_rfl
@[simp] theorem Tryz.fl56_2:Y5 Tryz.prog 56 2=some (2,1,false):=by kernel_rfl
@[simp] theorem Tryz.fl56_3:Y5 Tryz.prog 56 3=some (3,1,false):=by kernel_rfl
@[simp] theorem Tryz.fl56_4:Y5 Tryz.prog 56 4=some (4,1,false):=by kernel_rfl
@[simp] theorem Tryz.bl56:Zbr Tryz.prog 56=some ([.string ByteArray.empty,.slice none 0 0,.slice none 0 0,.slice none 0 0,.slice none 0 0],[(0,1),(1,1),(2,1),(3,1),(4,1)]):=by kernel_rfl
@[simp] theorem Tryz.sz60:Yt Tryz.prog 60=some 1:=by kernel_rfl
@[simp] theorem Tryz.ag60:Y4 Tryz.prog 60=some false:=by kernel_rfl
@[simp] theorem Tryz.el60:ZaG Tryz.prog 60=some 90:=by kernel_rfl
@[simp] theorem Tryz.lk60:ZaY Tryz.prog 60=1:=by kernel_rfl
@[simp] theorem Tryz.ix60 (H:List Ze) (x i:AV) (k:AV→Prop) (w:ZQ k):JK Tryz.prog H 60 x i k w=Z8 (Yt Tryz.prog 90) (fun sz=>Z8 (Xe i) (fun n=>Zb8 H sz x n k (Z5 _)) (Z5 _)) (Z5 _):=Jo Tryz.el60 H x i k w
@[simp] theorem Tryz.sl60:Xg Tryz.prog 60=some (90,4,[.int .i64 0,.slice none 0 0,.bool false,.slice none 0 0],64):=by kernel_rfl
@[simp] theorem Tryz.sz70:Yt Tryz.prog 70=some 1:=by kernel_rfl
@[simp] theorem Tryz.ag70:Y4 Tryz.prog 70=some false:=by kernel_rfl
@[simp] theorem Tryz.sz71:Yt Tryz.prog 71=some 1:=by kernel_rfl
@[simp] theorem Tryz.ag71:Y4 Tryz.prog 71=some false:=by kernel_rfl
@[simp] theorem Tryz.el71:ZaG Tryz.prog 71=some 73:=by kernel_rfl
@[simp] theorem Tryz.lk71:ZaY Tryz.prog 71=1:=by kernel_rfl
@[simp] theorem Tryz.ix71 (H:List Ze) (x i:AV) (k:AV→Prop) (w:ZQ k):JK Tryz.prog H 71 x i k w=Z8 (Yt Tryz.prog 73) (fun sz=>Z8 (Xe i) (fun n=>Zb8 H sz x n k (Z5 _)) (Z5 _)) (Z5 _):=Jo Tryz.el71 H x i k w
@[simp] theorem Tryz.sl71:Xg Tryz.prog 71=some (73,4,[.int .i64 0,.int .u64 0,.string ByteArray.empty,.slice none 0 0],56):=by kernel_rfl
@[simp] theorem Tryz.sz73:Yt Tryz.prog 73=some 4:=by kernel_rfl
@[simp] theorem Tryz.ag73:Y4 Tryz.prog 73=some true:=by kernel_rfl
@[simp] theorem Tryz.ze73:Jq Tryz.prog 73=some (.agg #[.int .i64 0,.int .u64 0,.string ByteArray.empty,.slice none 0 0]):=by kernel_rfl
@[simp] theorem Tryz.fl73_0:Y5 Tryz.prog 73 0=some (0,1,false):=by kernel_rfl
@[simp] theorem Tryz.fl73_1:Y5 Tryz.prog 73 1=some (1,1,false):=by kernel_rfl
@[simp] theorem Tryz.fl73_2:Y5 Tryz.prog 73 2=some (2,1,false):=by kernel_rfl
@[simp] theorem Tryz.fl73_3:Y5 Tryz.prog 73 3=some (3,1,false):=by kernel_rfl
@[simp] theorem Tryz.bl73:Zbr Tryz.prog 73=some ([.int .i64 0,.int .u64 0,.string ByteArray.empty,.slice none 0 0],[(0,1),(1,1),(2,1),(3,1)]):=by kernel_rfl
@[simp] theorem Tryz.sz80:Yt Tryz.prog 80=some 1:=by kernel_rfl
@[simp] theorem Tryz.ag80:Y4 Tryz.prog 80=some false:=by kernel_rfl
@[simp] theorem Tryz.sz82:Yt Tryz.prog 82=some 16:=by kernel_rfl
@[simp] theorem Tryz.ag82:Y4 Tryz.prog 82=some true:=by kernel_rfl
@[simp] theorem Tryz.ze82:Jq Tryz.prog 82=some (.agg #[.int .i64 0,.string ByteArray.empty,.slice none 0 0,.int .i64 0,.int .u64 0,.string ByteArray.empty,.slice none 0 0,.int .i64 0,.int .u64 0,.string ByteArray.empty,.slice none 0 0,.slice none 0 0,.int .u64 0,.int .u64 0,.slice none 0 0,.slice none 0 0]):=by kernel_rfl
@[simp] theorem Tryz.fl82_0:Y5 Tryz.prog 82 0=some (0,1,false):=by kernel_rfl
@[simp] theorem Tryz.fl82_1:Y5 Tryz.prog 82 1=some (1,1,false):=by kernel_rfl
@[simp] theorem Tryz.fl82_2:Y5 Tryz.prog 82 2=some (2,1,false):=by kernel_rfl
@[simp] theorem Tryz.fl82_3:Y5 Tryz.prog 82 3=some (3,4,true):=by kernel_rfl
@[simp] theorem Tryz.fl82_4:Y5 Tryz.prog 82 4=some (7,4,true):=by kernel_rfl
@[simp] theorem Tryz.fl82_5:Y5 Tryz.prog 82 5=some (11,1,false):=by kernel_rfl
@[simp] theorem Tryz.fl82_6:Y5 Tryz.prog 82 6=some (12,1,false):=by kernel_rfl
@[simp] theorem Tryz.fl82_7:Y5 Tryz.prog 82 7=some (13,1,false):=by kernel_rfl
@[simp] theorem Tryz.fl82_8:Y5 Tryz.prog 82 8=some (14,1,false):=by kernel_rfl
@[simp] theorem Tryz.fl82_9:Y5 Tryz.prog 82 9=some (15,1,false):=by kernel_rfl
@[simp] theorem Tryz.bl82:Zbr Tryz.prog 82=some ([.int .i64 0,.string ByteArray.empty,.slice none 0 0,.int .i64 0,.int .u64 0,.string ByteArray.empty,.slice none 0 0,.int .i64 0,.int .u64 0,.string ByteArray.empty,.slice none 0 0,.slice none 0 0,.int .u64 0,.int .u64 0,.slice none 0 0,.slice none 0 0],[(0,1),(1,1),(2,1),(3,4),(7,4),(11,1),(12,1),(13,1),(14,1),(15,1)]):=by kernel_rfl
@[simp] theorem Tryz.sz87:Yt Tryz.prog 87=some 1:=by kernel_rfl
@[simp] theorem Tryz.ag87:Y4 Tryz.prog 87=some false:=by kernel_rfl
@[simp] theorem Tryz.sz88:Yt Tryz.prog 88=some 1:=by kernel_rfl
@[simp] theorem Tryz.ag88:Y4 Tryz.prog 88=some false:=by kernel_rfl
@[simp] theorem Tryz.lk88:ZaY Tryz.prog 88=1:=by kernel_rfl
@[simp] theorem Tryz.sz90:Yt Tryz.prog 90=some 4:=by kernel_rfl
@[simp] theorem Tryz.ag90:Y4 Tryz.prog 90=some true:=by kernel_rfl
@[simp] theorem Tryz.ze90:Jq Tryz.prog 90=some (.agg #[.int .i64 0,.slice none 0 0,.bool false,.slice none 0 0]):=by kernel_rfl
@[simp] theorem Tryz.fl90_0:Y5 Tryz.prog 90 0=some (0,1,false):=by kernel_rfl
@[simp] theorem Tryz.fl90_1:Y5 Tryz.prog 90 1=some (1,1,false):=by kernel_rfl
@[simp] theorem Tryz.fl90_2:Y5 Tryz.prog 90 2=some (2,1,false):=by kernel_rfl
@[simp] theorem Tryz.fl90_3:Y5 Tryz.prog 90 3=some (3,1,false):=by kernel_rfl
@[simp] theorem Tryz.bl90:Zbr Tryz.prog 90=some ([.int .i64 0,.slice none 0 0,.bool false,.slice none 0 0],[(0,1),(1,1),(2,1),(3,1)]):=by kernel_rfl
@[simp] theorem Tryz.sz93:Yt Tryz.prog 93=some 4:=by kernel_rfl
@[simp] theorem Tryz.ag93:Y4 Tryz.prog 93=some true:=by kernel_rfl
@[simp] theorem Tryz.ze93:Jq Tryz.prog 93=some (.agg #[.bool false,.bool false,.bool false,.bool false]):=by kernel_rfl
@[simp] theorem Tryz.fl93_0:Y5 Tryz.prog 93 0=some (0,1,false):=by kernel_rfl
@[simp] theorem Tryz.fl93_1:Y5 Tryz.prog 93 1=some (1,1,false):=by kernel_rfl
@[simp] theorem Tryz.fl93_2:Y5 Tryz.prog 93 2=some (2,1,false):=by kernel_rfl
@[simp] theorem Tryz.fl93_3:Y5 Tryz.prog 93 3=some (3,1,false):=by kernel_rfl
@[simp] theorem Tryz.bl93:Zbr Tryz.prog 93=some ([.bool false,.bool false,.bool false,.bool false],[(0,1),(1,1),(2,1),(3,1)]):=by kernel_rfl
@[simp] theorem Tryz.sz96:Yt Tryz.prog 96=some 4:=by kernel_rfl
@[simp] theorem Tryz.ag96:Y4 Tryz.prog 96=some true:=by kernel_rfl
@[simp] theorem Tryz.ze96:Jq Tryz.prog 96=some (.agg #[.string ByteArray.empty,.int .i64 0,.int .i64 0,.bool false]):=by kernel_rfl
@[simp] theorem Tryz.nq96 (x0 y0:ByteArray) (x1 y1:Int) (x2 y2:Int) (x3 y3:Bool):Zgk Tryz.prog .neq 96 (.agg [.v (.string x0),.v (.int .i64 x1),.v (.int .i64 x2),.v (.bool x3)]) (.agg [.v (.string y0),.v (.int .i64 y1),.v (.int .i64 y2),.v (.bool y3)])=some (.v (.bool (!((x0.toList==y0.toList)&&((x1==y1)&&((x2==y2)&&((x3==y3)&&true))))))):=by kernel_rfl
@[simp] theorem Tryz.fl96_0:Y5 Tryz.prog 96 0=some (0,1,false):=by kernel_rfl
@[simp] theorem Tryz.fl96_1:Y5 Tryz.prog 96 1=some (1,1,false):=by kernel_rfl
@[simp] theorem Tryz.fl96_2:Y5 Tryz.prog 96 2=some (2,1,false):=by kernel_rfl
@[simp] theorem Tryz.sz107:Yt Tryz.prog 107=some 1:=by kernel_rfl
@[simp] theorem Tryz.ag107:Y4 Tryz.prog 107=some false:=by kernel_rfl
@[simp] theorem Tryz.ze107:Jq Tryz.prog 107=some (.map none):=by kernel_rfl
@[simp] theorem Tryz.mp107:Xu Tryz.prog 107=some (.string,.agg #[.bool false]):=by kernel_rfl
@[simp] theorem Tryz.mt107:Zgb Tryz.prog 107=true:=by kernel_rfl
@[simp] theorem Tryz.sz108:Yt Tryz.prog 108=some 1:=by kernel_rfl
@[simp] theorem Tryz.ag108:Y4 Tryz.prog 108=some false:=by kernel_rfl
@[simp] theorem Tryz.ze108:Jq Tryz.prog 108=some (.nilFunc):=by kernel_rfl
@[simp] theorem Tryz.bl109:Zbr Tryz.prog 109=some ([.bool false],[(0,1)]):=by kernel_rfl
@[simp] theorem Tryz.el117:ZaG Tryz.prog 117=some 122:=by kernel_rfl
@[simp] theorem Tryz.lk117:ZaY Tryz.prog 117=1:=by kernel_rfl
@[simp] theorem Tryz.ix117 (H:List Ze) (x i:AV) (k:AV→Prop) (w:ZQ k):JK Tryz.prog H 117 x i k w=Z8 (Yt Tryz.prog 122) (fun sz=>Z8 (Xe i) (fun n=>Zb8 H sz x n k (Z5 _)) (Z5 _)) (Z5 _):=Jo Tryz.el117 H x i k w
@[simp] theorem Tryz.sl117:Xg Tryz.prog 117=some (122,2,[.string ByteArray.empty,.int .u64 0],24):=by kernel_rfl
@[simp] theorem Tryz.sz118:Yt Tryz.prog 118=some 1:=by kernel_rfl
@[simp] theorem Tryz.ag118:Y4 Tryz.prog 118=some false:=by kernel_rfl
@[simp] theorem Tryz.sz120:Yt Tryz.prog 120=some 4:=by kernel_rfl
@[simp] theorem Tryz.ag120:Y4 Tryz.prog 120=some true:=by kernel_rfl
@[simp] theorem Tryz.ze120:Jq Tryz.prog 120=some (.agg #[.string ByteArray.empty,.int .i64 0,.int .i64 0,.bool false]):=by kernel_rfl
@[simp] theorem Tryz.nq120 (x0 y0:ByteArray) (x1 y1:Int) (x2 y2:Int) (x3 y3:Bool):Zgk Tryz.prog .neq 120 (.agg [.v (.string x0),.v (.int .i64 x1),.v (.int .i64 x2),.v (.bool x3)]) (.agg [.v (.string y0),.v (.int .i64 y1),.v (.int .i64 y2),.v (.bool y3)])=some (.v (.bool (!((x0.toList==y0.toList)&&((x1==y1)&&((x2==y2)&&((x3==y3)&&true))))))):=by kernel_rfl
@[simp] theorem Tryz.fl120_0:Y5 Tryz.prog 120 0=some (0,1,false):=by kernel_rfl
@[simp] theorem Tryz.fl120_1:Y5 Tryz.prog 120 1=some (1,1,false):=by kernel_rfl
@[simp] theorem Tryz.fl120_2:Y5 Tryz.prog 120 2=some (2,1,false):=by kernel_rfl
@[simp] theorem Tryz.fl120_3:Y5 Tryz.prog 120 3=some (3,1,false):=by kernel_rfl
@[simp] theorem Tryz.bl120:Zbr Tryz.prog 120=some ([.string ByteArray.empty,.int .i64 0,.int .i64 0,.bool false],[(0,1),(1,1),(2,1),(3,1)]):=by kernel_rfl
@[simp] theorem Tryz.sz122:Yt Tryz.prog 122=some 2:=by kernel_rfl
@[simp] theorem Tryz.ag122:Y4 Tryz.prog 122=some true:=by kernel_rfl
@[simp] theorem Tryz.fl122_0:Y5 Tryz.prog 122 0=some (0,1,false):=by kernel_rfl
@[simp] theorem Tryz.fl122_1:Y5 Tryz.prog 122 1=some (1,1,false):=by kernel_rfl
@[simp] theorem Tryz.bl122:Zbr Tryz.prog 122=some ([.string ByteArray.empty,.int .u64 0],[(0,1),(1,1)]):=by kernel_rfl
@[simp] theorem Tryz.sz129:Yt Tryz.prog 129=some 1:=by kernel_rfl
@[simp] theorem Tryz.ag129:Y4 Tryz.prog 129=some false:=by kernel_rfl
@[simp] theorem Tryz.ze129:Jq Tryz.prog 129=some (.map none):=by kernel_rfl
@[simp] theorem Tryz.mp129:Xu Tryz.prog 129=some (.string,.int .u64 0):=by kernel_rfl
@[simp] theorem Tryz.mp181:Xu Tryz.prog 181=some (.int .i64,.nilFunc):=by kernel_rfl
@[simp] theorem Tryz.sz189:Yt Tryz.prog 189=some 1:=by kernel_rfl
@[simp] theorem Tryz.ag189:Y4 Tryz.prog 189=some false:=by kernel_rfl
@[simp] theorem Tryz.mp189:Xu Tryz.prog 189=some (.string,.agg #[.string ByteArray.empty,.int .i64 0,.int .i64 0,.bool false]):=by kernel_rfl
@[simp] theorem Tryz.sz190:Yt Tryz.prog 190=some 1:=by kernel_rfl
@[simp] theorem Tryz.ag190:Y4 Tryz.prog 190=some false:=by kernel_rfl
@[simp] theorem Tryz.mp190:Xu Tryz.prog 190=some (.string,.agg #[.bool false]):=by kernel_rfl
@[simp] theorem Tryz.fl192_0:Y5 Tryz.prog 192 0=some (0,2,true):=by kernel_rfl
@[simp] theorem Tryz.fl192_1:Y5 Tryz.prog 192 1=some (2,1,false):=by kernel_rfl
@[simp] theorem Tryz.fl192_2:Y5 Tryz.prog 192 2=some (3,1,false):=by kernel_rfl
@[simp] theorem Tryz.fl192_3:Y5 Tryz.prog 192 3=some (4,1,false):=by kernel_rfl
@[simp] theorem Tryz.fl192_4:Y5 Tryz.prog 192 4=some (5,1,false):=by kernel_rfl
@[simp] theorem Tryz.fl192_5:Y5 Tryz.prog 192 5=some (6,1,false):=by kernel_rfl
@[simp] theorem Tryz.bl192:Zbr Tryz.prog 192=some ([.slice none 0 0,.slice none 0 0,.int .i64 0,.map none,.map none,.slice none 0 0,.slice none 0 0],[(0,2),(2,1),(3,1),(4,1),(5,1),(6,1)]):=by kernel_rfl
@[simp] theorem Tryz.fl193_0:Y5 Tryz.prog 193 0=some (0,1,false):=by kernel_rfl
@[simp] theorem Tryz.bl193:Zbr Tryz.prog 193=some ([.bool false],[(0,1)]):=by kernel_rfl
@[simp] theorem Tryz.ko222:kOf Tryz.prog 222=some .u64:=by kernel_rfl
@[simp] theorem Tryz.sz226:Yt Tryz.prog 226=some 1:=by kernel_rfl
@[simp] theorem Tryz.ag226:Y4 Tryz.prog 226=some false:=by kernel_rfl
@[simp] theorem Tryz.sz227:Yt Tryz.prog 227=some 1:=by kernel_rfl
@[simp] theorem Tryz.ag227:Y4 Tryz.prog 227=some false:=by kernel_rfl
@[simp] theorem Tryz.ze227:Jq Tryz.prog 227=some (.nilFunc):=by kernel_rfl
@[simp] theorem Tryz.sz228:Yt Tryz.prog 228=some 1:=by kernel_rfl
@[simp] theorem Tryz.ag228:Y4 Tryz.prog 228=some false:=by kernel_rfl
@[simp] theorem Tryz.sz233:Yt Tryz.prog 233=some 1:=by kernel_rfl
@[simp] theorem Tryz.ze233:Jq Tryz.prog 233=some (.agg #[.int .i64 0]):=by kernel_rfl
@[simp] theorem Tryz.ni233:ZbY Tryz.prog 233=true:=by kernel_rfl
@[simp] theorem Tryz.fl233_0:Y5 Tryz.prog 233 0=some (0,1,false):=by kernel_rfl
@[simp] theorem Tryz.bl233:Zbr Tryz.prog 233=some ([.int .i64 0],[(0,1)]):=by kernel_rfl
@[simp] theorem Tryz.fl274_0:Y5 Tryz.prog 274 0=some (0,1,false):=by kernel_rfl
@[simp] theorem Tryz.bl274:Zbr Tryz.prog 274=some ([.int .i64 0],[(0,1)]):=by kernel_rfl
@[simp] theorem Tryz.el277:ZaG Tryz.prog 277=some 5:=by kernel_rfl
@[simp] theorem Tryz.lk277:ZaY Tryz.prog 277=1:=by kernel_rfl
@[simp] theorem Tryz.ix277 (H:List Ze) (x i:AV) (k:AV→Prop) (w:ZQ k):JK Tryz.prog H 277 x i k w=Z8 (Yt Tryz.prog 5) (fun sz=>Z8 (Xe i) (fun n=>Zb8 H sz x n k (Z5 _)) (Z5 _)) (Z5 _):=Jo Tryz.el277 H x i k w
@[simp] theorem Tryz.ko277:kOf Tryz.prog 277=none:=by kernel_rfl
@[simp] theorem Tryz.by277_9:byB Tryz.prog 9 277=true:=by kernel_rfl
@[simp] theorem Tryz.bn277_9:byS Tryz.prog 9 277=false:=by kernel_rfl
@[simp] theorem Tryz.el279:ZaG Tryz.prog 279=some 80:=by kernel_rfl
@[simp] theorem Tryz.lk279:ZaY Tryz.prog 279=1:=by kernel_rfl
@[simp] theorem Tryz.ix279 (H:List Ze) (x i:AV) (k:AV→Prop) (w:ZQ k):JK Tryz.prog H 279 x i k w=Z8 (Yt Tryz.prog 80) (fun sz=>Z8 (Xe i) (fun n=>Zb8 H sz x n k (Z5 _)) (Z5 _)) (Z5 _):=Jo Tryz.el279 H x i k w
@[simp] theorem Tryz.sl279:Xg Tryz.prog 279=some (80,1,[.int .i64 0],8):=by kernel_rfl
@[simp] theorem Tryz.ok7:ZL Tryz.prog 7=true:=by kernel_rfl
@[simp] theorem Tryz.ok8:ZL Tryz.prog 8=true:=by kernel_rfl
@[simp] theorem Tryz.ok9:ZL Tryz.prog 9=true:=by kernel_rfl
@[simp] theorem Tryz.ok11:ZL Tryz.prog 11=true:=by kernel_rfl
@[simp] theorem Tryz.ok13:ZL Tryz.prog 13=true:=by kernel_rfl
@[simp] theorem Tryz.ok17:ZL Tryz.prog 17=true:=by kernel_rfl
@[simp] theorem Tryz.ok18:ZL Tryz.prog 18=true:=by kernel_rfl
@[simp] theorem Tryz.ok19:ZL Tryz.prog 19=true:=by kernel_rfl
@[simp] theorem Tryz.ok20:ZL Tryz.prog 20=true:=by kernel_rfl
@[simp] theorem Tryz.ok21:ZL Tryz.prog 21=true:=by kernel_rfl
@[simp] theorem Tryz.ok22:ZL Tryz.prog 22=true:=by kernel_rfl
@[simp] theorem Tryz.ok23:ZL Tryz.prog 23=true:=by kernel_rfl
@[simp] theorem Tryz.ok25:ZL Tryz.prog 25=true:=by kernel_rfl
@[simp] theorem Tryz.ok26:ZL Tryz.prog 26=true:=by kernel_rfl
@[simp] theorem Tryz.ok27:ZL Tryz.prog 27=true:=by kernel_rfl
@[simp] theorem Tryz.ok28:ZL Tryz.prog 28=true:=by kernel_rfl
@[simp] theorem Tryz.ok29:ZL Tryz.prog 29=true:=by kernel_rfl
@[simp] theorem Tryz.ok30:ZL Tryz.prog 30=true:=by kernel_rfl
@[simp] theorem Tryz.ok31:ZL Tryz.prog 31=true:=by kernel_rfl
@[simp] theorem Tryz.ok32:ZL Tryz.prog 32=true:=by kernel_rfl
@[simp] theorem Tryz.ok33:ZL Tryz.prog 33=true:=by kernel_rfl
@[simp] theorem Tryz.ok34:ZL Tryz.prog 34=true:=by kernel_rfl
@[simp] theorem Tryz.ok35:ZL Tryz.prog 35=true:=by kernel_rfl
@[simp] theorem Tryz.ok36:ZL Tryz.prog 36=true:=by kernel_rfl
@[simp] theorem Tryz.ok37:ZL Tryz.prog 37=true:=by kernel_rfl
@[simp] theorem Tryz.ok38:ZL Tryz.prog 38=true:=by kernel_rfl
@[simp] theorem Tryz.ok39:ZL Tryz.prog 39=true:=by kernel_rfl
@[simp] theorem Tryz.ok40:ZL Tryz.prog 40=true:=by kernel_rfl
@[simp] theorem Tryz.ok45:ZL Tryz.prog 45=true:=by kernel_rfl
@[simp] theorem Tryz.ok46:ZL Tryz.prog 46=true:=by kernel_rfl
@[simp] theorem Tryz.ok47:ZL Tryz.prog 47=true:=by kernel_rfl
@[simp] theorem Tryz.ok48:ZL Tryz.prog 48=true:=by kernel_rfl
@[simp] theorem Tryz.ok49:ZL Tryz.prog 49=true:=by kernel_rfl
@[simp] theorem Tryz.ok50:ZL Tryz.prog 50=true:=by kernel_rfl
@[simp] theorem Tryz.ok51:ZL Tryz.prog 51=true:=by kernel_rfl
@[simp] theorem Tryz.ok52:ZL Tryz.prog 52=true:=by kernel_rfl
@[simp] theorem Tryz.ok53:ZL Tryz.prog 53=true:=by kernel_rfl
@[simp] theorem Tryz.ok54:ZL Tryz.prog 54=true:=by kernel_rfl
@[simp] theorem Tryz.ok55:ZL Tryz.prog 55=true:=by kernel_rfl
@[simp] theorem Tryz.ok56:ZL Tryz.prog 56=true:=by kernel_rfl
@[simp] theorem Tryz.ok58:ZL Tryz.prog 58=true:=by kernel_rfl
@[simp] theorem Tryz.ok59:ZL Tryz.prog 59=true:=by kernel_rfl
@[simp] theorem Tryz.ok60:ZL Tryz.prog 60=true:=by kernel_rfl
@[simp] theorem Tryz.ok61:ZL Tryz.prog 61=true:=by kernel_rfl
@[simp] theorem Tryz.ok62:ZL Tryz.prog 62=true:=by kernel_rfl
@[simp] theorem Tryz.ok63:ZL Tryz.prog 63=true:=by kernel_rfl
@[simp] theorem Tryz.ok64:ZL Tryz.prog 64=true:=by kernel_rfl
@[simp] theorem Tryz.ok65:ZL Tryz.prog 65=true:=by kernel_rfl
@[simp] theorem Tryz.ok66:ZL Tryz.prog 66=true:=by kernel_rfl
@[simp] theorem Tryz.ok67:ZL Tryz.prog 67=true:=by kernel_rfl
@[simp] theorem Tryz.ok68:ZL Tryz.prog 68=true:=by kernel_rfl
@[simp] theorem Tryz.ok69:ZL Tryz.prog 69=true:=by kernel_rfl
@[simp] theorem Tryz.ok70:ZL Tryz.prog 70=true:=by kernel_rfl
@[simp] theorem Tryz.ok71:ZL Tryz.prog 71=true:=by kernel_rfl
@[simp] theorem Tryz.ok72:ZL Tryz.prog 72=true:=by kernel_rfl
@[simp] theorem Tryz.ok73:ZL Tryz.prog 73=true:=by kernel_rfl
@[simp] theorem Tryz.ok75:ZL Tryz.prog 75=true:=by kernel_rfl
@[simp] theorem Tryz.ok76:ZL Tryz.prog 76=true:=by kernel_rfl
@[simp] theorem Tryz.ok77:ZL Tryz.prog 77=true:=by kernel_rfl
@[simp] theorem Tryz.ok88:ZL Tryz.prog 88=true:=by kernel_rfl
@[simp] theorem Tryz.ok89:ZL Tryz.prog 89=true:=by kernel_rfl
@[simp] theorem Tryz.ok91:ZL Tryz.prog 91=true:=by kernel_rfl
@[simp] theorem Tryz.ok92:ZL Tryz.prog 92=true:=by kernel_rfl
@[simp] theorem Tryz.ok93:ZL Tryz.prog 93=true:=by kernel_rfl
@[simp] theorem Tryz.ok94:ZL Tryz.prog 94=true:=by kernel_rfl
@[simp] theorem Tryz.ok95:ZL Tryz.prog 95=true:=by kernel_rfl
@[simp] theorem Tryz.ok96:ZL Tryz.prog 96=true:=by kernel_rfl
@[simp] theorem Tryz.ok97:ZL Tryz.prog 97=true:=by kernel_rfl
@[simp] theorem Tryz.ok98:ZL Tryz.prog 98=true:=by kernel_rfl
@[simp] theorem Tryz.ok99:ZL Tryz.prog 99=true:=by kernel_rfl
@[simp] theorem Tryz.ok100:ZL Tryz.prog 100=true:=by kernel_rfl
@[simp] theorem Tryz.ok101:ZL Tryz.prog 101=true:=by kernel_rfl
@[simp] theorem Tryz.ok102:ZL Tryz.prog 102=true:=by kernel_rfl
@[simp] theorem Tryz.ok103:ZL Tryz.prog 103=true:=by kernel_rfl
@[simp] theorem Tryz.ok104:ZL Tryz.prog 104=true:=by kernel_rfl
@[simp] theorem Tryz.ok105:ZL Tryz.prog 105=true:=by kernel_rfl
@[simp] theorem Tryz.ok106:ZL Tryz.prog 106=true:=by kernel_rfl
@[simp] theorem Tryz.ok107:ZL Tryz.prog 107=true:=by kernel_rfl
@[simp] theorem Tryz.ok108:ZL Tryz.prog 108=true:=by kernel_rfl
@[simp] theorem Tryz.ok109:ZL Tryz.prog 109=true:=by kernel_rfl
@[simp] theorem Tryz.ok110:ZL Tryz.prog 110=true:=by kernel_rfl
@[simp] theorem Tryz.ok111:ZL Tryz.prog 111=true:=by kernel_rfl
@[simp] theorem Tryz.ok112:ZL Tryz.prog 112=true:=by kernel_rfl
@[simp] theorem Tryz.ok113:ZL Tryz.prog 113=true:=by kernel_rfl
@[simp] theorem Tryz.ok114:ZL Tryz.prog 114=true:=by kernel_rfl
@[simp] theorem Tryz.ok116:ZL Tryz.prog 116=true:=by kernel_rfl
@[simp] theorem Tryz.ok117:ZL Tryz.prog 117=true:=by kernel_rfl
@[simp] theorem Tryz.ok138:ZL Tryz.prog 138=true:=by kernel_rfl
@[simp] theorem Tryz.ok141:ZL Tryz.prog 141=true:=by kernel_rfl
@[simp] theorem Tryz.ok142:ZL Tryz.prog 142=true:=by kernel_rfl
@[simp] theorem Tryz.ok143:ZL Tryz.prog 143=true:=by kernel_rfl
@[simp] theorem Tryz.ok144:ZL Tryz.prog 144=true:=by kernel_rfl
@[simp] theorem Tryz.ok145:ZL Tryz.prog 145=true:=by kernel_rfl
@[simp] theorem Tryz.ok162:ZL Tryz.prog 162=true:=by kernel_rfl
@[simp] theorem Tryz.ok169:ZL Tryz.prog 169=true:=by kernel_rfl
@[simp] theorem Tryz.ok170:ZL Tryz.prog 170=true:=by kernel_rfl
@[simp] theorem Tryz.ok171:ZL Tryz.prog 171=true:=by kernel_rfl
@[simp] theorem Tryz.ok173:ZL Tryz.prog 173=true:=by kernel_rfl
@[simp] theorem Tryz.ok174:ZL Tryz.prog 174=true:=by kernel_rfl
@[simp] theorem Tryz.ok175:ZL Tryz.prog 175=true:=by kernel_rfl
@[simp] theorem Tryz.ok176:ZL Tryz.prog 176=true:=by kernel_rfl
@[simp] theorem Tryz.ok177:ZL Tryz.prog 177=true:=by kernel_rfl
@[simp] theorem Tryz.ok178:ZL Tryz.prog 178=true:=by kernel_rfl
@[simp] theorem Tryz.ok179:ZL Tryz.prog 179=true:=by kernel_rfl
@[simp] theorem Tryz.ok180:ZL Tryz.prog 180=true:=by kernel_rfl
@[simp] theorem Tryz.ok181:ZL Tryz.prog 181=true:=by kernel_rfl
@[simp] theorem Tryz.ok182:ZL Tryz.prog 182=true:=by kernel_rfl
@[simp] theorem Tryz.ok183:ZL Tryz.prog 183=true:=by kernel_rfl
@[simp] theorem Tryz.ok184:ZL Tryz.prog 184=true:=by kernel_rfl
@[simp] theorem Tryz.ok185:ZL Tryz.prog 185=true:=by kernel_rfl
@[simp] theorem Tryz.ok186:ZL Tryz.prog 186=true:=by kernel_rfl
@[simp] theorem Tryz.ok193:ZL Tryz.prog 193=true:=by kernel_rfl
@[simp] theorem Tryz.ok218:ZL Tryz.prog 218=true:=by kernel_rfl
@[simp] theorem Tryz.ok219:ZL Tryz.prog 219=true:=by kernel_rfl
@[simp] theorem Tryz.ok220:ZL Tryz.prog 220=true:=by kernel_rfl
@[simp] theorem Tryz.ok221:ZL Tryz.prog 221=true:=by kernel_rfl
@[simp] theorem Tryz.ok222:ZL Tryz.prog 222=true:=by kernel_rfl
@[simp] theorem Tryz.ok223:ZL Tryz.prog 223=true:=by kernel_rfl
@[simp] theorem Tryz.ok224:ZL Tryz.prog 224=true:=by kernel_rfl
@[simp] theorem Tryz.ok225:ZL Tryz.prog 225=true:=by kernel_rfl
@[simp] theorem Tryz.ok226:ZL Tryz.prog 226=true:=by kernel_rfl
@[simp] theorem Tryz.ok227:ZL Tryz.prog 227=true:=by kernel_rfl
@[simp] theorem Tryz.ok228:ZL Tryz.prog 228=true:=by kernel_rfl
@[simp] theorem Tryz.ok229:ZL Tryz.prog 229=true:=by kernel_rfl
@[simp] theorem Tryz.ok230:ZL Tryz.prog 230=true:=by kernel_rfl
@[simp] theorem Tryz.ok231:ZL Tryz.prog 231=true:=by kernel_rfl
@[simp] theorem Tryz.ok232:ZL Tryz.prog 232=true:=by kernel_rfl
@[simp] theorem Tryz.ok233:ZL Tryz.prog 233=true:=by kernel_rfl
@[simp] theorem Tryz.ok234:ZL Tryz.prog 234=true:=by kernel_rfl
@[simp] theorem Tryz.ok235:ZL Tryz.prog 235=true:=by kernel_rfl
@[simp] theorem Tryz.ok247:ZL Tryz.prog 247=true:=by kernel_rfl
@[simp] theorem Tryz.ok248:ZL Tryz.prog 248=true:=by kernel_rfl
@[simp] theorem Tryz.ok249:ZL Tryz.prog 249=true:=by kernel_rfl
@[simp] theorem Tryz.ok250:ZL Tryz.prog 250=true:=by kernel_rfl
@[simp] theorem Tryz.ok251:ZL Tryz.prog 251=true:=by kernel_rfl
end Go.Proofs
