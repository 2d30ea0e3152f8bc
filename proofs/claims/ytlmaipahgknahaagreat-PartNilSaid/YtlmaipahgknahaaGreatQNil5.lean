/- What the claim of this folder leans on: our own texts, joined, without what it does not use. -/
import Derived.Test.YtlmaipahgknahaaGreatRows
import Derived.WalkKit
import Derived.ProofKit
import Derived.OpenShut
import Derived.RowKit3
import Derived.OrdersHeld
import Derived.Scope
import Derived.KernelRfl
import Derived.Laws.Sem
import Derived.Laws.StructEq
import Derived.Deep.AppendSrc
import Derived.Laws.BytesArg
import Derived.Laws.RangeString
import Derived.Maps.RangeRun
import Derived.Lib.ConvBytes
import Derived.Lib.SlBytesConst
import Derived.ChangeSlices
import Derived.ChangeMaps5
import Derived.ChangeSame
import Derived.Deep.Slices
import Derived.Deep.Fields
import Derived.Test.YtlmaipahgknahaaGreatProg
import Derived.WideKeyRuns
import Derived.DeepKeys3
import Derived.Laws.MakeOwn
import Derived.Sort.MapsRangeIn
import Derived.Sort.KeysCollected
import Derived.RangeFuncNested
import Derived.RangeFuncBound
import Derived.RangeFuncCalls
import Derived.RangeFuncLeaves
import Derived.RangeFuncBox
import Derived.OwnWalkIn
import Derived.TacticsInMore
import Derived.RegionIn
import Derived.LoopNIn
import Derived.LoopIn
import Derived.Maps.AppendAt
import Derived.Shelf.Abstract
import Derived.Shelf.Sort.Plain
import Derived.Shelf.Slices.In.SortNone
import Derived.Test.YtlmaipahgknahaaGreatQNil1
import Derived.Test.YtlmaipahgknahaaGreatQNil2
import Derived.Test.YtlmaipahgknahaaGreatQNil3
import Derived.Test.YtlmaipahgknahaaGreatQNil4
set_option linter.unusedVariables false
set_option linter.unusedSimpArgs false
namespace Go.Dec
def zzf (d:Option Addr) (prefix_:ByteArray) (c_0:Int) (c_1:Int):Prog :=
Ab T.a43 (Av c_0 c_1) λa0=>
AH (Option.isNone d) (
Ap 0 [Ad none,Ah 1])<|
Aj 1 (
Ao F.a147 [.string prefix_] λb2=>
B9 (not b2=false) (ld T.a43 a0) λn3 n4=>
Ak (not b2) (
Ap 1 [.bool true])<|
Ao F.a151 [Av n3 n4] λb5=>
Ag (not b5) λb6=>
Ap 1 [.bool b6]) λb7=>
Ak b7 (
Ap 0 [Ad none,Ah 2])<|
Ao F.a31 [Ad d] λb8=>
AH b8 (
Ap 0 [Ad none,Ah 9])<|
BO T.a43 a0 λn10 n11=>
Ab T.a44 (.agg #[Ad d,.string prefix_,Ah n10,Ah n11,.slice none 0 0]) λa12=>
AK F.a136 [Ax a12] λl13 n14=>
Af n14 λn15=>
Ak (n15 != 0) (
Af n15 λn16=>
Ap 0 [Ad none,Ah n16])<|
Bg 1 (
Br 2 (n15,(0,())) λn17 n18=>
Ak (decide (n18<(Al l13))) (
Bg 3 (
.ex [.adr] (c1 λa19=>0<=n18/\n18<(Al l13)/\l13.a=some a19) (u1 λa20=>
Ar T.a13 a20 (Int.toNat n18*1) λn21=>
Af n18 λn22=>
Af n21 λn23=>
Am F.a127 [Ax a12] λn24=>
Ak (decide (n23<n24)) (
Ay F.a140 [Ax a12,Ah n23,.string (ByteArray.mk #[46,108,111,103])] λs25=>
Am F.a34 [Ad d,.string s25] λn26=>
Af n26 λn27=>
Ak (n27 != 0) (
Ap 1 [Ah n27])<|
Ap 3 [Ah n27])<|
.call F.a143 [Ax a12,Ah n23] (.tup [.one .bool,.one (.int .i64)]) (u2 λb28 (n29:Int)=>
Ag b28 λb30=>
Af n29 λn31=>
Ak (n31 == 0 && not b30) (
.must (0<=AF (n22+1)/\AF (n22+1)<=(Al l13)) <|
Am F.a135 [Ax a12,.slice (z1n l13.a 1 (Int.toNat (AF (n22+1))) l13.cap) (l13.len-Int.toNat (AF (n22+1))) (l13.cap-Int.toNat (AF (n22+1)))] λn32=>
Af n32 λn33=>
Ap 1 [Ah n33])<|
Ak (n31 != 0) (
Ap 1 [Ah n31])<|
Ap 3 [Ah n31]))) λn34=>
Ap 2 [Ah n34,Ah (AF (n18+1))])<|
Ap 1 [Ah n17]) λn35=>
Ak (n35 != 0) (
Af n35 λn36=>
Ap 0 [Ad none,Ah n36])<|
Ap 0 [Ax a12,Ah 0]
theorem zn1 (d:Option Addr) (prefix_:ByteArray) (c_0 c_1:Int):FnS (zzf d prefix_ c_0 c_1) F.a146 #[.pointer d,.string prefix_,.agg #[.int .i64 c_0,.int .i64 c_1]]:=dV ⟨[],[(1,[(10,.one (.int .i64))]),(2,[(10,.one (.int .i64))])],[(3,[(17,.one .bool)])],[(1,[(10,.one (.int .i64)),(44,.one (.int .i64))])]⟩ Go.Proofs.Tryz.func41 (by kernel_rfl)
def zyx (l:Option Addr):Prog :=
Ak (Option.isNone l) (
Ap 0 [.slice none 0 0])<|
Am F.a126 [Ad l] λn0=>
AK F.a128 [Ad l,Ah n0,Ah 1099511627776] λl1 n2=>
Af n2 λn3=>
Ap 0 [l1.v]
theorem zmj (l:Option Addr):FnS (zyx l) F.a124 #[.pointer l]:=dV ⟨[],[],[],[]⟩ Go.Proofs.Tryz.func46 (by kernel_rfl)
def zyk (pid epoch:Int) (commit:Bool) (time:Int):Prog :=
AC T.a0 λa0=>
AC T.a0 λa1=>
AD T.a0 a1 (.agg #[Ah 0,Ah pid,Ah epoch,Ah 0,Ah 3,Ah time,.slice none 0 0])<|
Az 1 (
Ak commit (
AT T.a12 a1 4 (Ah 2)<|
Ap 1 [])<|
Ap 1 [])<|
Ac T.a0 a1 λn2 n3 n4 n5 n6 n7 l8=>
AD T.a0 a0 (Aa n2 n3 n4 n5 n6 n7 l8)<|
Ac T.a0 a0 λn9 n10 n11 n12 n13 n14 l15=>
Ap 0 [Aa n9 n10 n11 n12 n13 n14 l15]
theorem zm6 (pid epoch:Int) (commit:Bool) (time:Int):FnS (zyk pid epoch commit time) F.a111 #[.int .i64 pid,.int .i64 epoch,.bool commit,.int .i64 time]:=dV ⟨[(134217742,[])],[],[],[]⟩ Go.Proofs.Tryz.func49 (by kernel_rfl)
def zz0 (l:Option Addr) (offset:Int) (most:Int):Prog :=
Ab T.a28 (Ad l) λa0=>
Ab T.a13 (Ah offset) λa1=>
Ab T.a12 (Ah most) λa2=>
BX T.a28 a0 λp3=>
AH (Option.isNone p3) (
Ap 0 [.slice none 0 0,Ah 1])<|
BT T.a12 a2 λn5=>
AH (decide (n5<1)) (
Ap 0 [.slice none 0 0,Ah 2])<|
Aj 1 (
AL<|
.hold True (ld T.a13 a1) (sI .i64) (u1 λ(n7:Int)=>
BX T.a28 a0 λp8=>
Am F.a126 [Ad p8] λn9=>
.hold (decide (n7<n9)=false) (ld T.a13 a1) (sI .i64) (u1 λ(n10:Int)=>
.read (decide (n7<n9)=false) (ld T.a28 a0) sP (u1 λp11=>
Ak (decide (n7<n9)) (
AN<|
Ap 1 [.bool true])<|
Am F.a127 [Ad p11] λn12=>
Ag (decide (n10>n12)) λb13=>
AN<|
Ap 1 [.bool b13])))) λb14=>
Ak b14 (
Ap 0 [.slice none 0 0,Ah 8])<|
AC T.a33 λa15=>
BX T.a28 a0 λp16=>
AI p16 λa18=>
AS T.a38 a18 4 λl19=>
Am F.a215 [Ah (Al l19),.func (Fn.func 122) #[] #[Ax a0,Ax a1]] λn20=>
Af (AF (n20-1)) λn21=>
Af (if 0>n21 then 0 else n21) λn22=>
Az 1 (
AA 2 (n22,()) λn23=>
BX T.a28 a0 λp24=>
AI p24 λa26=>
AS T.a38 a26 4 λl27=>
Ak (decide (n23<(Al l27))) (
BX T.a28 a0 λp28=>
AI p28 λa30=>
AS T.a38 a30 4 λl31=>
.ex [.adr] (c1 λa32=>0<=n23/\n23<(Al l31)/\l31.a=some a32) (u1 λa33=>
AJ T.a29 a33 (Int.toNat n23*1) λp34=>
Aj 3 (
AL<|
.hold True (ld T.a28 a0) sP (u1 λp35=>
BT T.a13 a1 λn36=>
Am F.a152 [Ad p34,Ah n36] λn37=>
AN<|
Ao F.a145 [Ad p35,Ad p34,Ah n37,.func (Fn.func 125) #[] #[Ax a1,Ax a15,Ax a2]] λb38=>
Ag b38 λb39=>
AN<|
Ap 3 [.bool b39])) λb40=>
Ak (not b40) (
Ap 1 [])<|
Af (AF (n23+1)) λn41=>
Ap 2 [Ah n41]))<|
Ap 1 [])<|
BY (ld T.a33 a15) λl42=>
Ap 0 [l42.v,Ah 0]
theorem zmm (l:Option Addr) (offset most:Int):FnS (zz0 l offset most) F.a128 #[.pointer l,.int .i64 offset,.int .i64 most]:=dV ⟨[],[(1,[])],[(5,[(18,.one .bool)]),(13,[(11,.one .bool)])],[(1,[(9,.one (.int .i64))])]⟩ Go.Proofs.Tryz.func51 (by kernel_rfl)
def zyi (l:Sl):Prog :=
AQ 1 (
Bs 2 (⟨none,0,0⟩,(0,())) λl0 n1=>
Ak (decide (n1<(Al l))) (
AQ 3 (
.ex [.adr] (c1 λa2=>0<=n1/\n1<(Al l)/\l.a=some a2) (u1 λa3=>
AB T.a0 a3 (Int.toNat n1*7) λn4 n5 n6 n7 n8 n9 l10=>
AC T.a0 λa11=>
AD T.a0 a11 (Aa n4 n5 n6 n7 n8 n9 l10)<|
Ac T.a0 a11 λn12 n13 n14 n15 n16 n17 l18=>
Ao F.a117 [Aa n12 n13 n14 n15 n16 n17 l18] λb19=>
Ak b19 (
Ap 3 [l0.v])<|
AS T.a34 a11 6 λl20=>
AQ 4 (
Bs 5 ({ a:=l0.a,len:=l0.len,cap:=l0.cap },(0,())) λl21 n22=>
Ak (decide (n22<(Al l20))) (
.ex [.adr] (c1 λa23=>0<=n22/\n22<(Al l20)/\l20.a=some a23) (u1 λa24=>
Bw T.a2 a24 (Int.toNat n22*4) λs25 s26 b27 n28=>
AC T.a2 λa29=>
Af n22 λn30=>
AD T.a2 a29 (Bx s25 s26 b27 n28)<|
Ar T.a13 a11 0 λn31=>
BZ T.a2 a29 λs32 s33 b34 n35=>
AR (Instr.buildSlice T.a39 1 #[(0,.agg #[Ah (AF (n31+n30)),.string s32,.string s33,.bool b34,Ah n35])]) λl36=>
AR (app T.a39 T.a39 T.a39 l21.v l36.v) λl37=>
Ap 5 [l37.v,Ah (AF (n22+1))]))<|
Ap 4 [l21.v]) λl38=>
Ap 3 [l38.v])) λl39=>
Ap 2 [l39.v,Ah (AF (n1+1))])<|
Ap 1 [l0.v]) λl40=>
Ap 0 [l40.v]
theorem zm4 (l:Sl):FnS (zyi l) F.a109 #[.slice l.a l.len l.cap]:=dV ⟨[],[(0,[(3,.one .slc)]),(1,[(3,.one .slc)]),(2,[(3,.one .slc)])],[],[(0,[(3,.one .slc),(10,.one (.int .i64))]),(2,[(3,.one .slc),(19,.one (.int .i64))])]⟩ Go.Proofs.Tryz.func53 (by kernel_rfl)
def zyl (b_0 b_1 b_2 b_3 b_4 b_5:Int) (b_6:Sl):Prog :=
Ab T.a0 (Aa b_0 b_1 b_2 b_3 b_4 b_5 b_6) λa0=>
Ac T.a0 a0 λn1 n2 n3 n4 n5 n6 l7=>
Am F.a114 [Aa n1 n2 n3 n4 n5 n6 l7] λn8=>
Ak (n8 != 0) (
Ap 0 [Ah 0])<|
AL<|
Bj T.a13 a0 0 λn9=>
Ac T.a0 a0 λn10 n11 n12 n13 n14 n15 l16=>
Am F.a113 [Aa n10 n11 n12 n13 n14 n15 l16] λn17=>
Af (AF (n9+n17)) λn18=>
AN<|
Ap 0 [Ah n18]
theorem zm7 (b_0 b_1 b_2 b_3 b_4 b_5:Int) (b_6:Sl):FnS (zyl b_0 b_1 b_2 b_3 b_4 b_5 b_6) F.a112 #[.agg #[.int .i64 b_0,.int .i64 b_1,.int .i64 b_2,.int .i64 b_3,.int .i64 b_4,.int .i64 b_5,.slice b_6.a b_6.len b_6.cap]]:=dV ⟨[],[],[],[]⟩ Go.Proofs.Tryz.func54 (by kernel_rfl)
def zyz (l:Option Addr):Prog :=
AO (Option.isNone l=false) l λa1=>
BA (Option.isNone l=false) T.a38 a1 4 λl2=>
Ak (Option.isNone l || (Al l2) == 0) (
Ap 0 [Ah 0])<|
AX F.a139 [Ad l] λp3=>
Am F.a153 [Ad p3] λn4=>
Af n4 λn5=>
Ap 0 [Ah n5]
theorem zml (l:Option Addr):FnS (zyz l) F.a127 #[.pointer l]:=dV ⟨[],[],[],[]⟩ Go.Proofs.Tryz.func76 (by kernel_rfl)
def z06p (l:Option Addr) (upto:Int) (bs:Sl):Prog :=
Ak (Option.isNone l) (
Ap 0 [Ah 1])<|
AI l λa1=>
AS T.a38 a1 4 λl2=>
Bg 1 (
Br 2 (0,(0,())) λn3 n4=>
Ak (decide (n4<(Al l2))) (
.ex [.adr] (c1 λa5=>0<=n4/\n4<(Al l2)/\l2.a=some a5) (u1 λa6=>
AJ T.a29 a6 (Int.toNat n4*1) λp7=>
Af n4 λn8=>
AO (decide (n8>0)=true) p7 λa10=>
As (decide (n8>0)=true) T.a13 a10 1 λn11=>
Bg 3 (
Ak (decide (n8>0) && n11 == upto) (
Af n8 λn12=>
Ap 3 [Ah n12])<|
Ap 3 [Ah n3]) λn13=>
Ap 2 [Ah n13,Ah (AF (n4+1))]))<|
Ap 1 [Ah n3]) λn14=>
Ak (n14 == 0) (
Ap 0 [Ah 2])<|
.call F.a138 [Ad l,Ah upto,bs.v] (.tup [.one .ptr,.one .slc,.one .bool]) (u3 λp15 l16 b17=>
Ag b17 λb18=>
Ak (not b18) (
Ap 0 [Ah 2])<|
.bind 1 [.one .str,.one .str] (
AL<|
AI p15 λa20=>
Ar T.a13 a20 1 λn21=>
AI p15 λa23=>
Bj T.a13 a23 1 λn24=>
Ay F.a140 [Ad l,Ah n21,.string (ByteArray.mk #[46,110,101,119])] λs25=>
AN<|
Ay F.a140 [Ad l,Ah n24,.string (ByteArray.mk #[46,108,111,103])] λs26=>
AZ s25 λs27=>
AZ s26 λs28=>
AN<|
Ap 1 [.string s27,.string s28]) (u2 λs29 s30=>
AI l λa32=>
AJ T.a24 a32 0 λp33=>
Am F.a28 [Ad p33,.string s29,l16.v] λn34=>
Af n34 λn35=>
Ak (n35 != 0) (
Af n35 λn36=>
Ap 0 [Ah n36])<|
AI l λa38=>
AJ T.a24 a38 0 λp39=>
AR (Instr.buildSlice T.a41 1 #[(0,.string s29)]) λl40=>
Am F.a37 [Ad p39,l40.v] λn41=>
Af n41 λn42=>
Ak (n42 != 0) (
Af n42 λn43=>
Ap 0 [Ah n43])<|
AI l λa45=>
AJ T.a24 a45 0 λp46=>
Am F.a35 [Ad p46,.string s29,.string s30] λn47=>
Af n47 λn48=>
Ak (n48 != 0) (
Af n48 λn49=>
Ap 0 [Ah n49])<|
AI l λa51=>
AS T.a38 a51 4 λl52=>
.must ((0:Int)<=1/\1<=n14/\n14<=((l52.cap:Nat):Int)) <|
AR (Instr.buildSlice T.a38 1 #[(0,Ad p15)]) λl53=>
AI l λa55=>
AS T.a38 a55 4 λl56=>
.must (0<=n14/\n14<=(Al l56)) <|
AR (app T.a38 T.a38 T.a38 l53.v (.slice (z1n l56.a 1 (Int.toNat n14) l56.cap) (l56.len-Int.toNat n14) (l56.cap-Int.toNat n14))) λl57=>
AI l λa59=>
AT T.a38 a59 4 l57.v<|
Az 1 (
AA 2 (0,()) λn60=>
Ak (decide (n60<((Int.toNat n14-1:Nat):Int))) (
.ex [.adr] (c1 λa61=>0<=n60/\n60<((Int.toNat n14-1:Nat):Int)/\z1n l52.a 1 1 l52.cap=some a61) (u1 λa62=>
AJ T.a29 a62 (Int.toNat n60*1) λp63=>
Bg 3 (
AL<|
AI l λa65=>
Ba T.a24 a65 0 λp66=>
AI p63 λa68=>
Ar T.a13 a68 1 λn69=>
Ay F.a140 [Ad l,Ah n69,.string (ByteArray.mk #[46,108,111,103])] λs70=>
AN<|
Am F.a34 [Ad p66,.string s70] λn71=>
Af n71 λn72=>
AN<|
Ap 3 [Ah n72]) λn73=>
Ak (n73 != 0) (
Af n73 λn74=>
Ap 0 [Ah n74])<|
Ap 2 [Ah (AF (n60+1))]))<|
Ap 1 [])<|
Ap 0 [Ah 0]))
def zyy (l:Option Addr):Prog :=
AO (Option.isNone l=false) l λa1=>
BA (Option.isNone l=false) T.a38 a1 4 λl2=>
Ak (Option.isNone l || (Al l2) == 0) (
Ap 0 [Ah 0])<|
AI l λa4=>
AS T.a38 a4 4 λl5=>
.ex [.adr] (c1 λa6=>(0:Int)<=0/\0<(Al l5)/\l5.a=some a6) (u1 λa7=>
AJ T.a29 a7 0 λp8=>
AI p8 λa10=>
Ar T.a13 a10 1 λn11=>
Af n11 λn12=>
Ap 0 [Ah n12])
theorem zmk (l:Option Addr):FnS (zyy l) F.a126 #[.pointer l]:=dV ⟨[],[],[],[]⟩ Go.Proofs.Tryz.func87 (by kernel_rfl)
def zzg (s:ByteArray):Prog :=
Ak (decide (((ByteArray.size s:Nat):Int)<1) || decide (((ByteArray.size s:Nat):Int)>8)) (
Ap 0 [.bool false])<|
AR (convert T.a47 T.a42 (.string s)) λl0=>
Az 1 (
AA 2 (0,()) λn1=>
Ak (decide (n1<(Al l0))) (
.ex [.adr] (c1 λa2=>0<=n1/\n1<(Al l0)/\l0.a=some a2) (u1 λa3=>
BE T.a48 a3 (Int.toNat n1*1) λn4=>
BF n4 λn5=>
Ak (not (decide (n5>=97) && decide (n5<=122) || decide (n5>=48) && decide (n5<=57))) (
Ap 0 [.bool false])<|
Ap 2 [Ah (AF (n1+1))]))<|
Ap 1 [])<|
Ap 0 [.bool true]
theorem zn2 (s:ByteArray):FnS (zzg s) F.a147 #[.string s]:=dV ⟨[],[(0,[])],[],[(0,[(16,.one (.int .i64))])]⟩ Go.Proofs.Tryz.func95 (by kernel_rfl)
def zzk (c_0:Int) (c_1:Int):Prog :=
Ab T.a43 (Av c_0 c_1) λa0=>
Ar T.a12 a0 0 λn1=>
As (decide (n1>=64)=true) T.a12 a0 0 λn2=>
As ((decide (n1>=64) && decide (n2<=4194304))=true) T.a12 a0 1 λn3=>
As ((decide (n1>=64) && decide (n2<=4194304) && decide (n3>=1))=true) T.a12 a0 1 λn4=>
Ag (decide (n1>=64) && decide (n2<=4194304) && decide (n3>=1) && decide (n4<=4194304)) λb5=>
Ap 0 [.bool b5]
theorem zn6 (c_0 c_1:Int):FnS (zzk c_0 c_1) F.a151 #[.agg #[.int .i64 c_0,.int .i64 c_1]]:=dV ⟨[],[],[],[]⟩ Go.Proofs.Tryz.func96 (by kernel_rfl)
def zz6 (l:Option Addr):Prog :=
AL<|
AI l λa1=>
AJ T.a24 a1 0 λp2=>
AI l λa4=>
AY T.a47 a4 1 λs5=>
.must (((ByteArray.size s5+1:Nat):Int)<=9223372036854775807) <|
An F.a32 [Ad p2,.string (s5++(ByteArray.mk #[45]))] λl6=>
AN<|
AQ 1 (
Bs 2 (⟨none,0,0⟩,(0,())) λl7 n8=>
Ak (decide (n8<(Al l6))) (
.ex [.adr] (c1 λa9=>0<=n8/\n8<(Al l6)/\l6.a=some a9) (u1 λa10=>
AY T.a47 a10 (Int.toNat n8*1) λs11=>
AZ s11 λs12=>
BM F.a134 [Ad l,.string s12,.string (ByteArray.mk #[46,108,111,103])] λn13 b14=>
Af n13 λn15=>
Ag b14 λb16=>
AQ 3 (
Ak b16 (
AR (Instr.buildSlice T.a36 1 #[(0,Ah n15)]) λl17=>
AR (app T.a36 T.a36 T.a36 l7.v l17.v) λl18=>
Ap 3 [l18.v])<|
Ap 3 [l7.v]) λl19=>
BM F.a134 [Ad l,.string s12,.string (ByteArray.mk #[46,110,101,119])] λn20 b21=>
Af n20 λn22=>
Ag b21 λb23=>
Az 3 (
Ak b23 (
AI l λa25=>
AJ T.a24 a25 0 λp26=>
Am F.a34 [Ad p26,.string s12] λn27=>
Af n27 λn28=>
Ak (n28 != 0) (
Af n28 λn29=>
Ap 0 [.slice none 0 0,Ah n29])<|
Ap 3 [])<|
Ap 3 [])<|
Ap 2 [l19.v,Ah (AF (n8+1))]))<|
Ap 1 [l7.v]) λl30=>
Ap 0 [l30.v,Ah 0]
theorem zms (l:Option Addr):FnS (zz6 l) F.a136 #[.pointer l]:=dV ⟨[(1055531162730529,[(4,.one .slc)]),(73642861106770788396,[])],[(0,[(4,.one .slc)])],[],[(0,[(4,.one .slc),(23,.one (.int .i64))])]⟩ Go.Proofs.Tryz.func98 (by kernel_rfl)
def zz9 (l:Option Addr) (base:Int) (end_:ByteArray):Prog :=
AR (Instr.makeSlice T.a42 (Ah 11) (Ah 11)) λl0=>
Az 1 (
Br 2 (base,(10,())) λn1 n2=>
Ak (decide (n2>=0)) (
.must (0<=AF (((BitVec.toNat (BitVec.ofInt 64 n1 &&& BitVec.ofInt 64 15):Nat):Int))/\AF (((BitVec.toNat (BitVec.ofInt 64 n1 &&& BitVec.ofInt 64 15):Nat):Int))<16) <|
.ex [.adr] (c1 λa3=>0<=n2/\n2<(Al l0)/\l0.a=some a3) (u1 λa4=>
AT T.a48 a4 (Int.toNat n2*1) (.int .u8 (bt (ByteArray.mk #[48,49,50,51,52,53,54,55,56,57,97,98,99,100,101,102]) (AF (((BitVec.toNat (BitVec.ofInt 64 n1 &&& BitVec.ofInt 64 15):Nat):Int)))))<|
Af (Int.fdiv n1 16) λn5=>
Af (AF (n2-1)) λn6=>
Ap 2 [Ah n5,Ah n6]))<|
Ap 1 [])<|
AL<|
AI l λa8=>
AY T.a47 a8 1 λs9=>
.must (((ByteArray.size s9+1:Nat):Int)<=9223372036854775807) <|
.read True (convert T.a42 T.a47 l0.v) sS (u1 λs10=>
.must (((ByteArray.size (s9++(ByteArray.mk #[45]))+ByteArray.size s10:Nat):Int)<=9223372036854775807) <|
.must (((ByteArray.size (s9++(ByteArray.mk #[45])++s10)+ByteArray.size end_:Nat):Int)<=9223372036854775807) <|
AZ (s9++(ByteArray.mk #[45])++s10++end_) λs11=>
AN<|
Ap 0 [.string s11])
theorem zmv (l:Option Addr) (base:Int) (end_:ByteArray):FnS (zz9 l base end_) F.a140 #[.pointer l,.int .i64 base,.string end_]:=dV ⟨[],[(0,[])],[],[(0,[(1,.one (.int .i64)),(8,.one (.int .i64))])]⟩ Go.Proofs.Tryz.func99 (by kernel_rfl)
def zzc (l:Option Addr) (base:Int):Prog :=
Ay F.a140 [Ad l,Ah base,.string (ByteArray.mk #[46,108,111,103])] λs0=>
AZ s0 λs1=>
AI l λa3=>
AJ T.a24 a3 0 λp4=>
AK F.a33 [Ad p4,.string s1] λl5 n6=>
Af n6 λn7=>
Ak (n7 != 0) (
Af n7 λn8=>
Ap 0 [.bool false,Ah n8])<|
Ca F.a44 [l5.v] λl9 n10 b11=>
Af n10 λn12=>
Ag b11 λb13=>
.bind 1 [.one (.int .i64),.one .bool] (
Ak b13 (
BM F.a149 [l9.v,Ah base] λn14 b15=>
Af n14 λn16=>
Ag b15 λb17=>
Ap 1 [Ah n16,.bool b17])<|
Ap 1 [Ah 0,.bool false]) (u2 λ(n18:Int) b19=>
Ak (not b19) (
AI l λa21=>
AJ T.a24 a21 0 λp22=>
Am F.a34 [Ad p22,.string s1] λn23=>
Af n23 λn24=>
Ap 0 [.bool false,Ah n24])<|
AX F.a144 [Ad l,Ah base,Ah n18] λp25=>
Af base λn26=>
Bg 1 (
Br 2 (n12,(n26,())) λn27 n28=>
.must (0<=n27/\n27<=(Al l5)) <|
Ca F.a44 [.slice (z1n l5.a 1 (Int.toNat n27) l5.cap) (l5.len-Int.toNat n27) (l5.cap-Int.toNat n27)] λl29 n30 b31=>
Af n30 λn32=>
Ag b31 λb33=>
Ak (not b33) (
Ap 1 [Ah n27])<|
.call F.a107 [l29.v] (.tup [.agg [.int .i64,.int .i64,.int .i64,.int .i64,.int .i64,.int .i64,.slc],.one (.int .i64)]) (u8 λ(n34 n35 n36 n37 n38 n39:Int) l40 (n41:Int)=>
AC T.a0 λa42=>
AD T.a0 a42 (Aa n34 n35 n36 n37 n38 n39 l40)<|
Af n41 λn43=>
As ((n43 != 0)=false) T.a13 a42 0 λn44=>
Ak (n43 != 0 || decide (n44<n28)) (
Ap 1 [Ah n27])<|
Ac T.a0 a42 λn45 n46 n47 n48 n49 n50 l51=>
AE F.a154 [Ad p25,Aa n45 n46 n47 n48 n49 n50 l51,Ah n32]<|
AI p25 λa53=>
Ar T.a13 a53 3 λn54=>
Af n54 λn55=>
Af (AF (n27+n32)) λn56=>
Ap 2 [Ah n56,Ah n55])) λn57=>
AE F.a142 [Ad l,Ad p25]<|
Ak (n57 == (Al l5)) (
Ap 0 [.bool true,Ah 0])<|
AI l λa59=>
AJ T.a24 a59 0 λp60=>
Am F.a29 [Ad p60,.string s1,Ah n57] λn61=>
Af n61 λn62=>
Ap 0 [.bool false,Ah n62])
theorem zmy (l:Option Addr) (base:Int):FnS (zzc l base) F.a143 #[.pointer l,.int .i64 base]:=dV ⟨[(2269814212245061674,[(12,.one (.int .i64)),(13,.one .bool)])],[(0,[(10,.one (.int .i64))])],[],[(0,[(10,.one (.int .i64)),(15,.one (.int .i64))])]⟩ Go.Proofs.Tryz.func100 (by kernel_rfl)
def zz5 (l:Option Addr) (bases:Sl):Prog :=
Az 1 (
AA 2 (0,()) λn0=>
Ak (decide (n0<(Al bases))) (
.ex [.adr] (c1 λa1=>0<=n0/\n0<(Al bases)/\bases.a=some a1) (u1 λa2=>
Ar T.a13 a2 (Int.toNat n0*1) λn3=>
Af n3 λn4=>
Bg 3 (
AL<|
AI l λa6=>
Ba T.a24 a6 0 λp7=>
Ay F.a140 [Ad l,Ah n4,.string (ByteArray.mk #[46,108,111,103])] λs8=>
AN<|
Am F.a34 [Ad p7,.string s8] λn9=>
Af n9 λn10=>
AN<|
Ap 3 [Ah n10]) λn11=>
Ak (n11 != 0) (
Af n11 λn12=>
Ap 0 [Ah n12])<|
Ap 2 [Ah (AF (n0+1))]))<|
Ap 1 [])<|
Ap 0 [Ah 0]
theorem zmr (l:Option Addr) (bases:Sl):FnS (zz5 l bases) F.a135 #[.pointer l,.slice bases.a bases.len bases.cap]:=dV ⟨[],[(0,[])],[(4,[(7,.one (.int .i64))])],[(0,[(10,.one (.int .i64))])]⟩ Go.Proofs.Tryz.func101 (by kernel_rfl)
def z04s (b:Sl):Prog :=
Ca F.a44 [b.v] λl0 n1 b2=>
Af n1 λn3=>
Ag b2 λb4=>
Ak (not b4 || n3 != (Al b)) (
Ap 0 [.slice none 0 0,.bool false])<|
Ap 0 [l0.v,.bool true]
theorem zsf (b:Sl):FnS (z04s b) F.a46 #[.slice b.a b.len b.cap]:=dV ⟨[],[],[],[]⟩ Go.Proofs.Tryz.func107 (by kernel_rfl)
def zzw (b:Sl):Prog :=
An F.a0 [b.v] λl0=>
Ab T.a50 (.agg #[l0.v,Ah 0,Ah 0]) λa1=>
Ap 0 [Ax a1]
theorem znv (b:Sl):FnS (zzw b) F.a222 #[.slice b.a b.len b.cap]:=dV ⟨[],[],[],[]⟩ Go.Proofs.Tryz.func108 (by kernel_rfl)
def z003 (r:Option Addr):Prog :=
Ao F.a231 [Ad r] λb0=>
Ak (not b0) (
Ap 0 [.int .u64 0])<|
AI r λa2=>
Bc F.a237 [BC a2 0] λn3=>
Bd n3 λn4=>
Ap 0 [.int .u64 n4]
theorem zo2 (r:Option Addr):FnS (z003 r) F.a229 #[.pointer r]:=dV ⟨[],[],[],[]⟩ Go.Proofs.Tryz.func109 (by kernel_rfl)
def z002 (r:Option Addr) (most:Int):Prog :=
Ao F.a231 [Ad r] λb0=>
Ak (not b0) (
Ap 0 [.string (ByteArray.mk #[])])<|
AI r λa2=>
Ar T.a12 (Addr.add a2 0) 1 λn3=>
Af n3 λn4=>
AI r λa6=>
Bc F.a237 [BC a6 0] λn7=>
Bd n7 λn8=>
AI r λa10=>
Ar T.a1 (Addr.add a10 0) 2 λn11=>
Ag (n11 != 0) λb12=>
Az 1 (
Ak b12 (
Ap 1 [])<|
Ag (decide (n8>IntKind.wrap .u64 (if 0>most then 0 else most))) λb13=>
Az 2 (
Ak b13 (
AI r λa15=>
AE F.a234 [BC a15 0,Ah 7]<|
Ap 2 [])<|
AI r λa17=>
Am F.a235 [BC a17 0] λn18=>
AH (decide (n8>IntKind.wrap .u64 n18)) (
AI r λa21=>
AE F.a234 [BC a21 0,Ah 6]<|
Ap 2 [])<|
AI r λa23=>
An F.a236 [BC a23 0,Ah (AF n8)] λl24=>
.read True (convert T.a42 T.a47 l24.v) sS (u1 λs25=>
AZ s25 λs26=>
Ap 0 [.string s26]))<|
Ap 1 [])<|
AI r λa28=>
AT T.a12 (Addr.add a28 0) 1 (Ah n4)<|
Ap 0 [.string (ByteArray.mk #[])]
theorem zo1 (r:Option Addr) (most:Int):FnS (z002 r most) F.a228 #[.pointer r,.int .i64 most]:=dV ⟨[(147571701062593216545,[]),(147573917678034812954,[])],[],[],[]⟩ Go.Proofs.Tryz.func110 (by kernel_rfl)
def zzy (r:Option Addr):Prog :=
Ak (Option.isNone r) (
Ap 0 [Ah 1])<|
AI r λa1=>
Am F.a235 [BC a1 0] λn2=>
Az 1 (
Ak (decide (n2>0)) (
AI r λa4=>
AE F.a234 [BC a4 0,Ah 6]<|
Ap 1 [])<|
Ap 1 [])<|
AI r λa6=>
Ar T.a1 (Addr.add a6 0) 2 λn7=>
Af n7 λn8=>
Ap 0 [Ah n8]
theorem znx (r:Option Addr):FnS (zzy r) F.a224 #[.pointer r]:=dV ⟨[(62914569,[])],[],[],[]⟩ Go.Proofs.Tryz.func111 (by kernel_rfl)
def zro (l:Option Addr) (bs:Sl):Prog :=
Ak (Option.isNone l) (
Ap 0 [Ah 0,Ah 1])<|
Ak ((Al bs) == 0) (
Ap 0 [Ah 0,Ah 3])<|
.call F.a141 [Ad l,bs.v] (.tup [.one .slc,.one .slc,.one (.int .i64)]) (u3 λl0 l1 (n2:Int)=>
Af n2 λn3=>
Ak (n3 != 0) (
Af n3 λn4=>
Ap 0 [Ah 0,Ah n4])<|
Bg 1 (
Br 2 (0,(0,())) λn5 n6=>
Ak (decide (n6<(Al l1))) (
.ex [.adr] (c1 λa7=>0<=n6/\n6<(Al l1)/\l1.a=some a7) (u1 λa8=>
AS T.a42 a8 (Int.toNat n6*1) λl9=>
Af (AF (n5+(Al l9))) λn10=>
Ap 2 [Ah n10,Ah (AF (n6+1))]))<|
Ap 1 [Ah n5]) λn11=>
AX F.a139 [Ad l] λp12=>
Ao F.a137 [Ad l,Ah n11] λb13=>
Bz 1 (
Ak (not b13) (
Am F.a133 [Ad l] λn14=>
Af n14 λn15=>
Ak (n15 != 0) (
Af n15 λn16=>
Ap 0 [Ah 0,Ah n16])<|
Am F.a127 [Ad l] λn17=>
AX F.a144 [Ad l,Ah n17,Ah 0] λp18=>
Bg 2 (
AL<|
AI l λa20=>
Ba T.a24 a20 0 λp21=>
AI p18 λa23=>
Ar T.a13 a23 1 λn24=>
AI p18 λa26=>
Bj T.a13 a26 1 λn27=>
Ay F.a140 [Ad l,Ah n24,.string (ByteArray.mk #[46,108,111,103])] λs28=>
An F.a148 [Ah n27,Ah 0] λl29=>
AR (Instr.buildSlice T.a40 1 #[(0,l29.v)]) λl30=>
AR (app T.a40 T.a40 T.a40 l30.v l1.v) λl31=>
AN<|
Am F.a28 [Ad p21,.string s28,l31.v] λn32=>
Af n32 λn33=>
AN<|
Ap 2 [Ah n33]) λn34=>
Ak (n34 != 0) (
Af n34 λn35=>
Ap 0 [Ah 0,Ah n35])<|
AE F.a142 [Ad l,Ad p18]<|
Ap 1 [Ad p18])<|
Bg 2 (
AL<|
AI l λa37=>
Ba T.a24 a37 0 λp38=>
AI p12 λa40=>
Ar T.a13 a40 1 λn41=>
Ay F.a140 [Ad l,Ah n41,.string (ByteArray.mk #[46,108,111,103])] λs42=>
AN<|
Am F.a28 [Ad p38,.string s42,l1.v] λn43=>
Af n43 λn44=>
AN<|
Ap 2 [Ah n44]) λn45=>
Ak (n45 != 0) (
Af n45 λn46=>
Ap 0 [Ah 0,Ah n46])<|
Ap 1 [Ad p12]) λp47=>
Az 1 (
AA 2 (0,()) λn48=>
Ak (decide (n48<(Al l0))) (
.ex [.adr] (c1 λa49=>0<=n48/\n48<(Al l0)/\l0.a=some a49) (u1 λa50=>
AB T.a0 a50 (Int.toNat n48*7) λn51 n52 n53 n54 n55 n56 l57=>
AC T.a0 λa58=>
Af n48 λn59=>
AD T.a0 a58 (Aa n51 n52 n53 n54 n55 n56 l57)<|
AL<|
Ac T.a0 a58 λn60 n61 n62 n63 n64 n65 l66=>
.ex [.adr] (c1 λa67=>0<=n59/\n59<(Al l1)/\l1.a=some a67) (u1 λa68=>
AS T.a42 a68 (Int.toNat n59*1) λl69=>
AE F.a154 [Ad p47,Aa n60 n61 n62 n63 n64 n65 l66,Ah (Al l69)]<|
AN<|
Ap 2 [Ah (AF (n48+1))])))<|
Ap 1 [])<|
.ex [.adr] (c1 λa70=>(0:Int)<=0/\0<(Al l0)/\l0.a=some a70) (u1 λa71=>
Ar T.a13 (Addr.add a71 0) 0 λn72=>
Af n72 λn73=>
Ap 0 [Ah n73,Ah 0]))
theorem zdh (l:Option Addr) (bs:Sl):FnS (zro l bs) F.a125 #[.pointer l,.slice bs.a bs.len bs.cap]:=dV ⟨[(2596148429267409202579229989077041,[(12,.one .ptr)])],[(0,[(9,.one (.int .i64))]),(2,[])],[(20,[(14,.one (.int .i64))]),(24,[(15,.one (.int .i64))])],[(0,[(9,.one (.int .i64)),(35,.one (.int .i64))]),(2,[(101,.one (.int .i64))])]⟩ Go.Proofs.Tryz.func118 (by kernel_rfl)
def zz3 (l:Option Addr):Prog :=
Ak (Option.isNone l) (
Ap 0 [Ah 1])<|
AX F.a139 [Ad l] λp0=>
Ak (not (Option.isNone p0)) (
Bg 1 (
AL<|
AI l λa2=>
Ba T.a24 a2 0 λp3=>
AI p0 λa5=>
Ar T.a13 a5 1 λn6=>
Ay F.a140 [Ad l,Ah n6,.string (ByteArray.mk #[46,108,111,103])] λs7=>
AR (Instr.buildSlice T.a41 1 #[(0,.string s7)]) λl8=>
AN<|
Am F.a37 [Ad p3,l8.v] λn9=>
Af n9 λn10=>
AN<|
Ap 1 [Ah n10]) λn11=>
Ap 0 [Ah n11])<|
Ap 0 [Ah 0]
theorem zmp (l:Option Addr):FnS (zz3 l) F.a133 #[.pointer l]:=dV ⟨[],[],[(5,[(2,.one (.int .i64))])],[]⟩ Go.Proofs.Tryz.func119 (by kernel_rfl)
def zyf (b_0 b_1 b_2 b_3 b_4 b_5:Int) (b_6:Sl):Prog :=
Ab T.a0 (Aa b_0 b_1 b_2 b_3 b_4 b_5 b_6) λa0=>
AC T.a0 λa1=>
AS T.a34 a0 6 λl2=>
AR (app T.a34 T.a34 T.a34 (.slice none 0 0) l2.v) λl3=>
AT T.a34 a0 6 l3.v<|
Ac T.a0 a0 λn4 n5 n6 n7 n8 n9 l10=>
AD T.a0 a1 (Aa n4 n5 n6 n7 n8 n9 l10)<|
Ac T.a0 a1 λn11 n12 n13 n14 n15 n16 l17=>
Ap 0 [Aa n11 n12 n13 n14 n15 n16 l17]
theorem zm1 (b_0 b_1 b_2 b_3 b_4 b_5:Int) (b_6:Sl):FnS (zyf b_0 b_1 b_2 b_3 b_4 b_5 b_6) F.a106 #[.agg #[.int .i64 b_0,.int .i64 b_1,.int .i64 b_2,.int .i64 b_3,.int .i64 b_4,.int .i64 b_5,.slice b_6.a b_6.len b_6.cap]]:=dV ⟨[],[],[],[]⟩ Go.Proofs.Tryz.func120 (by kernel_rfl)
def zz1 (i:Int) (fv0:Option Addr) (fv1:Option Addr):Prog :=
AL<|
BD (Instr.loadAt T.a28 (Ad fv0)) λp0=>
AI p0 λa2=>
AS T.a38 a2 4 λl3=>
.ex [.adr] (c1 λa4=>0<=i/\i<(Al l3)/\l3.a=some a4) (u1 λa5=>
AJ T.a29 a5 (Int.toNat i*1) λp6=>
AI p6 λa8=>
Ar T.a13 a8 1 λn9=>
Cb T.a13 fv1 λn10=>
Ag (decide (n9>n10)) λb11=>
AN<|
Ap 0 [.bool b11])
theorem zmn (i:Int) (fv0 fv1:Option Addr):FnS (zz1 i fv0 fv1) F.a129 #[.int .i64 i,.pointer fv0,.pointer fv1]:=dV ⟨[],[],[],[]⟩ Go.Proofs.Tryz.func122 (by kernel_rfl)
def zze (l s:Option Addr) (place:Int) (told:Value):Prog :=
AQ 1 (
AL<|
AI l λa1=>
Ba T.a24 a1 0 λp2=>
AI s λa4=>
Ar T.a13 a4 1 λn5=>
Ay F.a140 [Ad l,Ah n5,.string (ByteArray.mk #[46,108,111,103])] λs6=>
AN<|
AK F.a33 [Ad p2,.string s6] λl7 n8=>
Af n8 λn9=>
AN<|
Ap 1 [l7.v]) λl10=>
Af place λn11=>
Az 1 (
AA 2 (n11,()) λn12=>
AO (decide (n12<(Al l10))=true) s λa14=>
As (decide (n12<(Al l10))=true) T.a12 a14 5 λn15=>
Ak (decide (n12<(Al l10)) && decide (n12<n15)) (
.must (0<=n12/\n12<=(Al l10)) <|
Ca F.a44 [.slice (z1n l10.a 1 (Int.toNat n12) l10.cap) (l10.len-Int.toNat n12) (l10.cap-Int.toNat n12)] λl16 n17 b18=>
Af n17 λn19=>
Ag b18 λb20=>
Ak (not b20) (
Ap 0 [.bool true])<|
.call F.a107 [l16.v] (.tup [.agg [.int .i64,.int .i64,.int .i64,.int .i64,.int .i64,.int .i64,.slc],.one (.int .i64)]) (u8 λ(n21 n22 n23 n24 n25 n26:Int) l27 (n28:Int)=>
AC T.a0 λa29=>
AD T.a0 a29 (Aa n21 n22 n23 n24 n25 n26 l27)<|
Af n28 λn30=>
Aj 3 (
AP ((n30 != 0)=false) T.a0 a29 λn31 n32 n33 n34 n35 n36 l37=>
Ak (n30 != 0) (
Ap 3 [.bool true])<|
BI told [Aa n31 n32 n33 n34 n35 n36 l37] λb38=>
Ap 3 [.bool (not b38)]) λb39=>
Ak b39 (
Ap 0 [.bool false])<|
Af (AF (n12+n19)) λn40=>
Ap 2 [Ah n40]))<|
Ap 1 [])<|
Ap 0 [.bool true]
theorem zn0 (l s:Option Addr) (place:Int) (told:Value) {w:World} {R:List Value->World->Prop} (h:(zze l s place told).wp P (λ_=>True) w λe vs w'=>e=0/\R vs w'):Ret P F.a145 #[.pointer l,.pointer s,.int .i64 place,told] w R:=dS (n:=70) (rv:=[.tmp 8]) { cnd:=[],blk:=[(0,[])],reg:=[(1,[(9,.one .slc)]),(8,[(66,.one .bool)])],lps:=[(0,[(11,.one (.int .i64))])] } [.val (.pointer l),.val (.pointer s),.val (.int .i64 place),.any told] Go.Proofs.Tryz.func123 (by kernel_rfl) (by kernel_rfl) (by kernel_rfl) (by kernel_rfl) h
def zzl (s:Option Addr) (offset:Int):Prog :=
AI s λa1=>
AJ T.a26 a1 0 λp2=>
.call F.a51 [Ad p2,Ah offset] (.tup [.agg [.int .i64,.int .i64,.int .i64],.one .bool]) (u4 λ(n3 n4 n5:Int) b6=>
AC T.a9 λa7=>
AD T.a9 a7 (Aq n3 n4 n5)<|
AH b6 (
Ar T.a12 a7 1 λn9=>
Af n9 λn10=>
Ap 0 [Ah n10])<|
AL<|
AI s λa12=>
Ar T.a13 a12 1 λn13=>
AI s λa15=>
Ar T.a13 a15 2 λn16=>
An F.a148 [Ah n13,Ah n16] λl17=>
Af (Al l17) λn18=>
AN<|
Ap 0 [Ah n18])
theorem zn7 (s:Option Addr) (offset:Int):FnS (zzl s offset) F.a152 #[.pointer s,.int .i64 offset]:=dV ⟨[],[],[],[]⟩ Go.Proofs.Tryz.func124 (by kernel_rfl)
def zz2 (b_0 b_1 b_2 b_3 b_4 b_5:Int) (b_6:Sl) (fv0 fv1:Option Addr) (fv2:Option Addr):Prog :=
Ab T.a0 (Aa b_0 b_1 b_2 b_3 b_4 b_5 b_6) λa0=>
Ac T.a0 a0 λn1 n2 n3 n4 n5 n6 l7=>
Cb T.a13 fv0 λn8=>
.call F.a110 [Aa n1 n2 n3 n4 n5 n6 l7,Ah n8] (.tup [.agg [.int .i64,.int .i64,.int .i64,.int .i64,.int .i64,.int .i64,.slc],.one .bool]) (u8 λ(n9 n10 n11 n12 n13 n14:Int) l15 b16=>
AC T.a0 λa17=>
AD T.a0 a17 (Aa n9 n10 n11 n12 n13 n14 l15)<|
Ag b16 λb18=>
Az 1 (
Ak b18 (
BY (Instr.loadAt T.a33 (Ad fv1)) λl19=>
Ac T.a0 a17 λn20 n21 n22 n23 n24 n25 l26=>
AR (Instr.buildSlice T.a33 1 #[(0,Aa n20 n21 n22 n23 n24 n25 l26)]) λl27=>
AR (app T.a33 T.a33 T.a33 l19.v l27.v) λl28=>
B5 (Instr.storeAt T.a33 (Ad fv1) l28.v)<|
Ap 1 [])<|
Ap 1 [])<|
BY (Instr.loadAt T.a33 (Ad fv1)) λl29=>
Cb T.a12 fv2 λn30=>
Ag (decide ((Al l29)<n30)) λb31=>
Ap 0 [.bool b31])
theorem zmo (b_0 b_1 b_2 b_3 b_4 b_5:Int) (b_6:Sl) (fv0 fv1 fv2:Option Addr):FnS (zz2 b_0 b_1 b_2 b_3 b_4 b_5 b_6 fv0 fv1 fv2) F.a130 #[.agg #[.int .i64 b_0,.int .i64 b_1,.int .i64 b_2,.int .i64 b_3,.int .i64 b_4,.int .i64 b_5,.slice b_6.a b_6.len b_6.cap],.pointer fv0,.pointer fv1,.pointer fv2]:=dV ⟨[(2013265934,[])],[],[],[]⟩ Go.Proofs.Tryz.func125 (by kernel_rfl)
def zyj (b_0 b_1 b_2 b_3 b_4 b_5:Int) (b_6:Sl) (offset:Int):Prog :=
Ab T.a0 (Aa b_0 b_1 b_2 b_3 b_4 b_5 b_6) λa0=>
AC T.a0 λa1=>
Aj 1 (
Ac T.a0 a0 λn2 n3 n4 n5 n6 n7 l8=>
Am F.a114 [Aa n2 n3 n4 n5 n6 n7 l8] λn9=>
AP ((n9 != 0)=false) T.a0 a0 λn10 n11 n12 n13 n14 n15 l16=>
Ak (n9 != 0) (
Ap 1 [.bool true])<|
Am F.a112 [Aa n10 n11 n12 n13 n14 n15 l16] λn17=>
Ag (decide (offset>=n17)) λb18=>
Ap 1 [.bool b18]) λb19=>
Ak b19 (
AD T.a0 a1 (.agg #[Ah 0,Ah 0,Ah 0,Ah 0,Ah 0,Ah 0,.slice none 0 0])<|
Ac T.a0 a1 λn20 n21 n22 n23 n24 n25 l26=>
Ap 0 [Aa n20 n21 n22 n23 n24 n25 l26,.bool false])<|
Ac T.a0 a0 λn27 n28 n29 n30 n31 n32 l33=>
Ao F.a117 [Aa n27 n28 n29 n30 n31 n32 l33] λb34=>
As (b34=false) T.a13 a0 0 λn35=>
AH (b34 || decide (offset<=n35)) (
Ac T.a0 a0 λn37 n38 n39 n40 n41 n42 l43=>
AG F.a106 [Aa n37 n38 n39 n40 n41 n42 l43] λn44 n45 n46 n47 n48 n49 l50=>
AD T.a0 a1 (Aa n44 n45 n46 n47 n48 n49 l50)<|
Ac T.a0 a1 λn51 n52 n53 n54 n55 n56 l57=>
Ap 0 [Aa n51 n52 n53 n54 n55 n56 l57,.bool true])<|
Ac T.a0 a0 λn58 n59 n60 n61 n62 n63 l64=>
Ar T.a13 a0 0 λn65=>
AS T.a34 a0 6 λl66=>
AG F.a119 [Aa n58 n59 n60 n61 n62 n63 l64,Ah (AF (offset-n65)),Ah (Al l66)] λn67 n68 n69 n70 n71 n72 l73=>
AD T.a0 a1 (Aa n67 n68 n69 n70 n71 n72 l73)<|
Ac T.a0 a1 λn74 n75 n76 n77 n78 n79 l80=>
Ap 0 [Aa n74 n75 n76 n77 n78 n79 l80,.bool true]
theorem zm5 (b_0 b_1 b_2 b_3 b_4 b_5:Int) (b_6:Sl) (offset:Int):FnS (zyj b_0 b_1 b_2 b_3 b_4 b_5 b_6 offset) F.a110 #[.agg #[.int .i64 b_0,.int .i64 b_1,.int .i64 b_2,.int .i64 b_3,.int .i64 b_4,.int .i64 b_5,.slice b_6.a b_6.len b_6.cap],.int .i64 offset]:=dV ⟨[],[],[(1,[(6,.one .bool)])],[]⟩ Go.Proofs.Tryz.func126 (by kernel_rfl)
def zyq (b_0 b_1 b_2 b_3 b_4 b_5:Int) (b_6:Sl):Prog :=
Ab T.a0 (Aa b_0 b_1 b_2 b_3 b_4 b_5 b_6) λa0=>
Ar T.a12 a0 4 λn1=>
As ((n1 == 2)=false) T.a12 a0 4 λn2=>
Ag (n1 == 2 || n2 == 3) λb3=>
Ap 0 [.bool b3]
theorem zmc (b_0 b_1 b_2 b_3 b_4 b_5:Int) (b_6:Sl):FnS (zyq b_0 b_1 b_2 b_3 b_4 b_5 b_6) F.a117 #[.agg #[.int .i64 b_0,.int .i64 b_1,.int .i64 b_2,.int .i64 b_3,.int .i64 b_4,.int .i64 b_5,.slice b_6.a b_6.len b_6.cap]]:=dV ⟨[],[],[],[]⟩ Go.Proofs.Tryz.func128 (by kernel_rfl)
def zyn (b_0 b_1 b_2 b_3 b_4 b_5:Int) (b_6:Sl):Prog :=
Ab T.a0 (Aa b_0 b_1 b_2 b_3 b_4 b_5 b_6) λa0=>
Aj 1 (
Ac T.a0 a0 λn1 n2 n3 n4 n5 n6 l7=>
Ao F.a118 [Aa n1 n2 n3 n4 n5 n6 l7] λb8=>
AP (not b8=false) T.a0 a0 λn9 n10 n11 n12 n13 n14 l15=>
Ak (not b8) (
Ap 1 [.bool true])<|
Ao F.a116 [Aa n9 n10 n11 n12 n13 n14 l15] λb16=>
Ag (not b16) λb17=>
Ap 1 [.bool b17]) λb18=>
Ak b18 (
Ap 0 [Ah 2])<|
AS T.a34 a0 6 λl19=>
AH (decide ((Al l19)>64)) (
Ap 0 [Ah 7])<|
AS T.a34 a0 6 λl21=>
Az 1 (
AA 2 (0,()) λn22=>
Ak (decide (n22<(Al l21))) (
.ex [.adr] (c1 λa23=>0<=n22/\n22<(Al l21)/\l21.a=some a23) (u1 λa24=>
Bw T.a2 a24 (Int.toNat n22*4) λs25 s26 b27 n28=>
AC T.a2 λa29=>
AD T.a2 a29 (Bx s25 s26 b27 n28)<|
BZ T.a2 a29 λs30 s31 b32 n33=>
Am F.a121 [Bx s30 s31 b32 n33] λn34=>
Af n34 λn35=>
Ak (n35 != 0) (
Af n35 λn36=>
Ap 0 [Ah n36])<|
Ap 2 [Ah (AF (n22+1))]))<|
Ap 1 [])<|
Ac T.a0 a0 λn37 n38 n39 n40 n41 n42 l43=>
Am F.a113 [Aa n37 n38 n39 n40 n41 n42 l43] λn44=>
Af (AF (n44-1)) λn45=>
Aj 1 (
Ar T.a13 a0 0 λn46=>
As (decide (n46>AF (1099511627776-n45))=false) T.a13 a0 1 λn47=>
AP (decide (n46>AF (1099511627776-n45))=false/\decide (n47>0)=true) T.a0 a0 λn48 n49 n50 n51 n52 n53 l54=>
Ak (decide (n46>AF (1099511627776-n45))) (
Ap 1 [.bool true])<|
Ak (decide (n47>0)) (
Ao F.a117 [Aa n48 n49 n50 n51 n52 n53 l54] λb55=>
As (not b55=true) T.a12 a0 3 λn56=>
Ap 1 [.bool (not b55 && decide (n56>AF (2147483647-n45)))])<|
Ap 1 [.bool false]) λb57=>
Ak b57 (
Ap 0 [Ah 24])<|
Ap 0 [Ah 0]
theorem zm9 (b_0 b_1 b_2 b_3 b_4 b_5:Int) (b_6:Sl):FnS (zyn b_0 b_1 b_2 b_3 b_4 b_5 b_6) F.a114 #[.agg #[.int .i64 b_0,.int .i64 b_1,.int .i64 b_2,.int .i64 b_3,.int .i64 b_4,.int .i64 b_5,.slice b_6.a b_6.len b_6.cap]]:=dV ⟨[],[(1,[])],[(1,[(7,.one .bool)]),(13,[(58,.one .bool)])],[(1,[(24,.one (.int .i64))])]⟩ Go.Proofs.Tryz.func129 (by kernel_rfl)
def zym (b_0 b_1 b_2 b_3 b_4 b_5:Int) (b_6:Sl):Prog :=
Ab T.a0 (Aa b_0 b_1 b_2 b_3 b_4 b_5 b_6) λa0=>
Ac T.a0 a0 λn1 n2 n3 n4 n5 n6 l7=>
Ao F.a117 [Aa n1 n2 n3 n4 n5 n6 l7] λb8=>
Ak b8 (
Ap 0 [Ah 1])<|
AS T.a34 a0 6 λl9=>
Af (Al l9) λn10=>
Ap 0 [Ah n10]
theorem zm8 (b_0 b_1 b_2 b_3 b_4 b_5:Int) (b_6:Sl):FnS (zym b_0 b_1 b_2 b_3 b_4 b_5 b_6) F.a113 #[.agg #[.int .i64 b_0,.int .i64 b_1,.int .i64 b_2,.int .i64 b_3,.int .i64 b_4,.int .i64 b_5,.slice b_6.a b_6.len b_6.cap]]:=dV ⟨[],[],[],[]⟩ Go.Proofs.Tryz.func130 (by kernel_rfl)
def zz8 (l:Option Addr):Prog :=
AI l λa1=>
AS T.a38 a1 4 λl2=>
Ak ((Al l2) == 0) (
Ap 0 [Ad none])<|
AL<|
AI l λa4=>
AS T.a38 a4 4 λl5=>
AI l λa7=>
AS T.a38 a7 4 λl8=>
.ex [.adr] (c1 λa9=>0<=AF ((Al l8)-1)/\AF ((Al l8)-1)<(Al l5)/\l5.a=some a9) (u1 λa10=>
AJ T.a29 a10 (Int.toNat (AF ((Al l8)-1))*1) λp11=>
AN<|
Ap 0 [Ad p11])
theorem zmu (l:Option Addr):FnS (zz8 l) F.a139 #[.pointer l]:=dV ⟨[],[],[],[]⟩ Go.Proofs.Tryz.func152 (by kernel_rfl)
def zzm (s:Option Addr):Prog :=
AL<|
AI s λa1=>
Ar T.a13 a1 1 λn2=>
AI s λa4=>
Ar T.a13 a4 2 λn5=>
AI s λa7=>
Ar T.a13 a7 3 λn8=>
Af (if n8>if n5>n2 then n5 else n2 then n8 else if n5>n2 then n5 else n2) λn9=>
AN<|
Ap 0 [Ah n9]
theorem zn8 (s:Option Addr):FnS (zzm s) F.a153 #[.pointer s]:=dV ⟨[],[],[],[]⟩ Go.Proofs.Tryz.func153 (by kernel_rfl)
def z06q (l:Option Addr):Prog :=
Ak (Option.isNone l) (
Ap 0 [.slice none 0 0])<|
AI l λa1=>
AS T.a38 a1 4 λl2=>
AQ 1 (
Bs 2 (⟨none,0,0⟩,(0,())) λl3 n4=>
Ak (decide (n4<(Al l2))) (
.ex [.adr] (c1 λa5=>0<=n4/\n4<(Al l2)/\l2.a=some a5) (u1 λa6=>
AJ T.a29 a6 (Int.toNat n4*1) λp7=>
AI p7 λa9=>
Ar T.a13 a9 1 λn10=>
AR (Instr.buildSlice T.a36 1 #[(0,Ah n10)]) λl11=>
AR (app T.a36 T.a36 T.a36 l3.v l11.v) λl12=>
Ap 2 [l12.v,Ah (AF (n4+1))]))<|
Ap 1 [l3.v]) λl13=>
Ap 0 [l13.v]
def z06r (l:Option Addr) (upto:Int) (bs:Sl):Prog :=
Am F.a126 [Ad l] λn0=>
AX F.a144 [Ad l,Ah n0,Ah upto] λp1=>
AI p1 λa3=>
Ar T.a13 a3 1 λn4=>
An F.a148 [Ah n4,Ah upto] λl5=>
AR (Instr.buildSlice T.a40 1 #[(0,l5.v)]) λl6=>
AI p1 λa8=>
Ar T.a13 a8 1 λn9=>
Af n9 λn10=>
AQ 1 (
.loop 2 [.one .slc,.one (.int .i64),.one (.int .i64)] ({ a:=l6.a,len:=l6.len,cap:=l6.cap },(n10,(0,()))) (u3 λl11 (n12 n13:Int)=>
Ak (decide (n13<(Al bs))) (
.ex [.adr] (c1 λa14=>0<=n13/\n13<(Al bs)/\bs.a=some a14) (u1 λa15=>
AB T.a0 a15 (Int.toNat n13*7) λn16 n17 n18 n19 n20 n21 l22=>
AC T.a0 λa23=>
AD T.a0 a23 (Aa n16 n17 n18 n19 n20 n21 l22)<|
Ac T.a0 a23 λn24 n25 n26 n27 n28 n29 l30=>
AK F.a108 [Aa n24 n25 n26 n27 n28 n29 l30] λl31 n32=>
Af n32 λn33=>
Aj 3 (
As ((n33 != 0)=false) T.a13 a23 0 λn34=>
AP ((n33 != 0 || decide (n34<n12))=false) T.a0 a23 λn35 n36 n37 n38 n39 n40 l41=>
Ak (n33 != 0 || decide (n34<n12)) (
Ap 3 [.bool true])<|
Am F.a112 [Aa n35 n36 n37 n38 n39 n40 l41] λn42=>
Ap 3 [.bool (decide (n42>upto))]) λb43=>
Ak b43 (
Ap 0 [Ad none,.slice none 0 0,.bool false])<|
AR (Instr.buildSlice T.a40 1 #[(0,l31.v)]) λl44=>
An F.a47 [l44.v] λl45=>
AR (Instr.buildSlice T.a40 1 #[(0,l45.v)]) λl46=>
AR (app T.a40 T.a40 T.a40 l11.v l46.v) λl47=>
Ac T.a0 a23 λn48 n49 n50 n51 n52 n53 l54=>
AE F.a154 [Ad p1,Aa n48 n49 n50 n51 n52 n53 l54,Ah (Al l45)]<|
AI p1 λa56=>
Ar T.a13 a56 3 λn57=>
Af n57 λn58=>
Ap 2 [l47.v,Ah n58,Ah (AF (n13+1))]))<|
Ap 1 [l11.v])) λl59=>
Ap 0 [Ad p1,l59.v,.bool true]
def zf0 (b:Sl):Prog :=
Ak (Option.isNone b.a) (
Ap 0 [.slice none 0 0])<|
AR (Instr.buildSlice T.a42 0 #[]) λl0=>
AR (app T.a42 T.a42 T.a42 l0.v b.v) λl1=>
Ap 0 [l1.v]
theorem zih (b:Sl):FnS (zf0 b) F.a0 #[.slice b.a b.len b.cap]:=dV ⟨[],[],[],[]⟩ Go.Proofs.Tryz.func163 (by kernel_rfl)
def z04t (parts:Sl):Prog :=
Bg 1 (
Br 2 (0,(0,())) λn0 n1=>
Ak (decide (n1<(Al parts))) (
.ex [.adr] (c1 λa2=>0<=n1/\n1<(Al parts)/\parts.a=some a2) (u1 λa3=>
AS T.a42 a3 (Int.toNat n1*1) λl4=>
Af (AF (n0+(Al l4))) λn5=>
Ak (decide (n5>262144)) (
Ap 0 [.slice none 0 0])<|
Ap 2 [Ah n5,Ah (AF (n1+1))]))<|
Ap 1 [Ah n0]) λn6=>
AR (Instr.makeSlice T.a42 (Ah 0) (Ah (AF (n6+8)))) λl7=>
An F.a49 [.int .u32 (IntKind.wrap .u32 n6)] λl8=>
AR (app T.a42 T.a42 T.a42 l7.v l8.v) λl9=>
AQ 1 (
Bs 2 ({ a:=l9.a,len:=l9.len,cap:=l9.cap },(0,())) λl10 n11=>
Ak (decide (n11<(Al parts))) (
.ex [.adr] (c1 λa12=>0<=n11/\n11<(Al parts)/\parts.a=some a12) (u1 λa13=>
AS T.a42 a13 (Int.toNat n11*1) λl14=>
AR (app T.a42 T.a42 T.a42 l10.v l14.v) λl15=>
Ap 2 [l15.v,Ah (AF (n11+1))]))<|
Ap 1 [l10.v]) λl16=>
AR (Instr.buildSlice T.a40 1 #[(0,l16.v)]) λl17=>
Cc F.a48 [l17.v] λn18=>
An F.a49 [.int .u32 n18] λl19=>
AR (app T.a42 T.a42 T.a42 l16.v l19.v) λl20=>
Ap 0 [l20.v]
theorem zsg (parts:Sl):FnS (z04t parts) F.a47 #[.slice parts.a parts.len parts.cap]:=dV ⟨[],[(0,[(3,.one (.int .i64))]),(2,[(6,.one .slc)])],[],[(0,[(3,.one (.int .i64)),(11,.one (.int .i64))]),(2,[(6,.one .slc),(32,.one (.int .i64))])]⟩ Go.Proofs.Tryz.func171 (by kernel_rfl)
def z007 (n:Int):Prog :=
.bind 1 [.one (.int .u64),.one .slc] (
.loop 2 [.one (.int .u64),.one .slc] (n,(⟨none,0,0⟩,())) (u2 λ(n0:Int) l1=>
Ak (decide (n0>=128)) (
AR (Instr.buildSlice T.a42 1 #[(0,.int .u8 (IntKind.wrap .u8 (((BitVec.toNat (BitVec.ofInt 8 (IntKind.wrap .u8 n0) ||| BitVec.ofInt 8 128):Nat):Int))))]) λl2=>
AR (app T.a42 T.a42 T.a42 l1.v l2.v) λl3=>
Bd (Int.fdiv n0 128) λn4=>
Ap 2 [.int .u64 n4,l3.v])<|
Ap 1 [.int .u64 n0,l1.v])) (u2 λ(n5:Int) l6=>
AR (Instr.buildSlice T.a42 1 #[(0,.int .u8 (IntKind.wrap .u8 n5))]) λl7=>
AR (app T.a42 T.a42 T.a42 l6.v l7.v) λl8=>
Ap 0 [l8.v])
theorem zo6 (n:Int):FnS (z007 n) F.a233 #[.int .u64 n]:=dV ⟨[],[(0,[(0,.one (.int .u64)),(3,.one .slc)])],[],[(0,[(0,.one (.int .u64)),(3,.one .slc)])]⟩ Go.Proofs.Tryz.func172 (by kernel_rfl)
def z006 (s:ByteArray):Prog :=
An F.a233 [.int .u64 (IntKind.wrap .u64 (((ByteArray.size s:Nat):Int)))] λl0=>
AR (app T.a42 T.a47 T.a42 l0.v (.string s)) λl1=>
Ap 0 [l1.v]
theorem zo5 (s:ByteArray):FnS (z006 s) F.a232 #[.string s]:=dV ⟨[],[],[],[]⟩ Go.Proofs.Tryz.func173 (by kernel_rfl)
def zz4 (l:Option Addr) (name:ByteArray) (end_:ByteArray):Prog :=
AI l λa1=>
AY T.a47 a1 1 λs2=>
Af (AF (((ByteArray.size s2:Nat):Int)+1)) λn3=>
.must ((((ByteArray.size name:Nat):Int) != AF (AF (n3+11)+((ByteArray.size end_:Nat):Int)))=false->0<=AF (n3+11)/\AF (n3+11)<=((ByteArray.size name:Nat):Int)) <|
Ak (((ByteArray.size name:Nat):Int) != AF (AF (n3+11)+((ByteArray.size end_:Nat):Int)) || not (ByteArray.toList (ByteArray.extract name (Int.toNat (AF (n3+11))) (ByteArray.size name)) == ByteArray.toList end_)) (
Ap 0 [Ah 0,.bool false])<|
.must (0<=n3/\n3<=AF (n3+11)/\AF (n3+11)<=((ByteArray.size name:Nat):Int)) <|
AR (convert T.a47 T.a42 (.string (ByteArray.extract name (Int.toNat n3) (Int.toNat (AF (n3+11)))))) λl4=>
Bg 1 (
Br 2 (0,(0,())) λn5 n6=>
Ak (decide (n6<(Al l4))) (
.ex [.adr] (c1 λa7=>0<=n6/\n6<(Al l4)/\l4.a=some a7) (u1 λa8=>
BE T.a48 a8 (Int.toNat n6*1) λn9=>
BF n9 λn10=>
Ag (decide (n10>=48) && decide (n10<=57)) λb11=>
Bg 3 (
Ak b11 (
Af (AF (((BitVec.toNat (BitVec.ofInt 64 (AF (n5*16)) ||| BitVec.ofInt 64 (AF (IntKind.wrap .u8 (n10-48)))):Nat):Int))) λn12=>
Ap 3 [Ah n12])<|
AH (decide (n10>=97) && decide (n10<=102)) (
Af (AF (((BitVec.toNat (BitVec.ofInt 64 (AF (n5*16)) ||| BitVec.ofInt 64 (AF (IntKind.wrap .u8 (IntKind.wrap .u8 (n10-97)+10)))):Nat):Int))) λn14=>
Ap 3 [Ah n14])<|
Ap 0 [Ah 0,.bool false]) λn15=>
Ap 2 [Ah n15,Ah (AF (n6+1))]))<|
Ap 1 [Ah n5]) λn16=>
Af n16 λn17=>
Ap 0 [Ah n17,.bool true]
theorem zmq (l:Option Addr) (name end_:ByteArray):FnS (zz4 l name end_) F.a134 #[.pointer l,.string name,.string end_]:=dV ⟨[(19342794667089993088630829,[(9,.one (.int .i64))])],[(0,[(9,.one (.int .i64))])],[],[(0,[(9,.one (.int .i64)),(41,.one (.int .i64))])]⟩ Go.Proofs.Tryz.func182 (by kernel_rfl)
def z04q (b:Sl):Prog :=
Ak (decide ((Al b)<8)) (
Ap 0 [.slice none 0 0,Ah 0,.bool false])<|
Cc F.a50 [b.v] λn0=>
Cd n0 λn1=>
Ak (decide (n1>262144) || decide (AF n1>AF ((Al b)-8))) (
Ap 0 [.slice none 0 0,Ah 0,.bool false])<|
Af (AF (AF n1+4)) λn2=>
Aj 1 (
AL<|
.must (0<=n2/\n2<=(Al b)) <|
.must (0<=n2/\n2<=((b.cap:Nat):Int)) <|
.both (
Cc F.a50 [.slice (z1n b.a 1 (Int.toNat n2) b.cap) (b.len-Int.toNat n2) (b.cap-Int.toNat n2)] λn3=>
AR (Instr.buildSlice T.a40 1 #[(0,.slice b.a (Int.toNat n2) b.cap)]) λl4=>
Cc F.a48 [l4.v] λn5=>
AN<|
Ap 1 [.bool (n3 != n5)]) <|
AR (Instr.buildSlice T.a40 1 #[(0,.slice b.a (Int.toNat n2) b.cap)]) λl6=>
Cc F.a50 [.slice (z1n b.a 1 (Int.toNat n2) b.cap) (b.len-Int.toNat n2) (b.cap-Int.toNat n2)] λn7=>
Cc F.a48 [l6.v] λn8=>
AN<|
Ap 1 [.bool (n7 != n8)]) λb9=>
Ak b9 (
Ap 0 [.slice none 0 0,Ah 0,.bool false])<|
.must ((0:Int)<=4/\4<=n2/\n2<=((b.cap:Nat):Int)) <|
An F.a0 [.slice (z1n b.a 1 4 b.cap) (Int.toNat n2-4) (b.cap-4)] λl10=>
Af (AF (n2+4)) λn11=>
Ap 0 [l10.v,Ah n11,.bool true]
theorem zsd (b:Sl):FnS (z04q b) F.a44 #[.slice b.a b.len b.cap]:=dV ⟨[],[],[(7,[(34,.one .bool)])],[]⟩ Go.Proofs.Tryz.func183 (by kernel_rfl)
def zzi (body:Sl) (base:Int):Prog :=
AX F.a222 [body.v] λp0=>
Am F.a223 [Ad p0] λn1=>
Bc F.a229 [Ad p0] λn2=>
Bc F.a229 [Ad p0] λn3=>
Af n1 λn4=>
Bd n2 λn5=>
Bd n3 λn6=>
Am F.a224 [Ad p0] λn7=>
Ak (n7 != 0 || n4 != 83 || n5 != IntKind.wrap .u64 base || decide (base>1099511627776) || decide (n6>1099511627776)) (
Ap 0 [Ah 0,.bool false])<|
Af (AF n6) λn8=>
Ag (n6 == 0 || decide (AF n6>base)) λb9=>
Ap 0 [Ah n8,.bool b9]
theorem zn4 (body:Sl) (base:Int):FnS (zzi body base) F.a149 #[.slice body.a body.len body.cap,.int .i64 base]:=dV ⟨[],[],[],[]⟩ Go.Proofs.Tryz.func184 (by kernel_rfl)
def zzd (l:Option Addr) (base:Int) (end_:Int):Prog :=
AI l λa1=>
Ar T.a12 (Addr.add a1 2) 1 λn2=>
Aw F.a55 [Ah n2] λp3 n4=>
Af n4 λn5=>
An F.a148 [Ah base,Ah end_] λl6=>
Ab T.a45 (.agg #[Ad p3,Ah base,Ah end_,Ah 0,Ah (-1),Ah (Al l6)]) λa7=>
Ap 0 [Ax a7]
theorem zmz (l:Option Addr) (base end_:Int):FnS (zzd l base end_) F.a144 #[.pointer l,.int .i64 base,.int .i64 end_]:=dV ⟨[],[],[],[]⟩ Go.Proofs.Tryz.func185 (by kernel_rfl)
def zyg (raw:Sl):Prog :=
AC T.a0 λa0=>
AC T.a0 λa1=>
AD T.a0 a1 (.agg #[Ah 0,Ah 0,Ah 0,Ah 0,Ah 0,Ah 0,.slice none 0 0])<|
AX F.a222 [raw.v] λp2=>
Am F.a223 [Ad p2] λn3=>
Ak (n3 != 1) (
Ac T.a0 a1 λn4 n5 n6 n7 n8 n9 l10=>
AD T.a0 a0 (Aa n4 n5 n6 n7 n8 n9 l10)<|
Ac T.a0 a0 λn11 n12 n13 n14 n15 n16 l17=>
Ap 0 [Aa n11 n12 n13 n14 n15 n16 l17,Ah 6])<|
Am F.a223 [Ad p2] λn18=>
Am F.a122 [Ad p2,Ah 1099511627776] λn19=>
Am F.a122 [Ad p2,Ah 1048576] λn20=>
AC T.a0 λa21=>
AD T.a0 a21 (.agg #[Ah n19,Ah n20,Ah 0,Ah 0,Ah n18,Ah 0,.slice none 0 0])<|
Ar T.a13 a21 1 λn22=>
Az 1 (
Ak (decide (n22>0)) (
Am F.a122 [Ad p2,Ah 32767] λn23=>
AT T.a12 a21 2 (Ah n23)<|
Ac T.a0 a21 λn24 n25 n26 n27 n28 n29 l30=>
Ao F.a117 [Aa n24 n25 n26 n27 n28 n29 l30] λb31=>
Az 2 (
Ak (not b31) (
Am F.a122 [Ad p2,Ah 2147483647] λn32=>
AT T.a12 a21 3 (Ah n32)<|
Ap 2 [])<|
Ap 2 [])<|
Ap 1 [])<|
Ap 1 [])<|
Am F.a122 [Ad p2,Ah 1099511627776] λn33=>
AT T.a13 a21 5 (Ah n33)<|
Am F.a225 [Ad p2] λn34=>
As ((n34 != 0)=false) T.a13 a21 5 λn35=>
Ak (n34 != 0 || decide (n35>1099511627776)) (
Ac T.a0 a1 λn36 n37 n38 n39 n40 n41 l42=>
AD T.a0 a0 (Aa n36 n37 n38 n39 n40 n41 l42)<|
Ac T.a0 a0 λn43 n44 n45 n46 n47 n48 l49=>
Ap 0 [Aa n43 n44 n45 n46 n47 n48 l49,Ah 6])<|
Ac T.a0 a21 λn50 n51 n52 n53 n54 n55 l56=>
Ao F.a117 [Aa n50 n51 n52 n53 n54 n55 l56] λb57=>
Az 1 (
Ak (not b57) (
Am F.a122 [Ad p2,Ah 64] λn58=>
Af n58 λn59=>
Ak (decide (n59>64)) (
Ac T.a0 a1 λn60 n61 n62 n63 n64 n65 l66=>
AD T.a0 a0 (Aa n60 n61 n62 n63 n64 n65 l66)<|
Ac T.a0 a0 λn67 n68 n69 n70 n71 n72 l73=>
Ap 0 [Aa n67 n68 n69 n70 n71 n72 l73,Ah 6])<|
Az 2 (
.loop 3 [.one .str,.one (.int .i64)] ((ByteArray.mk #[]),(0,())) (u2 λs74 (n75:Int)=>
Ak (decide (n75<n59)) (
Ar T.a13 a21 5 λn76=>
.call F.a120 [Ad p2,Ah n76,.string s74] (.tup [.agg [.str,.str,.bool,.int .i64],.one .bool]) (u5 λs77 s78 b79 (n80:Int) b81=>
AC T.a2 λa82=>
AD T.a2 a82 (Bx s77 s78 b79 n80)<|
Ag b81 λb83=>
Ak (not b83) (
Ac T.a0 a1 λn84 n85 n86 n87 n88 n89 l90=>
AD T.a0 a0 (Aa n84 n85 n86 n87 n88 n89 l90)<|
Ac T.a0 a0 λn91 n92 n93 n94 n95 n96 l97=>
Ap 0 [Aa n91 n92 n93 n94 n95 n96 l97,Ah 6])<|
AS T.a34 a21 6 λl98=>
BZ T.a2 a82 λs99 s100 b101 n102=>
AR (Instr.buildSlice T.a34 1 #[(0,Bx s99 s100 b101 n102)]) λl103=>
AR (app T.a34 T.a34 T.a34 l98.v l103.v) λl104=>
AT T.a34 a21 6 l104.v<|
AY T.a47 a82 0 λs105=>
AZ s105 λs106=>
Ap 3 [.string s106,Ah (AF (n75+1))]))<|
Ap 2 []))<|
Ap 1 [])<|
Ap 1 [])<|
Aj 1 (
Am F.a224 [Ad p2] λn107=>
AP ((n107 != 0)=false) T.a0 a21 λn108 n109 n110 n111 n112 n113 l114=>
Ak (n107 != 0) (
Ap 1 [.bool true])<|
Am F.a114 [Aa n108 n109 n110 n111 n112 n113 l114] λn115=>
Ap 1 [.bool (n115 != 0)]) λb116=>
Ak b116 (
Ac T.a0 a1 λn117 n118 n119 n120 n121 n122 l123=>
AD T.a0 a0 (Aa n117 n118 n119 n120 n121 n122 l123)<|
Ac T.a0 a0 λn124 n125 n126 n127 n128 n129 l130=>
Ap 0 [Aa n124 n125 n126 n127 n128 n129 l130,Ah 6])<|
Ac T.a0 a21 λn131 n132 n133 n134 n135 n136 l137=>
AD T.a0 a0 (Aa n131 n132 n133 n134 n135 n136 l137)<|
Ac T.a0 a0 λn138 n139 n140 n141 n142 n143 l144=>
Ap 0 [Aa n138 n139 n140 n141 n142 n143 l144,Ah 0]
theorem zm2 (raw:Sl):FnS (zyg raw) F.a107 #[.slice raw.a raw.len raw.cap]:=dV ⟨[(985162418487330,[]),(1123700883587100,[]),(19807040591672596250983170100,[])],[(0,[])],[(27,[(89,.one .bool)])],[(0,[(8,.one .str),(59,.one (.int .i64))])]⟩ Go.Proofs.Tryz.func186 (by kernel_rfl)
def zzn (s:Option Addr) (b_0 b_1 b_2 b_3 b_4 b_5:Int) (b_6:Sl) (size:Int):Prog :=
Ab T.a0 (Aa b_0 b_1 b_2 b_3 b_4 b_5 b_6) λa0=>
Ac T.a0 a0 λn1 n2 n3 n4 n5 n6 l7=>
Am F.a150 [Aa n1 n2 n3 n4 n5 n6 l7] λn8=>
Af n8 λn9=>
AL<|
AI s λa11=>
AJ T.a26 a11 0 λp12=>
Ar T.a13 a0 0 λn13=>
AI s λa15=>
Ar T.a12 a15 5 λn16=>
Am F.a53 [Ad p12,Ah n13,Ah n16,Ah n9] λn17=>
AN<|
Ac T.a0 a0 λn18 n19 n20 n21 n22 n23 l24=>
Am F.a112 [Aa n18 n19 n20 n21 n22 n23 l24] λn25=>
AI s λa27=>
AT T.a13 a27 3 (Ah n25)<|
AI s λa29=>
Ar T.a13 a29 4 λn30=>
AI s λa32=>
AT T.a13 a32 4 (Ah (if n9>n30 then n9 else n30))<|
AI s λa34=>
Ar T.a12 a34 5 λn35=>
AI s λa37=>
AT T.a12 a37 5 (Ah (AF (n35+size)))<|
Ap 0 []
theorem zn9 (s:Option Addr) (b_0 b_1 b_2 b_3 b_4 b_5:Int) (b_6:Sl) (size:Int):FnS (zzn s b_0 b_1 b_2 b_3 b_4 b_5 b_6 size) F.a154 #[.pointer s,.agg #[.int .i64 b_0,.int .i64 b_1,.int .i64 b_2,.int .i64 b_3,.int .i64 b_4,.int .i64 b_5,.slice b_6.a b_6.len b_6.cap],.int .i64 size]:=dV ⟨[],[],[],[]⟩ Go.Proofs.Tryz.func187 (by kernel_rfl)
def zzb (l:Option Addr) (s:Option Addr):Prog :=
AI l λa1=>
AS T.a38 a1 4 λl2=>
AR (Instr.buildSlice T.a38 1 #[(0,Ad s)]) λl3=>
AR (app T.a38 T.a38 T.a38 l2.v l3.v) λl4=>
AI l λa6=>
AT T.a38 a6 4 l4.v<|
Ap 0 []
theorem zmx (l s:Option Addr):FnS (zzb l s) F.a142 #[.pointer l,.pointer s]:=dV ⟨[],[],[],[]⟩ Go.Proofs.Tryz.func188 (by kernel_rfl)
def z005 (r:Option Addr):Prog :=
AO (not (Option.isNone r)=true) r λa1=>
As (not (Option.isNone r)=true) T.a1 (Addr.add a1 0) 2 λn2=>
Ag (not (Option.isNone r) && n2 == 0) λb3=>
Ap 0 [.bool b3]
theorem zo4 (r:Option Addr):FnS (z005 r) F.a231 #[.pointer r]:=dV ⟨[],[],[],[]⟩ Go.Proofs.Tryz.func190 (by kernel_rfl)
def z00b (p:Option Addr):Prog :=
Az 1 (
.loop 2 [.one (.int .u64),.one (.int .i64)] (0,(0,())) (u2 λ(n0 n1:Int)=>
Ak (decide (n1<10)) (
Am F.a235 [Ad p] λn2=>
Ak (decide (n1>=n2)) (
Ap 1 [])<|
AL<|
AI p λa4=>
AS T.a42 a4 0 λl5=>
AI p λa7=>
Ar T.a12 a7 1 λn8=>
.ex [.adr] (c1 λa9=>0<=AF (n8+n1)/\AF (n8+n1)<(Al l5)/\l5.a=some a9) (u1 λa10=>
BE T.a48 a10 (Int.toNat (AF (n8+n1))*1) λn11=>
BF n11 λn12=>
AN<|
Ak (n1 == 9 && decide (n12>1)) (
Ap 1 [])<|
.must (0<=AF (7*n1)) <|
Bd (IntKind.wrap .u64 (((BitVec.toNat (BitVec.ofInt 64 n0 ||| BitVec.ofInt 64 (IntKind.wrap .u64 (IntKind.wrap .u64 (IntKind.wrap .u8 (((BitVec.toNat (BitVec.ofInt 8 n12 &&& BitVec.ofInt 8 127):Nat):Int)))*2 ^ min (Int.toNat (AF (7*n1))) 64))):Nat):Int))) λn13=>
Ak (decide (n12>=128)) (
Af (AF (n1+1)) λn14=>
Ap 2 [.int .u64 n13,Ah n14])<|
Ak (n12 == 0 && decide (n1>0)) (
Ap 1 [])<|
AI p λa16=>
Ar T.a12 a16 1 λn17=>
AI p λa19=>
AT T.a12 a19 1 (Ah (AF (n17+AF (n1+1))))<|
Bd n13 λn20=>
Ap 0 [.int .u64 n20]))<|
Ap 1 []))<|
AE F.a234 [Ad p,Ah 6]<|
Ap 0 [.int .u64 0]
theorem zoa (p:Option Addr):FnS (z00b p) F.a237 #[.pointer p]:=dV ⟨[],[(0,[])],[],[(0,[(3,.one (.int .u64)),(4,.one (.int .i64))])]⟩ Go.Proofs.Tryz.func191 (by kernel_rfl)
def z008 (p:Option Addr) (e_:Int):Prog :=
AI p λa1=>
Ar T.a1 a1 2 λn2=>
Az 1 (
Ak (n2 == 0) (
AI p λa4=>
AT T.a1 a4 2 (Ah e_)<|
Ap 1 [])<|
Ap 1 [])<|
Ap 0 []
theorem zo7 (p:Option Addr) (e_:Int):FnS (z008 p e_) F.a234 #[.pointer p,.int .i64 e_]:=dV ⟨[(31457288,[])],[],[],[]⟩ Go.Proofs.Tryz.func192 (by kernel_rfl)
def z009 (p:Option Addr):Prog :=
AL<|
AI p λa1=>
AS T.a42 a1 0 λl2=>
AI p λa4=>
Ar T.a12 a4 1 λn5=>
Af (AF ((Al l2)-n5)) λn6=>
AN<|
Ap 0 [Ah n6]
theorem zo8 (p:Option Addr):FnS (z009 p) F.a235 #[.pointer p]:=dV ⟨[],[],[],[]⟩ Go.Proofs.Tryz.func193 (by kernel_rfl)
def z00a (p:Option Addr) (n:Int):Prog :=
AI p λa1=>
Ar T.a12 a1 1 λn2=>
AI p λa4=>
AT T.a12 a4 1 (Ah (AF (n2+n)))<|
AL<|
AI p λa6=>
AS T.a42 a6 0 λl7=>
AI p λa9=>
Ar T.a12 a9 1 λn10=>
AI p λa12=>
Ar T.a12 a12 1 λn13=>
.must (0<=AF (n10-n)/\AF (n10-n)<=n13/\n13<=((l7.cap:Nat):Int)) <|
AN<|
Ap 0 [.slice (z1n l7.a 1 (Int.toNat (AF (n10-n))) l7.cap) (Int.toNat n13-Int.toNat (AF (n10-n))) (l7.cap-Int.toNat (AF (n10-n)))]
theorem zo9 (p:Option Addr) (n:Int):FnS (z00a p n) F.a236 #[.pointer p,.int .i64 n]:=dV ⟨[],[],[],[]⟩ Go.Proofs.Tryz.func194 (by kernel_rfl)
def z004 (r:Option Addr) (lo:Int) (hi:Int):Prog :=
Ao F.a231 [Ad r] λb0=>
Ak (not b0) (
Ap 0 [Ah 0])<|
AI r λa2=>
Ar T.a12 (Addr.add a2 0) 1 λn3=>
Af n3 λn4=>
Am F.a227 [Ad r] λn5=>
Af n5 λn6=>
AI r λa8=>
Ar T.a1 (Addr.add a8 0) 2 λn9=>
Az 1 (
Ak (n9 == 0 && (decide (n6<lo) || decide (n6>hi))) (
AI r λa11=>
AT T.a12 (Addr.add a11 0) 1 (Ah n4)<|
AI r λa13=>
AE F.a234 [BC a13 0,Ah 8]<|
Ap 1 [])<|
Ap 1 [])<|
AI r λa15=>
Ar T.a1 (Addr.add a15 0) 2 λn16=>
Ak (n16 != 0) (
Ap 0 [Ah 0])<|
Af n6 λn17=>
Ap 0 [Ah n17]
theorem zo3 (r:Option Addr) (lo hi:Int):FnS (z004 r lo hi) F.a230 #[.pointer r,.int .i64 lo,.int .i64 hi]:=dV ⟨[(71916856549572642,[])],[],[],[]⟩ Go.Proofs.Tryz.func196 (by kernel_rfl)
def zzz (r:Option Addr):Prog :=
Ak (Option.isNone r) (
Ap 0 [Ah 1])<|
AI r λa1=>
Ar T.a1 (Addr.add a1 0) 2 λn2=>
Af n2 λn3=>
Ap 0 [Ah n3]
theorem zny (r:Option Addr):FnS (zzz r) F.a225 #[.pointer r]:=dV ⟨[],[],[],[]⟩ Go.Proofs.Tryz.func197 (by kernel_rfl)
def zza (l:Option Addr) (bs:Sl):Prog :=
Am F.a127 [Ad l] λn0=>
Af n0 λn1=>
.bind 1 [.one .slc,.one .slc] (
.loop 2 [.one (.int .i64),.one .slc,.one .slc,.one (.int .i64)] (n1,(⟨none,0,0⟩,(⟨none,0,0⟩,(0,())))) (u4 λ(n2:Int) l3 l4 (n5:Int)=>
Ak (decide (n5<(Al bs))) (
.ex [.adr] (c1 λa6=>0<=n5/\n5<(Al bs)/\bs.a=some a6) (u1 λa7=>
AB T.a0 a7 (Int.toNat n5*7) λn8 n9 n10 n11 n12 n13 l14=>
AC T.a0 λa15=>
AD T.a0 a15 (Aa n8 n9 n10 n11 n12 n13 l14)<|
AT T.a13 a15 0 (Ah n2)<|
Ac T.a0 a15 λn16 n17 n18 n19 n20 n21 l22=>
AK F.a108 [Aa n16 n17 n18 n19 n20 n21 l22] λl23 n24=>
Af n24 λn25=>
Ak (n25 != 0) (
Af n25 λn26=>
Ap 0 [.slice none 0 0,.slice none 0 0,Ah n26])<|
Ac T.a0 a15 λn27 n28 n29 n30 n31 n32 l33=>
AR (Instr.buildSlice T.a33 1 #[(0,Aa n27 n28 n29 n30 n31 n32 l33)]) λl34=>
AR (app T.a33 T.a33 T.a33 l3.v l34.v) λl35=>
AR (Instr.buildSlice T.a40 1 #[(0,l23.v)]) λl36=>
An F.a47 [l36.v] λl37=>
AR (Instr.buildSlice T.a40 1 #[(0,l37.v)]) λl38=>
AR (app T.a40 T.a40 T.a40 l4.v l38.v) λl39=>
Ac T.a0 a15 λn40 n41 n42 n43 n44 n45 l46=>
Am F.a112 [Aa n40 n41 n42 n43 n44 n45 l46] λn47=>
Af n47 λn48=>
Ap 2 [Ah n48,l35.v,l39.v,Ah (AF (n5+1))]))<|
Ap 1 [l3.v,l4.v])) (u2 λl49 l50=>
Ap 0 [l49.v,l50.v,Ah 0])
theorem zmw (l:Option Addr) (bs:Sl):FnS (zza l bs) F.a141 #[.pointer l,.slice bs.a bs.len bs.cap]:=dV ⟨[],[(0,[(8,.one .slc),(9,.one .slc)])],[],[(0,[(7,.one (.int .i64)),(8,.one .slc),(9,.one .slc),(18,.one (.int .i64))])]⟩ Go.Proofs.Tryz.func203 (by kernel_rfl)
def zz7 (l:Option Addr) (n:Int):Prog :=
AX F.a139 [Ad l] λp0=>
AL<|
AO (not (Option.isNone p0)=true) p0 λa2=>
As (not (Option.isNone p0)=true) T.a13 a2 3 λn3=>
AO (not (Option.isNone p0)=true/\(n3 == 0)=false) p0 λa5=>
As (not (Option.isNone p0)=true/\(n3 == 0)=false) T.a12 a5 5 λn6=>
AO (not (Option.isNone p0)=true/\(n3 == 0)=false) l λa8=>
As (not (Option.isNone p0)=true/\(n3 == 0)=false) T.a12 (Addr.add a8 2) 0 λn9=>
Ag (not (Option.isNone p0) && (n3 == 0 || decide (AF (n6+n)<=n9))) λb10=>
AN<|
Ap 0 [.bool b10]
theorem zmt (l:Option Addr) (n:Int):FnS (zz7 l n) F.a137 #[.pointer l,.int .i64 n]:=dV ⟨[],[],[],[]⟩ Go.Proofs.Tryz.func204 (by kernel_rfl)
def zzh (base:Int) (end_:Int):Prog :=
AR (Instr.buildSlice T.a42 1 #[(0,.int .u8 83)]) λl0=>
An F.a233 [.int .u64 (IntKind.wrap .u64 base)] λl1=>
An F.a233 [.int .u64 (IntKind.wrap .u64 end_)] λl2=>
AR (Instr.buildSlice T.a40 3 #[(0,l0.v),(1,l1.v),(2,l2.v)]) λl3=>
An F.a47 [l3.v] λl4=>
Ap 0 [l4.v]
theorem zn3 (base end_:Int):FnS (zzh base end_) F.a148 #[.int .i64 base,.int .i64 end_]:=dV ⟨[],[],[],[]⟩ Go.Proofs.Tryz.func205 (by kernel_rfl)
def z04x (x:Option Addr) (offset:Int):Prog :=
Ab T.a26 (Ad x) λa0=>
Ab T.a13 (Ah offset) λa1=>
AC T.a9 λa2=>
BX T.a26 a0 λp3=>
Ak (Option.isNone p3) (
AD T.a9 a2 (Aq 0 0 0)<|
Ce T.a9 a2 λn4 n5 n6=>
Ap 0 [Aq n4 n5 n6,.bool false])<|
Aj 1 (
AL<|
.hold True (ld T.a26 a0) sP (u1 λp7=>
BX T.a26 a0 λp8=>
AI p8 λa10=>
AS T.a35 a10 4 λl11=>
Am F.a215 [Ah (Al l11),.func (Fn.func 256) #[] #[Ax a0,Ax a1]] λn12=>
AN<|
.call F.a54 [Ad p7,Ah (AF (n12-1))] (.tup [.agg [.int .i64,.int .i64,.int .i64],.one .bool]) (u4 λ(n13 n14 n15:Int) b16=>
AD T.a9 a2 (Aq n13 n14 n15)<|
Ag b16 λb17=>
AN<|
Ap 1 [.bool b17]))) λb18=>
Ce T.a9 a2 λn19 n20 n21=>
Ap 0 [Aq n19 n20 n21,.bool b18]
theorem zsk (x:Option Addr) (offset:Int):FnS (z04x x offset) F.a51 #[.pointer x,.int .i64 offset]:=dV ⟨[],[],[(3,[(5,.one .bool)])],[]⟩ Go.Proofs.Tryz.func206 (by kernel_rfl)
def zys (b_0 b_1 b_2 b_3 b_4 b_5:Int) (b_6:Sl) (from_:Int) (to_:Int):Prog :=
Ab T.a0 (Aa b_0 b_1 b_2 b_3 b_4 b_5 b_6) λa0=>
AC T.a0 λa1=>
Ac T.a0 a0 λn2 n3 n4 n5 n6 n7 l8=>
AC T.a0 λa9=>
AD T.a0 a9 (Aa n2 n3 n4 n5 n6 n7 l8)<|
AS T.a34 a0 6 λl10=>
.must (0<=from_/\from_<=to_/\to_<=((l10.cap:Nat):Int)) <|
AR (app T.a34 T.a34 T.a34 (.slice none 0 0) (.slice (z1n l10.a 4 (Int.toNat from_) l10.cap) (Int.toNat to_-Int.toNat from_) (l10.cap-Int.toNat from_))) λl11=>
AT T.a34 a9 6 l11.v<|
Ar T.a13 a9 0 λn12=>
AT T.a13 a9 0 (Ah (AF (n12+from_)))<|
Ar T.a13 a9 1 λn13=>
Az 1 (
Ak (decide (n13>0)) (
Ar T.a12 a9 3 λn14=>
AT T.a12 a9 3 (Ah (AF (n14+from_)))<|
Ap 1 [])<|
Ap 1 [])<|
Ac T.a0 a9 λn15 n16 n17 n18 n19 n20 l21=>
AD T.a0 a1 (Aa n15 n16 n17 n18 n19 n20 l21)<|
Ac T.a0 a1 λn22 n23 n24 n25 n26 n27 l28=>
Ap 0 [Aa n22 n23 n24 n25 n26 n27 l28]
theorem zme (b_0 b_1 b_2 b_3 b_4 b_5:Int) (b_6:Sl) (from_ to_:Int):FnS (zys b_0 b_1 b_2 b_3 b_4 b_5 b_6 from_ to_) F.a119 #[.agg #[.int .i64 b_0,.int .i64 b_1,.int .i64 b_2,.int .i64 b_3,.int .i64 b_4,.int .i64 b_5,.slice b_6.a b_6.len b_6.cap],.int .i64 from_,.int .i64 to_]:=dV ⟨[(2130303778839,[])],[],[],[]⟩ Go.Proofs.Tryz.func207 (by kernel_rfl)
def zyr (b_0 b_1 b_2 b_3 b_4 b_5:Int) (b_6:Sl):Prog :=
Ab T.a0 (Aa b_0 b_1 b_2 b_3 b_4 b_5 b_6) λa0=>
Aj 1 (
Ar T.a12 a0 4 λn1=>
As (decide (n1>=0)=true) T.a12 a0 4 λn2=>
As ((decide (n1>=0) && decide (n2<=3))=true) T.a13 a0 0 λn3=>
Ak (decide (n1>=0) && decide (n2<=3)) (
Ao F.a123 [Ah n3,Ah 0,Ah 1099511627776] λb4=>
As (b4=true) T.a13 a0 1 λn5=>
Ak b4 (
Ao F.a123 [Ah n5,Ah 0,Ah 1048576] λb6=>
As (b6=true) T.a12 a0 2 λn7=>
As ((b6 && decide (n7>=0))=true) T.a12 a0 2 λn8=>
As ((b6 && decide (n7>=0) && decide (n8<=32767))=true) T.a12 a0 3 λn9=>
As ((b6 && decide (n7>=0) && decide (n8<=32767) && decide (n9>=0))=true) T.a12 a0 3 λn10=>
As ((b6 && decide (n7>=0) && decide (n8<=32767) && decide (n9>=0) && decide (n10<=2147483647))=true) T.a13 a0 5 λn11=>
Ak (b6 && decide (n7>=0) && decide (n8<=32767) && decide (n9>=0) && decide (n10<=2147483647)) (
Ao F.a123 [Ah n11,Ah 0,Ah 1099511627776] λb12=>
Ag b12 λb13=>
Ap 1 [.bool b13])<|
Ap 1 [.bool false])<|
Ap 1 [.bool false])<|
Ap 1 [.bool false]) λb14=>
Ap 0 [.bool b14]
theorem zmd (b_0 b_1 b_2 b_3 b_4 b_5:Int) (b_6:Sl):FnS (zyr b_0 b_1 b_2 b_3 b_4 b_5 b_6) F.a118 #[.agg #[.int .i64 b_0,.int .i64 b_1,.int .i64 b_2,.int .i64 b_3,.int .i64 b_4,.int .i64 b_5,.slice b_6.a b_6.len b_6.cap]]:=dV ⟨[],[],[(1,[(2,.one .bool)])],[]⟩ Go.Proofs.Tryz.func208 (by kernel_rfl)
def zyp (b_0 b_1 b_2 b_3 b_4 b_5:Int) (b_6:Sl):Prog :=
Ab T.a0 (Aa b_0 b_1 b_2 b_3 b_4 b_5 b_6) λa0=>
Ar T.a13 a0 1 λn1=>
As ((n1 == 0)=true) T.a12 a0 4 λn2=>
As ((n1 == 0)=true/\(n2 != 0)=false) T.a12 a0 2 λn3=>
As ((n1 == 0)=true/\(n2 != 0 || n3 != 0)=false) T.a12 a0 3 λn4=>
Ak (n1 == 0 && (n2 != 0 || n3 != 0 || n4 != 0)) (
Ap 0 [.bool false])<|
Ac T.a0 a0 λn5 n6 n7 n8 n9 n10 l11=>
Ao F.a117 [Aa n5 n6 n7 n8 n9 n10 l11] λb12=>
Ak b12 (
Ar T.a12 a0 3 λn13=>
BA ((n13 == 0)=true) T.a34 a0 6 λl14=>
Ag (n13 == 0 && (Al l14) == 0) λb15=>
Ap 0 [.bool b15])<|
AS T.a34 a0 6 λl16=>
Ag (decide ((Al l16)>0)) λb17=>
Ap 0 [.bool b17]
theorem zmb (b_0 b_1 b_2 b_3 b_4 b_5:Int) (b_6:Sl):FnS (zyp b_0 b_1 b_2 b_3 b_4 b_5 b_6) F.a116 #[.agg #[.int .i64 b_0,.int .i64 b_1,.int .i64 b_2,.int .i64 b_3,.int .i64 b_4,.int .i64 b_5,.slice b_6.a b_6.len b_6.cap]]:=dV ⟨[],[],[],[]⟩ Go.Proofs.Tryz.func209 (by kernel_rfl)
def zyu (r_0 r_1:ByteArray) (r_2:Bool) (r_3:Int):Prog :=
Ab T.a2 (Bx r_0 r_1 r_2 r_3) λa0=>
AY T.a47 a0 0 λs1=>
BL (decide (((ByteArray.size s1:Nat):Int)>1024)=false) T.a47 a0 1 λs2=>
AH (decide (((ByteArray.size s1:Nat):Int)>1024) || decide (((ByteArray.size s2:Nat):Int)>1024)) (
Ap 0 [Ah 7])<|
Ar T.a13 a0 3 λn4=>
Ao F.a123 [Ah n4,Ah 0,Ah 1099511627776] λb5=>
Be (not b5=false) T.a3 a0 2 λb6=>
BL (not b5=false/\b6=true) T.a47 a0 1 λs7=>
AH (not b5 || b6 && not (ByteArray.toList s7 == ByteArray.toList (ByteArray.mk #[]))) (
Ap 0 [Ah 2])<|
Ap 0 [Ah 0]
theorem zmg (r_0 r_1:ByteArray) (r_2:Bool) (r_3:Int):FnS (zyu r_0 r_1 r_2 r_3) F.a121 #[.agg #[.string r_0,.string r_1,.bool r_2,.int .i64 r_3]]:=dV ⟨[],[],[],[]⟩ Go.Proofs.Tryz.func210 (by kernel_rfl)
def zyh (b_0 b_1 b_2 b_3 b_4 b_5:Int) (b_6:Sl):Prog :=
Ab T.a0 (Aa b_0 b_1 b_2 b_3 b_4 b_5 b_6) λa0=>
Ac T.a0 a0 λn1 n2 n3 n4 n5 n6 l7=>
Am F.a114 [Aa n1 n2 n3 n4 n5 n6 l7] λn8=>
Af n8 λn9=>
Ak (n9 != 0) (
Af n9 λn10=>
Ap 0 [.slice none 0 0,Ah n10])<|
AQ 1 (
AL<|
Bj T.a12 a0 4 λn11=>
Bj T.a13 a0 0 λn12=>
Bj T.a13 a0 1 λn13=>
.both (
AR (Instr.buildSlice T.a42 2 #[(0,.int .u8 1),(1,.int .u8 (IntKind.wrap .u8 n11))]) λl14=>
An F.a233 [.int .u64 (IntKind.wrap .u64 n12)] λl15=>
An F.a233 [.int .u64 (IntKind.wrap .u64 n13)] λl16=>
AN<|
AR (Instr.buildSlice T.a40 3 #[(0,l14.v),(1,l15.v),(2,l16.v)]) λl17=>
An F.a221 [l17.v] λl18=>
AN<|
Ap 1 [l18.v]) <|
An F.a233 [.int .u64 (IntKind.wrap .u64 n12)] λl19=>
.both (
AR (Instr.buildSlice T.a42 2 #[(0,.int .u8 1),(1,.int .u8 (IntKind.wrap .u8 n11))]) λl20=>
An F.a233 [.int .u64 (IntKind.wrap .u64 n13)] λl21=>
AN<|
AR (Instr.buildSlice T.a40 3 #[(0,l20.v),(1,l19.v),(2,l21.v)]) λl22=>
An F.a221 [l22.v] λl23=>
AN<|
Ap 1 [l23.v]) <|
An F.a233 [.int .u64 (IntKind.wrap .u64 n13)] λl24=>
AR (Instr.buildSlice T.a42 2 #[(0,.int .u8 1),(1,.int .u8 (IntKind.wrap .u8 n11))]) λl25=>
AN<|
AR (Instr.buildSlice T.a40 3 #[(0,l25.v),(1,l19.v),(2,l24.v)]) λl26=>
An F.a221 [l26.v] λl27=>
AN<|
Ap 1 [l27.v]) λl28=>
Ar T.a13 a0 1 λn29=>
AQ 1 (
Ak (decide (n29>0)) (
Ar T.a12 a0 2 λn30=>
An F.a233 [.int .u64 (IntKind.wrap .u64 n30)] λl31=>
AR (app T.a42 T.a42 T.a42 l28.v l31.v) λl32=>
Ac T.a0 a0 λn33 n34 n35 n36 n37 n38 l39=>
Ao F.a117 [Aa n33 n34 n35 n36 n37 n38 l39] λb40=>
AQ 2 (
Ak (not b40) (
Ar T.a12 a0 3 λn41=>
An F.a233 [.int .u64 (IntKind.wrap .u64 n41)] λl42=>
AR (app T.a42 T.a42 T.a42 l32.v l42.v) λl43=>
Ap 2 [l43.v])<|
Ap 2 [l32.v]) λl44=>
Ap 1 [l44.v])<|
Ap 1 [l28.v]) λl45=>
Ar T.a13 a0 5 λn46=>
An F.a233 [.int .u64 (IntKind.wrap .u64 n46)] λl47=>
AR (app T.a42 T.a42 T.a42 l45.v l47.v) λl48=>
Ac T.a0 a0 λn49 n50 n51 n52 n53 n54 l55=>
Ao F.a117 [Aa n49 n50 n51 n52 n53 n54 l55] λb56=>
Ak b56 (
Ap 0 [l48.v,Ah 0])<|
AS T.a34 a0 6 λl57=>
An F.a233 [.int .u64 (IntKind.wrap .u64 (Al l57))] λl58=>
AR (app T.a42 T.a42 T.a42 l48.v l58.v) λl59=>
AS T.a34 a0 6 λl60=>
AQ 1 (
.loop 2 [.one .slc,.one .str,.one (.int .i64)] ({ a:=l59.a,len:=l59.len,cap:=l59.cap },((ByteArray.mk #[]),(0,()))) (u3 λl61 s62 (n63:Int)=>
Ak (decide (n63<(Al l60))) (
.ex [.adr] (c1 λa64=>0<=n63/\n63<(Al l60)/\l60.a=some a64) (u1 λa65=>
Bw T.a2 a65 (Int.toNat n63*4) λs66 s67 b68 n69=>
AC T.a2 λa70=>
AD T.a2 a70 (Bx s66 s67 b68 n69)<|
AY T.a47 a70 0 λs71=>
Am F.a115 [.string s62,.string s71] λn72=>
Af n72 λn73=>
AQ 3 (
AL<|
Ar T.a13 a70 3 λn74=>
Ar T.a13 a0 5 λn75=>
.hold True (ld T.a3 (Addr.add a70 2)) sB (u1 λb76=>
.hold True (ld T.a47 (Addr.add a70 0)) sS (u1 λs77=>
.must (0<=n73/\n73<=((ByteArray.size s77:Nat):Int)) <|
An F.a220 [Ah (AF (n74-n75))] λl78=>
An F.a219 [.bool b76] λl79=>
An F.a233 [.int .u64 (IntKind.wrap .u64 n73)] λl80=>
AN<|
An F.a232 [.string (ByteArray.extract s77 (Int.toNat n73) (ByteArray.size s77))] λl81=>
AR (Instr.buildSlice T.a40 4 #[(0,l78.v),(1,l79.v),(2,l80.v),(3,l81.v)]) λl82=>
An F.a221 [l82.v] λl83=>
AR (app T.a42 T.a42 T.a42 l61.v l83.v) λl84=>
AN<|
Ap 3 [l84.v]))) λl85=>
AW T.a3 a70 2 λb86=>
AQ 3 (
Ak (not b86) (
AY T.a47 a70 1 λs87=>
An F.a232 [.string s87] λl88=>
AR (app T.a42 T.a42 T.a42 l85.v l88.v) λl89=>
Ap 3 [l89.v])<|
Ap 3 [l85.v]) λl90=>
AY T.a47 a70 0 λs91=>
AZ s91 λs92=>
Ap 2 [l90.v,.string s92,Ah (AF (n63+1))]))<|
Ap 1 [l61.v])) λl93=>
Ap 0 [l93.v,Ah 0]
theorem zm3 (b_0 b_1 b_2 b_3 b_4 b_5:Int) (b_6:Sl):FnS (zyh b_0 b_1 b_2 b_3 b_4 b_5 b_6) F.a108 #[.agg #[.int .i64 b_0,.int .i64 b_1,.int .i64 b_2,.int .i64 b_3,.int .i64 b_4,.int .i64 b_5,.slice b_6.a b_6.len b_6.cap]]:=dV ⟨[(567453553048813608,[(5,.one .slc)]),(576443160117510175,[(5,.one .slc)]),(40240300653644914121111346551586913,[(5,.one .slc)])],[(0,[(5,.one .slc)])],[(4,[(5,.one .slc)]),(18,[(5,.one .slc)])],[(0,[(5,.one .slc),(6,.one .str),(66,.one (.int .i64))])]⟩ Go.Proofs.Tryz.func231 (by kernel_rfl)
def zzv (parts:Sl):Prog :=
Bg 1 (
Br 2 (0,(0,())) λn0 n1=>
Ak (decide (n1<(Al parts))) (
.ex [.adr] (c1 λa2=>0<=n1/\n1<(Al parts)/\parts.a=some a2) (u1 λa3=>
AS T.a42 a3 (Int.toNat n1*1) λl4=>
Af (AF (n0+(Al l4))) λn5=>
Ap 2 [Ah n5,Ah (AF (n1+1))]))<|
Ap 1 [Ah n0]) λn6=>
AR (Instr.makeSlice T.a42 (Ah 0) (Ah n6)) λl7=>
AQ 1 (
Bs 2 ({ a:=l7.a,len:=l7.len,cap:=l7.cap },(0,())) λl8 n9=>
Ak (decide (n9<(Al parts))) (
.ex [.adr] (c1 λa10=>0<=n9/\n9<(Al parts)/\parts.a=some a10) (u1 λa11=>
AS T.a42 a11 (Int.toNat n9*1) λl12=>
AR (app T.a42 T.a42 T.a42 l8.v l12.v) λl13=>
Ap 2 [l13.v,Ah (AF (n9+1))]))<|
Ap 1 [l8.v]) λl14=>
Ap 0 [l14.v]
theorem znu (parts:Sl):FnS (zzv parts) F.a221 #[.slice parts.a parts.len parts.cap]:=dV ⟨[],[(0,[(3,.one (.int .i64))]),(2,[(6,.one .slc)])],[],[(0,[(3,.one (.int .i64)),(11,.one (.int .i64))]),(2,[(6,.one .slc),(24,.one (.int .i64))])]⟩ Go.Proofs.Tryz.func238 (by kernel_rfl)
def zzu (n:Int):Prog :=
An F.a233 [.int .u64 (IntKind.wrap .u64 (((BitVec.toNat (BitVec.ofInt 64 (IntKind.wrap .u64 (IntKind.wrap .u64 n*2)) ^^^ BitVec.ofInt 64 (IntKind.wrap .u64 (Int.fdiv n 9223372036854775808))):Nat):Int)))] λl0=>
Ap 0 [l0.v]
theorem znt (n:Int):FnS (zzu n) F.a220 #[.int .i64 n]:=dV ⟨[],[],[],[]⟩ Go.Proofs.Tryz.func240 (by kernel_rfl)
def z04v (n:Int):Prog :=
AR (Instr.buildSlice T.a42 4 #[(0,.int .u8 (IntKind.wrap .u8 n)),(1,.int .u8 (IntKind.wrap .u8 (Int.fdiv n 256))),(2,.int .u8 (IntKind.wrap .u8 (Int.fdiv n 65536))),(3,.int .u8 (IntKind.wrap .u8 (Int.fdiv n 16777216)))]) λl0=>
Ap 0 [l0.v]
theorem zsi (n:Int):FnS (z04v n) F.a49 #[.int .u32 n]:=dV ⟨[],[],[],[]⟩ Go.Proofs.Tryz.func242 (by kernel_rfl)
def z04u (parts:Sl):Prog :=
Cc F.a45 [.int .u32 0,parts.v] λn0=>
Cd n0 λn1=>
Ap 0 [.int .u32 n1]
theorem zsh (parts:Sl):FnS (z04u parts) F.a48 #[.slice parts.a parts.len parts.cap]:=dV ⟨[],[],[],[]⟩ Go.Proofs.Tryz.func243 (by kernel_rfl)
def z04w (b:Sl):Prog :=
AL<|
.ex [.adr] (c1 λa0=>(0:Int)<=0/\0<(Al b)/\b.a=some a0) (u1 λa1=>
BE T.a48 a1 0 λn2=>
.ex [.adr] (c1 λa3=>(0:Int)<=1/\1<(Al b)/\b.a=some a3) (u1 λa4=>
BE T.a48 a4 1 λn5=>
.ex [.adr] (c1 λa6=>(0:Int)<=2/\2<(Al b)/\b.a=some a6) (u1 λa7=>
BE T.a48 a7 2 λn8=>
.ex [.adr] (c1 λa9=>(0:Int)<=3/\3<(Al b)/\b.a=some a9) (u1 λa10=>
BE T.a48 a10 3 λn11=>
Cd (IntKind.wrap .u32 (((BitVec.toNat (BitVec.ofInt 32 (IntKind.wrap .u32 (((BitVec.toNat (BitVec.ofInt 32 (IntKind.wrap .u32 (((BitVec.toNat (BitVec.ofInt 32 (IntKind.wrap .u32 n2) ||| BitVec.ofInt 32 (IntKind.wrap .u32 (IntKind.wrap .u32 n5*256))):Nat):Int))) ||| BitVec.ofInt 32 (IntKind.wrap .u32 (IntKind.wrap .u32 n8*65536))):Nat):Int))) ||| BitVec.ofInt 32 (IntKind.wrap .u32 (IntKind.wrap .u32 n11*16777216))):Nat):Int))) λn12=>
AN<|
Ap 0 [.int .u32 n12]))))
theorem zsj (b:Sl):FnS (z04w b) F.a50 #[.slice b.a b.len b.cap]:=dV ⟨[],[],[],[]⟩ Go.Proofs.Tryz.func245 (by kernel_rfl)
def zzx (r:Option Addr):Prog :=
Ao F.a231 [Ad r] λb0=>
Ak (not b0) (
Ap 0 [Ah 0])<|
AI r λa2=>
Am F.a235 [BC a2 0] λn3=>
Ak (n3 == 0) (
AI r λa5=>
AE F.a234 [BC a5 0,Ah 6]<|
Ap 0 [Ah 0])<|
AI r λa7=>
An F.a236 [BC a7 0,Ah 1] λl8=>
.ex [.adr] (c1 λa9=>(0:Int)<=0/\0<(Al l8)/\l8.a=some a9) (u1 λa10=>
BE T.a48 a10 0 λn11=>
Af (AF n11) λn12=>
Ap 0 [Ah n12])
theorem znw (r:Option Addr):FnS (zzx r) F.a223 #[.pointer r]:=dV ⟨[],[],[],[]⟩ Go.Proofs.Tryz.func246 (by kernel_rfl)
def z051 (gap:Int):Prog :=
Ak (decide (gap<1) || decide (gap>4194304)) (
Ap 0 [Ad none,Ah 2])<|
Ab T.a10 (.agg #[Ah (-1),Ah (-1),Ah (-1),Ah gap,.slice none 0 0]) λa0=>
Ap 0 [Ax a0,Ah 0]
theorem zso (gap:Int):FnS (z051 gap) F.a55 #[.int .i64 gap]:=dV ⟨[],[],[],[]⟩ Go.Proofs.Tryz.func247 (by kernel_rfl)
def zyv (r:Option Addr) (most:Int):Prog :=
Bc F.a229 [Ad r] λn0=>
Bd n0 λn1=>
Ak (decide (n1>IntKind.wrap .u64 most)) (
Af (AF (most+1)) λn2=>
Ap 0 [Ah n2])<|
Af (AF n1) λn3=>
Ap 0 [Ah n3]
theorem zmh (r:Option Addr) (most:Int):FnS (zyv r most) F.a122 #[.pointer r,.int .i64 most]:=dV ⟨[],[],[],[]⟩ Go.Proofs.Tryz.func248 (by kernel_rfl)
def zyt (r:Option Addr) (time:Int) (ahead:ByteArray):Prog :=
AC T.a2 λa0=>
Am F.a230 [Ad r,Ah (-1099511627776),Ah 1099511627776] λn1=>
Af n1 λn2=>
Ao F.a226 [Ad r] λb3=>
AC T.a2 λa4=>
AD T.a2 a4 (.agg #[.string (ByteArray.mk #[]),.string (ByteArray.mk #[]),.bool b3,Ah (AF (time+n2))])<|
Am F.a122 [Ad r,Ah 1024] λn5=>
Af n5 λn6=>
Ay F.a228 [Ad r,Ah 1024] λs7=>
AZ s7 λs8=>
Ak (decide (n6>((ByteArray.size ahead:Nat):Int))) (
BZ T.a2 a4 λs9 s10 b11 n12=>
AD T.a2 a0 (Bx s9 s10 b11 n12)<|
BZ T.a2 a0 λs13 s14 b15 n16=>
Ap 0 [Bx s13 s14 b15 n16,.bool false])<|
.must (0<=n6/\n6<=((ByteArray.size ahead:Nat):Int)) <|
.must (((ByteArray.size (ByteArray.extract ahead 0 (Int.toNat n6))+ByteArray.size s8:Nat):Int)<=9223372036854775807) <|
AT T.a47 a4 0 (.string (ByteArray.extract ahead 0 (Int.toNat n6)++s8))<|
AW T.a3 a4 2 λb17=>
Az 1 (
Ak (not b17) (
Ay F.a228 [Ad r,Ah 1024] λs18=>
AT T.a47 a4 1 (.string s18)<|
Ap 1 [])<|
Ap 1 [])<|
Aj 1 (
AL<|
.hold True (ld T.a2 a4) (sG [.str,.str,.bool,.int .i64]) (u4 λs19 s20 b21 (n22:Int)=>
Am F.a225 [Ad r] λn23=>
BL ((n23 == 0)=true) T.a47 a4 0 λs24=>
Ak (n23 == 0) (
Am F.a115 [.string ahead,.string s24] λn25=>
AN<|
AD T.a2 a0 (Bx s19 s20 b21 n22)<|
Ag (n25 == n6) λb26=>
AN<|
Ap 1 [.bool b26])<|
AN<|
AD T.a2 a0 (Bx s19 s20 b21 n22)<|
AN<|
Ap 1 [.bool false])) λb27=>
BZ T.a2 a0 λs28 s29 b30 n31=>
Ap 0 [Bx s28 s29 b30 n31,.bool b27]
theorem zmf (r:Option Addr) (time:Int) (ahead:ByteArray):FnS (zyt r time ahead) F.a120 #[.pointer r,.int .i64 time,.string ahead]:=dV ⟨[(7881299347898405,[])],[],[(10,[(7,.one .bool)])],[]⟩ Go.Proofs.Tryz.func249 (by kernel_rfl)
def zzj (b_0 b_1 b_2 b_3 b_4 b_5:Int) (b_6:Sl):Prog :=
Ab T.a0 (Aa b_0 b_1 b_2 b_3 b_4 b_5 b_6) λa0=>
AS T.a34 a0 6 λl1=>
Bg 1 (
Br 2 (-1,(0,())) λn2 n3=>
Ak (decide (n3<(Al l1))) (
.ex [.adr] (c1 λa4=>0<=n3/\n3<(Al l1)/\l1.a=some a4) (u1 λa5=>
Bw T.a2 a5 (Int.toNat n3*4) λs6 s7 b8 n9=>
AC T.a2 λa10=>
AD T.a2 a10 (Bx s6 s7 b8 n9)<|
Ar T.a13 a10 3 λn11=>
Af (if n11>n2 then n11 else n2) λn12=>
Ap 2 [Ah n12,Ah (AF (n3+1))]))<|
Ap 1 [Ah n2]) λn13=>
AS T.a34 a0 6 λl14=>
Bg 1 (
Ak ((Al l14) == 0) (
Ar T.a13 a0 5 λn15=>
Af n15 λn16=>
Ap 1 [Ah n16])<|
Ap 1 [Ah n13]) λn17=>
Af n17 λn18=>
Ap 0 [Ah n18]
theorem zn5 (b_0 b_1 b_2 b_3 b_4 b_5:Int) (b_6:Sl):FnS (zzj b_0 b_1 b_2 b_3 b_4 b_5 b_6) F.a150 #[.agg #[.int .i64 b_0,.int .i64 b_1,.int .i64 b_2,.int .i64 b_3,.int .i64 b_4,.int .i64 b_5,.slice b_6.a b_6.len b_6.cap]]:=dV ⟨[(51539640341,[(3,.one (.int .i64))])],[(0,[(3,.one (.int .i64))])],[],[(0,[(3,.one (.int .i64)),(9,.one (.int .i64))])]⟩ Go.Proofs.Tryz.func250 (by kernel_rfl)
def z04z (x:Option Addr) (offset place:Int) (time:Int):Prog :=
AH (Option.isNone x) (
Ap 0 [Ah 1])<|
Ao F.a56 [Ah offset,Ah place,Ah time] λb1=>
AH (not b1) (
Ap 0 [Ah 2])<|
AI x λa4=>
Ar T.a13 (Addr.add a4 0) 0 λn5=>
AO (decide (offset<=n5)=false) x λa7=>
As (decide (offset<=n5)=false) T.a12 (Addr.add a7 0) 1 λn8=>
AH (decide (offset<=n5) || decide (place<=n8)) (
Ap 0 [Ah 21])<|
AI x λa11=>
AS T.a35 a11 4 λl12=>
Af (Al l12) λn13=>
AL<|
AO ((n13 == 0)=false) x λa15=>
BA ((n13 == 0)=false) T.a35 a15 4 λl16=>
.ex [.adr] (c1 λa17=>(n13 == 0)=false->0<=AF (n13-1)/\AF (n13-1)<(Al l16)/\l16.a=some a17) (u1 λa18=>
As ((n13 == 0)=false) T.a12 (Addr.add a18 (Int.toNat (AF (n13-1))*3)) 1 λn19=>
AO ((n13 == 0)=false) x λa21=>
As ((n13 == 0)=false) T.a12 a21 3 λn22=>
AN<|
Az 1 (
Ak (n13 == 0 || decide (AF (place-n19)>=n22)) (
AQ 2 (
AL<|
AI x λa24=>
.hold True (ld T.a35 (Addr.add a24 4)) sL (u1 λl25=>
AI x λa27=>
Ar T.a13 (Addr.add a27 0) 2 λn28=>
AR (Instr.buildSlice T.a35 1 #[(0,Aq offset place n28)]) λl29=>
AN<|
AR (app T.a35 T.a35 T.a35 l25.v l29.v) λl30=>
AN<|
Ap 2 [l30.v])) λl31=>
AI x λa33=>
AT T.a35 a33 4 l31.v<|
Ap 1 [])<|
Ap 1 [])<|
AI x λa35=>
Ar T.a13 (Addr.add a35 0) 2 λn36=>
AI x λa38=>
AT T.a11 a38 0 (.agg #[Ah offset,Ah place,Ah (if time>n36 then time else n36)])<|
Ap 0 [Ah 0])
theorem zsm (x:Option Addr) (offset place time:Int):FnS (z04z x offset place time) F.a53 #[.pointer x,.int .i64 offset,.int .i64 place,.int .i64 time]:=dV ⟨[(4951741267675589621019836477,[])],[],[(9,[(10,.one .slc)])],[]⟩ Go.Proofs.Tryz.func251 (by kernel_rfl)
def z001 (r:Option Addr):Prog :=
Bc F.a229 [Ad r] λn0=>
Bd n0 λn1=>
Af (AF (((BitVec.toNat (BitVec.ofInt 64 (AF (Int.fdiv n1 2)) ^^^ BitVec.ofInt 64 (AF (0-AF (IntKind.wrap .u64 (((BitVec.toNat (BitVec.ofInt 64 n1 &&& BitVec.ofInt 64 1):Nat):Int)))))):Nat):Int))) λn2=>
Ap 0 [Ah n2]
theorem zo0 (r:Option Addr):FnS (z001 r) F.a227 #[.pointer r]:=dV ⟨[],[],[],[]⟩ Go.Proofs.Tryz.func252 (by kernel_rfl)
def z050 (x:Option Addr) (i:Int):Prog :=
AC T.a9 λa0=>
Ak (decide (i<0)) (
AD T.a9 a0 (Aq 0 0 0)<|
Ce T.a9 a0 λn1 n2 n3=>
Ap 0 [Aq n1 n2 n3,.bool false])<|
AI x λa5=>
AS T.a35 a5 4 λl6=>
.ex [.adr] (c1 λa7=>0<=i/\i<(Al l6)/\l6.a=some a7) (u1 λa8=>
.read True (ld T.a9 (Addr.add a8 (Int.toNat i*3))) (sG [.int .i64,.int .i64,.int .i64]) (u3 λ(n9 n10 n11:Int)=>
AD T.a9 a0 (Aq n9 n10 n11)<|
Ce T.a9 a0 λn12 n13 n14=>
Ap 0 [Aq n12 n13 n14,.bool true]))
theorem zsn (x:Option Addr) (i:Int):FnS (z050 x i) F.a54 #[.pointer x,.int .i64 i]:=dV ⟨[],[],[],[]⟩ Go.Proofs.Tryz.func255 (by kernel_rfl)
def z04y (i:Int) (fv0:Option Addr) (fv1:Option Addr):Prog :=
AL<|
BD (Instr.loadAt T.a26 (Ad fv0)) λp0=>
AI p0 λa2=>
AS T.a35 a2 4 λl3=>
.ex [.adr] (c1 λa4=>0<=i/\i<(Al l3)/\l3.a=some a4) (u1 λa5=>
Ar T.a13 (Addr.add a5 (Int.toNat i*3)) 0 λn6=>
Cb T.a13 fv1 λn7=>
Ag (decide (n6>n7)) λb8=>
AN<|
Ap 0 [.bool b8])
theorem zsl (i:Int) (fv0 fv1:Option Addr):FnS (z04y i fv0 fv1) F.a52 #[.int .i64 i,.pointer fv0,.pointer fv1]:=dV ⟨[],[],[],[]⟩ Go.Proofs.Tryz.func256 (by kernel_rfl)
def zyw (n lo:Int) (hi:Int):Prog :=
Ag (decide (n>=lo) && decide (n<=hi)) λb0=>
Ap 0 [.bool b0]
theorem zmi (n lo hi:Int):FnS (zyw n lo hi) F.a123 #[.int .i64 n,.int .i64 lo,.int .i64 hi]:=dV ⟨[],[],[],[]⟩ Go.Proofs.Tryz.func257 (by kernel_rfl)
def zyo (a:ByteArray) (b:ByteArray):Prog :=
Af (if ((ByteArray.size b:Nat):Int)<((ByteArray.size a:Nat):Int) then ((ByteArray.size b:Nat):Int) else ((ByteArray.size a:Nat):Int)) λn0=>
Az 1 (
AA 2 (0,()) λn1=>
Ak (decide (n1<n0)) (
Af n1 λn2=>
AL<|
.must (0<=n2/\n2<((ByteArray.size a:Nat):Int)) <|
.must (0<=n2/\n2<((ByteArray.size b:Nat):Int)) <|
AN<|
Ak (bt a n2 != bt b n2) (
Af n2 λn3=>
Ap 0 [Ah n3])<|
Ap 2 [Ah (AF (n1+1))])<|
Ap 1 [])<|
Af n0 λn4=>
Ap 0 [Ah n4]
theorem zma (a b:ByteArray):FnS (zyo a b) F.a115 #[.string a,.string b]:=dV ⟨[],[(0,[])],[],[(0,[(13,.one (.int .i64))])]⟩ Go.Proofs.Tryz.func275 (by kernel_rfl)
def zzt (on:Bool):Prog :=
Ak on (
AR (Instr.buildSlice T.a42 1 #[(0,.int .u8 1)]) λl0=>
Ap 0 [l0.v])<|
AR (Instr.buildSlice T.a42 1 #[(0,.int .u8 0)]) λl1=>
Ap 0 [l1.v]
theorem zns (on:Bool):FnS (zzt on) F.a219 #[.bool on]:=dV ⟨[],[],[],[]⟩ Go.Proofs.Tryz.func276 (by kernel_rfl)
def z04r (sum:Int) (parts:Sl):Prog :=
Cd (IntKind.wrap .u32 (((BitVec.toNat (BitVec.ofInt 32 4294967295 ^^^ BitVec.ofInt 32 sum):Nat):Int))) λn0=>
Cf 1 (
Cg 2 (n0,(0,())) λn1 n2=>
Ak (decide (n2<(Al parts))) (
Cf 3 (
.ex [.adr] (c1 λa3=>0<=n2/\n2<(Al parts)/\parts.a=some a3) (u1 λa4=>
AS T.a42 a4 (Int.toNat n2*1) λl5=>
Cf 4 (
Cg 5 (n1,(0,())) λn6 n7=>
Ak (decide (n7<(Al l5))) (
Cf 6 (
.ex [.adr] (c1 λa8=>0<=n7/\n7<(Al l5)/\l5.a=some a8) (u1 λa9=>
BE T.a48 a9 (Int.toNat n7*1) λn10=>
BF n10 λn11=>
Cd (IntKind.wrap .u32 (((BitVec.toNat (BitVec.ofInt 32 n6 ^^^ BitVec.ofInt 32 (IntKind.wrap .u32 n11)):Nat):Int))) λn12=>
Cf 7 (
Cg 8 (n12,(0,())) λn13 n14=>
Ak (decide (n14<8)) (
Cd (IntKind.wrap .u32 (((BitVec.toNat (BitVec.ofInt 32 (Int.fdiv n13 2) ^^^ BitVec.ofInt 32 (IntKind.wrap .u32 (((BitVec.toNat (BitVec.ofInt 32 3988292384 &&& BitVec.ofInt 32 (IntKind.wrap .u32 (0-IntKind.wrap .u32 (((BitVec.toNat (BitVec.ofInt 32 n13 &&& BitVec.ofInt 32 1):Nat):Int))))):Nat):Int)))):Nat):Int))) λn15=>
Ap 8 [.int .u32 n15,Ah (AF (n14+1))])<|
Ap 7 [.int .u32 n13]) λn16=>
Ap 6 [.int .u32 n16])) λn17=>
Ap 5 [.int .u32 n17,Ah (AF (n7+1))])<|
Ap 4 [.int .u32 n6]) λn18=>
Ap 3 [.int .u32 n18])) λn19=>
Ap 2 [.int .u32 n19,Ah (AF (n2+1))])<|
Ap 1 [.int .u32 n1]) λn20=>
Cd (IntKind.wrap .u32 (((BitVec.toNat (BitVec.ofInt 32 4294967295 ^^^ BitVec.ofInt 32 n20):Nat):Int))) λn21=>
Ap 0 [.int .u32 n21]
theorem zse (sum:Int) (parts:Sl):FnS (z04r sum parts) F.a45 #[.int .u32 sum,.slice parts.a parts.len parts.cap]:=dV ⟨[],[(0,[(5,.one (.int .u32))]),(1,[(5,.one (.int .u32))]),(2,[(5,.one (.int .u32))]),(3,[(5,.one (.int .u32))]),(4,[(5,.one (.int .u32))])],[],[(0,[(5,.one (.int .u32)),(14,.one (.int .i64))]),(2,[(5,.one (.int .u32)),(20,.one (.int .i64))]),(4,[(5,.one (.int .u32)),(28,.one (.int .i64))])]⟩ Go.Proofs.Tryz.func291 (by kernel_rfl)
def z000 (r:Option Addr):Prog :=
Ao F.a231 [Ad r] λb0=>
Ak (not b0) (
Ap 0 [.bool false])<|
AL<|
AI r λa2=>
Am F.a235 [BC a2 0] λn3=>
AO ((n3 == 0)=false) r λa5=>
BA ((n3 == 0)=false) T.a42 (Addr.add a5 0) 0 λl6=>
AO ((n3 == 0)=false) r λa8=>
As ((n3 == 0)=false) T.a12 (Addr.add a8 0) 1 λn9=>
.ex [.adr] (c1 λa10=>(n3 == 0)=false->0<=n9/\n9<(Al l6)/\l6.a=some a10) (u1 λa11=>
.read ((n3 == 0)=false) (ld T.a48 (Addr.add a11 (Int.toNat n9*1))) (sI .u8) (u1 λ(n12:Int)=>
AN<|
Ak (n3 == 0 || decide (n12>1)) (
AI r λa14=>
AE F.a234 [BC a14 0,Ah 6]<|
Ap 0 [.bool false])<|
AI r λa16=>
An F.a236 [BC a16 0,Ah 1] λl17=>
.ex [.adr] (c1 λa18=>(0:Int)<=0/\0<(Al l17)/\l17.a=some a18) (u1 λa19=>
BE T.a48 a19 0 λn20=>
Ag (n20 == 1) λb21=>
Ap 0 [.bool b21])))
theorem znz (r:Option Addr):FnS (z000 r) F.a226 #[.pointer r]:=dV ⟨[],[],[],[]⟩ Go.Proofs.Tryz.func292 (by kernel_rfl)
def z052 (offset place:Int) (time:Int):Prog :=
Ag (decide (offset>=0) && decide (offset<=1099511627776) && decide (place>=0) && decide (place<=4194304) && decide (time>=0) && decide (time<=1099511627776)) λb0=>
Ap 0 [.bool b0]
theorem zsp (offset place time:Int):FnS (z052 offset place time) F.a56 #[.int .i64 offset,.int .i64 place,.int .i64 time]:=dV ⟨[],[],[],[]⟩ Go.Proofs.Tryz.func293 (by kernel_rfl)
instance:One P T.a13:=⟨by kernel_rfl,by kernel_rfl⟩
instance:One P T.a12:=⟨by kernel_rfl,by kernel_rfl⟩
instance:One P T.a3:=⟨by kernel_rfl,by kernel_rfl⟩
instance:One P T.a48:=⟨by kernel_rfl,by kernel_rfl⟩
instance:One P T.a47:=⟨by kernel_rfl,by kernel_rfl⟩
instance:Agg P T.a43 2:=⟨by kernel_rfl,by kernel_rfl⟩
instance:Agg P T.a30 3:=⟨by kernel_rfl,by kernel_rfl⟩
instance:One P T.a24:=⟨by kernel_rfl,by kernel_rfl⟩
instance:One P T.a1:=⟨by kernel_rfl,by kernel_rfl⟩
instance:One P T.a39:=⟨by kernel_rfl,by kernel_rfl⟩
instance:One P T.a34:=⟨by kernel_rfl,by kernel_rfl⟩
instance:Agg P T.a0 7:=⟨by kernel_rfl,by kernel_rfl⟩
instance:Agg P T.a2 4:=⟨by kernel_rfl,by kernel_rfl⟩
instance:Agg P T.a32 5:=⟨by kernel_rfl,by kernel_rfl⟩
instance:One P T.a33:=⟨by kernel_rfl,by kernel_rfl⟩
instance:One P T.a42:=⟨by kernel_rfl,by kernel_rfl⟩
instance:One P T.a41:=⟨by kernel_rfl,by kernel_rfl⟩
instance:One P T.a22:=⟨by kernel_rfl,by kernel_rfl⟩
instance:Agg P T.a7 5:=⟨by kernel_rfl,by kernel_rfl⟩
instance:One P T.a28:=⟨by kernel_rfl,by kernel_rfl⟩
instance:One P T.a23:=⟨by kernel_rfl,by kernel_rfl⟩
instance:One P T.a27:=⟨by kernel_rfl,by kernel_rfl⟩
instance:Agg P T.a31 6:=⟨by kernel_rfl,by kernel_rfl⟩
instance:One P T.a37:=⟨by kernel_rfl,by kernel_rfl⟩
instance:One P T.a40:=⟨by kernel_rfl,by kernel_rfl⟩
instance:One P T.a25:=⟨by kernel_rfl,by kernel_rfl⟩
instance:Agg P T.a8 2:=⟨by kernel_rfl,by kernel_rfl⟩
instance:Agg P T.a6 2:=⟨by kernel_rfl,by kernel_rfl⟩
instance:One P T.a36:=⟨by kernel_rfl,by kernel_rfl⟩
instance:One P T.a38:=⟨by kernel_rfl,by kernel_rfl⟩
instance:Agg P T.a44 5:=⟨by kernel_rfl,by kernel_rfl⟩
instance:One P T.a26:=⟨by kernel_rfl,by kernel_rfl⟩
instance:Agg P T.a45 6:=⟨by kernel_rfl,by kernel_rfl⟩
instance:One P T.a29:=⟨by kernel_rfl,by kernel_rfl⟩
instance:Agg P T.a16 2:=⟨by kernel_rfl,by kernel_rfl⟩
instance:Agg P T.a17 4:=⟨by kernel_rfl,by kernel_rfl⟩
instance:One P T.a19:=⟨by kernel_rfl,by kernel_rfl⟩
instance:One P T.a20:=⟨by kernel_rfl,by kernel_rfl⟩
instance:Agg P T.a15 3:=⟨by kernel_rfl,by kernel_rfl⟩
instance:Agg P T.a14 4:=⟨by kernel_rfl,by kernel_rfl⟩
instance:One P T.a21:=⟨by kernel_rfl,by kernel_rfl⟩
instance:One P T.a18:=⟨by kernel_rfl,by kernel_rfl⟩
instance:Agg P T.a5 3:=⟨by kernel_rfl,by kernel_rfl⟩
instance:Agg P T.a4 7:=⟨by kernel_rfl,by kernel_rfl⟩
instance:Agg P T.a50 3:=⟨by kernel_rfl,by kernel_rfl⟩
instance:Agg P T.a9 3:=⟨by kernel_rfl,by kernel_rfl⟩
instance:Agg P T.a11 3:=⟨by kernel_rfl,by kernel_rfl⟩
instance:One P T.a35:=⟨by kernel_rfl,by kernel_rfl⟩
instance:Agg P T.a10 5:=⟨by kernel_rfl,by kernel_rfl⟩
instance:One P T.a46:=⟨by kernel_rfl,by kernel_rfl⟩
instance:Zer P T.a13 (.int .i64 0):=⟨by kernel_rfl⟩
instance:Zer P T.a12 (.int .i64 0):=⟨by kernel_rfl⟩
instance:Zer P T.a3 (.bool false):=⟨by kernel_rfl⟩
instance:Zer P T.a48 (.int .u8 0):=⟨by kernel_rfl⟩
instance:Zer P T.a47 (.string ⟨#[]⟩):=⟨by kernel_rfl⟩
instance:Zer P T.a43 (.agg #[.int .i64 0,.int .i64 0]):=⟨by kernel_rfl⟩
instance:Zer P T.a30 (.agg #[.int .i64 0,.int .i64 0,.int .i64 0]):=⟨by kernel_rfl⟩
instance:Zer P T.a24 (.pointer none):=⟨by kernel_rfl⟩
instance:Zer P T.a1 (.int .i64 0):=⟨by kernel_rfl⟩
instance:Zer P T.a39 (.slice none 0 0):=⟨by kernel_rfl⟩
instance:Zer P T.a34 (.slice none 0 0):=⟨by kernel_rfl⟩
instance:Zer P T.a0 (.agg #[.int .i64 0,.int .i64 0,.int .i64 0,.int .i64 0,.int .i64 0,.int .i64 0,.slice none 0 0]):=⟨by kernel_rfl⟩
instance:Zer P T.a2 (.agg #[.string ⟨#[]⟩,.string ⟨#[]⟩,.bool false,.int .i64 0]):=⟨by kernel_rfl⟩
instance:Zer P T.a32 (.agg #[.int .i64 0,.string ⟨#[]⟩,.string ⟨#[]⟩,.bool false,.int .i64 0]):=⟨by kernel_rfl⟩
instance:Zer P T.a33 (.slice none 0 0):=⟨by kernel_rfl⟩
instance:Zer P T.a42 (.slice none 0 0):=⟨by kernel_rfl⟩
instance:Zer P T.a41 (.slice none 0 0):=⟨by kernel_rfl⟩
instance:Zer P T.a22 (.map none):=⟨by kernel_rfl⟩
instance:Zer P T.a7 (.agg #[.int .i64 0,.bool false,.int .i64 0,.int .i64 0,.map none]):=⟨by kernel_rfl⟩
instance:Zer P T.a28 (.pointer none):=⟨by kernel_rfl⟩
instance:Zer P T.a23 (.pointer none):=⟨by kernel_rfl⟩
instance:Zer P T.a27 (.pointer none):=⟨by kernel_rfl⟩
instance:Zer P T.a31 (.agg #[.pointer none,.pointer none,.string ⟨#[]⟩,.int .i64 0,.pointer none,.pointer none]):=⟨by kernel_rfl⟩
instance:Zer P T.a37 (.slice none 0 0):=⟨by kernel_rfl⟩
instance:Zer P T.a40 (.slice none 0 0):=⟨by kernel_rfl⟩
instance:Zer P T.a25 (.pointer none):=⟨by kernel_rfl⟩
instance:Zer P T.a8 (.agg #[.slice none 0 0,.int .i64 0]):=⟨by kernel_rfl⟩
instance:Zer P T.a6 (.agg #[.bool false,.int .i64 0]):=⟨by kernel_rfl⟩
instance:Zer P T.a36 (.slice none 0 0):=⟨by kernel_rfl⟩
instance:Zer P T.a38 (.slice none 0 0):=⟨by kernel_rfl⟩
instance:Zer P T.a44 (.agg #[.pointer none,.string ⟨#[]⟩,.int .i64 0,.int .i64 0,.slice none 0 0]):=⟨by kernel_rfl⟩
instance:Zer P T.a26 (.pointer none):=⟨by kernel_rfl⟩
instance:Zer P T.a45 (.agg #[.pointer none,.int .i64 0,.int .i64 0,.int .i64 0,.int .i64 0,.int .i64 0]):=⟨by kernel_rfl⟩
instance:Zer P T.a29 (.pointer none):=⟨by kernel_rfl⟩
instance:Zer P T.a16 (.agg #[.int .i64 0,.int .i64 0]):=⟨by kernel_rfl⟩
instance:Zer P T.a17 (.agg #[.int .i64 0,.int .i64 0,.int .i64 0,.int .i64 0]):=⟨by kernel_rfl⟩
instance:Zer P T.a19 (.map none):=⟨by kernel_rfl⟩
instance:Zer P T.a20 (.map none):=⟨by kernel_rfl⟩
instance:Zer P T.a15 (.agg #[.int .i64 0,.map none,.map none]):=⟨by kernel_rfl⟩
instance:Zer P T.a14 (.agg #[.int .i64 0,.int .i64 0,.int .i64 0,.int .i64 0]):=⟨by kernel_rfl⟩
instance:Zer P T.a21 (.map none):=⟨by kernel_rfl⟩
instance:Zer P T.a18 (.map none):=⟨by kernel_rfl⟩
instance:Zer P T.a5 (.agg #[.int .i64 0,.int .i64 0,.map none]):=⟨by kernel_rfl⟩
instance:Zer P T.a4 (.agg #[.int .i64 0,.int .i64 0,.int .i64 0,.int .i64 0,.int .i64 0,.int .i64 0,.int .i64 0]):=⟨by kernel_rfl⟩
instance:Zer P T.a50 (.agg #[.slice none 0 0,.int .i64 0,.int .i64 0]):=⟨by kernel_rfl⟩
instance:Zer P T.a9 (.agg #[.int .i64 0,.int .i64 0,.int .i64 0]):=⟨by kernel_rfl⟩
instance:Zer P T.a11 (.agg #[.int .i64 0,.int .i64 0,.int .i64 0]):=⟨by kernel_rfl⟩
instance:Zer P T.a35 (.slice none 0 0):=⟨by kernel_rfl⟩
instance:Zer P T.a10 (.agg #[.int .i64 0,.int .i64 0,.int .i64 0,.int .i64 0,.slice none 0 0]):=⟨by kernel_rfl⟩
instance:Zer P T.a46 (.int .u64 0):=⟨by kernel_rfl⟩
instance:SlT P T.a39 T.a32 5 56:=⟨by kernel_rfl,by kernel_rfl⟩
instance:SlT P T.a34 T.a2 4 48:=⟨by kernel_rfl,by kernel_rfl⟩
instance:SlT P T.a33 T.a0 7 72:=⟨by kernel_rfl,by kernel_rfl⟩
instance:SlT P T.a42 T.a48 1 1:=⟨by kernel_rfl,by kernel_rfl⟩
instance:SlT P T.a41 T.a47 1 16:=⟨by kernel_rfl,by kernel_rfl⟩
instance:SlT P T.a37 T.a14 4 32:=⟨by kernel_rfl,by kernel_rfl⟩
instance:SlT P T.a40 T.a42 1 24:=⟨by kernel_rfl,by kernel_rfl⟩
instance:SlT P T.a36 T.a13 1 8:=⟨by kernel_rfl,by kernel_rfl⟩
instance:SlT P T.a38 T.a29 1 8:=⟨by kernel_rfl,by kernel_rfl⟩
instance:SlT P T.a35 T.a9 3 24:=⟨by kernel_rfl,by kernel_rfl⟩
structure RecM where
 key:ByteArray
 value:ByteArray
 gone:Bool
 time:Int
def z02 (r:RecM):List Value:=[.string r.key,.string r.value,.bool r.gone,.int .i64 r.time]
instance:EncA z02 [.str,.str,.bool,.int .i64] (λr=>(r.key,r.value,r.gone,r.time,())):=⟨λ_=>rfl⟩
instance:EncN z02 4:=⟨λ_=>rfl,by decide,by simp [z02,Value.oneCell']⟩
structure BatM where
 base:Int
 pid:Int
 epoch:Int
 seq:Int
 kind:Int
 time:Int
 x:Sl
 rs:List RecM
def zu (b:BatM):List Value:=[.int .i64 b.base,.int .i64 b.pid,.int .i64 b.epoch,.int .i64 b.seq,.int .i64 b.kind,.int .i64 b.time,.slice b.x.a b.x.len b.x.cap]
instance:EncA zu [.int .i64,.int .i64,.int .i64,.int .i64,.int .i64,.int .i64,.slc] (λb=>(b.base,b.pid,b.epoch,b.seq,b.kind,b.time,b.x,())):=⟨λ_=>rfl⟩
instance:EncN zu 7:=⟨λ_=>rfl,by decide,by simp [zu,Value.oneCell']⟩
def z0h (b:BatM):Bool:=decide (b.kind=2) || decide (b.kind=3)
def z60 (b:BatM):Prop:=(0<=b.kind/\b.kind<=3)/\(0<=b.base/\b.base<=1099511627776)/\(0<=b.pid/\b.pid<=1048576)/\(0<=b.epoch/\b.epoch<=32767)/\(0<=b.seq/\b.seq<=2147483647)/\(0<=b.time/\b.time<=1099511627776)
instance (b:BatM):Decidable (z60 b):=by unfold z60;infer_instance
def z4q (b:BatM):Prop:=¬ (b.pid=0/\(b.kind≠0\/b.epoch≠0\/b.seq≠0))/\if z0h b then b.seq=0/\b.rs.length=0 else 0<b.rs.length
instance (b:BatM):Decidable (z4q b):=by unfold z4q;infer_instance
def z22 (r:RecM):Int:=if r.key.size>1024\/r.value.size>1024 then 7 else if ¬ (0<=r.time/\r.time<=1099511627776)\/(r.gone=true/\r.value.size>0) then 2 else 0
def z5d:List RecM->Int
 | []=>0
 | r::rs=>if z22 r≠0 then z22 r else z5d rs
def zo (b:BatM):Int:=if z0h b then 1 else (b.rs.length:Nat)
def z03 (b:BatM):Int:=if ¬ z60 b\/¬ z4q b then 2 else if b.rs.length>64 then 7 else if z5d b.rs≠0 then z5d b.rs else
 if b.base>1099511627776-(zo b-1)\/(b.pid>0/\z0h b=false/\b.seq>2147483647-(zo b-1)) then 24 else 0
def z1l (b:BatM):Int:=if z03 b≠0 then 0 else b.base+zo b
theorem zgz:∀ (rs:List RecM) (i:Nat) (hi:i<rs.length),z5d (rs.take i)=0->z22 rs[i]≠0->z5d rs=z22 rs[i]
 | r::rs,0,_,_,h=>by
  have h:z22 r≠0:=h
  show (if z22 r≠0 then z22 r else z5d rs)=z22 r
  rw [if_pos h]
 | r::rs,i+1,hi,h1,h2=>by
  have h1:(if z22 r≠0 then z22 r else z5d (rs.take i))=0:=h1
  by_cases h:z22 r≠0
  ·rw [if_pos h] at h1;exact absurd h1 h
  ·rw [if_neg h] at h1
   show (if z22 r≠0 then z22 r else z5d rs)=_
   rw [if_neg h]
   exact zgz rs i (by simpa using hi) h1 h2
theorem zgy:∀ (rs:List RecM) (i:Nat) (hi:i<rs.length),z5d (rs.take i)=0->z22 rs[i]=0->z5d (rs.take (i+1))=0
 | r::rs,0,_,_,h=>by
  have h:z22 r=0:=h
  show (if z22 r≠0 then z22 r else z5d (rs.take 0))=0
  rw [if_neg (by rw [h];simp)];rfl
 | r::rs,i+1,hi,h1,h2=>by
  have h1:(if z22 r≠0 then z22 r else z5d (rs.take i))=0:=h1
  by_cases h:z22 r≠0
  ·rw [if_pos h] at h1;exact absurd h1 h
  ·rw [if_neg h] at h1
   show (if z22 r≠0 then z22 r else z5d (rs.take (i+1)))=0
   rw [if_neg h]
   exact zgy rs i (by simpa using hi) h1 h2
theorem zks {s:ByteArray}:s.size>0↔s≠ByteArray.mk #[]:=by
 constructor
 ·rintro h rfl;exact absurd h (Nat.lt_irrefl 0)
 ·intro h
  rcases Nat.eq_zero_or_pos s.size with h0|h0
  ·exfalso
   apply h
   obtain ⟨⟨l⟩⟩:=s
   have h0:l.length=0:=h0
   rw [List.length_eq_zero_iff.1 h0]
  ·exact h0
section
variable {w:World} {l r:List HP} {b:BatM}
theorem z63 (b:BatM) (hs:Sat w l):Ret P F.a117 #[.agg (zu b).toArray] w λvs w'=>vs=[.bool (z0h b)]/\Sat w' l :=
 zmc b.base b.pid b.epoch b.seq b.kind b.time b.x <| by
  delta zyq Aa Ab Ag Ap Ar As
  refine zn hs λa0 w' hs=>?_
  refine za hs ?_
  refine za hs ?_
  refine wp_lt ?_
  exact ⟨rfl,rfl,hs.tail⟩
theorem zb6 (n lo hi:Int) (hs:Sat w l):Ret P F.a123 #[.int .i64 n,.int .i64 lo,.int .i64 hi] w λvs w'=>vs=[.bool (decide (lo<=n/\n<=hi))]/\Sat w' l :=
 zmi n lo hi <| by
  delta zyw Ag Ap
  refine wp_lt ?_
  exact ⟨rfl,by rw [Bool.decide_and],hs⟩
theorem zuw (b:BatM) [hb:FocR l b.x 4 (b.rs.flatMap z02)] (hs:Sat w l):Ret P F.a113 #[.agg (zu b).toArray] w λvs w'=>vs=[.int .i64 (zo b)]/\Sat w' l :=
 zm8 b.base b.pid b.epoch b.seq b.kind b.time b.x <| by
  delta zym AS Aa Ab Ac Af Ah Ak Al Ao Ap;unfold zo
  have hl:=hs.slen b.x (xs:=b.rs) (enc:=z02)
  refine zn hs λa0 w' hs=>?_
  refine zi hs ?_
  refine z8 (z63 b hs) λ_ _ hs=>?_
  obtain ⟨rfl,hs⟩:=hs
  refine zb ?_
  refine ze (λh=>?_) λh=>?_
  ·rw [if_pos h];exact ⟨rfl,rfl,hs.tail⟩
  ·rw [if_neg h]
   refine za hs ?_
   refine wp_lt ?_
   rw [hl]
   exact ⟨rfl,rfl,hs.tail⟩
theorem zwt (r:RecM) (hs:Sat w l):Ret P F.a121 #[.agg (z02 r).toArray] w λvs w'=>vs=[.int .i64 (z22 r)]/\Sat w' l :=
 zmg r.key r.value r.gone r.time <| by
  delta zyu AH AY Ab Ah Ao Ap Ar BL Be Bx;unfold z22
  refine zn hs λa0 w' hs=>?_
  refine za hs ?_
  refine za hs ?_
  refine wp_lt ?_
  refine ze (λh=>?_) λh=>?_
  ·rw [if_pos (by omega)];exact ⟨rfl,rfl,hs.tail⟩
  rw [if_neg (by omega)]
  refine za hs ?_
  refine z8 (zb6 r.time 0 1099511627776 hs) λ_ _ hs=>?_
  obtain ⟨rfl,hs⟩:=hs
  refine zb ?_
  refine za hs ?_
  refine za hs ?_
  refine wp_lt ?_
  have e:(¬ (0<=r.time/\r.time<=1099511627776)\/(r.gone=true/\r.value.size>0))↔(¬ (0<=r.time/\r.time<=1099511627776)\/(r.gone=true/\¬ r.value=ByteArray.mk #[])):=by rw [zks]
  refine ze (λh=>?_) λh=>?_
  ·rw [if_pos (e.2 h)];exact ⟨rfl,rfl,hs.tail⟩
  ·rw [if_neg (λh2=>h (e.1 h2))];exact ⟨rfl,rfl,hs.tail⟩
theorem zuc (b:BatM) (hs:Sat w l):Ret P F.a118 #[.agg (zu b).toArray] w λvs w'=>vs=[.bool (decide (z60 b))]/\Sat w' l :=
 zmd b.base b.pid b.epoch b.seq b.kind b.time b.x <| by
  delta zyr Aa Ab Ag Ah Aj Ak Ao Ap Ar As
  refine zn hs λa0 w' hs=>?_
  refine zg (λv w'=>v=(decide (z60 b),())/\Sat w' l) ?_ (by rintro _ w' ⟨rfl,hs⟩;refine zm ?_;exact ⟨rfl,rfl,hs⟩)
  have hno:∀ {w'},¬ z60 b->Sat w' (pt a0 (.cells #[.int .i64 b.base,.int .i64 b.pid,.int .i64 b.epoch,.int .i64 b.seq,.int .i64 b.kind,.int .i64 b.time,.slice b.x.a b.x.len b.x.cap] T.a0)::l)->((false,()):Bool × Unit)=(decide (z60 b),())/\Sat w' l:=λh hs=>⟨by rw [decide_eq_false h],hs.tail⟩
  refine za hs ?_
  refine za hs ?_
  refine za hs ?_
  refine ze (λh1=>?_) λh1=>?_
  rotate_left
  ·exact zj (hno (λh=>h1 h.1) hs)
  refine z8 (zb6 b.base 0 1099511627776 hs) λ_ _ hs=>?_
  obtain ⟨rfl,hs⟩:=hs
  refine zb ?_
  refine za hs ?_
  refine ze (λh2=>?_) λh2=>?_
  rotate_left
  ·exact zj (hno (λh=>h2 h.2.1) hs)
  refine z8 (zb6 b.pid 0 1048576 hs) λ_ _ hs=>?_
  obtain ⟨rfl,hs⟩:=hs
  refine zb ?_
  refine za hs ?_
  refine za hs ?_
  refine za hs ?_
  refine za hs ?_
  refine za hs ?_
  refine ze (λh3=>?_) λh3=>?_
  rotate_left
  ·exact zj (hno (λh=>h3 ⟨⟨⟨⟨h.2.2.1,h.2.2.2.1.1⟩,h.2.2.2.1.2⟩,h.2.2.2.2.1.1⟩,h.2.2.2.2.1.2⟩) hs)
  refine z8 (zb6 b.time 0 1099511627776 hs) λ_ _ hs=>?_
  obtain ⟨rfl,hs⟩:=hs
  refine zb ?_
  refine wp_lt ?_
  refine zj ⟨?_,hs.tail⟩
  have:(z60 b)↔(0<=b.time/\b.time<=1099511627776):=⟨λh=>h.2.2.2.2.2,λh=>⟨h1,h2,h3.1.1.1.1,⟨h3.1.1.1.2,h3.1.1.2⟩,⟨h3.1.2,h3.2⟩,h⟩⟩
  rw [decide_eq_decide.2 this]
theorem z02i (b:BatM) [hb:FocR l b.x 4 (b.rs.flatMap z02)] (hs:Sat w l):Ret P F.a116 #[.agg (zu b).toArray] w λvs w'=>vs=[.bool (decide (z4q b))]/\Sat w' l :=
 zmb b.base b.pid b.epoch b.seq b.kind b.time b.x <| by
  delta zyp AS Aa Ab Ac Ag Ak Al Ao Ap Ar As BA
  have hl:=hs.slen b.x (xs:=b.rs) (enc:=z02)
  refine zn hs λa0 w' hs=>?_
  refine za hs ?_
  refine za hs ?_
  refine za hs ?_
  refine za hs ?_
  refine ze (λh1=>?_) λh1=>?_
  ·have:¬ z4q b:=λh=>h.1 ⟨h1.1,or_assoc.1 h1.2⟩
   exact ⟨rfl,by rw [decide_eq_false this],hs.tail⟩
  have h1:¬ (b.pid=0/\(b.kind≠0\/b.epoch≠0\/b.seq≠0)):=λh=>h1 ⟨h.1,or_assoc.2 h.2⟩
  refine zi hs ?_
  refine z8 (z63 b hs) λ_ _ hs=>?_
  obtain ⟨rfl,hs⟩:=hs
  refine zb ?_
  refine ze (λh2=>?_) λh2=>?_
  ·refine za hs ?_
   refine za hs ?_
   refine wp_lt ?_
   refine ⟨rfl,?_,hs.tail⟩
   have:z4q b↔(b.seq=0/\b.rs.length=0):=by
    unfold z4q
    rw [if_pos h2]
    exact ⟨λh=>h.2,λh=>⟨h1,h⟩⟩
   congr 2
   rw [Bool.eq_iff_iff,decide_eq_true_iff,this,Bool.and_eq_true,beq_iff_eq,beq_iff_eq,hl]
   omega
  ·refine za hs ?_
   refine wp_lt ?_
   refine ⟨rfl,?_,hs.tail⟩
   have:z4q b↔0<b.rs.length:=by
    unfold z4q
    rw [if_neg h2]
    exact ⟨λh=>h.2,λh=>⟨h1,h⟩⟩
   congr 2
   rw [Bool.eq_iff_iff,decide_eq_true_iff,decide_eq_true_iff,this,hl]
   omega
theorem z8j (b:BatM) [hb:FocR l b.x 4 (b.rs.flatMap z02)] (hs:Sat w l):Ret P F.a114 #[.agg (zu b).toArray] w λvs w'=>vs=[.int .i64 (z03 b)]/\Sat w' l :=
 zm9 b.base b.pid b.epoch b.seq b.kind b.time b.x <| by
  delta zyn AA AC AD AF AH AP AS Aa Ab Ac Af Ag Ah Aj Ak Al Am Ao Ap Ar As Az BZ Bw Bx;unfold z03
  have hl:=hs.slen b.x (xs:=b.rs) (enc:=z02)
  refine zn hs λa0 w' hs=>?_
  refine zg (λv w'=>v=(decide (¬ z60 b\/¬ z4q b),())/\Sat w' (pt a0 (.cells #[.int .i64 b.base,.int .i64 b.pid,.int .i64 b.epoch,.int .i64 b.seq,.int .i64 b.kind,.int .i64 b.time,.slice b.x.a b.x.len b.x.cap] T.a0)::l)) ?_ ?_
  ·refine zi hs ?_
   refine z8 (zuc b hs) λ_ _ hs=>?_
   obtain ⟨rfl,hs⟩:=hs
   refine zb ?_
   refine zi hs ?_
   refine ze (λh1=>?_) λh1=>?_
   ·exact zj ⟨by rw [decide_eq_true (.inl h1)],hs⟩
   refine z8 (z02i b hs) λ_ _ hs=>?_
   obtain ⟨rfl,hs⟩:=hs
   refine zb ?_
   refine wp_lt ?_
   refine zj ⟨?_,hs⟩
   have:(¬ z60 b\/¬ z4q b)↔¬ z4q b:=⟨λh=>h.resolve_left h1,.inr⟩
   rw [decide_eq_decide.2 this,decide_not]
  clear hs
  rintro _ w ⟨rfl,hs⟩
  refine zm ?_
  refine ze (λh1=>?_) λh1=>?_
  ·rw [if_pos h1];exact ⟨rfl,rfl,hs.tail⟩
  rw [if_neg h1]
  have hnum:z60 b:=Decidable.not_not.1 λh=>h1 (.inl h)
  have hfit:z4q b:=Decidable.not_not.1 λh=>h1 (.inr h)
  refine za hs ?_
  refine wp_lt ?_
  refine ze (λh2=>?_) λh2=>?_
  ·rw [if_pos (by omega)];exact ⟨rfl,rfl,hs.tail⟩
  rw [if_neg (by omega)]
  refine za hs ?_
  refine zg (λv w'=>z5d b.rs=0/\Sat w' (pt a0 (.cells #[.int .i64 b.base,.int .i64 b.pid,.int .i64 b.epoch,.int .i64 b.seq,.int .i64 b.kind,.int .i64 b.time,.slice b.x.a b.x.len b.x.cap] T.a0)::l)) ?_ ?_
  ·refine z04 (λk v w=>∃ i:Nat,v=((i:Int),())/\i<=b.rs.length/\b.rs.length-i=k/\z5d (b.rs.take i)=0/\Sat w (pt a0 (.cells #[.int .i64 b.base,.int .i64 b.pid,.int .i64 b.epoch,.int .i64 b.seq,.int .i64 b.kind,.int .i64 b.time,.slice b.x.a b.x.len b.x.cap] T.a0)::l)) b.rs.length ⟨0,rfl,by omega,rfl,rfl,hs⟩ ?_
   clear hs
   rintro k _ w ⟨i,rfl,hi,hk,hbad,hs⟩
   refine zm ?_
   refine ze (λhc=>?_) λhc=>?_
   rotate_left
   ·refine zh (zj ⟨?_,hs⟩)
    rwa [List.take_of_length_le (by omega)] at hbad
   have hil:i<b.rs.length:=by omega
   refine z68 hs i hil ?_
   refine zt hs λc w' hs=>?_
   refine zv hs λw' hs=>?_
   refine zi hs ?_
   refine z8 (zwt b.rs[i] hs) λ_ _ hs=>?_
   obtain ⟨rfl,hs⟩:=hs
   refine zb ?_
   refine wp_lt ?_
   refine ze (λh3=>?_) λh3=>?_
   ·refine wp_lt ?_
    refine zh (zh ?_)
    have:=zgz b.rs i hil hbad h3
    rw [if_pos (by rw [this];exact h3),this]
    exact ⟨rfl,rfl,hs.tail.tail⟩
   ·refine z3c (us':=[.int .i64 ((i+1:Nat):Int)]) (by (try simp (disch:=omega) only [w64]);first|rfl|(congr;omega)) ?_
    refine z16 (b.rs.length-(i+1)) ?_
    exact ⟨i+1,rfl,by omega,rfl,zgy b.rs i hil hbad (Decidable.not_not.1 h3),hs.sub⟩
  clear hs
  rintro _ w ⟨hbad,hs⟩
  refine zm ?_
  rw [if_neg (by rw [hbad];simp)]
  refine zi hs ?_
  refine z8 (zuw b hs) λ_ _ hs=>?_
  obtain ⟨rfl,hs⟩:=hs
  refine zb ?_
  have hsp:1<=zo b/\zo b<=64:=by
   unfold zo
   have h3:=hfit.2
   split
   ·omega
   ·rename_i hm
    rw [if_neg hm] at h3
    omega
  obtain ⟨-,hba,-,-,hse,-⟩:=hnum
  refine z1w (y:=zo b-1) ?_ (by rw [w64 (by omega) (by omega)])
  refine zg (λv w'=>v=(decide (b.base>1099511627776-(zo b-1)\/(b.pid>0/\z0h b=false/\b.seq>2147483647-(zo b-1))),())/\Sat w' l) ?_ ?_
  ·rw [w64 (x:=1099511627776-(zo b-1)) (by omega) (by omega)]
   refine za hs ?_
   refine za hs ?_
   refine zi hs ?_
   refine ze (λh3=>?_) λh3=>?_
   ·exact zj ⟨by rw [decide_eq_true (.inl h3)],hs.tail⟩
   refine ze (λh4=>?_) λh4=>?_
   rotate_left
   ·exact zj ⟨by rw [decide_eq_false (λh=>h.elim h3 λh=>h4 h.1)],hs.tail⟩
   refine z8 (z63 b hs) λ_ _ hs=>?_
   obtain ⟨rfl,hs⟩:=hs
   refine zb ?_
   refine za hs ?_
   rw [w64 (x:=2147483647-(zo b-1)) (by omega) (by omega)]
   refine zj ⟨?_,hs.tail⟩
   have:(b.base>1099511627776-(zo b-1)\/(b.pid>0/\z0h b=false/\b.seq>2147483647-(zo b-1)))↔(z0h b=false/\b.seq>2147483647-(zo b-1)):=⟨λh=>(h.resolve_left h3).2,λh=>.inr ⟨h4,h⟩⟩
   rw [decide_eq_decide.2 this,Bool.decide_and]
   cases z0h b <;> rfl
  clear hs
  rintro _ w ⟨rfl,hs⟩
  refine zm ?_
  refine ze (λh3=>?_) λh3=>?_
  ·rw [if_pos h3];exact ⟨rfl,rfl,hs⟩
  ·rw [if_neg h3];exact ⟨rfl,rfl,hs⟩
theorem z12 (b:BatM) (hv:z03 b=0):1<=zo b/\zo b<=64/\z60 b/\z4q b/\b.base+zo b<=1099511627777:=by
 unfold z03 at hv
 split at hv
 ·cases hv
 rename_i h1
 have hnum:z60 b:=Decidable.not_not.1 λh=>h1 (.inl h)
 have hfit:z4q b:=Decidable.not_not.1 λh=>h1 (.inr h)
 split at hv
 ·cases hv
 rename_i h2
 split at hv
 ·rename_i h3;exact absurd hv h3
 split at hv
 ·cases hv
 rename_i h4
 have hsp:1<=zo b/\zo b<=64:=by
  unfold zo
  have h3:=hfit.2
  split
  ·omega
  ·rename_i hm
   rw [if_neg hm] at h3
   omega
 refine ⟨hsp.1,hsp.2,hnum,hfit,?_⟩
 apply Decidable.byContradiction
 intro h5
 exact h4 (.inl (by omega))
theorem z8h (b:BatM) [hb:FocR l b.x 4 (b.rs.flatMap z02)] (hs:Sat w l):Ret P F.a112 #[.agg (zu b).toArray] w λvs w'=>vs=[.int .i64 (z1l b)]/\Sat w' l :=
 zm7 b.base b.pid b.epoch b.seq b.kind b.time b.x <| by
  delta zyl AF AL AN Aa Ab Ac Af Ah Ak Am Ap Bj;unfold z1l
  refine zn hs λa0 w' hs=>?_
  refine zi hs ?_
  refine z8 (z8j b hs) λ_ _ hs=>?_
  obtain ⟨rfl,hs⟩:=hs
  refine zb ?_
  refine ze (λh=>?_) λh=>?_
  ·rw [if_pos h];exact ⟨rfl,rfl,hs.tail⟩
  rw [if_neg h]
  obtain ⟨h1,h2,h3,-⟩:=z12 b (Decidable.not_not.1 h)
  have h3:=h3.2.1
  refine zy hs λw' hs=>?_
  refine z18 hs ?_
  refine zi hs ?_
  refine z8 (zuw b hs) λ_ w' hs=>?_
  obtain ⟨rfl,hs⟩:=hs
  refine zb ?_ ⟨trivial,λ_=>z09 hs⟩
  refine z1w (y:=b.base+zo b) ?_ (by rw [w64 (by omega) (by omega)])
  refine zd ?_
  exact ⟨rfl,rfl,hs.tail⟩
end
theorem zhs {K V:Type} {kk:K} {v v':V}:∀ {es:List (K × V)},(es.map Prod.fst).Nodup->(kk,v) ∈ es->(kk,v') ∈ es->v'=v
 | a::r,hnd,hv,hv'=>by
  rw [List.map_cons,List.nodup_cons] at hnd
  rcases List.mem_cons.1 hv with h1|h1 <;> rcases List.mem_cons.1 hv' with h2|h2
  ·rw [<- h1] at h2;exact (Prod.mk.inj h2).2
  ·exact absurd (List.mem_map.2 ⟨_,h2,by rw [<- h1]⟩) hnd.1
  ·exact absurd (List.mem_map.2 ⟨_,h1,by rw [<- h2]⟩) hnd.1
  ·exact zhs hnd.2 h1 h2
section
variable {K V:Type} {ek:K->Value} {ev:V->Value} {m:Nat} {es:List (K × V)} {P:Program} {w:World} {l r:List HP} {Q:Post} {S:World->Prop} {T kt:TypeId} {z:Value} {g:Prop} {kk:K} {kv:Value}
theorem zox [hf:FoM l m ek ev es r] [hT:MapT P T kt z] [hk:KeyT P kt ek] [hkv:IsK ek kv kk] (hs:Sat w l) {v:V} (hv:(kk,v) ∈ es) {ss:List Sh1} {x:HL (prims ss)} (hx:z13 ss x=[ev v,.bool true]) :
  (Instr.lookup T (.map (some m)) kv true).run P w=.ok ((Sh.tup ss).mk x) w:=by
 have hs:=hs.perm hf.perm
 have hnd:=hs.mapNodup
 rcases zaz (P:=P) (T:=T) true hs kk with ⟨v',hv',hr⟩|⟨hno,-⟩
 ·have:v'=v:=zhs hnd hv hv'
  rw [hkv.ok,hr,this]
  show Result.ok (Value.tuple #[ev v,.bool true]) w=Result.ok (Value.tuple (z13 ss x).toArray) w
  rw [hx]
 ·exact absurd hv (hno _)
theorem zjy [hf:FoM l m ek ev es r] [hT:MapT P T kt z] [hk:KeyT P kt ek] [hkv:IsK ek kv kk] (hs:Sat w l) (hv:∀ v,(kk,v) ∉ es) {ss:List Sh1} {x:HL (prims ss)} (hx:z13 ss x=[z,.bool false]) :
  (Instr.lookup T (.map (some m)) kv true).run P w=.ok ((Sh.tup ss).mk x) w:=by
 have hs:=hs.perm hf.perm
 rcases zaz (P:=P) (T:=T) true hs kk with ⟨v',hv',hr⟩|⟨-,hr⟩
 ·exact absurd hv' (hv _)
 ·rw [hkv.ok,hr]
  show Result.ok (Value.tuple #[z,.bool false]) w=Result.ok (Value.tuple (z13 ss x).toArray) w
  rw [hx]
theorem zb7 {ss:List Sh1} {k:HL (prims ss)->Prog} [hf:FoM l m ek ev es r] [hT:MapT P T kt z] [hk:KeyT P kt ek] [hkv:IsK ek kv kk] (hs:Sat w l) (o:Option V) (ho:(∃ v,o=some v/\(kk,v) ∈ es)\/(o=none/\∀ v,(kk,v) ∉ es)) (d:Option V->HL (prims ss))
  (h:(k (d o)).wp P (λw'=>S w'/\(g->(Instr.lookup T (.map (some m)) kv true).run P w'=.ok ((Sh.tup ss).mk (d o)) w')) w Q) (h1:∀ v,z13 ss (d (some v))=[ev v,.bool true]:=by intros;rfl) (h0:z13 ss (d none)=[z,.bool false]:=by rfl) :
  (Prog.hold g (Instr.lookup T (.map (some m)) kv true) (.tup ss) k).wp P S w Q:=by
 refine ⟨d o,λ_=>?_,h⟩
 rcases ho with ⟨v,rfl,hv⟩|⟨rfl,hv⟩
 ·exact zox hs hv (h1 v)
 ·exact zjy hs hv h0
theorem z7t {ss:List Sh1} [hf:FoM l m ek ev es r] [hT:MapT P T kt z] [hk:KeyT P kt ek] [hkv:IsK ek kv kk] (hs:Sat w l) {o:Option V} (ho:(∃ v,o=some v/\(kk,v) ∈ es)\/(o=none/\∀ v,(kk,v) ∉ es)) (d:Option V->HL (prims ss))
  (h1:∀ v,z13 ss (d (some v))=[ev v,.bool true]:=by intros;rfl) (h0:z13 ss (d none)=[z,.bool false]:=by rfl) :
  (Instr.lookup T (.map (some m)) kv true).run P w=.ok ((Sh.tup ss).mk (d o)) w:=by
 rcases ho with ⟨v,rfl,hv⟩|⟨rfl,hv⟩
 ·exact zox hs hv (h1 v)
 ·exact zjy hs hv h0
theorem zxe {ss:List Sh1} {k:HL (prims ss)->Prog} [hf:FoM l m ek ev es r] [hT:MapT P T kt z] [hk:KeyT P kt ek] [hkv:IsK ek kv kk] (hs:Sat w l) (o:Option V) (ho:(∃ v,o=some v/\(kk,v) ∈ es)\/(o=none/\∀ v,(kk,v) ∉ es)) (d:Option V->HL (prims ss))
  (h:(k (d o)).wp P S w Q) (h1:∀ v,z13 ss (d (some v))=[ev v,.bool true]:=by intros;rfl) (h0:z13 ss (d none)=[z,.bool false]:=by rfl) :
  (Prog.read g (Instr.lookup T (.map (some m)) kv true) (.tup ss) k).wp P S w Q :=
 ⟨d o,λ_=>z7t hs ho d h1 h0,h⟩
end
section
variable {P:Program} {w:World} {l r:List HP} {Q:Post} {S:World->Prop} {t:TypeId} {sz:Nat}
theorem zy5 {α β γ δ:Type} {f:α->β->γ->δ->Prog} (a:α) (b:β) (c:γ) (d:δ) (h:(f a b c d).wp P S w Q):(u4 f (a,b,c,d,())).wp P S w Q:=h
theorem zpt {α:Type} {enc:α->List Value} {n:Nat} {ps:Array (Nat × Value)} {el:TypeId} {bytes:Nat} {k:Sl->Prog} (hs:Sat w l) [ht:SlT P t el sz bytes] [hE:EncN enc sz] (xs:List α)
  (h:∀ x w',Sat w' (slc el sz x (xs.flatMap enc)::l)->(k x).wp P S w' Q) (hc:z3s P t n ps=some (el,(xs.flatMap enc).toArray):=by kernel_rfl) (hn:xs.length=n:=by rfl) (hS:∀ w',S w':=by exact λ_=>trivial) :
  (Prog.act (Instr.buildSlice t n ps) sL (u1 k)).wp P S w Q:=z8l hs xs hc (λb w' hs=>h _ w' hs) (by simp) hn hS
end
section
variable {P:Program} {w:World} {l r:List HP} {Q:Post} {S:World->Prop} {α β γ δ ε ζ η θ:Type}
theorem z4g {f:α->β->Prog} (a:α) (b:β) (h:(f a b).wp P S w Q):(u2 f (a,b,())).wp P S w Q:=h
theorem z7p {f:α->β->γ->Prog} (a:α) (b:β) (c:γ) (h:(f a b c).wp P S w Q):(u3 f (a,b,c,())).wp P S w Q:=h
theorem z8d {f:α->β->γ->δ->ε->Prog} (a:α) (b:β) (c:γ) (d:δ) (e:ε) (h:(f a b c d e).wp P S w Q):(u5 f (a,b,c,d,e,())).wp P S w Q:=h
theorem ziw {f:α->β->γ->δ->ε->ζ->η->Prog} (a:α) (b:β) (c:γ) (d:δ) (e:ε) (z:ζ) (y:η) (h:(f a b c d e z y).wp P S w Q):(u7 f (a,b,c,d,e,z,y,())).wp P S w Q:=h
theorem zct {f:α->β->γ->δ->ε->ζ->η->θ->Prog} (a:α) (b:β) (c:γ) (d:δ) (e:ε) (z:ζ) (y:η) (x:θ) (h:(f a b c d e z y x).wp P S w Q):(u8 f (a,b,c,d,e,z,y,x,())).wp P S w Q:=h
theorem zv4 {f : FuncId} {cap : Array Value} {args : List Value} {s : Sh} {k : HL s.prims → Prog} {vs₀ : List Value} {R : World → Prop} (hok : (P.funcs[f]?).any (fun fn => fn.body.isSome && fn.name != "runtime.NumGoroutine") = true) (x : HL s.prims)
  (hc:Ret P f (args.toArray++cap) w λvs w'=>vs=vs₀/\R w') (hx:z7e vs₀=s.mk x) (h:∀ w',R w'->S w'/\(k x).wp P S w' Q):(Prog.callv (.func (.func f) #[] cap) args s k).wp P S w Q:=by
 refine ⟨f,#[],cap,rfl,hok,?_⟩
 have e:(#[]:Array Value)++args.toArray++cap=args.toArray++cap:=by simp
 rw [e]
 refine Calls.mono hc λe w' ⟨vs,he,hv,hR⟩=>?_
 exact ⟨x,by rw [he,hv,hx],h w' hR⟩
end
section
variable {P:Program} {w:World} {l r:List HP} {Q:Post} {S:World->Prop} {b off:Nat} {T T':TypeId} {g:Prop}
theorem z01o {a:Addr} {vs:List Value} {fr:Nat × Nat} {ps:List Pr} (x:HL ps) {n:Nat} (hs:Sat w l) [ha:AddrIs a b off] [hb:FocB l b (.cells vs.toArray T' fr) r] [hT:Agg P T n] (hx:(vs.drop off).take n=HL.vals ps x) (hn:(HL.vals ps x).length=n) :
  (ld T a).run P w=.ok ((Sh.one (.agg ps)).mk x) w:=by
 rw [ha.ok]
 refine At.ldA (P:=P) (T:=T) (vs:=HL.vals ps x) ⟨b,off,vs.toArray,T',fr,rfl,(hs.focB b).get,λi hi=>?_⟩ hn
 rw [<- hx,List.getElem?_take,if_pos (by omega),List.getElem?_drop]
 simp
theorem zl5 {a:Addr} {vs:List Value} {fr:Nat × Nat} {ps:List Pr} {k:HL ps->Prog} (hs:Sat w l) (x:HL ps) {n:Nat} [ha:AddrIs a b off] [hb:FocB l b (.cells vs.toArray T' fr) r] [hT:Agg P T n] {p:Prog} [hA:App k x p]
  (h:p.wp P S w Q) (hx:(vs.drop off).take n=HL.vals ps x:=by rfl) (hn:(HL.vals ps x).length=n:=by rfl):(Prog.read g (ld T a) (.one (.agg ps)) k).wp P S w Q :=
 ⟨x,λ_=>z01o (T:=T) x hs hx hn,by rw [hA.ok];exact h⟩
end
section
variable {P:Program} {w:World} {l r:List HP} {Q:Post} {S:World->Prop} {T:TypeId} {sz:Nat} {x:Sl}
theorem At.part {A:Addr} {vs:List Value} (h:At w A vs) (j q:Nat):At w (A.add j) ((vs.drop j).take q):=by
 obtain ⟨b,o,arr,T',fr,rfl,hb,hc⟩:=h
 refine ⟨b,o+j,arr,T',fr,z3v ..,hb,λi hi=>?_⟩
 rw [List.length_take,List.length_drop] at hi
 rw [List.getElem?_take,if_pos (by omega),List.getElem?_drop,Nat.add_assoc,hc (j+i) (by omega)]
end
structure TabA where
 most:Int
 next:Int
 rows:List RowA
def z4x (A:TabA) (pid:Int):Option RowA:=A.rows.find? λr=>decide (r.pid=pid)
def z03h (pid:Int):RowA:=⟨pid,-1,0,0,0,-1,0⟩
def z0r (A:TabA) (pid:Int):RowA:=(z4x A pid).getD (z03h pid)
def z89 (rs:List RowA):List RowA:=rs.filter λr=>decide (0<=r.frm)
structure okRw (r:RowA) (next:Int):Prop where
 pid:1<=r.pid/\r.pid<=1048576
 epoch:0<=r.epoch/\r.epoch<=32768
 time:0<=r.time/\r.time<=1099511627776
 count:0<=r.count/\r.count<=64
 seq:0<=r.seq
 base:0<=r.base
 frm : -1<=r.frm
 none_:r.count=0->r.seq=0/\r.base=0/\r.frm = -1
 some_:0<r.count->r.epoch<=32767/\r.seq+r.count<=2147483648/\r.base+r.count<=next/\r.frm<=r.base
structure okTb (A:TabA):Prop where
 most:1<=A.most/\A.most<=4096
 next:0<=A.next/\A.next<=1099511627777
 many:(A.rows.length:Int)<=A.most
 row:∀ r ∈ A.rows,okRw r A.next
 byPid:A.rows.Pairwise λa b=>a.pid<b.pid
 apart:(z89 A.rows).Pairwise λa b=>a.frm≠b.frm
instance:KeyT P T.a13 ekI:=zju (by kernel_rfl)
instance:MapT P T.a18 T.a13 (.agg #[.int .i64 0,.int .i64 0,.int .i64 0,.int .i64 0,.int .i64 0,.int .i64 0,.int .i64 0]):=⟨T.a4,by kernel_rfl,by kernel_rfl⟩
def z2y (rs:List RowA):List (Int × RowA):=rs.map λr=>(r.pid,r)
def tb (t:Nat) (A:TabA):HP:=HP.ex λm:Nat=>HP.and (okTb A) (HP.star (pt t (.cells #[.int .i64 A.most,.int .i64 A.next,.map (some m)] T.a5)) (z17 ekI evW m (z2y A.rows)))
theorem okRw.seqs {r:RowA} {next:Int} (h:okRw r next):r.seq+r.count<=2147483648:=by
 have h1:=h.count;have h2:=h.seq
 rcases Int.lt_or_le 0 r.count with h3|h3
 ·exact (h.some_ h3).2.1
 ·have:=(h.none_ (by omega)).1;omega
theorem z2f {A:TabA} {pid:Int} {t:RowA} (h:z4x A pid=some t):t ∈ A.rows/\t.pid=pid:=⟨List.mem_of_find?_eq_some h,by simpa using List.find?_some h⟩
theorem zcd {A:TabA} {pid:Int} (h:z4x A pid=none):∀ t ∈ A.rows,t.pid≠pid:=λt ht=>by simpa using List.find?_eq_none.1 h t ht
theorem zi1 (A:TabA) (pid:Int):(∃ t,z4x A pid=some t/\(pid,t) ∈ z2y A.rows)\/(z4x A pid=none/\∀ t,(pid,t) ∉ z2y A.rows):=by
 cases h:z4x A pid with
 | some t=>exact .inl ⟨t,rfl,List.mem_map.2 ⟨t,(z2f h).1,by rw [(z2f h).2]⟩⟩
 | none=>exact .inr ⟨rfl,λt ht=>by
   obtain ⟨u,hu,e⟩:=List.mem_map.1 ht
   simp only [Prod.mk.injEq] at e
   exact zcd h u hu e.1⟩
theorem zgm {A:TabA} (hok:okTb A) (pid:Int):0<=(z0r A pid).seq/\0<=(z0r A pid).count/\(z0r A pid).seq+(z0r A pid).count<=2147483648 /\ -1<=(z0r A pid).epoch/\(z0r A pid).epoch<=32768 /\ -1<=(z0r A pid).frm/\(z0r A pid).pid=pid:=by
 unfold z0r
 cases h:z4x A pid with
 | none=>simp [z03h]
 | some t =>
  have h1:=hok.row t (z2f h).1
  have:=h1.seqs;have:=h1.seq;have:=h1.count;have:=h1.epoch;have:=h1.frm;have:=(z2f h).2
  simp only [Option.getD_some];omega
section
variable {w:World} {l r r1 r2 l':List HP} {t:Nat} {A:TabA}
theorem zab (hs:Sat w (tb t A::l)):∃ m:Nat,okTb A/\Sat w (pt t (.cells #[.int .i64 A.most,.int .i64 A.next,.map (some m)] T.a5)::z17 ekI evW m (z2y A.rows)::l):=by
 obtain ⟨m,hs⟩:=hs.ex
 obtain ⟨hok,hs⟩:=hs.and
 exact ⟨m,hok,hs.star⟩
theorem z05y (m:Nat) (hok:okTb A) (hs:Sat w (pt t (.cells #[.int .i64 A.most,.int .i64 A.next,.map (some m)] T.a5)::z17 ekI evW m (z2y A.rows)::l)):Sat w (tb t A::l):=.ex_mk m (.and_mk hok (.star_mk hs))
theorem z33 (m:Nat) (hok:okTb A) (hs:Sat w l) {es1:List (Int × RowA)} [h1:FocB l t (.cells [.int .i64 A.most,.int .i64 A.next,.map (some m)].toArray T.a5) r1] [h2:FoM r1 m ekI evW es1 r2] [h4:Sub r2 l']
  (hp1:es1.Perm (z2y A.rows):=by exact .refl _):Sat w (tb t A::l'):=by
 have hs:=hs.perm (h1.perm.trans (.cons _ h2.perm))
 have hs:=((hs.pick [1]).mapPerm hp1).pick [1]
 have hs:Sat w (tb t A::r2):=z05y m hok hs
 exact hs.sub
theorem zy4 (hs:Sat w (tb t A::l)):okTb A:=(zab hs).choose_spec.1
instance {r:RowA}:IsR (sG [.int .i64,.int .i64,.int .i64,.int .i64,.int .i64,.int .i64,.int .i64]) [.agg (z5g r).toArray] (r.pid,r.epoch,r.seq,r.count,r.base,r.frm,r.time,()):=⟨rfl⟩
instance {r:RowA} {b:Bool}:IsR (.tup [.agg [.int .i64,.int .i64,.int .i64,.int .i64,.int .i64,.int .i64,.int .i64],.one .bool]) [.agg (z5g r).toArray,.bool b] (r.pid,r.epoch,r.seq,r.count,r.base,r.frm,r.time,b,()):=⟨rfl⟩
def z05p (o:Option RowA):Int × Int × Int × Int × Int × Int × Int × Bool × Unit :=
 ((o.getD ⟨0,0,0,0,0,0,0⟩).pid,(o.getD ⟨0,0,0,0,0,0,0⟩).epoch,(o.getD ⟨0,0,0,0,0,0,0⟩).seq,(o.getD ⟨0,0,0,0,0,0,0⟩).count,(o.getD ⟨0,0,0,0,0,0,0⟩).base,(o.getD ⟨0,0,0,0,0,0,0⟩).frm,(o.getD ⟨0,0,0,0,0,0,0⟩).time,o.isSome,())
theorem z03o (most:Int) (hs:Sat w l):Ret P F.a12 #[.int .i64 most] w λvs w' =>
  (1<=most/\most<=4096/\∃ t,vs=[.pointer (some ⟨t,0,none⟩),.int .i64 0]/\Sat w' (tb t ⟨most,0,[]⟩::l))\/((most<1\/most>4096)/\vs=[.pointer none,.int .i64 2]/\Sat w' l) :=
 zrp most <| by
  delta z042 Ab Ad Ah Ak Ap Ax B3
  refine ze (λh=>?_) λh=>?_
  ·exact ⟨rfl,.inr ⟨h,rfl,hs⟩⟩
  refine zb8 ekI evW hs λm w' hs=>?_
  refine zn hs λt w' hs=>?_
  refine ⟨rfl,.inl ⟨by omega,by omega,t,rfl,?_⟩⟩
  exact z33 m (A:=⟨most,0,[]⟩) ⟨by show 1<=most/\most<=4096;omega,by show (0:Int)<=0/\(0:Int)<=_;omega,by show (0:Int)<=most;omega,by simp,by simp,by simp [z89]⟩ hs
theorem zv1 (pid:Int) [hf:Fo l tb t A r] (hs:Sat w l):Ret P F.a23 #[.pointer (some ⟨t,0,none⟩),.int .i64 pid] w λvs w'=>vs=[.agg (z5g (z0r A pid)).toArray,.bool (z4x A pid).isSome]/\Sat w' (tb t A::r) :=
 zrv _ _ <| by
  delta z048 AC AD AI Ag Ah Ak Ap B0 B1 Bn
  obtain ⟨m,hok,hs⟩:=zab (hs.perm hf.perm)
  refine zt hs λa0 w' hs=>?_
  refine zk ?_
  refine za hs ?_
  have ho:=zi1 A pid
  unfold z0r
  generalize z4x A pid=o at ho ⊢
  refine zxe hs o ho z05p ?_
  refine zct _ _ _ _ _ _ _ _ ?_
  refine zt hs λa12 w' hs=>?_
  refine zv hs λw' hs=>?_
  refine wp_lt ?_
  cases o with
  | none =>
   refine z0g ?_ (by simp)
   refine zv hs λw' hs=>?_
   refine zi hs ?_
   exact ⟨rfl,rfl,z33 m hok hs⟩
  | some x =>
   refine z06 ?_ (by simp)
   refine zi hs ?_
   refine zv hs λw' hs=>?_
   refine zi hs ?_
   exact ⟨rfl,rfl,z33 m hok hs⟩
theorem zpr (x:RowA) (h1:0<=x.seq+x.count/\x.seq+x.count<=2147483648) (hs:Sat w l):Ret P F.a13 #[.agg (z5g x).toArray] w λvs w'=>vs=[.int .i64 (x.seq+x.count)]/\Sat w' l :=
 zrq x.pid x.epoch x.seq x.count x.base x.frm x.time <| by
  delta z043 AF Ab Af Ah Ap Ar B0
  refine zn hs λa0 w' hs=>?_
  refine za hs ?_
  refine za hs ?_
  refine z14 ?_
  exact ⟨rfl,rfl,hs.tail⟩
theorem zpg (x:RowA) (hs:Sat w l):Ret P F.a14 #[.agg (z5g x).toArray] w λvs w'=>vs=[.bool (decide (0<=x.frm))]/\Sat w' l :=
 zrr x.pid x.epoch x.seq x.count x.base x.frm x.time <| by
  delta z044 Ab Ag Ap Ar B0
  refine zn hs λa0 w' hs=>?_
  refine za hs ?_
  refine wp_lt ?_
  exact ⟨rfl,rfl,hs.tail⟩
theorem zgq (b:BatM) (hs:Sat w l):Ret P F.a25 #[.agg (zu b).toArray] w λvs w'=>vs=[.bool (z0h b)]/\Sat w' l :=
 zrx b.base b.pid b.epoch b.seq b.kind b.time b.x <| by
  delta z04a Aa Ab Ag Ap Ar As
  refine zn hs λa0 w' hs=>?_
  refine za hs ?_
  refine za hs ?_
  refine wp_lt ?_
  exact ⟨rfl,rfl,hs.tail⟩
end
structure VerA where
 again:Bool
 base:Int
def zeh (v:VerA):List Value:=[.bool v.again,.int .i64 v.base]
def z7q (r:RowA) (b:BatM):VerA × Bool :=
 if b.epoch≠r.epoch\/b.seq+b.rs.length>r.seq+r.count then (⟨false,0⟩,false) else if b.seq=r.seq/\(b.rs.length:Int)=r.count then (⟨true,r.base⟩,true) else (⟨true,-1⟩,true)
def za2 (A:TabA) (r:RowA) (there:Bool) (b:BatM):Int :=
 if 0<=r.frm/\(b.epoch>r.epoch\/b.kind=0) then 22
 else if z0h b=false/\b.seq≠(if b.epoch>r.epoch then 0 else r.seq+r.count) then 21
 else if there=false/\(A.rows.length:Int)>=A.most then 5 else 0
def z1r (A:TabA) (b:BatM):VerA × Int :=
 if z03 b≠0\/b.pid=0 then (⟨false,0⟩,z03 b)
 else if b.epoch<(z0r A b.pid).epoch then (if z0h b then (⟨true,-1⟩,0) else (⟨false,0⟩,20))
 else if z0h b=false/\(z7q (z0r A b.pid) b).2=true then ((z7q (z0r A b.pid) b).1,0)
 else (⟨false,0⟩,za2 A (z0r A b.pid) (z4x A b.pid).isSome b)
instance {v:VerA} {b:Bool}:IsR (.tup [.agg [.bool,.int .i64],.one .bool]) [.agg (zeh v).toArray,.bool b] (v.again,v.base,b,()):=⟨rfl⟩
instance {v:VerA} {n:Int}:IsR (.tup [.agg [.bool,.int .i64],.one (.int .i64)]) [.agg (zeh v).toArray,.int .i64 n] (v.again,v.base,n,()):=⟨rfl⟩
section
variable {w:World} {l r r1 r2 l':List HP} {t:Nat} {A:TabA}
theorem zx4 (x:RowA) (b:BatM) [hb:FocR l b.x 4 (b.rs.flatMap z02)] (h1:0<=x.seq+x.count/\x.seq+x.count<=2147483648) (h2:0<=b.seq/\b.seq<=2147483647) (h3:b.rs.length<=64) (hs:Sat w l) :
  Ret P F.a24 #[.agg (z5g x).toArray,.agg (zu b).toArray] w λvs w'=>vs=[.agg (zeh (z7q x b).1).toArray,.bool (z7q x b).2]/\Sat w' l :=
 zrw x.pid x.epoch x.seq x.count x.base x.frm x.time b.base b.pid b.epoch b.seq b.kind b.time b.x <| by
  delta z049 AC AD AF AL AM AN AV Aa Ab Ah Aj Ak Al Am Ap Ar As B0 B4 BA By;unfold z7q
  have hl:=hs.slen b.x (xs:=b.rs) (enc:=z02)
  refine zn hs λa0 w' hs=>?_
  refine zn hs λa1 w' hs=>?_
  refine zt hs λa2 w' hs=>?_
  have hs:Sat w' (pt a2 (.cells #[.bool false,.int .i64 0] T.a6)::pt a1 (.cells #[.int .i64 b.base,.int .i64 b.pid,.int .i64 b.epoch,.int .i64 b.seq,.int .i64 b.kind,.int .i64 b.time,.slice b.x.a b.x.len b.x.cap] T.a0) ::
   pt a0 (.cells #[.int .i64 x.pid,.int .i64 x.epoch,.int .i64 x.seq,.int .i64 x.count,.int .i64 x.base,.int .i64 x.frm,.int .i64 x.time] T.a4)::l):=hs
  refine zg (λv w'=>v=(decide (b.epoch≠x.epoch\/b.seq+b.rs.length>x.seq+x.count),())/\Sat w' (pt a2 (.cells #[.bool false,.int .i64 0] T.a6)::pt a1 (.cells #[.int .i64 b.base,.int .i64 b.pid,.int .i64 b.epoch,.int .i64 b.seq,.int .i64 b.kind,.int .i64 b.time,.slice b.x.a b.x.len b.x.cap] T.a0) ::
   pt a0 (.cells #[.int .i64 x.pid,.int .i64 x.epoch,.int .i64 x.seq,.int .i64 x.count,.int .i64 x.base,.int .i64 x.frm,.int .i64 x.time] T.a4)::l)) ?_ ?_
  ·refine zy hs λw' hs=>?_
   refine za hs ?_
   refine za hs ?_
   refine z18 hs ?_
   refine z18 hs ?_
   refine zi hs ?_
   refine ze (λh=>?_) λh=>?_
   ·refine zd ?_
    exact zj ⟨by rw [decide_eq_true (.inl h)],hs⟩
   ·refine z8 (zpr x h1 hs) λ_ w' hs=>?_
    obtain ⟨rfl,hs⟩:=hs
    refine zb ?_ ⟨⟨trivial,λ_=>z09 hs⟩,λ_=>z09 hs⟩
    refine zd ?_
    refine zj ⟨?_,hs⟩
    rw [w64 (by omega) (by omega),hl]
    have:(b.epoch≠x.epoch\/b.seq+b.rs.length>x.seq+x.count)↔b.seq+((b.rs.length:Nat):Int)>x.seq+x.count:=⟨λh'=>h'.resolve_left h,.inr⟩
    rw [decide_eq_decide.2 this]
  clear hs
  rintro _ w ⟨rfl,hs⟩
  refine zm ?_
  refine ze (λh=>?_) λh=>?_
  ·rw [if_pos h]
   refine zv hs λw' hs=>?_
   refine zi hs ?_
   exact ⟨rfl,rfl,hs.sub⟩
  rw [if_neg h]
  refine za hs ?_
  refine za hs ?_
  refine za hs ?_
  refine za hs ?_
  refine ze (λh=>?_) λh=>?_
  ·rw [if_pos (by rw [hl] at h;exact h)]
   refine za hs ?_
   refine zv hs λw' hs=>?_
   refine zi hs ?_
   exact ⟨rfl,rfl,hs.sub⟩
  ·rw [if_neg (by rw [hl] at h;exact h)]
   refine zv hs λw' hs=>?_
   refine zi hs ?_
   exact ⟨rfl,rfl,hs.sub⟩
theorem zx7 (x:RowA) (there:Bool) (b:BatM) [hf:Fo l tb t A r] (h1:0<=x.seq+x.count/\x.seq+x.count<=2147483648) (hs:Sat w l) :
  Ret P F.a22 #[.pointer (some ⟨t,0,none⟩),.agg (z5g x).toArray,.bool there,.agg (zu b).toArray] w λvs w'=>vs=[.int .i64 (za2 A x there b)]/\Sat w' (tb t A::r) :=
 zru _ x.pid x.epoch x.seq x.count x.base x.frm x.time there b.base b.pid b.epoch b.seq b.kind b.time b.x <| by
  delta z047 AH AL AN AO Aa Ab Ac Af Ag Ah Ak Am Ao Ap Ar As B0 B1 B8 BB Bg;unfold za2
  obtain ⟨m,hok,hs⟩:=zab (hs.perm hf.perm)
  refine zn hs λa0 w' hs=>?_
  refine zn hs λa1 w' hs=>?_
  refine zi hs ?_
  refine z8 (zpr x h1 hs) λ_ _ hs=>?_
  obtain ⟨rfl,hs⟩:=hs
  refine zb ?_
  refine wp_lt ?_
  refine za hs ?_
  refine za hs ?_
  have hs:Sat _ (pt a1 (.cells #[.int .i64 b.base,.int .i64 b.pid,.int .i64 b.epoch,.int .i64 b.seq,.int .i64 b.kind,.int .i64 b.time,.slice b.x.a b.x.len b.x.cap] T.a0) ::
   pt a0 (.cells #[.int .i64 x.pid,.int .i64 x.epoch,.int .i64 x.seq,.int .i64 x.count,.int .i64 x.base,.int .i64 x.frm,.int .i64 x.time] T.a4)::pt t (.cells #[.int .i64 A.most,.int .i64 A.next,.map (some m)] T.a5)::z17 ekI evW m (z2y A.rows)::r):=hs
  refine zg (λv w'=>v=((if b.epoch>x.epoch then 0 else x.seq+x.count),())/\Sat w' (pt a1 (.cells #[.int .i64 b.base,.int .i64 b.pid,.int .i64 b.epoch,.int .i64 b.seq,.int .i64 b.kind,.int .i64 b.time,.slice b.x.a b.x.len b.x.cap] T.a0) ::
   pt a0 (.cells #[.int .i64 x.pid,.int .i64 x.epoch,.int .i64 x.seq,.int .i64 x.count,.int .i64 x.base,.int .i64 x.frm,.int .i64 x.time] T.a4)::pt t (.cells #[.int .i64 A.most,.int .i64 A.next,.map (some m)] T.a5)::z17 ekI evW m (z2y A.rows)::r)) ?_ ?_
  ·refine ze (λh=>?_) λh=>?_
   ·exact zj ⟨by rw [if_pos h],hs⟩
   ·exact zj ⟨by rw [if_neg h],hs⟩
  clear hs
  rintro _ w ⟨rfl,hs⟩
  refine zm ?_
  refine zi hs ?_
  refine z8 (zpg x hs) λ_ _ hs=>?_
  obtain ⟨rfl,hs⟩:=hs
  refine zb ?_
  refine za hs ?_
  refine za hs ?_
  refine za hs ?_
  refine wp_lt ?_
  refine ze (λh=>?_) λh=>?_
  ·rw [if_pos h]
   exact ⟨rfl,rfl,z33 m hok hs⟩
  rw [if_neg h]
  refine zi hs ?_
  refine z8 (zgq b hs) λ_ _ hs=>?_
  obtain ⟨rfl,hs⟩:=hs
  refine zb ?_
  refine za hs ?_
  refine wp_lt ?_
  refine ze (λh=>?_) λh=>?_
  ·rw [if_pos (by simpa using h)]
   exact ⟨rfl,rfl,z33 m hok hs⟩
  rw [if_neg (by simpa using h)]
  refine zy hs λw' hs=>?_
  refine z0k ?_
  refine za hs ?_
  refine zcs hs ?_
  refine z0k ?_
  refine za hs ?_
  refine wp_lt ?_
  refine zd ?_
  have hlen:(z2y A.rows).length=A.rows.length:=by unfold z2y;rw [List.length_map]
  rw [hlen]
  refine ze (λh=>?_) λh=>?_
  ·rw [if_pos (by simpa using h)]
   exact ⟨rfl,rfl,z33 m hok hs⟩
  ·rw [if_neg (by simpa using h)]
   exact ⟨rfl,rfl,z33 m hok hs⟩
theorem ze6 (b:BatM) [hf:Fo l tb t A r] [hb:FocR r b.x 4 (b.rs.flatMap z02)] (hs:Sat w l) :
  Ret P F.a18 #[.pointer (some ⟨t,0,none⟩),.agg (zu b).toArray] w λvs w'=>vs=[.agg (zeh (z1r A b).1).toArray,.int .i64 (z1r A b).2]/\Sat w' (tb t A::r) :=
 zrs _ b.base b.pid b.epoch b.seq b.kind b.time b.x <| by
  delta z045 AC AD AH AV Aa Ab Ac Ad Af Ag Ah Ak Am Ao Ap Ar As Az B0 B1 By;unfold z1r
  have hs:Sat w (tb t A::r):=hs.perm hf.perm
  have hok:=zy4 hs
  refine zn hs λa0 w' hs=>?_
  refine zt hs λa1 w' hs=>?_
  refine z06 ?_ (by simp)
  refine zi hs ?_
  refine z8 (z8j b hs) λ_ _ hs=>?_
  obtain ⟨rfl,hs⟩:=hs
  refine zb ?_
  refine wp_lt ?_
  refine za hs ?_
  refine ze (λh=>?_) λh=>?_
  ·rw [if_pos h]
   refine zv hs λw' hs=>?_
   refine wp_lt ?_
   refine zi hs ?_
   exact ⟨rfl,rfl,hs.sub⟩
  rw [if_neg h]
  have hv:z03 b=0:=Decidable.not_not.1 λe=>h (.inl e)
  obtain ⟨hs1,hs2,hnum,hfit,hnx⟩:=z12 b hv
  have hl64:b.rs.length<=64:=by
   unfold zo at hs2
   split at hs2
   ·have:=hfit.2
    rename_i hm
    rw [if_pos hm] at this;omega
   ·omega
  refine za hs ?_
  refine z8 (zv1 b.pid hs) λ_ _ hs=>?_
  obtain ⟨rfl,hs⟩:=hs
  refine zb ?_
  obtain ⟨hr1,hr2,hr3,hr4,hr5,hr6,hr7⟩:=zgm hok b.pid
  generalize z0r A b.pid=x at *
  refine zt hs λa26 w' hs=>?_
  refine zv hs λw' hs=>?_
  refine wp_lt ?_
  refine za hs ?_
  refine za hs ?_
  refine ze (λh=>?_) λh=>?_
  ·rw [if_pos h]
   refine zi hs ?_
   refine z8 (zgq b hs) λ_ _ hs=>?_
   obtain ⟨rfl,hs⟩:=hs
   refine zb ?_
   refine ze (λh=>?_) λh=>?_
   ·rw [if_pos h]
    refine zv hs λw' hs=>?_
    refine zi hs ?_
    exact ⟨rfl,rfl,hs.sub⟩
   ·rw [if_neg h]
    refine zv hs λw' hs=>?_
    refine zi hs ?_
    exact ⟨rfl,rfl,hs.sub⟩
  rw [if_neg h]
  refine zi hs ?_
  refine z8 (zgq b hs) λ_ _ hs=>?_
  obtain ⟨rfl,hs⟩:=hs
  refine zb ?_
  have hs:Sat _ (tb t A::pt a26 (.cells #[.int .i64 x.pid,.int .i64 x.epoch,.int .i64 x.seq,.int .i64 x.count,.int .i64 x.base,.int .i64 x.frm,.int .i64 x.time] T.a4)::pt a1 (.cells #[.bool false,.int .i64 0] T.a6) ::
   pt a0 (.cells #[.int .i64 b.base,.int .i64 b.pid,.int .i64 b.epoch,.int .i64 b.seq,.int .i64 b.kind,.int .i64 b.time,.slice b.x.a b.x.len b.x.cap] T.a0)::r):=hs.sub
  refine zg (λ_ w'=>¬ (z0h b=false/\(z7q x b).2=true)/\Sat w' (tb t A::pt a26 (.cells #[.int .i64 x.pid,.int .i64 x.epoch,.int .i64 x.seq,.int .i64 x.count,.int .i64 x.base,.int .i64 x.frm,.int .i64 x.time] T.a4)::pt a1 (.cells #[.bool false,.int .i64 0] T.a6) ::
   pt a0 (.cells #[.int .i64 b.base,.int .i64 b.pid,.int .i64 b.epoch,.int .i64 b.seq,.int .i64 b.kind,.int .i64 b.time,.slice b.x.a b.x.len b.x.cap] T.a0)::r)) ?_ ?_
  ·refine ze (λh=>?_) λh=>?_
   ·refine zi hs ?_
    refine zi hs ?_
    refine z8 (zx4 x b ⟨by omega,by omega⟩ hnum.2.2.2.2.1 hl64 hs) λ_ _ hs=>?_
    obtain ⟨rfl,hs⟩:=hs
    refine zb ?_
    refine zt hs λa67 w' hs=>?_
    refine zv hs λw' hs=>?_
    refine wp_lt ?_
    refine ze (λh2=>?_) λh2=>?_
    ·rw [if_pos ⟨by simpa using h,h2⟩]
     refine zi hs ?_
     refine zv hs λw' hs=>?_
     refine zi hs ?_
     refine zh ?_
     exact ⟨rfl,rfl,hs.sub⟩
    ·exact zj ⟨λe=>h2 e.2,hs.sub⟩
   ·exact zj ⟨λe=>h (by rw [e.1];simp),hs⟩
  clear hs
  rintro _ w ⟨hno,hs⟩
  refine zm ?_
  rw [if_neg hno]
  refine zi hs ?_
  refine zi hs ?_
  refine z8 (zx7 x (z4x A b.pid).isSome b ⟨by omega,by omega⟩ hs) λ_ _ hs=>?_
  obtain ⟨rfl,hs⟩:=hs
  refine zb ?_
  refine zv hs λw' hs=>?_
  refine wp_lt ?_
  refine zi hs ?_
  exact ⟨rfl,rfl,hs.sub⟩
end
def z87 (A:TabA) (b:BatM):Int:=match z4x A b.pid with
 | none=>b.time
 | some r=>if r.time>b.time then r.time else b.time
def z65 (A:TabA) (b:BatM):Int:=if b.kind=1/\(z0r A b.pid).frm<0 then b.base else (z0r A b.pid).frm
def z3r (A:TabA) (b:BatM):RowA:=if z0h b then ⟨b.pid,b.epoch+1,0,0,0,-1,z87 A b⟩ else ⟨b.pid,b.epoch,b.seq,b.rs.length,b.base,z65 A b,z87 A b⟩
def z70 (pid:Int) (rs:List RowA):List RowA:=rs.filter λr=>!decide (r.pid=pid)
def z82 (x:RowA) (rs:List RowA):List RowA:=rs.filter (λr=>decide (r.pid<x.pid))++x::rs.filter (λr=>decide (x.pid<r.pid))
def z4u (A:TabA) (b:BatM):TabA:=⟨A.most,b.base+zo b,if b.pid=0 then A.rows else z82 (z3r A b) A.rows⟩
def ziv (A:TabA) (b:BatM):Int × TabA :=
 if (z1r A b).2≠0 then ((z1r A b).2,A) else if (z1r A b).1.again then (4,A) else if b.base<A.next then (8,A) else (0,z4u A b)
theorem zkd (x:RowA) (rs:List RowA):(z82 x rs).Perm (x::z70 x.pid rs):=by
 unfold z82 z70
 refine List.perm_middle.trans (.cons _ ?_)
 have h:=List.filter_append_perm (λr:RowA=>decide (r.pid<x.pid)) (rs.filter λr=>!decide (r.pid=x.pid))
 rw [List.filter_filter,List.filter_filter] at h
 have e1:rs.filter (λr=>decide (r.pid<x.pid))=rs.filter (λr=>decide (r.pid<x.pid) && !decide (r.pid=x.pid)):=List.filter_congr λr _=>by
  rw [Bool.eq_iff_iff];simp;omega
 have e2:rs.filter (λr=>decide (x.pid<r.pid))=rs.filter (λr=>!decide (r.pid<x.pid) && !decide (r.pid=x.pid)):=List.filter_congr λr _=>by
  rw [Bool.eq_iff_iff];simp;omega
 rw [e1,e2];exact h
theorem zr5 {x:RowA} {rs:List RowA} (h:rs.Pairwise λa b=>a.pid<b.pid):(z82 x rs).Pairwise λa b=>a.pid<b.pid:=by
 unfold z82
 rw [List.pairwise_append,List.pairwise_cons]
 refine ⟨h.filter _,⟨λr hr=>?_,h.filter _⟩,λa ha c hc=>?_⟩
 ·simpa using (List.mem_filter.1 hr).2
 ·have h1:a.pid<x.pid:=by simpa using (List.mem_filter.1 ha).2
  rcases List.mem_cons.1 hc with rfl|hc
  ·exact h1
  ·have h2:x.pid<c.pid:=by simpa using (List.mem_filter.1 hc).2
   omega
theorem zcc {pid:Int} {rs:List RowA} (h:∀ r ∈ rs,r.pid≠pid):z70 pid rs=rs:=List.filter_eq_self.2 λr hr=>by simp [h r hr]
theorem z9j {x:RowA}:∀ {rs:List RowA},x ∈ rs->(rs.Pairwise λa b=>a.pid<b.pid)->rs.Perm (x::z70 x.pid rs)
 | y::rs,hx,h=>by
  rw [List.pairwise_cons] at h
  unfold z70
  rw [List.filter_cons]
  rcases List.mem_cons.1 hx with rfl|hx
  ·rw [if_neg (by simp)]
   have:=zcc (pid:=x.pid) (rs:=rs) (λr hr=>by have:=h.1 r hr;omega)
   unfold z70 at this
   rw [this]
  ·have h1:=h.1 x hx
   rw [if_pos (by simp;omega)]
   exact ((z9j hx h.2).cons y).trans (.swap _ _ _)
theorem zqz {a b:List RowA} (h:a.Perm b):(z89 a).Perm (z89 b):=h.filter _
theorem zeb {a b:List RowA} (h:a.Perm b) (ha:(z89 a).Pairwise λx y=>x.frm≠y.frm):(z89 b).Pairwise λx y=>x.frm≠y.frm :=
 (List.Perm.pairwise_iff (λ{x y} h=>Ne.symm h) (zqz h)).1 ha
theorem zd5 {A:TabA} {b:BatM} (h1:(z1r A b).2=0) (h2:(z1r A b).1.again=false):z03 b=0/\(b.pid≠0->(z0r A b.pid).epoch<=b.epoch/\¬ (z0h b=false/\(z7q (z0r A b.pid) b).2=true)/\za2 A (z0r A b.pid) (z4x A b.pid).isSome b=0):=by
 unfold z1r at h1 h2
 split at h1
 ·rename_i h
  rw [if_pos h] at h2
  refine ⟨h1,λhp=>absurd h (λh=>h.elim (λh=>h h1) hp)⟩
 rename_i h
 rw [if_neg h] at h2
 have hv:z03 b=0:=Decidable.not_not.1 λe=>h (.inl e)
 refine ⟨hv,λhp=>?_⟩
 split at h1
 ·rename_i h3
  rw [if_pos h3] at h2
  split at h1
  ·rename_i h4;rw [if_pos h4] at h2;cases h2
  ·cases h1
 rename_i h3
 rw [if_neg h3] at h2
 split at h1
 ·rename_i h4
  rw [if_pos h4] at h2
  obtain ⟨-,h4⟩:=h4
  unfold z7q at h2 h4
  split at h4
  ·cases h4
  ·rename_i h5
   rw [if_neg h5] at h2
   split at h2 <;> cases h2
 ·rename_i h4
  exact ⟨by omega,h4,h1⟩
theorem zqj {A:TabA} {x:RowA} {there:Bool} {b:BatM} (h:za2 A x there b=0):¬ (0<=x.frm/\(b.epoch>x.epoch\/b.kind=0))/\¬ (z0h b=false/\b.seq≠(if b.epoch>x.epoch then 0 else x.seq+x.count))/\(there=false->(A.rows.length:Int)<A.most):=by
 unfold za2 at h
 by_cases h1:0<=x.frm/\(b.epoch>x.epoch\/b.kind=0)
 ·rw [if_pos h1] at h;cases h
 rw [if_neg h1] at h
 by_cases h2:z0h b=false/\b.seq≠(if b.epoch>x.epoch then 0 else x.seq+x.count)
 ·rw [if_pos h2] at h;cases h
 rw [if_neg h2] at h
 by_cases h3:there=false/\(A.rows.length:Int)>=A.most
 ·rw [if_pos h3] at h;cases h
 exact ⟨h1,h2,λe=>by rcases Int.lt_or_le (A.rows.length:Int) A.most with h|h;exact h;exact absurd ⟨e,h⟩ h3⟩
theorem zki (A:TabA) (b:BatM):(z3r A b).pid=b.pid:=by unfold z3r;split <;> rfl
theorem z00z {A:TabA} (hok:okTb A) {b:BatM} (hb:0<=b.time/\b.time<=1099511627776):0<=z87 A b/\z87 A b<=1099511627776:=by
 unfold z87
 split
 ·exact hb
 ·rename_i r hr
  have:=(hok.row r (z2f hr).1).time
  split <;> omega
theorem z013 {A:TabA} {b:BatM} (hok:okTb A) (h1:(z1r A b).2=0) (h2:(z1r A b).1.again=false) (h3:A.next<=b.base):okTb (z4u A b):=by
 obtain ⟨hv,hj⟩:=zd5 h1 h2
 obtain ⟨hs1,hs2,hnum,hfit,hnx⟩:=z12 b hv
 have hn0:=hok.next
 by_cases hp0:b.pid=0
 ·have e:z4u A b=⟨A.most,b.base+zo b,A.rows⟩:=by unfold z4u;rw [if_pos hp0]
  rw [e]
  exact ⟨hok.most,⟨by show 0<=b.base+zo b;omega,by show b.base+zo b<=_;omega⟩,hok.many,λr hr=>by
   have h:=hok.row r hr
   exact ⟨h.pid,h.epoch,h.time,h.count,h.seq,h.base,h.frm,h.none_,λhc=>by have:=h.some_ hc;show _/\_/\_<=b.base+zo b/\_;omega⟩,hok.byPid,hok.apart⟩
 obtain ⟨hje,-,hfr⟩:=hj hp0
 obtain ⟨hf1,hf2,hf3⟩:=zqj hfr
 have e:z4u A b=⟨A.most,b.base+zo b,z82 (z3r A b) A.rows⟩:=by unfold z4u;rw [if_neg hp0]
 have hpp:=zkd (z3r A b) A.rows
 rw [zki] at hpp
 obtain ⟨hnk,hnb,hnp,hne,hns,hnt⟩:=hnum
 have hlate:=z00z hok hnt
 have hF:=zgm hok b.pid
 have hfrm:(z0r A b.pid).frm<A.next:=by
  unfold z0r
  cases h:z4x A b.pid with
  | none=>show (-1:Int)<_;omega
  | some y =>
   have hy:=hok.row y (z2f h).1
   show y.frm<A.next
   rcases Int.lt_or_le 0 y.count with hc|hc
   ·have:=hy.some_ hc;omega
   ·have:=hy.none_ (by have:=hy.count;omega);omega
 have hokN:okRw (z3r A b) (b.base+zo b):=by
  unfold z3r
  by_cases hm:z0h b=true
  ·rw [if_pos hm]
   exact ⟨by show 1<=b.pid/\b.pid<=_;omega,by show 0<=b.epoch+1/\b.epoch+1<=_;omega,hlate,by show (0:Int)<=0/\(0:Int)<=64;omega,Int.le_refl _,Int.le_refl _,Int.le_refl _,λ_=>⟨rfl,rfl,rfl⟩,λh=>absurd h (by show ¬ (0:Int)<0;omega)⟩
  ·rw [if_neg hm]
   have hm:z0h b=false:=by simpa using hm
   have hlen:zo b=b.rs.length:=by unfold zo;rw [hm];rfl
   have hseq:b.seq+b.rs.length<=2147483648:=by
    unfold z03 at hv
    split at hv
    ·cases hv
    split at hv
    ·cases hv
    split at hv
    ·rename_i h;exact absurd hv h
    split at hv
    ·cases hv
    ·rename_i h
     rcases Int.lt_or_le 2147483647 (b.seq+(zo b-1)) with h9|h9
     ·exact absurd (.inr ⟨by omega,hm,by omega⟩) h
     ·omega
   have hfrm2 : -1<=z65 A b/\z65 A b<=b.base:=by
    unfold z65
    split
    ·omega
    ·omega
   exact ⟨by show 1<=b.pid/\b.pid<=_;omega,by show 0<=b.epoch/\b.epoch<=_;omega,hlate,by show (0:Int)<=b.rs.length/\(b.rs.length:Int)<=64;omega,hns.1,hnb.1,hfrm2.1,λh=>absurd h (by show ¬ (b.rs.length:Int)=0;omega),λ_=>by
    show b.epoch<=_/\b.seq+(b.rs.length:Int)<=_/\b.base+(b.rs.length:Int)<=b.base+zo b/\z65 A b<=b.base
    omega⟩
 have hrest:z70 b.pid A.rows ⊆ A.rows:=λr hr=>(List.mem_filter.1 hr).1
 rw [e]
 refine ⟨hok.most,⟨by show 0<=b.base+zo b;omega,by show b.base+zo b<=_;omega⟩,?_,λr hr=>?_,zr5 hok.byPid,?_⟩
 ·show ((z82 (z3r A b) A.rows).length:Int)<=A.most
  rw [hpp.length_eq,List.length_cons]
  cases h:z4x A b.pid with
  | none =>
   have:=hf3 (by rw [h];rfl)
   rw [zcc (zcd h)];omega
  | some y =>
   have h4:=(z9j (z2f h).1 hok.byPid).length_eq
   rw [(z2f h).2,List.length_cons] at h4
   have:=hok.many
   omega
 ·have hr:r ∈ z82 (z3r A b) A.rows:=hr
  rcases List.mem_cons.1 (hpp.mem_iff.1 hr) with rfl|hr
  ·exact hokN
  ·have h:=hok.row r (hrest hr)
   exact ⟨h.pid,h.epoch,h.time,h.count,h.seq,h.base,h.frm,h.none_,λhc=>by have:=h.some_ hc;show _/\_/\_<=b.base+zo b/\_;omega⟩
 ·refine zeb hpp.symm ?_
  have hsub:(z89 (z70 b.pid A.rows)).Pairwise λx y=>x.frm≠y.frm:=hok.apart.sublist ((List.filter_sublist).filter _)
  unfold z89
  rw [List.filter_cons]
  split
  rotate_left
  ·exact hsub
  rename_i hop
  have hop:0<=(z3r A b).frm:=by simpa using hop
  rw [List.pairwise_cons]
  refine ⟨λy hy=>?_,hsub⟩
  have hy1:=List.mem_filter.1 hy
  have hy2:0<=y.frm:=by simpa using hy1.2
  have hyr:=hok.row y (hrest hy1.1)
  have hm:¬ z0h b=true:=λhm=>by unfold z3r at hop;rw [if_pos hm] at hop;exact absurd hop (by show ¬ (0:Int) <= -1;omega)
  unfold z3r
  rw [if_neg hm]
  show z65 A b≠y.frm
  have hylt:y.frm<A.next:=by
   rcases Int.lt_or_le 0 y.count with hc|hc
   ·have:=hyr.some_ hc;omega
   ·have:=hyr.none_ (by have:=hyr.count;omega);omega
  unfold z65
  split
  ·omega
  ·rename_i hk
   cases h:z4x A b.pid with
   | none =>
    have:(z0r A b.pid).frm = -1:=by unfold z0r;rw [h];rfl
    omega
   | some z =>
    have hz:z0r A b.pid=z:=by unfold z0r;rw [h];rfl
    rw [hz] at *
    by_cases hzo:0<=z.frm
    ·have h5:=zeb (z9j (z2f h).1 hok.byPid) hok.apart
     rw [(z2f h).2] at h5
     unfold z89 at h5
     rw [List.filter_cons,if_pos (by simpa using hzo),List.pairwise_cons] at h5
     exact h5.1 y hy
    ·omega
theorem z02v {A:TabA} (hok:okTb A) (pid:Int):(∃ v0,(z2y A.rows).Perm ((pid,v0)::z2y (z70 pid A.rows)))\/((∀ v,(pid,v) ∉ z2y A.rows)/\z2y (z70 pid A.rows)=z2y A.rows):=by
 rcases zi1 A pid with ⟨y,hy,-⟩|⟨hn,hno⟩
 ·left
  refine ⟨y,?_⟩
  have h:=(z9j (z2f hy).1 hok.byPid).map λr:RowA=>(r.pid,r)
  rw [(z2f hy).2,List.map_cons,(z2f hy).2] at h
  exact h
 ·right
  exact ⟨hno,by rw [zcc (zcd hn)]⟩
theorem z00x (x:RowA) (rs:List RowA):((x.pid,x)::z2y (z70 x.pid rs)).Perm (z2y (z82 x rs)):=((zkd x rs).map λr:RowA=>(r.pid,r)).symm
theorem zw4 {A:TabA} {n:Int} (hok:okTb A) (h1:A.next<=n) (h2:n<=1099511627777):okTb ⟨A.most,n,A.rows⟩ :=
 ⟨hok.most,⟨by have:=hok.next;show 0<=n;omega,h2⟩,hok.many,λr hr=>by
  have h:=hok.row r hr
  exact ⟨h.pid,h.epoch,h.time,h.count,h.seq,h.base,h.frm,h.none_,λhc=>by have:=h.some_ hc;show _/\_/\_<=n/\_;omega⟩,hok.byPid,hok.apart⟩
section
variable {w:World} {l r r1 r2 l':List HP} {t:Nat} {A:TabA}
theorem z01x (b:BatM) [hf:Fo l tb t A r] [hb:FocR r b.x 4 (b.rs.flatMap z02)] (hs:Sat w l) :
  Ret P F.a21 #[.pointer (some ⟨t,0,none⟩),.agg (zu b).toArray] w λvs w'=>vs=[.int .i64 (ziv A b).1]/\Sat w' (tb t (ziv A b).2::r) :=
 zrt _ b.base b.pid b.epoch b.seq b.kind b.time b.x <| by
  delta z046 AC AD AF AH AI AL AN AS AT AU AV AW Aa Ab Ac Ad Af Ag Ah Aj Ak Al Am Ao Ap Ar Az B0 B1 B5 Bg Bn;unfold ziv
  have hs:Sat w (tb t A::r):=hs.perm hf.perm
  have hok:=zy4 hs
  refine zn hs λa0 w' hs=>?_
  refine zi hs ?_
  refine z8 (ze6 b hs) λ_ _ hs=>?_
  obtain ⟨rfl,hs⟩:=hs
  refine zb ?_
  have hnx:=z013 (b:=b) hok
  have hjf:=zd5 (A:=A) (b:=b)
  generalize hje:z1r A b=j at *
  obtain ⟨v,e⟩:=j
  refine zt hs λa11 w' hs=>?_
  refine zv hs λw' hs=>?_
  refine wp_lt ?_
  refine wp_lt ?_
  refine ze (λh=>?_) λh=>?_
  ·rw [if_pos h]
   refine wp_lt ?_
   exact ⟨rfl,rfl,hs.sub⟩
  have he:e=0:=Decidable.not_not.1 h
  subst he
  rw [if_neg (by simp)]
  refine za hs ?_
  refine wp_lt ?_
  refine ze (λh=>?_) λh=>?_
  ·rw [if_pos h]
   exact ⟨rfl,rfl,hs.sub⟩
  rw [if_neg h]
  have hag:v.again=false:=by simpa using h
  refine zy hs λw' hs=>?_
  refine za hs ?_
  refine zk ?_
  have hs:Sat w' (tb t A::pt a11 (.cells #[.bool v.again,.int .i64 v.base] T.a6)::pt a0 (.cells #[.int .i64 b.base,.int .i64 b.pid,.int .i64 b.epoch,.int .i64 b.seq,.int .i64 b.kind,.int .i64 b.time,.slice b.x.a b.x.len b.x.cap] T.a0)::r):=hs.sub
  obtain ⟨m,-,hs⟩:=zab hs
  refine za hs ?_
  refine wp_lt ?_
  refine zd ?_
  refine ze (λh=>?_) λh=>?_
  ·rw [if_pos h]
   exact ⟨rfl,rfl,z33 m hok hs⟩
  rw [if_neg h]
  have hok':=hnx rfl hag (by omega)
  obtain ⟨hv,hj⟩:=hjf rfl hag
  obtain ⟨hs1,hs2,hnum,hfit,hn2⟩:=z12 b hv
  have hne:=hnum.2.2.2.1
  refine zi hs ?_
  refine z8 (z8h b hs) λ_ _ hs=>?_
  obtain ⟨rfl,hs⟩:=hs
  refine zb ?_
  have hnb:z1l b=b.base+zo b:=by unfold z1l;rw [if_neg (by rw [hv];simp)]
  rw [hnb]
  refine zk ?_
  refine z07 hs λw' hs=>?_
  refine za hs ?_
  have hok1:okTb ⟨A.most,b.base+zo b,A.rows⟩:=zw4 hok (by omega) hn2
  refine ze (λh0=>?_) λh0=>?_
  ·refine ⟨rfl,rfl,?_⟩
   have e:z4u A b=⟨A.most,b.base+zo b,A.rows⟩:=by unfold z4u;rw [if_pos h0]
   show Sat _ (tb t (z4u A b)::r)
   rw [e]
   exact z33 m hok1 hs
  have e:z4u A b=⟨A.most,b.base+zo b,z82 (z3r A b) A.rows⟩:=by unfold z4u;rw [if_neg h0]
  show _
  refine za hs ?_
  have hs:Sat _ (tb t ⟨A.most,b.base+zo b,A.rows⟩::pt a11 (.cells #[.bool v.again,.int .i64 v.base] T.a6)::pt a0 (.cells #[.int .i64 b.base,.int .i64 b.pid,.int .i64 b.epoch,.int .i64 b.seq,.int .i64 b.kind,.int .i64 b.time,.slice b.x.a b.x.len b.x.cap] T.a0)::r):=z33 m hok1 hs
  refine z8 (zv1 b.pid hs) λ_ _ hs=>?_
  obtain ⟨rfl,hs⟩:=hs
  refine zb ?_
  have eF:z0r ⟨A.most,b.base+zo b,A.rows⟩ b.pid=z0r A b.pid:=rfl
  have eO:z4x ⟨A.most,b.base+zo b,A.rows⟩ b.pid=z4x A b.pid:=rfl
  rw [eF,eO]
  have hFok:=zgm hok b.pid
  have hkeys:=z02v hok b.pid
  have hkp:=z00x (z3r A b) A.rows
  rw [zki] at hkp
  refine zt hs λa42 w' hs=>?_
  refine zv hs λw' hs=>?_
  refine wp_lt ?_
  refine za hs ?_
  refine wp_lt ?_
  have hs:Sat _ (tb t ⟨A.most,b.base+zo b,A.rows⟩::pt a42 (.cells #[.int .i64 (z0r A b.pid).pid,.int .i64 (z0r A b.pid).epoch,.int .i64 (z0r A b.pid).seq,.int .i64 (z0r A b.pid).count,.int .i64 (z0r A b.pid).base,.int .i64 (z0r A b.pid).frm,.int .i64 (z0r A b.pid).time] T.a4) ::
   pt a0 (.cells #[.int .i64 b.base,.int .i64 b.pid,.int .i64 b.epoch,.int .i64 b.seq,.int .i64 b.kind,.int .i64 b.time,.slice b.x.a b.x.len b.x.cap] T.a0)::r):=hs.sub
  refine zg (λv w'=>v=(z87 A b,())/\Sat w' (tb t ⟨A.most,b.base+zo b,A.rows⟩::pt a42 (.cells #[.int .i64 (z0r A b.pid).pid,.int .i64 (z0r A b.pid).epoch,.int .i64 (z0r A b.pid).seq,.int .i64 (z0r A b.pid).count,.int .i64 (z0r A b.pid).base,.int .i64 (z0r A b.pid).frm,.int .i64 (z0r A b.pid).time] T.a4) ::
   pt a0 (.cells #[.int .i64 b.base,.int .i64 b.pid,.int .i64 b.epoch,.int .i64 b.seq,.int .i64 b.kind,.int .i64 b.time,.slice b.x.a b.x.len b.x.cap] T.a0)::r)) ?_ ?_
  ·unfold z87 z0r at *
   cases ho:z4x A b.pid with
   | none =>
    rw [ho] at hs
    refine z06 ?_ (by simp)
    exact zj ⟨rfl,hs⟩
   | some y =>
    rw [ho] at hs
    refine z0g ?_ (by simp)
    refine za hs ?_
    refine wp_lt ?_
    exact zj ⟨rfl,hs⟩
  clear hs
  rintro _ w ⟨rfl,hs⟩
  refine zm ?_
  refine za hs ?_
  obtain ⟨m,-,hs⟩:=zab hs
  have hfin:∀ {w:World},Sat w (tb t (z4u A b)::r)->0=0/\([.int .i64 0]:List Value)=[.int .i64 0]/\Sat w (tb t (z4u A b)::r):=λh=>⟨rfl,rfl,h⟩
  refine zg (λ_ w'=>Sat w' (tb t (z4u A b)::r)) ?_ (by rintro _ w' hs;refine zm ?_;exact ⟨rfl,rfl,hs⟩)
  refine zg (λ_ w'=>z0h b=false/\Sat w' (pt t (.cells #[.int .i64 A.most,.int .i64 (b.base+zo b),.map (some m)] T.a5)::z17 ekI evW m (z2y A.rows)::pt a42 (.cells #[.int .i64 (z0r A b.pid).pid,.int .i64 (z0r A b.pid).epoch,.int .i64 (z0r A b.pid).seq,.int .i64 (z0r A b.pid).count,.int .i64 (z0r A b.pid).base,.int .i64 (z65 A b),.int .i64 (z0r A b.pid).time] T.a4) ::
   pt a0 (.cells #[.int .i64 b.base,.int .i64 b.pid,.int .i64 b.epoch,.int .i64 b.seq,.int .i64 b.kind,.int .i64 b.time,.slice b.x.a b.x.len b.x.cap] T.a0)::r)) ?_ ?_
  ·refine wp_lt ?_
   refine zg (λv w'=>v=(z0h b,())/\Sat w' (pt t (.cells #[.int .i64 A.most,.int .i64 (b.base+zo b),.map (some m)] T.a5)::z17 ekI evW m (z2y A.rows)::pt a42 (.cells #[.int .i64 (z0r A b.pid).pid,.int .i64 (z0r A b.pid).epoch,.int .i64 (z0r A b.pid).seq,.int .i64 (z0r A b.pid).count,.int .i64 (z0r A b.pid).base,.int .i64 (z0r A b.pid).frm,.int .i64 (z0r A b.pid).time] T.a4) ::
    pt a0 (.cells #[.int .i64 b.base,.int .i64 b.pid,.int .i64 b.epoch,.int .i64 b.seq,.int .i64 b.kind,.int .i64 b.time,.slice b.x.a b.x.len b.x.cap] T.a0)::r)) ?_ ?_
   ·refine ze (λh=>?_) λh=>?_
    ·exact zj ⟨by unfold z0h;rw [show (b.kind == 2)=true by simpa using h,decide_eq_true (by simpa using h)];rfl,hs⟩
    ·refine wp_lt ?_
     exact zj ⟨by unfold z0h;rw [decide_eq_false (p:=b.kind=2) (by simpa using h)];rfl,hs⟩
   clear hs
   rintro _ w ⟨rfl,hs⟩
   refine zm ?_
   refine ze (λhm=>?_) λhm=>?_
   ·refine zy hs λw' hs=>?_
    refine zk ?_
    refine za hs ?_
    refine za hs ?_
    refine za hs ?_
    refine za hs ?_
    have eN:z3r A b=⟨b.pid,b.epoch+1,0,0,0,-1,z87 A b⟩:=by unfold z3r;rw [if_pos hm]
    rw [w64 (x:=b.epoch+1) (by omega) (by omega)]
    refine zad hs _ hkeys (z3r A b) (λw' hs=>?_) (by rw [eN])
    refine zd ?_
    refine zh (zh ?_)
    exact ⟨rfl,rfl,by show Sat _ (tb t (z4u A b)::r);exact e ▸ z33 m (A:=⟨A.most,b.base+zo b,z82 (z3r A b) A.rows⟩) (e ▸ hok') hs hkp⟩
   have hm:z0h b=false:=by simpa using hm
   refine wp_lt ?_
   refine ze (λh=>?_) λh=>?_
   ·refine zi hs ?_
    refine z8 (zpg (z0r A b.pid) hs) λ_ _ hs=>?_
    obtain ⟨rfl,hs⟩:=hs
    refine zb ?_
    refine zg (λ_ w'=>Sat w' (pt t (.cells #[.int .i64 A.most,.int .i64 (b.base+zo b),.map (some m)] T.a5)::z17 ekI evW m (z2y A.rows)::pt a42 (.cells #[.int .i64 (z0r A b.pid).pid,.int .i64 (z0r A b.pid).epoch,.int .i64 (z0r A b.pid).seq,.int .i64 (z0r A b.pid).count,.int .i64 (z0r A b.pid).base,.int .i64 (z65 A b),.int .i64 (z0r A b.pid).time] T.a4) ::
     pt a0 (.cells #[.int .i64 b.base,.int .i64 b.pid,.int .i64 b.epoch,.int .i64 b.seq,.int .i64 b.kind,.int .i64 b.time,.slice b.x.a b.x.len b.x.cap] T.a0)::r)) ?_ (by rintro _ w' hs;refine zm ?_;exact zj ⟨hm,hs⟩)
    refine ze (λh2=>?_) λh2=>?_
    ·refine za hs ?_
     refine z07 hs λw' hs=>?_
     refine zj ?_
     have:z65 A b=b.base:=by unfold z65;rw [if_pos ⟨h,by simpa using h2⟩]
     rw [this];exact hs.sub
    ·refine zj ?_
     have:z65 A b=(z0r A b.pid).frm:=by unfold z65;rw [if_neg (λh3=>h2 (by simpa using h3.2))]
     rw [this];exact hs
   ·refine zj ⟨hm,?_⟩
    have:z65 A b=(z0r A b.pid).frm:=by unfold z65;rw [if_neg (λh3=>h h3.1)]
    rw [this];exact hs
  clear hs
  rintro _ w ⟨hm,hs⟩
  refine zm ?_
  have hl:=hs.slen b.x (xs:=b.rs) (enc:=z02)
  refine zy hs λw' hs=>?_
  refine zk ?_
  refine za hs ?_
  refine za hs ?_
  refine za hs ?_
  refine za hs ?_
  refine za hs ?_
  refine za hs ?_
  refine za hs ?_
  refine za hs ?_
  have eN:z3r A b=⟨b.pid,b.epoch,b.seq,b.rs.length,b.base,z65 A b,z87 A b⟩:=by unfold z3r;rw [if_neg (by rw [hm];simp)]
  refine zad hs _ hkeys (z3r A b) (λw' hs=>?_) (by rw [eN,hl])
  refine zd ?_
  refine zj ?_
  exact e ▸ z33 m (A:=⟨A.most,b.base+zo b,z82 (z3r A b) A.rows⟩) (e ▸ hok') hs hkp
end
abbrev ekK (k:Int × Int):Value:=.agg #[.int .i64 k.1,.int .i64 k.2]
theorem z00j (a b:Int × Int) (w:World):(Op.equal T.a16 (ekK a) (ekK b)).run P w=.ok (a.1 == b.1 && a.2 == b.2) w :=
 zjf 10000 (t:=T.a16) (x:=ekK a) (y:=ekK b) (by kernel_rfl) w
theorem zh3 {P:Program} {t:TypeId} {q k:IntKind} (hu:P.underlying t=some (.int q)) (e:Bool) (n:Nat) (v:Int) (w:World):(Instr.checkKey e (n+1) t (.int k v)).run P w=.ok () w:=by
 simp [Instr.checkKey,run_underlying hu]
theorem zq4 {P:Program} {t:TypeId} {f0 f1:Field} {q0 q1 k0 k1:IntKind} (hu:P.underlying t=some (.struct #[f0,f1])) (h0:P.underlying f0.type=some (.int q0)) (h1:P.underlying f1.type=some (.int q1)) (o0:f0.offset=0) (o1:f1.offset=1)
  (n0 : ¬ f0.name = "_") (n1 : ¬ f1.name = "_") (e : Bool) (n : Nat) (a b : Int) (w : World) : (Instr.checkKey e (n + 2) t (.agg #[.int k0 a, .int k1 b])).run P w = .ok () w := by
 have p0:(part f0.type #[Value.int k0 a,.int k1 b] f0.offset).run P w=.ok (.int k0 a) w:=run_part_plain w (by simp [Program.plainKey,h0]) (by rw [o0];rfl)
 have p1:(part f1.type #[Value.int k0 a,.int k1 b] f1.offset).run P w=.ok (.int k1 b) w:=run_part_plain w (by simp [Program.plainKey,h1]) (by rw [o1];rfl)
 have c0:=zh3 (k:=k0) h0 e n a w
 have c1:=zh3 (k:=k1) h1 e n b w
 rw [show n+2=(n+1)+1 from rfl,Instr.checkKey]
 simp only [Sem.run_bind,run_underlying hu,Result.andThen_ok]
 rw [<- Array.forIn_toList]
 simp only [List.forIn_cons,List.forIn_nil,Sem.run_bind,n0,n1,ne_eq,not_false_eq_true,if_true,Result.andThen_ok,p0,p1,c0,c1,Sem.run_pure]
theorem zte (e:Bool) (k:Int × Int) (w:World):(Instr.checkKey e 10000 T.a16 (ekK k)).run P w=.ok () w :=
 zq4 (P:=P) (q0:=.i64) (q1:=.i64) Go.Proofs.Tryz.underlying207 (by kernel_rfl) (by kernel_rfl) rfl rfl (by decide) (by decide) e 9998 k.1 k.2 w
theorem zhd (k:Int × Int) (w:World):∀ (es:List MapEntry) (i:Nat),(∀ e ∈ es,∃ k',e.key=ekK k') ->
  (∃ (j:Nat) (e:MapEntry),es[j]? = some e/\e.key=ekK k/\(Instr.findAsking T.a16 (ekK k) es i).run P w=.ok (some (i+j,e.val)) w) \/
  ((∀ e ∈ es,e.key≠ekK k)/\(Instr.findAsking T.a16 (ekK k) es i).run P w=.ok none w)
 | [],i,_=>.inr ⟨by simp,by simp [Instr.findAsking,Sem.run_pure]⟩
 | e::es,i,h=>by
  obtain ⟨k',hk'⟩:=h e (List.mem_cons_self ..)
  have hrun:(Instr.findAsking T.a16 (ekK k) (e::es) i).run P w=(if (k.1 == k'.1 && k.2 == k'.2)=true then (pure (some (i,e.val)):Sem (Option (Nat × Value))) else Instr.findAsking T.a16 (ekK k) es (i+1)).run P w:=by
   rw [Instr.findAsking]
   simp only [Sem.run_bind,hk',z00j,Result.andThen_ok]
  by_cases hk:k=k'
  ·subst hk
   refine .inl ⟨0,e,rfl,hk',?_⟩
   rw [hrun,if_pos (by simp)];rfl
  ·have hne:¬ (k.1 == k'.1 && k.2 == k'.2)=true:=λh2=>hk (by
    simp only [Bool.and_eq_true,beq_iff_eq] at h2
    exact Prod.ext h2.1 h2.2)
   rcases zhd k w es (i+1) (λe he=>h e (List.mem_cons_of_mem _ he)) with ⟨j,e',h1,h2,h3⟩|⟨h1,h2⟩
   ·exact .inl ⟨j+1,e',h1,h2,by rw [hrun,if_neg hne,h3,Nat.add_assoc,Nat.add_comm 1 j]⟩
   ·refine .inr ⟨λe' he'=>?_,by rw [hrun,if_neg hne,h2]⟩
    rcases List.mem_cons.1 he' with rfl|he'
    ·rw [hk']
     intro h4
     injection h4 with h4
     simp at h4
     exact hk (Prod.ext h4.1.symm h4.2.symm)
    ·exact h1 e' he'
instance:KeyT P T.a16 ekK where
 inj a b h:=by
  injection h with h4
  simp at h4
  exact Prod.ext h4.1 h4.2
 same a:=by
  show (_ && _)=true
  simp [Instr.sameBits]
 check:=zte
 find es k w h:=by
  have e:=run_findKey_eq (P:=P) w (k:=T.a16) (by kernel_rfl) (ekK k) es
  rcases zhd k w es 0 h with ⟨j,e',h1,h2,h3⟩|⟨h1,h2⟩
  ·exact .inl ⟨j,e',h1,h2,by rw [e,h3,Nat.zero_add]⟩
  ·exact .inr ⟨h1,by rw [e,h2]⟩
instance:KeyT P T.a13 ekI:=zju (by kernel_rfl)
instance IsK.key {a b:Int}:IsK ekK (.agg #[.int .i64 a,.int .i64 b]) (a,b):=⟨rfl⟩
instance:MapT P T.a19 T.a13 (.agg #[.int .i64 0,.int .i64 0,.int .i64 0,.int .i64 0]):=⟨T.a17,by kernel_rfl,by kernel_rfl⟩
instance:MapT P T.a20 T.a16 (.agg #[.int .i64 0,.int .i64 0,.int .i64 0,.int .i64 0]):=⟨T.a17,by kernel_rfl,by kernel_rfl⟩
end Go.Dec
