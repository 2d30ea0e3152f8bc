/- What the claim of this folder leans on: our own texts, joined, without what it does not use. -/
import Derived.Test.YtgpcickgjngglaaGreatRows
import Derived.WalkKit
import Derived.ProofKit
import Derived.OpenShut
import Derived.RowKit3
import Derived.OrdersHeld
import Derived.Scope
import Derived.KernelRfl
import Derived.Laws.Sem
import Derived.Laws.StructEq
import Derived.Deep.AppendSrc
import Derived.Laws.BytesArg
import Derived.Laws.RangeString
import Derived.Maps.RangeRun
import Derived.Lib.ConvBytes
import Derived.Lib.SlBytesConst
import Derived.ChangeSlices
import Derived.ChangeMaps5
import Derived.ChangeSame
import Derived.Deep.Slices
import Derived.Deep.Fields
import Derived.Test.YtgpcickgjngglaaGreatProg
import Derived.Laws.MakeOwn
import Derived.WideKeyRuns
import Derived.DeepKeys3
import Derived.Sort.MapsRangeIn
import Derived.Sort.KeysCollected
import Derived.RangeFuncNested
import Derived.RangeFuncBound
import Derived.RangeFuncCalls
import Derived.RangeFuncLeaves
import Derived.RangeFuncBox
import Derived.OwnWalkIn
import Derived.TacticsInMore
import Derived.RegionIn
import Derived.LoopNIn
import Derived.LoopIn
import Derived.Maps.AppendAt
import Derived.Shelf.Abstract
import Derived.Shelf.Sort.Plain
import Derived.Shelf.Slices.In.SortNone
import Derived.Test.YtgpcickgjngglaaGreatQORec1
import Derived.Test.YtgpcickgjngglaaGreatQORec2
import Derived.Test.YtgpcickgjngglaaGreatQORec3
import Derived.Test.YtgpcickgjngglaaGreatQORec4
import Derived.Test.YtgpcickgjngglaaGreatQORec5
set_option linter.unusedVariables false
set_option linter.unusedSimpArgs false
namespace Go.Dec
def z02a (c_0 c_1 c_2 c_3 time:Int) (r_0 r_1:ByteArray) (r_2:Bool) (r_3:Int):Prog :=
Ae T.a56 (Be c_0 c_1 c_2 c_3) λa0=>
Ae T.a2 (Bp r_0 r_1 r_2 r_3) λa1=>
AQ T.a54 a1 0 λs2=>
AB 1 (
Aa (decide (((ByteArray.size s2:Nat):Int)>40)) (
AQ T.a54 a1 0 λs3=>
.must ((0:Int)<=40/\40<=((ByteArray.size s3:Nat):Int)) <|
AE T.a54 a1 0 (.string (ByteArray.extract s3 0 40))<|
Ab 1 [])<|
Ab 1 [])<|
AQ T.a54 a1 1 λs4=>
AB 1 (
Aa (decide (((ByteArray.size s4:Nat):Int)>60)) (
AQ T.a54 a1 1 λs5=>
.must ((0:Int)<=60/\60<=((ByteArray.size s5:Nat):Int)) <|
AE T.a54 a1 1 (.string (ByteArray.extract s5 0 60))<|
Ab 1 [])<|
Ab 1 [])<|
BG T.a56 a0 λn6 n7 n8 n9=>
BH F.a187 [Be n6 n7 n8 n9] λn10 n11 n12 n13=>
BI F.a83 [Be n10 n11 n12 n13,Ac time] λs14 s15 b16 n17 n18=>
Ar T.a2 λa19=>
Au T.a2 a19 (Bp s14 s15 b16 n17)<|
Ah n18 λn20=>
BG T.a56 a0 λn21 n22 n23 n24=>
BI F.a194 [Be n21 n22 n23 n24,Ac time] λs25 s26 b27 n28 n29=>
Ar T.a2 λa30=>
Au T.a2 a30 (Bp s25 s26 b27 n28)<|
Ah n29 λn31=>
Bq T.a2 a19 λs32 s33 b34 n35=>
Bq T.a2 a30 λs36 s37 b38 n39=>
Aa (not (s32 == s36 && (s33 == s37 && (b34 == b38 && n35 == n39))) || n20 != n31) (
Ab 0 [.bool false])<|
AB 1 (
Aa (n20 == 0) (
Bq T.a2 a19 λs40 s41 b42 n43=>
BJ F.a82 [Bp s40 s41 b42 n43] λn44 n45 n46 n47 n48=>
Ar T.a23 λa49=>
Au T.a23 a49 (Be n44 n45 n46 n47)<|
Ah n48 λn50=>
Bc 2 (
AC<|
.read ((n50 != 0)=false) (ld T.a23 a49) (sG [.int .i64,.int .i64,.int .i64,.int .i64]) (u4 λ(n51 n52 n53 n54:Int)=>
.hold ((n50 != 0)=false) (ld T.a56 a0) (sG [.int .i64,.int .i64,.int .i64,.int .i64]) (u4 λ(n55 n56 n57 n58:Int)=>
Aa (n50 != 0) (
AG<|
Ab 2 [.bool true])<|
BH F.a188 [Be n51 n52 n53 n54] λn59 n60 n61 n62=>
AG<|
Ab 2 [.bool (not (n59 == n55 && (n60 == n56 && (n61 == n57 && n62 == n58))))]))) λb63=>
Aa b63 (
Ab 0 [.bool false])<|
Ab 1 [])<|
Ab 1 [])<|
Bq T.a2 a1 λs64 s65 b66 n67=>
BJ F.a82 [Bp s64 s65 b66 n67] λn68 n69 n70 n71 n72=>
Ar T.a23 λa73=>
Au T.a23 a73 (Be n68 n69 n70 n71)<|
Ah n72 λn74=>
Bq T.a2 a1 λs75 s76 b77 n78=>
BJ F.a193 [Bp s75 s76 b77 n78] λn79 n80 n81 n82 n83=>
Ar T.a56 λa84=>
Au T.a56 a84 (Be n79 n80 n81 n82)<|
Ah n83 λn85=>
Bc 1 (
AC<|
.read ((n74 == n85)=true) (ld T.a23 a73) (sG [.int .i64,.int .i64,.int .i64,.int .i64]) (u4 λ(n86 n87 n88 n89:Int)=>
.hold ((n74 == n85)=true) (ld T.a56 a84) (sG [.int .i64,.int .i64,.int .i64,.int .i64]) (u4 λ(n90 n91 n92 n93:Int)=>
Aa (n74 == n85) (
BH F.a188 [Be n86 n87 n88 n89] λn94 n95 n96 n97=>
AG<|
Aa (n94 == n90 && (n95 == n91 && (n96 == n92 && n97 == n93))) (
AM F.a185 [] λb98=>
Ao b98 λb99=>
AG<|
Ab 1 [.bool b99])<|
AG<|
Ab 1 [.bool false])<|
AG<|
AG<|
Ab 1 [.bool false]))) λb100=>
Ab 0 [.bool b100]
theorem zot (c_0 c_1 c_2 c_3 time:Int) (r_0 r_1:ByteArray) (r_2:Bool) (r_3:Int):FnS (z02a c_0 c_1 c_2 c_3 time r_0 r_1 r_2 r_3) F.a184 #[.agg #[.int .i64 c_0,.int .i64 c_1,.int .i64 c_2,.int .i64 c_3],.int .i64 time,.agg #[.string r_0,.string r_1,.bool r_2,.int .i64 r_3]]:=dV ⟨[(128849018900,[]),(32985348833308,[]),(2417556491324079022014519,[])],[],[(11,[(68,.one .bool)]),(15,[(6,.one .bool)])],[]⟩ Go.Proofs.Tryz.func5 (by kernel_rfl)
def z08m (c_0 c_1 c_2 c_3:Int) (time:Int):Prog :=
Ae T.a23 (Be c_0 c_1 c_2 c_3) λa0=>
Ar T.a2 λa1=>
BG T.a23 a0 λn2 n3 n4 n5=>
AM F.a75 [Be n2 n3 n4 n5] λb6=>
Aa (not b6 || decide (time<0) || decide (time>1099511627776)) (
Au T.a2 a1 (.agg #[.string (ByteArray.mk #[]),.string (ByteArray.mk #[]),.bool false,Ac 0])<|
Bq T.a2 a1 λs7 s8 b9 n10=>
Ab 0 [Bp s7 s8 b9 n10,Ac 2])<|
AS 1 (
AC<|
AD T.a14 a0 1 λn11=>
By T.a13 a0 2 λn12=>
By T.a13 a0 3 λn13=>
Ay F.a210 [.int .u64 (IntKind.wrap .u64 n11)] λl14=>
Ay F.a210 [.int .u64 (IntKind.wrap .u64 n12)] λl15=>
AG<|
Ay F.a210 [.int .u64 (IntKind.wrap .u64 n13)] λl16=>
AP (Instr.buildSlice T.a47 3 #[(0,l14.v),(1,l15.v),(2,l16.v)]) λl17=>
Ay F.a198 [l17.v] λl18=>
AG<|
Ab 1 [l18.v]) λl19=>
AI 1 (
AC<|
AD T.a13 a0 0 λn20=>
.hold True (convert T.a49 T.a54 l19.v) sS (u1 λs21=>
Bu F.a85 [Ac n20] λs22=>
AG<|
Au T.a2 a1 (Bp s22 s21 false time)<|
AG<|
Ab 1 [Ac 0])) λn23=>
Bq T.a2 a1 λs24 s25 b26 n27=>
Ab 0 [Bp s24 s25 b26 n27,Ac n23]
theorem zuw (c_0 c_1 c_2 c_3 time:Int):FnS (z08m c_0 c_1 c_2 c_3 time) F.a83 #[.agg #[.int .i64 c_0,.int .i64 c_1,.int .i64 c_2,.int .i64 c_3],.int .i64 time]:=dV ⟨[],[],[(3,[(6,.one .slc)]),(4,[(5,.one (.int .i64))])],[]⟩ Go.Proofs.Tryz.func19 (by kernel_rfl)
def z02c (c_0 c_1 c_2:Int) (c_3:Int):Prog :=
Ae T.a56 (Be c_0 c_1 c_2 c_3) λa0=>
Ar T.a23 λa1=>
AD T.a13 a0 0 λn2=>
AD T.a14 a0 1 λn3=>
AD T.a13 a0 2 λn4=>
AD T.a13 a0 3 λn5=>
Au T.a23 a1 (Be n2 n3 n4 n5)<|
BG T.a23 a1 λn6 n7 n8 n9=>
Ab 0 [Be n6 n7 n8 n9]
theorem zov (c_0 c_1 c_2 c_3:Int):FnS (z02c c_0 c_1 c_2 c_3) F.a187 #[.agg #[.int .i64 c_0,.int .i64 c_1,.int .i64 c_2,.int .i64 c_3]]:=dV ⟨[],[],[],[]⟩ Go.Proofs.Tryz.func20 (by kernel_rfl)
def z02i (c_0 c_1 c_2 c_3:Int) (time:Int):Prog :=
Ae T.a56 (Be c_0 c_1 c_2 c_3) λa0=>
Ar T.a2 λa1=>
AD T.a13 a0 0 λn2=>
Bz (decide (n2<0)=false) T.a13 a0 0 λn3=>
Bz ((decide (n2<0) || decide (n3>255))=false) T.a14 a0 1 λn4=>
Bz ((decide (n2<0) || decide (n3>255) || decide (n4<0))=false) T.a14 a0 1 λn5=>
Bz ((decide (n2<0) || decide (n3>255) || decide (n4<0) || decide (n5>1099511627776))=false) T.a13 a0 2 λn6=>
Bz ((decide (n2<0) || decide (n3>255) || decide (n4<0) || decide (n5>1099511627776) || decide (n6<0))=false) T.a13 a0 2 λn7=>
Bz ((decide (n2<0) || decide (n3>255) || decide (n4<0) || decide (n5>1099511627776) || decide (n6<0) || decide (n7>64))=false) T.a13 a0 3 λn8=>
Bz ((decide (n2<0) || decide (n3>255) || decide (n4<0) || decide (n5>1099511627776) || decide (n6<0) || decide (n7>64) || decide (n8<0))=false) T.a13 a0 3 λn9=>
Aa (decide (n2<0) || decide (n3>255) || decide (n4<0) || decide (n5>1099511627776) || decide (n6<0) || decide (n7>64) || decide (n8<0) || decide (n9>2147483647) || decide (time<0) || decide (time>1099511627776)) (
Au T.a2 a1 (.agg #[.string (ByteArray.mk #[]),.string (ByteArray.mk #[]),.bool false,Ac 0])<|
Bq T.a2 a1 λs10 s11 b12 n13=>
Ab 0 [Bp s10 s11 b12 n13,Ac 2])<|
AD T.a14 a0 1 λn14=>
Ay F.a191 [.int .u64 (IntKind.wrap .u64 n14)] λl15=>
AD T.a13 a0 2 λn16=>
Ay F.a191 [.int .u64 (IntKind.wrap .u64 n16)] λl17=>
AP (app T.a49 T.a49 T.a49 l15.v l17.v) λl18=>
AD T.a13 a0 3 λn19=>
Ay F.a191 [.int .u64 (IntKind.wrap .u64 n19)] λl20=>
AP (app T.a49 T.a49 T.a49 l18.v l20.v) λl21=>
AI 1 (
AC<|
AD T.a13 a0 0 λn22=>
.hold True (convert T.a49 T.a54 l21.v) sS (u1 λs23=>
Bu F.a195 [Ac n22] λs24=>
.must (((1+ByteArray.size s24:Nat):Int)<=9223372036854775807) <|
AG<|
Au T.a2 a1 (.agg #[.string ((ByteArray.mk #[111])++s24),.string s23,.bool false,Ac time])<|
AG<|
Ab 1 [Ac 0])) λn25=>
Bq T.a2 a1 λs26 s27 b28 n29=>
Ab 0 [Bp s26 s27 b28 n29,Ac n25]
theorem zp1 (c_0 c_1 c_2 c_3 time:Int):FnS (z02i c_0 c_1 c_2 c_3 time) F.a194 #[.agg #[.int .i64 c_0,.int .i64 c_1,.int .i64 c_2,.int .i64 c_3],.int .i64 time]:=dV ⟨[],[],[(6,[(5,.one (.int .i64))])],[]⟩ Go.Proofs.Tryz.func21 (by kernel_rfl)
def z08l (r_0 r_1:ByteArray) (r_2:Bool) (r_3:Int):Prog :=
Ae T.a2 (Bp r_0 r_1 r_2 r_3) λa0=>
Ar T.a23 λa1=>
AQ T.a54 a0 0 λs2=>
Aq ((((ByteArray.size s2:Nat):Int) != 4)=false) T.a3 a0 2 λb3=>
Aa (((ByteArray.size s2:Nat):Int) != 4 || b3) (
Au T.a23 a1 (Be 0 0 0 0)<|
BG T.a23 a1 λn4 n5 n6 n7=>
Ab 0 [Be n4 n5 n6 n7,Ac 6])<|
Ar T.a23 λa8=>
Au T.a23 a8 (Be 0 0 0 0)<|
AQ T.a54 a0 0 λs9=>
.must ((0:Int)<=1/\1<=((ByteArray.size s9:Nat):Int)) <|
AP (convert T.a54 T.a49 (.string (ByteArray.extract s9 1 (ByteArray.size s9)))) λl10=>
AB 1 (
AO 2 (0,()) λn11=>
Aa (decide (n11<(Ag l10))) (
.ex [.adr] (c1 λa12=>0<=n11/\n11<(Ag l10)/\l10.a=some a12) (u1 λa13=>
AY T.a57 a13 (Int.toNat n11*1) λn14=>
AZ n14 λn15=>
Aa (decide (n15<48) || decide (n15>57)) (
Au T.a23 a1 (Be 0 0 0 0)<|
BG T.a23 a1 λn16 n17 n18 n19=>
Ab 0 [Be n16 n17 n18 n19,Ac 6])<|
AD T.a13 a8 0 λn20=>
AE T.a13 a8 0 (Ac (AF (AF (n20*10)+AF (IntKind.wrap .u8 (n15-48)))))<|
Ab 2 [Ac (AF (n11+1))]))<|
Ab 1 [])<|
AQ T.a54 a0 1 λs21=>
AP (convert T.a54 T.a49 (.string s21)) λl22=>
B1 F.a199 [l22.v] λp23=>
Bj F.a206 [Ad p23] λn24=>
Bj F.a206 [Ad p23] λn25=>
Bj F.a206 [Ad p23] λn26=>
AU n24 λn27=>
AU n25 λn28=>
AU n26 λn29=>
Ai F.a201 [Ad p23] λn30=>
Aa (n30 != 0 || decide (n27>1099511627776) || decide (n28>64) || decide (n29>2147483647)) (
Au T.a23 a1 (Be 0 0 0 0)<|
BG T.a23 a1 λn31 n32 n33 n34=>
Ab 0 [Be n31 n32 n33 n34,Ac 6])<|
AE T.a14 a8 1 (Ac (AF n27))<|
AE T.a13 a8 2 (Ac (AF n28))<|
AE T.a13 a8 3 (Ac (AF n29))<|
Bc 1 (
AC<|
BG T.a23 a8 λn35 n36 n37 n38=>
AM F.a75 [Be n35 n36 n37 n38] λb39=>
.hold (not b39=false) (ld T.a54 (Addr.add a0 0)) sS (u1 λs40=>
Bz (not b39=false) T.a13 a8 0 λn41=>
Aa (not b39) (
AG<|
Ab 1 [.bool true])<|
Bu F.a85 [Ac n41] λs42=>
AG<|
Ab 1 [.bool (not (ByteArray.toList s40 == ByteArray.toList s42))])) λb43=>
Aa b43 (
Au T.a23 a1 (Be 0 0 0 0)<|
BG T.a23 a1 λn44 n45 n46 n47=>
Ab 0 [Be n44 n45 n46 n47,Ac 6])<|
BG T.a23 a8 λn48 n49 n50 n51=>
Au T.a23 a1 (Be n48 n49 n50 n51)<|
BG T.a23 a1 λn52 n53 n54 n55=>
Ab 0 [Be n52 n53 n54 n55,Ac 0]
theorem zuv (r_0 r_1:ByteArray) (r_2:Bool) (r_3:Int):FnS (z08l r_0 r_1 r_2 r_3) F.a82 #[.agg #[.string r_0,.string r_1,.bool r_2,.int .i64 r_3]]:=dV ⟨[],[(0,[])],[(16,[(91,.one .bool)])],[(0,[(26,.one (.int .i64))])]⟩ Go.Proofs.Tryz.func22 (by kernel_rfl)
def z02d (c_0 c_1 c_2:Int) (c_3:Int):Prog :=
Ae T.a23 (Be c_0 c_1 c_2 c_3) λa0=>
Ar T.a56 λa1=>
AD T.a13 a0 0 λn2=>
AD T.a14 a0 1 λn3=>
AD T.a13 a0 2 λn4=>
AD T.a13 a0 3 λn5=>
Au T.a56 a1 (Be n2 n3 n4 n5)<|
BG T.a56 a1 λn6 n7 n8 n9=>
Ab 0 [Be n6 n7 n8 n9]
theorem zow (c_0 c_1 c_2 c_3:Int):FnS (z02d c_0 c_1 c_2 c_3) F.a188 #[.agg #[.int .i64 c_0,.int .i64 c_1,.int .i64 c_2,.int .i64 c_3]]:=dV ⟨[],[],[],[]⟩ Go.Proofs.Tryz.func23 (by kernel_rfl)
def z02h (r_0 r_1:ByteArray) (r_2:Bool) (r_3:Int):Prog :=
Ae T.a2 (Bp r_0 r_1 r_2 r_3) λa0=>
Ar T.a56 λa1=>
AQ T.a54 a0 1 λs2=>
AP (convert T.a54 T.a49 (.string s2)) λl3=>
Ae T.a55 (.agg #[l3.v,Ac 0,Ac 0]) λa4=>
Bj F.a189 [Af a4] λn5=>
AU n5 λn6=>
Bj F.a189 [Af a4] λn7=>
AU n7 λn8=>
Bj F.a189 [Af a4] λn9=>
AU n9 λn10=>
Aa (decide (n6>2199023255552) || decide (n8>1000) || decide (n10>1099511627776)) (
Au T.a56 a1 (Be 0 0 0 0)<|
BG T.a56 a1 λn11 n12 n13 n14=>
Ab 0 [Be n11 n12 n13 n14,Ac 6])<|
AB 1 (
AO 2 (0,()) λn15=>
Aa (decide (n15<=255)) (
Ar T.a56 λa16=>
Au T.a56 a16 (.agg #[Ac n15,Ac (AF n6),Ac (AF n8),Ac (AF n10)])<|
BG T.a56 a16 λn17 n18 n19 n20=>
BI F.a194 [Be n17 n18 n19 n20,Ac 0] λs21 s22 b23 n24 n25=>
Ar T.a2 λa26=>
Au T.a2 a26 (Bp s21 s22 b23 n24)<|
Ah n25 λn27=>
Bh ((n27 == 0)=true) T.a54 a26 0 λs28=>
Bh ((n27 == 0)=true) T.a54 a0 0 λs29=>
Bh ((n27 == 0 && ByteArray.toList s28 == ByteArray.toList s29)=true) T.a54 a26 1 λs30=>
Bh ((n27 == 0 && ByteArray.toList s28 == ByteArray.toList s29)=true) T.a54 a0 1 λs31=>
Aq ((n27 == 0 && ByteArray.toList s28 == ByteArray.toList s29 && ByteArray.toList s30 == ByteArray.toList s31)=true) T.a3 a0 2 λb32=>
Aa (n27 == 0 && ByteArray.toList s28 == ByteArray.toList s29 && ByteArray.toList s30 == ByteArray.toList s31 && not b32) (
BG T.a56 a16 λn33 n34 n35 n36=>
Au T.a56 a1 (Be n33 n34 n35 n36)<|
BG T.a56 a1 λn37 n38 n39 n40=>
Ab 0 [Be n37 n38 n39 n40,Ac 0])<|
Ah (AF (n15+1)) λn41=>
Ab 2 [Ac n41])<|
Ab 1 [])<|
Au T.a56 a1 (Be 0 0 0 0)<|
BG T.a56 a1 λn42 n43 n44 n45=>
Ab 0 [Be n42 n43 n44 n45,Ac 6]
theorem zp0 (r_0 r_1:ByteArray) (r_2:Bool) (r_3:Int):FnS (z02h r_0 r_1 r_2 r_3) F.a193 #[.agg #[.string r_0,.string r_1,.bool r_2,.int .i64 r_3]]:=dV ⟨[],[(0,[])],[],[(0,[(8,.one (.int .i64))])]⟩ Go.Proofs.Tryz.func24 (by kernel_rfl)
def z8r  : Prog :=
.act (new T.a23) sA (u1 λa0 =>
.actU (st T.a23 a0 (.agg #[.int .i64 7,.int .i64 300,.int .i64 2,.int .i64 5])) <|
.read True (ld T.a23 a0) (sG [.int .i64,.int .i64,.int .i64,.int .i64]) (u4 λ(n1 n2 n3 n4:Int) =>
.call F.a83 [.agg #[.int .i64 n1,.int .i64 n2,.int .i64 n3,.int .i64 n4],.int .i64 9] (.tup [.agg [.str,.str,.bool,.int .i64],.one (.int .i64)]) (u5 λs5 s6 b7 (n8 n9:Int) =>
.act (new T.a2) sA (u1 λa10 =>
.actU (st T.a2 a10 (.agg #[.string s5,.string s6,.bool b7,.int .i64 n8])) <|
.lt (.int .i64) (n9) λ(n11:Int) =>
.call F.a39 [.int .i64 65536] (.tup [.one .ptr,.one (.int .i64)]) (u2 λp12 (n13:Int) =>
.lt (.int .i64) (n13) λ(n14:Int) =>
.call F.a186 [.int .i64 0] (sG [.int .i64,.int .i64,.int .i64]) (u3 λ(n15 n16 n17:Int) =>
.call F.a81 [.pointer p12,.string (ByteArray.mk #[111]),.agg #[.int .i64 n15,.int .i64 n16,.int .i64 n17]] (.tup [.one .ptr,.one (.int .i64)]) (u2 λp18 (n19:Int) =>
.lt (.int .i64) (n19) λ(n20:Int) =>
.read ((n11 != 0)=false) (ld T.a54 (Addr.add a10 0)) sS (u1 λs21 =>
.read ((n11 != 0 || not (ByteArray.toList s21 == ByteArray.toList (ByteArray.mk #[111,48,48,55])))=false) (ld T.a54 (Addr.add a10 1)) sS (u1 λs22 =>
.ite (n11 != 0 || not (ByteArray.toList s21 == ByteArray.toList (ByteArray.mk #[111,48,48,55])) || not (ByteArray.toList s22 == ByteArray.toList (ByteArray.mk #[172,2,2,5])) || n20 != 0 || Option.isNone p18) (
.done 0 [.bool false]) (
.read True (ld T.a23 a0) (sG [.int .i64,.int .i64,.int .i64,.int .i64]) (u4 λ(n23 n24 n25 n26:Int) =>
.act (Instr.buildSlice T.a43 1 #[(0,.agg #[.int .i64 n23,.int .i64 n24,.int .i64 n25,.int .i64 n26])]) sL (u1 λl27 =>
.call F.a78 [.pointer p18,.int .i64 3,.int .i64 0,.int .i64 0,.int .i64 9,l27.v] (.tup [.one .bool,.one (.int .i64)]) (u2 λb28 (n29:Int) =>
.lt (.bool) (b28) λb30 =>
.lt (.int .i64) (n29) λ(n31:Int) =>
.call F.a77 [.pointer p18,.int .i64 7] (.tup [.agg [.int .i64,.int .i64,.int .i64,.int .i64],.one .bool]) (u5 λ(n32 n33 n34 n35:Int) b36 =>
.act (new T.a23) sA (u1 λa37 =>
.actU (st T.a23 a37 (.agg #[.int .i64 n32,.int .i64 n33,.int .i64 n34,.int .i64 n35])) <|
.lt (.bool) (b36) λb38 =>
.call F.a79 [.pointer p18] sL (u1 λl39 =>
.call F.a76 [.pointer p18,.int .i64 3,.int .i64 0,.bool true,.int .i64 9] (.tup [.one .bool,.one (.int .i64)]) (u2 λb40 (n41:Int) =>
.lt (.bool) (b40) λb42 =>
.lt (.int .i64) (n41) λ(n43:Int) =>
.call F.a77 [.pointer p18,.int .i64 7] (.tup [.agg [.int .i64,.int .i64,.int .i64,.int .i64],.one .bool]) (u5 λ(n44 n45 n46 n47:Int) b48 =>
.act (new T.a23) sA (u1 λa49 =>
.actU (st T.a23 a49 (.agg #[.int .i64 n44,.int .i64 n45,.int .i64 n46,.int .i64 n47])) <|
.lt (.bool) (b48) λb50 =>
.ex [.adr] (c1 λa51=>(not b30 && n31 == 0 && not b38 && ((l39.len:Nat):Int) == 1)=true->(0:Int)<=0/\0<((l39.len:Nat):Int)/\l39.a=some a51) (u1 λa52 =>
.read ((not b30 && n31 == 0 && not b38 && ((l39.len:Nat):Int) == 1)=true) (ld T.a14 (Addr.add (Addr.add (Addr.add a52 0) 2) 1)) (sI .i64) (u1 λ(n53:Int) =>
.read ((not b30 && n31 == 0 && not b38 && ((l39.len:Nat):Int) == 1 && n53 == 300 && n43 == 0 && b50)=true) (ld T.a23 a49) (sG [.int .i64,.int .i64,.int .i64,.int .i64]) (u4 λ(n54 n55 n56 n57:Int) =>
.read ((not b30 && n31 == 0 && not b38 && ((l39.len:Nat):Int) == 1 && n53 == 300 && n43 == 0 && b50)=true) (ld T.a23 a0) (sG [.int .i64,.int .i64,.int .i64,.int .i64]) (u4 λ(n58 n59 n60 n61:Int) =>
.lt (.bool) (not b30 && n31 == 0 && not b38 && ((l39.len:Nat):Int) == 1 && n53 == 300 && n43 == 0 && b50 && (n54 == n58 && (n55 == n59 && (n56 == n60 && n57 == n61)))) λb62 =>
.done 0 [.bool b62])))))))))))))))))))))))
theorem za1 :FnS (z8r ) F.a185 #[]:=dV ⟨[],[],[],[]⟩ Go.Proofs.Tryz.func25 (by kernel_rfl)
def z02b (seg:Int):Prog :=
Ar T.a35 λa0=>
Ah (Int.tmod seg 200) λn1=>
AI 1 (
Aa (decide (n1<0)) (
Ah (AF (0-n1)) λn2=>
Ab 1 [Ac n2])<|
Ab 1 [Ac n1]) λn3=>
Au T.a35 a0 (.agg #[Ac (AF (64+n3)),Ac 30,Ac 20])<|
BD T.a35 a0 λn4 n5 n6=>
Ab 0 [B8 n4 n5 n6]
theorem zou (seg:Int):FnS (z02b seg) F.a186 #[.int .i64 seg]:=dV ⟨[(1576966,[(0,.one (.int .i64))])],[],[],[]⟩ Go.Proofs.Tryz.func26 (by kernel_rfl)
def z08k (d:Option Addr) (prefix_:ByteArray) (c_0 c_1:Int) (c_2:Int):Prog :=
Ae T.a35 (B8 c_0 c_1 c_2) λa0=>
BD T.a35 a0 λn1 n2 n3=>
BC F.a86 [Ad d,.string prefix_,B8 n1 n2 n3] λp4 n5=>
Ah n5 λn6=>
Aa (n6 != 0) (
Ah n6 λn7=>
Ab 0 [Ad none,Ac n7])<|
Ai F.a89 [Ad p4] λn8=>
B1 F.a5 [] λp9=>
Ae T.a24 (.agg #[Ad p4,Ac n8,Ad p9]) λa10=>
Am F.a80 [Af a10]<|
Ab 0 [Af a10,Ac 0]
theorem zuu (d:Option Addr) (prefix_:ByteArray) (c_0 c_1 c_2:Int):FnS (z08k d prefix_ c_0 c_1 c_2) F.a81 #[.pointer d,.string prefix_,.agg #[.int .i64 c_0,.int .i64 c_1,.int .i64 c_2]]:=dV ⟨[],[],[],[]⟩ Go.Proofs.Tryz.func27 (by kernel_rfl)
def z08f (o:Option Addr) (pid epoch:Int) (commit:Bool) (time:Int):Prog :=
Aa (Option.isNone o) (
Ab 0 [.bool false,Ac 1])<|
Aj o λa1=>
Bw T.a32 a1 0 λp2=>
BK F.a90 [Ad p2,Ac pid,Ac epoch,.bool commit,Ac time] λn3 b4 n5=>
Ah n3 λn6=>
Ao b4 λb7=>
Ah n5 λn8=>
AB 1 (
Aa (n8 == 0) (
Am F.a80 [Ad o]<|
Ab 1 [])<|
Ab 1 [])<|
Ao b7 λb9=>
Ah n8 λn10=>
Ab 0 [.bool b9,Ac n10]
theorem zup (o:Option Addr) (pid epoch:Int) (commit:Bool) (time:Int):FnS (z08f o pid epoch commit time) F.a76 #[.pointer o,.int .i64 pid,.int .i64 epoch,.bool commit,.int .i64 time]:=dV ⟨[(52776558133279,[])],[],[],[]⟩ Go.Proofs.Tryz.func28 (by kernel_rfl)
def z08h (o:Option Addr) (pid epoch seq time:Int) (cs:Sl):Prog :=
Aa (Option.isNone o) (
Ab 0 [.bool false,Ac 1])<|
Aa ((Ag cs) == 0) (
Ab 0 [.bool false,Ac 3])<|
Ar T.a0 λa0=>
Au T.a0 a0 (.agg #[Ac 0,Ac pid,Ac epoch,Ac seq,Ac 1,Ac time,.slice none 0 0])<|
AB 1 (
AO 2 (0,()) λn1=>
Aa (decide (n1<(Ag cs))) (
.ex [.adr] (c1 λa2=>0<=n1/\n1<(Ag cs)/\cs.a=some a2) (u1 λa3=>
Bi T.a23 a3 (Int.toNat n1*4) λn4 n5 n6 n7=>
Ar T.a23 λa8=>
Au T.a23 a8 (Be n4 n5 n6 n7)<|
BG T.a23 a8 λn9 n10 n11 n12=>
BI F.a83 [Be n9 n10 n11 n12,Ac time] λs13 s14 b15 n16 n17=>
Ar T.a2 λa18=>
Au T.a2 a18 (Bp s13 s14 b15 n16)<|
Ah n17 λn19=>
Aa (n19 != 0) (
Ah n19 λn20=>
Ab 0 [.bool false,Ac n20])<|
Ax T.a39 a0 6 λl21=>
Bq T.a2 a18 λs22 s23 b24 n25=>
AP (Instr.buildSlice T.a39 1 #[(0,Bp s22 s23 b24 n25)]) λl26=>
AP (app T.a39 T.a39 T.a39 l21.v l26.v) λl27=>
AE T.a39 a0 6 l27.v<|
Ab 2 [Ac (AF (n1+1))]))<|
Ab 1 [])<|
AC<|
Aj o λa29=>
Bw T.a32 a29 0 λp30=>
Bn T.a0 a0 λn31 n32 n33 n34 n35 n36 l37=>
BK F.a87 [Ad p30,AW n31 n32 n33 n34 n35 n36 l37] λn38 b39 n40=>
Ah n38 λn41=>
Ao b39 λb42=>
Ah n40 λn43=>
AG<|
Ao b42 λb44=>
Ah n43 λn45=>
Ab 0 [.bool b44,Ac n45]
theorem zur (o:Option Addr) (pid epoch seq time:Int) (cs:Sl):FnS (z08h o pid epoch seq time cs) F.a78 #[.pointer o,.int .i64 pid,.int .i64 epoch,.int .i64 seq,.int .i64 time,.slice cs.a cs.len cs.cap]:=dV ⟨[],[(0,[])],[],[(0,[(35,.one (.int .i64))])]⟩ Go.Proofs.Tryz.func30 (by kernel_rfl)
def z08g (o:Option Addr) (part:Int):Prog :=
Ar T.a23 λa0=>
Aa (Option.isNone o || decide (part<0) || decide (part>255)) (
Au T.a23 a0 (Be 0 0 0 0)<|
BG T.a23 a0 λn1 n2 n3 n4=>
Ab 0 [Be n1 n2 n3 n4,.bool false])<|
BL 1 (
AC<|
Aj o λa6=>
B4 T.a26 a6 2 λp7=>
.both (
Bu F.a85 [Ac part] λs8=>
.both (
AG<|
BM F.a7 [Ad p7,.string s8] λn9 s10 s11 b12 n13 b14=>
Ar T.a37 λa15=>
Au T.a37 a15 (BN n9 s10 s11 b12 n13)<|
Ao b14 λb16=>
AG<|
Ab 1 [Af a15,.bool b16]) <|
Ar T.a37 λa17=>
AG<|
BM F.a7 [Ad p7,.string s8] λn18 s19 s20 b21 n22 b23=>
Au T.a37 a17 (BN n18 s19 s20 b21 n22)<|
Ao b23 λb24=>
AG<|
Ab 1 [Af a17,.bool b24]) <|
Ar T.a37 λa25=>
Bu F.a85 [Ac part] λs26=>
AG<|
BM F.a7 [Ad p7,.string s26] λn27 s28 s29 b30 n31 b32=>
Au T.a37 a25 (BN n27 s28 s29 b30 n31)<|
Ao b32 λb33=>
AG<|
Ab 1 [Af a25,.bool b33]) λa34 b35=>
Aa (not b35) (
Au T.a23 a0 (Be 0 0 0 0)<|
BG T.a23 a0 λn36 n37 n38 n39=>
Ab 0 [Be n36 n37 n38 n39,.bool false])<|
Bo T.a2 a34 1 λs40 s41 b42 n43=>
BJ F.a82 [Bp s40 s41 b42 n43] λn44 n45 n46 n47 n48=>
Ar T.a23 λa49=>
Au T.a23 a49 (Be n44 n45 n46 n47)<|
Ah n48 λn50=>
BG T.a23 a49 λn51 n52 n53 n54=>
Au T.a23 a0 (Be n51 n52 n53 n54)<|
BG T.a23 a0 λn55 n56 n57 n58=>
Ab 0 [Be n55 n56 n57 n58,.bool true]
theorem zuq (o:Option Addr) (part:Int):FnS (z08g o part) F.a77 #[.pointer o,.int .i64 part]:=dV ⟨[],[],[(3,[(6,.one .adr),(7,.one .bool)])],[]⟩ Go.Proofs.Tryz.func33 (by kernel_rfl)
def z08i (o:Option Addr):Prog :=
Aa (Option.isNone o) (
Ab 0 [.slice none 0 0])<|
Aj o λa1=>
Bw T.a32 a1 0 λp2=>
Ay F.a88 [Ad p2] λl3=>
AS 1 (
Bl 2 (⟨none,0,0⟩,(0,())) λl4 n5=>
Aa (decide (n5<(Ag l3))) (
AS 3 (
.ex [.adr] (c1 λa6=>0<=n5/\n5<(Ag l3)/\l3.a=some a6) (u1 λa7=>
AV T.a0 a7 (Int.toNat n5*7) λn8 n9 n10 n11 n12 n13 l14=>
Ar T.a0 λa15=>
Ah n5 λn16=>
Au T.a0 a15 (AW n8 n9 n10 n11 n12 n13 l14)<|
Bc 4 (
AC<|
AD T.a13 a15 4 λn17=>
B7 ((n17 != 1)=false) T.a0 a15 λn18 n19 n20 n21 n22 n23 l24=>
.must ((n17 != 1)=false->0<=AF (n16+1)/\AF (n16+1)<=(Ag l3)) <|
Aa (n17 != 1) (
AG<|
Ab 4 [.bool true])<|
AM F.a84 [AW n18 n19 n20 n21 n22 n23 l24,.slice (z12 l3.a 7 (Int.toNat (AF (n16+1))) l3.cap) (l3.len-Int.toNat (AF (n16+1))) (l3.cap-Int.toNat (AF (n16+1)))] λb25=>
AG<|
Ab 4 [.bool b25]) λb26=>
Aa b26 (
Ab 3 [l4.v])<|
Ax T.a39 a15 6 λl27=>
AS 4 (
Bl 5 ({ a:=l4.a,len:=l4.len,cap:=l4.cap },(0,())) λl28 n29=>
Aa (decide (n29<(Ag l27))) (
.ex [.adr] (c1 λa30=>0<=n29/\n29<(Ag l27)/\l27.a=some a30) (u1 λa31=>
Bo T.a2 a31 (Int.toNat n29*4) λs32 s33 b34 n35=>
Ar T.a2 λa36=>
Au T.a2 a36 (Bp s32 s33 b34 n35)<|
Bq T.a2 a36 λs37 s38 b39 n40=>
BJ F.a82 [Bp s37 s38 b39 n40] λn41 n42 n43 n44 n45=>
Ar T.a23 λa46=>
Au T.a23 a46 (Be n41 n42 n43 n44)<|
Ah n45 λn47=>
AS 6 (
Aa (n47 == 0) (
AD T.a14 a15 1 λn48=>
AD T.a13 a15 2 λn49=>
BG T.a23 a46 λn50 n51 n52 n53=>
AP (Instr.buildSlice T.a44 1 #[(0,.agg #[Ac n48,Ac n49,Ac n50,Ac n51,Ac n52,Ac n53])]) λl54=>
AP (app T.a44 T.a44 T.a44 l28.v l54.v) λl55=>
Ab 6 [l55.v])<|
Ab 6 [l28.v]) λl56=>
Ab 5 [l56.v,Ac (AF (n29+1))]))<|
Ab 4 [l28.v]) λl57=>
Ab 3 [l57.v])) λl58=>
Ab 2 [l58.v,Ac (AF (n5+1))])<|
Ab 1 [l4.v]) λl59=>
Ab 0 [l59.v]
theorem zus (o:Option Addr):FnS (z08i o) F.a79 #[.pointer o]:=dV ⟨[(2356571555416395284529,[(4,.one .slc)])],[(0,[(4,.one .slc)]),(1,[(4,.one .slc)]),(2,[(4,.one .slc)])],[(8,[(35,.one .bool)])],[(0,[(4,.one .slc),(20,.one (.int .i64))]),(2,[(4,.one .slc),(39,.one (.int .i64))])]⟩ Go.Proofs.Tryz.func61 (by kernel_rfl)
def z08p (d:Option Addr) (prefix_:ByteArray) (c_0 c_1:Int) (c_2:Int):Prog :=
Ae T.a35 (B8 c_0 c_1 c_2) λa0=>
AD T.a13 a0 2 λn1=>
Bz (decide (n1<1)=false) T.a13 a0 2 λn2=>
Aa (decide (n1<1) || decide (n2>1024)) (
Aa (Option.isNone d) (
Ab 0 [Ad none,Ac 1])<|
Ab 0 [Ad none,Ac 2])<|
BO T.a50 a0 0 λn3 n4=>
BC F.a139 [Ad d,.string prefix_,Br n3 n4] λp5 n6=>
Ah n6 λn7=>
Aa (n7 != 0) (
Ah n7 λn8=>
Ab 0 [Ad none,Ac n8])<|
AD T.a13 a0 2 λn9=>
Ae T.a36 (.agg #[Ad p5,Ad d,.string prefix_,Ac n9,Ad none,Ad none]) λa10=>
Bc 1 (
Bu F.a99 [Af a10] λs11=>
Ai F.a33 [Ad d,.string s11] λn12=>
Aa (decide (n12>0)) (
Ab 1 [.bool true])<|
Bu F.a99 [Af a10] λs13=>
AM F.a100 [Ad d,.string s13] λb14=>
Ab 1 [.bool b14]) λb15=>
AB 1 (
Aa b15 (
Bu F.a99 [Af a10] λs16=>
Ai F.a32 [Ad d,.string s16] λn17=>
Ah n17 λn18=>
Aa (n18 != 0) (
Ah n18 λn19=>
Ab 0 [Ad none,Ac n19])<|
Ab 1 [])<|
Ab 1 [])<|
Ai F.a95 [Af a10] λn20=>
Ah n20 λn21=>
Ay F.a120 [Ad p5] λl22=>
AB 1 (
AO 2 (0,()) λn23=>
Aa (decide (n23<(Ag l22))) (
.ex [.adr] (c1 λa24=>0<=n23/\n23<(Ag l22)/\l22.a=some a24) (u1 λa25=>
AV T.a0 a25 (Int.toNat n23*7) λn26 n27 n28 n29 n30 n31 l32=>
Ar T.a0 λa33=>
Au T.a0 a33 (AW n26 n27 n28 n29 n30 n31 l32)<|
AD T.a14 a33 0 λn34=>
AB 3 (
Aa (decide (n34>=n21)) (
Bn T.a0 a33 λn35 n36 n37 n38 n39 n40 l41=>
Am F.a98 [Af a10,AW n35 n36 n37 n38 n39 n40 l41]<|
Ab 3 [])<|
Ab 3 [])<|
Ab 2 [Ac (AF (n23+1))]))<|
Ab 1 [])<|
Ab 0 [Af a10,Ac 0]
theorem zuz (d:Option Addr) (prefix_:ByteArray) (c_0 c_1 c_2:Int):FnS (z08p d prefix_ c_0 c_1 c_2) F.a86 #[.pointer d,.string prefix_,.agg #[.int .i64 c_0,.int .i64 c_1,.int .i64 c_2]]:=dV ⟨[(18741891978888913616950,[]),(1083197534374707740536733770,[])],[(0,[])],[(9,[(54,.one .bool)])],[(0,[(67,.one (.int .i64))])]⟩ Go.Proofs.Tryz.func63 (by kernel_rfl)
def zed  : Prog :=
.act (Instr.box T.a4 (.agg #[.int .i64 0,.slice none 0 0])) sA (u1 λa0 =>
.done 0 [.pointer (some a0)])
theorem zea :FnS (zed ) F.a5 #[]:=dV ⟨[],[],[],[]⟩ Go.Proofs.Tryz.func64 (by kernel_rfl)
def z08v (p:Option Addr) (offset most:Int) (committed:Bool):Prog :=
Aa (Option.isNone p) (
Ab 0 [.slice none 0 0,Ac 0,Ac 1])<|
Aj p λa1=>
Bw T.a33 (Addr.add a1 0) 0 λp2=>
Bt F.a124 [Ad p2,Ac offset,Ac most] λl3 n4=>
Ah n4 λn5=>
Aa (n5 != 0) (
Ah n5 λn6=>
Ab 0 [.slice none 0 0,Ac 0,Ac n6])<|
Ah offset λn7=>
.bind 1 [.one .slc,.one (.int .i64)] (
.loop 2 [.one .slc,.one (.int .i64),.one (.int .i64)] (⟨none,0,0⟩,(n7,(0,()))) (u3 λl8 (n9 n10:Int)=>
Aa (decide (n10<(Ag l3))) (
.ex [.adr] (c1 λa11=>0<=n10/\n10<(Ag l3)/\l3.a=some a11) (u1 λa12=>
AV T.a0 a12 (Int.toNat n10*7) λn13 n14 n15 n16 n17 n18 l19=>
Ar T.a0 λa20=>
Au T.a0 a20 (AW n13 n14 n15 n16 n17 n18 l19)<|
Bc 3 (
AC<|
BQ (committed=true) T.a14 a20 0 λn21=>
Aa committed (
Ai F.a93 [Ad p] λn22=>
AG<|
Ab 3 [.bool (decide (n21>=n22))])<|
AG<|
Ab 3 [.bool false]) λb23=>
Aa b23 (
Ab 1 [l8.v,Ac n9])<|
Bc 3 (
AC<|
Ap (not committed=false) p λa25=>
.read (not committed=false) (ld T.a31 (Addr.add a25 5)) sP (u1 λp26=>
B7 (not committed=false) T.a0 a20 λn27 n28 n29 n30 n31 n32 l33=>
Aa (not committed) (
AG<|
Ab 3 [.bool true])<|
Ai F.a58 [Ad p26,AW n27 n28 n29 n30 n31 n32 l33] λn34=>
AG<|
Ab 3 [.bool (n34 == 1)])) λb35=>
AS 3 (
Aa b35 (
Bn T.a0 a20 λn36 n37 n38 n39 n40 n41 l42=>
AP (Instr.buildSlice T.a38 1 #[(0,AW n36 n37 n38 n39 n40 n41 l42)]) λl43=>
Ay F.a105 [l43.v] λl44=>
AP (app T.a46 T.a46 T.a46 l8.v l44.v) λl45=>
Ab 3 [l45.v])<|
Ab 3 [l8.v]) λl46=>
Bn T.a0 a20 λn47 n48 n49 n50 n51 n52 l53=>
Ai F.a108 [AW n47 n48 n49 n50 n51 n52 l53] λn54=>
Ah n54 λn55=>
Ab 2 [l46.v,Ac n55,Ac (AF (n10+1))]))<|
Ab 1 [l8.v,Ac n9])) (u2 λl56 (n57:Int)=>
Ah n57 λn58=>
Ab 0 [l56.v,Ac n58,Ac 0])
theorem zv5 (p:Option Addr) (offset most:Int) (committed:Bool):FnS (z08v p offset most committed) F.a92 #[.pointer p,.int .i64 offset,.int .i64 most,.bool committed]:=dV ⟨[(73196680484479534366778,[(13,.one .slc)])],[(0,[(13,.one .slc),(14,.one (.int .i64))])],[(11,[(47,.one .bool)]),(12,[(58,.one .bool)])],[(0,[(13,.one .slc),(14,.one (.int .i64)),(36,.one (.int .i64))])]⟩ Go.Proofs.Tryz.func65 (by kernel_rfl)
def z08s (p:Option Addr):Prog :=
Aa (Option.isNone p) (
Ab 0 [Ac 0])<|
Aj p λa1=>
Bw T.a33 (Addr.add a1 0) 0 λp2=>
Ai F.a122 [Ad p2] λn3=>
Ah n3 λn4=>
Ab 0 [Ac n4]
theorem zv2 (p:Option Addr):FnS (z08s p) F.a89 #[.pointer p]:=dV ⟨[],[],[],[]⟩ Go.Proofs.Tryz.func66 (by kernel_rfl)
def zf5 (t:Option Addr) (l:Sl):Prog :=
Az (Option.isNone t) (
Ab 0 [Ac 1])<|
Aj t λa2=>
AD T.a14 a2 0 λn3=>
AM F.a12 [Ac n3,l.v] λb4=>
.ex [.adr] (c1 λa5=>not b4=false/\decide ((Ag l)>0)=true->0<=AF ((Ag l)-1)/\AF ((Ag l)-1)<(Ag l)/\l.a=some a5) (u1 λa6=>
Bz (not b4=false/\decide ((Ag l)>0)=true) T.a14 (Addr.add a6 (Int.toNat (AF ((Ag l)-1))*5)) 0 λn7=>
Az (not b4 || decide ((Ag l)>0) && decide (n7>1099511627776)) (
Ab 0 [Ac 8])<|
AB 1 (
AO 2 (0,()) λn9=>
Aa (decide (n9<(Ag l))) (
.ex [.adr] (c1 λa10=>0<=n9/\n9<(Ag l)/\l.a=some a10) (u1 λa11=>
BR T.a37 a11 (Int.toNat n9*5) λn12 s13 s14 b15 n16=>
Ar T.a37 λa17=>
Au T.a37 a17 (BN n12 s13 s14 b15 n16)<|
BS T.a37 a17 λn18 s19 s20 b21 n22=>
Am F.a11 [Ad t,BN n18 s19 s20 b21 n22]<|
Ab 2 [Ac (AF (n9+1))]))<|
Ab 1 [])<|
Ab 0 [Ac 0])
theorem zxh (t:Option Addr) (l:Sl):FnS (zf5 t l) F.a6 #[.pointer t,.slice l.a l.len l.cap]:=dV ⟨[],[(1,[])],[],[(1,[(35,.one (.int .i64))])]⟩ Go.Proofs.Tryz.func67 (by kernel_rfl)
def z08e (c_0 c_1 c_2:Int) (c_3:Int):Prog :=
Ae T.a23 (Be c_0 c_1 c_2 c_3) λa0=>
AD T.a13 a0 0 λn1=>
Bz (decide (n1>=0)=true) T.a13 a0 0 λn2=>
Bz ((decide (n1>=0) && decide (n2<=255))=true) T.a14 a0 1 λn3=>
Bz ((decide (n1>=0) && decide (n2<=255) && decide (n3>=0))=true) T.a14 a0 1 λn4=>
Bz ((decide (n1>=0) && decide (n2<=255) && decide (n3>=0) && decide (n4<=1099511627776))=true) T.a13 a0 2 λn5=>
Bz ((decide (n1>=0) && decide (n2<=255) && decide (n3>=0) && decide (n4<=1099511627776) && decide (n5>=0))=true) T.a13 a0 2 λn6=>
Bz ((decide (n1>=0) && decide (n2<=255) && decide (n3>=0) && decide (n4<=1099511627776) && decide (n5>=0) && decide (n6<=64))=true) T.a13 a0 3 λn7=>
Bz ((decide (n1>=0) && decide (n2<=255) && decide (n3>=0) && decide (n4<=1099511627776) && decide (n5>=0) && decide (n6<=64) && decide (n7>=0))=true) T.a13 a0 3 λn8=>
Ao (decide (n1>=0) && decide (n2<=255) && decide (n3>=0) && decide (n4<=1099511627776) && decide (n5>=0) && decide (n6<=64) && decide (n7>=0) && decide (n8<=2147483647)) λb9=>
Ab 0 [.bool b9]
theorem zuo (c_0 c_1 c_2 c_3:Int):FnS (z08e c_0 c_1 c_2 c_3) F.a75 #[.agg #[.int .i64 c_0,.int .i64 c_1,.int .i64 c_2,.int .i64 c_3]]:=dV ⟨[],[],[],[]⟩ Go.Proofs.Tryz.func72 (by kernel_rfl)
def z08o (part:Int):Prog :=
AP (Instr.buildSlice T.a49 3 #[(0,.int .u8 (IntKind.wrap .u8 (AF (48+AF (Int.tdiv part 100))))),(1,.int .u8 (IntKind.wrap .u8 (AF (48+Int.tmod (AF (Int.tdiv part 10)) 10)))),(2,.int .u8 (IntKind.wrap .u8 (AF (48+Int.tmod part 10))))]) λl0=>
B2 (convert T.a49 T.a54 l0.v) λs1=>
.must (((1+ByteArray.size s1:Nat):Int)<=9223372036854775807) <|
AR ((ByteArray.mk #[111])++s1) λs2=>
Ab 0 [.string s2]
theorem zuy (part:Int):FnS (z08o part) F.a85 #[.int .i64 part]:=dV ⟨[],[],[],[]⟩ Go.Proofs.Tryz.func75 (by kernel_rfl)
def z02j (n:Int):Prog :=
AC<|
.must (0<=AF (Int.tdiv n 100)/\AF (Int.tdiv n 100)<=AF (AF (Int.tdiv n 100)+1)/\AF (AF (Int.tdiv n 100)+1)<=10) <|
.must (0<=Int.tmod (AF (Int.tdiv n 10)) 10/\Int.tmod (AF (Int.tdiv n 10)) 10<=AF (Int.tmod (AF (Int.tdiv n 10)) 10+1)/\AF (Int.tmod (AF (Int.tdiv n 10)) 10+1)<=10) <|
.must (((ByteArray.size (ByteArray.extract (ByteArray.mk #[48,49,50,51,52,53,54,55,56,57]) (Int.toNat (AF (Int.tdiv n 100))) (Int.toNat (AF (AF (Int.tdiv n 100)+1))))+ByteArray.size (ByteArray.extract (ByteArray.mk #[48,49,50,51,52,53,54,55,56,57]) (Int.toNat (Int.tmod (AF (Int.tdiv n 10)) 10)) (Int.toNat (AF (Int.tmod (AF (Int.tdiv n 10)) 10+1)))):Nat):Int)<=9223372036854775807) <|
.must (0<=Int.tmod n 10/\Int.tmod n 10<=AF (Int.tmod n 10+1)/\AF (Int.tmod n 10+1)<=10) <|
.must (((ByteArray.size (ByteArray.extract (ByteArray.mk #[48,49,50,51,52,53,54,55,56,57]) (Int.toNat (AF (Int.tdiv n 100))) (Int.toNat (AF (AF (Int.tdiv n 100)+1)))++ByteArray.extract (ByteArray.mk #[48,49,50,51,52,53,54,55,56,57]) (Int.toNat (Int.tmod (AF (Int.tdiv n 10)) 10)) (Int.toNat (AF (Int.tmod (AF (Int.tdiv n 10)) 10+1))))+ByteArray.size (ByteArray.extract (ByteArray.mk #[48,49,50,51,52,53,54,55,56,57]) (Int.toNat (Int.tmod n 10)) (Int.toNat (AF (Int.tmod n 10+1)))):Nat):Int)<=9223372036854775807) <|
AR (ByteArray.extract (ByteArray.mk #[48,49,50,51,52,53,54,55,56,57]) (Int.toNat (AF (Int.tdiv n 100))) (Int.toNat (AF (AF (Int.tdiv n 100)+1)))++ByteArray.extract (ByteArray.mk #[48,49,50,51,52,53,54,55,56,57]) (Int.toNat (Int.tmod (AF (Int.tdiv n 10)) 10)) (Int.toNat (AF (Int.tmod (AF (Int.tdiv n 10)) 10+1)))++ByteArray.extract (ByteArray.mk #[48,49,50,51,52,53,54,55,56,57]) (Int.toNat (Int.tmod n 10)) (Int.toNat (AF (Int.tmod n 10+1)))) λs0=>
AG<|
Ab 0 [.string s0]
theorem zp2 (n:Int):FnS (z02j n) F.a195 #[.int .i64 n]:=dV ⟨[],[],[],[]⟩ Go.Proofs.Tryz.func77 (by kernel_rfl)
def z08j (o:Option Addr):Prog :=
AC<|
Aj o λa1=>
Bw T.a32 a1 0 λp2=>
Aj o λa4=>
AD T.a14 a4 1 λn5=>
.call F.a92 [Ad p2,Ac n5,Ac 1099511627776,.bool true] (.tup [.one .slc,.one (.int .i64),.one (.int .i64)]) (u3 λl6 (n7 n8:Int)=>
Ah n7 λn9=>
Ah n8 λn10=>
AG<|
Aa (n10 != 0) (
Ab 0 [])<|
AB 1 (
AO 2 (0,()) λn11=>
Aa (decide (n11<(Ag l6))) (
.ex [.adr] (c1 λa12=>0<=n11/\n11<(Ag l6)/\l6.a=some a12) (u1 λa13=>
BR T.a37 a13 (Int.toNat n11*5) λn14 s15 s16 b17 n18=>
Ar T.a37 λa19=>
Au T.a37 a19 (BN n14 s15 s16 b17 n18)<|
Bo T.a2 a19 1 λs20 s21 b22 n23=>
BJ F.a82 [Bp s20 s21 b22 n23] λn24 n25 n26 n27 n28=>
Ar T.a23 λa29=>
Au T.a23 a29 (Be n24 n25 n26 n27)<|
Ah n28 λn30=>
AB 3 (
Aa (n30 == 0) (
AB 4 (
AC<|
Aj o λa32=>
B4 T.a26 a32 2 λp33=>
BS T.a37 a19 λn34 s35 s36 b37 n38=>
AP (Instr.buildSlice T.a46 1 #[(0,BN n34 s35 s36 b37 n38)]) λl39=>
AG<|
Ai F.a6 [Ad p33,l39.v] λn40=>
AG<|
Ab 4 [])<|
Ab 3 [])<|
Ab 3 [])<|
Ab 2 [Ac (AF (n11+1))]))<|
Ab 1 [])<|
Aj o λa42=>
AE T.a14 a42 1 (Ac n9)<|
Ab 0 [])
theorem zut (o:Option Addr):FnS (z08j o) F.a80 #[.pointer o]:=dV ⟨[(142989288169013285,[])],[(0,[])],[(7,[])],[(0,[(26,.one (.int .i64))])]⟩ Go.Proofs.Tryz.func82 (by kernel_rfl)
def z08t (p:Option Addr) (pid epoch:Int) (commit:Bool) (time:Int):Prog :=
Aa (Option.isNone p) (
Ab 0 [Ac 0,.bool false,Ac 1])<|
B9 F.a107 [Ac pid,Ac epoch,.bool commit,Ac time] λn0 n1 n2 n3 n4 n5 l6=>
BK F.a96 [Ad p,AW n0 n1 n2 n3 n4 n5 l6] λn7 b8 n9=>
Ah n7 λn10=>
Ao b8 λb11=>
Ah n9 λn12=>
Ab 0 [Ac n10,.bool b11,Ac n12]
theorem zv3 (p:Option Addr) (pid epoch:Int) (commit:Bool) (time:Int):FnS (z08t p pid epoch commit time) F.a90 #[.pointer p,.int .i64 pid,.int .i64 epoch,.bool commit,.int .i64 time]:=dV ⟨[],[],[],[]⟩ Go.Proofs.Tryz.func83 (by kernel_rfl)
def z08q (p:Option Addr) (b_0 b_1 b_2 b_3 b_4 b_5:Int) (b_6:Sl):Prog :=
Ae T.a0 (AW b_0 b_1 b_2 b_3 b_4 b_5 b_6) λa0=>
Az (Option.isNone p) (
Ab 0 [Ac 0,.bool false,Ac 1])<|
Bn T.a0 a0 λn2 n3 n4 n5 n6 n7 l8=>
AM F.a101 [AW n2 n3 n4 n5 n6 n7 l8] λb9=>
Az b9 (
Ab 0 [Ac 0,.bool false,Ac 2])<|
Bn T.a0 a0 λn11 n12 n13 n14 n15 n16 l17=>
BK F.a96 [Ad p,AW n11 n12 n13 n14 n15 n16 l17] λn18 b19 n20=>
Ah n18 λn21=>
Ao b19 λb22=>
Ah n20 λn23=>
Ab 0 [Ac n21,.bool b22,Ac n23]
theorem zv0 (p:Option Addr) (b_0 b_1 b_2 b_3 b_4 b_5:Int) (b_6:Sl):FnS (z08q p b_0 b_1 b_2 b_3 b_4 b_5 b_6) F.a87 #[.pointer p,.agg #[.int .i64 b_0,.int .i64 b_1,.int .i64 b_2,.int .i64 b_3,.int .i64 b_4,.int .i64 b_5,.slice b_6.a b_6.len b_6.cap]]:=dV ⟨[],[],[],[]⟩ Go.Proofs.Tryz.func84 (by kernel_rfl)
def z08r (p:Option Addr):Prog :=
Aa (Option.isNone p) (
Ab 0 [.slice none 0 0])<|
Aj p λa1=>
Bw T.a33 (Addr.add a1 0) 0 λp2=>
Ay F.a120 [Ad p2] λl3=>
Ab 0 [l3.v]
theorem zv1 (p:Option Addr):FnS (z08r p) F.a88 #[.pointer p]:=dV ⟨[],[],[],[]⟩ Go.Proofs.Tryz.func86 (by kernel_rfl)
def zf6 (t:Option Addr) (key:ByteArray):Prog :=
Ar T.a37 λa0=>
Aa (Option.isNone t) (
Au T.a37 a0 (.agg #[Ac 0,.string (ByteArray.mk #[]),.string (ByteArray.mk #[]),.bool false,Ac 0])<|
BS T.a37 a0 λn1 s2 s3 b4 n5=>
Ab 0 [BN n1 s2 s3 b4 n5,.bool false])<|
Bg F.a8 [Ad t,.string key] λn6 b7=>
Ah n6 λn8=>
Ao b7 λb9=>
Aa (not b9) (
Au T.a37 a0 (.agg #[Ac 0,.string (ByteArray.mk #[]),.string (ByteArray.mk #[]),.bool false,Ac 0])<|
BS T.a37 a0 λn10 s11 s12 b13 n14=>
Ab 0 [BN n10 s11 s12 b13 n14,.bool false])<|
Aj t λa16=>
Ax T.a46 a16 1 λl17=>
.ex [.adr] (c1 λa18=>0<=n8/\n8<(Ag l17)/\l17.a=some a18) (u1 λa19=>
BR T.a37 a19 (Int.toNat n8*5) λn20 s21 s22 b23 n24=>
Au T.a37 a0 (BN n20 s21 s22 b23 n24)<|
BS T.a37 a0 λn25 s26 s27 b28 n29=>
Ab 0 [BN n25 s26 s27 b28 n29,.bool true])
theorem zxi (t:Option Addr) (key:ByteArray):FnS (zf6 t key) F.a7 #[.pointer t,.string key]:=dV ⟨[],[],[],[]⟩ Go.Proofs.Tryz.func87 (by kernel_rfl)
def z08n (b_0 b_1 b_2 b_3 b_4 b_5:Int) (b_6:Sl) (behind:Sl):Prog :=
Ae T.a0 (AW b_0 b_1 b_2 b_3 b_4 b_5 b_6) λa0=>
AM F.a148 [behind.v,.func (Fn.func 168) #[] #[Af a0]] λb1=>
Ao b1 λb2=>
Ab 0 [.bool b2]
theorem zux (b_0 b_1 b_2 b_3 b_4 b_5:Int) (b_6 behind:Sl):FnS (z08n b_0 b_1 b_2 b_3 b_4 b_5 b_6 behind) F.a84 #[.agg #[.int .i64 b_0,.int .i64 b_1,.int .i64 b_2,.int .i64 b_3,.int .i64 b_4,.int .i64 b_5,.slice b_6.a b_6.len b_6.cap],.slice behind.a behind.len behind.cap]:=dV ⟨[],[],[],[]⟩ Go.Proofs.Tryz.func118 (by kernel_rfl)
def z00p (p:Option Addr):Prog :=
Aj p λa1=>
AQ T.a54 (Addr.add a1 0) 2 λs2=>
.must (((ByteArray.size s2+4:Nat):Int)<=9223372036854775807) <|
AR (s2++(ByteArray.mk #[46,116,109,112])) λs3=>
Ab 0 [.string s3]
theorem zn9 (p:Option Addr):FnS (z00p p) F.a99 #[.pointer p]:=dV ⟨[],[],[],[]⟩ Go.Proofs.Tryz.func121 (by kernel_rfl)
def z00q (d:Option Addr) (name:ByteArray):Prog :=
Bt F.a31 [Ad d,.string name] λl0 n1=>
Ah n1 λn2=>
Ao (n2 == 0) λb3=>
Ab 0 [.bool b3]
theorem zna (d:Option Addr) (name:ByteArray):FnS (z00q d name) F.a100 #[.pointer d,.string name]:=dV ⟨[],[],[],[]⟩ Go.Proofs.Tryz.func122 (by kernel_rfl)
def z08y (p:Option Addr):Prog :=
Aj p λa1=>
AD T.a13 a1 3 λn2=>
BC F.a14 [Ac n2] λp3 n4=>
Aj p λa6=>
AE T.a27 a6 4 (Ad p3)<|
B1 F.a56 [] λp7=>
Aj p λa9=>
AE T.a31 a9 5 (Ad p7)<|
AS 1 (
AC<|
Aj p λa11=>
B4 T.a28 (Addr.add a11 0) 1 λp12=>
Bu F.a97 [Ad p] λs13=>
AG<|
Bt F.a31 [Ad p12,.string s13] λl14 n15=>
Ah n15 λn16=>
AG<|
Ab 1 [l14.v]) λl17=>
BT F.a43 [l17.v] λl18 b19=>
Ao b19 λb20=>
Aa (not b20) (
Ab 0 [Ac 0])<|
B1 F.a199 [l18.v] λp21=>
Bj F.a206 [Ad p21] λn22=>
Bu F.a205 [Ad p21,Ac 262144] λs23=>
Bu F.a205 [Ad p21,Ac 262144] λs24=>
AU n22 λn25=>
AR s23 λs26=>
AR s24 λs27=>
Bc 1 (
Ai F.a201 [Ad p21] λn28=>
Aa (n28 != 0) (
Ab 1 [.bool true])<|
Ai F.a91 [Ad p] λn29=>
Aa (decide (n25>IntKind.wrap .u64 n29)) (
Ab 1 [.bool true])<|
Ai F.a89 [Ad p] λn30=>
Ab 1 [.bool (decide (AF n25<n30))]) λb31=>
Aa b31 (
Ab 0 [Ac 0])<|
AP (convert T.a54 T.a49 (.string s26)) λl32=>
Aj p λa34=>
AD T.a13 a34 3 λn35=>
BC F.a13 [l32.v,Ac n35] λp36 n37=>
Ah n37 λn38=>
Bc 1 (
Aa (n38 != 0) (
Ab 1 [.bool true])<|
Ai F.a18 [Ad p36] λn39=>
Ab 1 [.bool (decide (n39>AF n25))]) λb40=>
Aa b40 (
Ab 0 [Ac 0])<|
AP (convert T.a54 T.a49 (.string s27)) λl41=>
BC F.a55 [l41.v] λp42 n43=>
Ah n43 λn44=>
Bc 1 (
Aa (n44 != 0) (
Ab 1 [.bool true])<|
Ai F.a60 [Ad p42] λn45=>
Ab 1 [.bool (decide (n45>AF n25))]) λb46=>
Aa b46 (
Ab 0 [Ac 0])<|
Aj p λa48=>
AE T.a27 a48 4 (Ad p36)<|
Aj p λa50=>
AE T.a31 a50 5 (Ad p42)<|
Ah (AF n25) λn51=>
Ab 0 [Ac n51]
theorem zv8 (p:Option Addr):FnS (z08y p) F.a95 #[.pointer p]:=dV ⟨[],[],[(3,[(3,.one .slc)]),(9,[(71,.one .bool)]),(12,[(90,.one .bool)]),(15,[(105,.one .bool)])],[]⟩ Go.Proofs.Tryz.func124 (by kernel_rfl)
def z00o (p:Option Addr) (b_0 b_1 b_2 b_3 b_4 b_5:Int) (b_6:Sl):Prog :=
Ae T.a0 (AW b_0 b_1 b_2 b_3 b_4 b_5 b_6) λa0=>
AC<|
Aj p λa2=>
Bw T.a27 a2 4 λp3=>
Bn T.a0 a0 λn4 n5 n6 n7 n8 n9 l10=>
Ai F.a19 [Ad p3,AW n4 n5 n6 n7 n8 n9 l10] λn11=>
AG<|
AC<|
Aj p λa13=>
Bw T.a31 a13 5 λp14=>
Bn T.a0 a0 λn15 n16 n17 n18 n19 n20 l21=>
Ai F.a64 [Ad p14,AW n15 n16 n17 n18 n19 n20 l21] λn22=>
AG<|
Ab 0 []
theorem zn8 (p:Option Addr) (b_0 b_1 b_2 b_3 b_4 b_5:Int) (b_6:Sl):FnS (z00o p b_0 b_1 b_2 b_3 b_4 b_5 b_6) F.a98 #[.pointer p,.agg #[.int .i64 b_0,.int .i64 b_1,.int .i64 b_2,.int .i64 b_3,.int .i64 b_4,.int .i64 b_5,.slice b_6.a b_6.len b_6.cap]]:=dV ⟨[],[],[],[]⟩ Go.Proofs.Tryz.func126 (by kernel_rfl)
def z08w (p:Option Addr):Prog :=
Aa (Option.isNone p) (
Ab 0 [Ac 0])<|
Aj p λa1=>
Bw T.a31 a1 5 λp2=>
Ay F.a61 [Ad p2] λl3=>
Aa ((Ag l3) == 0) (
Ai F.a91 [Ad p] λn4=>
Ah n4 λn5=>
Ab 0 [Ac n5])<|
Aj p λa7=>
Bw T.a31 a7 5 λp8=>
Ai F.a63 [Ad p8] λn9=>
Ai F.a89 [Ad p] λn10=>
Ah (if n10>n9 then n10 else n9) λn11=>
Ab 0 [Ac n11]
theorem zv6 (p:Option Addr):FnS (z08w p) F.a93 #[.pointer p]:=dV ⟨[],[],[],[]⟩ Go.Proofs.Tryz.func128 (by kernel_rfl)
def z087 (v:Option Addr) (b_0 b_1 b_2 b_3 b_4 b_5:Int) (b_6:Sl):Prog :=
Ae T.a0 (AW b_0 b_1 b_2 b_3 b_4 b_5 b_6) λa0=>
Aa (Option.isNone v) (
Ab 0 [Ac 0])<|
BL 1 (
AC<|
Aj v λa2=>
BU T.a21 a2 2 λm3=>
By T.a14 a0 1 λn4=>
By T.a13 a0 2 λn5=>
BV (Instr.lookup T.a21 (.map m3) (Br n4 n5) true) λn6 n7 n8 n9 b10=>
Ar T.a18 λa11=>
AG<|
Au T.a18 a11 (Be n6 n7 n8 n9)<|
Ao b10 λb12=>
AG<|
Ab 1 [Af a11,.bool b12]) λa13 b14=>
Bn T.a0 a0 λn15 n16 n17 n18 n19 n20 l21=>
AM F.a69 [AW n15 n16 n17 n18 n19 n20 l21] λb22=>
Az b22 (
Ab 0 [Ac 3])<|
AC<|
By T.a14 a0 0 λn24=>
Ai F.a63 [Ad v] λn25=>
Ao (decide (n24>=n25)) λb26=>
AG<|
Aa b26 (
Ab 0 [Ac 0])<|
AD T.a13 a0 4 λn27=>
Bz ((n27 == 1 && b14)=true) T.a14 a0 0 λn28=>
Bz ((n27 == 1 && b14)=true) T.a14 a13 2 λn29=>
Az (n27 == 1 && b14 && decide (n28>=n29)) (
Ab 0 [Ac 2])<|
Ab 0 [Ac 1]
theorem zuf (v:Option Addr) (b_0 b_1 b_2 b_3 b_4 b_5:Int) (b_6:Sl):FnS (z087 v b_0 b_1 b_2 b_3 b_4 b_5 b_6) F.a58 #[.pointer v,.agg #[.int .i64 b_0,.int .i64 b_1,.int .i64 b_2,.int .i64 b_3,.int .i64 b_4,.int .i64 b_5,.slice b_6.a b_6.len b_6.cap]]:=dV ⟨[],[],[(3,[(5,.one .adr),(6,.one .bool)])],[]⟩ Go.Proofs.Tryz.func129 (by kernel_rfl)
def z074 (from_:Int) (l:Sl):Prog :=
AB 1 (
AO 2 (0,()) λn0=>
Aa (decide (n0<(Ag l))) (
.ex [.adr] (c1 λa1=>0<=n0/\n0<(Ag l)/\l.a=some a1) (u1 λa2=>
BR T.a37 a2 (Int.toNat n0*5) λn3 s4 s5 b6 n7=>
Ar T.a37 λa8=>
Ah n0 λn9=>
Au T.a37 a8 (BN n3 s4 s5 b6 n7)<|
AC<|
Bz ((n9 == 0)=true) T.a14 a8 0 λn10=>
Bz ((n9 == 0 && decide (n10<from_))=false/\decide (n9>0)=true) T.a14 a8 0 λn11=>
.ex [.adr] (c1 λa12=>(n9 == 0 && decide (n10<from_))=false/\decide (n9>0)=true->0<=AF (n9-1)/\AF (n9-1)<(Ag l)/\l.a=some a12) (u1 λa13=>
Bz ((n9 == 0 && decide (n10<from_))=false/\decide (n9>0)=true) T.a14 (Addr.add a13 (Int.toNat (AF (n9-1))*5)) 0 λn14=>
AG<|
Aa (n9 == 0 && decide (n10<from_) || decide (n9>0) && decide (n11<=n14)) (
Ab 0 [.bool false])<|
Ab 2 [Ac (AF (n0+1))])))<|
Ab 1 [])<|
Ab 0 [.bool true]
theorem zta (from_:Int) (l:Sl):FnS (z074 from_ l) F.a12 #[.int .i64 from_,.slice l.a l.len l.cap]:=dV ⟨[],[(0,[])],[],[(0,[(9,.one (.int .i64))])]⟩ Go.Proofs.Tryz.func132 (by kernel_rfl)
def z073 (t:Option Addr) (r_0:Int) (r_1 r_2:ByteArray) (r_3:Bool) (r_4:Int):Prog :=
Ae T.a37 (BN r_0 r_1 r_2 r_3 r_4) λa0=>
AQ T.a54 (Addr.add a0 1) 0 λs1=>
Bg F.a8 [Ad t,.string s1] λn2 b3=>
Ah n2 λn4=>
Ao b3 λb5=>
Aq (b5=true) T.a3 (Addr.add a0 1) 2 λb6=>
Ao (b5 && b6) λb7=>
AB 1 (
Aa b7 (
Aj t λa9=>
Ax T.a46 a9 1 λl10=>
Ay F.a149 [l10.v,Ac n4,Ac (AF (n4+1))] λl11=>
Aj t λa13=>
AE T.a46 a13 1 l11.v<|
Ab 1 [])<|
Ao b5 λb14=>
AB 2 (
Aa b14 (
AC<|
Aj t λa16=>
Ax T.a46 a16 1 λl17=>
BS T.a37 a0 λn18 s19 s20 b21 n22=>
.ex [.adr] (c1 λa23=>0<=n4/\n4<(Ag l17)/\l17.a=some a23) (u1 λa24=>
AE T.a37 a24 (Int.toNat n4*5) (BN n18 s19 s20 b21 n22)<|
AG<|
Ab 2 []))<|
AA T.a3 (Addr.add a0 1) 2 λb25=>
Ao (not b25) λb26=>
AB 3 (
Aa b26 (
AB 4 (
AC<|
Aj t λa28=>
.hold True (ld T.a46 (Addr.add a28 1)) sL (u1 λl29=>
BS T.a37 a0 λn30 s31 s32 b33 n34=>
AP (Instr.buildSlice T.a46 1 #[(0,BN n30 s31 s32 b33 n34)]) λl35=>
AG<|
Ay F.a151 [l29.v,Ac n4,l35.v] λl36=>
Aj t λa38=>
AE T.a46 a38 1 l36.v<|
AG<|
Ab 4 []))<|
Ab 3 [])<|
Ab 3 [])<|
Ab 2 [])<|
Ab 1 [])<|
AD T.a14 a0 0 λn39=>
Aj t λa41=>
AE T.a14 a41 0 (Ac (AF (n39+1)))<|
Ab 0 []
theorem zt9 (t:Option Addr) (r_0:Int) (r_1 r_2:ByteArray) (r_3:Bool) (r_4:Int):FnS (z073 t r_0 r_1 r_2 r_3 r_4) F.a11 #[.pointer t,.agg #[.int .i64 r_0,.string r_1,.string r_2,.bool r_3,.int .i64 r_4]]:=dV ⟨[(590007579982553940009,[]),(590295739989961474080,[]),(590295810350115717134,[])],[],[(7,[])],[]⟩ Go.Proofs.Tryz.func133 (by kernel_rfl)
def z00m (p:Option Addr) (b_0 b_1 b_2 b_3 b_4 b_5:Int) (b_6:Sl):Prog :=
Ae T.a0 (AW b_0 b_1 b_2 b_3 b_4 b_5 b_6) λa0=>
Ai F.a91 [Ad p] λn1=>
AE T.a14 a0 0 (Ac n1)<|
Bn T.a0 a0 λn2 n3 n4 n5 n6 n7 l8=>
BW F.a94 [Ad p,AW n2 n3 n4 n5 n6 n7 l8] λb9 n10 n11=>
Ar T.a7 λa12=>
Au T.a7 a12 (BX b9 n10)<|
Ah n11 λn13=>
Aq ((n13 != 0)=false) T.a3 a12 0 λb14=>
Aa (n13 != 0 || b14) (
AC<|
AD T.a14 a12 1 λn15=>
AA T.a3 a12 0 λb16=>
Ah n15 λn17=>
Ao b16 λb18=>
Ah n13 λn19=>
AG<|
Ab 0 [Ac n17,.bool b18,Ac n19])<|
AL 1 (
AC<|
Aj p λa21=>
B4 T.a33 (Addr.add a21 0) 0 λp22=>
Bn T.a0 a0 λn23 n24 n25 n26 n27 n28 l29=>
AP (Instr.buildSlice T.a38 1 #[(0,AW n23 n24 n25 n26 n27 n28 l29)]) λl30=>
AG<|
Bb F.a121 [Ad p22,l30.v] λn31 n32=>
Ah n31 λn33=>
Ah n32 λn34=>
AG<|
Ab 1 [Ac n34,Ac n33]) λn35 n36=>
AI 1 (
Aa (n35 == 0) (
Aj p λa38=>
Bw T.a33 (Addr.add a38 0) 0 λp39=>
Ai F.a127 [Ad p39] λn40=>
Ah n40 λn41=>
Ab 1 [Ac n41])<|
Ab 1 [Ac n35]) λn42=>
Aa (n42 != 0) (
Ah n42 λn43=>
Ab 0 [Ac 0,.bool false,Ac n43])<|
AE T.a14 a0 0 (Ac n36)<|
Bn T.a0 a0 λn44 n45 n46 n47 n48 n49 l50=>
B9 F.a102 [AW n44 n45 n46 n47 n48 n49 l50] λn51 n52 n53 n54 n55 n56 l57=>
Am F.a98 [Ad p,AW n51 n52 n53 n54 n55 n56 l57]<|
Ah n36 λn58=>
Ab 0 [Ac n58,.bool false,Ac 0]
theorem zn6 (p:Option Addr) (b_0 b_1 b_2 b_3 b_4 b_5:Int) (b_6:Sl):FnS (z00m p b_0 b_1 b_2 b_3 b_4 b_5 b_6) F.a96 #[.pointer p,.agg #[.int .i64 b_0,.int .i64 b_1,.int .i64 b_2,.int .i64 b_3,.int .i64 b_4,.int .i64 b_5,.slice b_6.a b_6.len b_6.cap]]:=dV ⟨[(2269814212195778602,[(8,.one (.int .i64))])],[],[(5,[(8,.one (.int .i64)),(9,.one (.int .i64))])],[]⟩ Go.Proofs.Tryz.func142 (by kernel_rfl)
def z00r (b_0 b_1 b_2 b_3 b_4 b_5:Int) (b_6:Sl):Prog :=
Ae T.a0 (AW b_0 b_1 b_2 b_3 b_4 b_5 b_6) λa0=>
AD T.a13 a0 4 λn1=>
Bz ((n1 == 2)=false) T.a13 a0 4 λn2=>
Ao (n1 == 2 || n2 == 3) λb3=>
Ab 0 [.bool b3]
theorem znb (b_0 b_1 b_2 b_3 b_4 b_5:Int) (b_6:Sl):FnS (z00r b_0 b_1 b_2 b_3 b_4 b_5 b_6) F.a101 #[.agg #[.int .i64 b_0,.int .i64 b_1,.int .i64 b_2,.int .i64 b_3,.int .i64 b_4,.int .i64 b_5,.slice b_6.a b_6.len b_6.cap]]:=dV ⟨[],[],[],[]⟩ Go.Proofs.Tryz.func144 (by kernel_rfl)
def zf7 (t:Option Addr) (key:ByteArray):Prog :=
Ai F.a9 [Ad t,.string key] λn0=>
Ah n0 λn1=>
AC<|
Aj t λa3=>
Ax T.a46 a3 1 λl4=>
Ap (decide (n1<(Ag l4))=true) t λa6=>
AX (decide (n1<(Ag l4))=true) T.a46 a6 1 λl7=>
.ex [.adr] (c1 λa8=>decide (n1<(Ag l4))=true->0<=n1/\n1<(Ag l7)/\l7.a=some a8) (u1 λa9=>
Bh (decide (n1<(Ag l4))=true) T.a54 (Addr.add (Addr.add a9 (Int.toNat n1*5)) 1) 0 λs10=>
Ah n1 λn11=>
Ao (decide (n1<(Ag l4)) && ByteArray.toList s10 == ByteArray.toList key) λb12=>
AG<|
Ab 0 [Ac n11,.bool b12])
theorem zxj (t:Option Addr) (key:ByteArray):FnS (zf7 t key) F.a8 #[.pointer t,.string key]:=dV ⟨[],[],[],[]⟩ Go.Proofs.Tryz.func146 (by kernel_rfl)
def zf8 (t:Option Addr) (key:ByteArray):Prog :=
Ae T.a26 (Ad t) λa0=>
Ae T.a54 (.string key) λa1=>
Bv T.a26 a0 λp2=>
Aj p2 λa4=>
Ax T.a46 a4 1 λl5=>
Ai F.a182 [Ac (Ag l5),.func (Fn.func 224) #[] #[Af a0,Af a1]] λn6=>
Ah n6 λn7=>
Ab 0 [Ac n7]
theorem zxk (t:Option Addr) (key:ByteArray):FnS (zf8 t key) F.a9 #[.pointer t,.string key]:=dV ⟨[],[],[],[]⟩ Go.Proofs.Tryz.func154 (by kernel_rfl)
def z075 (most:Int):Prog :=
Aa (decide (most<1) || decide (most>4096)) (
Ab 0 [Ad none,Ac 2])<|
.act (Instr.makeMap T.a19 none) sM (u1 λm0=>
Ae T.a6 (.agg #[Ac most,Ac 0,.map m0]) λa1=>
Ab 0 [Af a1,Ac 0])
theorem ztc (most:Int):FnS (z075 most) F.a14 #[.int .i64 most]:=dV ⟨[],[],[],[]⟩ Go.Proofs.Tryz.func182 (by kernel_rfl)
def zq6  : Prog :=
.act (Instr.makeMap T.a20 none) sM (u1 λm0 =>
.act (Instr.makeMap T.a21 none) sM (u1 λm1 =>
.act (Instr.box T.a16 (.agg #[.int .i64 0,.map m0,.map m1])) sA (u1 λa2 =>
.done 0 [.pointer (some a2)])))
theorem zjy :FnS (zq6 ) F.a56 #[]:=dV ⟨[],[],[],[]⟩ Go.Proofs.Tryz.func183 (by kernel_rfl)
def z00n (p:Option Addr):Prog :=
Aj p λa1=>
AQ T.a54 (Addr.add a1 0) 2 λs2=>
.must (((ByteArray.size s2+5:Nat):Int)<=9223372036854775807) <|
AR (s2++(ByteArray.mk #[46,115,110,97,112])) λs3=>
Ab 0 [.string s3]
theorem zn7 (p:Option Addr):FnS (z00n p) F.a97 #[.pointer p]:=dV ⟨[],[],[],[]⟩ Go.Proofs.Tryz.func184 (by kernel_rfl)
def z08u (p:Option Addr):Prog :=
Aa (Option.isNone p) (
Ab 0 [Ac 0])<|
Aj p λa1=>
Bw T.a33 (Addr.add a1 0) 0 λp2=>
Ai F.a123 [Ad p2] λn3=>
Ah n3 λn4=>
Ab 0 [Ac n4]
theorem zv4 (p:Option Addr):FnS (z08u p) F.a91 #[.pointer p]:=dV ⟨[],[],[],[]⟩ Go.Proofs.Tryz.func187 (by kernel_rfl)
def z0ae (raw:Sl) (most:Int):Prog :=
BC F.a14 [Ac most] λp0 n1=>
Ah n1 λn2=>
Aa (n2 != 0) (
Ah n2 λn3=>
Ab 0 [Ad none,Ac n3])<|
BT F.a43 [raw.v] λl4 b5=>
Ao b5 λb6=>
Aa (not b6) (
Ab 0 [Ad none,Ac 6])<|
B1 F.a199 [l4.v] λp7=>
Ai F.a25 [Ad p7,Ac 1099511627777] λn8=>
Aj p0 λa10=>
AE T.a14 a10 1 (Ac n8)<|
Ai F.a25 [Ad p7,Ac 4096] λn11=>
Ah n11 λn12=>
Aj p0 λa14=>
AD T.a14 a14 1 λn15=>
Aa (decide (n15>1099511627777) || decide (n12>most)) (
Ab 0 [Ad none,Ac 6])<|
AB 1 (
AJ 2 (0,(0,())) λn16 n17=>
Aa (decide (n17<n12)) (
Ai F.a25 [Ad p7,Ac 1048576] λn18=>
Ai F.a25 [Ad p7,Ac 32768] λn19=>
Ai F.a25 [Ad p7,Ac 2147483647] λn20=>
Ai F.a25 [Ad p7,Ac 64] λn21=>
Ai F.a25 [Ad p7,Ac 1099511627776] λn22=>
Ai F.a207 [Ad p7,Ac (-1),Ac 1099511627776] λn23=>
Ai F.a25 [Ad p7,Ac 1099511627776] λn24=>
Ar T.a5 λa25=>
Au T.a5 a25 (BY n18 n19 n20 n21 n22 n23 n24)<|
Bc 3 (
AC<|
Ai F.a202 [Ad p7] λn26=>
BZ ((n26 != 0)=false) T.a5 a25 λn27 n28 n29 n30 n31 n32 n33=>
Ap ((n26 != 0)=false) p0 λa35=>
Bz ((n26 != 0)=false) T.a14 a35 1 λn36=>
Aa (n26 != 0) (
AG<|
Ab 3 [.bool true])<|
AM F.a24 [BY n27 n28 n29 n30 n31 n32 n33,Ac n36] λb37=>
Bz (not b37=false) T.a14 a25 0 λn38=>
AG<|
Ab 3 [.bool (not b37 || decide (n38<=n16))]) λb39=>
Aa b39 (
Ab 0 [Ad none,Ac 6])<|
AC<|
Aj p0 λa41=>
Ak T.a19 a41 2 λm42=>
AD T.a14 a25 0 λn43=>
Ca T.a5 a25 λn44 n45 n46 n47 n48 n49 n50=>
AN (Instr.mapUpdate T.a19 (.map m42) (Ac n43) (BY n44 n45 n46 n47 n48 n49 n50))<|
AG<|
AD T.a14 a25 0 λn51=>
Ah n51 λn52=>
Ab 2 [Ac n52,Ac (AF (n17+1))])<|
Ab 1 [])<|
Ai F.a201 [Ad p7] λn53=>
Aa (n53 != 0) (
Ab 0 [Ad none,Ac 6])<|
Ab 0 [Ad p0,Ac 0]
def z0af (t:Option Addr):Prog :=
Aa (Option.isNone t) (
Ab 0 [Ac 0])<|
Aj t λa1=>
AD T.a14 a1 1 λn2=>
Ah n2 λn3=>
Ab 0 [Ac n3]
def z0ai (raw:Sl):Prog :=
BT F.a43 [raw.v] λl0 b1=>
Ao b1 λb2=>
Aa (not b2) (
Ab 0 [Ad none,Ac 6])<|
B1 F.a199 [l0.v] λp3=>
B1 F.a56 [] λp4=>
Ai F.a71 [Ad p3,Ac 1099511627777] λn5=>
Aj p4 λa7=>
AE T.a14 a7 0 (Ac n5)<|
Bc 1 (
Aj p4 λa9=>
AD T.a14 a9 0 λn10=>
Aa (decide (n10>1099511627777)) (
Ab 1 [.bool true])<|
AM F.a67 [Ad p4,Ad p3] λb11=>
Aa (not b11) (
Ab 1 [.bool true])<|
AM F.a65 [Ad p4,Ad p3] λb12=>
Aa (not b12) (
Ab 1 [.bool true])<|
Ai F.a201 [Ad p3] λn13=>
Ab 1 [.bool (n13 != 0)]) λb14=>
Aa b14 (
Ab 0 [Ad none,Ac 6])<|
Ab 0 [Ad p4,Ac 0]
def z0aj (v:Option Addr):Prog :=
Aa (Option.isNone v) (
Ab 0 [Ac 0])<|
Aj v λa1=>
AD T.a14 a1 0 λn2=>
Ah n2 λn3=>
Ab 0 [Ac n3]
def z079 (t:Option Addr) (b_0 b_1 b_2 b_3 b_4 b_5:Int) (b_6:Sl):Prog :=
Ae T.a0 (AW b_0 b_1 b_2 b_3 b_4 b_5 b_6) λa0=>
Bn T.a0 a0 λn1 n2 n3 n4 n5 n6 l7=>
BW F.a17 [Ad t,AW n1 n2 n3 n4 n5 n6 l7] λb8 n9 n10=>
Ar T.a7 λa11=>
Au T.a7 a11 (BX b8 n9)<|
Ah n10 λn12=>
Az (n12 != 0) (
Ah n12 λn14=>
Ab 0 [Ac n14])<|
AA T.a3 a11 0 λb15=>
Az b15 (
Ab 0 [Ac 4])<|
AC<|
AD T.a14 a0 0 λn17=>
Aj t λa19=>
AD T.a14 a19 1 λn20=>
Ao (decide (n17<n20)) λb21=>
AG<|
Aa b21 (
Ab 0 [Ac 8])<|
Bn T.a0 a0 λn22 n23 n24 n25 n26 n27 l28=>
Ai F.a108 [AW n22 n23 n24 n25 n26 n27 l28] λn29=>
Aj t λa31=>
AE T.a14 a31 1 (Ac n29)<|
AD T.a14 a0 1 λn32=>
Aa (n32 == 0) (
Ab 0 [Ac 0])<|
AD T.a14 a0 1 λn33=>
.call F.a21 [Ad t,Ac n33] (.tup [.agg [.int .i64,.int .i64,.int .i64,.int .i64,.int .i64,.int .i64,.int .i64],.one .bool]) (u8 λ(n34 n35 n36 n37 n38 n39 n40:Int) b41=>
Ar T.a5 λa42=>
Au T.a5 a42 (BY n34 n35 n36 n37 n38 n39 n40)<|
Ao b41 λb43=>
AD T.a14 a0 5 λn44=>
Ah n44 λn45=>
AI 1 (
Aa b43 (
AD T.a14 a42 6 λn46=>
Ah (if n46>n45 then n46 else n45) λn47=>
Ab 1 [Ac n47])<|
Ab 1 [Ac n45]) λn48=>
AD T.a13 a0 4 λn49=>
AB 1 (
AB 2 (
Ao (n49 == 2) λb50=>
Bc 3 (
Aa b50 (
Ab 3 [.bool b50])<|
Ao (n49 == 3) λb51=>
Ab 3 [.bool b51]) λb52=>
Aa b52 (
AC<|
Aj t λa54=>
Ak T.a19 a54 2 λm55=>
AD T.a14 a0 1 λn56=>
AD T.a14 a0 1 λn57=>
AD T.a13 a0 2 λn58=>
AN (Instr.mapUpdate T.a19 (.map m55) (Ac n56) (.agg #[Ac n57,Ac (AF (n58+1)),Ac 0,Ac 0,Ac 0,Ac (-1),Ac n48]))<|
AG<|
Ab 0 [Ac 0])<|
Az (n49 == 1) (
Ca T.a5 a42 λn60 n61 n62 n63 n64 n65 n66=>
AM F.a16 [BY n60 n61 n62 n63 n64 n65 n66] λb67=>
AB 3 (
Aa (not b67) (
AD T.a14 a0 0 λn68=>
AE T.a14 a42 5 (Ac n68)<|
Ab 3 [])<|
Ab 3 [])<|
Ab 2 [])<|
Ab 2 [])<|
AC<|
Aj t λa70=>
Ak T.a19 a70 2 λm71=>
AD T.a14 a0 1 λn72=>
AD T.a14 a0 1 λn73=>
AD T.a13 a0 2 λn74=>
AD T.a13 a0 3 λn75=>
Ax T.a39 a0 6 λl76=>
AD T.a14 a0 0 λn77=>
AD T.a14 a42 5 λn78=>
AN (Instr.mapUpdate T.a19 (.map m71) (Ac n72) (.agg #[Ac n73,Ac n74,Ac n75,Ac (Ag l76),Ac n77,Ac n78,Ac n48]))<|
AG<|
Ab 1 [])<|
Ab 0 [Ac 0])
theorem zth (t:Option Addr) (b_0 b_1 b_2 b_3 b_4 b_5:Int) (b_6:Sl):FnS (z079 t b_0 b_1 b_2 b_3 b_4 b_5 b_6) F.a19 #[.pointer t,.agg #[.int .i64 b_0,.int .i64 b_1,.int .i64 b_2,.int .i64 b_3,.int .i64 b_4,.int .i64 b_5,.slice b_6.a b_6.len b_6.cap]]:=dV ⟨[(34587645138207506480,[(9,.one (.int .i64))]),(737869762948382064695,[(55,.one .bool)]),(2166395068749415481073467467,[])],[(1,[]),(4,[])],[],[]⟩ Go.Proofs.Tryz.func192 (by kernel_rfl)
def z08a (v:Option Addr) (b_0 b_1 b_2 b_3 b_4 b_5:Int) (b_6:Sl):Prog :=
Ae T.a0 (AW b_0 b_1 b_2 b_3 b_4 b_5 b_6) λa0=>
Bn T.a0 a0 λn1 n2 n3 n4 n5 n6 l7=>
Ai F.a59 [Ad v,AW n1 n2 n3 n4 n5 n6 l7] λn8=>
Ah n8 λn9=>
Aa (n9 != 0) (
Ah n9 λn10=>
Ab 0 [Ac n10])<|
Bn T.a0 a0 λn11 n12 n13 n14 n15 n16 l17=>
Ai F.a108 [AW n11 n12 n13 n14 n15 n16 l17] λn18=>
Aj v λa20=>
AE T.a14 a20 0 (Ac n18)<|
BL 1 (
AC<|
Aj v λa22=>
BU T.a20 a22 1 λm23=>
By T.a14 a0 1 λn24=>
BV (Instr.lookup T.a20 (.map m23) (Ac n24) true) λn25 n26 n27 n28 b29=>
Ar T.a18 λa30=>
AG<|
Au T.a18 a30 (Be n25 n26 n27 n28)<|
Ao b29 λb31=>
AG<|
Ab 1 [Af a30,.bool b31]) λa32 b33=>
AD T.a13 a0 4 λn34=>
Ao (n34 == 1 && not b33) λb35=>
AB 1 (
Aa b35 (
AC<|
Aj v λa37=>
Ak T.a20 a37 1 λm38=>
AD T.a14 a0 1 λn39=>
AD T.a14 a0 1 λn40=>
AD T.a13 a0 2 λn41=>
AD T.a14 a0 0 λn42=>
AN (Instr.mapUpdate T.a20 (.map m38) (Ac n39) (.agg #[Ac n40,Ac n41,Ac n42,Ac (-1)]))<|
AG<|
Ab 1 [])<|
Bn T.a0 a0 λn43 n44 n45 n46 n47 n48 l49=>
AM F.a69 [AW n43 n44 n45 n46 n47 n48 l49] λb50=>
Ao (b50 && b33) λb51=>
AB 2 (
Aa b51 (
AC<|
Aj v λa53=>
Ak T.a20 a53 1 λm54=>
AD T.a14 a0 1 λn55=>
AH (Builtin.delete_ #[T.a20,T.a14] T.a58 #[.map m54,Ac n55])<|
AG<|
AD T.a13 a0 4 λn56=>
AB 3 (
Aa (n56 == 3) (
AD T.a14 a0 0 λn57=>
AE T.a14 a32 3 (Ac n57)<|
AC<|
Aj v λa59=>
Ak T.a21 a59 2 λm60=>
BO T.a17 a32 0 λn61 n62=>
BG T.a18 a32 λn63 n64 n65 n66=>
AN (Instr.mapUpdate T.a21 (.map m60) (Br n61 n62) (Be n63 n64 n65 n66))<|
AG<|
Ab 3 [])<|
Ab 3 [])<|
Ab 2 [])<|
Ab 2 [])<|
Ab 1 [])<|
Ab 0 [Ac 0]
theorem zuk (v:Option Addr) (b_0 b_1 b_2 b_3 b_4 b_5:Int) (b_6:Sl):FnS (z08a v b_0 b_1 b_2 b_3 b_4 b_5 b_6) F.a64 #[.pointer v,.agg #[.int .i64 b_0,.int .i64 b_1,.int .i64 b_2,.int .i64 b_3,.int .i64 b_4,.int .i64 b_5,.slice b_6.a b_6.len b_6.cap]]:=dV ⟨[(309182778366441411431104577,[]),(309484419525534710019129395,[]),(309485009820782118771359773,[])],[],[(5,[(6,.one .adr),(7,.one .bool)])],[]⟩ Go.Proofs.Tryz.func193 (by kernel_rfl)
def z005 (v:Option Addr):Prog :=
Aa (Option.isNone v) (
Ab 0 [.slice none 0 0])<|
Aj v λa1=>
Ak T.a20 a1 1 λm2=>
.act (Instr.range T.a20 (.map m2)) sA (u1 λa3=>
AS 1 (
.loop 2 [.one .slc] (⟨none,0,0⟩,()) (u1 λl4=>
.next (Instr.next (Af a3) false T.a58) ([.one (.int .i64),.agg [.int .i64,.int .i64,.int .i64,.int .i64]]) (u5 λ(n5 n6 n7 n8 n9:Int)=>
.act (Instr.entry (Af a3)) (.tup [.one (.int .i64),.agg [.int .i64,.int .i64,.int .i64,.int .i64]]) (u5 λ(n10 n11 n12 n13 n14:Int)=>
Ar T.a18 λa15=>
Au T.a18 a15 (Be n11 n12 n13 n14)<|
BG T.a18 a15 λn16 n17 n18 n19=>
BH F.a68 [Be n16 n17 n18 n19] λn20 n21 n22 n23=>
AP (Instr.buildSlice T.a42 1 #[(0,Be n20 n21 n22 n23)]) λl24=>
AP (app T.a42 T.a42 T.a42 l4.v l24.v) λl25=>
Ab 2 [l25.v])) <|
Ab 1 [l4.v])) λl26=>
Am F.a152 [l26.v,.func (Fn.func 267) #[] #[]]<|
Ab 0 [l26.v])
theorem zuh (v:Option Addr) {w:World} {R:List Value->World->Prop} (h:(z005 v).wp P (λ_=>True) w λe vs w'=>e=0/\R vs w') :
  Calls P F.a61 #[.pointer v] w λe w'=>∃ vs,e=.returned (z8x vs)/\R vs w' :=
 z9l (zhp Go.Proofs.Tryz.func200 (by kernel_rfl) (by kernel_rfl) (by kernel_rfl)) zhv mix [.val (.pointer v)] (by rw [show zi9 P 25 ⟨zhu,[(13,[.one (.int .i64),.agg [.int .i64,.int .i64,.int .i64,.int .i64]]),(15,[.one (.int .i64),.agg [.int .i64,.int .i64,.int .i64,.int .i64]])]⟩ { cnd:=[],blk:=[(0,[(3,.one .slc)])],reg:=[],lps:=[(0,[(3,.one .slc)])] } [.tmp 2] (zay Go.Proofs.Tryz.f200) [.val (.pointer v)]=z005 v from by kernel_rfl];exact h)
def z006 (v:Option Addr):Prog :=
Aa (Option.isNone v) (
Ab 0 [Ac 0])<|
Aj v λa1=>
AD T.a14 a1 0 λn2=>
Ah n2 λn3=>
Aj v λa5=>
Ak T.a20 a5 1 λm6=>
.act (Instr.range T.a20 (.map m6)) sA (u1 λa7=>
AI 1 (
AO 2 (n3,()) λn8=>
.next (Instr.next (Af a7) false T.a58) ([.one (.int .i64),.agg [.int .i64,.int .i64,.int .i64,.int .i64]]) (u5 λ(n9 n10 n11 n12 n13:Int)=>
.act (Instr.entry (Af a7)) (.tup [.one (.int .i64),.agg [.int .i64,.int .i64,.int .i64,.int .i64]]) (u5 λ(n14 n15 n16 n17 n18:Int)=>
Ar T.a18 λa19=>
Au T.a18 a19 (Be n15 n16 n17 n18)<|
AD T.a14 a19 2 λn20=>
Ah (if n20<n8 then n20 else n8) λn21=>
Ab 2 [Ac n21])) <|
Ab 1 [Ac n8]) λn22=>
Ah n22 λn23=>
Ab 0 [Ac n23])
theorem zuj (v:Option Addr) {w:World} {R:List Value->World->Prop} (h:(z006 v).wp P (λ_=>True) w λe vs w'=>e=0/\R vs w') :
  Calls P F.a63 #[.pointer v] w λe w'=>∃ vs,e=.returned (z8x vs)/\R vs w' :=
 z9l (zhp Go.Proofs.Tryz.func201 (by kernel_rfl) (by kernel_rfl) (by kernel_rfl)) zhv mix [.val (.pointer v)] (by rw [show zi9 P 26 ⟨zhu,[(17,[.one (.int .i64),.agg [.int .i64,.int .i64,.int .i64,.int .i64]]),(19,[.one (.int .i64),.agg [.int .i64,.int .i64,.int .i64,.int .i64]])]⟩ { cnd:=[],blk:=[(0,[(3,.one (.int .i64))])],reg:=[],lps:=[(0,[(3,.one (.int .i64))])] } [.tmp 2] (zay Go.Proofs.Tryz.f201) [.val (.pointer v)]=z006 v from by kernel_rfl];exact h)
def z08d (b_0 b_1 b_2 b_3 b_4 b_5:Int) (b_6:Sl):Prog :=
Ae T.a0 (AW b_0 b_1 b_2 b_3 b_4 b_5 b_6) λa0=>
AD T.a13 a0 4 λn1=>
Bz ((n1 == 2)=false) T.a13 a0 4 λn2=>
Ao (n1 == 2 || n2 == 3) λb3=>
Ab 0 [.bool b3]
theorem zun (b_0 b_1 b_2 b_3 b_4 b_5:Int) (b_6:Sl):FnS (z08d b_0 b_1 b_2 b_3 b_4 b_5 b_6) F.a69 #[.agg #[.int .i64 b_0,.int .i64 b_1,.int .i64 b_2,.int .i64 b_3,.int .i64 b_4,.int .i64 b_5,.slice b_6.a b_6.len b_6.cap]]:=dV ⟨[],[],[],[]⟩ Go.Proofs.Tryz.func202 (by kernel_rfl)
def z023 (s:Sl) (i:Int) (j:Int):Prog :=
.must (0<=i/\i<=j/\j<=(Ag s)/\(Ag s)<=((s.cap:Nat):Int)) <|
Aa (i == j) (
Ab 0 [s.v])<|
Ah (Ag s) λn0=>
AC<|
.must (0<=i/\i<=((s.cap:Nat):Int)) <|
.must (0<=j/\j<=(Ag s)) <|
AP (app T.a46 T.a46 T.a46 (.slice s.a (Int.toNat i) s.cap) (.slice (z12 s.a 5 (Int.toNat j) s.cap) (s.len-Int.toNat j) (s.cap-Int.toNat j))) λl1=>
AG<|
.must (0<=(Ag l1)/\(Ag l1)<=n0/\n0<=((l1.cap:Nat):Int)) <|
AH (Builtin.clear_ #[T.a46] T.a58 #[.slice (z12 l1.a 5 (Int.toNat (Ag l1)) l1.cap) (Int.toNat n0-Int.toNat (Ag l1)) (l1.cap-Int.toNat (Ag l1))])<|
Ab 0 [l1.v]
theorem zom (s:Sl) (i j:Int):FnS (z023 s i j) F.a149 #[.slice s.a s.len s.cap,.int .i64 i,.int .i64 j]:=dV ⟨[],[],[],[]⟩ Go.Proofs.Tryz.func205 (by kernel_rfl)
def z025 (s:Sl) (i:Int) (v:Sl):Prog :=
.must (0<=i/\i<=(Ag s)) <|
Ah (Ag v) λn0=>
Aa (n0 == 0) (
Ab 0 [s.v])<|
Ah (Ag s) λn1=>
Aa (i == n1) (
AP (app T.a46 T.a46 T.a46 s.v v.v) λl2=>
Ab 0 [l2.v])<|
Aa (decide (AF (n1+n0)>((s.cap:Nat):Int))) (
.must (0<=i/\i<=((s.cap:Nat):Int)) <|
AP (app T.a46 T.a13 T.a46 (.slice s.a (Int.toNat i) s.cap) (Ac (AF (AF (n1+n0)-i)))) λl3=>
.must (0<=i/\i<=(Ag l3)) <|
.act (Builtin.copy_ #[T.a46,T.a46] T.a13 #[.slice (z12 l3.a 5 (Int.toNat i) l3.cap) (l3.len-Int.toNat i) (l3.cap-Int.toNat i),v.v]) (sI .i64) (u1 λ(n4:Int)=>
AC<|
.must (0<=AF (i+n0)/\AF (i+n0)<=(Ag l3)) <|
.must (0<=i/\i<=(Ag s)) <|
.act (Builtin.copy_ #[T.a46,T.a46] T.a13 #[.slice (z12 l3.a 5 (Int.toNat (AF (i+n0))) l3.cap) (l3.len-Int.toNat (AF (i+n0))) (l3.cap-Int.toNat (AF (i+n0))),.slice (z12 s.a 5 (Int.toNat i) s.cap) (s.len-Int.toNat i) (s.cap-Int.toNat i)]) (sI .i64) (u1 λ(n5:Int)=>
AG<|
Ab 0 [l3.v])))<|
.must (0<=AF (n1+n0)/\AF (n1+n0)<=((s.cap:Nat):Int)) <|
.must (0<=AF (i+n0)/\AF (i+n0)<=((Int.toNat (AF (n1+n0)):Nat):Int)) <|
.fail 14
theorem zoo (s:Sl) (i:Int) (v:Sl):FnS (z025 s i v) F.a151 #[.slice s.a s.len s.cap,.int .i64 i,.slice v.a v.len v.cap]:=dV ⟨[],[],[],[]⟩ Go.Proofs.Tryz.func206 (by kernel_rfl)
def z08x (p:Option Addr) (b_0 b_1 b_2 b_3 b_4 b_5:Int) (b_6:Sl):Prog :=
Ae T.a0 (AW b_0 b_1 b_2 b_3 b_4 b_5 b_6) λa0=>
Ar T.a7 λa1=>
.bind 1 [.one .adr,.one (.int .i64)] (
AC<|
Aj p λa3=>
B4 T.a27 a3 4 λp4=>
.hold True (ld T.a0 a0) (sG [.int .i64,.int .i64,.int .i64,.int .i64,.int .i64,.int .i64,.slc]) (u7 λ(n5 n6 n7 n8 n9 n10:Int) l11=>
.both (
AG<|
BW F.a17 [Ad p4,AW n5 n6 n7 n8 n9 n10 l11] λb12 n13 n14=>
Ar T.a7 λa15=>
Au T.a7 a15 (BX b12 n13)<|
Ah n14 λn16=>
AG<|
Ab 1 [Af a15,Ac n16]) <|
Ar T.a7 λa17=>
AG<|
BW F.a17 [Ad p4,AW n5 n6 n7 n8 n9 n10 l11] λb18 n19 n20=>
Au T.a7 a17 (BX b18 n19)<|
Ah n20 λn21=>
AG<|
Ab 1 [Af a17,Ac n21])) (u2 λa22 (n23:Int)=>
Aq ((n23 != 0)=false) T.a3 a22 0 λb24=>
Aa (n23 != 0 || b24) (
Cb T.a7 a22 λb25 n26=>
Au T.a7 a1 (BX b25 n26)<|
Ah n23 λn27=>
Cb T.a7 a1 λb28 n29=>
Ab 0 [BX b28 n29,Ac n27])<|
AI 1 (
AC<|
.hold True (ld T.a7 a22) (sG [.bool,.int .i64]) (u2 λb30 (n31:Int)=>
Aj p λa33=>
Bw T.a31 a33 5 λp34=>
Bn T.a0 a0 λn35 n36 n37 n38 n39 n40 l41=>
Ai F.a59 [Ad p34,AW n35 n36 n37 n38 n39 n40 l41] λn42=>
AG<|
Au T.a7 a1 (BX b30 n31)<|
Ah n42 λn43=>
AG<|
Ab 1 [Ac n43])) λn44=>
Cb T.a7 a1 λb45 n46=>
Ab 0 [BX b45 n46,Ac n44])
theorem zv7 (p:Option Addr) (b_0 b_1 b_2 b_3 b_4 b_5:Int) (b_6:Sl):FnS (z08x p b_0 b_1 b_2 b_3 b_4 b_5 b_6) F.a94 #[.pointer p,.agg #[.int .i64 b_0,.int .i64 b_1,.int .i64 b_2,.int .i64 b_3,.int .i64 b_4,.int .i64 b_5,.slice b_6.a b_6.len b_6.cap]]:=dV ⟨[],[],[(1,[(6,.one .adr),(7,.one (.int .i64))]),(4,[(5,.one (.int .i64))])],[]⟩ Go.Proofs.Tryz.func210 (by kernel_rfl)
def zf9 (i:Int) (fv0:Option Addr) (fv1:Option Addr):Prog :=
AC<|
B5 T.a26 fv0 λp0=>
Aj p0 λa2=>
Ax T.a46 a2 1 λl3=>
.ex [.adr] (c1 λa4=>0<=i/\i<(Ag l3)/\l3.a=some a4) (u1 λa5=>
AQ T.a54 (Addr.add (Addr.add a5 (Int.toNat i*5)) 1) 0 λs6=>
B2 (Instr.loadAt T.a54 (Ad fv1)) λs7=>
Ao (not (Op.bytesLess (ByteArray.toList s6) (ByteArray.toList s7))) λb8=>
AG<|
Ab 0 [.bool b8])
theorem zxl (i:Int) (fv0 fv1:Option Addr):FnS (zf9 i fv0 fv1) F.a10 #[.int .i64 i,.pointer fv0,.pointer fv1]:=dV ⟨[],[],[],[]⟩ Go.Proofs.Tryz.func224 (by kernel_rfl)
def z0ah (r:Option Addr) (most:Int):Prog :=
Bj F.a206 [Ad r] λn0=>
AU n0 λn1=>
Aa (decide (n1>IntKind.wrap .u64 most)) (
Ah (AF (most+1)) λn2=>
Ab 0 [Ac n2])<|
Ah (AF n1) λn3=>
Ab 0 [Ac n3]
def z0ag (r_0 r_1 r_2 r_3 r_4 r_5 r_6:Int) (next_:Int):Prog :=
Ae T.a5 (BY r_0 r_1 r_2 r_3 r_4 r_5 r_6) λa0=>
AD T.a14 a0 0 λn1=>
Bz (decide (n1<1)=false) T.a14 a0 0 λn2=>
Bz ((decide (n1<1) || decide (n2>1048576))=false) T.a13 a0 1 λn3=>
Bz ((decide (n1<1) || decide (n2>1048576) || decide (n3>32768))=false) T.a14 a0 6 λn4=>
Bz ((decide (n1<1) || decide (n2>1048576) || decide (n3>32768) || decide (n4>1099511627776))=false) T.a13 a0 3 λn5=>
Aa (decide (n1<1) || decide (n2>1048576) || decide (n3>32768) || decide (n4>1099511627776) || decide (n5>64)) (
Ab 0 [.bool false])<|
AD T.a13 a0 3 λn6=>
Aa (n6 == 0) (
AD T.a13 a0 2 λn7=>
Bz ((n7 == 0)=true) T.a14 a0 4 λn8=>
Bz ((n7 == 0 && n8 == 0)=true) T.a14 a0 5 λn9=>
Ao (n7 == 0 && n8 == 0 && n9 == -1) λb10=>
Ab 0 [.bool b10])<|
Bc 1 (
AD T.a13 a0 1 λn11=>
BZ (decide (n11<=32767)=true) T.a5 a0 λn12 n13 n14 n15 n16 n17 n18=>
Aa (decide (n11<=32767)) (
Ai F.a15 [BY n12 n13 n14 n15 n16 n17 n18] λn19=>
Bz (decide (n19<=2147483648)=true) T.a14 a0 4 λn20=>
Bz (decide (n19<=2147483648)=true) T.a13 a0 3 λn21=>
Bz ((decide (n19<=2147483648) && decide (AF (n20+n21)<=next_))=true) T.a14 a0 5 λn22=>
Bz ((decide (n19<=2147483648) && decide (AF (n20+n21)<=next_))=true) T.a14 a0 4 λn23=>
Ao (decide (n19<=2147483648) && decide (AF (n20+n21)<=next_) && decide (n22<=n23)) λb24=>
Ab 1 [.bool b24])<|
Ab 1 [.bool false]) λb25=>
Ab 0 [.bool b25]
def z0an (r:Option Addr) (most:Int):Prog :=
Bj F.a206 [Ad r] λn0=>
AU n0 λn1=>
Aa (decide (n1>IntKind.wrap .u64 most)) (
Ah (AF (most+1)) λn2=>
Ab 0 [Ac n2])<|
Ah (AF n1) λn3=>
Ab 0 [Ac n3]
def z0al (v:Option Addr) (r:Option Addr):Prog :=
Ai F.a71 [Ad r,Ac 1024] λn0=>
Ah n0 λn1=>
AB 1 (
AJ 2 (-1,(0,())) λn2 n3=>
Aa (decide (n3<n1)) (
Aj v λa5=>
AD T.a14 a5 0 λn6=>
.call F.a70 [Ad r,Ac n6] (.tup [.agg [.int .i64,.int .i64,.int .i64,.int .i64],.one .bool]) (u5 λ(n7 n8 n9 n10:Int) b11=>
Ar T.a18 λa12=>
Au T.a18 a12 (Be n7 n8 n9 n10)<|
Ao b11 λb13=>
Bc 3 (
AC<|
Aj v λa15=>
BU T.a20 a15 1 λm16=>
By T.a14 (Addr.add a12 0) 0 λn17=>
BV (Instr.lookup T.a20 (.map m16) (Ac n17) true) λn18 n19 n20 n21 b22=>
Ar T.a18 λa23=>
AG<|
Au T.a18 a23 (Be n18 n19 n20 n21)<|
Ao b22 λb24=>
AG<|
Ab 3 [.bool b24]) λb25=>
Bz ((not b13 || b25)=false) T.a14 a12 2 λn26=>
Aa (not b13 || b25 || decide (n26<=n2) || decide (n3>=1024)) (
Ab 0 [.bool false])<|
AC<|
Aj v λa28=>
Ak T.a20 a28 1 λm29=>
AD T.a14 (Addr.add a12 0) 0 λn30=>
BG T.a18 a12 λn31 n32 n33 n34=>
AN (Instr.mapUpdate T.a20 (.map m29) (Ac n30) (Be n31 n32 n33 n34))<|
AG<|
AD T.a14 a12 2 λn35=>
Ah n35 λn36=>
Ah (AF (n3+1)) λn37=>
Ab 2 [Ac n36,Ac n37]))<|
Ab 1 [])<|
Ai F.a202 [Ad r] λn38=>
Ao (n38 == 0) λb39=>
Ab 0 [.bool b39]
def z0ak (v:Option Addr) (r:Option Addr):Prog :=
Ai F.a71 [Ad r,Ac 4096] λn0=>
Ah n0 λn1=>
AB 1 (
AJ 2 (-1,(0,())) λn2 n3=>
Aa (decide (n3<n1)) (
Aj v λa5=>
AD T.a14 a5 0 λn6=>
.call F.a70 [Ad r,Ac n6] (.tup [.agg [.int .i64,.int .i64,.int .i64,.int .i64],.one .bool]) (u5 λ(n7 n8 n9 n10:Int) b11=>
Ar T.a18 λa12=>
Au T.a18 a12 (Be n7 n8 n9 n10)<|
Ao b11 λb13=>
Ai F.a71 [Ad r,Ac 1099511627776] λn14=>
AE T.a14 a12 3 (Ac n14)<|
Bc 3 (
AC<|
Aj v λa16=>
BU T.a21 a16 2 λm17=>
.hold True (ld T.a17 (Addr.add a12 0)) (sG [.int .i64,.int .i64]) (u2 λ(n18 n19:Int)=>
BV (Instr.lookup T.a21 (.map m17) (Br n18 n19) true) λn20 n21 n22 n23 b24=>
Ar T.a18 λa25=>
AG<|
Au T.a18 a25 (Be n20 n21 n22 n23)<|
Ao b24 λb26=>
AG<|
Ab 3 [.bool b26])) λb27=>
Bc 3 (
AC<|
Aa (not b13) (
AG<|
Ab 3 [.bool true])<|
Ai F.a202 [Ad r] λn28=>
Ap ((n28 != 0 || b27)=false) v λa30=>
As ((n28 != 0 || b27)=false) T.a20 a30 1 λm31=>
Bz ((n28 != 0 || b27)=false) T.a14 (Addr.add a12 0) 0 λn32=>
.read ((n28 != 0 || b27)=false) (Instr.lookup T.a20 (.map m31) (Ac n32) false) (sG [.int .i64,.int .i64,.int .i64,.int .i64]) (u4 λ(n33 n34 n35 n36:Int)=>
Bs ((n28 != 0 || b27)=false) (ld T.a17 (Addr.add a12 0)) λn37 n38=>
Bz ((n28 != 0 || b27 || n33 == n37 && n34 == n38)=false) T.a14 a12 3 λn39=>
Bz ((n28 != 0 || b27 || n33 == n37 && n34 == n38 || decide (n39<=n2))=false) T.a14 a12 3 λn40=>
Bz ((n28 != 0 || b27 || n33 == n37 && n34 == n38 || decide (n39<=n2))=false) T.a14 a12 2 λn41=>
Bz ((n28 != 0 || b27 || n33 == n37 && n34 == n38 || decide (n39<=n2) || decide (n40<=n41))=false) T.a14 a12 3 λn42=>
Ap ((n28 != 0 || b27 || n33 == n37 && n34 == n38 || decide (n39<=n2) || decide (n40<=n41))=false) v λa44=>
Bz ((n28 != 0 || b27 || n33 == n37 && n34 == n38 || decide (n39<=n2) || decide (n40<=n41))=false) T.a14 a44 0 λn45=>
AG<|
Ab 3 [.bool (n28 != 0 || b27 || n33 == n37 && n34 == n38 || decide (n39<=n2) || decide (n40<=n41) || decide (n42>=n45) || decide (n3>=4096))])) λb46=>
Aa b46 (
Ab 0 [.bool false])<|
AC<|
Aj v λa48=>
Ak T.a21 a48 2 λm49=>
BO T.a17 a12 0 λn50 n51=>
BG T.a18 a12 λn52 n53 n54 n55=>
AN (Instr.mapUpdate T.a21 (.map m49) (Br n50 n51) (Be n52 n53 n54 n55))<|
AG<|
AD T.a14 a12 3 λn56=>
Ah n56 λn57=>
Ah (AF (n3+1)) λn58=>
Ab 2 [Ac n57,Ac n58]))<|
Ab 1 [])<|
Ai F.a202 [Ad r] λn59=>
Ao (n59 == 0) λb60=>
Ab 0 [.bool b60]
def z078 (t:Option Addr) (b_0 b_1 b_2 b_3 b_4 b_5:Int) (b_6:Sl):Prog :=
Ae T.a0 (AW b_0 b_1 b_2 b_3 b_4 b_5 b_6) λa0=>
Ar T.a7 λa1=>
Aa (Option.isNone t) (
Au T.a7 a1 (BX false 0)<|
Cb T.a7 a1 λb2 n3=>
Ab 0 [BX b2 n3,Ac 1])<|
Bn T.a0 a0 λn4 n5 n6 n7 n8 n9 l10=>
Ai F.a110 [AW n4 n5 n6 n7 n8 n9 l10] λn11=>
Ah n11 λn12=>
Bz ((n12 != 0)=false) T.a14 a0 1 λn13=>
Aa (n12 != 0 || n13 == 0) (
Au T.a7 a1 (BX false 0)<|
Ah n12 λn14=>
Cb T.a7 a1 λb15 n16=>
Ab 0 [BX b15 n16,Ac n14])<|
AD T.a14 a0 1 λn17=>
.call F.a21 [Ad t,Ac n17] (.tup [.agg [.int .i64,.int .i64,.int .i64,.int .i64,.int .i64,.int .i64,.int .i64],.one .bool]) (u8 λ(n18 n19 n20 n21 n22 n23 n24:Int) b25=>
Ar T.a5 λa26=>
Au T.a5 a26 (BY n18 n19 n20 n21 n22 n23 n24)<|
Ao b25 λb27=>
AD T.a13 a0 2 λn28=>
AD T.a13 a26 1 λn29=>
Aa (decide (n28<n29)) (
Bn T.a0 a0 λn30 n31 n32 n33 n34 n35 l36=>
AM F.a23 [AW n30 n31 n32 n33 n34 n35 l36] λb37=>
Aa b37 (
Au T.a7 a1 (.agg #[.bool true,Ac (-1)])<|
Cb T.a7 a1 λb38 n39=>
Ab 0 [BX b38 n39,Ac 0])<|
Au T.a7 a1 (BX false 0)<|
Cb T.a7 a1 λb40 n41=>
Ab 0 [BX b40 n41,Ac 20])<|
Bn T.a0 a0 λn42 n43 n44 n45 n46 n47 l48=>
AM F.a23 [AW n42 n43 n44 n45 n46 n47 l48] λb49=>
AB 1 (
Aa (not b49) (
Ca T.a5 a26 λn50 n51 n52 n53 n54 n55 n56=>
Bn T.a0 a0 λn57 n58 n59 n60 n61 n62 l63=>
.call F.a22 [BY n50 n51 n52 n53 n54 n55 n56,AW n57 n58 n59 n60 n61 n62 l63] (.tup [.agg [.bool,.int .i64],.one .bool]) (u3 λb64 (n65:Int) b66=>
Ar T.a7 λa67=>
Au T.a7 a67 (BX b64 n65)<|
Az b66 (
Cb T.a7 a67 λb69 n70=>
Au T.a7 a1 (BX b69 n70)<|
Cb T.a7 a1 λb71 n72=>
Ab 0 [BX b71 n72,Ac 0])<|
Ab 1 []))<|
Ab 1 [])<|
Ca T.a5 a26 λn73 n74 n75 n76 n77 n78 n79=>
Bn T.a0 a0 λn80 n81 n82 n83 n84 n85 l86=>
Ai F.a20 [Ad t,BY n73 n74 n75 n76 n77 n78 n79,.bool b27,AW n80 n81 n82 n83 n84 n85 l86] λn87=>
Au T.a7 a1 (BX false 0)<|
Ah n87 λn88=>
Cb T.a7 a1 λb89 n90=>
Ab 0 [BX b89 n90,Ac n88])
theorem ztf (t:Option Addr) (b_0 b_1 b_2 b_3 b_4 b_5:Int) (b_6:Sl):FnS (z078 t b_0 b_1 b_2 b_3 b_4 b_5 b_6) F.a17 #[.pointer t,.agg #[.int .i64 b_0,.int .i64 b_1,.int .i64 b_2,.int .i64 b_3,.int .i64 b_4,.int .i64 b_5,.slice b_6.a b_6.len b_6.cap]]:=dV ⟨[(18374686479678046251,[])],[],[],[]⟩ Go.Proofs.Tryz.func258 (by kernel_rfl)
def z07b (t:Option Addr) (pid:Int):Prog :=
Ar T.a5 λa0=>
Aj t λa2=>
Ak T.a19 a2 2 λm3=>
.read True (Instr.lookup T.a19 (.map m3) (Ac pid) true) (.tup [.agg [.int .i64,.int .i64,.int .i64,.int .i64,.int .i64,.int .i64,.int .i64],.one .bool]) (u8 λ(n4 n5 n6 n7 n8 n9 n10:Int) b11=>
Ar T.a5 λa12=>
Au T.a5 a12 (BY n4 n5 n6 n7 n8 n9 n10)<|
Ao b11 λb13=>
Aa (not b13) (
Au T.a5 a0 (.agg #[Ac pid,Ac (-1),Ac 0,Ac 0,Ac 0,Ac (-1),Ac 0])<|
Ca T.a5 a0 λn14 n15 n16 n17 n18 n19 n20=>
Ab 0 [BY n14 n15 n16 n17 n18 n19 n20,.bool false])<|
Ca T.a5 a12 λn21 n22 n23 n24 n25 n26 n27=>
Au T.a5 a0 (BY n21 n22 n23 n24 n25 n26 n27)<|
Ca T.a5 a0 λn28 n29 n30 n31 n32 n33 n34=>
Ab 0 [BY n28 n29 n30 n31 n32 n33 n34,.bool true])
theorem ztj (t:Option Addr) (pid:Int):FnS (z07b t pid) F.a21 #[.pointer t,.int .i64 pid]:=dV ⟨[],[],[],[]⟩ Go.Proofs.Tryz.func259 (by kernel_rfl)
def z077 (r_0 r_1 r_2 r_3 r_4 r_5:Int) (r_6:Int):Prog :=
Ae T.a5 (BY r_0 r_1 r_2 r_3 r_4 r_5 r_6) λa0=>
AD T.a14 a0 5 λn1=>
Ao (decide (n1>=0)) λb2=>
Ab 0 [.bool b2]
theorem zte (r_0 r_1 r_2 r_3 r_4 r_5 r_6:Int):FnS (z077 r_0 r_1 r_2 r_3 r_4 r_5 r_6) F.a16 #[.agg #[.int .i64 r_0,.int .i64 r_1,.int .i64 r_2,.int .i64 r_3,.int .i64 r_4,.int .i64 r_5,.int .i64 r_6]]:=dV ⟨[],[],[],[]⟩ Go.Proofs.Tryz.func260 (by kernel_rfl)
def z088 (v:Option Addr) (b_0 b_1 b_2 b_3 b_4 b_5:Int) (b_6:Sl):Prog :=
Ae T.a0 (AW b_0 b_1 b_2 b_3 b_4 b_5 b_6) λa0=>
Aa (Option.isNone v) (
Ab 0 [Ac 1])<|
Bn T.a0 a0 λn1 n2 n3 n4 n5 n6 l7=>
Ai F.a110 [AW n1 n2 n3 n4 n5 n6 l7] λn8=>
Ah n8 λn9=>
Aa (n9 != 0) (
Ah n9 λn10=>
Ab 0 [Ac n10])<|
AC<|
AD T.a14 a0 0 λn11=>
Aj v λa13=>
AD T.a14 a13 0 λn14=>
Ao (decide (n11<n14)) λb15=>
AG<|
Aa b15 (
Ab 0 [Ac 8])<|
AD T.a13 a0 4 λn16=>
Az (n16 != 0) (
Bn T.a0 a0 λn18 n19 n20 n21 n22 n23 l24=>
Ai F.a66 [Ad v,AW n18 n19 n20 n21 n22 n23 l24] λn25=>
Ah n25 λn26=>
Ab 0 [Ac n26])<|
Ab 0 [Ac 0]
theorem zug (v:Option Addr) (b_0 b_1 b_2 b_3 b_4 b_5:Int) (b_6:Sl):FnS (z088 v b_0 b_1 b_2 b_3 b_4 b_5 b_6) F.a59 #[.pointer v,.agg #[.int .i64 b_0,.int .i64 b_1,.int .i64 b_2,.int .i64 b_3,.int .i64 b_4,.int .i64 b_5,.slice b_6.a b_6.len b_6.cap]]:=dV ⟨[],[],[],[]⟩ Go.Proofs.Tryz.func261 (by kernel_rfl)
def z08c (l_0 l_1 l_2:Int) (l_3:Int):Prog :=
Ae T.a18 (Be l_0 l_1 l_2 l_3) λa0=>
Ar T.a15 λa1=>
AD T.a14 (Addr.add a0 0) 0 λn2=>
AD T.a13 (Addr.add a0 0) 1 λn3=>
AD T.a14 a0 2 λn4=>
AD T.a14 a0 3 λn5=>
Au T.a15 a1 (Be n2 n3 n4 n5)<|
BG T.a15 a1 λn6 n7 n8 n9=>
Ab 0 [Be n6 n7 n8 n9]
theorem zum (l_0 l_1 l_2 l_3:Int):FnS (z08c l_0 l_1 l_2 l_3) F.a68 #[.agg #[.int .i64 l_0,.int .i64 l_1,.int .i64 l_2,.int .i64 l_3]]:=dV ⟨[],[],[],[]⟩ Go.Proofs.Tryz.func265 (by kernel_rfl)
def z089 (a_0 a_1 a_2 a_3 b_0 b_1 b_2:Int) (b_3:Int):Prog :=
Ae T.a15 (Be a_0 a_1 a_2 a_3) λa0=>
Ae T.a15 (Be b_0 b_1 b_2 b_3) λa1=>
AD T.a14 a0 2 λn2=>
AD T.a14 a1 2 λn3=>
Ai F.a1 [Ac n2,Ac n3] λn4=>
Ah n4 λn5=>
Ab 0 [Ac n5]
theorem zui (a_0 a_1 a_2 a_3 b_0 b_1 b_2 b_3:Int):FnS (z089 a_0 a_1 a_2 a_3 b_0 b_1 b_2 b_3) F.a62 #[.agg #[.int .i64 a_0,.int .i64 a_1,.int .i64 a_2,.int .i64 a_3],.agg #[.int .i64 b_0,.int .i64 b_1,.int .i64 b_2,.int .i64 b_3]]:=dV ⟨[],[],[],[]⟩ Go.Proofs.Tryz.func267 (by kernel_rfl)
def z076 (r_0 r_1 r_2 r_3 r_4 r_5:Int) (r_6:Int):Prog :=
Ae T.a5 (BY r_0 r_1 r_2 r_3 r_4 r_5 r_6) λa0=>
AD T.a13 a0 2 λn1=>
AD T.a13 a0 3 λn2=>
Ah (AF (n1+n2)) λn3=>
Ab 0 [Ac n3]
theorem ztd (r_0 r_1 r_2 r_3 r_4 r_5 r_6:Int):FnS (z076 r_0 r_1 r_2 r_3 r_4 r_5 r_6) F.a15 #[.agg #[.int .i64 r_0,.int .i64 r_1,.int .i64 r_2,.int .i64 r_3,.int .i64 r_4,.int .i64 r_5,.int .i64 r_6]]:=dV ⟨[],[],[],[]⟩ Go.Proofs.Tryz.func304 (by kernel_rfl)
def z0am (r:Option Addr) (next_:Int):Prog :=
Ar T.a18 λa0=>
Ai F.a71 [Ad r,Ac 1048576] λn1=>
Ai F.a71 [Ad r,Ac 32767] λn2=>
Ai F.a71 [Ad r,Ac 1099511627776] λn3=>
Ar T.a18 λa4=>
Au T.a18 a4 (.agg #[Ac n1,Ac n2,Ac n3,Ac (-1)])<|
Bc 1 (
AC<|
.hold True (ld T.a18 a4) (sG [.int .i64,.int .i64,.int .i64,.int .i64]) (u4 λ(n5 n6 n7 n8:Int)=>
Ai F.a202 [Ad r] λn9=>
Bz ((n9 == 0)=true) T.a14 (Addr.add a4 0) 0 λn10=>
Bz ((n9 == 0 && decide (n10>=1))=true) T.a14 (Addr.add a4 0) 0 λn11=>
Bz ((n9 == 0 && decide (n10>=1) && decide (n11<=1048576))=true) T.a13 (Addr.add a4 0) 1 λn12=>
BQ ((n9 == 0 && decide (n10>=1) && decide (n11<=1048576) && decide (n12<=32767))=true) T.a14 a4 2 λn13=>
Au T.a18 a0 (Be n5 n6 n7 n8)<|
Ao (n9 == 0 && decide (n10>=1) && decide (n11<=1048576) && decide (n12<=32767) && decide (n13<next_)) λb14=>
AG<|
Ab 1 [.bool b14])) λb15=>
BG T.a18 a0 λn16 n17 n18 n19=>
Ab 0 [Be n16 n17 n18 n19,.bool b15]
def z07d (b_0 b_1 b_2 b_3 b_4 b_5:Int) (b_6:Sl):Prog :=
Ae T.a0 (AW b_0 b_1 b_2 b_3 b_4 b_5 b_6) λa0=>
AD T.a13 a0 4 λn1=>
Bz ((n1 == 2)=false) T.a13 a0 4 λn2=>
Ao (n1 == 2 || n2 == 3) λb3=>
Ab 0 [.bool b3]
theorem ztl (b_0 b_1 b_2 b_3 b_4 b_5:Int) (b_6:Sl):FnS (z07d b_0 b_1 b_2 b_3 b_4 b_5 b_6) F.a23 #[.agg #[.int .i64 b_0,.int .i64 b_1,.int .i64 b_2,.int .i64 b_3,.int .i64 b_4,.int .i64 b_5,.slice b_6.a b_6.len b_6.cap]]:=dV ⟨[],[],[],[]⟩ Go.Proofs.Tryz.func306 (by kernel_rfl)
def z07c (r_0 r_1 r_2 r_3 r_4 r_5 r_6 b_0 b_1 b_2 b_3 b_4 b_5:Int) (b_6:Sl):Prog :=
Ae T.a5 (BY r_0 r_1 r_2 r_3 r_4 r_5 r_6) λa0=>
Ae T.a0 (AW b_0 b_1 b_2 b_3 b_4 b_5 b_6) λa1=>
Ar T.a7 λa2=>
Bc 1 (
AC<|
AD T.a13 a1 2 λn3=>
AD T.a13 a0 1 λn4=>
BQ ((n3 != n4)=false) T.a13 a1 3 λn5=>
.hold ((n3 != n4)=false) (ld T.a39 (Addr.add a1 6)) sL (u1 λl6=>
BZ ((n3 != n4)=false) T.a5 a0 λn7 n8 n9 n10 n11 n12 n13=>
Aa (n3 != n4) (
AG<|
Ab 1 [.bool true])<|
Ai F.a15 [BY n7 n8 n9 n10 n11 n12 n13] λn14=>
AG<|
Ab 1 [.bool (decide (AF (n5+(Ag l6))>n14))])) λb15=>
Aa b15 (
Au T.a7 a2 (BX false 0)<|
Cb T.a7 a2 λb16 n17=>
Ab 0 [BX b16 n17,.bool false])<|
AD T.a13 a1 3 λn18=>
AD T.a13 a0 2 λn19=>
AX ((n18 == n19)=true) T.a39 a1 6 λl20=>
Bz ((n18 == n19)=true) T.a13 a0 3 λn21=>
Aa (n18 == n19 && (Ag l20) == n21) (
AD T.a14 a0 4 λn22=>
Au T.a7 a2 (BX true n22)<|
Cb T.a7 a2 λb23 n24=>
Ab 0 [BX b23 n24,.bool true])<|
Au T.a7 a2 (.agg #[.bool true,Ac (-1)])<|
Cb T.a7 a2 λb25 n26=>
Ab 0 [BX b25 n26,.bool true]
theorem ztk (r_0 r_1 r_2 r_3 r_4 r_5 r_6 b_0 b_1 b_2 b_3 b_4 b_5:Int) (b_6:Sl):FnS (z07c r_0 r_1 r_2 r_3 r_4 r_5 r_6 b_0 b_1 b_2 b_3 b_4 b_5 b_6) F.a22 #[.agg #[.int .i64 r_0,.int .i64 r_1,.int .i64 r_2,.int .i64 r_3,.int .i64 r_4,.int .i64 r_5,.int .i64 r_6],.agg #[.int .i64 b_0,.int .i64 b_1,.int .i64 b_2,.int .i64 b_3,.int .i64 b_4,.int .i64 b_5,.slice b_6.a b_6.len b_6.cap]]:=dV ⟨[],[],[(1,[(21,.one .bool)])],[]⟩ Go.Proofs.Tryz.func307 (by kernel_rfl)
def z07a (t:Option Addr) (r_0 r_1 r_2 r_3 r_4 r_5 r_6:Int) (there:Bool) (b_0 b_1 b_2 b_3 b_4 b_5:Int) (b_6:Sl):Prog :=
Ae T.a5 (BY r_0 r_1 r_2 r_3 r_4 r_5 r_6) λa0=>
Ae T.a0 (AW b_0 b_1 b_2 b_3 b_4 b_5 b_6) λa1=>
Ca T.a5 a0 λn2 n3 n4 n5 n6 n7 n8=>
Ai F.a15 [BY n2 n3 n4 n5 n6 n7 n8] λn9=>
Ah n9 λn10=>
AD T.a13 a1 2 λn11=>
AD T.a13 a0 1 λn12=>
AI 1 (
Aa (decide (n11>n12)) (
Ab 1 [Ac 0])<|
Ab 1 [Ac n10]) λn13=>
Ca T.a5 a0 λn14 n15 n16 n17 n18 n19 n20=>
AM F.a16 [BY n14 n15 n16 n17 n18 n19 n20] λb21=>
Bz (b21=true) T.a13 a1 2 λn22=>
Bz (b21=true) T.a13 a0 1 λn23=>
Bz (b21=true/\decide (n22>n23)=false) T.a13 a1 4 λn24=>
Az (b21 && (decide (n22>n23) || n24 == 0)) (
Ab 0 [Ac 22])<|
Bn T.a0 a1 λn26 n27 n28 n29 n30 n31 l32=>
AM F.a23 [AW n26 n27 n28 n29 n30 n31 l32] λb33=>
Bz (not b33=true) T.a13 a1 3 λn34=>
Az (not b33 && n34 != n13) (
Ab 0 [Ac 21])<|
AC<|
Ap (not there=true) t λa37=>
As (not there=true) T.a19 a37 2 λm38=>
Cc (not there=true) (Builtin.len_ #[T.a19] T.a13 #[.map m38]) λn39=>
Ap (not there=true) t λa41=>
Bz (not there=true) T.a13 a41 0 λn42=>
Ao (not there && decide (n39>=n42)) λb43=>
AG<|
Aa b43 (
Ab 0 [Ac 5])<|
Ab 0 [Ac 0]
theorem zti (t:Option Addr) (r_0 r_1 r_2 r_3 r_4 r_5 r_6:Int) (there:Bool) (b_0 b_1 b_2 b_3 b_4 b_5:Int) (b_6:Sl):FnS (z07a t r_0 r_1 r_2 r_3 r_4 r_5 r_6 there b_0 b_1 b_2 b_3 b_4 b_5 b_6) F.a20 #[.pointer t,.agg #[.int .i64 r_0,.int .i64 r_1,.int .i64 r_2,.int .i64 r_3,.int .i64 r_4,.int .i64 r_5,.int .i64 r_6],.bool there,.agg #[.int .i64 b_0,.int .i64 b_1,.int .i64 b_2,.int .i64 b_3,.int .i64 b_4,.int .i64 b_5,.slice b_6.a b_6.len b_6.cap]]:=dV ⟨[(2097168,[(9,.one (.int .i64))])],[],[],[]⟩ Go.Proofs.Tryz.func308 (by kernel_rfl)
def z08b (v:Option Addr) (b_0 b_1 b_2 b_3 b_4 b_5:Int) (b_6:Sl):Prog :=
Ae T.a0 (AW b_0 b_1 b_2 b_3 b_4 b_5 b_6) λa0=>
AD T.a14 a0 1 λn1=>
AD T.a13 a0 2 λn2=>
Ar T.a17 λa3=>
Au T.a17 a3 (Br n1 n2)<|
Bc 1 (
AC<|
Aj v λa5=>
BU T.a21 a5 2 λm6=>
.hold True (ld T.a17 a3) (sG [.int .i64,.int .i64]) (u2 λ(n7 n8:Int)=>
BV (Instr.lookup T.a21 (.map m6) (Br n7 n8) true) λn9 n10 n11 n12 b13=>
Ar T.a18 λa14=>
AG<|
Au T.a18 a14 (Be n9 n10 n11 n12)<|
Ao b13 λb15=>
AG<|
Ab 1 [.bool b15])) λb16=>
BL 1 (
AC<|
Aj v λa18=>
BU T.a20 a18 1 λm19=>
By T.a14 a0 1 λn20=>
BV (Instr.lookup T.a20 (.map m19) (Ac n20) true) λn21 n22 n23 n24 b25=>
Ar T.a18 λa26=>
AG<|
Au T.a18 a26 (Be n21 n22 n23 n24)<|
Ao b25 λb27=>
AG<|
Ab 1 [Af a26,.bool b27]) λa28 b29=>
Az b16 (
Ab 0 [Ac 20])<|
Bs (b29=true) (ld T.a17 (Addr.add a28 0)) λn31 n32=>
Bs (b29=true) (ld T.a17 a3) λn33 n34=>
Az (b29 && not (n31 == n33 && n32 == n34)) (
Ab 0 [Ac 22])<|
AD T.a13 a0 4 λn36=>
Ap ((n36 == 1 && not b29)=true) v λa38=>
As ((n36 == 1 && not b29)=true) T.a20 a38 1 λm39=>
Cc ((n36 == 1 && not b29)=true) (Builtin.len_ #[T.a20] T.a13 #[.map m39]) λn40=>
Az (n36 == 1 && not b29 && decide (n40>=1024)) (
Ab 0 [Ac 5])<|
AD T.a13 a0 4 λn42=>
Ap ((n42 == 3 && b29)=true) v λa44=>
As ((n42 == 3 && b29)=true) T.a21 a44 2 λm45=>
Cc ((n42 == 3 && b29)=true) (Builtin.len_ #[T.a21] T.a13 #[.map m45]) λn46=>
Az (n42 == 3 && b29 && decide (n46>=4096)) (
Ab 0 [Ac 5])<|
Ab 0 [Ac 0]
theorem zul (v:Option Addr) (b_0 b_1 b_2 b_3 b_4 b_5:Int) (b_6:Sl):FnS (z08b v b_0 b_1 b_2 b_3 b_4 b_5 b_6) F.a66 #[.pointer v,.agg #[.int .i64 b_0,.int .i64 b_1,.int .i64 b_2,.int .i64 b_3,.int .i64 b_4,.int .i64 b_5,.slice b_6.a b_6.len b_6.cap]]:=dV ⟨[],[],[(2,[(7,.one .bool)]),(3,[(8,.one .adr),(9,.one .bool)])],[]⟩ Go.Proofs.Tryz.func309 (by kernel_rfl)
def z086 (a_0 a_1 a_2 a_3 b_0 b_1 b_2:Int) (b_3:Int):Prog :=
Ae T.a15 (Be a_0 a_1 a_2 a_3) λa0=>
Ae T.a15 (Be b_0 b_1 b_2 b_3) λa1=>
AD T.a14 a0 3 λn2=>
AD T.a14 a1 3 λn3=>
Ai F.a1 [Ac n2,Ac n3] λn4=>
Ah n4 λn5=>
Ab 0 [Ac n5]
theorem zue (a_0 a_1 a_2 a_3 b_0 b_1 b_2 b_3:Int):FnS (z086 a_0 a_1 a_2 a_3 b_0 b_1 b_2 b_3) F.a57 #[.agg #[.int .i64 a_0,.int .i64 a_1,.int .i64 a_2,.int .i64 a_3],.agg #[.int .i64 b_0,.int .i64 b_1,.int .i64 b_2,.int .i64 b_3]]:=dV ⟨[],[],[],[]⟩ Go.Proofs.Tryz.func342 (by kernel_rfl)
def z09k:RecM:=⟨ByteArray.mk #[],ByteArray.mk #[],false,0⟩
def z20 (c:ComM) (time:Int):RecM × Int:=if z45 c/\(0<=time/\time<=1099511627776) then (z4u c time,0) else (z09k,2)
instance {r:RecM} {e:Int}:IsR (.tup [.agg [.str,.str,.bool,.int .i64],.one (.int .i64)]) [.agg (z00 r).toArray,.int .i64 e] (r.key,r.value,r.gone,r.time,e,()):=⟨rfl⟩
instance {c:ComM} {e:Int}:IsR (.tup [.agg [.int .i64,.int .i64,.int .i64,.int .i64],.one (.int .i64)]) [.agg (z3t c).toArray,.int .i64 e] (c.part,c.off,c.mem,c.gen,e,()):=⟨rfl⟩
theorem z7u (n:Nat) (h:n<=9):(((z5q n).toNat:Nat):Int)=48+n:=by
 unfold z5q
 rw [UInt8.toNat_ofNat']
 omega
theorem zt6 {x:Int} (h:0<=x/\x<256):IntKind.wrap .u8 x=x:=by
 have:=z90 x.toNat
 rw [show ((x.toNat:Nat):Int)=x by omega] at this
 rw [this];omega
def z4y (l:List UInt8):Int:=l.foldl (λn d=>n*10+((d.toNat:Int)-48)) 0
theorem zsk (l:List UInt8) (d:UInt8):z4y (l++[d])=z4y l*10+((d.toNat:Int)-48):=by
 unfold z4y
 rw [List.foldl_append,List.foldl_cons,List.foldl_nil]
theorem zjb {p:Int} (hp:0<=p/\p<=255):z4y (z7j p)=p:=by
 unfold z4y z7j
 simp only [List.foldl_cons,List.foldl_nil]
 rw [z7u _ (by omega),z7u _ (by omega),z7u _ (by omega)]
 omega
theorem z03t {p:Int} (hp:0<=p/\p<=255):∀ d ∈ z7j p,¬ ((d.toNat:Int)<48\/(d.toNat:Int)>57):=λd hd=>by
 unfold z7j at hd
 simp only [List.mem_cons,List.not_mem_nil,or_false] at hd
 rcases hd with rfl|rfl|rfl <;> rw [z7u _ (by omega)] <;> omega
theorem z8k {r:RecM} {c:ComM} (h:z4r r c):r.key.size=4/\(r.key.extract 1 r.key.size).data.toList=z7j c.part/\r.value.data.toList=z3o c:=by
 obtain ⟨-,h1,h2,-⟩:=h
 rw [h1,h2]
 exact ⟨rfl,rfl,by simp⟩
section
variable {w:World} {l r:List HP}
theorem zlp (m:Nat) (hm:m<=255) (hs:Sat w l):Ret P F.a85 #[.int .i64 (m:Int)] w λvs w'=>vs=[.string (z13 m)]/\Sat w' l :=
 zuy _ <| by
  delta z08o AF AP AR Ab B2
  have e1:IntKind.wrap .u8 (IntKind.wrap .i64 (48+IntKind.wrap .i64 (Int.tdiv (m:Int) 100)))=(((z5q (m / 100)).toNat:Nat):Int):=by
   rw [za0 m (by omega),z7u _ (by omega),show (100:Int).toNat=100 from rfl,w64 (x:=((m / 100:Nat):Int)) (by omega) (by omega),w64 (by omega) (by omega),zt6 (by omega)]
  have e2:IntKind.wrap .u8 (IntKind.wrap .i64 (48+Int.tmod (IntKind.wrap .i64 (Int.tdiv (m:Int) 10)) 10))=(((z5q (m / 10 % 10)).toNat:Nat):Int):=by
   rw [za0 m (by omega),z7u _ (by omega),show (10:Int).toNat=10 from rfl,w64 (x:=((m / 10:Nat):Int)) (by omega) (by omega),z85 _ (by omega),show (10:Int).toNat=10 from rfl,w64 (by omega) (by omega),zt6 (by omega)]
  have e3:IntKind.wrap .u8 (IntKind.wrap .i64 (48+Int.tmod (m:Int) 10))=(((z5q (m % 10)).toNat:Nat):Int):=by
   rw [z85 m (by omega),z7u _ (by omega),show (10:Int).toNat=10 from rfl,w64 (by omega) (by omega),zt6 (by omega)]
  rw [e1,e2,e3]
  refine z88 hs (enc:=zh) [z5q (m / 100),z5q (m / 10 % 10),z5q (m % 10)] λx w' hs=>?_
  refine zmr hs (bs:=[z5q (m / 100),z5q (m / 10 % 10),z5q (m % 10)]) ?_
  refine wp_must (by show ((1+3:Nat):Int)<=_;omega) ?_
  refine wp_lt ?_
  exact ⟨rfl,rfl,hs.tail⟩
theorem zwk (c:ComM) (hs:Sat w l):Ret P F.a75 #[.agg (z3t c).toArray] w λvs w'=>vs=[.bool (decide (z45 c))]/\Sat w' l :=
 zuo c.part c.off c.mem c.gen <| by
  delta z08e AD Ab Ae Ao Be Bz
  refine zp hs λa0 w' hs=>?_
  refine za hs ?_
  refine za hs ?_
  refine za hs ?_
  refine za hs ?_
  refine za hs ?_
  refine za hs ?_
  refine za hs ?_
  refine za hs ?_
  refine wp_lt ?_
  refine ⟨rfl,?_,hs.tail⟩
  congr 2
  rw [Bool.eq_iff_iff,decide_eq_true_iff (p:=z45 c)]
  unfold z45
  simp only [Bool.and_eq_true,decide_eq_true_eq]
  constructor
  ·rintro ⟨⟨⟨⟨⟨⟨⟨h1,h2⟩,h3⟩,h4⟩,h5⟩,h6⟩,h7⟩,h8⟩
   exact ⟨⟨h1,h2⟩,⟨h3,h4⟩,⟨h5,h6⟩,h7,h8⟩
  ·rintro ⟨⟨h1,h2⟩,⟨h3,h4⟩,⟨h5,h6⟩,h7,h8⟩
   exact ⟨⟨⟨⟨⟨⟨⟨h1,h2⟩,h3⟩,h4⟩,h5⟩,h6⟩,h7⟩,h8⟩
theorem zlt (c:ComM) (time:Int) (hs:Sat w l):Ret P F.a83 #[.agg (z3t c).toArray,.int .i64 time] w λvs w'=>vs=[.agg (z00 (z20 c time).1).toArray,.int .i64 (z20 c time).2]/\Sat w' l :=
 zuw c.part c.off c.mem c.gen time <| by
  delta z08m AC AD AG AI AM AP AS Aa Ab Ac Ae Ar Au Ay BG Be Bp Bq Bu By;unfold z20
  refine zp hs λa0 w' hs=>?_
  refine zm hs λa1 w' hs=>?_
  refine ze hs ?_
  refine z8 (zwk c hs) λ_ w' hs=>?_
  obtain ⟨rfl,hs⟩:=hs
  refine zb ?_
  by_cases h:z45 c/\(0<=time/\time<=1099511627776)
  rotate_left
  ·rw [if_neg h]
   refine z3g (by
    rw [Bool.or_eq_true,Bool.or_eq_true,decide_eq_true_eq,decide_eq_true_eq,Bool.not_eq_true',decide_eq_false_iff_not]
    by_cases h1:z45 c
    ·have:¬ (0<=time/\time<=1099511627776):=λh2=>h ⟨h1,h2⟩
     omega
    ·exact .inl (.inl h1)) ?_
   refine zl hs λw' hs=>?_
   refine ze hs ?_
   exact ⟨rfl,rfl,hs.sub⟩
  rw [if_pos h]
  obtain ⟨hm,ht⟩:=h
  have hm':=hm
  obtain ⟨m1,m2,m3,m4⟩:=hm'
  refine z23 (by rw [decide_eq_true hm,decide_eq_false (by omega),decide_eq_false (by omega)];rfl) ?_
  refine zk (λq w'=>∃ z:Sl,q=(z,())/\Sat w' (slc T.a57 1 z ((z3o c).flatMap zh)::pt a0 (.cells #[.int .i64 c.part,.int .i64 c.off,.int .i64 c.mem,.int .i64 c.gen] T.a23)::pt a1 (.cells #[.string (ByteArray.mk #[]),.string (ByteArray.mk #[]),.bool false,.int .i64 0] T.a2)::l)) ?_ ?_
  ·refine zw hs λw' hs=>?_
   refine za hs ?_
   refine z0z hs ?_
   refine z0z hs ?_
   refine z8 (z3j c.off (by omega) hs) λ_ w' hs=>?_
   obtain ⟨z1,rfl,hs⟩:=hs
   refine zb ?_ (by first|trivial|(repeat (first|exact trivial|exact λ_=>z05 hs|exact λ_=>z0b hs|refine And.intro ?_ ?_)))
   refine z8 (z3j c.mem (by omega) hs) λ_ w' hs=>?_
   obtain ⟨z2,rfl,hs⟩:=hs
   refine zb ?_ (by first|trivial|(repeat (first|exact trivial|exact λ_=>z05 hs|exact λ_=>z0b hs|refine And.intro ?_ ?_)))
   refine zd ?_
   refine z8 (z3j c.gen (by omega) hs) λ_ w' hs=>?_
   obtain ⟨z3,rfl,hs⟩:=hs
   refine zb ?_
   refine z88 hs (enc:=z0c) [z1,z2,z3] λz4 w' hs=>?_
   have h1:=(z11 c.off).2
   have h2:=(z11 c.mem).2
   have h3:=(z11 c.gen).2
   refine z8 (zmp z4 z1 z2 z3 (uI c.off) (uI c.mem) (uI c.gen) (by omega) hs) λ_ w' hs=>?_
   obtain ⟨z5,rfl,hs⟩:=hs
   refine zb ?_
   refine zd ?_
   have hs:Sat w' (slc T.a57 1 z5 ((z3o c).flatMap zh)::_):=hs
   exact zf ⟨z5,rfl,hs.sub⟩
  clear hs
  rintro _ w ⟨z,rfl,hs⟩
  refine zj ?_
  refine zk (λq w'=>q=(0,())/\Sat w' (pt a1 (.cells #[.string (z13 c.part),.string ⟨(z3o c).toArray⟩,.bool false,.int .i64 time] T.a2)::l)) ?_ ?_
  ·refine zw hs λw' hs=>?_
   refine za hs ?_
   refine zrb (p:=.str) (x:=(⟨(z3o c).toArray⟩:ByteArray)) (zbd hs) ?_
   have hk:=zlp c.part.toNat (by omega) hs
   rw [show ((c.part.toNat:Nat):Int)=c.part by omega] at hk
   refine z8 hk λ_ w' hs=>?_
   obtain ⟨rfl,hs⟩:=hs
   refine zb ?_ ⟨trivial,λ_=>zbd hs⟩
   refine zd ?_
   refine zl hs λw' hs=>?_
   refine zd ?_
   exact zf ⟨rfl,hs.sub⟩
  clear hs
  rintro _ w ⟨rfl,hs⟩
  refine zj ?_
  refine ze hs ?_
  exact ⟨rfl,rfl,hs.sub⟩
end
abbrev com0:ComM:=⟨0,0,0,0⟩
theorem zem:∀ (l:List UInt8),(∀ d ∈ l,¬ ((d.toNat:Int)<48\/(d.toNat:Int)>57))->l.length<=3->0<=z4y l/\z4y l<=999
 | [],_,_=>by decide
 | [a],h,_=>by
  have h1:=h a (by simp)
  unfold z4y
  simp only [List.foldl_cons,List.foldl_nil]
  omega
 | [a,b],h,_=>by
  have h1:=h a (by simp)
  have h2:=h b (by simp)
  unfold z4y
  simp only [List.foldl_cons,List.foldl_nil]
  omega
 | [a,b,c],h,_=>by
  have h1:=h a (by simp)
  have h2:=h b (by simp)
  have h3:=h c (by simp)
  unfold z4y
  simp only [List.foldl_cons,List.foldl_nil]
  omega
 | _::_::_::_::_,_,h=>by simp at h
theorem zi3 (a b:ByteArray):(ByteArray.toList a == ByteArray.toList b)=decide (a=b):=by
 rw [Bool.eq_iff_iff,beq_iff_eq,decide_eq_true_iff]
 exact ⟨λh=>by rw [ByteArray.toList_eq,ByteArray.toList_eq] at h;exact ByteArray.ext (Array.ext' h),λh=>by rw [h]⟩
section
variable {w:World} {l r:List HP}
set_option maxHeartbeats 1000000 in
theorem zba (r:RecM) (hv:r.value.size<=1000000) (hs:Sat w l):Ret P F.a82 #[.agg (z00 r).toArray] w λvs w'=>∃ (c:ComM) (e:Int),vs=[.agg (z3t c).toArray,.int .i64 e]/\zg8 r c e/\Sat w' l :=
 zuv r.key r.value r.gone r.time <| by
  delta z08l AB AC AD AE AF AG AM AO AP AQ AU AY AZ Aa Ab Ac Ad Ae Ag Ai Aq Ar Au B1 BG Bc Be Bj Bp Bu Bz
  refine zp hs λa0 w' hs=>?_
  refine zm hs λa1 w' hs=>?_
  refine za hs ?_
  refine za hs ?_
  by_cases h1:r.key.size≠4\/r.gone=true
  ·refine z3g (by
    rw [Bool.or_eq_true]
    rcases h1 with h1|h1
    ·left;simp;omega
    ·right;exact h1) ?_
   refine zl hs λw' hs=>?_
   refine ze hs ?_
   refine ⟨rfl,com0,6,rfl,.inr ⟨rfl,rfl,λc' h=>?_⟩,hs.sub⟩
   rcases h1 with h1|h1
   ·exact h1 (z8k h).1
   ·rw [h.2.2.2] at h1;cases h1
  have hk4:r.key.size=4:=Classical.byContradiction λh=>h1 (.inl h)
  have hgn:r.gone=false:=by
   cases hg:r.gone with
   | false=>rfl
   | true=>exact absurd (.inr hg) h1
  refine z23 (by rw [hk4,hgn];rfl) ?_
  refine zm hs λa8 w' hs=>?_
  refine zl hs λw' hs=>?_
  refine za hs ?_
  refine wp_must (by rw [hk4];omega) ?_
  refine zbj hs λx w' hs=>?_
  obtain ⟨bs,hbs⟩:∃ bs,bs=(r.key.extract 1 r.key.size).data.toList:=⟨_,rfl⟩
  have hbl:bs.length=3:=by
   rw [hbs]
   show (r.key.extract 1 r.key.size).size=3
   rw [ByteArray.size_extract,hk4];rfl
  rw [<- hbs] at hs
  have hxl:=hs.slen x (xs:=bs) (enc:=zh)
  have hno:∀ {c':ComM},z4r r c'->bs=z7j c'.part:=λh=>by rw [hbs];exact (z8k h).2.1
  refine zk (λq w'=>(∀ d ∈ bs,¬ ((d.toNat:Int)<48\/(d.toNat:Int)>57))/\Sat w' (pt a8 (.cells #[.int .i64 (z4y bs),.int .i64 0,.int .i64 0,.int .i64 0] T.a23)::pt a0 (.cells #[.string r.key,.string r.value,.bool r.gone,.int .i64 r.time] T.a2)::pt a1 (.cells #[.int .i64 0,.int .i64 0,.int .i64 0,.int .i64 0] T.a23)::l)) ?_ ?_
  ·refine z09 (λm q w=>∃ i:Nat,q=((i:Int),())/\i<=bs.length/\bs.length-i=m/\(∀ d ∈ bs.take i,¬ ((d.toNat:Int)<48\/(d.toNat:Int)>57)) /\
    Sat w (slc T.a57 1 x (bs.flatMap zh)::pt a8 (.cells #[.int .i64 (z4y (bs.take i)),.int .i64 0,.int .i64 0,.int .i64 0] T.a23)::pt a1 (.cells #[.int .i64 0,.int .i64 0,.int .i64 0,.int .i64 0] T.a23)::pt a0 (.cells #[.string r.key,.string r.value,.bool r.gone,.int .i64 r.time] T.a2)::l)) bs.length
    ⟨0,rfl,by omega,rfl,(λd hd=>by simp at hd),hs⟩ ?_
   clear hs
   rintro m _ w ⟨i,rfl,hi,hm,hd,hs⟩
   refine zj ?_
   refine zg (λhc=>?_) λhc=>?_
   rotate_left
   ·rw [List.take_of_length_le (by omega)] at hs hd
    exact zn (zf ⟨hd,hs.sub⟩)
   have hil:i<bs.length:=by omega
   have htk:bs.take (i+1)=bs.take i++[bs[i]]:=by rw [List.take_add_one,List.getElem?_eq_getElem hil,Option.toList_some]
   have hb3:=zem (bs.take i) hd (by rw [List.length_take];omega)
   refine z1w hs (xs:=bs) (enc:=zh) i hil ?_
   refine wp_lt ?_
   by_cases hbad:((bs[i].toNat:Int)<48\/(bs[i].toNat:Int)>57)
   ·refine z3g (by rw [Bool.or_eq_true,decide_eq_true_eq,decide_eq_true_eq];exact hbad) ?_
    refine zl hs λw' hs=>?_
    refine ze hs ?_
    refine zn (zn ?_)
    refine ⟨rfl,com0,6,rfl,.inr ⟨rfl,rfl,λc' h=>?_⟩,hs.sub⟩
    have hm:=hno h
    exact z03t h.1.1 _ (by rw [<- hm];exact List.getElem_mem hil) hbad
   refine z23 (by rw [Bool.or_eq_false_iff,decide_eq_false_iff_not,decide_eq_false_iff_not];omega) ?_
   refine za hs ?_
   rw [zt6 (by omega),w64 (x:=(bs[i].toNat:Int)-48) (by omega) (by omega),w64 (x:=z4y (bs.take i)*10) (by omega) (by omega),w64 (by omega) (by omega),<- zsk,<- htk]
   refine z02 hs λw' hs=>?_
   refine z27 (us':=[.int .i64 ((i+1:Nat):Int)]) (by (try simp (disch:=omega) only [w64]);first|rfl|(congr;omega)) ?_
   refine z0w (bs.length-(i+1)) ⟨i+1,rfl,by omega,rfl,λd hd2=>?_,hs.sub⟩
   rw [htk] at hd2
   rcases List.mem_append.1 hd2 with hd2|hd2
   ·exact hd d hd2
   ·rw [List.mem_singleton.1 hd2];exact hbad
  clear hs
  rintro _ w ⟨hdig,hs⟩
  refine zj ?_
  have hpb:=zem bs hdig (by omega)
  refine za hs ?_
  refine zbj hs λy w' hs=>?_
  obtain ⟨vs,hvs⟩:∃ vs,vs=r.value.data.toList:=⟨_,rfl⟩
  rw [<- hvs] at hs
  have hvl:vs.length<=1000000:=by rw [hvs];exact hv
  have hval:∀ {c':ComM},z4r r c'->vs=z3o c':=λh=>by rw [hvs];exact (z8k h).2.2
  refine z8 (zlk y vs (by omega) hs) λ_ w' hs=>?_
  obtain ⟨p,rfl,hs⟩:=hs
  refine zb ?_
  refine z8 (z9g (p:=p) hs) λ_ w' hs=>?_
  obtain ⟨rfl,hs⟩:=hs
  refine zb ?_
  refine z8 (z9g (p:=p) hs) λ_ w' hs=>?_
  obtain ⟨rfl,hs⟩:=hs
  refine zb ?_
  refine z8 (z9g (p:=p) hs) λ_ w' hs=>?_
  obtain ⟨rfl,hs⟩:=hs
  refine zb ?_
  refine wp_lt ?_
  refine wp_lt ?_
  refine wp_lt ?_
  refine z8 (zkz (p:=p) hs) λ_ w' hs=>?_
  obtain ⟨en,rfl,hen,hs⟩:=hs
  refine zb ?_
  have hread:∀ {c':ComM},z4r r c'->(zv (some vs)).1=c'.off.toNat/\(zv (zv (some vs)).2).1=c'.mem.toNat/\(zv (zv (zv (some vs)).2).2).1=c'.gen.toNat/\(zv (zv (zv (some vs)).2).2).2=some []:=λh=>by
   rw [hval h];exact zdq h.1
  have hinv:=zzz (bs:=vs)
  generalize (zv (some vs)).1=o at hs hread hinv hen ⊢
  generalize (zv (zv (some vs)).2).1=m at hs hread hinv hen ⊢
  generalize (zv (zv (zv (some vs)).2).2).1=g at hs hread hinv hen ⊢
  generalize (zv (zv (zv (some vs)).2).2).2=fin at hs hread hinv hen ⊢
  by_cases hcd:en≠0\/(o:Int)>1099511627776\/(m:Int)>64\/(g:Int)>2147483647
  ·refine z3g (by
    rw [Bool.or_eq_true,Bool.or_eq_true,Bool.or_eq_true,decide_eq_true_eq,decide_eq_true_eq,decide_eq_true_eq]
    rcases hcd with h|h|h|h
    ·exact .inl (.inl (.inl (by simpa using h)))
    ·exact .inl (.inl (.inr h))
    ·exact .inl (.inr h)
    ·exact .inr h) ?_
   refine zl hs λw' hs=>?_
   refine ze hs ?_
   refine ⟨rfl,com0,6,rfl,.inr ⟨rfl,rfl,λc' h=>?_⟩,hs.sub⟩
   obtain ⟨q1,q2,q3,q4⟩:=hread h
   obtain ⟨-,q5,q6,q7⟩:=h.1
   have:=hen.2 q4
   omega
  have hen0:en=0:=by omega
  have hfin:=hen.1 hen0
  refine z23 (by
   rw [Bool.or_eq_false_iff,Bool.or_eq_false_iff,Bool.or_eq_false_iff,decide_eq_false_iff_not,decide_eq_false_iff_not,decide_eq_false_iff_not]
   refine ⟨⟨⟨by rw [hen0];rfl,?_⟩,?_⟩,?_⟩ <;> omega) ?_
  rw [w64 (by omega) (by omega),w64 (by omega) (by omega),w64 (by omega) (by omega)]
  refine z02 hs λw' hs=>?_
  refine z02 hs λw' hs=>?_
  refine z02 hs λw' hs=>?_
  obtain ⟨c,hc⟩:∃ c:ComM,c=⟨z4y bs,o,m,g⟩:=⟨_,rfl⟩
  have hs:Sat w' (pt a8 (.cells #[.int .i64 (z4y bs),.int .i64 o,.int .i64 m,.int .i64 g] T.a23)::pt a0 (.cells #[.string r.key,.string r.value,.bool r.gone,.int .i64 r.time] T.a2)::pt a1 (.cells #[.int .i64 0,.int .i64 0,.int .i64 0,.int .i64 0] T.a23)::l):=hs.sub
  have hs:Sat w' (pt a8 (.cells #[.int .i64 c.part,.int .i64 c.off,.int .i64 c.mem,.int .i64 c.gen] T.a23)::pt a0 (.cells #[.string r.key,.string r.value,.bool r.gone,.int .i64 r.time] T.a2)::pt a1 (.cells #[.int .i64 0,.int .i64 0,.int .i64 0,.int .i64 0] T.a23)::l):=by rw [hc];exact hs
  have huniq:∀ {c':ComM},z4r r c'->c'=c:=λ{c'} h=>by
   obtain ⟨q1,q2,q3,q4⟩:=hread h
   obtain ⟨q0,q5,q6,q7⟩:=h.1
   have hp:=zjb q0
   rw [<- hno h] at hp
   rw [hc]
   obtain ⟨a,b,d,e⟩:=c'
   simp only at q1 q2 q3 hp q5 q6 q7
   rw [hp,q1,q2,q3]
   congr 1 <;> omega
  refine zk (λq w'=>q=(decide (¬ (z45 c/\r.key=z13 c.part)),())/\Sat w' (pt a8 (.cells #[.int .i64 c.part,.int .i64 c.off,.int .i64 c.mem,.int .i64 c.gen] T.a23)::pt a0 (.cells #[.string r.key,.string r.value,.bool r.gone,.int .i64 r.time] T.a2)::pt a1 (.cells #[.int .i64 0,.int .i64 0,.int .i64 0,.int .i64 0] T.a23)::l)) ?_ ?_
  ·refine zw hs λw' hs=>?_
   refine ze hs ?_
   refine z8 (zwk c hs) λ_ w' hs=>?_
   obtain ⟨rfl,hs⟩:=hs
   refine zb ?_
   refine z0z hs ?_
   refine za hs ?_
   by_cases hm:z45 c
   ·refine z23 (by rw [decide_eq_true hm];rfl) ?_
    have hk:=zlp c.part.toNat (by have:=hm.1;omega) hs
    rw [show ((c.part.toNat:Nat):Int)=c.part by have:=hm.1;omega] at hk
    refine z8 hk λ_ w' hs=>?_
    obtain ⟨rfl,hs⟩:=hs
    refine zb ?_ ⟨trivial,λ_=>z05 hs⟩
    refine zd ?_
    refine zf ⟨?_,hs⟩
    rw [zi3]
    have:(!decide (r.key=z13 c.part))=decide (¬ (z45 c/\r.key=z13 c.part)):=by
     rw [Bool.eq_iff_iff];simp [hm]
    rw [this]
   ·refine z3g (by rw [decide_eq_false hm];rfl) ?_
    refine zd ?_
    refine zf ⟨?_,hs⟩
    have:decide (¬ (z45 c/\r.key=z13 c.part))=true:=by simp [hm]
    rw [this]
  clear hs
  rintro _ w ⟨rfl,hs⟩
  refine zj ?_
  by_cases hok:z45 c/\r.key=z13 c.part
  ·refine z23 (by simp [hok]) ?_
   refine ze hs ?_
   refine zl hs λw' hs=>?_
   refine ze hs ?_
   refine ⟨rfl,c,0,rfl,.inl ⟨rfl,hok.1,hok.2,?_,hgn⟩,hs.sub⟩
   have e:=hinv hfin
   have e2:vs=z3o c:=by
    rw [e,hc]
    show _=uI (o:Int)++(uI (m:Int)++uI (g:Int))
    unfold uI
    rw [Int.toNat_natCast,Int.toNat_natCast,Int.toNat_natCast]
   rw [<- e2,hvs]
  ·refine z3g (by simp only [decide_eq_true_eq];exact hok) ?_
   refine zl hs λw' hs=>?_
   refine ze hs ?_
   refine ⟨rfl,com0,6,rfl,.inr ⟨rfl,rfl,λc' h=>?_⟩,hs.sub⟩
   have:=huniq h
   subst this
   exact hok ⟨h.1,h.2.1⟩
end
structure RowA where
 pid:Int
 epoch:Int
 seq:Int
 count:Int
 base:Int
 frm:Int
 time:Int
def z60 (t:RowA):List Value:=[.int .i64 t.pid,.int .i64 t.epoch,.int .i64 t.seq,.int .i64 t.count,.int .i64 t.base,.int .i64 t.frm,.int .i64 t.time]
instance:EncA z60 [.int .i64,.int .i64,.int .i64,.int .i64,.int .i64,.int .i64,.int .i64] (λt=>(t.pid,t.epoch,t.seq,t.count,t.base,t.frm,t.time,())):=⟨λ_=>rfl⟩
instance:EncN z60 7:=⟨λ_=>rfl,by decide,by simp [z60,Value.oneCell']⟩
instance:EncF z60 0 (.int .i64) (λt=>t.pid):=⟨λ_=>rfl⟩
instance:EncF z60 1 (.int .i64) (λt=>t.epoch):=⟨λ_=>rfl⟩
instance:EncF z60 2 (.int .i64) (λt=>t.seq):=⟨λ_=>rfl⟩
instance:EncF z60 3 (.int .i64) (λt=>t.count):=⟨λ_=>rfl⟩
instance:EncF z60 4 (.int .i64) (λt=>t.base):=⟨λ_=>rfl⟩
instance:EncF z60 5 (.int .i64) (λt=>t.frm):=⟨λ_=>rfl⟩
instance:EncF z60 6 (.int .i64) (λt=>t.time):=⟨λ_=>rfl⟩
abbrev evW (t:RowA):Value:=.agg #[.int .i64 t.pid,.int .i64 t.epoch,.int .i64 t.seq,.int .i64 t.count,.int .i64 t.base,.int .i64 t.frm,.int .i64 t.time]
structure TabA where
 most:Int
 next:Int
 rows:List RowA
def z5i (A:TabA) (pid:Int):Option RowA:=A.rows.find? λr=>decide (r.pid=pid)
def z06i (pid:Int):RowA:=⟨pid,-1,0,0,0,-1,0⟩
def z0q (A:TabA) (pid:Int):RowA:=(z5i A pid).getD (z06i pid)
def z96 (rs:List RowA):List RowA:=rs.filter λr=>decide (0<=r.frm)
structure okRw (r:RowA) (next:Int):Prop where
 pid:1<=r.pid/\r.pid<=1048576
 epoch:0<=r.epoch/\r.epoch<=32768
 time:0<=r.time/\r.time<=1099511627776
 count:0<=r.count/\r.count<=64
 seq:0<=r.seq
 base:0<=r.base
 frm : -1<=r.frm
 none_:r.count=0->r.seq=0/\r.base=0/\r.frm = -1
 some_:0<r.count->r.epoch<=32767/\r.seq+r.count<=2147483648/\r.base+r.count<=next/\r.frm<=r.base
structure okTb (A:TabA):Prop where
 most:1<=A.most/\A.most<=4096
 next:0<=A.next/\A.next<=1099511627777
 many:(A.rows.length:Int)<=A.most
 row:∀ r ∈ A.rows,okRw r A.next
 byPid:A.rows.Pairwise λa b=>a.pid<b.pid
 apart:(z96 A.rows).Pairwise λa b=>a.frm≠b.frm
instance:KeyT P T.a14 ekI:=zle (by kernel_rfl)
instance:MapT P T.a19 T.a14 (.agg #[.int .i64 0,.int .i64 0,.int .i64 0,.int .i64 0,.int .i64 0,.int .i64 0,.int .i64 0]):=⟨T.a5,by kernel_rfl,by kernel_rfl⟩
def z3b (rs:List RowA):List (Int × RowA):=rs.map λr=>(r.pid,r)
def tb (t:Nat) (A:TabA):HP:=HP.ex λm:Nat=>HP.and (okTb A) (HP.star (pt t (.cells #[.int .i64 A.most,.int .i64 A.next,.map (some m)] T.a6)) (z1b ekI evW m (z3b A.rows)))
theorem okRw.seqs {r:RowA} {next:Int} (h:okRw r next):r.seq+r.count<=2147483648:=by
 have h1:=h.count;have h2:=h.seq
 rcases Int.lt_or_le 0 r.count with h3|h3
 ·exact (h.some_ h3).2.1
 ·have:=(h.none_ (by omega)).1;omega
theorem z2n {A:TabA} {pid:Int} {t:RowA} (h:z5i A pid=some t):t ∈ A.rows/\t.pid=pid:=⟨List.mem_of_find?_eq_some h,by simpa using List.find?_some h⟩
theorem zdn {A:TabA} {pid:Int} (h:z5i A pid=none):∀ t ∈ A.rows,t.pid≠pid:=λt ht=>by simpa using List.find?_eq_none.1 h t ht
theorem zjh (A:TabA) (pid:Int):(∃ t,z5i A pid=some t/\(pid,t) ∈ z3b A.rows)\/(z5i A pid=none/\∀ t,(pid,t) ∉ z3b A.rows):=by
 cases h:z5i A pid with
 | some t=>exact .inl ⟨t,rfl,List.mem_map.2 ⟨t,(z2n h).1,by rw [(z2n h).2]⟩⟩
 | none=>exact .inr ⟨rfl,λt ht=>by
   obtain ⟨u,hu,e⟩:=List.mem_map.1 ht
   simp only [Prod.mk.injEq] at e
   exact zdn h u hu e.1⟩
theorem zi1 {A:TabA} (hok:okTb A) (pid:Int):0<=(z0q A pid).seq/\0<=(z0q A pid).count/\(z0q A pid).seq+(z0q A pid).count<=2147483648 /\ -1<=(z0q A pid).epoch/\(z0q A pid).epoch<=32768 /\ -1<=(z0q A pid).frm/\(z0q A pid).pid=pid:=by
 unfold z0q
 cases h:z5i A pid with
 | none=>simp [z06i]
 | some t =>
  have h1:=hok.row t (z2n h).1
  have:=h1.seqs;have:=h1.seq;have:=h1.count;have:=h1.epoch;have:=h1.frm;have:=(z2n h).2
  simp only [Option.getD_some];omega
section
variable {w:World} {l r r1 r2 l':List HP} {t:Nat} {A:TabA}
theorem zbf (hs:Sat w (tb t A::l)):∃ m:Nat,okTb A/\Sat w (pt t (.cells #[.int .i64 A.most,.int .i64 A.next,.map (some m)] T.a6)::z1b ekI evW m (z3b A.rows)::l):=by
 obtain ⟨m,hs⟩:=hs.ex
 obtain ⟨hok,hs⟩:=hs.and
 exact ⟨m,hok,hs.star⟩
theorem z09b (m:Nat) (hok:okTb A) (hs:Sat w (pt t (.cells #[.int .i64 A.most,.int .i64 A.next,.map (some m)] T.a6)::z1b ekI evW m (z3b A.rows)::l)):Sat w (tb t A::l):=.ex_mk m (.and_mk hok (.star_mk hs))
theorem z3f (m:Nat) (hok:okTb A) (hs:Sat w l) {es1:List (Int × RowA)} [h1:FocB l t (.cells [.int .i64 A.most,.int .i64 A.next,.map (some m)].toArray T.a6) r1] [h2:FoM r1 m ekI evW es1 r2] [h4:Sub r2 l']
  (hp1:es1.Perm (z3b A.rows):=by exact .refl _):Sat w (tb t A::l'):=by
 have hs:=hs.perm (h1.perm.trans (.cons _ h2.perm))
 have hs:=((hs.pick [1]).mapPerm hp1).pick [1]
 have hs:Sat w (tb t A::r2):=z09b m hok hs
 exact hs.sub
theorem z00k (hs:Sat w (tb t A::l)):okTb A:=(zbf hs).choose_spec.1
instance {r:RowA}:IsR (sG [.int .i64,.int .i64,.int .i64,.int .i64,.int .i64,.int .i64,.int .i64]) [.agg (z60 r).toArray] (r.pid,r.epoch,r.seq,r.count,r.base,r.frm,r.time,()):=⟨rfl⟩
instance {r:RowA} {b:Bool}:IsR (.tup [.agg [.int .i64,.int .i64,.int .i64,.int .i64,.int .i64,.int .i64,.int .i64],.one .bool]) [.agg (z60 r).toArray,.bool b] (r.pid,r.epoch,r.seq,r.count,r.base,r.frm,r.time,b,()):=⟨rfl⟩
def z096 (o:Option RowA):Int × Int × Int × Int × Int × Int × Int × Bool × Unit :=
 ((o.getD ⟨0,0,0,0,0,0,0⟩).pid,(o.getD ⟨0,0,0,0,0,0,0⟩).epoch,(o.getD ⟨0,0,0,0,0,0,0⟩).seq,(o.getD ⟨0,0,0,0,0,0,0⟩).count,(o.getD ⟨0,0,0,0,0,0,0⟩).base,(o.getD ⟨0,0,0,0,0,0,0⟩).frm,(o.getD ⟨0,0,0,0,0,0,0⟩).time,o.isSome,())
theorem z06p (most:Int) (hs:Sat w l):Ret P F.a14 #[.int .i64 most] w λvs w' =>
  (1<=most/\most<=4096/\∃ t,vs=[.pointer (some ⟨t,0,none⟩),.int .i64 0]/\Sat w' (tb t ⟨most,0,[]⟩::l))\/((most<1\/most>4096)/\vs=[.pointer none,.int .i64 2]/\Sat w' l) :=
 ztc most <| by
  delta z075 Aa Ab Ac Ad Ae Af
  refine zg (λh=>?_) λh=>?_
  ·exact ⟨rfl,.inr ⟨h,rfl,hs⟩⟩
  refine zch ekI evW hs λm w' hs=>?_
  refine zp hs λt w' hs=>?_
  refine ⟨rfl,.inl ⟨by omega,by omega,t,rfl,?_⟩⟩
  exact z3f m (A:=⟨most,0,[]⟩) ⟨by show 1<=most/\most<=4096;omega,by show (0:Int)<=0/\(0:Int)<=_;omega,by show (0:Int)<=most;omega,by simp,by simp,by simp [z96]⟩ hs
theorem zx6 (pid:Int) [hf:Fo l tb t A r] (hs:Sat w l):Ret P F.a21 #[.pointer (some ⟨t,0,none⟩),.int .i64 pid] w λvs w'=>vs=[.agg (z60 (z0q A pid)).toArray,.bool (z5i A pid).isSome]/\Sat w' (tb t A::r) :=
 ztj _ _ <| by
  delta z07b Aa Ab Ac Aj Ak Ao Ar Au BY Ca
  obtain ⟨m,hok,hs⟩:=zbf (hs.perm hf.perm)
  refine zm hs λa0 w' hs=>?_
  refine zi ?_
  refine za hs ?_
  have ho:=zjh A pid
  unfold z0q
  generalize z5i A pid=o at ho ⊢
  refine z002 hs o ho z096 ?_
  refine ze7 _ _ _ _ _ _ _ _ ?_
  refine zm hs λa12 w' hs=>?_
  refine zl hs λw' hs=>?_
  refine wp_lt ?_
  cases o with
  | none =>
   refine z0o ?_ (by simp)
   refine zl hs λw' hs=>?_
   refine ze hs ?_
   exact ⟨rfl,rfl,z3f m hok hs⟩
  | some x =>
   refine zy ?_ (by simp)
   refine ze hs ?_
   refine zl hs λw' hs=>?_
   refine ze hs ?_
   exact ⟨rfl,rfl,z3f m hok hs⟩
theorem zra (x:RowA) (h1:0<=x.seq+x.count/\x.seq+x.count<=2147483648) (hs:Sat w l):Ret P F.a15 #[.agg (z60 x).toArray] w λvs w'=>vs=[.int .i64 (x.seq+x.count)]/\Sat w' l :=
 ztd x.pid x.epoch x.seq x.count x.base x.frm x.time <| by
  delta z076 AD AF Ab Ac Ae Ah BY
  refine zp hs λa0 w' hs=>?_
  refine za hs ?_
  refine za hs ?_
  refine z19 ?_
  exact ⟨rfl,rfl,hs.tail⟩
theorem zqw (x:RowA) (hs:Sat w l):Ret P F.a16 #[.agg (z60 x).toArray] w λvs w'=>vs=[.bool (decide (0<=x.frm))]/\Sat w' l :=
 zte x.pid x.epoch x.seq x.count x.base x.frm x.time <| by
  delta z077 AD Ab Ae Ao BY
  refine zp hs λa0 w' hs=>?_
  refine za hs ?_
  refine wp_lt ?_
  exact ⟨rfl,rfl,hs.tail⟩
theorem zi4 (b:BatM) (hs:Sat w l):Ret P F.a23 #[.agg (zr b).toArray] w λvs w'=>vs=[.bool (z0h b)]/\Sat w' l :=
 ztl b.base b.pid b.epoch b.seq b.kind b.time b.x <| by
  delta z07d AD AW Ab Ae Ao Bz
  refine zp hs λa0 w' hs=>?_
  refine za hs ?_
  refine za hs ?_
  refine wp_lt ?_
  exact ⟨rfl,rfl,hs.tail⟩
end
structure VerA where
 again:Bool
 base:Int
def zgi (v:VerA):List Value:=[.bool v.again,.int .i64 v.base]
def z8i (r:RowA) (b:BatM):VerA × Bool :=
 if b.epoch≠r.epoch\/b.seq+b.rs.length>r.seq+r.count then (⟨false,0⟩,false) else if b.seq=r.seq/\(b.rs.length:Int)=r.count then (⟨true,r.base⟩,true) else (⟨true,-1⟩,true)
def zb3 (A:TabA) (r:RowA) (there:Bool) (b:BatM):Int :=
 if 0<=r.frm/\(b.epoch>r.epoch\/b.kind=0) then 22
 else if z0h b=false/\b.seq≠(if b.epoch>r.epoch then 0 else r.seq+r.count) then 21
 else if there=false/\(A.rows.length:Int)>=A.most then 5 else 0
def z1t (A:TabA) (b:BatM):VerA × Int :=
 if z04 b≠0\/b.pid=0 then (⟨false,0⟩,z04 b)
 else if b.epoch<(z0q A b.pid).epoch then (if z0h b then (⟨true,-1⟩,0) else (⟨false,0⟩,20))
 else if z0h b=false/\(z8i (z0q A b.pid) b).2=true then ((z8i (z0q A b.pid) b).1,0)
 else (⟨false,0⟩,zb3 A (z0q A b.pid) (z5i A b.pid).isSome b)
instance {v:VerA} {b:Bool}:IsR (.tup [.agg [.bool,.int .i64],.one .bool]) [.agg (zgi v).toArray,.bool b] (v.again,v.base,b,()):=⟨rfl⟩
instance {v:VerA} {n:Int}:IsR (.tup [.agg [.bool,.int .i64],.one (.int .i64)]) [.agg (zgi v).toArray,.int .i64 n] (v.again,v.base,n,()):=⟨rfl⟩
section
variable {w:World} {l r r1 r2 l':List HP} {t:Nat} {A:TabA}
theorem zzu (x:RowA) (b:BatM) [hb:FocR l b.x 4 (b.rs.flatMap z00)] (h1:0<=x.seq+x.count/\x.seq+x.count<=2147483648) (h2:0<=b.seq/\b.seq<=2147483647) (h3:b.rs.length<=64) (hs:Sat w l) :
  Ret P F.a22 #[.agg (z60 x).toArray,.agg (zr b).toArray] w λvs w'=>vs=[.agg (zgi (z8i x b).1).toArray,.bool (z8i x b).2]/\Sat w' l :=
 ztk x.pid x.epoch x.seq x.count x.base x.frm x.time b.base b.pid b.epoch b.seq b.kind b.time b.x <| by
  delta z07c AC AD AF AG AW AX Aa Ab Ac Ae Ag Ai Ar Au BQ BX BY BZ Bc Bz Cb;unfold z8i
  have hl:=hs.slen b.x (xs:=b.rs) (enc:=z00)
  refine zp hs λa0 w' hs=>?_
  refine zp hs λa1 w' hs=>?_
  refine zm hs λa2 w' hs=>?_
  have hs:Sat w' (pt a2 (.cells #[.bool false,.int .i64 0] T.a7)::pt a1 (.cells #[.int .i64 b.base,.int .i64 b.pid,.int .i64 b.epoch,.int .i64 b.seq,.int .i64 b.kind,.int .i64 b.time,.slice b.x.a b.x.len b.x.cap] T.a0) ::
   pt a0 (.cells #[.int .i64 x.pid,.int .i64 x.epoch,.int .i64 x.seq,.int .i64 x.count,.int .i64 x.base,.int .i64 x.frm,.int .i64 x.time] T.a5)::l):=hs
  refine zk (λv w'=>v=(decide (b.epoch≠x.epoch\/b.seq+b.rs.length>x.seq+x.count),())/\Sat w' (pt a2 (.cells #[.bool false,.int .i64 0] T.a7)::pt a1 (.cells #[.int .i64 b.base,.int .i64 b.pid,.int .i64 b.epoch,.int .i64 b.seq,.int .i64 b.kind,.int .i64 b.time,.slice b.x.a b.x.len b.x.cap] T.a0) ::
   pt a0 (.cells #[.int .i64 x.pid,.int .i64 x.epoch,.int .i64 x.seq,.int .i64 x.count,.int .i64 x.base,.int .i64 x.frm,.int .i64 x.time] T.a5)::l)) ?_ ?_
  ·refine zw hs λw' hs=>?_
   refine za hs ?_
   refine za hs ?_
   refine z0z hs ?_
   refine z0z hs ?_
   refine ze hs ?_
   refine zg (λh=>?_) λh=>?_
   ·refine zd ?_
    exact zf ⟨by rw [decide_eq_true (.inl h)],hs⟩
   ·refine z8 (zra x h1 hs) λ_ w' hs=>?_
    obtain ⟨rfl,hs⟩:=hs
    refine zb ?_ ⟨⟨trivial,λ_=>z05 hs⟩,λ_=>z05 hs⟩
    refine zd ?_
    refine zf ⟨?_,hs⟩
    rw [w64 (by omega) (by omega),hl]
    have:(b.epoch≠x.epoch\/b.seq+b.rs.length>x.seq+x.count)↔b.seq+((b.rs.length:Nat):Int)>x.seq+x.count:=⟨λh'=>h'.resolve_left h,.inr⟩
    rw [decide_eq_decide.2 this]
  clear hs
  rintro _ w ⟨rfl,hs⟩
  refine zj ?_
  refine zg (λh=>?_) λh=>?_
  ·rw [if_pos h]
   refine zl hs λw' hs=>?_
   refine ze hs ?_
   exact ⟨rfl,rfl,hs.sub⟩
  rw [if_neg h]
  refine za hs ?_
  refine za hs ?_
  refine za hs ?_
  refine za hs ?_
  refine zg (λh=>?_) λh=>?_
  ·rw [if_pos (by rw [hl] at h;exact h)]
   refine za hs ?_
   refine zl hs λw' hs=>?_
   refine ze hs ?_
   exact ⟨rfl,rfl,hs.sub⟩
  ·rw [if_neg (by rw [hl] at h;exact h)]
   refine zl hs λw' hs=>?_
   refine ze hs ?_
   exact ⟨rfl,rfl,hs.sub⟩
theorem zzx (x:RowA) (there:Bool) (b:BatM) [hf:Fo l tb t A r] (h1:0<=x.seq+x.count/\x.seq+x.count<=2147483648) (hs:Sat w l) :
  Ret P F.a20 #[.pointer (some ⟨t,0,none⟩),.agg (z60 x).toArray,.bool there,.agg (zr b).toArray] w λvs w'=>vs=[.int .i64 (zb3 A x there b)]/\Sat w' (tb t A::r) :=
 zti _ x.pid x.epoch x.seq x.count x.base x.frm x.time there b.base b.pid b.epoch b.seq b.kind b.time b.x <| by
  delta z07a AC AD AG AI AM AW Aa Ab Ac Ae Ah Ai Ao Ap As Az BY Bn Bz Ca Cc;unfold zb3
  obtain ⟨m,hok,hs⟩:=zbf (hs.perm hf.perm)
  refine zp hs λa0 w' hs=>?_
  refine zp hs λa1 w' hs=>?_
  refine ze hs ?_
  refine z8 (zra x h1 hs) λ_ _ hs=>?_
  obtain ⟨rfl,hs⟩:=hs
  refine zb ?_
  refine wp_lt ?_
  refine za hs ?_
  refine za hs ?_
  have hs:Sat _ (pt a1 (.cells #[.int .i64 b.base,.int .i64 b.pid,.int .i64 b.epoch,.int .i64 b.seq,.int .i64 b.kind,.int .i64 b.time,.slice b.x.a b.x.len b.x.cap] T.a0) ::
   pt a0 (.cells #[.int .i64 x.pid,.int .i64 x.epoch,.int .i64 x.seq,.int .i64 x.count,.int .i64 x.base,.int .i64 x.frm,.int .i64 x.time] T.a5)::pt t (.cells #[.int .i64 A.most,.int .i64 A.next,.map (some m)] T.a6)::z1b ekI evW m (z3b A.rows)::r):=hs
  refine zk (λv w'=>v=((if b.epoch>x.epoch then 0 else x.seq+x.count),())/\Sat w' (pt a1 (.cells #[.int .i64 b.base,.int .i64 b.pid,.int .i64 b.epoch,.int .i64 b.seq,.int .i64 b.kind,.int .i64 b.time,.slice b.x.a b.x.len b.x.cap] T.a0) ::
   pt a0 (.cells #[.int .i64 x.pid,.int .i64 x.epoch,.int .i64 x.seq,.int .i64 x.count,.int .i64 x.base,.int .i64 x.frm,.int .i64 x.time] T.a5)::pt t (.cells #[.int .i64 A.most,.int .i64 A.next,.map (some m)] T.a6)::z1b ekI evW m (z3b A.rows)::r)) ?_ ?_
  ·refine zg (λh=>?_) λh=>?_
   ·exact zf ⟨by rw [if_pos h],hs⟩
   ·exact zf ⟨by rw [if_neg h],hs⟩
  clear hs
  rintro _ w ⟨rfl,hs⟩
  refine zj ?_
  refine ze hs ?_
  refine z8 (zqw x hs) λ_ _ hs=>?_
  obtain ⟨rfl,hs⟩:=hs
  refine zb ?_
  refine za hs ?_
  refine za hs ?_
  refine za hs ?_
  refine wp_lt ?_
  refine zg (λh=>?_) λh=>?_
  ·rw [if_pos h]
   exact ⟨rfl,rfl,z3f m hok hs⟩
  rw [if_neg h]
  refine ze hs ?_
  refine z8 (zi4 b hs) λ_ _ hs=>?_
  obtain ⟨rfl,hs⟩:=hs
  refine zb ?_
  refine za hs ?_
  refine wp_lt ?_
  refine zg (λh=>?_) λh=>?_
  ·rw [if_pos (by simpa using h)]
   exact ⟨rfl,rfl,z3f m hok hs⟩
  rw [if_neg (by simpa using h)]
  refine zw hs λw' hs=>?_
  refine z0j ?_
  refine za hs ?_
  refine ze6 hs ?_
  refine z0j ?_
  refine za hs ?_
  refine wp_lt ?_
  refine zd ?_
  have hlen:(z3b A.rows).length=A.rows.length:=by unfold z3b;rw [List.length_map]
  rw [hlen]
  refine zg (λh=>?_) λh=>?_
  ·rw [if_pos (by simpa using h)]
   exact ⟨rfl,rfl,z3f m hok hs⟩
  ·rw [if_neg (by simpa using h)]
   exact ⟨rfl,rfl,z3f m hok hs⟩
theorem zg5 (b:BatM) [hf:Fo l tb t A r] [hb:FocR r b.x 4 (b.rs.flatMap z00)] (hs:Sat w l) :
  Ret P F.a17 #[.pointer (some ⟨t,0,none⟩),.agg (zr b).toArray] w λvs w'=>vs=[.agg (zgi (z1t A b).1).toArray,.int .i64 (z1t A b).2]/\Sat w' (tb t A::r) :=
 ztf _ b.base b.pid b.epoch b.seq b.kind b.time b.x <| by
  delta z078 AB AD AM AW Aa Ab Ac Ad Ae Ah Ai Ao Ar Au Az BX BY Bn Bz Ca Cb;unfold z1t
  have hs:Sat w (tb t A::r):=hs.perm hf.perm
  have hok:=z00k hs
  refine zp hs λa0 w' hs=>?_
  refine zm hs λa1 w' hs=>?_
  refine zy ?_ (by simp)
  refine ze hs ?_
  refine z8 (z9h b hs) λ_ _ hs=>?_
  obtain ⟨rfl,hs⟩:=hs
  refine zb ?_
  refine wp_lt ?_
  refine za hs ?_
  refine zg (λh=>?_) λh=>?_
  ·rw [if_pos h]
   refine zl hs λw' hs=>?_
   refine wp_lt ?_
   refine ze hs ?_
   exact ⟨rfl,rfl,hs.sub⟩
  rw [if_neg h]
  have hv:z04 b=0:=Decidable.not_not.1 λe=>h (.inl e)
  obtain ⟨hs1,hs2,hnum,hfit,hnx⟩:=z17 b hv
  have hl64:b.rs.length<=64:=by
   unfold zq at hs2
   split at hs2
   ·have:=hfit.2
    rename_i hm
    rw [if_pos hm] at this;omega
   ·omega
  refine za hs ?_
  refine z8 (zx6 b.pid hs) λ_ _ hs=>?_
  obtain ⟨rfl,hs⟩:=hs
  refine zb ?_
  obtain ⟨hr1,hr2,hr3,hr4,hr5,hr6,hr7⟩:=zi1 hok b.pid
  generalize z0q A b.pid=x at *
  refine zm hs λa26 w' hs=>?_
  refine zl hs λw' hs=>?_
  refine wp_lt ?_
  refine za hs ?_
  refine za hs ?_
  refine zg (λh=>?_) λh=>?_
  ·rw [if_pos h]
   refine ze hs ?_
   refine z8 (zi4 b hs) λ_ _ hs=>?_
   obtain ⟨rfl,hs⟩:=hs
   refine zb ?_
   refine zg (λh=>?_) λh=>?_
   ·rw [if_pos h]
    refine zl hs λw' hs=>?_
    refine ze hs ?_
    exact ⟨rfl,rfl,hs.sub⟩
   ·rw [if_neg h]
    refine zl hs λw' hs=>?_
    refine ze hs ?_
    exact ⟨rfl,rfl,hs.sub⟩
  rw [if_neg h]
  refine ze hs ?_
  refine z8 (zi4 b hs) λ_ _ hs=>?_
  obtain ⟨rfl,hs⟩:=hs
  refine zb ?_
  have hs:Sat _ (tb t A::pt a26 (.cells #[.int .i64 x.pid,.int .i64 x.epoch,.int .i64 x.seq,.int .i64 x.count,.int .i64 x.base,.int .i64 x.frm,.int .i64 x.time] T.a5)::pt a1 (.cells #[.bool false,.int .i64 0] T.a7) ::
   pt a0 (.cells #[.int .i64 b.base,.int .i64 b.pid,.int .i64 b.epoch,.int .i64 b.seq,.int .i64 b.kind,.int .i64 b.time,.slice b.x.a b.x.len b.x.cap] T.a0)::r):=hs.sub
  refine zk (λ_ w'=>¬ (z0h b=false/\(z8i x b).2=true)/\Sat w' (tb t A::pt a26 (.cells #[.int .i64 x.pid,.int .i64 x.epoch,.int .i64 x.seq,.int .i64 x.count,.int .i64 x.base,.int .i64 x.frm,.int .i64 x.time] T.a5)::pt a1 (.cells #[.bool false,.int .i64 0] T.a7) ::
   pt a0 (.cells #[.int .i64 b.base,.int .i64 b.pid,.int .i64 b.epoch,.int .i64 b.seq,.int .i64 b.kind,.int .i64 b.time,.slice b.x.a b.x.len b.x.cap] T.a0)::r)) ?_ ?_
  ·refine zg (λh=>?_) λh=>?_
   ·refine ze hs ?_
    refine ze hs ?_
    refine z8 (zzu x b ⟨by omega,by omega⟩ hnum.2.2.2.2.1 hl64 hs) λ_ _ hs=>?_
    obtain ⟨rfl,hs⟩:=hs
    refine zb ?_
    refine zm hs λa67 w' hs=>?_
    refine zl hs λw' hs=>?_
    refine wp_lt ?_
    refine zg (λh2=>?_) λh2=>?_
    ·rw [if_pos ⟨by simpa using h,h2⟩]
     refine ze hs ?_
     refine zl hs λw' hs=>?_
     refine ze hs ?_
     refine zn ?_
     exact ⟨rfl,rfl,hs.sub⟩
    ·exact zf ⟨λe=>h2 e.2,hs.sub⟩
   ·exact zf ⟨λe=>h (by rw [e.1];simp),hs⟩
  clear hs
  rintro _ w ⟨hno,hs⟩
  refine zj ?_
  rw [if_neg hno]
  refine ze hs ?_
  refine ze hs ?_
  refine z8 (zzx x (z5i A b.pid).isSome b ⟨by omega,by omega⟩ hs) λ_ _ hs=>?_
  obtain ⟨rfl,hs⟩:=hs
  refine zb ?_
  refine zl hs λw' hs=>?_
  refine wp_lt ?_
  refine ze hs ?_
  exact ⟨rfl,rfl,hs.sub⟩
end
def z94 (A:TabA) (b:BatM):Int:=match z5i A b.pid with
 | none=>b.time
 | some r=>if r.time>b.time then r.time else b.time
def z6s (A:TabA) (b:BatM):Int:=if b.kind=1/\(z0q A b.pid).frm<0 then b.base else (z0q A b.pid).frm
def z47 (A:TabA) (b:BatM):RowA:=if z0h b then ⟨b.pid,b.epoch+1,0,0,0,-1,z94 A b⟩ else ⟨b.pid,b.epoch,b.seq,b.rs.length,b.base,z6s A b,z94 A b⟩
def z7o (pid:Int) (rs:List RowA):List RowA:=rs.filter λr=>!decide (r.pid=pid)
def z8z (x:RowA) (rs:List RowA):List RowA:=rs.filter (λr=>decide (r.pid<x.pid))++x::rs.filter (λr=>decide (x.pid<r.pid))
def z5g (A:TabA) (b:BatM):TabA:=⟨A.most,b.base+zq b,if b.pid=0 then A.rows else z8z (z47 A b) A.rows⟩
def zkb (A:TabA) (b:BatM):Int × TabA :=
 if (z1t A b).2≠0 then ((z1t A b).2,A) else if (z1t A b).1.again then (4,A) else if b.base<A.next then (8,A) else (0,z5g A b)
theorem zlz (x:RowA) (rs:List RowA):(z8z x rs).Perm (x::z7o x.pid rs):=by
 unfold z8z z7o
 refine List.perm_middle.trans (.cons _ ?_)
 have h:=List.filter_append_perm (λr:RowA=>decide (r.pid<x.pid)) (rs.filter λr=>!decide (r.pid=x.pid))
 rw [List.filter_filter,List.filter_filter] at h
 have e1:rs.filter (λr=>decide (r.pid<x.pid))=rs.filter (λr=>decide (r.pid<x.pid) && !decide (r.pid=x.pid)):=List.filter_congr λr _=>by
  rw [Bool.eq_iff_iff];simp;omega
 have e2:rs.filter (λr=>decide (x.pid<r.pid))=rs.filter (λr=>!decide (r.pid<x.pid) && !decide (r.pid=x.pid)):=List.filter_congr λr _=>by
  rw [Bool.eq_iff_iff];simp;omega
 rw [e1,e2];exact h
theorem zsr {x:RowA} {rs:List RowA} (h:rs.Pairwise λa b=>a.pid<b.pid):(z8z x rs).Pairwise λa b=>a.pid<b.pid:=by
 unfold z8z
 rw [List.pairwise_append,List.pairwise_cons]
 refine ⟨h.filter _,⟨λr hr=>?_,h.filter _⟩,λa ha c hc=>?_⟩
 ·simpa using (List.mem_filter.1 hr).2
 ·have h1:a.pid<x.pid:=by simpa using (List.mem_filter.1 ha).2
  rcases List.mem_cons.1 hc with rfl|hc
  ·exact h1
  ·have h2:x.pid<c.pid:=by simpa using (List.mem_filter.1 hc).2
   omega
theorem zdm {pid:Int} {rs:List RowA} (h:∀ r ∈ rs,r.pid≠pid):z7o pid rs=rs:=List.filter_eq_self.2 λr hr=>by simp [h r hr]
theorem zah {x:RowA}:∀ {rs:List RowA},x ∈ rs->(rs.Pairwise λa b=>a.pid<b.pid)->rs.Perm (x::z7o x.pid rs)
 | y::rs,hx,h=>by
  rw [List.pairwise_cons] at h
  unfold z7o
  rw [List.filter_cons]
  rcases List.mem_cons.1 hx with rfl|hx
  ·rw [if_neg (by simp)]
   have:=zdm (pid:=x.pid) (rs:=rs) (λr hr=>by have:=h.1 r hr;omega)
   unfold z7o at this
   rw [this]
  ·have h1:=h.1 x hx
   rw [if_pos (by simp;omega)]
   exact ((zah hx h.2).cons y).trans (.swap _ _ _)
theorem zsi {a b:List RowA} (h:a.Perm b):(z96 a).Perm (z96 b):=h.filter _
theorem zgb {a b:List RowA} (h:a.Perm b) (ha:(z96 a).Pairwise λx y=>x.frm≠y.frm):(z96 b).Pairwise λx y=>x.frm≠y.frm :=
 (List.Perm.pairwise_iff (λ{x y} h=>Ne.symm h) (zsi h)).1 ha
theorem zel {A:TabA} {b:BatM} (h1:(z1t A b).2=0) (h2:(z1t A b).1.again=false):z04 b=0/\(b.pid≠0->(z0q A b.pid).epoch<=b.epoch/\¬ (z0h b=false/\(z8i (z0q A b.pid) b).2=true)/\zb3 A (z0q A b.pid) (z5i A b.pid).isSome b=0):=by
 unfold z1t at h1 h2
 split at h1
 ·rename_i h
  rw [if_pos h] at h2
  refine ⟨h1,λhp=>absurd h (λh=>h.elim (λh=>h h1) hp)⟩
 rename_i h
 rw [if_neg h] at h2
 have hv:z04 b=0:=Decidable.not_not.1 λe=>h (.inl e)
 refine ⟨hv,λhp=>?_⟩
 split at h1
 ·rename_i h3
  rw [if_pos h3] at h2
  split at h1
  ·rename_i h4;rw [if_pos h4] at h2;cases h2
  ·cases h1
 rename_i h3
 rw [if_neg h3] at h2
 split at h1
 ·rename_i h4
  rw [if_pos h4] at h2
  obtain ⟨-,h4⟩:=h4
  unfold z8i at h2 h4
  split at h4
  ·cases h4
  ·rename_i h5
   rw [if_neg h5] at h2
   split at h2 <;> cases h2
 ·rename_i h4
  exact ⟨by omega,h4,h1⟩
theorem zs3 {A:TabA} {x:RowA} {there:Bool} {b:BatM} (h:zb3 A x there b=0):¬ (0<=x.frm/\(b.epoch>x.epoch\/b.kind=0))/\¬ (z0h b=false/\b.seq≠(if b.epoch>x.epoch then 0 else x.seq+x.count))/\(there=false->(A.rows.length:Int)<A.most):=by
 unfold zb3 at h
 by_cases h1:0<=x.frm/\(b.epoch>x.epoch\/b.kind=0)
 ·rw [if_pos h1] at h;cases h
 rw [if_neg h1] at h
 by_cases h2:z0h b=false/\b.seq≠(if b.epoch>x.epoch then 0 else x.seq+x.count)
 ·rw [if_pos h2] at h;cases h
 rw [if_neg h2] at h
 by_cases h3:there=false/\(A.rows.length:Int)>=A.most
 ·rw [if_pos h3] at h;cases h
 exact ⟨h1,h2,λe=>by rcases Int.lt_or_le (A.rows.length:Int) A.most with h|h;exact h;exact absurd ⟨e,h⟩ h3⟩
theorem zm5 (A:TabA) (b:BatM):(z47 A b).pid=b.pid:=by unfold z47;split <;> rfl
theorem z03w {A:TabA} (hok:okTb A) {b:BatM} (hb:0<=b.time/\b.time<=1099511627776):0<=z94 A b/\z94 A b<=1099511627776:=by
 unfold z94
 split
 ·exact hb
 ·rename_i r hr
  have:=(hok.row r (z2n hr).1).time
  split <;> omega
theorem z040 {A:TabA} {b:BatM} (hok:okTb A) (h1:(z1t A b).2=0) (h2:(z1t A b).1.again=false) (h3:A.next<=b.base):okTb (z5g A b):=by
 obtain ⟨hv,hj⟩:=zel h1 h2
 obtain ⟨hs1,hs2,hnum,hfit,hnx⟩:=z17 b hv
 have hn0:=hok.next
 by_cases hp0:b.pid=0
 ·have e:z5g A b=⟨A.most,b.base+zq b,A.rows⟩:=by unfold z5g;rw [if_pos hp0]
  rw [e]
  exact ⟨hok.most,⟨by show 0<=b.base+zq b;omega,by show b.base+zq b<=_;omega⟩,hok.many,λr hr=>by
   have h:=hok.row r hr
   exact ⟨h.pid,h.epoch,h.time,h.count,h.seq,h.base,h.frm,h.none_,λhc=>by have:=h.some_ hc;show _/\_/\_<=b.base+zq b/\_;omega⟩,hok.byPid,hok.apart⟩
 obtain ⟨hje,-,hfr⟩:=hj hp0
 obtain ⟨hf1,hf2,hf3⟩:=zs3 hfr
 have e:z5g A b=⟨A.most,b.base+zq b,z8z (z47 A b) A.rows⟩:=by unfold z5g;rw [if_neg hp0]
 have hpp:=zlz (z47 A b) A.rows
 rw [zm5] at hpp
 obtain ⟨hnk,hnb,hnp,hne,hns,hnt⟩:=hnum
 have hlate:=z03w hok hnt
 have hF:=zi1 hok b.pid
 have hfrm:(z0q A b.pid).frm<A.next:=by
  unfold z0q
  cases h:z5i A b.pid with
  | none=>show (-1:Int)<_;omega
  | some y =>
   have hy:=hok.row y (z2n h).1
   show y.frm<A.next
   rcases Int.lt_or_le 0 y.count with hc|hc
   ·have:=hy.some_ hc;omega
   ·have:=hy.none_ (by have:=hy.count;omega);omega
 have hokN:okRw (z47 A b) (b.base+zq b):=by
  unfold z47
  by_cases hm:z0h b=true
  ·rw [if_pos hm]
   exact ⟨by show 1<=b.pid/\b.pid<=_;omega,by show 0<=b.epoch+1/\b.epoch+1<=_;omega,hlate,by show (0:Int)<=0/\(0:Int)<=64;omega,Int.le_refl _,Int.le_refl _,Int.le_refl _,λ_=>⟨rfl,rfl,rfl⟩,λh=>absurd h (by show ¬ (0:Int)<0;omega)⟩
  ·rw [if_neg hm]
   have hm:z0h b=false:=by simpa using hm
   have hlen:zq b=b.rs.length:=by unfold zq;rw [hm];rfl
   have hseq:b.seq+b.rs.length<=2147483648:=by
    unfold z04 at hv
    split at hv
    ·cases hv
    split at hv
    ·cases hv
    split at hv
    ·rename_i h;exact absurd hv h
    split at hv
    ·cases hv
    ·rename_i h
     rcases Int.lt_or_le 2147483647 (b.seq+(zq b-1)) with h9|h9
     ·exact absurd (.inr ⟨by omega,hm,by omega⟩) h
     ·omega
   have hfrm2 : -1<=z6s A b/\z6s A b<=b.base:=by
    unfold z6s
    split
    ·omega
    ·omega
   exact ⟨by show 1<=b.pid/\b.pid<=_;omega,by show 0<=b.epoch/\b.epoch<=_;omega,hlate,by show (0:Int)<=b.rs.length/\(b.rs.length:Int)<=64;omega,hns.1,hnb.1,hfrm2.1,λh=>absurd h (by show ¬ (b.rs.length:Int)=0;omega),λ_=>by
    show b.epoch<=_/\b.seq+(b.rs.length:Int)<=_/\b.base+(b.rs.length:Int)<=b.base+zq b/\z6s A b<=b.base
    omega⟩
 have hrest:z7o b.pid A.rows ⊆ A.rows:=λr hr=>(List.mem_filter.1 hr).1
 rw [e]
 refine ⟨hok.most,⟨by show 0<=b.base+zq b;omega,by show b.base+zq b<=_;omega⟩,?_,λr hr=>?_,zsr hok.byPid,?_⟩
 ·show ((z8z (z47 A b) A.rows).length:Int)<=A.most
  rw [hpp.length_eq,List.length_cons]
  cases h:z5i A b.pid with
  | none =>
   have:=hf3 (by rw [h];rfl)
   rw [zdm (zdn h)];omega
  | some y =>
   have h4:=(zah (z2n h).1 hok.byPid).length_eq
   rw [(z2n h).2,List.length_cons] at h4
   have:=hok.many
   omega
 ·have hr:r ∈ z8z (z47 A b) A.rows:=hr
  rcases List.mem_cons.1 (hpp.mem_iff.1 hr) with rfl|hr
  ·exact hokN
  ·have h:=hok.row r (hrest hr)
   exact ⟨h.pid,h.epoch,h.time,h.count,h.seq,h.base,h.frm,h.none_,λhc=>by have:=h.some_ hc;show _/\_/\_<=b.base+zq b/\_;omega⟩
 ·refine zgb hpp.symm ?_
  have hsub:(z96 (z7o b.pid A.rows)).Pairwise λx y=>x.frm≠y.frm:=hok.apart.sublist ((List.filter_sublist).filter _)
  unfold z96
  rw [List.filter_cons]
  split
  rotate_left
  ·exact hsub
  rename_i hop
  have hop:0<=(z47 A b).frm:=by simpa using hop
  rw [List.pairwise_cons]
  refine ⟨λy hy=>?_,hsub⟩
  have hy1:=List.mem_filter.1 hy
  have hy2:0<=y.frm:=by simpa using hy1.2
  have hyr:=hok.row y (hrest hy1.1)
  have hm:¬ z0h b=true:=λhm=>by unfold z47 at hop;rw [if_pos hm] at hop;exact absurd hop (by show ¬ (0:Int) <= -1;omega)
  unfold z47
  rw [if_neg hm]
  show z6s A b≠y.frm
  have hylt:y.frm<A.next:=by
   rcases Int.lt_or_le 0 y.count with hc|hc
   ·have:=hyr.some_ hc;omega
   ·have:=hyr.none_ (by have:=hyr.count;omega);omega
  unfold z6s
  split
  ·omega
  ·rename_i hk
   cases h:z5i A b.pid with
   | none =>
    have:(z0q A b.pid).frm = -1:=by unfold z0q;rw [h];rfl
    omega
   | some z =>
    have hz:z0q A b.pid=z:=by unfold z0q;rw [h];rfl
    rw [hz] at *
    by_cases hzo:0<=z.frm
    ·have h5:=zgb (zah (z2n h).1 hok.byPid) hok.apart
     rw [(z2n h).2] at h5
     unfold z96 at h5
     rw [List.filter_cons,if_pos (by simpa using hzo),List.pairwise_cons] at h5
     exact h5.1 y hy
    ·omega
theorem z05y {A:TabA} (hok:okTb A) (pid:Int):(∃ v0,(z3b A.rows).Perm ((pid,v0)::z3b (z7o pid A.rows)))\/((∀ v,(pid,v) ∉ z3b A.rows)/\z3b (z7o pid A.rows)=z3b A.rows):=by
 rcases zjh A pid with ⟨y,hy,-⟩|⟨hn,hno⟩
 ·left
  refine ⟨y,?_⟩
  have h:=(zah (z2n hy).1 hok.byPid).map λr:RowA=>(r.pid,r)
  rw [(z2n hy).2,List.map_cons,(z2n hy).2] at h
  exact h
 ·right
  exact ⟨hno,by rw [zdm (zdn hn)]⟩
theorem z03u (x:RowA) (rs:List RowA):((x.pid,x)::z3b (z7o x.pid rs)).Perm (z3b (z8z x rs)):=((zlz x rs).map λr:RowA=>(r.pid,r)).symm
theorem zyr {A:TabA} {n:Int} (hok:okTb A) (h1:A.next<=n) (h2:n<=1099511627777):okTb ⟨A.most,n,A.rows⟩ :=
 ⟨hok.most,⟨by have:=hok.next;show 0<=n;omega,h2⟩,hok.many,λr hr=>by
  have h:=hok.row r hr
  exact ⟨h.pid,h.epoch,h.time,h.count,h.seq,h.base,h.frm,h.none_,λhc=>by have:=h.some_ hc;show _/\_/\_<=n/\_;omega⟩,hok.byPid,hok.apart⟩
section
variable {w:World} {l r r1 r2 l':List HP} {t:Nat} {A:TabA}
theorem z04t (b:BatM) [hf:Fo l tb t A r] [hb:FocR r b.x 4 (b.rs.flatMap z00)] (hs:Sat w l) :
  Ret P F.a19 #[.pointer (some ⟨t,0,none⟩),.agg (zr b).toArray] w λvs w'=>vs=[.int .i64 (zkb A b).1]/\Sat w' (tb t (zkb A b).2::r) :=
 zth _ b.base b.pid b.epoch b.seq b.kind b.time b.x <| by
  delta z079 AA AB AC AD AE AF AG AI AM AN AW Aa Ab Ac Ad Ae Ag Ah Ai Aj Ak Ao Ar Au Ax Az BW BX BY Bc Bn Ca;unfold zkb
  have hs:Sat w (tb t A::r):=hs.perm hf.perm
  have hok:=z00k hs
  refine zp hs λa0 w' hs=>?_
  refine ze hs ?_
  refine z8 (zg5 b hs) λ_ _ hs=>?_
  obtain ⟨rfl,hs⟩:=hs
  refine zb ?_
  have hnx:=z040 (b:=b) hok
  have hjf:=zel (A:=A) (b:=b)
  generalize hje:z1t A b=j at *
  obtain ⟨v,e⟩:=j
  refine zm hs λa11 w' hs=>?_
  refine zl hs λw' hs=>?_
  refine wp_lt ?_
  refine wp_lt ?_
  refine zg (λh=>?_) λh=>?_
  ·rw [if_pos h]
   refine wp_lt ?_
   exact ⟨rfl,rfl,hs.sub⟩
  have he:e=0:=Decidable.not_not.1 h
  subst he
  rw [if_neg (by simp)]
  refine za hs ?_
  refine wp_lt ?_
  refine zg (λh=>?_) λh=>?_
  ·rw [if_pos h]
   exact ⟨rfl,rfl,hs.sub⟩
  rw [if_neg h]
  have hag:v.again=false:=by simpa using h
  refine zw hs λw' hs=>?_
  refine za hs ?_
  refine zi ?_
  have hs:Sat w' (tb t A::pt a11 (.cells #[.bool v.again,.int .i64 v.base] T.a7)::pt a0 (.cells #[.int .i64 b.base,.int .i64 b.pid,.int .i64 b.epoch,.int .i64 b.seq,.int .i64 b.kind,.int .i64 b.time,.slice b.x.a b.x.len b.x.cap] T.a0)::r):=hs.sub
  obtain ⟨m,-,hs⟩:=zbf hs
  refine za hs ?_
  refine wp_lt ?_
  refine zd ?_
  refine zg (λh=>?_) λh=>?_
  ·rw [if_pos h]
   exact ⟨rfl,rfl,z3f m hok hs⟩
  rw [if_neg h]
  have hok':=hnx rfl hag (by omega)
  obtain ⟨hv,hj⟩:=hjf rfl hag
  obtain ⟨hs1,hs2,hnum,hfit,hn2⟩:=z17 b hv
  have hne:=hnum.2.2.2.1
  refine ze hs ?_
  refine z8 (z9e b hs) λ_ _ hs=>?_
  obtain ⟨rfl,hs⟩:=hs
  refine zb ?_
  have hnb:z1p b=b.base+zq b:=by unfold z1p;rw [if_neg (by rw [hv];simp)]
  rw [hnb]
  refine zi ?_
  refine z02 hs λw' hs=>?_
  refine za hs ?_
  have hok1:okTb ⟨A.most,b.base+zq b,A.rows⟩:=zyr hok (by omega) hn2
  refine zg (λh0=>?_) λh0=>?_
  ·refine ⟨rfl,rfl,?_⟩
   have e:z5g A b=⟨A.most,b.base+zq b,A.rows⟩:=by unfold z5g;rw [if_pos h0]
   show Sat _ (tb t (z5g A b)::r)
   rw [e]
   exact z3f m hok1 hs
  have e:z5g A b=⟨A.most,b.base+zq b,z8z (z47 A b) A.rows⟩:=by unfold z5g;rw [if_neg h0]
  show _
  refine za hs ?_
  have hs:Sat _ (tb t ⟨A.most,b.base+zq b,A.rows⟩::pt a11 (.cells #[.bool v.again,.int .i64 v.base] T.a7)::pt a0 (.cells #[.int .i64 b.base,.int .i64 b.pid,.int .i64 b.epoch,.int .i64 b.seq,.int .i64 b.kind,.int .i64 b.time,.slice b.x.a b.x.len b.x.cap] T.a0)::r):=z3f m hok1 hs
  refine z8 (zx6 b.pid hs) λ_ _ hs=>?_
  obtain ⟨rfl,hs⟩:=hs
  refine zb ?_
  have eF:z0q ⟨A.most,b.base+zq b,A.rows⟩ b.pid=z0q A b.pid:=rfl
  have eO:z5i ⟨A.most,b.base+zq b,A.rows⟩ b.pid=z5i A b.pid:=rfl
  rw [eF,eO]
  have hFok:=zi1 hok b.pid
  have hkeys:=z05y hok b.pid
  have hkp:=z03u (z47 A b) A.rows
  rw [zm5] at hkp
  refine zm hs λa42 w' hs=>?_
  refine zl hs λw' hs=>?_
  refine wp_lt ?_
  refine za hs ?_
  refine wp_lt ?_
  have hs:Sat _ (tb t ⟨A.most,b.base+zq b,A.rows⟩::pt a42 (.cells #[.int .i64 (z0q A b.pid).pid,.int .i64 (z0q A b.pid).epoch,.int .i64 (z0q A b.pid).seq,.int .i64 (z0q A b.pid).count,.int .i64 (z0q A b.pid).base,.int .i64 (z0q A b.pid).frm,.int .i64 (z0q A b.pid).time] T.a5) ::
   pt a0 (.cells #[.int .i64 b.base,.int .i64 b.pid,.int .i64 b.epoch,.int .i64 b.seq,.int .i64 b.kind,.int .i64 b.time,.slice b.x.a b.x.len b.x.cap] T.a0)::r):=hs.sub
  refine zk (λv w'=>v=(z94 A b,())/\Sat w' (tb t ⟨A.most,b.base+zq b,A.rows⟩::pt a42 (.cells #[.int .i64 (z0q A b.pid).pid,.int .i64 (z0q A b.pid).epoch,.int .i64 (z0q A b.pid).seq,.int .i64 (z0q A b.pid).count,.int .i64 (z0q A b.pid).base,.int .i64 (z0q A b.pid).frm,.int .i64 (z0q A b.pid).time] T.a5) ::
   pt a0 (.cells #[.int .i64 b.base,.int .i64 b.pid,.int .i64 b.epoch,.int .i64 b.seq,.int .i64 b.kind,.int .i64 b.time,.slice b.x.a b.x.len b.x.cap] T.a0)::r)) ?_ ?_
  ·unfold z94 z0q at *
   cases ho:z5i A b.pid with
   | none =>
    rw [ho] at hs
    refine zy ?_ (by simp)
    exact zf ⟨rfl,hs⟩
   | some y =>
    rw [ho] at hs
    refine z0o ?_ (by simp)
    refine za hs ?_
    refine wp_lt ?_
    exact zf ⟨rfl,hs⟩
  clear hs
  rintro _ w ⟨rfl,hs⟩
  refine zj ?_
  refine za hs ?_
  obtain ⟨m,-,hs⟩:=zbf hs
  have hfin:∀ {w:World},Sat w (tb t (z5g A b)::r)->0=0/\([.int .i64 0]:List Value)=[.int .i64 0]/\Sat w (tb t (z5g A b)::r):=λh=>⟨rfl,rfl,h⟩
  refine zk (λ_ w'=>Sat w' (tb t (z5g A b)::r)) ?_ (by rintro _ w' hs;refine zj ?_;exact ⟨rfl,rfl,hs⟩)
  refine zk (λ_ w'=>z0h b=false/\Sat w' (pt t (.cells #[.int .i64 A.most,.int .i64 (b.base+zq b),.map (some m)] T.a6)::z1b ekI evW m (z3b A.rows)::pt a42 (.cells #[.int .i64 (z0q A b.pid).pid,.int .i64 (z0q A b.pid).epoch,.int .i64 (z0q A b.pid).seq,.int .i64 (z0q A b.pid).count,.int .i64 (z0q A b.pid).base,.int .i64 (z6s A b),.int .i64 (z0q A b.pid).time] T.a5) ::
   pt a0 (.cells #[.int .i64 b.base,.int .i64 b.pid,.int .i64 b.epoch,.int .i64 b.seq,.int .i64 b.kind,.int .i64 b.time,.slice b.x.a b.x.len b.x.cap] T.a0)::r)) ?_ ?_
  ·refine wp_lt ?_
   refine zk (λv w'=>v=(z0h b,())/\Sat w' (pt t (.cells #[.int .i64 A.most,.int .i64 (b.base+zq b),.map (some m)] T.a6)::z1b ekI evW m (z3b A.rows)::pt a42 (.cells #[.int .i64 (z0q A b.pid).pid,.int .i64 (z0q A b.pid).epoch,.int .i64 (z0q A b.pid).seq,.int .i64 (z0q A b.pid).count,.int .i64 (z0q A b.pid).base,.int .i64 (z0q A b.pid).frm,.int .i64 (z0q A b.pid).time] T.a5) ::
    pt a0 (.cells #[.int .i64 b.base,.int .i64 b.pid,.int .i64 b.epoch,.int .i64 b.seq,.int .i64 b.kind,.int .i64 b.time,.slice b.x.a b.x.len b.x.cap] T.a0)::r)) ?_ ?_
   ·refine zg (λh=>?_) λh=>?_
    ·exact zf ⟨by unfold z0h;rw [show (b.kind == 2)=true by simpa using h,decide_eq_true (by simpa using h)];rfl,hs⟩
    ·refine wp_lt ?_
     exact zf ⟨by unfold z0h;rw [decide_eq_false (p:=b.kind=2) (by simpa using h)];rfl,hs⟩
   clear hs
   rintro _ w ⟨rfl,hs⟩
   refine zj ?_
   refine zg (λhm=>?_) λhm=>?_
   ·refine zw hs λw' hs=>?_
    refine zi ?_
    refine za hs ?_
    refine za hs ?_
    refine za hs ?_
    refine za hs ?_
    have eN:z47 A b=⟨b.pid,b.epoch+1,0,0,0,-1,z94 A b⟩:=by unfold z47;rw [if_pos hm]
    rw [w64 (x:=b.epoch+1) (by omega) (by omega)]
    refine zbi hs _ hkeys (z47 A b) (λw' hs=>?_) (by rw [eN])
    refine zd ?_
    refine zn (zn ?_)
    exact ⟨rfl,rfl,by show Sat _ (tb t (z5g A b)::r);exact e ▸ z3f m (A:=⟨A.most,b.base+zq b,z8z (z47 A b) A.rows⟩) (e ▸ hok') hs hkp⟩
   have hm:z0h b=false:=by simpa using hm
   refine wp_lt ?_
   refine zg (λh=>?_) λh=>?_
   ·refine ze hs ?_
    refine z8 (zqw (z0q A b.pid) hs) λ_ _ hs=>?_
    obtain ⟨rfl,hs⟩:=hs
    refine zb ?_
    refine zk (λ_ w'=>Sat w' (pt t (.cells #[.int .i64 A.most,.int .i64 (b.base+zq b),.map (some m)] T.a6)::z1b ekI evW m (z3b A.rows)::pt a42 (.cells #[.int .i64 (z0q A b.pid).pid,.int .i64 (z0q A b.pid).epoch,.int .i64 (z0q A b.pid).seq,.int .i64 (z0q A b.pid).count,.int .i64 (z0q A b.pid).base,.int .i64 (z6s A b),.int .i64 (z0q A b.pid).time] T.a5) ::
     pt a0 (.cells #[.int .i64 b.base,.int .i64 b.pid,.int .i64 b.epoch,.int .i64 b.seq,.int .i64 b.kind,.int .i64 b.time,.slice b.x.a b.x.len b.x.cap] T.a0)::r)) ?_ (by rintro _ w' hs;refine zj ?_;exact zf ⟨hm,hs⟩)
    refine zg (λh2=>?_) λh2=>?_
    ·refine za hs ?_
     refine z02 hs λw' hs=>?_
     refine zf ?_
     have:z6s A b=b.base:=by unfold z6s;rw [if_pos ⟨h,by simpa using h2⟩]
     rw [this];exact hs.sub
    ·refine zf ?_
     have:z6s A b=(z0q A b.pid).frm:=by unfold z6s;rw [if_neg (λh3=>h2 (by simpa using h3.2))]
     rw [this];exact hs
   ·refine zf ⟨hm,?_⟩
    have:z6s A b=(z0q A b.pid).frm:=by unfold z6s;rw [if_neg (λh3=>h h3.1)]
    rw [this];exact hs
  clear hs
  rintro _ w ⟨hm,hs⟩
  refine zj ?_
  have hl:=hs.slen b.x (xs:=b.rs) (enc:=z00)
  refine zw hs λw' hs=>?_
  refine zi ?_
  refine za hs ?_
  refine za hs ?_
  refine za hs ?_
  refine za hs ?_
  refine za hs ?_
  refine za hs ?_
  refine za hs ?_
  refine za hs ?_
  have eN:z47 A b=⟨b.pid,b.epoch,b.seq,b.rs.length,b.base,z6s A b,z94 A b⟩:=by unfold z47;rw [if_neg (by rw [hm];simp)]
  refine zbi hs _ hkeys (z47 A b) (λw' hs=>?_) (by rw [eN,hl])
  refine zd ?_
  refine zf ?_
  exact e ▸ z3f m (A:=⟨A.most,b.base+zq b,z8z (z47 A b) A.rows⟩) (e ▸ hok') hs hkp
end
abbrev ekK (k:Int × Int):Value:=.agg #[.int .i64 k.1,.int .i64 k.2]
theorem z03e (a b:Int × Int) (w:World):(Op.equal T.a17 (ekK a) (ekK b)).run P w=.ok (a.1 == b.1 && a.2 == b.2) w :=
 zl1 10000 (t:=T.a17) (x:=ekK a) (y:=ekK b) (by kernel_rfl) w
theorem zih {P:Program} {t:TypeId} {q k:IntKind} (hu:P.underlying t=some (.int q)) (e:Bool) (n:Nat) (v:Int) (w:World):(Instr.checkKey e (n+1) t (.int k v)).run P w=.ok () w:=by
 simp [Instr.checkKey,run_underlying hu]
theorem zrm {P:Program} {t:TypeId} {f0 f1:Field} {q0 q1 k0 k1:IntKind} (hu:P.underlying t=some (.struct #[f0,f1])) (h0:P.underlying f0.type=some (.int q0)) (h1:P.underlying f1.type=some (.int q1)) (o0:f0.offset=0) (o1:f1.offset=1)
  (n0 : ¬ f0.name = "_") (n1 : ¬ f1.name = "_") (e : Bool) (n : Nat) (a b : Int) (w : World) : (Instr.checkKey e (n + 2) t (.agg #[.int k0 a, .int k1 b])).run P w = .ok () w := by
 have p0:(part f0.type #[Value.int k0 a,.int k1 b] f0.offset).run P w=.ok (.int k0 a) w:=run_part_plain w (by simp [Program.plainKey,h0]) (by rw [o0];rfl)
 have p1:(part f1.type #[Value.int k0 a,.int k1 b] f1.offset).run P w=.ok (.int k1 b) w:=run_part_plain w (by simp [Program.plainKey,h1]) (by rw [o1];rfl)
 have c0:=zih (k:=k0) h0 e n a w
 have c1:=zih (k:=k1) h1 e n b w
 rw [show n+2=(n+1)+1 from rfl,Instr.checkKey]
 simp only [Sem.run_bind,run_underlying hu,Result.andThen_ok]
 rw [<- Array.forIn_toList]
 simp only [List.forIn_cons,List.forIn_nil,Sem.run_bind,n0,n1,ne_eq,not_false_eq_true,if_true,Result.andThen_ok,p0,p1,c0,c1,Sem.run_pure]
theorem zvk (e:Bool) (k:Int × Int) (w:World):(Instr.checkKey e 10000 T.a17 (ekK k)).run P w=.ok () w :=
 zrm (P:=P) (q0:=.i64) (q1:=.i64) Go.Proofs.Tryz.underlying298 (by kernel_rfl) (by kernel_rfl) rfl rfl (by decide) (by decide) e 9998 k.1 k.2 w
theorem zir (k:Int × Int) (w:World):∀ (es:List MapEntry) (i:Nat),(∀ e ∈ es,∃ k',e.key=ekK k') ->
  (∃ (j:Nat) (e:MapEntry),es[j]? = some e/\e.key=ekK k/\(Instr.findAsking T.a17 (ekK k) es i).run P w=.ok (some (i+j,e.val)) w) \/
  ((∀ e ∈ es,e.key≠ekK k)/\(Instr.findAsking T.a17 (ekK k) es i).run P w=.ok none w)
 | [],i,_=>.inr ⟨by simp,by simp [Instr.findAsking,Sem.run_pure]⟩
 | e::es,i,h=>by
  obtain ⟨k',hk'⟩:=h e (List.mem_cons_self ..)
  have hrun:(Instr.findAsking T.a17 (ekK k) (e::es) i).run P w=(if (k.1 == k'.1 && k.2 == k'.2)=true then (pure (some (i,e.val)):Sem (Option (Nat × Value))) else Instr.findAsking T.a17 (ekK k) es (i+1)).run P w:=by
   rw [Instr.findAsking]
   simp only [Sem.run_bind,hk',z03e,Result.andThen_ok]
  by_cases hk:k=k'
  ·subst hk
   refine .inl ⟨0,e,rfl,hk',?_⟩
   rw [hrun,if_pos (by simp)];rfl
  ·have hne:¬ (k.1 == k'.1 && k.2 == k'.2)=true:=λh2=>hk (by
    simp only [Bool.and_eq_true,beq_iff_eq] at h2
    exact Prod.ext h2.1 h2.2)
   rcases zir k w es (i+1) (λe he=>h e (List.mem_cons_of_mem _ he)) with ⟨j,e',h1,h2,h3⟩|⟨h1,h2⟩
   ·exact .inl ⟨j+1,e',h1,h2,by rw [hrun,if_neg hne,h3,Nat.add_assoc,Nat.add_comm 1 j]⟩
   ·refine .inr ⟨λe' he'=>?_,by rw [hrun,if_neg hne,h2]⟩
    rcases List.mem_cons.1 he' with rfl|he'
    ·rw [hk']
     intro h4
     injection h4 with h4
     simp at h4
     exact hk (Prod.ext h4.1.symm h4.2.symm)
    ·exact h1 e' he'
instance:KeyT P T.a17 ekK where
 inj a b h:=by
  injection h with h4
  simp at h4
  exact Prod.ext h4.1 h4.2
 same a:=by
  show (_ && _)=true
  simp [Instr.sameBits]
 check:=zvk
 find es k w h:=by
  have e:=run_findKey_eq (P:=P) w (k:=T.a17) (by kernel_rfl) (ekK k) es
  rcases zir k w es 0 h with ⟨j,e',h1,h2,h3⟩|⟨h1,h2⟩
  ·exact .inl ⟨j,e',h1,h2,by rw [e,h3,Nat.zero_add]⟩
  ·exact .inr ⟨h1,by rw [e,h2]⟩
instance:KeyT P T.a14 ekI:=zle (by kernel_rfl)
instance IsK.key {a b:Int}:IsK ekK (.agg #[.int .i64 a,.int .i64 b]) (a,b):=⟨rfl⟩
instance:MapT P T.a20 T.a14 (.agg #[.int .i64 0,.int .i64 0,.int .i64 0,.int .i64 0]):=⟨T.a18,by kernel_rfl,by kernel_rfl⟩
instance:MapT P T.a21 T.a17 (.agg #[.int .i64 0,.int .i64 0,.int .i64 0,.int .i64 0]):=⟨T.a18,by kernel_rfl,by kernel_rfl⟩
end Go.Dec
