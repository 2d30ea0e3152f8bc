/- What the claim of this folder leans on: our own texts, joined, without what it does not use. -/
import Derived.Test.YtgpcickgjngglaaGreatRows
import Derived.WalkKit
import Derived.ProofKit
import Derived.OpenShut
import Derived.RowKit3
import Derived.OrdersHeld
import Derived.Scope
import Derived.KernelRfl
import Derived.Laws.Sem
import Derived.Laws.StructEq
import Derived.Deep.AppendSrc
import Derived.Laws.BytesArg
import Derived.Laws.RangeString
import Derived.Maps.RangeRun
import Derived.Lib.ConvBytes
import Derived.Lib.SlBytesConst
import Derived.ChangeSlices
import Derived.ChangeMaps5
import Derived.ChangeSame
import Derived.Deep.Slices
import Derived.Deep.Fields
import Derived.Test.YtgpcickgjngglaaGreatProg
import Derived.Laws.MakeOwn
import Derived.WideKeyRuns
import Derived.DeepKeys3
import Derived.Sort.MapsRangeIn
import Derived.Sort.KeysCollected
import Derived.RangeFuncNested
import Derived.RangeFuncBound
import Derived.RangeFuncCalls
import Derived.RangeFuncLeaves
import Derived.RangeFuncBox
import Derived.OwnWalkIn
import Derived.TacticsInMore
import Derived.RegionIn
import Derived.LoopNIn
import Derived.LoopIn
import Derived.Maps.AppendAt
import Derived.Shelf.Abstract
import Derived.Shelf.Sort.Plain
import Derived.Shelf.Slices.In.SortNone
import Derived.Test.YtgpcickgjngglaaGreatQONil1
import Derived.Test.YtgpcickgjngglaaGreatQONil2
import Derived.Test.YtgpcickgjngglaaGreatQONil3
import Derived.Test.YtgpcickgjngglaaGreatQONil4
import Derived.Test.YtgpcickgjngglaaGreatQONil5
set_option linter.unusedVariables false
set_option linter.unusedSimpArgs false
namespace Go.Dec
def z023 (pid epoch:Int) (time:Int):Prog :=
AQ F.a95 [Aq none,Ai pid,Ai epoch,Ai 0,Ai time,.slice none 0 0] λb0 n1=>
AM b0 λb2=>
Ag n1 λn3=>
AQ F.a93 [Aq none,Ai pid,Ai epoch,.bool true,Ai time] λb4 n5=>
AM b4 λb6=>
Ag n5 λn7=>
BK F.a91 [Aq none,Ai time] λn8 n9=>
Ag n8 λn10=>
Ag n9 λn11=>
BU F.a94 [Aq none,Ai epoch] λn12 n13 n14 n15 b16=>
AB T.a24 λa17=>
AC T.a24 a17 (BE n12 n13 n14 n15)<|
AM b16 λb18=>
AK 1 (
Ac (not b2 && not b6 && n10 == 0 && not b18 && n3 == 1 && n7 == 1 && n11 == 1) (
An F.a89 [Aq none] λl19=>
Ac ((Ad l19) == 0) (
An F.a96 [Aq none] λl20=>
Ac ((Ad l20) == 0) (
An F.a90 [Aq none] λl21=>
Ac ((Ad l21) == 0) (
An F.a92 [Aq none] λl22=>
Ac ((Ad l22) == 0) (
Ar F.a226 [] λb23=>
AM b23 λb24=>
Ah 1 [.bool b24])<|
Ah 1 [.bool false])<|
Ah 1 [.bool false])<|
Ah 1 [.bool false])<|
Ah 1 [.bool false])<|
Ah 1 [.bool false]) λb25=>
Ah 0 [.bool b25]
theorem zot (pid epoch time:Int):FnS (z023 pid epoch time) F.a225 #[.int .i64 pid,.int .i64 epoch,.int .i64 time]:=dV ⟨[],[],[(6,[(6,.one .bool)])],[]⟩ Go.Proofs.Tryz.func10 (by kernel_rfl)
def z002 (c_0 c_1 c_2 c_3:Int) (time:Int):Prog :=
Ao T.a24 (BE c_0 c_1 c_2 c_3) λa0=>
AB T.a2 λa1=>
BF T.a24 a0 λn2 n3 n4 n5=>
Ar F.a88 [BE n2 n3 n4 n5] λb6=>
Ac (not b6 || decide (time<0) || decide (time>1099511627776)) (
AC T.a2 a1 (.agg #[.string (ByteArray.mk #[]),.string (ByteArray.mk #[]),.bool false,Ai 0])<|
AH T.a2 a1 λs7 s8 b9 n10=>
Ah 0 [AG s7 s8 b9 n10,Ai 2])<|
Ak 1 (
AT<|
Az T.a14 a0 1 λn11=>
AY T.a13 a0 2 λn12=>
AY T.a13 a0 3 λn13=>
An F.a242 [.int .u64 (IntKind.wrap .u64 n11)] λl14=>
An F.a242 [.int .u64 (IntKind.wrap .u64 n12)] λl15=>
AU<|
An F.a242 [.int .u64 (IntKind.wrap .u64 n13)] λl16=>
Aj (Instr.buildSlice T.a48 3 #[(0,l14.v),(1,l15.v),(2,l16.v)]) λl17=>
An F.a230 [l17.v] λl18=>
AU<|
Ah 1 [l18.v]) λl19=>
Aa 1 (
AT<|
Az T.a13 a0 0 λn20=>
B0 (convert T.a50 T.a55 l19.v) λs21=>
AP F.a102 [Ai n20] λs22=>
AU<|
AC T.a2 a1 (AG s22 s21 false time)<|
AU<|
Ah 1 [Ai 0]) λn23=>
AH T.a2 a1 λs24 s25 b26 n27=>
Ah 0 [AG s24 s25 b26 n27,Ai n23]
theorem zmt (c_0 c_1 c_2 c_3 time:Int):FnS (z002 c_0 c_1 c_2 c_3 time) F.a100 #[.agg #[.int .i64 c_0,.int .i64 c_1,.int .i64 c_2,.int .i64 c_3],.int .i64 time]:=dV ⟨[],[],[(3,[(6,.one .slc)]),(4,[(5,.one (.int .i64))])],[]⟩ Go.Proofs.Tryz.func19 (by kernel_rfl)
def z001 (r_0 r_1:ByteArray) (r_2:Bool) (r_3:Int):Prog :=
Ao T.a2 (AG r_0 r_1 r_2 r_3) λa0=>
AB T.a24 λa1=>
Bh T.a55 a0 0 λs2=>
Bz ((((ByteArray.size s2:Nat):Int) != 4)=false) T.a3 a0 2 λb3=>
Ac (((ByteArray.size s2:Nat):Int) != 4 || b3) (
AC T.a24 a1 (BE 0 0 0 0)<|
BF T.a24 a1 λn4 n5 n6 n7=>
Ah 0 [BE n4 n5 n6 n7,Ai 6])<|
AB T.a24 λa8=>
AC T.a24 a8 (BE 0 0 0 0)<|
Bh T.a55 a0 0 λs9=>
.must ((0:Int)<=1/\1<=((ByteArray.size s9:Nat):Int)) <|
Aj (convert T.a55 T.a50 (.string (ByteArray.extract s9 1 (ByteArray.size s9)))) λl10=>
Ax 1 (
AV 2 (0,()) λn11=>
Ac (decide (n11<(Ad l10))) (
.ex [.adr] (c1 λa12=>0<=n11/\n11<(Ad l10)/\l10.a=some a12) (u1 λa13=>
Bc T.a56 a13 (Int.toNat n11*1) λn14=>
Bd n14 λn15=>
Ac (decide (n15<48) || decide (n15>57)) (
AC T.a24 a1 (BE 0 0 0 0)<|
BF T.a24 a1 λn16 n17 n18 n19=>
Ah 0 [BE n16 n17 n18 n19,Ai 6])<|
Az T.a13 a8 0 λn20=>
Be T.a13 a8 0 (Ai (Af (Af (n20*10)+Af (IntKind.wrap .u8 (n15-48)))))<|
Ah 2 [Ai (Af (n11+1))]))<|
Ah 1 [])<|
Bh T.a55 a0 1 λs21=>
Aj (convert T.a55 T.a50 (.string s21)) λl22=>
Bj F.a231 [l22.v] λp23=>
Av F.a238 [Aq p23] λn24=>
Av F.a238 [Aq p23] λn25=>
Av F.a238 [Aq p23] λn26=>
Am n24 λn27=>
Am n25 λn28=>
Am n26 λn29=>
Aw F.a233 [Aq p23] λn30=>
Ac (n30 != 0 || decide (n27>1099511627776) || decide (n28>64) || decide (n29>2147483647)) (
AC T.a24 a1 (BE 0 0 0 0)<|
BF T.a24 a1 λn31 n32 n33 n34=>
Ah 0 [BE n31 n32 n33 n34,Ai 6])<|
Be T.a14 a8 1 (Ai (Af n27))<|
Be T.a13 a8 2 (Ai (Af n28))<|
Be T.a13 a8 3 (Ai (Af n29))<|
AK 1 (
AT<|
BF T.a24 a8 λn35 n36 n37 n38=>
Ar F.a88 [BE n35 n36 n37 n38] λb39=>
.hold (not b39=false) (ld T.a55 (Addr.add a0 0)) sS (u1 λs40=>
Bb (not b39=false) T.a13 a8 0 λn41=>
Ac (not b39) (
AU<|
Ah 1 [.bool true])<|
AP F.a102 [Ai n41] λs42=>
AU<|
Ah 1 [.bool (not (ByteArray.toList s40 == ByteArray.toList s42))])) λb43=>
Ac b43 (
AC T.a24 a1 (BE 0 0 0 0)<|
BF T.a24 a1 λn44 n45 n46 n47=>
Ah 0 [BE n44 n45 n46 n47,Ai 6])<|
BF T.a24 a8 λn48 n49 n50 n51=>
AC T.a24 a1 (BE n48 n49 n50 n51)<|
BF T.a24 a1 λn52 n53 n54 n55=>
Ah 0 [BE n52 n53 n54 n55,Ai 0]
theorem zms (r_0 r_1:ByteArray) (r_2:Bool) (r_3:Int):FnS (z001 r_0 r_1 r_2 r_3) F.a99 #[.agg #[.string r_0,.string r_1,.bool r_2,.int .i64 r_3]]:=dV ⟨[],[(0,[])],[(16,[(91,.one .bool)])],[(0,[(26,.one (.int .i64))])]⟩ Go.Proofs.Tryz.func22 (by kernel_rfl)
def z8h  : Prog :=
.act (new T.a24) sA (u1 λa0 =>
.actU (st T.a24 a0 (.agg #[.int .i64 7,.int .i64 300,.int .i64 2,.int .i64 5])) <|
.read True (ld T.a24 a0) (sG [.int .i64,.int .i64,.int .i64,.int .i64]) (u4 λ(n1 n2 n3 n4:Int) =>
.call F.a100 [.agg #[.int .i64 n1,.int .i64 n2,.int .i64 n3,.int .i64 n4],.int .i64 9] (.tup [.agg [.str,.str,.bool,.int .i64],.one (.int .i64)]) (u5 λs5 s6 b7 (n8 n9:Int) =>
.act (new T.a2) sA (u1 λa10 =>
.actU (st T.a2 a10 (.agg #[.string s5,.string s6,.bool b7,.int .i64 n8])) <|
.lt (.int .i64) (n9) λ(n11:Int) =>
.call F.a47 [.int .i64 65536] (.tup [.one .ptr,.one (.int .i64)]) (u2 λp12 (n13:Int) =>
.lt (.int .i64) (n13) λ(n14:Int) =>
.call F.a227 [.int .i64 0] (sG [.int .i64,.int .i64,.int .i64]) (u3 λ(n15 n16 n17:Int) =>
.call F.a98 [.pointer p12,.string (ByteArray.mk #[111]),.agg #[.int .i64 n15,.int .i64 n16,.int .i64 n17]] (.tup [.one .ptr,.one (.int .i64)]) (u2 λp18 (n19:Int) =>
.lt (.int .i64) (n19) λ(n20:Int) =>
.read ((n11 != 0)=false) (ld T.a55 (Addr.add a10 0)) sS (u1 λs21 =>
.read ((n11 != 0 || not (ByteArray.toList s21 == ByteArray.toList (ByteArray.mk #[111,48,48,55])))=false) (ld T.a55 (Addr.add a10 1)) sS (u1 λs22 =>
.ite (n11 != 0 || not (ByteArray.toList s21 == ByteArray.toList (ByteArray.mk #[111,48,48,55])) || not (ByteArray.toList s22 == ByteArray.toList (ByteArray.mk #[172,2,2,5])) || n20 != 0 || Option.isNone p18) (
.done 0 [.bool false]) (
.read True (ld T.a24 a0) (sG [.int .i64,.int .i64,.int .i64,.int .i64]) (u4 λ(n23 n24 n25 n26:Int) =>
.act (Instr.buildSlice T.a44 1 #[(0,.agg #[.int .i64 n23,.int .i64 n24,.int .i64 n25,.int .i64 n26])]) sL (u1 λl27 =>
.call F.a95 [.pointer p18,.int .i64 3,.int .i64 0,.int .i64 0,.int .i64 9,l27.v] (.tup [.one .bool,.one (.int .i64)]) (u2 λb28 (n29:Int) =>
.lt (.bool) (b28) λb30 =>
.lt (.int .i64) (n29) λ(n31:Int) =>
.call F.a94 [.pointer p18,.int .i64 7] (.tup [.agg [.int .i64,.int .i64,.int .i64,.int .i64],.one .bool]) (u5 λ(n32 n33 n34 n35:Int) b36 =>
.act (new T.a24) sA (u1 λa37 =>
.actU (st T.a24 a37 (.agg #[.int .i64 n32,.int .i64 n33,.int .i64 n34,.int .i64 n35])) <|
.lt (.bool) (b36) λb38 =>
.call F.a96 [.pointer p18] sL (u1 λl39 =>
.call F.a93 [.pointer p18,.int .i64 3,.int .i64 0,.bool true,.int .i64 9] (.tup [.one .bool,.one (.int .i64)]) (u2 λb40 (n41:Int) =>
.lt (.bool) (b40) λb42 =>
.lt (.int .i64) (n41) λ(n43:Int) =>
.call F.a94 [.pointer p18,.int .i64 7] (.tup [.agg [.int .i64,.int .i64,.int .i64,.int .i64],.one .bool]) (u5 λ(n44 n45 n46 n47:Int) b48 =>
.act (new T.a24) sA (u1 λa49 =>
.actU (st T.a24 a49 (.agg #[.int .i64 n44,.int .i64 n45,.int .i64 n46,.int .i64 n47])) <|
.lt (.bool) (b48) λb50 =>
.ex [.adr] (c1 λa51=>(not b30 && n31 == 0 && not b38 && ((l39.len:Nat):Int) == 1)=true->(0:Int)<=0/\0<((l39.len:Nat):Int)/\l39.a=some a51) (u1 λa52 =>
.read ((not b30 && n31 == 0 && not b38 && ((l39.len:Nat):Int) == 1)=true) (ld T.a14 (Addr.add (Addr.add (Addr.add a52 0) 2) 1)) (sI .i64) (u1 λ(n53:Int) =>
.read ((not b30 && n31 == 0 && not b38 && ((l39.len:Nat):Int) == 1 && n53 == 300 && n43 == 0 && b50)=true) (ld T.a24 a49) (sG [.int .i64,.int .i64,.int .i64,.int .i64]) (u4 λ(n54 n55 n56 n57:Int) =>
.read ((not b30 && n31 == 0 && not b38 && ((l39.len:Nat):Int) == 1 && n53 == 300 && n43 == 0 && b50)=true) (ld T.a24 a0) (sG [.int .i64,.int .i64,.int .i64,.int .i64]) (u4 λ(n58 n59 n60 n61:Int) =>
.lt (.bool) (not b30 && n31 == 0 && not b38 && ((l39.len:Nat):Int) == 1 && n53 == 300 && n43 == 0 && b50 && (n54 == n58 && (n55 == n59 && (n56 == n60 && n57 == n61)))) λb62 =>
.done 0 [.bool b62])))))))))))))))))))))))
theorem z9p :FnS (z8h ) F.a226 #[]:=dV ⟨[],[],[],[]⟩ Go.Proofs.Tryz.func25 (by kernel_rfl)
def z024 (seg:Int):Prog :=
AB T.a36 λa0=>
Ag (Int.tmod seg 200) λn1=>
Aa 1 (
Ac (decide (n1<0)) (
Ag (Af (0-n1)) λn2=>
Ah 1 [Ai n2])<|
Ah 1 [Ai n1]) λn3=>
AC T.a36 a0 (.agg #[Ai (Af (64+n3)),Ai 30,Ai 20])<|
Bx T.a36 a0 λn4 n5 n6=>
Ah 0 [Br n4 n5 n6]
theorem zou (seg:Int):FnS (z024 seg) F.a227 #[.int .i64 seg]:=dV ⟨[(1576966,[(0,.one (.int .i64))])],[],[],[]⟩ Go.Proofs.Tryz.func26 (by kernel_rfl)
def z000 (d:Option Addr) (prefix_:ByteArray) (c_0 c_1:Int) (c_2:Int):Prog :=
Ao T.a36 (Br c_0 c_1 c_2) λa0=>
Bx T.a36 a0 λn1 n2 n3=>
Bw F.a103 [Aq d,.string prefix_,Br n1 n2 n3] λp4 n5=>
Ag n5 λn6=>
Ac (n6 != 0) (
Ag n6 λn7=>
Ah 0 [Aq none,Ai n7])<|
Aw F.a107 [Aq p4] λn8=>
Bj F.a6 [] λp9=>
Ao T.a25 (.agg #[Aq p4,Ai n8,Aq p9]) λa10=>
Ay F.a97 [Ap a10]<|
Ah 0 [Ap a10,Ai 0]
theorem zmr (d:Option Addr) (prefix_:ByteArray) (c_0 c_1 c_2:Int):FnS (z000 d prefix_ c_0 c_1 c_2) F.a98 #[.pointer d,.string prefix_,.agg #[.int .i64 c_0,.int .i64 c_1,.int .i64 c_2]]:=dV ⟨[],[],[],[]⟩ Go.Proofs.Tryz.func27 (by kernel_rfl)
def zzi (o:Option Addr) (pid epoch:Int) (commit:Bool) (time:Int):Prog :=
Ac (Option.isNone o) (
Ah 0 [.bool false,Ai 1])<|
As o λa1=>
AW T.a33 a1 0 λp2=>
BV F.a108 [Aq p2,Ai pid,Ai epoch,.bool commit,Ai time] λn3 b4 n5=>
Ag n3 λn6=>
AM b4 λb7=>
Ag n5 λn8=>
Ax 1 (
Ac (n8 == 0) (
Ay F.a97 [Aq o]<|
Ah 1 [])<|
Ah 1 [])<|
AM b7 λb9=>
Ag n8 λn10=>
Ah 0 [.bool b9,Ai n10]
theorem zgv (o:Option Addr) (pid epoch:Int) (commit:Bool) (time:Int):FnS (zzi o pid epoch commit time) F.a93 #[.pointer o,.int .i64 pid,.int .i64 epoch,.bool commit,.int .i64 time]:=dV ⟨[(52776558133279,[])],[],[],[]⟩ Go.Proofs.Tryz.func28 (by kernel_rfl)
def zzk (o:Option Addr) (pid epoch seq time:Int) (cs:Sl):Prog :=
Ac (Option.isNone o) (
Ah 0 [.bool false,Ai 1])<|
Ac ((Ad cs) == 0) (
Ah 0 [.bool false,Ai 3])<|
AB T.a0 λa0=>
AC T.a0 a0 (.agg #[Ai 0,Ai pid,Ai epoch,Ai seq,Ai 1,Ai time,.slice none 0 0])<|
Ax 1 (
AV 2 (0,()) λn1=>
Ac (decide (n1<(Ad cs))) (
.ex [.adr] (c1 λa2=>0<=n1/\n1<(Ad cs)/\cs.a=some a2) (u1 λa3=>
BO T.a24 a3 (Int.toNat n1*4) λn4 n5 n6 n7=>
AB T.a24 λa8=>
AC T.a24 a8 (BE n4 n5 n6 n7)<|
BF T.a24 a8 λn9 n10 n11 n12=>
.call F.a100 [BE n9 n10 n11 n12,Ai time] (.tup [.agg [.str,.str,.bool,.int .i64],.one (.int .i64)]) (u5 λs13 s14 b15 (n16 n17:Int)=>
AB T.a2 λa18=>
AC T.a2 a18 (AG s13 s14 b15 n16)<|
Ag n17 λn19=>
Ac (n19 != 0) (
Ag n19 λn20=>
Ah 0 [.bool false,Ai n20])<|
Ae T.a40 a0 6 λl21=>
AH T.a2 a18 λs22 s23 b24 n25=>
Aj (Instr.buildSlice T.a40 1 #[(0,AG s22 s23 b24 n25)]) λl26=>
Aj (app T.a40 T.a40 T.a40 l21.v l26.v) λl27=>
Be T.a40 a0 6 l27.v<|
Ah 2 [Ai (Af (n1+1))])))<|
Ah 1 [])<|
AT<|
As o λa29=>
AW T.a33 a29 0 λp30=>
AE T.a0 a0 λn31 n32 n33 n34 n35 n36 l37=>
BV F.a104 [Aq p30,AD n31 n32 n33 n34 n35 n36 l37] λn38 b39 n40=>
Ag n38 λn41=>
AM b39 λb42=>
Ag n40 λn43=>
AU<|
AM b42 λb44=>
Ag n43 λn45=>
Ah 0 [.bool b44,Ai n45]
theorem zgx (o:Option Addr) (pid epoch seq time:Int) (cs:Sl):FnS (zzk o pid epoch seq time cs) F.a95 #[.pointer o,.int .i64 pid,.int .i64 epoch,.int .i64 seq,.int .i64 time,.slice cs.a cs.len cs.cap]:=dV ⟨[],[(0,[])],[],[(0,[(35,.one (.int .i64))])]⟩ Go.Proofs.Tryz.func30 (by kernel_rfl)
def z080 (o:Option Addr):Prog :=
Ac (Option.isNone o) (
Ah 0 [.slice none 0 0])<|
As o λa1=>
AW T.a27 a1 2 λp2=>
An F.a8 [Aq p2] λl3=>
Ak 1 (
Al 2 (⟨none,0,0⟩,(0,())) λl4 n5=>
Ac (decide (n5<(Ad l3))) (
.ex [.adr] (c1 λa6=>0<=n5/\n5<(Ad l3)/\l3.a=some a6) (u1 λa7=>
BW T.a38 a7 (Int.toNat n5*5) λn8 s9 s10 b11 n12=>
AB T.a38 λa13=>
AC T.a38 a13 (BX n8 s9 s10 b11 n12)<|
AF T.a2 a13 1 λs14 s15 b16 n17=>
BY F.a99 [AG s14 s15 b16 n17] λn18 n19 n20 n21 n22=>
AB T.a24 λa23=>
AC T.a24 a23 (BE n18 n19 n20 n21)<|
Ag n22 λn24=>
BF T.a24 a23 λn25 n26 n27 n28=>
Aj (Instr.buildSlice T.a44 1 #[(0,BE n25 n26 n27 n28)]) λl29=>
Aj (app T.a44 T.a44 T.a44 l4.v l29.v) λl30=>
Ah 2 [l30.v,Ai (Af (n5+1))]))<|
Ah 1 [l4.v]) λl31=>
Ah 0 [l31.v]
theorem zuj (o:Option Addr):FnS (z080 o) F.a89 #[.pointer o]:=dV ⟨[],[(0,[(3,.one .slc)])],[],[(0,[(3,.one .slc),(16,.one (.int .i64))])]⟩ Go.Proofs.Tryz.func31 (by kernel_rfl)
def z081 (o:Option Addr):Prog :=
Ac (Option.isNone o) (
Ah 0 [.slice none 0 0])<|
As o λa1=>
AW T.a33 a1 0 λp2=>
An F.a105 [Aq p2] λl3=>
Ah 0 [l3.v]
theorem zuk (o:Option Addr):FnS (z081 o) F.a90 #[.pointer o]:=dV ⟨[],[],[],[]⟩ Go.Proofs.Tryz.func32 (by kernel_rfl)
def zzj (o:Option Addr) (part:Int):Prog :=
AB T.a24 λa0=>
Ac (Option.isNone o || decide (part<0) || decide (part>255)) (
AC T.a24 a0 (BE 0 0 0 0)<|
BF T.a24 a0 λn1 n2 n3 n4=>
Ah 0 [BE n1 n2 n3 n4,.bool false])<|
BZ 1 (
AT<|
As o λa6=>
Bg T.a27 a6 2 λp7=>
.both (
AP F.a102 [Ai part] λs8=>
.both (
AU<|
Ca F.a10 [Aq p7,.string s8] λn9 s10 s11 b12 n13 b14=>
AB T.a38 λa15=>
AC T.a38 a15 (BX n9 s10 s11 b12 n13)<|
AM b14 λb16=>
AU<|
Ah 1 [Ap a15,.bool b16]) <|
AB T.a38 λa17=>
AU<|
Ca F.a10 [Aq p7,.string s8] λn18 s19 s20 b21 n22 b23=>
AC T.a38 a17 (BX n18 s19 s20 b21 n22)<|
AM b23 λb24=>
AU<|
Ah 1 [Ap a17,.bool b24]) <|
AB T.a38 λa25=>
AP F.a102 [Ai part] λs26=>
AU<|
Ca F.a10 [Aq p7,.string s26] λn27 s28 s29 b30 n31 b32=>
AC T.a38 a25 (BX n27 s28 s29 b30 n31)<|
AM b32 λb33=>
AU<|
Ah 1 [Ap a25,.bool b33]) λa34 b35=>
Ac (not b35) (
AC T.a24 a0 (BE 0 0 0 0)<|
BF T.a24 a0 λn36 n37 n38 n39=>
Ah 0 [BE n36 n37 n38 n39,.bool false])<|
AF T.a2 a34 1 λs40 s41 b42 n43=>
BY F.a99 [AG s40 s41 b42 n43] λn44 n45 n46 n47 n48=>
AB T.a24 λa49=>
AC T.a24 a49 (BE n44 n45 n46 n47)<|
Ag n48 λn50=>
BF T.a24 a49 λn51 n52 n53 n54=>
AC T.a24 a0 (BE n51 n52 n53 n54)<|
BF T.a24 a0 λn55 n56 n57 n58=>
Ah 0 [BE n55 n56 n57 n58,.bool true]
theorem zgw (o:Option Addr) (part:Int):FnS (zzj o part) F.a94 #[.pointer o,.int .i64 part]:=dV ⟨[],[],[(3,[(6,.one .adr),(7,.one .bool)])],[]⟩ Go.Proofs.Tryz.func33 (by kernel_rfl)
def z082 (o:Option Addr) (horizon:Int):Prog :=
Ac (Option.isNone o) (
Ah 0 [Ai 0,Ai 1])<|
As o λa1=>
AW T.a33 a1 0 λp2=>
BK F.a106 [Aq p2,Ai horizon] λn3 n4=>
Ag n3 λn5=>
Ag n4 λn6=>
Ah 0 [Ai n5,Ai n6]
theorem zul (o:Option Addr) (horizon:Int):FnS (z082 o horizon) F.a91 #[.pointer o,.int .i64 horizon]:=dV ⟨[],[],[],[]⟩ Go.Proofs.Tryz.func60 (by kernel_rfl)
def zzl (o:Option Addr):Prog :=
Ac (Option.isNone o) (
Ah 0 [.slice none 0 0])<|
As o λa1=>
AW T.a33 a1 0 λp2=>
An F.a105 [Aq p2] λl3=>
Ak 1 (
Al 2 (⟨none,0,0⟩,(0,())) λl4 n5=>
Ac (decide (n5<(Ad l3))) (
Ak 3 (
.ex [.adr] (c1 λa6=>0<=n5/\n5<(Ad l3)/\l3.a=some a6) (u1 λa7=>
AA T.a0 a7 (Int.toNat n5*7) λn8 n9 n10 n11 n12 n13 l14=>
AB T.a0 λa15=>
Ag n5 λn16=>
AC T.a0 a15 (AD n8 n9 n10 n11 n12 n13 l14)<|
AK 4 (
AT<|
Az T.a13 a15 4 λn17=>
Bp ((n17 != 1)=false) T.a0 a15 λn18 n19 n20 n21 n22 n23 l24=>
.must ((n17 != 1)=false->0<=Af (n16+1)/\Af (n16+1)<=(Ad l3)) <|
Ac (n17 != 1) (
AU<|
Ah 4 [.bool true])<|
Ar F.a101 [AD n18 n19 n20 n21 n22 n23 l24,.slice (z10 l3.a 7 (Int.toNat (Af (n16+1))) l3.cap) (l3.len-Int.toNat (Af (n16+1))) (l3.cap-Int.toNat (Af (n16+1)))] λb25=>
AU<|
Ah 4 [.bool b25]) λb26=>
Ac b26 (
Ah 3 [l4.v])<|
Ae T.a40 a15 6 λl27=>
Ak 4 (
Al 5 ({ a:=l4.a,len:=l4.len,cap:=l4.cap },(0,())) λl28 n29=>
Ac (decide (n29<(Ad l27))) (
.ex [.adr] (c1 λa30=>0<=n29/\n29<(Ad l27)/\l27.a=some a30) (u1 λa31=>
AF T.a2 a31 (Int.toNat n29*4) λs32 s33 b34 n35=>
AB T.a2 λa36=>
AC T.a2 a36 (AG s32 s33 b34 n35)<|
AH T.a2 a36 λs37 s38 b39 n40=>
BY F.a99 [AG s37 s38 b39 n40] λn41 n42 n43 n44 n45=>
AB T.a24 λa46=>
AC T.a24 a46 (BE n41 n42 n43 n44)<|
Ag n45 λn47=>
Ak 6 (
Ac (n47 == 0) (
Az T.a14 a15 1 λn48=>
Az T.a13 a15 2 λn49=>
BF T.a24 a46 λn50 n51 n52 n53=>
Aj (Instr.buildSlice T.a45 1 #[(0,.agg #[Ai n48,Ai n49,Ai n50,Ai n51,Ai n52,Ai n53])]) λl54=>
Aj (app T.a45 T.a45 T.a45 l28.v l54.v) λl55=>
Ah 6 [l55.v])<|
Ah 6 [l28.v]) λl56=>
Ah 5 [l56.v,Ai (Af (n29+1))]))<|
Ah 4 [l28.v]) λl57=>
Ah 3 [l57.v])) λl58=>
Ah 2 [l58.v,Ai (Af (n5+1))])<|
Ah 1 [l4.v]) λl59=>
Ah 0 [l59.v]
theorem zgy (o:Option Addr):FnS (zzl o) F.a96 #[.pointer o]:=dV ⟨[(2356571555416395284529,[(4,.one .slc)])],[(0,[(4,.one .slc)]),(1,[(4,.one .slc)]),(2,[(4,.one .slc)])],[(8,[(35,.one .bool)])],[(0,[(4,.one .slc),(20,.one (.int .i64))]),(2,[(4,.one .slc),(39,.one (.int .i64))])]⟩ Go.Proofs.Tryz.func61 (by kernel_rfl)
def z083 (o:Option Addr):Prog :=
Ac (Option.isNone o) (
Ah 0 [.slice none 0 0])<|
Ak 1 (
AT<|
As o λa1=>
Bg T.a33 a1 0 λp2=>
As o λa4=>
AW T.a33 a4 0 λp5=>
Aw F.a107 [Aq p5] λn6=>
AU<|
.call F.a110 [Aq p2,Ai n6,Ai 1099511627776,.bool true] (.tup [.one .slc,.one (.int .i64),.one (.int .i64)]) (u3 λl7 (n8 n9:Int)=>
Ag n8 λn10=>
Ag n9 λn11=>
AU<|
Ah 1 [l7.v])) λl12=>
Ah 0 [l12.v]
theorem zum (o:Option Addr):FnS (z083 o) F.a92 #[.pointer o]:=dV ⟨[],[],[(3,[(3,.one .slc)])],[]⟩ Go.Proofs.Tryz.func62 (by kernel_rfl)
def z005 (d:Option Addr) (prefix_:ByteArray) (c_0 c_1:Int) (c_2:Int):Prog :=
Ao T.a36 (Br c_0 c_1 c_2) λa0=>
Az T.a13 a0 2 λn1=>
Bb (decide (n1<1)=false) T.a13 a0 2 λn2=>
Ac (decide (n1<1) || decide (n2>1024)) (
Ac (Option.isNone d) (
Ah 0 [Aq none,Ai 1])<|
Ah 0 [Aq none,Ai 2])<|
Cb T.a51 a0 0 λn3 n4=>
Bw F.a163 [Aq d,.string prefix_,AI n3 n4] λp5 n6=>
Ag n6 λn7=>
Ac (n7 != 0) (
Ag n7 λn8=>
Ah 0 [Aq none,Ai n8])<|
Az T.a13 a0 2 λn9=>
Ao T.a37 (.agg #[Aq p5,Aq d,.string prefix_,Ai n9,Aq none,Aq none]) λa10=>
AK 1 (
AP F.a120 [Ap a10] λs11=>
Aw F.a41 [Aq d,.string s11] λn12=>
Ac (decide (n12>0)) (
Ah 1 [.bool true])<|
AP F.a120 [Ap a10] λs13=>
Ar F.a121 [Aq d,.string s13] λb14=>
Ah 1 [.bool b14]) λb15=>
Ax 1 (
Ac b15 (
AP F.a120 [Ap a10] λs16=>
Aw F.a39 [Aq d,.string s16] λn17=>
Ag n17 λn18=>
Ac (n18 != 0) (
Ag n18 λn19=>
Ah 0 [Aq none,Ai n19])<|
Ah 1 [])<|
Ah 1 [])<|
Aw F.a116 [Ap a10] λn20=>
Ag n20 λn21=>
An F.a141 [Aq p5] λl22=>
Ax 1 (
AV 2 (0,()) λn23=>
Ac (decide (n23<(Ad l22))) (
.ex [.adr] (c1 λa24=>0<=n23/\n23<(Ad l22)/\l22.a=some a24) (u1 λa25=>
AA T.a0 a25 (Int.toNat n23*7) λn26 n27 n28 n29 n30 n31 l32=>
AB T.a0 λa33=>
AC T.a0 a33 (AD n26 n27 n28 n29 n30 n31 l32)<|
Az T.a14 a33 0 λn34=>
Ax 3 (
Ac (decide (n34>=n21)) (
AE T.a0 a33 λn35 n36 n37 n38 n39 n40 l41=>
Ay F.a119 [Ap a10,AD n35 n36 n37 n38 n39 n40 l41]<|
Ah 3 [])<|
Ah 3 [])<|
Ah 2 [Ai (Af (n23+1))]))<|
Ah 1 [])<|
Ah 0 [Ap a10,Ai 0]
theorem zmw (d:Option Addr) (prefix_:ByteArray) (c_0 c_1 c_2:Int):FnS (z005 d prefix_ c_0 c_1 c_2) F.a103 #[.pointer d,.string prefix_,.agg #[.int .i64 c_0,.int .i64 c_1,.int .i64 c_2]]:=dV ⟨[(18741891978888913616950,[]),(1083197534374707740536733770,[])],[(0,[])],[(9,[(54,.one .bool)])],[(0,[(67,.one (.int .i64))])]⟩ Go.Proofs.Tryz.func63 (by kernel_rfl)
def zdw  : Prog :=
.act (Instr.box T.a4 (.agg #[.int .i64 0,.slice none 0 0])) sA (u1 λa0 =>
.done 0 [.pointer (some a0)])
theorem zdt :FnS (zdw ) F.a6 #[]:=dV ⟨[],[],[],[]⟩ Go.Proofs.Tryz.func64 (by kernel_rfl)
def z00b (p:Option Addr) (offset most:Int) (committed:Bool):Prog :=
Ac (Option.isNone p) (
Ah 0 [.slice none 0 0,Ai 0,Ai 1])<|
As p λa1=>
AW T.a34 (Addr.add a1 0) 0 λp2=>
AO F.a145 [Aq p2,Ai offset,Ai most] λl3 n4=>
Ag n4 λn5=>
Ac (n5 != 0) (
Ag n5 λn6=>
Ah 0 [.slice none 0 0,Ai 0,Ai n6])<|
Ag offset λn7=>
.bind 1 [.one .slc,.one (.int .i64)] (
.loop 2 [.one .slc,.one (.int .i64),.one (.int .i64)] (⟨none,0,0⟩,(n7,(0,()))) (u3 λl8 (n9 n10:Int)=>
Ac (decide (n10<(Ad l3))) (
.ex [.adr] (c1 λa11=>0<=n10/\n10<(Ad l3)/\l3.a=some a11) (u1 λa12=>
AA T.a0 a12 (Int.toNat n10*7) λn13 n14 n15 n16 n17 n18 l19=>
AB T.a0 λa20=>
AC T.a0 a20 (AD n13 n14 n15 n16 n17 n18 l19)<|
AK 3 (
AT<|
Cc (committed=true) T.a14 a20 0 λn21=>
Ac committed (
Aw F.a112 [Aq p] λn22=>
AU<|
Ah 3 [.bool (decide (n21>=n22))])<|
AU<|
Ah 3 [.bool false]) λb23=>
Ac b23 (
Ah 1 [l8.v,Ai n9])<|
AK 3 (
AT<|
AZ (not committed=false) p λa25=>
.read (not committed=false) (ld T.a32 (Addr.add a25 5)) sP (u1 λp26=>
Bp (not committed=false) T.a0 a20 λn27 n28 n29 n30 n31 n32 l33=>
Ac (not committed) (
AU<|
Ah 3 [.bool true])<|
Aw F.a68 [Aq p26,AD n27 n28 n29 n30 n31 n32 l33] λn34=>
AU<|
Ah 3 [.bool (n34 == 1)])) λb35=>
Ak 3 (
Ac b35 (
AE T.a0 a20 λn36 n37 n38 n39 n40 n41 l42=>
Aj (Instr.buildSlice T.a39 1 #[(0,AD n36 n37 n38 n39 n40 n41 l42)]) λl43=>
An F.a126 [l43.v] λl44=>
Aj (app T.a47 T.a47 T.a47 l8.v l44.v) λl45=>
Ah 3 [l45.v])<|
Ah 3 [l8.v]) λl46=>
AE T.a0 a20 λn47 n48 n49 n50 n51 n52 l53=>
Aw F.a129 [AD n47 n48 n49 n50 n51 n52 l53] λn54=>
Ag n54 λn55=>
Ah 2 [l46.v,Ai n55,Ai (Af (n10+1))]))<|
Ah 1 [l8.v,Ai n9])) (u2 λl56 (n57:Int)=>
Ag n57 λn58=>
Ah 0 [l56.v,Ai n58,Ai 0])
theorem zn2 (p:Option Addr) (offset most:Int) (committed:Bool):FnS (z00b p offset most committed) F.a110 #[.pointer p,.int .i64 offset,.int .i64 most,.bool committed]:=dV ⟨[(73196680484479534366778,[(13,.one .slc)])],[(0,[(13,.one .slc),(14,.one (.int .i64))])],[(11,[(47,.one .bool)]),(12,[(58,.one .bool)])],[(0,[(13,.one .slc),(14,.one (.int .i64)),(36,.one (.int .i64))])]⟩ Go.Proofs.Tryz.func65 (by kernel_rfl)
def z008 (p:Option Addr):Prog :=
Ac (Option.isNone p) (
Ah 0 [Ai 0])<|
As p λa1=>
AW T.a34 (Addr.add a1 0) 0 λp2=>
Aw F.a143 [Aq p2] λn3=>
Ag n3 λn4=>
Ah 0 [Ai n4]
theorem zmz (p:Option Addr):FnS (z008 p) F.a107 #[.pointer p]:=dV ⟨[],[],[],[]⟩ Go.Proofs.Tryz.func66 (by kernel_rfl)
def zf8 (t:Option Addr) (l:Sl):Prog :=
AJ (Option.isNone t) (
Ah 0 [Ai 1])<|
As t λa2=>
Az T.a14 a2 0 λn3=>
Ar F.a17 [Ai n3,l.v] λb4=>
.ex [.adr] (c1 λa5=>not b4=false/\decide ((Ad l)>0)=true->0<=Af ((Ad l)-1)/\Af ((Ad l)-1)<(Ad l)/\l.a=some a5) (u1 λa6=>
Bb (not b4=false/\decide ((Ad l)>0)=true) T.a14 (Addr.add a6 (Int.toNat (Af ((Ad l)-1))*5)) 0 λn7=>
AJ (not b4 || decide ((Ad l)>0) && decide (n7>1099511627776)) (
Ah 0 [Ai 8])<|
Ax 1 (
AV 2 (0,()) λn9=>
Ac (decide (n9<(Ad l))) (
.ex [.adr] (c1 λa10=>0<=n9/\n9<(Ad l)/\l.a=some a10) (u1 λa11=>
BW T.a38 a11 (Int.toNat n9*5) λn12 s13 s14 b15 n16=>
AB T.a38 λa17=>
AC T.a38 a17 (BX n12 s13 s14 b15 n16)<|
Cd T.a38 a17 λn18 s19 s20 b21 n22=>
Ay F.a14 [Aq t,BX n18 s19 s20 b21 n22]<|
Ah 2 [Ai (Af (n9+1))]))<|
Ah 1 [])<|
Ah 0 [Ai 0])
theorem zww (t:Option Addr) (l:Sl):FnS (zf8 t l) F.a9 #[.pointer t,.slice l.a l.len l.cap]:=dV ⟨[],[(1,[])],[],[(1,[(35,.one (.int .i64))])]⟩ Go.Proofs.Tryz.func67 (by kernel_rfl)
def z07z (c_0 c_1 c_2:Int) (c_3:Int):Prog :=
Ao T.a24 (BE c_0 c_1 c_2 c_3) λa0=>
Az T.a13 a0 0 λn1=>
Bb (decide (n1>=0)=true) T.a13 a0 0 λn2=>
Bb ((decide (n1>=0) && decide (n2<=255))=true) T.a14 a0 1 λn3=>
Bb ((decide (n1>=0) && decide (n2<=255) && decide (n3>=0))=true) T.a14 a0 1 λn4=>
Bb ((decide (n1>=0) && decide (n2<=255) && decide (n3>=0) && decide (n4<=1099511627776))=true) T.a13 a0 2 λn5=>
Bb ((decide (n1>=0) && decide (n2<=255) && decide (n3>=0) && decide (n4<=1099511627776) && decide (n5>=0))=true) T.a13 a0 2 λn6=>
Bb ((decide (n1>=0) && decide (n2<=255) && decide (n3>=0) && decide (n4<=1099511627776) && decide (n5>=0) && decide (n6<=64))=true) T.a13 a0 3 λn7=>
Bb ((decide (n1>=0) && decide (n2<=255) && decide (n3>=0) && decide (n4<=1099511627776) && decide (n5>=0) && decide (n6<=64) && decide (n7>=0))=true) T.a13 a0 3 λn8=>
AM (decide (n1>=0) && decide (n2<=255) && decide (n3>=0) && decide (n4<=1099511627776) && decide (n5>=0) && decide (n6<=64) && decide (n7>=0) && decide (n8<=2147483647)) λb9=>
Ah 0 [.bool b9]
theorem zui (c_0 c_1 c_2 c_3:Int):FnS (z07z c_0 c_1 c_2 c_3) F.a88 #[.agg #[.int .i64 c_0,.int .i64 c_1,.int .i64 c_2,.int .i64 c_3]]:=dV ⟨[],[],[],[]⟩ Go.Proofs.Tryz.func72 (by kernel_rfl)
def z004 (part:Int):Prog :=
Aj (Instr.buildSlice T.a50 3 #[(0,.int .u8 (IntKind.wrap .u8 (Af (48+Af (Int.tdiv part 100))))),(1,.int .u8 (IntKind.wrap .u8 (Af (48+Int.tmod (Af (Int.tdiv part 10)) 10)))),(2,.int .u8 (IntKind.wrap .u8 (Af (48+Int.tmod part 10))))]) λl0=>
Bk (convert T.a50 T.a55 l0.v) λs1=>
.must (((1+ByteArray.size s1:Nat):Int)<=9223372036854775807) <|
Bf ((ByteArray.mk #[111])++s1) λs2=>
Ah 0 [.string s2]
theorem zmv (part:Int):FnS (z004 part) F.a102 #[.int .i64 part]:=dV ⟨[],[],[],[]⟩ Go.Proofs.Tryz.func75 (by kernel_rfl)
def zzz (o:Option Addr):Prog :=
AT<|
As o λa1=>
AW T.a33 a1 0 λp2=>
As o λa4=>
Az T.a14 a4 1 λn5=>
.call F.a110 [Aq p2,Ai n5,Ai 1099511627776,.bool true] (.tup [.one .slc,.one (.int .i64),.one (.int .i64)]) (u3 λl6 (n7 n8:Int)=>
Ag n7 λn9=>
Ag n8 λn10=>
AU<|
Ac (n10 != 0) (
Ah 0 [])<|
Ax 1 (
AV 2 (0,()) λn11=>
Ac (decide (n11<(Ad l6))) (
.ex [.adr] (c1 λa12=>0<=n11/\n11<(Ad l6)/\l6.a=some a12) (u1 λa13=>
BW T.a38 a13 (Int.toNat n11*5) λn14 s15 s16 b17 n18=>
AB T.a38 λa19=>
AC T.a38 a19 (BX n14 s15 s16 b17 n18)<|
AF T.a2 a19 1 λs20 s21 b22 n23=>
BY F.a99 [AG s20 s21 b22 n23] λn24 n25 n26 n27 n28=>
AB T.a24 λa29=>
AC T.a24 a29 (BE n24 n25 n26 n27)<|
Ag n28 λn30=>
Ax 3 (
Ac (n30 == 0) (
Ax 4 (
AT<|
As o λa32=>
Bg T.a27 a32 2 λp33=>
Cd T.a38 a19 λn34 s35 s36 b37 n38=>
Aj (Instr.buildSlice T.a47 1 #[(0,BX n34 s35 s36 b37 n38)]) λl39=>
AU<|
Aw F.a9 [Aq p33,l39.v] λn40=>
AU<|
Ah 4 [])<|
Ah 3 [])<|
Ah 3 [])<|
Ah 2 [Ai (Af (n11+1))]))<|
Ah 1 [])<|
As o λa42=>
Be T.a14 a42 1 (Ai n9)<|
Ah 0 [])
theorem zmq (o:Option Addr):FnS (zzz o) F.a97 #[.pointer o]:=dV ⟨[(142989288169013285,[])],[(0,[])],[(7,[])],[(0,[(26,.one (.int .i64))])]⟩ Go.Proofs.Tryz.func82 (by kernel_rfl)
def z009 (p:Option Addr) (pid epoch:Int) (commit:Bool) (time:Int):Prog :=
Ac (Option.isNone p) (
Ah 0 [Ai 0,.bool false,Ai 1])<|
Bt F.a128 [Ai pid,Ai epoch,.bool commit,Ai time] λn0 n1 n2 n3 n4 n5 l6=>
BV F.a117 [Aq p,AD n0 n1 n2 n3 n4 n5 l6] λn7 b8 n9=>
Ag n7 λn10=>
AM b8 λb11=>
Ag n9 λn12=>
Ah 0 [Ai n10,.bool b11,Ai n12]
theorem zn0 (p:Option Addr) (pid epoch:Int) (commit:Bool) (time:Int):FnS (z009 p pid epoch commit time) F.a108 #[.pointer p,.int .i64 pid,.int .i64 epoch,.bool commit,.int .i64 time]:=dV ⟨[],[],[],[]⟩ Go.Proofs.Tryz.func83 (by kernel_rfl)
def z006 (p:Option Addr) (b_0 b_1 b_2 b_3 b_4 b_5:Int) (b_6:Sl):Prog :=
Ao T.a0 (AD b_0 b_1 b_2 b_3 b_4 b_5 b_6) λa0=>
AJ (Option.isNone p) (
Ah 0 [Ai 0,.bool false,Ai 1])<|
AE T.a0 a0 λn2 n3 n4 n5 n6 n7 l8=>
Ar F.a122 [AD n2 n3 n4 n5 n6 n7 l8] λb9=>
AJ b9 (
Ah 0 [Ai 0,.bool false,Ai 2])<|
AE T.a0 a0 λn11 n12 n13 n14 n15 n16 l17=>
BV F.a117 [Aq p,AD n11 n12 n13 n14 n15 n16 l17] λn18 b19 n20=>
Ag n18 λn21=>
AM b19 λb22=>
Ag n20 λn23=>
Ah 0 [Ai n21,.bool b22,Ai n23]
theorem zmx (p:Option Addr) (b_0 b_1 b_2 b_3 b_4 b_5:Int) (b_6:Sl):FnS (z006 p b_0 b_1 b_2 b_3 b_4 b_5 b_6) F.a104 #[.pointer p,.agg #[.int .i64 b_0,.int .i64 b_1,.int .i64 b_2,.int .i64 b_3,.int .i64 b_4,.int .i64 b_5,.slice b_6.a b_6.len b_6.cap]]:=dV ⟨[],[],[],[]⟩ Go.Proofs.Tryz.func84 (by kernel_rfl)
def zf7 (t:Option Addr):Prog :=
Ac (Option.isNone t) (
Ah 0 [.slice none 0 0])<|
As t λa1=>
Ae T.a47 a1 1 λl2=>
An F.a173 [l2.v] λl3=>
Ah 0 [l3.v]
def z007 (p:Option Addr):Prog :=
Ac (Option.isNone p) (
Ah 0 [.slice none 0 0])<|
As p λa1=>
AW T.a34 (Addr.add a1 0) 0 λp2=>
An F.a141 [Aq p2] λl3=>
Ah 0 [l3.v]
theorem zmy (p:Option Addr):FnS (z007 p) F.a105 #[.pointer p]:=dV ⟨[],[],[],[]⟩ Go.Proofs.Tryz.func86 (by kernel_rfl)
def zf9 (t:Option Addr) (key:ByteArray):Prog :=
AB T.a38 λa0=>
Ac (Option.isNone t) (
AC T.a38 a0 (.agg #[Ai 0,.string (ByteArray.mk #[]),.string (ByteArray.mk #[]),.bool false,Ai 0])<|
Cd T.a38 a0 λn1 s2 s3 b4 n5=>
Ah 0 [BX n1 s2 s3 b4 n5,.bool false])<|
Bi F.a11 [Aq t,.string key] λn6 b7=>
Ag n6 λn8=>
AM b7 λb9=>
Ac (not b9) (
AC T.a38 a0 (.agg #[Ai 0,.string (ByteArray.mk #[]),.string (ByteArray.mk #[]),.bool false,Ai 0])<|
Cd T.a38 a0 λn10 s11 s12 b13 n14=>
Ah 0 [BX n10 s11 s12 b13 n14,.bool false])<|
As t λa16=>
Ae T.a47 a16 1 λl17=>
.ex [.adr] (c1 λa18=>0<=n8/\n8<(Ad l17)/\l17.a=some a18) (u1 λa19=>
BW T.a38 a19 (Int.toNat n8*5) λn20 s21 s22 b23 n24=>
AC T.a38 a0 (BX n20 s21 s22 b23 n24)<|
Cd T.a38 a0 λn25 s26 s27 b28 n29=>
Ah 0 [BX n25 s26 s27 b28 n29,.bool true])
theorem zwx (t:Option Addr) (key:ByteArray):FnS (zf9 t key) F.a10 #[.pointer t,.string key]:=dV ⟨[],[],[],[]⟩ Go.Proofs.Tryz.func87 (by kernel_rfl)
def z08r (p:Option Addr) (horizon:Int):Prog :=
Ac (Option.isNone p) (
Ah 0 [Ai 0,Ai 1])<|
Aw F.a114 [Aq p] λn0=>
Ag n0 λn1=>
Ac (n1 == 0) (
Ah 0 [Ai 0,Ai 0])<|
Aw F.a111 [Aq p] λn2=>
Ag n2 λn3=>
Ac (n3 != 0) (
Ag n3 λn4=>
Ah 0 [Ai 0,Ai n4])<|
As p λa6=>
AW T.a34 (Addr.add a6 0) 0 λp7=>
An F.a141 [Aq p7] λl8=>
.bind 1 [.one (.int .i64),.one .slc] (
.loop 2 [.one (.int .i64),.one .slc,.one (.int .i64)] (0,(⟨none,0,0⟩,(0,()))) (u3 λ(n9:Int) l10 (n11:Int)=>
Ac (decide (n11<(Ad l8))) (
.ex [.adr] (c1 λa12=>0<=n11/\n11<(Ad l8)/\l8.a=some a12) (u1 λa13=>
AA T.a0 a13 (Int.toNat n11*7) λn14 n15 n16 n17 n18 n19 l20=>
AB T.a0 λa21=>
AC T.a0 a21 (AD n14 n15 n16 n17 n18 n19 l20)<|
Az T.a14 a21 0 λn22=>
Ac (decide (n22>=n1)) (
Ah 1 [Ai n9,l10.v])<|
Ae T.a40 a21 6 λl23=>
Ag (Af (n9+(Ad l23))) λn24=>
AT<|
As p λa26=>
AW T.a32 a26 5 λp27=>
AE T.a0 a21 λn28 n29 n30 n31 n32 n33 l34=>
Aw F.a68 [Aq p27,AD n28 n29 n30 n31 n32 n33 l34] λn35=>
AU<|
Ak 3 (
Ac (n35 == 1) (
AE T.a0 a21 λn36 n37 n38 n39 n40 n41 l42=>
Aj (Instr.buildSlice T.a39 1 #[(0,AD n36 n37 n38 n39 n40 n41 l42)]) λl43=>
An F.a126 [l43.v] λl44=>
Aj (app T.a47 T.a47 T.a47 l10.v l44.v) λl45=>
Ah 3 [l45.v])<|
Ah 3 [l10.v]) λl46=>
Ah 2 [Ai n24,l46.v,Ai (Af (n11+1))]))<|
Ah 1 [Ai n9,l10.v])) (u2 λ(n47:Int) l48=>
An F.a5 [Ai horizon,l48.v] λl49=>
AO F.a7 [l49.v] λl50 n51=>
Ag n51 λn52=>
Ac (n52 != 0) (
Ag n52 λn53=>
Ah 0 [Ai 0,Ai n53])<|
As p λa55=>
AW T.a34 (Addr.add a55 0) 0 λp56=>
Aw F.a148 [Aq p56,Ai n1,l50.v] λn57=>
Ag n57 λn58=>
Ac (n58 != 0) (
Ag n58 λn59=>
Ah 0 [Ai 0,Ai n59])<|
As p λa61=>
AW T.a32 a61 5 λp62=>
Aw F.a69 [Aq p62,Ai n1] λn63=>
Ag (Af (n47-(Ad l49))) λn64=>
Ah 0 [Ai n64,Ai 0])
def z003 (b_0 b_1 b_2 b_3 b_4 b_5:Int) (b_6:Sl) (behind:Sl):Prog :=
Ao T.a0 (AD b_0 b_1 b_2 b_3 b_4 b_5 b_6) λa0=>
Ar F.a175 [behind.v,.func (Fn.func 168) #[] #[Ap a0]] λb1=>
AM b1 λb2=>
Ah 0 [.bool b2]
theorem zmu (b_0 b_1 b_2 b_3 b_4 b_5:Int) (b_6 behind:Sl):FnS (z003 b_0 b_1 b_2 b_3 b_4 b_5 b_6 behind) F.a101 #[.agg #[.int .i64 b_0,.int .i64 b_1,.int .i64 b_2,.int .i64 b_3,.int .i64 b_4,.int .i64 b_5,.slice b_6.a b_6.len b_6.cap],.slice behind.a behind.len behind.cap]:=dV ⟨[],[],[],[]⟩ Go.Proofs.Tryz.func118 (by kernel_rfl)
def z00i (p:Option Addr):Prog :=
As p λa1=>
Bh T.a55 (Addr.add a1 0) 2 λs2=>
.must (((ByteArray.size s2+4:Nat):Int)<=9223372036854775807) <|
Bf (s2++(ByteArray.mk #[46,116,109,112])) λs3=>
Ah 0 [.string s3]
theorem zn9 (p:Option Addr):FnS (z00i p) F.a120 #[.pointer p]:=dV ⟨[],[],[],[]⟩ Go.Proofs.Tryz.func121 (by kernel_rfl)
def z00j (d:Option Addr) (name:ByteArray):Prog :=
AO F.a38 [Aq d,.string name] λl0 n1=>
Ag n1 λn2=>
AM (n2 == 0) λb3=>
Ah 0 [.bool b3]
theorem zna (d:Option Addr) (name:ByteArray):FnS (z00j d name) F.a121 #[.pointer d,.string name]:=dV ⟨[],[],[],[]⟩ Go.Proofs.Tryz.func122 (by kernel_rfl)
def z00e (p:Option Addr):Prog :=
As p λa1=>
Az T.a13 a1 3 λn2=>
Bw F.a19 [Ai n2] λp3 n4=>
As p λa6=>
Be T.a28 a6 4 (Aq p3)<|
Bj F.a64 [] λp7=>
As p λa9=>
Be T.a32 a9 5 (Aq p7)<|
Ak 1 (
AT<|
As p λa11=>
Bg T.a29 (Addr.add a11 0) 1 λp12=>
AP F.a118 [Aq p] λs13=>
AU<|
AO F.a38 [Aq p12,.string s13] λl14 n15=>
Ag n15 λn16=>
AU<|
Ah 1 [l14.v]) λl17=>
Ce F.a51 [l17.v] λl18 b19=>
AM b19 λb20=>
Ac (not b20) (
Ah 0 [Ai 0])<|
Bj F.a231 [l18.v] λp21=>
Av F.a238 [Aq p21] λn22=>
AP F.a237 [Aq p21,Ai 262144] λs23=>
AP F.a237 [Aq p21,Ai 262144] λs24=>
Am n22 λn25=>
Bf s23 λs26=>
Bf s24 λs27=>
AK 1 (
Aw F.a233 [Aq p21] λn28=>
Ac (n28 != 0) (
Ah 1 [.bool true])<|
Aw F.a109 [Aq p] λn29=>
Ac (decide (n25>IntKind.wrap .u64 n29)) (
Ah 1 [.bool true])<|
Aw F.a107 [Aq p] λn30=>
Ah 1 [.bool (decide (Af n25<n30))]) λb31=>
Ac b31 (
Ah 0 [Ai 0])<|
Aj (convert T.a55 T.a50 (.string s26)) λl32=>
As p λa34=>
Az T.a13 a34 3 λn35=>
Bw F.a18 [l32.v,Ai n35] λp36 n37=>
Ag n37 λn38=>
AK 1 (
Ac (n38 != 0) (
Ah 1 [.bool true])<|
Aw F.a24 [Aq p36] λn39=>
Ah 1 [.bool (decide (n39>Af n25))]) λb40=>
Ac b40 (
Ah 0 [Ai 0])<|
Aj (convert T.a55 T.a50 (.string s27)) λl41=>
Bw F.a63 [l41.v] λp42 n43=>
Ag n43 λn44=>
AK 1 (
Ac (n44 != 0) (
Ah 1 [.bool true])<|
Aw F.a71 [Aq p42] λn45=>
Ah 1 [.bool (decide (n45>Af n25))]) λb46=>
Ac b46 (
Ah 0 [Ai 0])<|
As p λa48=>
Be T.a28 a48 4 (Aq p36)<|
As p λa50=>
Be T.a32 a50 5 (Aq p42)<|
Ag (Af n25) λn51=>
Ah 0 [Ai n51]
theorem zn5 (p:Option Addr):FnS (z00e p) F.a116 #[.pointer p]:=dV ⟨[],[],[(3,[(3,.one .slc)]),(9,[(71,.one .bool)]),(12,[(90,.one .bool)]),(15,[(105,.one .bool)])],[]⟩ Go.Proofs.Tryz.func124 (by kernel_rfl)
def z00h (p:Option Addr) (b_0 b_1 b_2 b_3 b_4 b_5:Int) (b_6:Sl):Prog :=
Ao T.a0 (AD b_0 b_1 b_2 b_3 b_4 b_5 b_6) λa0=>
AT<|
As p λa2=>
AW T.a28 a2 4 λp3=>
AE T.a0 a0 λn4 n5 n6 n7 n8 n9 l10=>
Aw F.a26 [Aq p3,AD n4 n5 n6 n7 n8 n9 l10] λn11=>
AU<|
AT<|
As p λa13=>
AW T.a32 a13 5 λp14=>
AE T.a0 a0 λn15 n16 n17 n18 n19 n20 l21=>
Aw F.a75 [Aq p14,AD n15 n16 n17 n18 n19 n20 l21] λn22=>
AU<|
Ah 0 []
theorem zn8 (p:Option Addr) (b_0 b_1 b_2 b_3 b_4 b_5:Int) (b_6:Sl):FnS (z00h p b_0 b_1 b_2 b_3 b_4 b_5 b_6) F.a119 #[.pointer p,.agg #[.int .i64 b_0,.int .i64 b_1,.int .i64 b_2,.int .i64 b_3,.int .i64 b_4,.int .i64 b_5,.slice b_6.a b_6.len b_6.cap]]:=dV ⟨[],[],[],[]⟩ Go.Proofs.Tryz.func126 (by kernel_rfl)
def z00c (p:Option Addr):Prog :=
Ac (Option.isNone p) (
Ah 0 [Ai 0])<|
As p λa1=>
AW T.a32 a1 5 λp2=>
An F.a72 [Aq p2] λl3=>
Ac ((Ad l3) == 0) (
Aw F.a109 [Aq p] λn4=>
Ag n4 λn5=>
Ah 0 [Ai n5])<|
As p λa7=>
AW T.a32 a7 5 λp8=>
Aw F.a74 [Aq p8] λn9=>
Aw F.a107 [Aq p] λn10=>
Ag (if n10>n9 then n10 else n9) λn11=>
Ah 0 [Ai n11]
theorem zn3 (p:Option Addr):FnS (z00c p) F.a112 #[.pointer p]:=dV ⟨[],[],[],[]⟩ Go.Proofs.Tryz.func128 (by kernel_rfl)
def z07s (v:Option Addr) (b_0 b_1 b_2 b_3 b_4 b_5:Int) (b_6:Sl):Prog :=
Ao T.a0 (AD b_0 b_1 b_2 b_3 b_4 b_5 b_6) λa0=>
Ac (Option.isNone v) (
Ah 0 [Ai 0])<|
BZ 1 (
AT<|
As v λa2=>
Cf T.a21 a2 2 λm3=>
AY T.a14 a0 1 λn4=>
AY T.a13 a0 2 λn5=>
Cg (Instr.lookup T.a21 (.map m3) (AI n4 n5) true) λn6 n7 n8 n9 b10=>
AB T.a18 λa11=>
AU<|
AC T.a18 a11 (BE n6 n7 n8 n9)<|
AM b10 λb12=>
AU<|
Ah 1 [Ap a11,.bool b12]) λa13 b14=>
AE T.a0 a0 λn15 n16 n17 n18 n19 n20 l21=>
Ar F.a80 [AD n15 n16 n17 n18 n19 n20 l21] λb22=>
AJ b22 (
Ah 0 [Ai 3])<|
AT<|
AY T.a14 a0 0 λn24=>
Aw F.a74 [Aq v] λn25=>
AM (decide (n24>=n25)) λb26=>
AU<|
Ac b26 (
Ah 0 [Ai 0])<|
Az T.a13 a0 4 λn27=>
Bb ((n27 == 1 && b14)=true) T.a14 a0 0 λn28=>
Bb ((n27 == 1 && b14)=true) T.a14 a13 2 λn29=>
AJ (n27 == 1 && b14 && decide (n28>=n29)) (
Ah 0 [Ai 2])<|
Ah 0 [Ai 1]
theorem zu9 (v:Option Addr) (b_0 b_1 b_2 b_3 b_4 b_5:Int) (b_6:Sl):FnS (z07s v b_0 b_1 b_2 b_3 b_4 b_5 b_6) F.a68 #[.pointer v,.agg #[.int .i64 b_0,.int .i64 b_1,.int .i64 b_2,.int .i64 b_3,.int .i64 b_4,.int .i64 b_5,.slice b_6.a b_6.len b_6.cap]]:=dV ⟨[],[],[(3,[(5,.one .adr),(6,.one .bool)])],[]⟩ Go.Proofs.Tryz.func129 (by kernel_rfl)
def z06p (from_:Int) (l:Sl):Prog :=
Ax 1 (
AV 2 (0,()) λn0=>
Ac (decide (n0<(Ad l))) (
.ex [.adr] (c1 λa1=>0<=n0/\n0<(Ad l)/\l.a=some a1) (u1 λa2=>
BW T.a38 a2 (Int.toNat n0*5) λn3 s4 s5 b6 n7=>
AB T.a38 λa8=>
Ag n0 λn9=>
AC T.a38 a8 (BX n3 s4 s5 b6 n7)<|
AT<|
Bb ((n9 == 0)=true) T.a14 a8 0 λn10=>
Bb ((n9 == 0 && decide (n10<from_))=false/\decide (n9>0)=true) T.a14 a8 0 λn11=>
.ex [.adr] (c1 λa12=>(n9 == 0 && decide (n10<from_))=false/\decide (n9>0)=true->0<=Af (n9-1)/\Af (n9-1)<(Ad l)/\l.a=some a12) (u1 λa13=>
Bb ((n9 == 0 && decide (n10<from_))=false/\decide (n9>0)=true) T.a14 (Addr.add a13 (Int.toNat (Af (n9-1))*5)) 0 λn14=>
AU<|
Ac (n9 == 0 && decide (n10<from_) || decide (n9>0) && decide (n11<=n14)) (
Ah 0 [.bool false])<|
Ah 2 [Ai (Af (n0+1))])))<|
Ah 1 [])<|
Ah 0 [.bool true]
theorem zt6 (from_:Int) (l:Sl):FnS (z06p from_ l) F.a17 #[.int .i64 from_,.slice l.a l.len l.cap]:=dV ⟨[],[(0,[])],[],[(0,[(9,.one (.int .i64))])]⟩ Go.Proofs.Tryz.func132 (by kernel_rfl)
def z06o (t:Option Addr) (r_0:Int) (r_1 r_2:ByteArray) (r_3:Bool) (r_4:Int):Prog :=
Ao T.a38 (BX r_0 r_1 r_2 r_3 r_4) λa0=>
Bh T.a55 (Addr.add a0 1) 0 λs1=>
Bi F.a11 [Aq t,.string s1] λn2 b3=>
Ag n2 λn4=>
AM b3 λb5=>
Bz (b5=true) T.a3 (Addr.add a0 1) 2 λb6=>
AM (b5 && b6) λb7=>
Ax 1 (
Ac b7 (
As t λa9=>
Ae T.a47 a9 1 λl10=>
An F.a176 [l10.v,Ai n4,Ai (Af (n4+1))] λl11=>
As t λa13=>
Be T.a47 a13 1 l11.v<|
Ah 1 [])<|
AM b5 λb14=>
Ax 2 (
Ac b14 (
AT<|
As t λa16=>
Ae T.a47 a16 1 λl17=>
Cd T.a38 a0 λn18 s19 s20 b21 n22=>
.ex [.adr] (c1 λa23=>0<=n4/\n4<(Ad l17)/\l17.a=some a23) (u1 λa24=>
Be T.a38 a24 (Int.toNat n4*5) (BX n18 s19 s20 b21 n22)<|
AU<|
Ah 2 []))<|
B1 T.a3 (Addr.add a0 1) 2 λb25=>
AM (not b25) λb26=>
Ax 3 (
Ac b26 (
Ax 4 (
AT<|
As t λa28=>
.hold True (ld T.a47 (Addr.add a28 1)) sL (u1 λl29=>
Cd T.a38 a0 λn30 s31 s32 b33 n34=>
Aj (Instr.buildSlice T.a47 1 #[(0,BX n30 s31 s32 b33 n34)]) λl35=>
AU<|
An F.a178 [l29.v,Ai n4,l35.v] λl36=>
As t λa38=>
Be T.a47 a38 1 l36.v<|
AU<|
Ah 4 []))<|
Ah 3 [])<|
Ah 3 [])<|
Ah 2 [])<|
Ah 1 [])<|
Az T.a14 a0 0 λn39=>
As t λa41=>
Be T.a14 a41 0 (Ai (Af (n39+1)))<|
Ah 0 []
theorem zt4 (t:Option Addr) (r_0:Int) (r_1 r_2:ByteArray) (r_3:Bool) (r_4:Int):FnS (z06o t r_0 r_1 r_2 r_3 r_4) F.a14 #[.pointer t,.agg #[.int .i64 r_0,.string r_1,.string r_2,.bool r_3,.int .i64 r_4]]:=dV ⟨[(590007579982553940009,[]),(590295739989961474080,[]),(590295810350115717134,[])],[],[(7,[])],[]⟩ Go.Proofs.Tryz.func133 (by kernel_rfl)
def z00f (p:Option Addr) (b_0 b_1 b_2 b_3 b_4 b_5:Int) (b_6:Sl):Prog :=
Ao T.a0 (AD b_0 b_1 b_2 b_3 b_4 b_5 b_6) λa0=>
Aw F.a109 [Aq p] λn1=>
Be T.a14 a0 0 (Ai n1)<|
AE T.a0 a0 λn2 n3 n4 n5 n6 n7 l8=>
Ch F.a113 [Aq p,AD n2 n3 n4 n5 n6 n7 l8] λb9 n10 n11=>
AB T.a7 λa12=>
AC T.a7 a12 (Ci b9 n10)<|
Ag n11 λn13=>
Bz ((n13 != 0)=false) T.a3 a12 0 λb14=>
Ac (n13 != 0 || b14) (
AT<|
Az T.a14 a12 1 λn15=>
B1 T.a3 a12 0 λb16=>
Ag n15 λn17=>
AM b16 λb18=>
Ag n13 λn19=>
AU<|
Ah 0 [Ai n17,.bool b18,Ai n19])<|
BB 1 (
AT<|
As p λa21=>
Bg T.a34 (Addr.add a21 0) 0 λp22=>
AE T.a0 a0 λn23 n24 n25 n26 n27 n28 l29=>
Aj (Instr.buildSlice T.a39 1 #[(0,AD n23 n24 n25 n26 n27 n28 l29)]) λl30=>
AU<|
BK F.a142 [Aq p22,l30.v] λn31 n32=>
Ag n31 λn33=>
Ag n32 λn34=>
AU<|
Ah 1 [Ai n34,Ai n33]) λn35 n36=>
Aa 1 (
Ac (n35 == 0) (
As p λa38=>
AW T.a34 (Addr.add a38 0) 0 λp39=>
Aw F.a150 [Aq p39] λn40=>
Ag n40 λn41=>
Ah 1 [Ai n41])<|
Ah 1 [Ai n35]) λn42=>
Ac (n42 != 0) (
Ag n42 λn43=>
Ah 0 [Ai 0,.bool false,Ai n43])<|
Be T.a14 a0 0 (Ai n36)<|
AE T.a0 a0 λn44 n45 n46 n47 n48 n49 l50=>
Bt F.a123 [AD n44 n45 n46 n47 n48 n49 l50] λn51 n52 n53 n54 n55 n56 l57=>
Ay F.a119 [Aq p,AD n51 n52 n53 n54 n55 n56 l57]<|
Ag n36 λn58=>
Ah 0 [Ai n58,.bool false,Ai 0]
theorem zn6 (p:Option Addr) (b_0 b_1 b_2 b_3 b_4 b_5:Int) (b_6:Sl):FnS (z00f p b_0 b_1 b_2 b_3 b_4 b_5 b_6) F.a117 #[.pointer p,.agg #[.int .i64 b_0,.int .i64 b_1,.int .i64 b_2,.int .i64 b_3,.int .i64 b_4,.int .i64 b_5,.slice b_6.a b_6.len b_6.cap]]:=dV ⟨[(2269814212195778602,[(8,.one (.int .i64))])],[],[(5,[(8,.one (.int .i64)),(9,.one (.int .i64))])],[]⟩ Go.Proofs.Tryz.func142 (by kernel_rfl)
def z00k (b_0 b_1 b_2 b_3 b_4 b_5:Int) (b_6:Sl):Prog :=
Ao T.a0 (AD b_0 b_1 b_2 b_3 b_4 b_5 b_6) λa0=>
Az T.a13 a0 4 λn1=>
Bb ((n1 == 2)=false) T.a13 a0 4 λn2=>
AM (n1 == 2 || n2 == 3) λb3=>
Ah 0 [.bool b3]
theorem znb (b_0 b_1 b_2 b_3 b_4 b_5:Int) (b_6:Sl):FnS (z00k b_0 b_1 b_2 b_3 b_4 b_5 b_6) F.a122 #[.agg #[.int .i64 b_0,.int .i64 b_1,.int .i64 b_2,.int .i64 b_3,.int .i64 b_4,.int .i64 b_5,.slice b_6.a b_6.len b_6.cap]]:=dV ⟨[],[],[],[]⟩ Go.Proofs.Tryz.func144 (by kernel_rfl)
def z06l (t:Option Addr) (key:ByteArray):Prog :=
Aw F.a12 [Aq t,.string key] λn0=>
Ag n0 λn1=>
AT<|
As t λa3=>
Ae T.a47 a3 1 λl4=>
AZ (decide (n1<(Ad l4))=true) t λa6=>
Ba (decide (n1<(Ad l4))=true) T.a47 a6 1 λl7=>
.ex [.adr] (c1 λa8=>decide (n1<(Ad l4))=true->0<=n1/\n1<(Ad l7)/\l7.a=some a8) (u1 λa9=>
By (decide (n1<(Ad l4))=true) T.a55 (Addr.add (Addr.add a9 (Int.toNat n1*5)) 1) 0 λs10=>
Ag n1 λn11=>
AM (decide (n1<(Ad l4)) && ByteArray.toList s10 == ByteArray.toList key) λb12=>
AU<|
Ah 0 [Ai n11,.bool b12])
theorem zt1 (t:Option Addr) (key:ByteArray):FnS (z06l t key) F.a11 #[.pointer t,.string key]:=dV ⟨[],[],[],[]⟩ Go.Proofs.Tryz.func146 (by kernel_rfl)
def z08t (p:Option Addr):Prog :=
As p λa1=>
AW T.a34 (Addr.add a1 0) 0 λp2=>
An F.a149 [Aq p2] λl3=>
Aa 1 (
Ab 2 (0,(0,())) λn4 n5=>
Ac (decide (n5<(Ad l3))) (
.ex [.adr] (c1 λa6=>0<=n5/\n5<(Ad l3)/\l3.a=some a6) (u1 λa7=>
Az T.a14 a7 (Int.toNat n5*1) λn8=>
Ag n5 λn9=>
Ag n8 λn10=>
AK 3 (
Ac (decide (n9>0)) (
Aw F.a112 [Aq p] λn11=>
Ah 3 [.bool (decide (n10<=n11))])<|
Ah 3 [.bool false]) λb12=>
Aa 3 (
Ac b12 (
Ag n10 λn13=>
Ah 3 [Ai n13])<|
Ah 3 [Ai n4]) λn14=>
Ah 2 [Ai n14,Ai (Af (n5+1))]))<|
Ah 1 [Ai n4]) λn15=>
Ag n15 λn16=>
Ah 0 [Ai n16]
def z08s (p:Option Addr):Prog :=
Ac (Option.isNone p) (
Ah 0 [Ai 1])<|
As p λa1=>
AW T.a28 a1 4 λp2=>
Aw F.a115 [Aq p,Aq p2] λn3=>
Ag n3 λn4=>
Ah 0 [Ai n4]
def zf5 (horizon:Int) (l:Sl):Prog :=
.call F.a16 [l.v] sM (u1 λm0=>
Ak 1 (
Al 2 (⟨none,0,0⟩,(0,())) λl1 n2=>
Ac (decide (n2<(Ad l))) (
Ak 3 (
.ex [.adr] (c1 λa3=>0<=n2/\n2<(Ad l)/\l.a=some a3) (u1 λa4=>
BW T.a38 a4 (Int.toNat n2*5) λn5 s6 s7 b8 n9=>
AB T.a38 λa10=>
Ag n2 λn11=>
AC T.a38 a10 (BX n5 s6 s7 b8 n9)<|
Bh T.a55 (Addr.add a10 1) 0 λs12=>
BC (Instr.lookup T.a22 (.map m0) (.string s12) false) λn13=>
Bz ((n13 != n11)=false) T.a3 (Addr.add a10 1) 2 λb14=>
Bb ((n13 != n11)=false/\b14=true) T.a14 (Addr.add a10 1) 3 λn15=>
Ac (n13 != n11 || b14 && decide (n15<horizon)) (
Ah 3 [l1.v])<|
Cd T.a38 a10 λn16 s17 s18 b19 n20=>
Aj (Instr.buildSlice T.a47 1 #[(0,BX n16 s17 s18 b19 n20)]) λl21=>
Aj (app T.a47 T.a47 T.a47 l1.v l21.v) λl22=>
Ah 3 [l22.v])) λl23=>
Ah 2 [l23.v,Ai (Af (n2+1))])<|
Ah 1 [l1.v]) λl24=>
Ah 0 [l24.v])
def zf6 (l:Sl):Prog :=
AK 1 (
.ex [.adr] (c1 λa0=>decide ((Ad l)>0)=true->(0:Int)<=0/\0<(Ad l)/\l.a=some a0) (u1 λa1=>
Bb (decide ((Ad l)>0)=true) T.a14 (Addr.add a1 0) 0 λn2=>
Ac (decide ((Ad l)>0)) (
Ar F.a17 [Ai n2,l.v] λb3=>
Ah 1 [.bool (not b3)])<|
Ah 1 [.bool false])) λb4=>
Ac b4 (
Ah 0 [.slice none 0 0,Ai 8])<|
AB T.a0 λa5=>
AC T.a0 a5 (.agg #[Ai 0,Ai 0,Ai 0,Ai 0,Ai 0,Ai 0,.slice none 0 0])<|
Ak 1 (
Al 2 (⟨none,0,0⟩,(0,())) λl6 n7=>
Ac (decide (n7<(Ad l))) (
.ex [.adr] (c1 λa8=>0<=n7/\n7<(Ad l)/\l.a=some a8) (u1 λa9=>
BW T.a38 a9 (Int.toNat n7*5) λn10 s11 s12 b13 n14=>
AB T.a38 λa15=>
AC T.a38 a15 (BX n10 s11 s12 b13 n14)<|
AE T.a0 a5 λn16 n17 n18 n19 n20 n21 l22=>
Cd T.a38 a15 λn23 s24 s25 b26 n27=>
Ar F.a15 [AD n16 n17 n18 n19 n20 n21 l22,BX n23 s24 s25 b26 n27] λb28=>
Ak 3 (
Ac (not b28) (
Ae T.a40 a5 6 λl29=>
Ak 4 (
Ac (decide ((Ad l29)>0)) (
AE T.a0 a5 λn30 n31 n32 n33 n34 n35 l36=>
Aj (Instr.buildSlice T.a39 1 #[(0,AD n30 n31 n32 n33 n34 n35 l36)]) λl37=>
Aj (app T.a39 T.a39 T.a39 l6.v l37.v) λl38=>
Ah 4 [l38.v])<|
Ah 4 [l6.v]) λl39=>
Az T.a14 a15 0 λn40=>
Az T.a14 (Addr.add a15 1) 3 λn41=>
AC T.a0 a5 (.agg #[Ai n40,Ai 0,Ai 0,Ai 0,Ai 0,Ai n41,.slice none 0 0])<|
Ah 3 [l39.v])<|
Ah 3 [l6.v]) λl42=>
Ae T.a40 a5 6 λl43=>
AF T.a2 a15 1 λs44 s45 b46 n47=>
Aj (Instr.buildSlice T.a40 1 #[(0,AG s44 s45 b46 n47)]) λl48=>
Aj (app T.a40 T.a40 T.a40 l43.v l48.v) λl49=>
Be T.a40 a5 6 l49.v<|
Ah 2 [l42.v,Ai (Af (n7+1))]))<|
Ah 1 [l6.v]) λl50=>
Ae T.a40 a5 6 λl51=>
Ak 1 (
Ac (decide ((Ad l51)>0)) (
AE T.a0 a5 λn52 n53 n54 n55 n56 n57 l58=>
Aj (Instr.buildSlice T.a39 1 #[(0,AD n52 n53 n54 n55 n56 n57 l58)]) λl59=>
Aj (app T.a39 T.a39 T.a39 l50.v l59.v) λl60=>
Ah 1 [l60.v])<|
Ah 1 [l50.v]) λl61=>
Ax 1 (
AV 2 (0,()) λn62=>
Ac (decide (n62<(Ad l61))) (
.ex [.adr] (c1 λa63=>0<=n62/\n62<(Ad l61)/\l61.a=some a63) (u1 λa64=>
AA T.a0 a64 (Int.toNat n62*7) λn65 n66 n67 n68 n69 n70 l71=>
AB T.a0 λa72=>
AC T.a0 a72 (AD n65 n66 n67 n68 n69 n70 l71)<|
AE T.a0 a72 λn73 n74 n75 n76 n77 n78 l79=>
Aw F.a131 [AD n73 n74 n75 n76 n77 n78 l79] λn80=>
Ag n80 λn81=>
Ac (n81 != 0) (
Ag n81 λn82=>
Ah 0 [.slice none 0 0,Ai n82])<|
Ah 2 [Ai (Af (n62+1))]))<|
Ah 1 [])<|
Ah 0 [l61.v,Ai 0]
def z0ah (v:Option Addr) (offset:Int):Prog :=
Ao T.a14 (Ai offset) λa0=>
Ac (Option.isNone v) (
Ah 0 [Ai 0])<|
As v λa2=>
B5 T.a21 a2 2 λm3=>
BC (Builtin.len_ #[T.a21] T.a13 #[.map m3]) λn4=>
Ag n4 λn5=>
As v λa7=>
B5 T.a21 a7 2 λm8=>
Ay F.a83 [.map m8,.func (Fn.func 223) #[] #[Ap a0]]<|
As v λa10=>
B5 T.a21 a10 2 λm11=>
BC (Builtin.len_ #[T.a21] T.a13 #[.map m11]) λn12=>
Ag (Af (n5-n12)) λn13=>
Ah 0 [Ai n13]
def z06m (t:Option Addr) (key:ByteArray):Prog :=
Ao T.a27 (Aq t) λa0=>
Ao T.a55 (.string key) λa1=>
AR T.a27 a0 λp2=>
As p2 λa4=>
Ae T.a47 a4 1 λl5=>
Aw F.a223 [Ai (Ad l5),.func (Fn.func 224) #[] #[Ap a0,Ap a1]] λn6=>
Ag n6 λn7=>
Ah 0 [Ai n7]
theorem zt2 (t:Option Addr) (key:ByteArray):FnS (z06m t key) F.a12 #[.pointer t,.string key]:=dV ⟨[],[],[],[]⟩ Go.Proofs.Tryz.func154 (by kernel_rfl)
def z06q (most:Int):Prog :=
Ac (decide (most<1) || decide (most>4096)) (
Ah 0 [Aq none,Ai 2])<|
B4 (Instr.makeMap T.a19 none) λm0=>
Ao T.a6 (.agg #[Ai most,Ai 0,.map m0]) λa1=>
Ah 0 [Ap a1,Ai 0]
theorem zt7 (most:Int):FnS (z06q most) F.a19 #[.int .i64 most]:=dV ⟨[],[],[],[]⟩ Go.Proofs.Tryz.func182 (by kernel_rfl)
def zpy  : Prog :=
.act (Instr.makeMap T.a20 none) sM (u1 λm0 =>
.act (Instr.makeMap T.a21 none) sM (u1 λm1 =>
.act (Instr.box T.a16 (.agg #[.int .i64 0,.map m0,.map m1])) sA (u1 λa2 =>
.done 0 [.pointer (some a2)])))
theorem zjj :FnS (zpy ) F.a64 #[]:=dV ⟨[],[],[],[]⟩ Go.Proofs.Tryz.func183 (by kernel_rfl)
def z00g (p:Option Addr):Prog :=
As p λa1=>
Bh T.a55 (Addr.add a1 0) 2 λs2=>
.must (((ByteArray.size s2+5:Nat):Int)<=9223372036854775807) <|
Bf (s2++(ByteArray.mk #[46,115,110,97,112])) λs3=>
Ah 0 [.string s3]
theorem zn7 (p:Option Addr):FnS (z00g p) F.a118 #[.pointer p]:=dV ⟨[],[],[],[]⟩ Go.Proofs.Tryz.func184 (by kernel_rfl)
def z00a (p:Option Addr):Prog :=
Ac (Option.isNone p) (
Ah 0 [Ai 0])<|
As p λa1=>
AW T.a34 (Addr.add a1 0) 0 λp2=>
Aw F.a144 [Aq p2] λn3=>
Ag n3 λn4=>
Ah 0 [Ai n4]
theorem zn1 (p:Option Addr):FnS (z00a p) F.a109 #[.pointer p]:=dV ⟨[],[],[],[]⟩ Go.Proofs.Tryz.func187 (by kernel_rfl)
def z0a7 (raw:Sl) (most:Int):Prog :=
Bw F.a19 [Ai most] λp0 n1=>
Ag n1 λn2=>
Ac (n2 != 0) (
Ag n2 λn3=>
Ah 0 [Aq none,Ai n3])<|
Ce F.a51 [raw.v] λl4 b5=>
AM b5 λb6=>
Ac (not b6) (
Ah 0 [Aq none,Ai 6])<|
Bj F.a231 [l4.v] λp7=>
Aw F.a32 [Aq p7,Ai 1099511627777] λn8=>
As p0 λa10=>
Be T.a14 a10 1 (Ai n8)<|
Aw F.a32 [Aq p7,Ai 4096] λn11=>
Ag n11 λn12=>
As p0 λa14=>
Az T.a14 a14 1 λn15=>
Ac (decide (n15>1099511627777) || decide (n12>most)) (
Ah 0 [Aq none,Ai 6])<|
Ax 1 (
Ab 2 (0,(0,())) λn16 n17=>
Ac (decide (n17<n12)) (
Aw F.a32 [Aq p7,Ai 1048576] λn18=>
Aw F.a32 [Aq p7,Ai 32768] λn19=>
Aw F.a32 [Aq p7,Ai 2147483647] λn20=>
Aw F.a32 [Aq p7,Ai 64] λn21=>
Aw F.a32 [Aq p7,Ai 1099511627776] λn22=>
Aw F.a239 [Aq p7,Ai (-1),Ai 1099511627776] λn23=>
Aw F.a32 [Aq p7,Ai 1099511627776] λn24=>
AB T.a5 λa25=>
AC T.a5 a25 (BS n18 n19 n20 n21 n22 n23 n24)<|
AK 3 (
AT<|
Aw F.a234 [Aq p7] λn26=>
Cj ((n26 != 0)=false) T.a5 a25 λn27 n28 n29 n30 n31 n32 n33=>
AZ ((n26 != 0)=false) p0 λa35=>
Bb ((n26 != 0)=false) T.a14 a35 1 λn36=>
Ac (n26 != 0) (
AU<|
Ah 3 [.bool true])<|
Ar F.a31 [BS n27 n28 n29 n30 n31 n32 n33,Ai n36] λb37=>
Bb (not b37=false) T.a14 a25 0 λn38=>
AU<|
Ah 3 [.bool (not b37 || decide (n38<=n16))]) λb39=>
Ac b39 (
Ah 0 [Aq none,Ai 6])<|
AT<|
As p0 λa41=>
B5 T.a19 a41 2 λm42=>
Az T.a14 a25 0 λn43=>
Ck T.a5 a25 λn44 n45 n46 n47 n48 n49 n50=>
Bs (Instr.mapUpdate T.a19 (.map m42) (Ai n43) (BS n44 n45 n46 n47 n48 n49 n50))<|
AU<|
Az T.a14 a25 0 λn51=>
Ag n51 λn52=>
Ah 2 [Ai n52,Ai (Af (n17+1))])<|
Ah 1 [])<|
Aw F.a233 [Aq p7] λn53=>
Ac (n53 != 0) (
Ah 0 [Aq none,Ai 6])<|
Ah 0 [Aq p0,Ai 0]
def z0a9 (t:Option Addr):Prog :=
Ac (Option.isNone t) (
Ah 0 [Ai 0])<|
As t λa1=>
Az T.a14 a1 1 λn2=>
Ag n2 λn3=>
Ah 0 [Ai n3]
def z0ae (raw:Sl):Prog :=
Ce F.a51 [raw.v] λl0 b1=>
AM b1 λb2=>
Ac (not b2) (
Ah 0 [Aq none,Ai 6])<|
Bj F.a231 [l0.v] λp3=>
Bj F.a64 [] λp4=>
Aw F.a82 [Aq p3,Ai 1099511627777] λn5=>
As p4 λa7=>
Be T.a14 a7 0 (Ai n5)<|
AK 1 (
As p4 λa9=>
Az T.a14 a9 0 λn10=>
Ac (decide (n10>1099511627777)) (
Ah 1 [.bool true])<|
Ar F.a78 [Aq p4,Aq p3] λb11=>
Ac (not b11) (
Ah 1 [.bool true])<|
Ar F.a76 [Aq p4,Aq p3] λb12=>
Ac (not b12) (
Ah 1 [.bool true])<|
Aw F.a233 [Aq p3] λn13=>
Ah 1 [.bool (n13 != 0)]) λb14=>
Ac b14 (
Ah 0 [Aq none,Ai 6])<|
Ah 0 [Aq p4,Ai 0]
def z0ai (v:Option Addr):Prog :=
Ac (Option.isNone v) (
Ah 0 [Ai 0])<|
As v λa1=>
Az T.a14 a1 0 λn2=>
Ag n2 λn3=>
Ah 0 [Ai n3]
def z06u (t:Option Addr) (b_0 b_1 b_2 b_3 b_4 b_5:Int) (b_6:Sl):Prog :=
Ao T.a0 (AD b_0 b_1 b_2 b_3 b_4 b_5 b_6) λa0=>
AE T.a0 a0 λn1 n2 n3 n4 n5 n6 l7=>
Ch F.a23 [Aq t,AD n1 n2 n3 n4 n5 n6 l7] λb8 n9 n10=>
AB T.a7 λa11=>
AC T.a7 a11 (Ci b8 n9)<|
Ag n10 λn12=>
AJ (n12 != 0) (
Ag n12 λn14=>
Ah 0 [Ai n14])<|
B1 T.a3 a11 0 λb15=>
AJ b15 (
Ah 0 [Ai 4])<|
AT<|
Az T.a14 a0 0 λn17=>
As t λa19=>
Az T.a14 a19 1 λn20=>
AM (decide (n17<n20)) λb21=>
AU<|
Ac b21 (
Ah 0 [Ai 8])<|
AE T.a0 a0 λn22 n23 n24 n25 n26 n27 l28=>
Aw F.a129 [AD n22 n23 n24 n25 n26 n27 l28] λn29=>
As t λa31=>
Be T.a14 a31 1 (Ai n29)<|
Az T.a14 a0 1 λn32=>
Ac (n32 == 0) (
Ah 0 [Ai 0])<|
Az T.a14 a0 1 λn33=>
.call F.a28 [Aq t,Ai n33] (.tup [.agg [.int .i64,.int .i64,.int .i64,.int .i64,.int .i64,.int .i64,.int .i64],.one .bool]) (u8 λ(n34 n35 n36 n37 n38 n39 n40:Int) b41=>
AB T.a5 λa42=>
AC T.a5 a42 (BS n34 n35 n36 n37 n38 n39 n40)<|
AM b41 λb43=>
Az T.a14 a0 5 λn44=>
Ag n44 λn45=>
Aa 1 (
Ac b43 (
Az T.a14 a42 6 λn46=>
Ag (if n46>n45 then n46 else n45) λn47=>
Ah 1 [Ai n47])<|
Ah 1 [Ai n45]) λn48=>
Az T.a13 a0 4 λn49=>
Ax 1 (
Ax 2 (
AM (n49 == 2) λb50=>
AK 3 (
Ac b50 (
Ah 3 [.bool b50])<|
AM (n49 == 3) λb51=>
Ah 3 [.bool b51]) λb52=>
Ac b52 (
AT<|
As t λa54=>
B5 T.a19 a54 2 λm55=>
Az T.a14 a0 1 λn56=>
Az T.a14 a0 1 λn57=>
Az T.a13 a0 2 λn58=>
Bs (Instr.mapUpdate T.a19 (.map m55) (Ai n56) (.agg #[Ai n57,Ai (Af (n58+1)),Ai 0,Ai 0,Ai 0,Ai (-1),Ai n48]))<|
AU<|
Ah 0 [Ai 0])<|
AJ (n49 == 1) (
Ck T.a5 a42 λn60 n61 n62 n63 n64 n65 n66=>
Ar F.a21 [BS n60 n61 n62 n63 n64 n65 n66] λb67=>
Ax 3 (
Ac (not b67) (
Az T.a14 a0 0 λn68=>
Be T.a14 a42 5 (Ai n68)<|
Ah 3 [])<|
Ah 3 [])<|
Ah 2 [])<|
Ah 2 [])<|
AT<|
As t λa70=>
B5 T.a19 a70 2 λm71=>
Az T.a14 a0 1 λn72=>
Az T.a14 a0 1 λn73=>
Az T.a13 a0 2 λn74=>
Az T.a13 a0 3 λn75=>
Ae T.a40 a0 6 λl76=>
Az T.a14 a0 0 λn77=>
Az T.a14 a42 5 λn78=>
Bs (Instr.mapUpdate T.a19 (.map m71) (Ai n72) (.agg #[Ai n73,Ai n74,Ai n75,Ai (Ad l76),Ai n77,Ai n78,Ai n48]))<|
AU<|
Ah 1 [])<|
Ah 0 [Ai 0])
theorem ztb (t:Option Addr) (b_0 b_1 b_2 b_3 b_4 b_5:Int) (b_6:Sl):FnS (z06u t b_0 b_1 b_2 b_3 b_4 b_5 b_6) F.a26 #[.pointer t,.agg #[.int .i64 b_0,.int .i64 b_1,.int .i64 b_2,.int .i64 b_3,.int .i64 b_4,.int .i64 b_5,.slice b_6.a b_6.len b_6.cap]]:=dV ⟨[(34587645138207506480,[(9,.one (.int .i64))]),(737869762948382064695,[(55,.one .bool)]),(2166395068749415481073467467,[])],[(1,[]),(4,[])],[],[]⟩ Go.Proofs.Tryz.func192 (by kernel_rfl)
def z07v (v:Option Addr) (b_0 b_1 b_2 b_3 b_4 b_5:Int) (b_6:Sl):Prog :=
Ao T.a0 (AD b_0 b_1 b_2 b_3 b_4 b_5 b_6) λa0=>
AE T.a0 a0 λn1 n2 n3 n4 n5 n6 l7=>
Aw F.a70 [Aq v,AD n1 n2 n3 n4 n5 n6 l7] λn8=>
Ag n8 λn9=>
Ac (n9 != 0) (
Ag n9 λn10=>
Ah 0 [Ai n10])<|
AE T.a0 a0 λn11 n12 n13 n14 n15 n16 l17=>
Aw F.a129 [AD n11 n12 n13 n14 n15 n16 l17] λn18=>
As v λa20=>
Be T.a14 a20 0 (Ai n18)<|
BZ 1 (
AT<|
As v λa22=>
Cf T.a20 a22 1 λm23=>
AY T.a14 a0 1 λn24=>
Cg (Instr.lookup T.a20 (.map m23) (Ai n24) true) λn25 n26 n27 n28 b29=>
AB T.a18 λa30=>
AU<|
AC T.a18 a30 (BE n25 n26 n27 n28)<|
AM b29 λb31=>
AU<|
Ah 1 [Ap a30,.bool b31]) λa32 b33=>
Az T.a13 a0 4 λn34=>
AM (n34 == 1 && not b33) λb35=>
Ax 1 (
Ac b35 (
AT<|
As v λa37=>
B5 T.a20 a37 1 λm38=>
Az T.a14 a0 1 λn39=>
Az T.a14 a0 1 λn40=>
Az T.a13 a0 2 λn41=>
Az T.a14 a0 0 λn42=>
Bs (Instr.mapUpdate T.a20 (.map m38) (Ai n39) (.agg #[Ai n40,Ai n41,Ai n42,Ai (-1)]))<|
AU<|
Ah 1 [])<|
AE T.a0 a0 λn43 n44 n45 n46 n47 n48 l49=>
Ar F.a80 [AD n43 n44 n45 n46 n47 n48 l49] λb50=>
AM (b50 && b33) λb51=>
Ax 2 (
Ac b51 (
AT<|
As v λa53=>
B5 T.a20 a53 1 λm54=>
Az T.a14 a0 1 λn55=>
BA (Builtin.delete_ #[T.a20,T.a14] T.a57 #[.map m54,Ai n55])<|
AU<|
Az T.a13 a0 4 λn56=>
Ax 3 (
Ac (n56 == 3) (
Az T.a14 a0 0 λn57=>
Be T.a14 a32 3 (Ai n57)<|
AT<|
As v λa59=>
B5 T.a21 a59 2 λm60=>
Cb T.a17 a32 0 λn61 n62=>
BF T.a18 a32 λn63 n64 n65 n66=>
Bs (Instr.mapUpdate T.a21 (.map m60) (AI n61 n62) (BE n63 n64 n65 n66))<|
AU<|
Ah 3 [])<|
Ah 3 [])<|
Ah 2 [])<|
Ah 2 [])<|
Ah 1 [])<|
Ah 0 [Ai 0]
theorem zue (v:Option Addr) (b_0 b_1 b_2 b_3 b_4 b_5:Int) (b_6:Sl):FnS (z07v v b_0 b_1 b_2 b_3 b_4 b_5 b_6) F.a75 #[.pointer v,.agg #[.int .i64 b_0,.int .i64 b_1,.int .i64 b_2,.int .i64 b_3,.int .i64 b_4,.int .i64 b_5,.slice b_6.a b_6.len b_6.cap]]:=dV ⟨[(309182778366441411431104577,[]),(309484419525534710019129395,[]),(309485009820782118771359773,[])],[],[(5,[(6,.one .adr),(7,.one .bool)])],[]⟩ Go.Proofs.Tryz.func193 (by kernel_rfl)
def zzd (v:Option Addr):Prog :=
Ac (Option.isNone v) (
Ah 0 [.slice none 0 0])<|
As v λa1=>
B5 T.a20 a1 1 λm2=>
BD (Instr.range T.a20 (.map m2)) λa3=>
Ak 1 (
.loop 2 [.one .slc] (⟨none,0,0⟩,()) (u1 λl4=>
.next (Instr.next (Ap a3) false T.a57) ([.one (.int .i64),.agg [.int .i64,.int .i64,.int .i64,.int .i64]]) (u5 λ(n5 n6 n7 n8 n9:Int)=>
.act (Instr.entry (Ap a3)) (.tup [.one (.int .i64),.agg [.int .i64,.int .i64,.int .i64,.int .i64]]) (u5 λ(n10 n11 n12 n13 n14:Int)=>
AB T.a18 λa15=>
AC T.a18 a15 (BE n11 n12 n13 n14)<|
BF T.a18 a15 λn16 n17 n18 n19=>
.call F.a79 [BE n16 n17 n18 n19] (sG [.int .i64,.int .i64,.int .i64,.int .i64]) (u4 λ(n20 n21 n22 n23:Int)=>
Aj (Instr.buildSlice T.a43 1 #[(0,BE n20 n21 n22 n23)]) λl24=>
Aj (app T.a43 T.a43 T.a43 l4.v l24.v) λl25=>
Ah 2 [l25.v]))) <|
Ah 1 [l4.v])) λl26=>
Ay F.a180 [l26.v,.func (Fn.func 267) #[] #[]]<|
Ah 0 [l26.v]
theorem zub (v:Option Addr) {w:World} {R:List Value->World->Prop} (h:(zzd v).wp P (λ_=>True) w λe vs w'=>e=0/\R vs w') :
  Calls P F.a72 #[.pointer v] w λe w'=>∃ vs,e=.returned (z8m vs)/\R vs w' :=
 z9a (zh7 Go.Proofs.Tryz.func200 (by kernel_rfl) (by kernel_rfl) (by kernel_rfl)) zhd mix [.val (.pointer v)] (by rw [show zht P 25 ⟨zhc,[(13,[.one (.int .i64),.agg [.int .i64,.int .i64,.int .i64,.int .i64]]),(15,[.one (.int .i64),.agg [.int .i64,.int .i64,.int .i64,.int .i64]])]⟩ { cnd:=[],blk:=[(0,[(3,.one .slc)])],reg:=[],lps:=[(0,[(3,.one .slc)])] } [.tmp 2] (zap Go.Proofs.Tryz.f200) [.val (.pointer v)]=zzd v from by kernel_rfl];exact h)
def zze (v:Option Addr):Prog :=
Ac (Option.isNone v) (
Ah 0 [Ai 0])<|
As v λa1=>
Az T.a14 a1 0 λn2=>
Ag n2 λn3=>
As v λa5=>
B5 T.a20 a5 1 λm6=>
BD (Instr.range T.a20 (.map m6)) λa7=>
Aa 1 (
AV 2 (n3,()) λn8=>
.next (Instr.next (Ap a7) false T.a57) ([.one (.int .i64),.agg [.int .i64,.int .i64,.int .i64,.int .i64]]) (u5 λ(n9 n10 n11 n12 n13:Int)=>
.act (Instr.entry (Ap a7)) (.tup [.one (.int .i64),.agg [.int .i64,.int .i64,.int .i64,.int .i64]]) (u5 λ(n14 n15 n16 n17 n18:Int)=>
AB T.a18 λa19=>
AC T.a18 a19 (BE n15 n16 n17 n18)<|
Az T.a14 a19 2 λn20=>
Ag (if n20<n8 then n20 else n8) λn21=>
Ah 2 [Ai n21])) <|
Ah 1 [Ai n8]) λn22=>
Ag n22 λn23=>
Ah 0 [Ai n23]
theorem zud (v:Option Addr) {w:World} {R:List Value->World->Prop} (h:(zze v).wp P (λ_=>True) w λe vs w'=>e=0/\R vs w') :
  Calls P F.a74 #[.pointer v] w λe w'=>∃ vs,e=.returned (z8m vs)/\R vs w' :=
 z9a (zh7 Go.Proofs.Tryz.func201 (by kernel_rfl) (by kernel_rfl) (by kernel_rfl)) zhd mix [.val (.pointer v)] (by rw [show zht P 26 ⟨zhc,[(17,[.one (.int .i64),.agg [.int .i64,.int .i64,.int .i64,.int .i64]]),(19,[.one (.int .i64),.agg [.int .i64,.int .i64,.int .i64,.int .i64]])]⟩ { cnd:=[],blk:=[(0,[(3,.one (.int .i64))])],reg:=[],lps:=[(0,[(3,.one (.int .i64))])] } [.tmp 2] (zap Go.Proofs.Tryz.f201) [.val (.pointer v)]=zze v from by kernel_rfl];exact h)
def z07y (b_0 b_1 b_2 b_3 b_4 b_5:Int) (b_6:Sl):Prog :=
Ao T.a0 (AD b_0 b_1 b_2 b_3 b_4 b_5 b_6) λa0=>
Az T.a13 a0 4 λn1=>
Bb ((n1 == 2)=false) T.a13 a0 4 λn2=>
AM (n1 == 2 || n2 == 3) λb3=>
Ah 0 [.bool b3]
theorem zuh (b_0 b_1 b_2 b_3 b_4 b_5:Int) (b_6:Sl):FnS (z07y b_0 b_1 b_2 b_3 b_4 b_5 b_6) F.a80 #[.agg #[.int .i64 b_0,.int .i64 b_1,.int .i64 b_2,.int .i64 b_3,.int .i64 b_4,.int .i64 b_5,.slice b_6.a b_6.len b_6.cap]]:=dV ⟨[],[],[],[]⟩ Go.Proofs.Tryz.func202 (by kernel_rfl)
def z01w (s:Sl) (i:Int) (j:Int):Prog :=
.must (0<=i/\i<=j/\j<=(Ad s)/\(Ad s)<=((s.cap:Nat):Int)) <|
Ac (i == j) (
Ah 0 [s.v])<|
Ag (Ad s) λn0=>
AT<|
.must (0<=i/\i<=((s.cap:Nat):Int)) <|
.must (0<=j/\j<=(Ad s)) <|
Aj (app T.a47 T.a47 T.a47 (.slice s.a (Int.toNat i) s.cap) (.slice (z10 s.a 5 (Int.toNat j) s.cap) (s.len-Int.toNat j) (s.cap-Int.toNat j))) λl1=>
AU<|
.must (0<=(Ad l1)/\(Ad l1)<=n0/\n0<=((l1.cap:Nat):Int)) <|
BA (Builtin.clear_ #[T.a47] T.a57 #[.slice (z10 l1.a 5 (Int.toNat (Ad l1)) l1.cap) (Int.toNat n0-Int.toNat (Ad l1)) (l1.cap-Int.toNat (Ad l1))])<|
Ah 0 [l1.v]
theorem zom (s:Sl) (i j:Int):FnS (z01w s i j) F.a176 #[.slice s.a s.len s.cap,.int .i64 i,.int .i64 j]:=dV ⟨[],[],[],[]⟩ Go.Proofs.Tryz.func205 (by kernel_rfl)
def z01y (s:Sl) (i:Int) (v:Sl):Prog :=
.must (0<=i/\i<=(Ad s)) <|
Ag (Ad v) λn0=>
Ac (n0 == 0) (
Ah 0 [s.v])<|
Ag (Ad s) λn1=>
Ac (i == n1) (
Aj (app T.a47 T.a47 T.a47 s.v v.v) λl2=>
Ah 0 [l2.v])<|
Ac (decide (Af (n1+n0)>((s.cap:Nat):Int))) (
.must (0<=i/\i<=((s.cap:Nat):Int)) <|
Aj (app T.a47 T.a13 T.a47 (.slice s.a (Int.toNat i) s.cap) (Ai (Af (Af (n1+n0)-i)))) λl3=>
.must (0<=i/\i<=(Ad l3)) <|
.act (Builtin.copy_ #[T.a47,T.a47] T.a13 #[.slice (z10 l3.a 5 (Int.toNat i) l3.cap) (l3.len-Int.toNat i) (l3.cap-Int.toNat i),v.v]) (sI .i64) (u1 λ(n4:Int)=>
AT<|
.must (0<=Af (i+n0)/\Af (i+n0)<=(Ad l3)) <|
.must (0<=i/\i<=(Ad s)) <|
.act (Builtin.copy_ #[T.a47,T.a47] T.a13 #[.slice (z10 l3.a 5 (Int.toNat (Af (i+n0))) l3.cap) (l3.len-Int.toNat (Af (i+n0))) (l3.cap-Int.toNat (Af (i+n0))),.slice (z10 s.a 5 (Int.toNat i) s.cap) (s.len-Int.toNat i) (s.cap-Int.toNat i)]) (sI .i64) (u1 λ(n5:Int)=>
AU<|
Ah 0 [l3.v])))<|
.must (0<=Af (n1+n0)/\Af (n1+n0)<=((s.cap:Nat):Int)) <|
.must (0<=Af (i+n0)/\Af (i+n0)<=((Int.toNat (Af (n1+n0)):Nat):Int)) <|
.fail 14
theorem zoo (s:Sl) (i:Int) (v:Sl):FnS (z01y s i v) F.a178 #[.slice s.a s.len s.cap,.int .i64 i,.slice v.a v.len v.cap]:=dV ⟨[],[],[],[]⟩ Go.Proofs.Tryz.func206 (by kernel_rfl)
def z00d (p:Option Addr) (b_0 b_1 b_2 b_3 b_4 b_5:Int) (b_6:Sl):Prog :=
Ao T.a0 (AD b_0 b_1 b_2 b_3 b_4 b_5 b_6) λa0=>
AB T.a7 λa1=>
.bind 1 [.one .adr,.one (.int .i64)] (
AT<|
As p λa3=>
Bg T.a28 a3 4 λp4=>
.hold True (ld T.a0 a0) (sG [.int .i64,.int .i64,.int .i64,.int .i64,.int .i64,.int .i64,.slc]) (u7 λ(n5 n6 n7 n8 n9 n10:Int) l11=>
.both (
AU<|
Ch F.a23 [Aq p4,AD n5 n6 n7 n8 n9 n10 l11] λb12 n13 n14=>
AB T.a7 λa15=>
AC T.a7 a15 (Ci b12 n13)<|
Ag n14 λn16=>
AU<|
Ah 1 [Ap a15,Ai n16]) <|
AB T.a7 λa17=>
AU<|
Ch F.a23 [Aq p4,AD n5 n6 n7 n8 n9 n10 l11] λb18 n19 n20=>
AC T.a7 a17 (Ci b18 n19)<|
Ag n20 λn21=>
AU<|
Ah 1 [Ap a17,Ai n21])) (u2 λa22 (n23:Int)=>
Bz ((n23 != 0)=false) T.a3 a22 0 λb24=>
Ac (n23 != 0 || b24) (
Cl T.a7 a22 λb25 n26=>
AC T.a7 a1 (Ci b25 n26)<|
Ag n23 λn27=>
Cl T.a7 a1 λb28 n29=>
Ah 0 [Ci b28 n29,Ai n27])<|
Aa 1 (
AT<|
.hold True (ld T.a7 a22) (sG [.bool,.int .i64]) (u2 λb30 (n31:Int)=>
As p λa33=>
AW T.a32 a33 5 λp34=>
AE T.a0 a0 λn35 n36 n37 n38 n39 n40 l41=>
Aw F.a70 [Aq p34,AD n35 n36 n37 n38 n39 n40 l41] λn42=>
AU<|
AC T.a7 a1 (Ci b30 n31)<|
Ag n42 λn43=>
AU<|
Ah 1 [Ai n43])) λn44=>
Cl T.a7 a1 λb45 n46=>
Ah 0 [Ci b45 n46,Ai n44])
theorem zn4 (p:Option Addr) (b_0 b_1 b_2 b_3 b_4 b_5:Int) (b_6:Sl):FnS (z00d p b_0 b_1 b_2 b_3 b_4 b_5 b_6) F.a113 #[.pointer p,.agg #[.int .i64 b_0,.int .i64 b_1,.int .i64 b_2,.int .i64 b_3,.int .i64 b_4,.int .i64 b_5,.slice b_6.a b_6.len b_6.cap]]:=dV ⟨[],[],[(1,[(6,.one .adr),(7,.one (.int .i64))]),(4,[(5,.one (.int .i64))])],[]⟩ Go.Proofs.Tryz.func210 (by kernel_rfl)
def z08u (p:Option Addr) (t:Option Addr):Prog :=
.bind 1 [.one .slc,.one .slc] (
AT<|
As p λa1=>
Bg T.a32 a1 5 λp2=>
An F.a22 [Aq t] λl3=>
AU<|
An F.a65 [Aq p2] λl4=>
AU<|
Ah 1 [l3.v,l4.v]) (u2 λl5 l6=>
Ac (decide ((Ad l5)>262144) || decide ((Ad l6)>262144)) (
Ah 0 [Ai 7])<|
Ak 1 (
AT<|
B0 (convert T.a50 T.a55 l5.v) λs7=>
B0 (convert T.a50 T.a55 l6.v) λs8=>
Aw F.a109 [Aq p] λn9=>
An F.a242 [.int .u64 (IntKind.wrap .u64 n9)] λl10=>
An F.a241 [.string s7] λl11=>
AU<|
An F.a241 [.string s8] λl12=>
Aj (Instr.buildSlice T.a48 3 #[(0,l10.v),(1,l11.v),(2,l12.v)]) λl13=>
An F.a52 [l13.v] λl14=>
AU<|
Ah 1 [l14.v]) λl15=>
Ac ((Ad l15) == 0) (
Ah 0 [Ai 7])<|
AK 1 (
AT<|
As p λa17=>
Bg T.a29 (Addr.add a17 0) 1 λp18=>
AP F.a120 [Aq p] λs19=>
AU<|
Ar F.a121 [Aq p18,.string s19] λb20=>
AU<|
Ah 1 [.bool b20]) λb21=>
Ax 1 (
Ac b21 (
Aa 2 (
AT<|
As p λa23=>
Bg T.a29 (Addr.add a23 0) 1 λp24=>
AP F.a120 [Aq p] λs25=>
AU<|
Aw F.a39 [Aq p24,.string s25] λn26=>
Ag n26 λn27=>
AU<|
Ah 2 [Ai n27]) λn28=>
Ac (n28 != 0) (
Ag n28 λn29=>
Ah 0 [Ai n29])<|
Ah 1 [])<|
Ah 1 [])<|
Aa 1 (
AT<|
As p λa31=>
Bg T.a29 (Addr.add a31 0) 1 λp32=>
.both (
AP F.a120 [Aq p] λs33=>
Aj (Instr.buildSlice T.a48 1 #[(0,l15.v)]) λl34=>
AU<|
Aw F.a33 [Aq p32,.string s33,l34.v] λn35=>
Ag n35 λn36=>
AU<|
Ah 1 [Ai n36]) <|
Aj (Instr.buildSlice T.a48 1 #[(0,l15.v)]) λl37=>
AP F.a120 [Aq p] λs38=>
AU<|
Aw F.a33 [Aq p32,.string s38,l37.v] λn39=>
Ag n39 λn40=>
AU<|
Ah 1 [Ai n40]) λn41=>
Ac (n41 != 0) (
Ag n41 λn42=>
Ah 0 [Ai n42])<|
Aa 1 (
AT<|
As p λa44=>
Bg T.a29 (Addr.add a44 0) 1 λp45=>
AP F.a120 [Aq p] λs46=>
Aj (Instr.buildSlice T.a49 1 #[(0,.string s46)]) λl47=>
AU<|
Aw F.a42 [Aq p45,l47.v] λn48=>
Ag n48 λn49=>
AU<|
Ah 1 [Ai n49]) λn50=>
Ac (n50 != 0) (
Ag n50 λn51=>
Ah 0 [Ai n51])<|
Aa 1 (
AT<|
As p λa53=>
Bg T.a29 (Addr.add a53 0) 1 λp54=>
AP F.a120 [Aq p] λs55=>
AP F.a118 [Aq p] λs56=>
AU<|
Aw F.a40 [Aq p54,.string s55,.string s56] λn57=>
Ag n57 λn58=>
AU<|
Ah 1 [Ai n58]) λn59=>
Ah 0 [Ai n59])
def z0a6 (l:Sl):Prog :=
B4 (Instr.makeMap T.a22 (some (Ai (Ad l)))) λm0=>
Ax 1 (
AV 2 (0,()) λn1=>
Ac (decide (n1<(Ad l))) (
.ex [.adr] (c1 λa2=>0<=n1/\n1<(Ad l)/\l.a=some a2) (u1 λa3=>
BW T.a38 a3 (Int.toNat n1*5) λn4 s5 s6 b7 n8=>
AB T.a38 λa9=>
Ag n1 λn10=>
AC T.a38 a9 (BX n4 s5 s6 b7 n8)<|
Bh T.a55 (Addr.add a9 1) 0 λs11=>
Bs (Instr.mapUpdate T.a22 (.map m0) (.string s11) (Ai n10))<|
Ah 2 [Ai (Af (n1+1))]))<|
Ah 1 [])<|
Ah 0 [.map m0]
def z0a5 (b_0 b_1 b_2 b_3 b_4 b_5:Int) (b_6:Sl) (r_0:Int) (r_1 r_2:ByteArray) (r_3:Bool) (r_4:Int):Prog :=
Ao T.a0 (AD b_0 b_1 b_2 b_3 b_4 b_5 b_6) λa0=>
Ao T.a38 (BX r_0 r_1 r_2 r_3 r_4) λa1=>
Ae T.a40 a0 6 λl2=>
Ag (Ad l2) λn3=>
Bb ((decide (n3>0) && decide (n3<64))=true) T.a14 a1 0 λn4=>
Bb ((decide (n3>0) && decide (n3<64))=true) T.a14 a0 0 λn5=>
AM (decide (n3>0) && decide (n3<64) && Af (n4-n3) == n5) λb6=>
Ah 0 [.bool b6]
def z06n (i:Int) (fv0:Option Addr) (fv1:Option Addr):Prog :=
AT<|
Bn T.a27 fv0 λp0=>
As p0 λa2=>
Ae T.a47 a2 1 λl3=>
.ex [.adr] (c1 λa4=>0<=i/\i<(Ad l3)/\l3.a=some a4) (u1 λa5=>
Bh T.a55 (Addr.add (Addr.add a5 (Int.toNat i*5)) 1) 0 λs6=>
Bk (Instr.loadAt T.a55 (Aq fv1)) λs7=>
AM (not (Op.bytesLess (ByteArray.toList s6) (ByteArray.toList s7))) λb8=>
AU<|
Ah 0 [.bool b8])
theorem zt3 (i:Int) (fv0 fv1:Option Addr):FnS (z06n i fv0 fv1) F.a13 #[.int .i64 i,.pointer fv0,.pointer fv1]:=dV ⟨[],[],[],[]⟩ Go.Proofs.Tryz.func224 (by kernel_rfl)
def z0ac (r:Option Addr) (most:Int):Prog :=
Av F.a238 [Aq r] λn0=>
Am n0 λn1=>
Ac (decide (n1>IntKind.wrap .u64 most)) (
Ag (Af (most+1)) λn2=>
Ah 0 [Ai n2])<|
Ag (Af n1) λn3=>
Ah 0 [Ai n3]
def z0ab (r_0 r_1 r_2 r_3 r_4 r_5 r_6:Int) (next_:Int):Prog :=
Ao T.a5 (BS r_0 r_1 r_2 r_3 r_4 r_5 r_6) λa0=>
Az T.a14 a0 0 λn1=>
Bb (decide (n1<1)=false) T.a14 a0 0 λn2=>
Bb ((decide (n1<1) || decide (n2>1048576))=false) T.a13 a0 1 λn3=>
Bb ((decide (n1<1) || decide (n2>1048576) || decide (n3>32768))=false) T.a14 a0 6 λn4=>
Bb ((decide (n1<1) || decide (n2>1048576) || decide (n3>32768) || decide (n4>1099511627776))=false) T.a13 a0 3 λn5=>
Ac (decide (n1<1) || decide (n2>1048576) || decide (n3>32768) || decide (n4>1099511627776) || decide (n5>64)) (
Ah 0 [.bool false])<|
Az T.a13 a0 3 λn6=>
Ac (n6 == 0) (
Az T.a13 a0 2 λn7=>
Bb ((n7 == 0)=true) T.a14 a0 4 λn8=>
Bb ((n7 == 0 && n8 == 0)=true) T.a14 a0 5 λn9=>
AM (n7 == 0 && n8 == 0 && n9 == -1) λb10=>
Ah 0 [.bool b10])<|
AK 1 (
Az T.a13 a0 1 λn11=>
Cj (decide (n11<=32767)=true) T.a5 a0 λn12 n13 n14 n15 n16 n17 n18=>
Ac (decide (n11<=32767)) (
Aw F.a20 [BS n12 n13 n14 n15 n16 n17 n18] λn19=>
Bb (decide (n19<=2147483648)=true) T.a14 a0 4 λn20=>
Bb (decide (n19<=2147483648)=true) T.a13 a0 3 λn21=>
Bb ((decide (n19<=2147483648) && decide (Af (n20+n21)<=next_))=true) T.a14 a0 5 λn22=>
Bb ((decide (n19<=2147483648) && decide (Af (n20+n21)<=next_))=true) T.a14 a0 4 λn23=>
AM (decide (n19<=2147483648) && decide (Af (n20+n21)<=next_) && decide (n22<=n23)) λb24=>
Ah 1 [.bool b24])<|
Ah 1 [.bool false]) λb25=>
Ah 0 [.bool b25]
def z0am (r:Option Addr) (most:Int):Prog :=
Av F.a238 [Aq r] λn0=>
Am n0 λn1=>
Ac (decide (n1>IntKind.wrap .u64 most)) (
Ag (Af (most+1)) λn2=>
Ah 0 [Ai n2])<|
Ag (Af n1) λn3=>
Ah 0 [Ai n3]
def z0ak (v:Option Addr) (r:Option Addr):Prog :=
Aw F.a82 [Aq r,Ai 1024] λn0=>
Ag n0 λn1=>
Ax 1 (
Ab 2 (-1,(0,())) λn2 n3=>
Ac (decide (n3<n1)) (
As v λa5=>
Az T.a14 a5 0 λn6=>
BU F.a81 [Aq r,Ai n6] λn7 n8 n9 n10 b11=>
AB T.a18 λa12=>
AC T.a18 a12 (BE n7 n8 n9 n10)<|
AM b11 λb13=>
AK 3 (
AT<|
As v λa15=>
Cf T.a20 a15 1 λm16=>
AY T.a14 (Addr.add a12 0) 0 λn17=>
Cg (Instr.lookup T.a20 (.map m16) (Ai n17) true) λn18 n19 n20 n21 b22=>
AB T.a18 λa23=>
AU<|
AC T.a18 a23 (BE n18 n19 n20 n21)<|
AM b22 λb24=>
AU<|
Ah 3 [.bool b24]) λb25=>
Bb ((not b13 || b25)=false) T.a14 a12 2 λn26=>
Ac (not b13 || b25 || decide (n26<=n2) || decide (n3>=1024)) (
Ah 0 [.bool false])<|
AT<|
As v λa28=>
B5 T.a20 a28 1 λm29=>
Az T.a14 (Addr.add a12 0) 0 λn30=>
BF T.a18 a12 λn31 n32 n33 n34=>
Bs (Instr.mapUpdate T.a20 (.map m29) (Ai n30) (BE n31 n32 n33 n34))<|
AU<|
Az T.a14 a12 2 λn35=>
Ag n35 λn36=>
Ag (Af (n3+1)) λn37=>
Ah 2 [Ai n36,Ai n37])<|
Ah 1 [])<|
Aw F.a234 [Aq r] λn38=>
AM (n38 == 0) λb39=>
Ah 0 [.bool b39]
def z0aj (v:Option Addr) (r:Option Addr):Prog :=
Aw F.a82 [Aq r,Ai 4096] λn0=>
Ag n0 λn1=>
Ax 1 (
Ab 2 (-1,(0,())) λn2 n3=>
Ac (decide (n3<n1)) (
As v λa5=>
Az T.a14 a5 0 λn6=>
BU F.a81 [Aq r,Ai n6] λn7 n8 n9 n10 b11=>
AB T.a18 λa12=>
AC T.a18 a12 (BE n7 n8 n9 n10)<|
AM b11 λb13=>
Aw F.a82 [Aq r,Ai 1099511627776] λn14=>
Be T.a14 a12 3 (Ai n14)<|
AK 3 (
AT<|
As v λa16=>
Cf T.a21 a16 2 λm17=>
.hold True (ld T.a17 (Addr.add a12 0)) (sG [.int .i64,.int .i64]) (u2 λ(n18 n19:Int)=>
Cg (Instr.lookup T.a21 (.map m17) (AI n18 n19) true) λn20 n21 n22 n23 b24=>
AB T.a18 λa25=>
AU<|
AC T.a18 a25 (BE n20 n21 n22 n23)<|
AM b24 λb26=>
AU<|
Ah 3 [.bool b26])) λb27=>
AK 3 (
AT<|
Ac (not b13) (
AU<|
Ah 3 [.bool true])<|
Aw F.a234 [Aq r] λn28=>
AZ ((n28 != 0 || b27)=false) v λa30=>
B7 ((n28 != 0 || b27)=false) T.a20 a30 1 λm31=>
Bb ((n28 != 0 || b27)=false) T.a14 (Addr.add a12 0) 0 λn32=>
.read ((n28 != 0 || b27)=false) (Instr.lookup T.a20 (.map m31) (Ai n32) false) (sG [.int .i64,.int .i64,.int .i64,.int .i64]) (u4 λ(n33 n34 n35 n36:Int)=>
AL ((n28 != 0 || b27)=false) (ld T.a17 (Addr.add a12 0)) λn37 n38=>
Bb ((n28 != 0 || b27 || n33 == n37 && n34 == n38)=false) T.a14 a12 3 λn39=>
Bb ((n28 != 0 || b27 || n33 == n37 && n34 == n38 || decide (n39<=n2))=false) T.a14 a12 3 λn40=>
Bb ((n28 != 0 || b27 || n33 == n37 && n34 == n38 || decide (n39<=n2))=false) T.a14 a12 2 λn41=>
Bb ((n28 != 0 || b27 || n33 == n37 && n34 == n38 || decide (n39<=n2) || decide (n40<=n41))=false) T.a14 a12 3 λn42=>
AZ ((n28 != 0 || b27 || n33 == n37 && n34 == n38 || decide (n39<=n2) || decide (n40<=n41))=false) v λa44=>
Bb ((n28 != 0 || b27 || n33 == n37 && n34 == n38 || decide (n39<=n2) || decide (n40<=n41))=false) T.a14 a44 0 λn45=>
AU<|
Ah 3 [.bool (n28 != 0 || b27 || n33 == n37 && n34 == n38 || decide (n39<=n2) || decide (n40<=n41) || decide (n42>=n45) || decide (n3>=4096))])) λb46=>
Ac b46 (
Ah 0 [.bool false])<|
AT<|
As v λa48=>
B5 T.a21 a48 2 λm49=>
Cb T.a17 a12 0 λn50 n51=>
BF T.a18 a12 λn52 n53 n54 n55=>
Bs (Instr.mapUpdate T.a21 (.map m49) (AI n50 n51) (BE n52 n53 n54 n55))<|
AU<|
Az T.a14 a12 3 λn56=>
Ag n56 λn57=>
Ag (Af (n3+1)) λn58=>
Ah 2 [Ai n57,Ai n58])<|
Ah 1 [])<|
Aw F.a234 [Aq r] λn59=>
AM (n59 == 0) λb60=>
Ah 0 [.bool b60]
def z06t (t:Option Addr) (b_0 b_1 b_2 b_3 b_4 b_5:Int) (b_6:Sl):Prog :=
Ao T.a0 (AD b_0 b_1 b_2 b_3 b_4 b_5 b_6) λa0=>
AB T.a7 λa1=>
Ac (Option.isNone t) (
AC T.a7 a1 (Ci false 0)<|
Cl T.a7 a1 λb2 n3=>
Ah 0 [Ci b2 n3,Ai 1])<|
AE T.a0 a0 λn4 n5 n6 n7 n8 n9 l10=>
Aw F.a131 [AD n4 n5 n6 n7 n8 n9 l10] λn11=>
Ag n11 λn12=>
Bb ((n12 != 0)=false) T.a14 a0 1 λn13=>
Ac (n12 != 0 || n13 == 0) (
AC T.a7 a1 (Ci false 0)<|
Ag n12 λn14=>
Cl T.a7 a1 λb15 n16=>
Ah 0 [Ci b15 n16,Ai n14])<|
Az T.a14 a0 1 λn17=>
.call F.a28 [Aq t,Ai n17] (.tup [.agg [.int .i64,.int .i64,.int .i64,.int .i64,.int .i64,.int .i64,.int .i64],.one .bool]) (u8 λ(n18 n19 n20 n21 n22 n23 n24:Int) b25=>
AB T.a5 λa26=>
AC T.a5 a26 (BS n18 n19 n20 n21 n22 n23 n24)<|
AM b25 λb27=>
Az T.a13 a0 2 λn28=>
Az T.a13 a26 1 λn29=>
Ac (decide (n28<n29)) (
AE T.a0 a0 λn30 n31 n32 n33 n34 n35 l36=>
Ar F.a30 [AD n30 n31 n32 n33 n34 n35 l36] λb37=>
Ac b37 (
AC T.a7 a1 (.agg #[.bool true,Ai (-1)])<|
Cl T.a7 a1 λb38 n39=>
Ah 0 [Ci b38 n39,Ai 0])<|
AC T.a7 a1 (Ci false 0)<|
Cl T.a7 a1 λb40 n41=>
Ah 0 [Ci b40 n41,Ai 20])<|
AE T.a0 a0 λn42 n43 n44 n45 n46 n47 l48=>
Ar F.a30 [AD n42 n43 n44 n45 n46 n47 l48] λb49=>
Ax 1 (
Ac (not b49) (
Ck T.a5 a26 λn50 n51 n52 n53 n54 n55 n56=>
AE T.a0 a0 λn57 n58 n59 n60 n61 n62 l63=>
.call F.a29 [BS n50 n51 n52 n53 n54 n55 n56,AD n57 n58 n59 n60 n61 n62 l63] (.tup [.agg [.bool,.int .i64],.one .bool]) (u3 λb64 (n65:Int) b66=>
AB T.a7 λa67=>
AC T.a7 a67 (Ci b64 n65)<|
AJ b66 (
Cl T.a7 a67 λb69 n70=>
AC T.a7 a1 (Ci b69 n70)<|
Cl T.a7 a1 λb71 n72=>
Ah 0 [Ci b71 n72,Ai 0])<|
Ah 1 []))<|
Ah 1 [])<|
Ck T.a5 a26 λn73 n74 n75 n76 n77 n78 n79=>
AE T.a0 a0 λn80 n81 n82 n83 n84 n85 l86=>
Aw F.a27 [Aq t,BS n73 n74 n75 n76 n77 n78 n79,.bool b27,AD n80 n81 n82 n83 n84 n85 l86] λn87=>
AC T.a7 a1 (Ci false 0)<|
Ag n87 λn88=>
Cl T.a7 a1 λb89 n90=>
Ah 0 [Ci b89 n90,Ai n88])
theorem zta (t:Option Addr) (b_0 b_1 b_2 b_3 b_4 b_5:Int) (b_6:Sl):FnS (z06t t b_0 b_1 b_2 b_3 b_4 b_5 b_6) F.a23 #[.pointer t,.agg #[.int .i64 b_0,.int .i64 b_1,.int .i64 b_2,.int .i64 b_3,.int .i64 b_4,.int .i64 b_5,.slice b_6.a b_6.len b_6.cap]]:=dV ⟨[(18374686479678046251,[])],[],[],[]⟩ Go.Proofs.Tryz.func258 (by kernel_rfl)
def z06w (t:Option Addr) (pid:Int):Prog :=
AB T.a5 λa0=>
As t λa2=>
B5 T.a19 a2 2 λm3=>
.read True (Instr.lookup T.a19 (.map m3) (Ai pid) true) (.tup [.agg [.int .i64,.int .i64,.int .i64,.int .i64,.int .i64,.int .i64,.int .i64],.one .bool]) (u8 λ(n4 n5 n6 n7 n8 n9 n10:Int) b11=>
AB T.a5 λa12=>
AC T.a5 a12 (BS n4 n5 n6 n7 n8 n9 n10)<|
AM b11 λb13=>
Ac (not b13) (
AC T.a5 a0 (.agg #[Ai pid,Ai (-1),Ai 0,Ai 0,Ai 0,Ai (-1),Ai 0])<|
Ck T.a5 a0 λn14 n15 n16 n17 n18 n19 n20=>
Ah 0 [BS n14 n15 n16 n17 n18 n19 n20,.bool false])<|
Ck T.a5 a12 λn21 n22 n23 n24 n25 n26 n27=>
AC T.a5 a0 (BS n21 n22 n23 n24 n25 n26 n27)<|
Ck T.a5 a0 λn28 n29 n30 n31 n32 n33 n34=>
Ah 0 [BS n28 n29 n30 n31 n32 n33 n34,.bool true])
theorem ztd (t:Option Addr) (pid:Int):FnS (z06w t pid) F.a28 #[.pointer t,.int .i64 pid]:=dV ⟨[],[],[],[]⟩ Go.Proofs.Tryz.func259 (by kernel_rfl)
def z06s (r_0 r_1 r_2 r_3 r_4 r_5:Int) (r_6:Int):Prog :=
Ao T.a5 (BS r_0 r_1 r_2 r_3 r_4 r_5 r_6) λa0=>
Az T.a14 a0 5 λn1=>
AM (decide (n1>=0)) λb2=>
Ah 0 [.bool b2]
theorem zt9 (r_0 r_1 r_2 r_3 r_4 r_5 r_6:Int):FnS (z06s r_0 r_1 r_2 r_3 r_4 r_5 r_6) F.a21 #[.agg #[.int .i64 r_0,.int .i64 r_1,.int .i64 r_2,.int .i64 r_3,.int .i64 r_4,.int .i64 r_5,.int .i64 r_6]]:=dV ⟨[],[],[],[]⟩ Go.Proofs.Tryz.func260 (by kernel_rfl)
def z07t (v:Option Addr) (b_0 b_1 b_2 b_3 b_4 b_5:Int) (b_6:Sl):Prog :=
Ao T.a0 (AD b_0 b_1 b_2 b_3 b_4 b_5 b_6) λa0=>
Ac (Option.isNone v) (
Ah 0 [Ai 1])<|
AE T.a0 a0 λn1 n2 n3 n4 n5 n6 l7=>
Aw F.a131 [AD n1 n2 n3 n4 n5 n6 l7] λn8=>
Ag n8 λn9=>
Ac (n9 != 0) (
Ag n9 λn10=>
Ah 0 [Ai n10])<|
AT<|
Az T.a14 a0 0 λn11=>
As v λa13=>
Az T.a14 a13 0 λn14=>
AM (decide (n11<n14)) λb15=>
AU<|
Ac b15 (
Ah 0 [Ai 8])<|
Az T.a13 a0 4 λn16=>
AJ (n16 != 0) (
AE T.a0 a0 λn18 n19 n20 n21 n22 n23 l24=>
Aw F.a77 [Aq v,AD n18 n19 n20 n21 n22 n23 l24] λn25=>
Ag n25 λn26=>
Ah 0 [Ai n26])<|
Ah 0 [Ai 0]
theorem zua (v:Option Addr) (b_0 b_1 b_2 b_3 b_4 b_5:Int) (b_6:Sl):FnS (z07t v b_0 b_1 b_2 b_3 b_4 b_5 b_6) F.a70 #[.pointer v,.agg #[.int .i64 b_0,.int .i64 b_1,.int .i64 b_2,.int .i64 b_3,.int .i64 b_4,.int .i64 b_5,.slice b_6.a b_6.len b_6.cap]]:=dV ⟨[],[],[],[]⟩ Go.Proofs.Tryz.func261 (by kernel_rfl)
def z07x (l_0 l_1 l_2:Int) (l_3:Int):Prog :=
Ao T.a18 (BE l_0 l_1 l_2 l_3) λa0=>
AB T.a15 λa1=>
Az T.a14 (Addr.add a0 0) 0 λn2=>
Az T.a13 (Addr.add a0 0) 1 λn3=>
Az T.a14 a0 2 λn4=>
Az T.a14 a0 3 λn5=>
AC T.a15 a1 (BE n2 n3 n4 n5)<|
BF T.a15 a1 λn6 n7 n8 n9=>
Ah 0 [BE n6 n7 n8 n9]
theorem zug (l_0 l_1 l_2 l_3:Int):FnS (z07x l_0 l_1 l_2 l_3) F.a79 #[.agg #[.int .i64 l_0,.int .i64 l_1,.int .i64 l_2,.int .i64 l_3]]:=dV ⟨[],[],[],[]⟩ Go.Proofs.Tryz.func265 (by kernel_rfl)
def z07u (a_0 a_1 a_2 a_3 b_0 b_1 b_2:Int) (b_3:Int):Prog :=
Ao T.a15 (BE a_0 a_1 a_2 a_3) λa0=>
Ao T.a15 (BE b_0 b_1 b_2 b_3) λa1=>
Az T.a14 a0 2 λn2=>
Az T.a14 a1 2 λn3=>
Aw F.a1 [Ai n2,Ai n3] λn4=>
Ag n4 λn5=>
Ah 0 [Ai n5]
theorem zuc (a_0 a_1 a_2 a_3 b_0 b_1 b_2 b_3:Int):FnS (z07u a_0 a_1 a_2 a_3 b_0 b_1 b_2 b_3) F.a73 #[.agg #[.int .i64 a_0,.int .i64 a_1,.int .i64 a_2,.int .i64 a_3],.agg #[.int .i64 b_0,.int .i64 b_1,.int .i64 b_2,.int .i64 b_3]]:=dV ⟨[],[],[],[]⟩ Go.Proofs.Tryz.func267 (by kernel_rfl)
def z0a8 (t:Option Addr):Prog :=
Ac (Option.isNone t) (
Ah 0 [.slice none 0 0])<|
Ak 1 (
AT<|
As t λa1=>
Az T.a14 a1 1 λn2=>
As t λa4=>
Cf T.a19 a4 2 λm5=>
An F.a242 [.int .u64 (IntKind.wrap .u64 n2)] λl6=>
BC (Builtin.len_ #[T.a19] T.a13 #[.map m5]) λn7=>
AU<|
An F.a242 [.int .u64 (IntKind.wrap .u64 n7)] λl8=>
Aj (Instr.buildSlice T.a48 2 #[(0,l6.v),(1,l8.v)]) λl9=>
An F.a230 [l9.v] λl10=>
AU<|
Ah 1 [l10.v]) λl11=>
An F.a25 [Aq t] λl12=>
Ak 1 (
Al 2 ({ a:=l11.a,len:=l11.len,cap:=l11.cap },(0,())) λl13 n14=>
Ac (decide (n14<(Ad l12))) (
Ak 3 (
.ex [.adr] (c1 λa15=>0<=n14/\n14<(Ad l12)/\l12.a=some a15) (u1 λa16=>
BT T.a5 a16 (Int.toNat n14*7) λn17 n18 n19 n20 n21 n22 n23=>
AB T.a5 λa24=>
AC T.a5 a24 (BS n17 n18 n19 n20 n21 n22 n23)<|
Az T.a14 a24 0 λn25=>
Az T.a13 a24 1 λn26=>
Az T.a13 a24 2 λn27=>
Az T.a13 a24 3 λn28=>
Az T.a14 a24 4 λn29=>
Aj (Instr.buildSlice T.a42 5 #[(0,Ai n25),(1,Ai n26),(2,Ai n27),(3,Ai n28),(4,Ai n29)]) λl30=>
Ak 4 (
Al 5 ({ a:=l13.a,len:=l13.len,cap:=l13.cap },(0,())) λl31 n32=>
Ac (decide (n32<(Ad l30))) (
.ex [.adr] (c1 λa33=>0<=n32/\n32<(Ad l30)/\l30.a=some a33) (u1 λa34=>
Az T.a14 a34 (Int.toNat n32*1) λn35=>
Ag n35 λn36=>
An F.a242 [.int .u64 (IntKind.wrap .u64 n36)] λl37=>
Aj (app T.a50 T.a50 T.a50 l31.v l37.v) λl38=>
Ah 5 [l38.v,Ai (Af (n32+1))]))<|
Ah 4 [l31.v]) λl39=>
Ak 4 (
AT<|
Az T.a14 a24 5 λn40=>
AY T.a14 a24 6 λn41=>
An F.a229 [Ai n40] λl42=>
AU<|
An F.a242 [.int .u64 (IntKind.wrap .u64 n41)] λl43=>
Aj (Instr.buildSlice T.a48 2 #[(0,l42.v),(1,l43.v)]) λl44=>
An F.a230 [l44.v] λl45=>
Aj (app T.a50 T.a50 T.a50 l39.v l45.v) λl46=>
AU<|
Ah 4 [l46.v]) λl47=>
Ah 3 [l47.v])) λl48=>
Ah 2 [l48.v,Ai (Af (n14+1))])<|
Ah 1 [l13.v]) λl49=>
Aj (Instr.buildSlice T.a48 1 #[(0,l49.v)]) λl50=>
An F.a52 [l50.v] λl51=>
Ah 0 [l51.v]
def z0af (v:Option Addr):Prog :=
Ac (Option.isNone v) (
Ah 0 [.slice none 0 0])<|
An F.a72 [Aq v] λl0=>
An F.a66 [Aq v] λl1=>
As v λa3=>
Az T.a14 a3 0 λn4=>
An F.a242 [.int .u64 (IntKind.wrap .u64 n4)] λl5=>
An F.a242 [.int .u64 (IntKind.wrap .u64 (Ad l0))] λl6=>
Aj (Instr.buildSlice T.a48 2 #[(0,l5.v),(1,l6.v)]) λl7=>
An F.a230 [l7.v] λl8=>
Ak 1 (
Al 2 ({ a:=l8.a,len:=l8.len,cap:=l8.cap },(0,())) λl9 n10=>
Ac (decide (n10<(Ad l0))) (
.ex [.adr] (c1 λa11=>0<=n10/\n10<(Ad l0)/\l0.a=some a11) (u1 λa12=>
BO T.a15 a12 (Int.toNat n10*4) λn13 n14 n15 n16=>
AB T.a15 λa17=>
AC T.a15 a17 (BE n13 n14 n15 n16)<|
Ak 3 (
AT<|
Az T.a14 a17 0 λn18=>
AY T.a13 a17 1 λn19=>
AY T.a14 a17 2 λn20=>
An F.a242 [.int .u64 (IntKind.wrap .u64 n18)] λl21=>
An F.a242 [.int .u64 (IntKind.wrap .u64 n19)] λl22=>
AU<|
An F.a242 [.int .u64 (IntKind.wrap .u64 n20)] λl23=>
Aj (Instr.buildSlice T.a48 3 #[(0,l21.v),(1,l22.v),(2,l23.v)]) λl24=>
An F.a230 [l24.v] λl25=>
Aj (app T.a50 T.a50 T.a50 l9.v l25.v) λl26=>
AU<|
Ah 3 [l26.v]) λl27=>
Ah 2 [l27.v,Ai (Af (n10+1))]))<|
Ah 1 [l9.v]) λl28=>
An F.a242 [.int .u64 (IntKind.wrap .u64 (Ad l1))] λl29=>
Aj (app T.a50 T.a50 T.a50 l28.v l29.v) λl30=>
Ak 1 (
Al 2 ({ a:=l30.a,len:=l30.len,cap:=l30.cap },(0,())) λl31 n32=>
Ac (decide (n32<(Ad l1))) (
.ex [.adr] (c1 λa33=>0<=n32/\n32<(Ad l1)/\l1.a=some a33) (u1 λa34=>
BO T.a15 a34 (Int.toNat n32*4) λn35 n36 n37 n38=>
AB T.a15 λa39=>
AC T.a15 a39 (BE n35 n36 n37 n38)<|
Ak 3 (
AT<|
Az T.a14 a39 0 λn40=>
AY T.a13 a39 1 λn41=>
AY T.a14 a39 2 λn42=>
AY T.a14 a39 3 λn43=>
An F.a242 [.int .u64 (IntKind.wrap .u64 n40)] λl44=>
An F.a242 [.int .u64 (IntKind.wrap .u64 n41)] λl45=>
An F.a242 [.int .u64 (IntKind.wrap .u64 n42)] λl46=>
AU<|
An F.a242 [.int .u64 (IntKind.wrap .u64 n43)] λl47=>
Aj (Instr.buildSlice T.a48 4 #[(0,l44.v),(1,l45.v),(2,l46.v),(3,l47.v)]) λl48=>
An F.a230 [l48.v] λl49=>
Aj (app T.a50 T.a50 T.a50 l31.v l49.v) λl50=>
AU<|
Ah 3 [l50.v]) λl51=>
Ah 2 [l51.v,Ai (Af (n32+1))]))<|
Ah 1 [l31.v]) λl52=>
Aj (Instr.buildSlice T.a48 1 #[(0,l52.v)]) λl53=>
An F.a52 [l53.v] λl54=>
Ah 0 [l54.v]
def z06r (r_0 r_1 r_2 r_3 r_4 r_5:Int) (r_6:Int):Prog :=
Ao T.a5 (BS r_0 r_1 r_2 r_3 r_4 r_5 r_6) λa0=>
Az T.a13 a0 2 λn1=>
Az T.a13 a0 3 λn2=>
Ag (Af (n1+n2)) λn3=>
Ah 0 [Ai n3]
theorem zt8 (r_0 r_1 r_2 r_3 r_4 r_5 r_6:Int):FnS (z06r r_0 r_1 r_2 r_3 r_4 r_5 r_6) F.a20 #[.agg #[.int .i64 r_0,.int .i64 r_1,.int .i64 r_2,.int .i64 r_3,.int .i64 r_4,.int .i64 r_5,.int .i64 r_6]]:=dV ⟨[],[],[],[]⟩ Go.Proofs.Tryz.func304 (by kernel_rfl)
def z0al (r:Option Addr) (next_:Int):Prog :=
AB T.a18 λa0=>
Aw F.a82 [Aq r,Ai 1048576] λn1=>
Aw F.a82 [Aq r,Ai 32767] λn2=>
Aw F.a82 [Aq r,Ai 1099511627776] λn3=>
AB T.a18 λa4=>
AC T.a18 a4 (.agg #[Ai n1,Ai n2,Ai n3,Ai (-1)])<|
AK 1 (
AT<|
.hold True (ld T.a18 a4) (sG [.int .i64,.int .i64,.int .i64,.int .i64]) (u4 λ(n5 n6 n7 n8:Int)=>
Aw F.a234 [Aq r] λn9=>
Bb ((n9 == 0)=true) T.a14 (Addr.add a4 0) 0 λn10=>
Bb ((n9 == 0 && decide (n10>=1))=true) T.a14 (Addr.add a4 0) 0 λn11=>
Bb ((n9 == 0 && decide (n10>=1) && decide (n11<=1048576))=true) T.a13 (Addr.add a4 0) 1 λn12=>
Cc ((n9 == 0 && decide (n10>=1) && decide (n11<=1048576) && decide (n12<=32767))=true) T.a14 a4 2 λn13=>
AC T.a18 a0 (BE n5 n6 n7 n8)<|
AM (n9 == 0 && decide (n10>=1) && decide (n11<=1048576) && decide (n12<=32767) && decide (n13<next_)) λb14=>
AU<|
Ah 1 [.bool b14])) λb15=>
BF T.a18 a0 λn16 n17 n18 n19=>
Ah 0 [BE n16 n17 n18 n19,.bool b15]
def z06y (b_0 b_1 b_2 b_3 b_4 b_5:Int) (b_6:Sl):Prog :=
Ao T.a0 (AD b_0 b_1 b_2 b_3 b_4 b_5 b_6) λa0=>
Az T.a13 a0 4 λn1=>
Bb ((n1 == 2)=false) T.a13 a0 4 λn2=>
AM (n1 == 2 || n2 == 3) λb3=>
Ah 0 [.bool b3]
theorem ztf (b_0 b_1 b_2 b_3 b_4 b_5:Int) (b_6:Sl):FnS (z06y b_0 b_1 b_2 b_3 b_4 b_5 b_6) F.a30 #[.agg #[.int .i64 b_0,.int .i64 b_1,.int .i64 b_2,.int .i64 b_3,.int .i64 b_4,.int .i64 b_5,.slice b_6.a b_6.len b_6.cap]]:=dV ⟨[],[],[],[]⟩ Go.Proofs.Tryz.func306 (by kernel_rfl)
def z06x (r_0 r_1 r_2 r_3 r_4 r_5 r_6 b_0 b_1 b_2 b_3 b_4 b_5:Int) (b_6:Sl):Prog :=
Ao T.a5 (BS r_0 r_1 r_2 r_3 r_4 r_5 r_6) λa0=>
Ao T.a0 (AD b_0 b_1 b_2 b_3 b_4 b_5 b_6) λa1=>
AB T.a7 λa2=>
AK 1 (
AT<|
Az T.a13 a1 2 λn3=>
Az T.a13 a0 1 λn4=>
Cc ((n3 != n4)=false) T.a13 a1 3 λn5=>
.hold ((n3 != n4)=false) (ld T.a40 (Addr.add a1 6)) sL (u1 λl6=>
Cj ((n3 != n4)=false) T.a5 a0 λn7 n8 n9 n10 n11 n12 n13=>
Ac (n3 != n4) (
AU<|
Ah 1 [.bool true])<|
Aw F.a20 [BS n7 n8 n9 n10 n11 n12 n13] λn14=>
AU<|
Ah 1 [.bool (decide (Af (n5+(Ad l6))>n14))])) λb15=>
Ac b15 (
AC T.a7 a2 (Ci false 0)<|
Cl T.a7 a2 λb16 n17=>
Ah 0 [Ci b16 n17,.bool false])<|
Az T.a13 a1 3 λn18=>
Az T.a13 a0 2 λn19=>
Ba ((n18 == n19)=true) T.a40 a1 6 λl20=>
Bb ((n18 == n19)=true) T.a13 a0 3 λn21=>
Ac (n18 == n19 && (Ad l20) == n21) (
Az T.a14 a0 4 λn22=>
AC T.a7 a2 (Ci true n22)<|
Cl T.a7 a2 λb23 n24=>
Ah 0 [Ci b23 n24,.bool true])<|
AC T.a7 a2 (.agg #[.bool true,Ai (-1)])<|
Cl T.a7 a2 λb25 n26=>
Ah 0 [Ci b25 n26,.bool true]
theorem zte (r_0 r_1 r_2 r_3 r_4 r_5 r_6 b_0 b_1 b_2 b_3 b_4 b_5:Int) (b_6:Sl):FnS (z06x r_0 r_1 r_2 r_3 r_4 r_5 r_6 b_0 b_1 b_2 b_3 b_4 b_5 b_6) F.a29 #[.agg #[.int .i64 r_0,.int .i64 r_1,.int .i64 r_2,.int .i64 r_3,.int .i64 r_4,.int .i64 r_5,.int .i64 r_6],.agg #[.int .i64 b_0,.int .i64 b_1,.int .i64 b_2,.int .i64 b_3,.int .i64 b_4,.int .i64 b_5,.slice b_6.a b_6.len b_6.cap]]:=dV ⟨[],[],[(1,[(21,.one .bool)])],[]⟩ Go.Proofs.Tryz.func307 (by kernel_rfl)
def z06v (t:Option Addr) (r_0 r_1 r_2 r_3 r_4 r_5 r_6:Int) (there:Bool) (b_0 b_1 b_2 b_3 b_4 b_5:Int) (b_6:Sl):Prog :=
Ao T.a5 (BS r_0 r_1 r_2 r_3 r_4 r_5 r_6) λa0=>
Ao T.a0 (AD b_0 b_1 b_2 b_3 b_4 b_5 b_6) λa1=>
Ck T.a5 a0 λn2 n3 n4 n5 n6 n7 n8=>
Aw F.a20 [BS n2 n3 n4 n5 n6 n7 n8] λn9=>
Ag n9 λn10=>
Az T.a13 a1 2 λn11=>
Az T.a13 a0 1 λn12=>
Aa 1 (
Ac (decide (n11>n12)) (
Ah 1 [Ai 0])<|
Ah 1 [Ai n10]) λn13=>
Ck T.a5 a0 λn14 n15 n16 n17 n18 n19 n20=>
Ar F.a21 [BS n14 n15 n16 n17 n18 n19 n20] λb21=>
Bb (b21=true) T.a13 a1 2 λn22=>
Bb (b21=true) T.a13 a0 1 λn23=>
Bb (b21=true/\decide (n22>n23)=false) T.a13 a1 4 λn24=>
AJ (b21 && (decide (n22>n23) || n24 == 0)) (
Ah 0 [Ai 22])<|
AE T.a0 a1 λn26 n27 n28 n29 n30 n31 l32=>
Ar F.a30 [AD n26 n27 n28 n29 n30 n31 l32] λb33=>
Bb (not b33=true) T.a13 a1 3 λn34=>
AJ (not b33 && n34 != n13) (
Ah 0 [Ai 21])<|
AT<|
AZ (not there=true) t λa37=>
B7 (not there=true) T.a19 a37 2 λm38=>
Cm (not there=true) (Builtin.len_ #[T.a19] T.a13 #[.map m38]) λn39=>
AZ (not there=true) t λa41=>
Bb (not there=true) T.a13 a41 0 λn42=>
AM (not there && decide (n39>=n42)) λb43=>
AU<|
Ac b43 (
Ah 0 [Ai 5])<|
Ah 0 [Ai 0]
theorem ztc (t:Option Addr) (r_0 r_1 r_2 r_3 r_4 r_5 r_6:Int) (there:Bool) (b_0 b_1 b_2 b_3 b_4 b_5:Int) (b_6:Sl):FnS (z06v t r_0 r_1 r_2 r_3 r_4 r_5 r_6 there b_0 b_1 b_2 b_3 b_4 b_5 b_6) F.a27 #[.pointer t,.agg #[.int .i64 r_0,.int .i64 r_1,.int .i64 r_2,.int .i64 r_3,.int .i64 r_4,.int .i64 r_5,.int .i64 r_6],.bool there,.agg #[.int .i64 b_0,.int .i64 b_1,.int .i64 b_2,.int .i64 b_3,.int .i64 b_4,.int .i64 b_5,.slice b_6.a b_6.len b_6.cap]]:=dV ⟨[(2097168,[(9,.one (.int .i64))])],[],[],[]⟩ Go.Proofs.Tryz.func308 (by kernel_rfl)
def z07w (v:Option Addr) (b_0 b_1 b_2 b_3 b_4 b_5:Int) (b_6:Sl):Prog :=
Ao T.a0 (AD b_0 b_1 b_2 b_3 b_4 b_5 b_6) λa0=>
Az T.a14 a0 1 λn1=>
Az T.a13 a0 2 λn2=>
AB T.a17 λa3=>
AC T.a17 a3 (AI n1 n2)<|
AK 1 (
AT<|
As v λa5=>
Cf T.a21 a5 2 λm6=>
.hold True (ld T.a17 a3) (sG [.int .i64,.int .i64]) (u2 λ(n7 n8:Int)=>
Cg (Instr.lookup T.a21 (.map m6) (AI n7 n8) true) λn9 n10 n11 n12 b13=>
AB T.a18 λa14=>
AU<|
AC T.a18 a14 (BE n9 n10 n11 n12)<|
AM b13 λb15=>
AU<|
Ah 1 [.bool b15])) λb16=>
BZ 1 (
AT<|
As v λa18=>
Cf T.a20 a18 1 λm19=>
AY T.a14 a0 1 λn20=>
Cg (Instr.lookup T.a20 (.map m19) (Ai n20) true) λn21 n22 n23 n24 b25=>
AB T.a18 λa26=>
AU<|
AC T.a18 a26 (BE n21 n22 n23 n24)<|
AM b25 λb27=>
AU<|
Ah 1 [Ap a26,.bool b27]) λa28 b29=>
AJ b16 (
Ah 0 [Ai 20])<|
AL (b29=true) (ld T.a17 (Addr.add a28 0)) λn31 n32=>
AL (b29=true) (ld T.a17 a3) λn33 n34=>
AJ (b29 && not (n31 == n33 && n32 == n34)) (
Ah 0 [Ai 22])<|
Az T.a13 a0 4 λn36=>
AZ ((n36 == 1 && not b29)=true) v λa38=>
B7 ((n36 == 1 && not b29)=true) T.a20 a38 1 λm39=>
Cm ((n36 == 1 && not b29)=true) (Builtin.len_ #[T.a20] T.a13 #[.map m39]) λn40=>
AJ (n36 == 1 && not b29 && decide (n40>=1024)) (
Ah 0 [Ai 5])<|
Az T.a13 a0 4 λn42=>
AZ ((n42 == 3 && b29)=true) v λa44=>
B7 ((n42 == 3 && b29)=true) T.a21 a44 2 λm45=>
Cm ((n42 == 3 && b29)=true) (Builtin.len_ #[T.a21] T.a13 #[.map m45]) λn46=>
AJ (n42 == 3 && b29 && decide (n46>=4096)) (
Ah 0 [Ai 5])<|
Ah 0 [Ai 0]
theorem zuf (v:Option Addr) (b_0 b_1 b_2 b_3 b_4 b_5:Int) (b_6:Sl):FnS (z07w v b_0 b_1 b_2 b_3 b_4 b_5 b_6) F.a77 #[.pointer v,.agg #[.int .i64 b_0,.int .i64 b_1,.int .i64 b_2,.int .i64 b_3,.int .i64 b_4,.int .i64 b_5,.slice b_6.a b_6.len b_6.cap]]:=dV ⟨[],[],[(2,[(7,.one .bool)]),(3,[(8,.one .adr),(9,.one .bool)])],[]⟩ Go.Proofs.Tryz.func309 (by kernel_rfl)
def z0aa (t:Option Addr):Prog :=
Ac (Option.isNone t) (
Ah 0 [.slice none 0 0])<|
As t λa1=>
B5 T.a19 a1 2 λm2=>
.call F.a85 [.map m2] sV (u1 λv3=>
An F.a174 [v3] λl4=>
Ay F.a179 [l4.v,.func (Fn.func 341) #[] #[]]<|
Ah 0 [l4.v])
def z0ag (v:Option Addr):Prog :=
Ac (Option.isNone v) (
Ah 0 [.slice none 0 0])<|
As v λa1=>
B5 T.a21 a1 2 λm2=>
BD (Instr.range T.a21 (.map m2)) λa3=>
Ak 1 (
.loop 2 [.one .slc] (⟨none,0,0⟩,()) (u1 λl4=>
.next (Instr.next (Ap a3) false T.a57) ([.agg [.int .i64,.int .i64],.agg [.int .i64,.int .i64,.int .i64,.int .i64]]) (u6 λ(n5 n6 n7 n8 n9 n10:Int)=>
.act (Instr.entry (Ap a3)) (.tup [.agg [.int .i64,.int .i64],.agg [.int .i64,.int .i64,.int .i64,.int .i64]]) (u6 λ(n11 n12 n13 n14 n15 n16:Int)=>
AB T.a18 λa17=>
AC T.a18 a17 (BE n13 n14 n15 n16)<|
BF T.a18 a17 λn18 n19 n20 n21=>
.call F.a79 [BE n18 n19 n20 n21] (sG [.int .i64,.int .i64,.int .i64,.int .i64]) (u4 λ(n22 n23 n24 n25:Int)=>
Aj (Instr.buildSlice T.a43 1 #[(0,BE n22 n23 n24 n25)]) λl26=>
Aj (app T.a43 T.a43 T.a43 l4.v l26.v) λl27=>
Ah 2 [l27.v]))) <|
Ah 1 [l4.v])) λl28=>
Ay F.a180 [l28.v,.func (Fn.func 342) #[] #[]]<|
Ah 0 [l28.v]
def z07r (a_0 a_1 a_2 a_3 b_0 b_1 b_2:Int) (b_3:Int):Prog :=
Ao T.a15 (BE a_0 a_1 a_2 a_3) λa0=>
Ao T.a15 (BE b_0 b_1 b_2 b_3) λa1=>
Az T.a14 a0 3 λn2=>
Az T.a14 a1 3 λn3=>
Aw F.a1 [Ai n2,Ai n3] λn4=>
Ag n4 λn5=>
Ah 0 [Ai n5]
theorem zu8 (a_0 a_1 a_2 a_3 b_0 b_1 b_2 b_3:Int):FnS (z07r a_0 a_1 a_2 a_3 b_0 b_1 b_2 b_3) F.a67 #[.agg #[.int .i64 a_0,.int .i64 a_1,.int .i64 a_2,.int .i64 a_3],.agg #[.int .i64 b_0,.int .i64 b_1,.int .i64 b_2,.int .i64 b_3]]:=dV ⟨[],[],[],[]⟩ Go.Proofs.Tryz.func342 (by kernel_rfl)
def z08o:RecM:=⟨ByteArray.mk #[],ByteArray.mk #[],false,0⟩
def zhk (c:ComM) (time:Int):RecM × Int:=if z6l c/\(0<=time/\time<=1099511627776) then (z5a c time,0) else (z08o,2)
instance {r:RecM} {e:Int}:IsR (.tup [.agg [.str,.str,.bool,.int .i64],.one (.int .i64)]) [.agg (z01 r).toArray,.int .i64 e] (r.key,r.value,r.gone,r.time,e,()):=⟨rfl⟩
instance {c:ComM} {e:Int}:IsR (.tup [.agg [.int .i64,.int .i64,.int .i64,.int .i64],.one (.int .i64)]) [.agg (z6v c).toArray,.int .i64 e] (c.part,c.off,c.mem,c.gen,e,()):=⟨rfl⟩
theorem z7n (n:Nat) (h:n<=9):(((z7c n).toNat:Nat):Int)=48+n:=by
 unfold z7c
 rw [UInt8.toNat_ofNat']
 omega
theorem zsy {x:Int} (h:0<=x/\x<256):IntKind.wrap .u8 x=x:=by
 have:=zc2 x.toNat
 rw [show ((x.toNat:Nat):Int)=x by omega] at this
 rw [this];omega
def z4q (l:List UInt8):Int:=l.foldl (λn d=>n*10+((d.toNat:Int)-48)) 0
theorem zsc (l:List UInt8) (d:UInt8):z4q (l++[d])=z4q l*10+((d.toNat:Int)-48):=by
 unfold z4q
 rw [List.foldl_append,List.foldl_cons,List.foldl_nil]
theorem ziw {p:Int} (hp:0<=p/\p<=255):z4q (zeu p)=p:=by
 unfold z4q zeu
 simp only [List.foldl_cons,List.foldl_nil]
 rw [z7n _ (by omega),z7n _ (by omega),z7n _ (by omega)]
 omega
theorem z03b {p:Int} (hp:0<=p/\p<=255):∀ d ∈ zeu p,¬ ((d.toNat:Int)<48\/(d.toNat:Int)>57):=λd hd=>by
 unfold zeu at hd
 simp only [List.mem_cons,List.not_mem_nil,or_false] at hd
 rcases hd with rfl|rfl|rfl <;> rw [z7n _ (by omega)] <;> omega
theorem z9z {r:RecM} {c:ComM} (h:z98 r c):r.key.size=4/\(r.key.extract 1 r.key.size).data.toList=zeu c.part/\r.value.data.toList=z6m c:=by
 obtain ⟨-,h1,h2,-⟩:=h
 rw [h1,h2]
 exact ⟨rfl,rfl,by simp⟩
section
variable {w:World} {l r:List HP}
theorem zl9 (m:Nat) (hm:m<=255) (hs:Sat w l):Ret P F.a102 #[.int .i64 (m:Int)] w λvs w'=>vs=[.string (z18 m)]/\Sat w' l :=
 zmv _ <| by
  delta z004 Af Ah Aj Bf Bk
  have e1:IntKind.wrap .u8 (IntKind.wrap .i64 (48+IntKind.wrap .i64 (Int.tdiv (m:Int) 100)))=(((z7c (m / 100)).toNat:Nat):Int):=by
   rw [zm2 m (by omega),z7n _ (by omega),show (100:Int).toNat=100 from rfl,w64 (x:=((m / 100:Nat):Int)) (by omega) (by omega),w64 (by omega) (by omega),zsy (by omega)]
  have e2:IntKind.wrap .u8 (IntKind.wrap .i64 (48+Int.tmod (IntKind.wrap .i64 (Int.tdiv (m:Int) 10)) 10))=(((z7c (m / 10 % 10)).toNat:Nat):Int):=by
   rw [zm2 m (by omega),z7n _ (by omega),show (10:Int).toNat=10 from rfl,w64 (x:=((m / 10:Nat):Int)) (by omega) (by omega),zm4 _ (by omega),show (10:Int).toNat=10 from rfl,w64 (by omega) (by omega),zsy (by omega)]
  have e3:IntKind.wrap .u8 (IntKind.wrap .i64 (48+Int.tmod (m:Int) 10))=(((z7c (m % 10)).toNat:Nat):Int):=by
   rw [zm4 m (by omega),z7n _ (by omega),show (10:Int).toNat=10 from rfl,w64 (by omega) (by omega),zsy (by omega)]
  rw [e1,e2,e3]
  refine z7z hs (enc:=zi) [z7c (m / 100),z7c (m / 10 % 10),z7c (m % 10)] λx w' hs=>?_
  refine zmb hs (bs:=[z7c (m / 100),z7c (m / 10 % 10),z7c (m % 10)]) ?_
  refine wp_must (by show ((1+3:Nat):Int)<=_;omega) ?_
  refine wp_lt ?_
  exact ⟨rfl,rfl,hs.tail⟩
theorem zvw (c:ComM) (hs:Sat w l):Ret P F.a88 #[.agg (z6v c).toArray] w λvs w'=>vs=[.bool (decide (z6l c))]/\Sat w' l :=
 zui c.part c.off c.mem c.gen <| by
  delta z07z AM Ah Ao Az BE Bb
  refine zp hs λa0 w' hs=>?_
  refine za hs ?_
  refine za hs ?_
  refine za hs ?_
  refine za hs ?_
  refine za hs ?_
  refine za hs ?_
  refine za hs ?_
  refine za hs ?_
  refine wp_lt ?_
  refine ⟨rfl,?_,hs.tail⟩
  congr 2
  rw [Bool.eq_iff_iff,decide_eq_true_iff (p:=z6l c)]
  unfold z6l
  simp only [Bool.and_eq_true,decide_eq_true_eq]
  constructor
  ·rintro ⟨⟨⟨⟨⟨⟨⟨h1,h2⟩,h3⟩,h4⟩,h5⟩,h6⟩,h7⟩,h8⟩
   exact ⟨⟨h1,h2⟩,⟨h3,h4⟩,⟨h5,h6⟩,h7,h8⟩
  ·rintro ⟨⟨h1,h2⟩,⟨h3,h4⟩,⟨h5,h6⟩,h7,h8⟩
   exact ⟨⟨⟨⟨⟨⟨⟨h1,h2⟩,h3⟩,h4⟩,h5⟩,h6⟩,h7⟩,h8⟩
theorem zw0 (c:ComM) (time:Int) (hs:Sat w l):Ret P F.a100 #[.agg (z6v c).toArray,.int .i64 time] w λvs w'=>vs=[.agg (z01 (zhk c time).1).toArray,.int .i64 (zhk c time).2]/\Sat w' l :=
 zmt c.part c.off c.mem c.gen time <| by
  delta z002 AB AC AG AH AP AT AU AY Aa Ac Ah Ai Aj Ak An Ao Ar Az B0 BE BF;unfold zhk
  refine zp hs λa0 w' hs=>?_
  refine zm hs λa1 w' hs=>?_
  refine ze hs ?_
  refine z8 (zvw c hs) λ_ w' hs=>?_
  obtain ⟨rfl,hs⟩:=hs
  refine zb ?_
  by_cases h:z6l c/\(0<=time/\time<=1099511627776)
  rotate_left
  ·rw [if_neg h]
   refine z5f (by
    rw [Bool.or_eq_true,Bool.or_eq_true,decide_eq_true_eq,decide_eq_true_eq,Bool.not_eq_true',decide_eq_false_iff_not]
    by_cases h1:z6l c
    ·have:¬ (0<=time/\time<=1099511627776):=λh2=>h ⟨h1,h2⟩
     omega
    ·exact .inl (.inl h1)) ?_
   refine zl hs λw' hs=>?_
   refine ze hs ?_
   exact ⟨rfl,rfl,hs.sub⟩
  rw [if_pos h]
  obtain ⟨hm,ht⟩:=h
  have hm':=hm
  obtain ⟨m1,m2,m3,m4⟩:=hm'
  refine z2x (by rw [decide_eq_true hm,decide_eq_false (by omega),decide_eq_false (by omega)];rfl) ?_
  refine zk (λq w'=>∃ z:Sl,q=(z,())/\Sat w' (slc T.a56 1 z ((z6m c).flatMap zi)::pt a0 (.cells #[.int .i64 c.part,.int .i64 c.off,.int .i64 c.mem,.int .i64 c.gen] T.a24)::pt a1 (.cells #[.string (ByteArray.mk #[]),.string (ByteArray.mk #[]),.bool false,.int .i64 0] T.a2)::l)) ?_ ?_
  ·refine zy hs λw' hs=>?_
   refine za hs ?_
   refine z0x hs ?_
   refine z0x hs ?_
   refine z8 (z3e c.off (by omega) hs) λ_ w' hs=>?_
   obtain ⟨z1,rfl,hs⟩:=hs
   refine zb ?_ (by first|trivial|(repeat (first|exact trivial|exact λ_=>z06 hs|exact λ_=>z0f hs|refine And.intro ?_ ?_)))
   refine z8 (z3e c.mem (by omega) hs) λ_ w' hs=>?_
   obtain ⟨z2,rfl,hs⟩:=hs
   refine zb ?_ (by first|trivial|(repeat (first|exact trivial|exact λ_=>z06 hs|exact λ_=>z0f hs|refine And.intro ?_ ?_)))
   refine zd ?_
   refine z8 (z3e c.gen (by omega) hs) λ_ w' hs=>?_
   obtain ⟨z3,rfl,hs⟩:=hs
   refine zb ?_
   refine z7z hs (enc:=z0c) [z1,z2,z3] λz4 w' hs=>?_
   have h1:=(z1f c.off).2
   have h2:=(z1f c.mem).2
   have h3:=(z1f c.gen).2
   refine z8 (zm9 z4 z1 z2 z3 (uI c.off) (uI c.mem) (uI c.gen) (by omega) hs) λ_ w' hs=>?_
   obtain ⟨z5,rfl,hs⟩:=hs
   refine zb ?_
   refine zd ?_
   have hs:Sat w' (slc T.a56 1 z5 ((z6m c).flatMap zi)::_):=hs
   exact zf ⟨z5,rfl,hs.sub⟩
  clear hs
  rintro _ w ⟨z,rfl,hs⟩
  refine zj ?_
  refine zk (λq w'=>q=(0,())/\Sat w' (pt a1 (.cells #[.string (z18 c.part),.string ⟨(z6m c).toArray⟩,.bool false,.int .i64 time] T.a2)::l)) ?_ ?_
  ·refine zy hs λw' hs=>?_
   refine za hs ?_
   refine z04j (p:=.str) (x:=(⟨(z6m c).toArray⟩:ByteArray)) (zhm hs) ?_
   have hk:=zl9 c.part.toNat (by omega) hs
   rw [show ((c.part.toNat:Nat):Int)=c.part by omega] at hk
   refine z8 hk λ_ w' hs=>?_
   obtain ⟨rfl,hs⟩:=hs
   refine zb ?_ ⟨trivial,λ_=>zhm hs⟩
   refine zd ?_
   refine zl hs λw' hs=>?_
   refine zd ?_
   exact zf ⟨rfl,hs.sub⟩
  clear hs
  rintro _ w ⟨rfl,hs⟩
  refine zj ?_
  refine ze hs ?_
  exact ⟨rfl,rfl,hs.sub⟩
end
abbrev com0:ComM:=⟨0,0,0,0⟩
theorem ze5:∀ (l:List UInt8),(∀ d ∈ l,¬ ((d.toNat:Int)<48\/(d.toNat:Int)>57))->l.length<=3->0<=z4q l/\z4q l<=999
 | [],_,_=>by decide
 | [a],h,_=>by
  have h1:=h a (by simp)
  unfold z4q
  simp only [List.foldl_cons,List.foldl_nil]
  omega
 | [a,b],h,_=>by
  have h1:=h a (by simp)
  have h2:=h b (by simp)
  unfold z4q
  simp only [List.foldl_cons,List.foldl_nil]
  omega
 | [a,b,c],h,_=>by
  have h1:=h a (by simp)
  have h2:=h b (by simp)
  have h3:=h c (by simp)
  unfold z4q
  simp only [List.foldl_cons,List.foldl_nil]
  omega
 | _::_::_::_::_,_,h=>by simp at h
theorem z04c (a b:ByteArray):(ByteArray.toList a == ByteArray.toList b)=decide (a=b):=by
 rw [Bool.eq_iff_iff,beq_iff_eq,decide_eq_true_iff]
 exact ⟨λh=>by rw [ByteArray.toList_eq,ByteArray.toList_eq] at h;exact ByteArray.ext (Array.ext' h),λh=>by rw [h]⟩
section
variable {w:World} {l r:List HP}
set_option maxHeartbeats 1000000 in
theorem zhh (r:RecM) (hv:r.value.size<=1000000) (hs:Sat w l):Ret P F.a99 #[.agg (z01 r).toArray] w λvs w'=>∃ (c:ComM) (e:Int),vs=[.agg (z6v c).toArray,.int .i64 e]/\zzo r c e/\Sat w' l :=
 zms r.key r.value r.gone r.time <| by
  delta z001 AB AC AG AK AP AT AU AV Ac Ad Af Ah Ai Aj Am Ao Aq Ar Av Aw Ax Az BE BF Bb Bc Bd Be Bh Bj Bz
  refine zp hs λa0 w' hs=>?_
  refine zm hs λa1 w' hs=>?_
  refine za hs ?_
  refine za hs ?_
  by_cases h1:r.key.size≠4\/r.gone=true
  ·refine z5f (by
    rw [Bool.or_eq_true]
    rcases h1 with h1|h1
    ·left;simp;omega
    ·right;exact h1) ?_
   refine zl hs λw' hs=>?_
   refine ze hs ?_
   refine ⟨rfl,com0,6,rfl,.inr ⟨rfl,rfl,λc' h=>?_⟩,hs.sub⟩
   rcases h1 with h1|h1
   ·exact h1 (z9z h).1
   ·rw [h.2.2.2] at h1;cases h1
  have hk4:r.key.size=4:=Classical.byContradiction λh=>h1 (.inl h)
  have hgn:r.gone=false:=by
   cases hg:r.gone with
   | false=>rfl
   | true=>exact absurd (.inr hg) h1
  refine z2x (by rw [hk4,hgn];rfl) ?_
  refine zm hs λa8 w' hs=>?_
  refine zl hs λw' hs=>?_
  refine za hs ?_
  refine wp_must (by rw [hk4];omega) ?_
  refine zdb hs λx w' hs=>?_
  obtain ⟨bs,hbs⟩:∃ bs,bs=(r.key.extract 1 r.key.size).data.toList:=⟨_,rfl⟩
  have hbl:bs.length=3:=by
   rw [hbs]
   show (r.key.extract 1 r.key.size).size=3
   rw [ByteArray.size_extract,hk4];rfl
  rw [<- hbs] at hs
  have hxl:=hs.slen x (xs:=bs) (enc:=zi)
  have hno:∀ {c':ComM},z98 r c'->bs=zeu c'.part:=λh=>by rw [hbs];exact (z9z h).2.1
  refine zk (λq w'=>(∀ d ∈ bs,¬ ((d.toNat:Int)<48\/(d.toNat:Int)>57))/\Sat w' (pt a8 (.cells #[.int .i64 (z4q bs),.int .i64 0,.int .i64 0,.int .i64 0] T.a24)::pt a0 (.cells #[.string r.key,.string r.value,.bool r.gone,.int .i64 r.time] T.a2)::pt a1 (.cells #[.int .i64 0,.int .i64 0,.int .i64 0,.int .i64 0] T.a24)::l)) ?_ ?_
  ·refine z0a (λm q w=>∃ i:Nat,q=((i:Int),())/\i<=bs.length/\bs.length-i=m/\(∀ d ∈ bs.take i,¬ ((d.toNat:Int)<48\/(d.toNat:Int)>57)) /\
    Sat w (slc T.a56 1 x (bs.flatMap zi)::pt a8 (.cells #[.int .i64 (z4q (bs.take i)),.int .i64 0,.int .i64 0,.int .i64 0] T.a24)::pt a1 (.cells #[.int .i64 0,.int .i64 0,.int .i64 0,.int .i64 0] T.a24)::pt a0 (.cells #[.string r.key,.string r.value,.bool r.gone,.int .i64 r.time] T.a2)::l)) bs.length
    ⟨0,rfl,by omega,rfl,(λd hd=>by simp at hd),hs⟩ ?_
   clear hs
   rintro m _ w ⟨i,rfl,hi,hm,hd,hs⟩
   refine zj ?_
   refine zg (λhc=>?_) λhc=>?_
   rotate_left
   ·rw [List.take_of_length_le (by omega)] at hs hd
    exact zo (zf ⟨hd,hs.sub⟩)
   have hil:i<bs.length:=by omega
   have htk:bs.take (i+1)=bs.take i++[bs[i]]:=by rw [List.take_add_one,List.getElem?_eq_getElem hil,Option.toList_some]
   have hb3:=ze5 (bs.take i) hd (by rw [List.length_take];omega)
   refine z1w hs (xs:=bs) (enc:=zi) i hil ?_
   refine wp_lt ?_
   by_cases hbad:((bs[i].toNat:Int)<48\/(bs[i].toNat:Int)>57)
   ·refine z5f (by rw [Bool.or_eq_true,decide_eq_true_eq,decide_eq_true_eq];exact hbad) ?_
    refine zl hs λw' hs=>?_
    refine ze hs ?_
    refine zo (zo ?_)
    refine ⟨rfl,com0,6,rfl,.inr ⟨rfl,rfl,λc' h=>?_⟩,hs.sub⟩
    have hm:=hno h
    exact z03b h.1.1 _ (by rw [<- hm];exact List.getElem_mem hil) hbad
   refine z2x (by rw [Bool.or_eq_false_iff,decide_eq_false_iff_not,decide_eq_false_iff_not];omega) ?_
   refine za hs ?_
   rw [zsy (by omega),w64 (x:=(bs[i].toNat:Int)-48) (by omega) (by omega),w64 (x:=z4q (bs.take i)*10) (by omega) (by omega),w64 (by omega) (by omega),<- zsc,<- htk]
   refine z03 hs λw' hs=>?_
   refine z28 (us':=[.int .i64 ((i+1:Nat):Int)]) (by (try simp (disch:=omega) only [w64]);first|rfl|(congr;omega)) ?_
   refine z0w (bs.length-(i+1)) ⟨i+1,rfl,by omega,rfl,λd hd2=>?_,hs.sub⟩
   rw [htk] at hd2
   rcases List.mem_append.1 hd2 with hd2|hd2
   ·exact hd d hd2
   ·rw [List.mem_singleton.1 hd2];exact hbad
  clear hs
  rintro _ w ⟨hdig,hs⟩
  refine zj ?_
  have hpb:=ze5 bs hdig (by omega)
  refine za hs ?_
  refine zdb hs λy w' hs=>?_
  obtain ⟨vs,hvs⟩:∃ vs,vs=r.value.data.toList:=⟨_,rfl⟩
  rw [<- hvs] at hs
  have hvl:vs.length<=1000000:=by rw [hvs];exact hv
  have hval:∀ {c':ComM},z98 r c'->vs=z6m c':=λh=>by rw [hvs];exact (z9z h).2.2
  refine z8 (zl3 y vs (by omega) hs) λ_ w' hs=>?_
  obtain ⟨p,rfl,hs⟩:=hs
  refine zb ?_
  refine z8 (z94 (p:=p) hs) λ_ w' hs=>?_
  obtain ⟨rfl,hs⟩:=hs
  refine zb ?_
  refine z8 (z94 (p:=p) hs) λ_ w' hs=>?_
  obtain ⟨rfl,hs⟩:=hs
  refine zb ?_
  refine z8 (z94 (p:=p) hs) λ_ w' hs=>?_
  obtain ⟨rfl,hs⟩:=hs
  refine zb ?_
  refine wp_lt ?_
  refine wp_lt ?_
  refine wp_lt ?_
  refine z8 (zki (p:=p) hs) λ_ w' hs=>?_
  obtain ⟨en,rfl,hen,hs⟩:=hs
  refine zb ?_
  have hread:∀ {c':ComM},z98 r c'->(zv (some vs)).1=c'.off.toNat/\(zv (zv (some vs)).2).1=c'.mem.toNat/\(zv (zv (zv (some vs)).2).2).1=c'.gen.toNat/\(zv (zv (zv (some vs)).2).2).2=some []:=λh=>by
   rw [hval h];exact zjg h.1
  have hinv:=zz7 (bs:=vs)
  generalize (zv (some vs)).1=o at hs hread hinv hen ⊢
  generalize (zv (zv (some vs)).2).1=m at hs hread hinv hen ⊢
  generalize (zv (zv (zv (some vs)).2).2).1=g at hs hread hinv hen ⊢
  generalize (zv (zv (zv (some vs)).2).2).2=fin at hs hread hinv hen ⊢
  by_cases hcd:en≠0\/(o:Int)>1099511627776\/(m:Int)>64\/(g:Int)>2147483647
  ·refine z5f (by
    rw [Bool.or_eq_true,Bool.or_eq_true,Bool.or_eq_true,decide_eq_true_eq,decide_eq_true_eq,decide_eq_true_eq]
    rcases hcd with h|h|h|h
    ·exact .inl (.inl (.inl (by simpa using h)))
    ·exact .inl (.inl (.inr h))
    ·exact .inl (.inr h)
    ·exact .inr h) ?_
   refine zl hs λw' hs=>?_
   refine ze hs ?_
   refine ⟨rfl,com0,6,rfl,.inr ⟨rfl,rfl,λc' h=>?_⟩,hs.sub⟩
   obtain ⟨q1,q2,q3,q4⟩:=hread h
   obtain ⟨-,q5,q6,q7⟩:=h.1
   have:=hen.2 q4
   omega
  have hen0:en=0:=by omega
  have hfin:=hen.1 hen0
  refine z2x (by
   rw [Bool.or_eq_false_iff,Bool.or_eq_false_iff,Bool.or_eq_false_iff,decide_eq_false_iff_not,decide_eq_false_iff_not,decide_eq_false_iff_not]
   refine ⟨⟨⟨by rw [hen0];rfl,?_⟩,?_⟩,?_⟩ <;> omega) ?_
  rw [w64 (by omega) (by omega),w64 (by omega) (by omega),w64 (by omega) (by omega)]
  refine z03 hs λw' hs=>?_
  refine z03 hs λw' hs=>?_
  refine z03 hs λw' hs=>?_
  obtain ⟨c,hc⟩:∃ c:ComM,c=⟨z4q bs,o,m,g⟩:=⟨_,rfl⟩
  have hs:Sat w' (pt a8 (.cells #[.int .i64 (z4q bs),.int .i64 o,.int .i64 m,.int .i64 g] T.a24)::pt a0 (.cells #[.string r.key,.string r.value,.bool r.gone,.int .i64 r.time] T.a2)::pt a1 (.cells #[.int .i64 0,.int .i64 0,.int .i64 0,.int .i64 0] T.a24)::l):=hs.sub
  have hs:Sat w' (pt a8 (.cells #[.int .i64 c.part,.int .i64 c.off,.int .i64 c.mem,.int .i64 c.gen] T.a24)::pt a0 (.cells #[.string r.key,.string r.value,.bool r.gone,.int .i64 r.time] T.a2)::pt a1 (.cells #[.int .i64 0,.int .i64 0,.int .i64 0,.int .i64 0] T.a24)::l):=by rw [hc];exact hs
  have huniq:∀ {c':ComM},z98 r c'->c'=c:=λ{c'} h=>by
   obtain ⟨q1,q2,q3,q4⟩:=hread h
   obtain ⟨q0,q5,q6,q7⟩:=h.1
   have hp:=ziw q0
   rw [<- hno h] at hp
   rw [hc]
   obtain ⟨a,b,d,e⟩:=c'
   simp only at q1 q2 q3 hp q5 q6 q7
   rw [hp,q1,q2,q3]
   congr 1 <;> omega
  refine zk (λq w'=>q=(decide (¬ (z6l c/\r.key=z18 c.part)),())/\Sat w' (pt a8 (.cells #[.int .i64 c.part,.int .i64 c.off,.int .i64 c.mem,.int .i64 c.gen] T.a24)::pt a0 (.cells #[.string r.key,.string r.value,.bool r.gone,.int .i64 r.time] T.a2)::pt a1 (.cells #[.int .i64 0,.int .i64 0,.int .i64 0,.int .i64 0] T.a24)::l)) ?_ ?_
  ·refine zy hs λw' hs=>?_
   refine ze hs ?_
   refine z8 (zvw c hs) λ_ w' hs=>?_
   obtain ⟨rfl,hs⟩:=hs
   refine zb ?_
   refine z0x hs ?_
   refine za hs ?_
   by_cases hm:z6l c
   ·refine z2x (by rw [decide_eq_true hm];rfl) ?_
    have hk:=zl9 c.part.toNat (by have:=hm.1;omega) hs
    rw [show ((c.part.toNat:Nat):Int)=c.part by have:=hm.1;omega] at hk
    refine z8 hk λ_ w' hs=>?_
    obtain ⟨rfl,hs⟩:=hs
    refine zb ?_ ⟨trivial,λ_=>z06 hs⟩
    refine zd ?_
    refine zf ⟨?_,hs⟩
    rw [z04c]
    have:(!decide (r.key=z18 c.part))=decide (¬ (z6l c/\r.key=z18 c.part)):=by
     rw [Bool.eq_iff_iff];simp [hm]
    rw [this]
   ·refine z5f (by rw [decide_eq_false hm];rfl) ?_
    refine zd ?_
    refine zf ⟨?_,hs⟩
    have:decide (¬ (z6l c/\r.key=z18 c.part))=true:=by simp [hm]
    rw [this]
  clear hs
  rintro _ w ⟨rfl,hs⟩
  refine zj ?_
  by_cases hok:z6l c/\r.key=z18 c.part
  ·refine z2x (by simp [hok]) ?_
   refine ze hs ?_
   refine zl hs λw' hs=>?_
   refine ze hs ?_
   refine ⟨rfl,c,0,rfl,.inl ⟨rfl,hok.1,hok.2,?_,hgn⟩,hs.sub⟩
   have e:=hinv hfin
   have e2:vs=z6m c:=by
    rw [e,hc]
    show _=uI (o:Int)++(uI (m:Int)++uI (g:Int))
    unfold uI
    rw [Int.toNat_natCast,Int.toNat_natCast,Int.toNat_natCast]
   rw [<- e2,hvs]
  ·refine z5f (by simp only [decide_eq_true_eq];exact hok) ?_
   refine zl hs λw' hs=>?_
   refine ze hs ?_
   refine ⟨rfl,com0,6,rfl,.inr ⟨rfl,rfl,λc' h=>?_⟩,hs.sub⟩
   have:=huniq h
   subst this
   exact hok ⟨h.1,h.2.1⟩
end
structure RowA where
 pid:Int
 epoch:Int
 seq:Int
 count:Int
 base:Int
 frm:Int
 time:Int
def z5t (t:RowA):List Value:=[.int .i64 t.pid,.int .i64 t.epoch,.int .i64 t.seq,.int .i64 t.count,.int .i64 t.base,.int .i64 t.frm,.int .i64 t.time]
instance:EncA z5t [.int .i64,.int .i64,.int .i64,.int .i64,.int .i64,.int .i64,.int .i64] (λt=>(t.pid,t.epoch,t.seq,t.count,t.base,t.frm,t.time,())):=⟨λ_=>rfl⟩
instance:EncN z5t 7:=⟨λ_=>rfl,by decide,by simp [z5t,Value.oneCell']⟩
instance:EncF z5t 0 (.int .i64) (λt=>t.pid):=⟨λ_=>rfl⟩
instance:EncF z5t 1 (.int .i64) (λt=>t.epoch):=⟨λ_=>rfl⟩
instance:EncF z5t 2 (.int .i64) (λt=>t.seq):=⟨λ_=>rfl⟩
instance:EncF z5t 3 (.int .i64) (λt=>t.count):=⟨λ_=>rfl⟩
instance:EncF z5t 4 (.int .i64) (λt=>t.base):=⟨λ_=>rfl⟩
instance:EncF z5t 5 (.int .i64) (λt=>t.frm):=⟨λ_=>rfl⟩
instance:EncF z5t 6 (.int .i64) (λt=>t.time):=⟨λ_=>rfl⟩
abbrev evW (t:RowA):Value:=.agg #[.int .i64 t.pid,.int .i64 t.epoch,.int .i64 t.seq,.int .i64 t.count,.int .i64 t.base,.int .i64 t.frm,.int .i64 t.time]
structure TabA where
 most:Int
 next:Int
 rows:List RowA
def z5b (A:TabA) (pid:Int):Option RowA:=A.rows.find? λr=>decide (r.pid=pid)
def z060 (pid:Int):RowA:=⟨pid,-1,0,0,0,-1,0⟩
def z0q (A:TabA) (pid:Int):RowA:=(z5b A pid).getD (z060 pid)
def z8u (rs:List RowA):List RowA:=rs.filter λr=>decide (0<=r.frm)
structure okRw (r:RowA) (next:Int):Prop where
 pid:1<=r.pid/\r.pid<=1048576
 epoch:0<=r.epoch/\r.epoch<=32768
 time:0<=r.time/\r.time<=1099511627776
 count:0<=r.count/\r.count<=64
 seq:0<=r.seq
 base:0<=r.base
 frm : -1<=r.frm
 none_:r.count=0->r.seq=0/\r.base=0/\r.frm = -1
 some_:0<r.count->r.epoch<=32767/\r.seq+r.count<=2147483648/\r.base+r.count<=next/\r.frm<=r.base
structure okTb (A:TabA):Prop where
 most:1<=A.most/\A.most<=4096
 next:0<=A.next/\A.next<=1099511627777
 many:(A.rows.length:Int)<=A.most
 row:∀ r ∈ A.rows,okRw r A.next
 byPid:A.rows.Pairwise λa b=>a.pid<b.pid
 apart:(z8u A.rows).Pairwise λa b=>a.frm≠b.frm
instance:KeyT P T.a14 ekI:=zkx (by kernel_rfl)
instance:MapT P T.a19 T.a14 (.agg #[.int .i64 0,.int .i64 0,.int .i64 0,.int .i64 0,.int .i64 0,.int .i64 0,.int .i64 0]):=⟨T.a5,by kernel_rfl,by kernel_rfl⟩
def z37 (rs:List RowA):List (Int × RowA):=rs.map λr=>(r.pid,r)
def tb (t:Nat) (A:TabA):HP:=HP.ex λm:Nat=>HP.and (okTb A) (HP.star (pt t (.cells #[.int .i64 A.most,.int .i64 A.next,.map (some m)] T.a6)) (z19 ekI evW m (z37 A.rows)))
theorem okRw.seqs {r:RowA} {next:Int} (h:okRw r next):r.seq+r.count<=2147483648:=by
 have h1:=h.count;have h2:=h.seq
 rcases Int.lt_or_le 0 r.count with h3|h3
 ·exact (h.some_ h3).2.1
 ·have:=(h.none_ (by omega)).1;omega
theorem z2j {A:TabA} {pid:Int} {t:RowA} (h:z5b A pid=some t):t ∈ A.rows/\t.pid=pid:=⟨List.mem_of_find?_eq_some h,by simpa using List.find?_some h⟩
theorem zd6 {A:TabA} {pid:Int} (h:z5b A pid=none):∀ t ∈ A.rows,t.pid≠pid:=λt ht=>by simpa using List.find?_eq_none.1 h t ht
theorem zj2 (A:TabA) (pid:Int):(∃ t,z5b A pid=some t/\(pid,t) ∈ z37 A.rows)\/(z5b A pid=none/\∀ t,(pid,t) ∉ z37 A.rows):=by
 cases h:z5b A pid with
 | some t=>exact .inl ⟨t,rfl,List.mem_map.2 ⟨t,(z2j h).1,by rw [(z2j h).2]⟩⟩
 | none=>exact .inr ⟨rfl,λt ht=>by
   obtain ⟨u,hu,e⟩:=List.mem_map.1 ht
   simp only [Prod.mk.injEq] at e
   exact zd6 h u hu e.1⟩
theorem zhl {A:TabA} (hok:okTb A) (pid:Int):0<=(z0q A pid).seq/\0<=(z0q A pid).count/\(z0q A pid).seq+(z0q A pid).count<=2147483648 /\ -1<=(z0q A pid).epoch/\(z0q A pid).epoch<=32768 /\ -1<=(z0q A pid).frm/\(z0q A pid).pid=pid:=by
 unfold z0q
 cases h:z5b A pid with
 | none=>simp [z060]
 | some t =>
  have h1:=hok.row t (z2j h).1
  have:=h1.seqs;have:=h1.seq;have:=h1.count;have:=h1.epoch;have:=h1.frm;have:=(z2j h).2
  simp only [Option.getD_some];omega
section
variable {w:World} {l r r1 r2 l':List HP} {t:Nat} {A:TabA}
theorem zb4 (hs:Sat w (tb t A::l)):∃ m:Nat,okTb A/\Sat w (pt t (.cells #[.int .i64 A.most,.int .i64 A.next,.map (some m)] T.a6)::z19 ekI evW m (z37 A.rows)::l):=by
 obtain ⟨m,hs⟩:=hs.ex
 obtain ⟨hok,hs⟩:=hs.and
 exact ⟨m,hok,hs.star⟩
theorem z08f (m:Nat) (hok:okTb A) (hs:Sat w (pt t (.cells #[.int .i64 A.most,.int .i64 A.next,.map (some m)] T.a6)::z19 ekI evW m (z37 A.rows)::l)):Sat w (tb t A::l):=.ex_mk m (.and_mk hok (.star_mk hs))
theorem z3b (m:Nat) (hok:okTb A) (hs:Sat w l) {es1:List (Int × RowA)} [h1:FocB l t (.cells [.int .i64 A.most,.int .i64 A.next,.map (some m)].toArray T.a6) r1] [h2:FoM r1 m ekI evW es1 r2] [h4:Sub r2 l']
  (hp1:es1.Perm (z37 A.rows):=by exact .refl _):Sat w (tb t A::l'):=by
 have hs:=hs.perm (h1.perm.trans (.cons _ h2.perm))
 have hs:=((hs.pick [1]).mapPerm hp1).pick [1]
 have hs:Sat w (tb t A::r2):=z08f m hok hs
 exact hs.sub
theorem zzx (hs:Sat w (tb t A::l)):okTb A:=(zb4 hs).choose_spec.1
instance {r:RowA}:IsR (sG [.int .i64,.int .i64,.int .i64,.int .i64,.int .i64,.int .i64,.int .i64]) [.agg (z5t r).toArray] (r.pid,r.epoch,r.seq,r.count,r.base,r.frm,r.time,()):=⟨rfl⟩
instance {r:RowA} {b:Bool}:IsR (.tup [.agg [.int .i64,.int .i64,.int .i64,.int .i64,.int .i64,.int .i64,.int .i64],.one .bool]) [.agg (z5t r).toArray,.bool b] (r.pid,r.epoch,r.seq,r.count,r.base,r.frm,r.time,b,()):=⟨rfl⟩
def z08b (o:Option RowA):Int × Int × Int × Int × Int × Int × Int × Bool × Unit :=
 ((o.getD ⟨0,0,0,0,0,0,0⟩).pid,(o.getD ⟨0,0,0,0,0,0,0⟩).epoch,(o.getD ⟨0,0,0,0,0,0,0⟩).seq,(o.getD ⟨0,0,0,0,0,0,0⟩).count,(o.getD ⟨0,0,0,0,0,0,0⟩).base,(o.getD ⟨0,0,0,0,0,0,0⟩).frm,(o.getD ⟨0,0,0,0,0,0,0⟩).time,o.isSome,())
theorem z067 (most:Int) (hs:Sat w l):Ret P F.a19 #[.int .i64 most] w λvs w' =>
  (1<=most/\most<=4096/\∃ t,vs=[.pointer (some ⟨t,0,none⟩),.int .i64 0]/\Sat w' (tb t ⟨most,0,[]⟩::l))\/((most<1\/most>4096)/\vs=[.pointer none,.int .i64 2]/\Sat w' l) :=
 zt7 most <| by
  delta z06q Ac Ah Ai Ao Ap Aq B4
  refine zg (λh=>?_) λh=>?_
  ·exact ⟨rfl,.inr ⟨h,rfl,hs⟩⟩
  refine zc1 ekI evW hs λm w' hs=>?_
  refine zp hs λt w' hs=>?_
  refine ⟨rfl,.inl ⟨by omega,by omega,t,rfl,?_⟩⟩
  exact z3b m (A:=⟨most,0,[]⟩) ⟨by show 1<=most/\most<=4096;omega,by show (0:Int)<=0/\(0:Int)<=_;omega,by show (0:Int)<=most;omega,by simp,by simp,by simp [z8u]⟩ hs
theorem zwm (pid:Int) [hf:Fo l tb t A r] (hs:Sat w l):Ret P F.a28 #[.pointer (some ⟨t,0,none⟩),.int .i64 pid] w λvs w'=>vs=[.agg (z5t (z0q A pid)).toArray,.bool (z5b A pid).isSome]/\Sat w' (tb t A::r) :=
 ztd _ _ <| by
  delta z06w AB AC AM Ac Ah Ai As B5 BS Ck
  obtain ⟨m,hok,hs⟩:=zb4 (hs.perm hf.perm)
  refine zm hs λa0 w' hs=>?_
  refine zh ?_
  refine za hs ?_
  have ho:=zj2 A pid
  unfold z0q
  generalize z5b A pid=o at ho ⊢
  refine zza hs o ho z08b ?_
  refine zdq _ _ _ _ _ _ _ _ ?_
  refine zm hs λa12 w' hs=>?_
  refine zl hs λw' hs=>?_
  refine wp_lt ?_
  cases o with
  | none =>
   refine z0b ?_ (by simp)
   refine zl hs λw' hs=>?_
   refine ze hs ?_
   exact ⟨rfl,rfl,z3b m hok hs⟩
  | some x =>
   refine zx ?_ (by simp)
   refine ze hs ?_
   refine zl hs λw' hs=>?_
   refine ze hs ?_
   exact ⟨rfl,rfl,z3b m hok hs⟩
theorem zr1 (x:RowA) (h1:0<=x.seq+x.count/\x.seq+x.count<=2147483648) (hs:Sat w l):Ret P F.a20 #[.agg (z5t x).toArray] w λvs w'=>vs=[.int .i64 (x.seq+x.count)]/\Sat w' l :=
 zt8 x.pid x.epoch x.seq x.count x.base x.frm x.time <| by
  delta z06r Af Ag Ah Ai Ao Az BS
  refine zp hs λa0 w' hs=>?_
  refine za hs ?_
  refine za hs ?_
  refine z16 ?_
  exact ⟨rfl,rfl,hs.tail⟩
theorem zqn (x:RowA) (hs:Sat w l):Ret P F.a21 #[.agg (z5t x).toArray] w λvs w'=>vs=[.bool (decide (0<=x.frm))]/\Sat w' l :=
 zt9 x.pid x.epoch x.seq x.count x.base x.frm x.time <| by
  delta z06s AM Ah Ao Az BS
  refine zp hs λa0 w' hs=>?_
  refine za hs ?_
  refine wp_lt ?_
  exact ⟨rfl,rfl,hs.tail⟩
theorem zho (b:BatM) (hs:Sat w l):Ret P F.a30 #[.agg (zr b).toArray] w λvs w'=>vs=[.bool (z0i b)]/\Sat w' l :=
 ztf b.base b.pid b.epoch b.seq b.kind b.time b.x <| by
  delta z06y AD AM Ah Ao Az Bb
  refine zp hs λa0 w' hs=>?_
  refine za hs ?_
  refine za hs ?_
  refine wp_lt ?_
  exact ⟨rfl,rfl,hs.tail⟩
end
structure VerA where
 again:Bool
 base:Int
def zfv (v:VerA):List Value:=[.bool v.again,.int .i64 v.base]
def z89 (r:RowA) (b:BatM):VerA × Bool :=
 if b.epoch≠r.epoch\/b.seq+b.rs.length>r.seq+r.count then (⟨false,0⟩,false) else if b.seq=r.seq/\(b.rs.length:Int)=r.count then (⟨true,r.base⟩,true) else (⟨true,-1⟩,true)
def zau (A:TabA) (r:RowA) (there:Bool) (b:BatM):Int :=
 if 0<=r.frm/\(b.epoch>r.epoch\/b.kind=0) then 22
 else if z0i b=false/\b.seq≠(if b.epoch>r.epoch then 0 else r.seq+r.count) then 21
 else if there=false/\(A.rows.length:Int)>=A.most then 5 else 0
def z1s (A:TabA) (b:BatM):VerA × Int :=
 if z04 b≠0\/b.pid=0 then (⟨false,0⟩,z04 b)
 else if b.epoch<(z0q A b.pid).epoch then (if z0i b then (⟨true,-1⟩,0) else (⟨false,0⟩,20))
 else if z0i b=false/\(z89 (z0q A b.pid) b).2=true then ((z89 (z0q A b.pid) b).1,0)
 else (⟨false,0⟩,zau A (z0q A b.pid) (z5b A b.pid).isSome b)
instance {v:VerA} {b:Bool}:IsR (.tup [.agg [.bool,.int .i64],.one .bool]) [.agg (zfv v).toArray,.bool b] (v.again,v.base,b,()):=⟨rfl⟩
instance {v:VerA} {n:Int}:IsR (.tup [.agg [.bool,.int .i64],.one (.int .i64)]) [.agg (zfv v).toArray,.int .i64 n] (v.again,v.base,n,()):=⟨rfl⟩
section
variable {w:World} {l r r1 r2 l':List HP} {t:Nat} {A:TabA}
theorem zz2 (x:RowA) (b:BatM) [hb:FocR l b.x 4 (b.rs.flatMap z01)] (h1:0<=x.seq+x.count/\x.seq+x.count<=2147483648) (h2:0<=b.seq/\b.seq<=2147483647) (h3:b.rs.length<=64) (hs:Sat w l) :
  Ret P F.a29 #[.agg (z5t x).toArray,.agg (zr b).toArray] w λvs w'=>vs=[.agg (zfv (z89 x b).1).toArray,.bool (z89 x b).2]/\Sat w' l :=
 zte x.pid x.epoch x.seq x.count x.base x.frm x.time b.base b.pid b.epoch b.seq b.kind b.time b.x <| by
  delta z06x AB AC AD AK AT AU Ac Ad Af Ah Ai Ao Aw Az BS Ba Bb Cc Ci Cj Cl;unfold z89
  have hl:=hs.slen b.x (xs:=b.rs) (enc:=z01)
  refine zp hs λa0 w' hs=>?_
  refine zp hs λa1 w' hs=>?_
  refine zm hs λa2 w' hs=>?_
  have hs:Sat w' (pt a2 (.cells #[.bool false,.int .i64 0] T.a7)::pt a1 (.cells #[.int .i64 b.base,.int .i64 b.pid,.int .i64 b.epoch,.int .i64 b.seq,.int .i64 b.kind,.int .i64 b.time,.slice b.x.a b.x.len b.x.cap] T.a0) ::
   pt a0 (.cells #[.int .i64 x.pid,.int .i64 x.epoch,.int .i64 x.seq,.int .i64 x.count,.int .i64 x.base,.int .i64 x.frm,.int .i64 x.time] T.a5)::l):=hs
  refine zk (λv w'=>v=(decide (b.epoch≠x.epoch\/b.seq+b.rs.length>x.seq+x.count),())/\Sat w' (pt a2 (.cells #[.bool false,.int .i64 0] T.a7)::pt a1 (.cells #[.int .i64 b.base,.int .i64 b.pid,.int .i64 b.epoch,.int .i64 b.seq,.int .i64 b.kind,.int .i64 b.time,.slice b.x.a b.x.len b.x.cap] T.a0) ::
   pt a0 (.cells #[.int .i64 x.pid,.int .i64 x.epoch,.int .i64 x.seq,.int .i64 x.count,.int .i64 x.base,.int .i64 x.frm,.int .i64 x.time] T.a5)::l)) ?_ ?_
  ·refine zy hs λw' hs=>?_
   refine za hs ?_
   refine za hs ?_
   refine z0x hs ?_
   refine z0x hs ?_
   refine ze hs ?_
   refine zg (λh=>?_) λh=>?_
   ·refine zd ?_
    exact zf ⟨by rw [decide_eq_true (.inl h)],hs⟩
   ·refine z8 (zr1 x h1 hs) λ_ w' hs=>?_
    obtain ⟨rfl,hs⟩:=hs
    refine zb ?_ ⟨⟨trivial,λ_=>z06 hs⟩,λ_=>z06 hs⟩
    refine zd ?_
    refine zf ⟨?_,hs⟩
    rw [w64 (by omega) (by omega),hl]
    have:(b.epoch≠x.epoch\/b.seq+b.rs.length>x.seq+x.count)↔b.seq+((b.rs.length:Nat):Int)>x.seq+x.count:=⟨λh'=>h'.resolve_left h,.inr⟩
    rw [decide_eq_decide.2 this]
  clear hs
  rintro _ w ⟨rfl,hs⟩
  refine zj ?_
  refine zg (λh=>?_) λh=>?_
  ·rw [if_pos h]
   refine zl hs λw' hs=>?_
   refine ze hs ?_
   exact ⟨rfl,rfl,hs.sub⟩
  rw [if_neg h]
  refine za hs ?_
  refine za hs ?_
  refine za hs ?_
  refine za hs ?_
  refine zg (λh=>?_) λh=>?_
  ·rw [if_pos (by rw [hl] at h;exact h)]
   refine za hs ?_
   refine zl hs λw' hs=>?_
   refine ze hs ?_
   exact ⟨rfl,rfl,hs.sub⟩
  ·rw [if_neg (by rw [hl] at h;exact h)]
   refine zl hs λw' hs=>?_
   refine ze hs ?_
   exact ⟨rfl,rfl,hs.sub⟩
theorem zz5 (x:RowA) (there:Bool) (b:BatM) [hf:Fo l tb t A r] (h1:0<=x.seq+x.count/\x.seq+x.count<=2147483648) (hs:Sat w l) :
  Ret P F.a27 #[.pointer (some ⟨t,0,none⟩),.agg (z5t x).toArray,.bool there,.agg (zr b).toArray] w λvs w'=>vs=[.int .i64 (zau A x there b)]/\Sat w' (tb t A::r) :=
 ztc _ x.pid x.epoch x.seq x.count x.base x.frm x.time there b.base b.pid b.epoch b.seq b.kind b.time b.x <| by
  delta z06v AD AE AJ AM AT AU AZ Aa Ac Ag Ah Ai Ao Ar Aw Az B7 BS Bb Ck Cm;unfold zau
  obtain ⟨m,hok,hs⟩:=zb4 (hs.perm hf.perm)
  refine zp hs λa0 w' hs=>?_
  refine zp hs λa1 w' hs=>?_
  refine ze hs ?_
  refine z8 (zr1 x h1 hs) λ_ _ hs=>?_
  obtain ⟨rfl,hs⟩:=hs
  refine zb ?_
  refine wp_lt ?_
  refine za hs ?_
  refine za hs ?_
  have hs:Sat _ (pt a1 (.cells #[.int .i64 b.base,.int .i64 b.pid,.int .i64 b.epoch,.int .i64 b.seq,.int .i64 b.kind,.int .i64 b.time,.slice b.x.a b.x.len b.x.cap] T.a0) ::
   pt a0 (.cells #[.int .i64 x.pid,.int .i64 x.epoch,.int .i64 x.seq,.int .i64 x.count,.int .i64 x.base,.int .i64 x.frm,.int .i64 x.time] T.a5)::pt t (.cells #[.int .i64 A.most,.int .i64 A.next,.map (some m)] T.a6)::z19 ekI evW m (z37 A.rows)::r):=hs
  refine zk (λv w'=>v=((if b.epoch>x.epoch then 0 else x.seq+x.count),())/\Sat w' (pt a1 (.cells #[.int .i64 b.base,.int .i64 b.pid,.int .i64 b.epoch,.int .i64 b.seq,.int .i64 b.kind,.int .i64 b.time,.slice b.x.a b.x.len b.x.cap] T.a0) ::
   pt a0 (.cells #[.int .i64 x.pid,.int .i64 x.epoch,.int .i64 x.seq,.int .i64 x.count,.int .i64 x.base,.int .i64 x.frm,.int .i64 x.time] T.a5)::pt t (.cells #[.int .i64 A.most,.int .i64 A.next,.map (some m)] T.a6)::z19 ekI evW m (z37 A.rows)::r)) ?_ ?_
  ·refine zg (λh=>?_) λh=>?_
   ·exact zf ⟨by rw [if_pos h],hs⟩
   ·exact zf ⟨by rw [if_neg h],hs⟩
  clear hs
  rintro _ w ⟨rfl,hs⟩
  refine zj ?_
  refine ze hs ?_
  refine z8 (zqn x hs) λ_ _ hs=>?_
  obtain ⟨rfl,hs⟩:=hs
  refine zb ?_
  refine za hs ?_
  refine za hs ?_
  refine za hs ?_
  refine wp_lt ?_
  refine zg (λh=>?_) λh=>?_
  ·rw [if_pos h]
   exact ⟨rfl,rfl,z3b m hok hs⟩
  rw [if_neg h]
  refine ze hs ?_
  refine z8 (zho b hs) λ_ _ hs=>?_
  obtain ⟨rfl,hs⟩:=hs
  refine zb ?_
  refine za hs ?_
  refine wp_lt ?_
  refine zg (λh=>?_) λh=>?_
  ·rw [if_pos (by simpa using h)]
   exact ⟨rfl,rfl,z3b m hok hs⟩
  rw [if_neg (by simpa using h)]
  refine zy hs λw' hs=>?_
  refine z0k ?_
  refine za hs ?_
  refine zdp hs ?_
  refine z0k ?_
  refine za hs ?_
  refine wp_lt ?_
  refine zd ?_
  have hlen:(z37 A.rows).length=A.rows.length:=by unfold z37;rw [List.length_map]
  rw [hlen]
  refine zg (λh=>?_) λh=>?_
  ·rw [if_pos (by simpa using h)]
   exact ⟨rfl,rfl,z3b m hok hs⟩
  ·rw [if_neg (by simpa using h)]
   exact ⟨rfl,rfl,z3b m hok hs⟩
theorem zfj (b:BatM) [hf:Fo l tb t A r] [hb:FocR r b.x 4 (b.rs.flatMap z01)] (hs:Sat w l) :
  Ret P F.a23 #[.pointer (some ⟨t,0,none⟩),.agg (zr b).toArray] w λvs w'=>vs=[.agg (zfv (z1s A b).1).toArray,.int .i64 (z1s A b).2]/\Sat w' (tb t A::r) :=
 zta _ b.base b.pid b.epoch b.seq b.kind b.time b.x <| by
  delta z06t AB AC AD AE AJ AM Ac Ag Ah Ai Ao Aq Ar Aw Ax Az BS Bb Ci Ck Cl;unfold z1s
  have hs:Sat w (tb t A::r):=hs.perm hf.perm
  have hok:=zzx hs
  refine zp hs λa0 w' hs=>?_
  refine zm hs λa1 w' hs=>?_
  refine zx ?_ (by simp)
  refine ze hs ?_
  refine z8 (z95 b hs) λ_ _ hs=>?_
  obtain ⟨rfl,hs⟩:=hs
  refine zb ?_
  refine wp_lt ?_
  refine za hs ?_
  refine zg (λh=>?_) λh=>?_
  ·rw [if_pos h]
   refine zl hs λw' hs=>?_
   refine wp_lt ?_
   refine ze hs ?_
   exact ⟨rfl,rfl,hs.sub⟩
  rw [if_neg h]
  have hv:z04 b=0:=Decidable.not_not.1 λe=>h (.inl e)
  obtain ⟨hs1,hs2,hnum,hfit,hnx⟩:=z14 b hv
  have hl64:b.rs.length<=64:=by
   unfold zq at hs2
   split at hs2
   ·have:=hfit.2
    rename_i hm
    rw [if_pos hm] at this;omega
   ·omega
  refine za hs ?_
  refine z8 (zwm b.pid hs) λ_ _ hs=>?_
  obtain ⟨rfl,hs⟩:=hs
  refine zb ?_
  obtain ⟨hr1,hr2,hr3,hr4,hr5,hr6,hr7⟩:=zhl hok b.pid
  generalize z0q A b.pid=x at *
  refine zm hs λa26 w' hs=>?_
  refine zl hs λw' hs=>?_
  refine wp_lt ?_
  refine za hs ?_
  refine za hs ?_
  refine zg (λh=>?_) λh=>?_
  ·rw [if_pos h]
   refine ze hs ?_
   refine z8 (zho b hs) λ_ _ hs=>?_
   obtain ⟨rfl,hs⟩:=hs
   refine zb ?_
   refine zg (λh=>?_) λh=>?_
   ·rw [if_pos h]
    refine zl hs λw' hs=>?_
    refine ze hs ?_
    exact ⟨rfl,rfl,hs.sub⟩
   ·rw [if_neg h]
    refine zl hs λw' hs=>?_
    refine ze hs ?_
    exact ⟨rfl,rfl,hs.sub⟩
  rw [if_neg h]
  refine ze hs ?_
  refine z8 (zho b hs) λ_ _ hs=>?_
  obtain ⟨rfl,hs⟩:=hs
  refine zb ?_
  have hs:Sat _ (tb t A::pt a26 (.cells #[.int .i64 x.pid,.int .i64 x.epoch,.int .i64 x.seq,.int .i64 x.count,.int .i64 x.base,.int .i64 x.frm,.int .i64 x.time] T.a5)::pt a1 (.cells #[.bool false,.int .i64 0] T.a7) ::
   pt a0 (.cells #[.int .i64 b.base,.int .i64 b.pid,.int .i64 b.epoch,.int .i64 b.seq,.int .i64 b.kind,.int .i64 b.time,.slice b.x.a b.x.len b.x.cap] T.a0)::r):=hs.sub
  refine zk (λ_ w'=>¬ (z0i b=false/\(z89 x b).2=true)/\Sat w' (tb t A::pt a26 (.cells #[.int .i64 x.pid,.int .i64 x.epoch,.int .i64 x.seq,.int .i64 x.count,.int .i64 x.base,.int .i64 x.frm,.int .i64 x.time] T.a5)::pt a1 (.cells #[.bool false,.int .i64 0] T.a7) ::
   pt a0 (.cells #[.int .i64 b.base,.int .i64 b.pid,.int .i64 b.epoch,.int .i64 b.seq,.int .i64 b.kind,.int .i64 b.time,.slice b.x.a b.x.len b.x.cap] T.a0)::r)) ?_ ?_
  ·refine zg (λh=>?_) λh=>?_
   ·refine ze hs ?_
    refine ze hs ?_
    refine z8 (zz2 x b ⟨by omega,by omega⟩ hnum.2.2.2.2.1 hl64 hs) λ_ _ hs=>?_
    obtain ⟨rfl,hs⟩:=hs
    refine zb ?_
    refine zm hs λa67 w' hs=>?_
    refine zl hs λw' hs=>?_
    refine wp_lt ?_
    refine zg (λh2=>?_) λh2=>?_
    ·rw [if_pos ⟨by simpa using h,h2⟩]
     refine ze hs ?_
     refine zl hs λw' hs=>?_
     refine ze hs ?_
     refine zo ?_
     exact ⟨rfl,rfl,hs.sub⟩
    ·exact zf ⟨λe=>h2 e.2,hs.sub⟩
   ·exact zf ⟨λe=>h (by rw [e.1];simp),hs⟩
  clear hs
  rintro _ w ⟨hno,hs⟩
  refine zj ?_
  rw [if_neg hno]
  refine ze hs ?_
  refine ze hs ?_
  refine z8 (zz5 x (z5b A b.pid).isSome b ⟨by omega,by omega⟩ hs) λ_ _ hs=>?_
  obtain ⟨rfl,hs⟩:=hs
  refine zb ?_
  refine zl hs λw' hs=>?_
  refine wp_lt ?_
  refine ze hs ?_
  exact ⟨rfl,rfl,hs.sub⟩
end
def z8s (A:TabA) (b:BatM):Int:=match z5b A b.pid with
 | none=>b.time
 | some r=>if r.time>b.time then r.time else b.time
def z6k (A:TabA) (b:BatM):Int:=if b.kind=1/\(z0q A b.pid).frm<0 then b.base else (z0q A b.pid).frm
def z40 (A:TabA) (b:BatM):RowA:=if z0i b then ⟨b.pid,b.epoch+1,0,0,0,-1,z8s A b⟩ else ⟨b.pid,b.epoch,b.seq,b.rs.length,b.base,z6k A b,z8s A b⟩
def z7i (pid:Int) (rs:List RowA):List RowA:=rs.filter λr=>!decide (r.pid=pid)
def z8o (x:RowA) (rs:List RowA):List RowA:=rs.filter (λr=>decide (r.pid<x.pid))++x::rs.filter (λr=>decide (x.pid<r.pid))
def z58 (A:TabA) (b:BatM):TabA:=⟨A.most,b.base+zq b,if b.pid=0 then A.rows else z8o (z40 A b) A.rows⟩
def zjw (A:TabA) (b:BatM):Int × TabA :=
 if (z1s A b).2≠0 then ((z1s A b).2,A) else if (z1s A b).1.again then (4,A) else if b.base<A.next then (8,A) else (0,z58 A b)
theorem zlh (x:RowA) (rs:List RowA):(z8o x rs).Perm (x::z7i x.pid rs):=by
 unfold z8o z7i
 refine List.perm_middle.trans (.cons _ ?_)
 have h:=List.filter_append_perm (λr:RowA=>decide (r.pid<x.pid)) (rs.filter λr=>!decide (r.pid=x.pid))
 rw [List.filter_filter,List.filter_filter] at h
 have e1:rs.filter (λr=>decide (r.pid<x.pid))=rs.filter (λr=>decide (r.pid<x.pid) && !decide (r.pid=x.pid)):=List.filter_congr λr _=>by
  rw [Bool.eq_iff_iff];simp;omega
 have e2:rs.filter (λr=>decide (x.pid<r.pid))=rs.filter (λr=>!decide (r.pid<x.pid) && !decide (r.pid=x.pid)):=List.filter_congr λr _=>by
  rw [Bool.eq_iff_iff];simp;omega
 rw [e1,e2];exact h
theorem zsj {x:RowA} {rs:List RowA} (h:rs.Pairwise λa b=>a.pid<b.pid):(z8o x rs).Pairwise λa b=>a.pid<b.pid:=by
 unfold z8o
 rw [List.pairwise_append,List.pairwise_cons]
 refine ⟨h.filter _,⟨λr hr=>?_,h.filter _⟩,λa ha c hc=>?_⟩
 ·simpa using (List.mem_filter.1 hr).2
 ·have h1:a.pid<x.pid:=by simpa using (List.mem_filter.1 ha).2
  rcases List.mem_cons.1 hc with rfl|hc
  ·exact h1
  ·have h2:x.pid<c.pid:=by simpa using (List.mem_filter.1 hc).2
   omega
theorem zd5 {pid:Int} {rs:List RowA} (h:∀ r ∈ rs,r.pid≠pid):z7i pid rs=rs:=List.filter_eq_self.2 λr hr=>by simp [h r hr]
theorem za5 {x:RowA}:∀ {rs:List RowA},x ∈ rs->(rs.Pairwise λa b=>a.pid<b.pid)->rs.Perm (x::z7i x.pid rs)
 | y::rs,hx,h=>by
  rw [List.pairwise_cons] at h
  unfold z7i
  rw [List.filter_cons]
  rcases List.mem_cons.1 hx with rfl|hx
  ·rw [if_neg (by simp)]
   have:=zd5 (pid:=x.pid) (rs:=rs) (λr hr=>by have:=h.1 r hr;omega)
   unfold z7i at this
   rw [this]
  ·have h1:=h.1 x hx
   rw [if_pos (by simp;omega)]
   exact ((za5 hx h.2).cons y).trans (.swap _ _ _)
theorem zsa {a b:List RowA} (h:a.Perm b):(z8u a).Perm (z8u b):=h.filter _
theorem zfo {a b:List RowA} (h:a.Perm b) (ha:(z8u a).Pairwise λx y=>x.frm≠y.frm):(z8u b).Pairwise λx y=>x.frm≠y.frm :=
 (List.Perm.pairwise_iff (λ{x y} h=>Ne.symm h) (zsa h)).1 ha
theorem ze4 {A:TabA} {b:BatM} (h1:(z1s A b).2=0) (h2:(z1s A b).1.again=false):z04 b=0/\(b.pid≠0->(z0q A b.pid).epoch<=b.epoch/\¬ (z0i b=false/\(z89 (z0q A b.pid) b).2=true)/\zau A (z0q A b.pid) (z5b A b.pid).isSome b=0):=by
 unfold z1s at h1 h2
 split at h1
 ·rename_i h
  rw [if_pos h] at h2
  refine ⟨h1,λhp=>absurd h (λh=>h.elim (λh=>h h1) hp)⟩
 rename_i h
 rw [if_neg h] at h2
 have hv:z04 b=0:=Decidable.not_not.1 λe=>h (.inl e)
 refine ⟨hv,λhp=>?_⟩
 split at h1
 ·rename_i h3
  rw [if_pos h3] at h2
  split at h1
  ·rename_i h4;rw [if_pos h4] at h2;cases h2
  ·cases h1
 rename_i h3
 rw [if_neg h3] at h2
 split at h1
 ·rename_i h4
  rw [if_pos h4] at h2
  obtain ⟨-,h4⟩:=h4
  unfold z89 at h2 h4
  split at h4
  ·cases h4
  ·rename_i h5
   rw [if_neg h5] at h2
   split at h2 <;> cases h2
 ·rename_i h4
  exact ⟨by omega,h4,h1⟩
theorem zru {A:TabA} {x:RowA} {there:Bool} {b:BatM} (h:zau A x there b=0):¬ (0<=x.frm/\(b.epoch>x.epoch\/b.kind=0))/\¬ (z0i b=false/\b.seq≠(if b.epoch>x.epoch then 0 else x.seq+x.count))/\(there=false->(A.rows.length:Int)<A.most):=by
 unfold zau at h
 by_cases h1:0<=x.frm/\(b.epoch>x.epoch\/b.kind=0)
 ·rw [if_pos h1] at h;cases h
 rw [if_neg h1] at h
 by_cases h2:z0i b=false/\b.seq≠(if b.epoch>x.epoch then 0 else x.seq+x.count)
 ·rw [if_pos h2] at h;cases h
 rw [if_neg h2] at h
 by_cases h3:there=false/\(A.rows.length:Int)>=A.most
 ·rw [if_pos h3] at h;cases h
 exact ⟨h1,h2,λe=>by rcases Int.lt_or_le (A.rows.length:Int) A.most with h|h;exact h;exact absurd ⟨e,h⟩ h3⟩
theorem zln (A:TabA) (b:BatM):(z40 A b).pid=b.pid:=by unfold z40;split <;> rfl
theorem z03e {A:TabA} (hok:okTb A) {b:BatM} (hb:0<=b.time/\b.time<=1099511627776):0<=z8s A b/\z8s A b<=1099511627776:=by
 unfold z8s
 split
 ·exact hb
 ·rename_i r hr
  have:=(hok.row r (z2j hr).1).time
  split <;> omega
theorem z03i {A:TabA} {b:BatM} (hok:okTb A) (h1:(z1s A b).2=0) (h2:(z1s A b).1.again=false) (h3:A.next<=b.base):okTb (z58 A b):=by
 obtain ⟨hv,hj⟩:=ze4 h1 h2
 obtain ⟨hs1,hs2,hnum,hfit,hnx⟩:=z14 b hv
 have hn0:=hok.next
 by_cases hp0:b.pid=0
 ·have e:z58 A b=⟨A.most,b.base+zq b,A.rows⟩:=by unfold z58;rw [if_pos hp0]
  rw [e]
  exact ⟨hok.most,⟨by show 0<=b.base+zq b;omega,by show b.base+zq b<=_;omega⟩,hok.many,λr hr=>by
   have h:=hok.row r hr
   exact ⟨h.pid,h.epoch,h.time,h.count,h.seq,h.base,h.frm,h.none_,λhc=>by have:=h.some_ hc;show _/\_/\_<=b.base+zq b/\_;omega⟩,hok.byPid,hok.apart⟩
 obtain ⟨hje,-,hfr⟩:=hj hp0
 obtain ⟨hf1,hf2,hf3⟩:=zru hfr
 have e:z58 A b=⟨A.most,b.base+zq b,z8o (z40 A b) A.rows⟩:=by unfold z58;rw [if_neg hp0]
 have hpp:=zlh (z40 A b) A.rows
 rw [zln] at hpp
 obtain ⟨hnk,hnb,hnp,hne,hns,hnt⟩:=hnum
 have hlate:=z03e hok hnt
 have hF:=zhl hok b.pid
 have hfrm:(z0q A b.pid).frm<A.next:=by
  unfold z0q
  cases h:z5b A b.pid with
  | none=>show (-1:Int)<_;omega
  | some y =>
   have hy:=hok.row y (z2j h).1
   show y.frm<A.next
   rcases Int.lt_or_le 0 y.count with hc|hc
   ·have:=hy.some_ hc;omega
   ·have:=hy.none_ (by have:=hy.count;omega);omega
 have hokN:okRw (z40 A b) (b.base+zq b):=by
  unfold z40
  by_cases hm:z0i b=true
  ·rw [if_pos hm]
   exact ⟨by show 1<=b.pid/\b.pid<=_;omega,by show 0<=b.epoch+1/\b.epoch+1<=_;omega,hlate,by show (0:Int)<=0/\(0:Int)<=64;omega,Int.le_refl _,Int.le_refl _,Int.le_refl _,λ_=>⟨rfl,rfl,rfl⟩,λh=>absurd h (by show ¬ (0:Int)<0;omega)⟩
  ·rw [if_neg hm]
   have hm:z0i b=false:=by simpa using hm
   have hlen:zq b=b.rs.length:=by unfold zq;rw [hm];rfl
   have hseq:b.seq+b.rs.length<=2147483648:=by
    unfold z04 at hv
    split at hv
    ·cases hv
    split at hv
    ·cases hv
    split at hv
    ·rename_i h;exact absurd hv h
    split at hv
    ·cases hv
    ·rename_i h
     rcases Int.lt_or_le 2147483647 (b.seq+(zq b-1)) with h9|h9
     ·exact absurd (.inr ⟨by omega,hm,by omega⟩) h
     ·omega
   have hfrm2 : -1<=z6k A b/\z6k A b<=b.base:=by
    unfold z6k
    split
    ·omega
    ·omega
   exact ⟨by show 1<=b.pid/\b.pid<=_;omega,by show 0<=b.epoch/\b.epoch<=_;omega,hlate,by show (0:Int)<=b.rs.length/\(b.rs.length:Int)<=64;omega,hns.1,hnb.1,hfrm2.1,λh=>absurd h (by show ¬ (b.rs.length:Int)=0;omega),λ_=>by
    show b.epoch<=_/\b.seq+(b.rs.length:Int)<=_/\b.base+(b.rs.length:Int)<=b.base+zq b/\z6k A b<=b.base
    omega⟩
 have hrest:z7i b.pid A.rows ⊆ A.rows:=λr hr=>(List.mem_filter.1 hr).1
 rw [e]
 refine ⟨hok.most,⟨by show 0<=b.base+zq b;omega,by show b.base+zq b<=_;omega⟩,?_,λr hr=>?_,zsj hok.byPid,?_⟩
 ·show ((z8o (z40 A b) A.rows).length:Int)<=A.most
  rw [hpp.length_eq,List.length_cons]
  cases h:z5b A b.pid with
  | none =>
   have:=hf3 (by rw [h];rfl)
   rw [zd5 (zd6 h)];omega
  | some y =>
   have h4:=(za5 (z2j h).1 hok.byPid).length_eq
   rw [(z2j h).2,List.length_cons] at h4
   have:=hok.many
   omega
 ·have hr:r ∈ z8o (z40 A b) A.rows:=hr
  rcases List.mem_cons.1 (hpp.mem_iff.1 hr) with rfl|hr
  ·exact hokN
  ·have h:=hok.row r (hrest hr)
   exact ⟨h.pid,h.epoch,h.time,h.count,h.seq,h.base,h.frm,h.none_,λhc=>by have:=h.some_ hc;show _/\_/\_<=b.base+zq b/\_;omega⟩
 ·refine zfo hpp.symm ?_
  have hsub:(z8u (z7i b.pid A.rows)).Pairwise λx y=>x.frm≠y.frm:=hok.apart.sublist ((List.filter_sublist).filter _)
  unfold z8u
  rw [List.filter_cons]
  split
  rotate_left
  ·exact hsub
  rename_i hop
  have hop:0<=(z40 A b).frm:=by simpa using hop
  rw [List.pairwise_cons]
  refine ⟨λy hy=>?_,hsub⟩
  have hy1:=List.mem_filter.1 hy
  have hy2:0<=y.frm:=by simpa using hy1.2
  have hyr:=hok.row y (hrest hy1.1)
  have hm:¬ z0i b=true:=λhm=>by unfold z40 at hop;rw [if_pos hm] at hop;exact absurd hop (by show ¬ (0:Int) <= -1;omega)
  unfold z40
  rw [if_neg hm]
  show z6k A b≠y.frm
  have hylt:y.frm<A.next:=by
   rcases Int.lt_or_le 0 y.count with hc|hc
   ·have:=hyr.some_ hc;omega
   ·have:=hyr.none_ (by have:=hyr.count;omega);omega
  unfold z6k
  split
  ·omega
  ·rename_i hk
   cases h:z5b A b.pid with
   | none =>
    have:(z0q A b.pid).frm = -1:=by unfold z0q;rw [h];rfl
    omega
   | some z =>
    have hz:z0q A b.pid=z:=by unfold z0q;rw [h];rfl
    rw [hz] at *
    by_cases hzo:0<=z.frm
    ·have h5:=zfo (za5 (z2j h).1 hok.byPid) hok.apart
     rw [(z2j h).2] at h5
     unfold z8u at h5
     rw [List.filter_cons,if_pos (by simpa using hzo),List.pairwise_cons] at h5
     exact h5.1 y hy
    ·omega
theorem z05i {A:TabA} (hok:okTb A) (pid:Int):(∃ v0,(z37 A.rows).Perm ((pid,v0)::z37 (z7i pid A.rows)))\/((∀ v,(pid,v) ∉ z37 A.rows)/\z37 (z7i pid A.rows)=z37 A.rows):=by
 rcases zj2 A pid with ⟨y,hy,-⟩|⟨hn,hno⟩
 ·left
  refine ⟨y,?_⟩
  have h:=(za5 (z2j hy).1 hok.byPid).map λr:RowA=>(r.pid,r)
  rw [(z2j hy).2,List.map_cons,(z2j hy).2] at h
  exact h
 ·right
  exact ⟨hno,by rw [zd5 (zd6 hn)]⟩
theorem z03c (x:RowA) (rs:List RowA):((x.pid,x)::z37 (z7i x.pid rs)).Perm (z37 (z8o x rs)):=((zlh x rs).map λr:RowA=>(r.pid,r)).symm
theorem zxz {A:TabA} {n:Int} (hok:okTb A) (h1:A.next<=n) (h2:n<=1099511627777):okTb ⟨A.most,n,A.rows⟩ :=
 ⟨hok.most,⟨by have:=hok.next;show 0<=n;omega,h2⟩,hok.many,λr hr=>by
  have h:=hok.row r hr
  exact ⟨h.pid,h.epoch,h.time,h.count,h.seq,h.base,h.frm,h.none_,λhc=>by have:=h.some_ hc;show _/\_/\_<=n/\_;omega⟩,hok.byPid,hok.apart⟩
section
variable {w:World} {l r r1 r2 l':List HP} {t:Nat} {A:TabA}
theorem z04d (b:BatM) [hf:Fo l tb t A r] [hb:FocR r b.x 4 (b.rs.flatMap z01)] (hs:Sat w l) :
  Ret P F.a26 #[.pointer (some ⟨t,0,none⟩),.agg (zr b).toArray] w λvs w'=>vs=[.int .i64 (zjw A b).1]/\Sat w' (tb t (zjw A b).2::r) :=
 ztb _ b.base b.pid b.epoch b.seq b.kind b.time b.x <| by
  delta z06u AB AC AD AE AJ AK AM AT AU Aa Ac Ad Ae Af Ag Ah Ai Ao Aq Ar As Aw Ax Az B1 B5 BS Be Bs Ch Ci Ck;unfold zjw
  have hs:Sat w (tb t A::r):=hs.perm hf.perm
  have hok:=zzx hs
  refine zp hs λa0 w' hs=>?_
  refine ze hs ?_
  refine z8 (zfj b hs) λ_ _ hs=>?_
  obtain ⟨rfl,hs⟩:=hs
  refine zb ?_
  have hnx:=z03i (b:=b) hok
  have hjf:=ze4 (A:=A) (b:=b)
  generalize hje:z1s A b=j at *
  obtain ⟨v,e⟩:=j
  refine zm hs λa11 w' hs=>?_
  refine zl hs λw' hs=>?_
  refine wp_lt ?_
  refine wp_lt ?_
  refine zg (λh=>?_) λh=>?_
  ·rw [if_pos h]
   refine wp_lt ?_
   exact ⟨rfl,rfl,hs.sub⟩
  have he:e=0:=Decidable.not_not.1 h
  subst he
  rw [if_neg (by simp)]
  refine za hs ?_
  refine wp_lt ?_
  refine zg (λh=>?_) λh=>?_
  ·rw [if_pos h]
   exact ⟨rfl,rfl,hs.sub⟩
  rw [if_neg h]
  have hag:v.again=false:=by simpa using h
  refine zy hs λw' hs=>?_
  refine za hs ?_
  refine zh ?_
  have hs:Sat w' (tb t A::pt a11 (.cells #[.bool v.again,.int .i64 v.base] T.a7)::pt a0 (.cells #[.int .i64 b.base,.int .i64 b.pid,.int .i64 b.epoch,.int .i64 b.seq,.int .i64 b.kind,.int .i64 b.time,.slice b.x.a b.x.len b.x.cap] T.a0)::r):=hs.sub
  obtain ⟨m,-,hs⟩:=zb4 hs
  refine za hs ?_
  refine wp_lt ?_
  refine zd ?_
  refine zg (λh=>?_) λh=>?_
  ·rw [if_pos h]
   exact ⟨rfl,rfl,z3b m hok hs⟩
  rw [if_neg h]
  have hok':=hnx rfl hag (by omega)
  obtain ⟨hv,hj⟩:=hjf rfl hag
  obtain ⟨hs1,hs2,hnum,hfit,hn2⟩:=z14 b hv
  have hne:=hnum.2.2.2.1
  refine ze hs ?_
  refine z8 (z92 b hs) λ_ _ hs=>?_
  obtain ⟨rfl,hs⟩:=hs
  refine zb ?_
  have hnb:z1o b=b.base+zq b:=by unfold z1o;rw [if_neg (by rw [hv];simp)]
  rw [hnb]
  refine zh ?_
  refine z03 hs λw' hs=>?_
  refine za hs ?_
  have hok1:okTb ⟨A.most,b.base+zq b,A.rows⟩:=zxz hok (by omega) hn2
  refine zg (λh0=>?_) λh0=>?_
  ·refine ⟨rfl,rfl,?_⟩
   have e:z58 A b=⟨A.most,b.base+zq b,A.rows⟩:=by unfold z58;rw [if_pos h0]
   show Sat _ (tb t (z58 A b)::r)
   rw [e]
   exact z3b m hok1 hs
  have e:z58 A b=⟨A.most,b.base+zq b,z8o (z40 A b) A.rows⟩:=by unfold z58;rw [if_neg h0]
  show _
  refine za hs ?_
  have hs:Sat _ (tb t ⟨A.most,b.base+zq b,A.rows⟩::pt a11 (.cells #[.bool v.again,.int .i64 v.base] T.a7)::pt a0 (.cells #[.int .i64 b.base,.int .i64 b.pid,.int .i64 b.epoch,.int .i64 b.seq,.int .i64 b.kind,.int .i64 b.time,.slice b.x.a b.x.len b.x.cap] T.a0)::r):=z3b m hok1 hs
  refine z8 (zwm b.pid hs) λ_ _ hs=>?_
  obtain ⟨rfl,hs⟩:=hs
  refine zb ?_
  have eF:z0q ⟨A.most,b.base+zq b,A.rows⟩ b.pid=z0q A b.pid:=rfl
  have eO:z5b ⟨A.most,b.base+zq b,A.rows⟩ b.pid=z5b A b.pid:=rfl
  rw [eF,eO]
  have hFok:=zhl hok b.pid
  have hkeys:=z05i hok b.pid
  have hkp:=z03c (z40 A b) A.rows
  rw [zln] at hkp
  refine zm hs λa42 w' hs=>?_
  refine zl hs λw' hs=>?_
  refine wp_lt ?_
  refine za hs ?_
  refine wp_lt ?_
  have hs:Sat _ (tb t ⟨A.most,b.base+zq b,A.rows⟩::pt a42 (.cells #[.int .i64 (z0q A b.pid).pid,.int .i64 (z0q A b.pid).epoch,.int .i64 (z0q A b.pid).seq,.int .i64 (z0q A b.pid).count,.int .i64 (z0q A b.pid).base,.int .i64 (z0q A b.pid).frm,.int .i64 (z0q A b.pid).time] T.a5) ::
   pt a0 (.cells #[.int .i64 b.base,.int .i64 b.pid,.int .i64 b.epoch,.int .i64 b.seq,.int .i64 b.kind,.int .i64 b.time,.slice b.x.a b.x.len b.x.cap] T.a0)::r):=hs.sub
  refine zk (λv w'=>v=(z8s A b,())/\Sat w' (tb t ⟨A.most,b.base+zq b,A.rows⟩::pt a42 (.cells #[.int .i64 (z0q A b.pid).pid,.int .i64 (z0q A b.pid).epoch,.int .i64 (z0q A b.pid).seq,.int .i64 (z0q A b.pid).count,.int .i64 (z0q A b.pid).base,.int .i64 (z0q A b.pid).frm,.int .i64 (z0q A b.pid).time] T.a5) ::
   pt a0 (.cells #[.int .i64 b.base,.int .i64 b.pid,.int .i64 b.epoch,.int .i64 b.seq,.int .i64 b.kind,.int .i64 b.time,.slice b.x.a b.x.len b.x.cap] T.a0)::r)) ?_ ?_
  ·unfold z8s z0q at *
   cases ho:z5b A b.pid with
   | none =>
    rw [ho] at hs
    refine zx ?_ (by simp)
    exact zf ⟨rfl,hs⟩
   | some y =>
    rw [ho] at hs
    refine z0b ?_ (by simp)
    refine za hs ?_
    refine wp_lt ?_
    exact zf ⟨rfl,hs⟩
  clear hs
  rintro _ w ⟨rfl,hs⟩
  refine zj ?_
  refine za hs ?_
  obtain ⟨m,-,hs⟩:=zb4 hs
  have hfin:∀ {w:World},Sat w (tb t (z58 A b)::r)->0=0/\([.int .i64 0]:List Value)=[.int .i64 0]/\Sat w (tb t (z58 A b)::r):=λh=>⟨rfl,rfl,h⟩
  refine zk (λ_ w'=>Sat w' (tb t (z58 A b)::r)) ?_ (by rintro _ w' hs;refine zj ?_;exact ⟨rfl,rfl,hs⟩)
  refine zk (λ_ w'=>z0i b=false/\Sat w' (pt t (.cells #[.int .i64 A.most,.int .i64 (b.base+zq b),.map (some m)] T.a6)::z19 ekI evW m (z37 A.rows)::pt a42 (.cells #[.int .i64 (z0q A b.pid).pid,.int .i64 (z0q A b.pid).epoch,.int .i64 (z0q A b.pid).seq,.int .i64 (z0q A b.pid).count,.int .i64 (z0q A b.pid).base,.int .i64 (z6k A b),.int .i64 (z0q A b.pid).time] T.a5) ::
   pt a0 (.cells #[.int .i64 b.base,.int .i64 b.pid,.int .i64 b.epoch,.int .i64 b.seq,.int .i64 b.kind,.int .i64 b.time,.slice b.x.a b.x.len b.x.cap] T.a0)::r)) ?_ ?_
  ·refine wp_lt ?_
   refine zk (λv w'=>v=(z0i b,())/\Sat w' (pt t (.cells #[.int .i64 A.most,.int .i64 (b.base+zq b),.map (some m)] T.a6)::z19 ekI evW m (z37 A.rows)::pt a42 (.cells #[.int .i64 (z0q A b.pid).pid,.int .i64 (z0q A b.pid).epoch,.int .i64 (z0q A b.pid).seq,.int .i64 (z0q A b.pid).count,.int .i64 (z0q A b.pid).base,.int .i64 (z0q A b.pid).frm,.int .i64 (z0q A b.pid).time] T.a5) ::
    pt a0 (.cells #[.int .i64 b.base,.int .i64 b.pid,.int .i64 b.epoch,.int .i64 b.seq,.int .i64 b.kind,.int .i64 b.time,.slice b.x.a b.x.len b.x.cap] T.a0)::r)) ?_ ?_
   ·refine zg (λh=>?_) λh=>?_
    ·exact zf ⟨by unfold z0i;rw [show (b.kind == 2)=true by simpa using h,decide_eq_true (by simpa using h)];rfl,hs⟩
    ·refine wp_lt ?_
     exact zf ⟨by unfold z0i;rw [decide_eq_false (p:=b.kind=2) (by simpa using h)];rfl,hs⟩
   clear hs
   rintro _ w ⟨rfl,hs⟩
   refine zj ?_
   refine zg (λhm=>?_) λhm=>?_
   ·refine zy hs λw' hs=>?_
    refine zh ?_
    refine za hs ?_
    refine za hs ?_
    refine za hs ?_
    refine za hs ?_
    have eN:z40 A b=⟨b.pid,b.epoch+1,0,0,0,-1,z8s A b⟩:=by unfold z40;rw [if_pos hm]
    rw [w64 (x:=b.epoch+1) (by omega) (by omega)]
    refine zb5 hs _ hkeys (z40 A b) (λw' hs=>?_) (by rw [eN])
    refine zd ?_
    refine zo (zo ?_)
    exact ⟨rfl,rfl,by show Sat _ (tb t (z58 A b)::r);exact e ▸ z3b m (A:=⟨A.most,b.base+zq b,z8o (z40 A b) A.rows⟩) (e ▸ hok') hs hkp⟩
   have hm:z0i b=false:=by simpa using hm
   refine wp_lt ?_
   refine zg (λh=>?_) λh=>?_
   ·refine ze hs ?_
    refine z8 (zqn (z0q A b.pid) hs) λ_ _ hs=>?_
    obtain ⟨rfl,hs⟩:=hs
    refine zb ?_
    refine zk (λ_ w'=>Sat w' (pt t (.cells #[.int .i64 A.most,.int .i64 (b.base+zq b),.map (some m)] T.a6)::z19 ekI evW m (z37 A.rows)::pt a42 (.cells #[.int .i64 (z0q A b.pid).pid,.int .i64 (z0q A b.pid).epoch,.int .i64 (z0q A b.pid).seq,.int .i64 (z0q A b.pid).count,.int .i64 (z0q A b.pid).base,.int .i64 (z6k A b),.int .i64 (z0q A b.pid).time] T.a5) ::
     pt a0 (.cells #[.int .i64 b.base,.int .i64 b.pid,.int .i64 b.epoch,.int .i64 b.seq,.int .i64 b.kind,.int .i64 b.time,.slice b.x.a b.x.len b.x.cap] T.a0)::r)) ?_ (by rintro _ w' hs;refine zj ?_;exact zf ⟨hm,hs⟩)
    refine zg (λh2=>?_) λh2=>?_
    ·refine za hs ?_
     refine z03 hs λw' hs=>?_
     refine zf ?_
     have:z6k A b=b.base:=by unfold z6k;rw [if_pos ⟨h,by simpa using h2⟩]
     rw [this];exact hs.sub
    ·refine zf ?_
     have:z6k A b=(z0q A b.pid).frm:=by unfold z6k;rw [if_neg (λh3=>h2 (by simpa using h3.2))]
     rw [this];exact hs
   ·refine zf ⟨hm,?_⟩
    have:z6k A b=(z0q A b.pid).frm:=by unfold z6k;rw [if_neg (λh3=>h h3.1)]
    rw [this];exact hs
  clear hs
  rintro _ w ⟨hm,hs⟩
  refine zj ?_
  have hl:=hs.slen b.x (xs:=b.rs) (enc:=z01)
  refine zy hs λw' hs=>?_
  refine zh ?_
  refine za hs ?_
  refine za hs ?_
  refine za hs ?_
  refine za hs ?_
  refine za hs ?_
  refine za hs ?_
  refine za hs ?_
  refine za hs ?_
  have eN:z40 A b=⟨b.pid,b.epoch,b.seq,b.rs.length,b.base,z6k A b,z8s A b⟩:=by unfold z40;rw [if_neg (by rw [hm];simp)]
  refine zb5 hs _ hkeys (z40 A b) (λw' hs=>?_) (by rw [eN,hl])
  refine zd ?_
  refine zf ?_
  exact e ▸ z3b m (A:=⟨A.most,b.base+zq b,z8o (z40 A b) A.rows⟩) (e ▸ hok') hs hkp
end
abbrev ekK (k:Int × Int):Value:=.agg #[.int .i64 k.1,.int .i64 k.2]
theorem z02x (a b:Int × Int) (w:World):(Op.equal T.a17 (ekK a) (ekK b)).run P w=.ok (a.1 == b.1 && a.2 == b.2) w :=
 zkk 10000 (t:=T.a17) (x:=ekK a) (y:=ekK b) (by kernel_rfl) w
theorem zi1 {P:Program} {t:TypeId} {q k:IntKind} (hu:P.underlying t=some (.int q)) (e:Bool) (n:Nat) (v:Int) (w:World):(Instr.checkKey e (n+1) t (.int k v)).run P w=.ok () w:=by
 simp [Instr.checkKey,run_underlying hu]
theorem zrd {P:Program} {t:TypeId} {f0 f1:Field} {q0 q1 k0 k1:IntKind} (hu:P.underlying t=some (.struct #[f0,f1])) (h0:P.underlying f0.type=some (.int q0)) (h1:P.underlying f1.type=some (.int q1)) (o0:f0.offset=0) (o1:f1.offset=1)
  (n0 : ¬ f0.name = "_") (n1 : ¬ f1.name = "_") (e : Bool) (n : Nat) (a b : Int) (w : World) : (Instr.checkKey e (n + 2) t (.agg #[.int k0 a, .int k1 b])).run P w = .ok () w := by
 have p0:(part f0.type #[Value.int k0 a,.int k1 b] f0.offset).run P w=.ok (.int k0 a) w:=run_part_plain w (by simp [Program.plainKey,h0]) (by rw [o0];rfl)
 have p1:(part f1.type #[Value.int k0 a,.int k1 b] f1.offset).run P w=.ok (.int k1 b) w:=run_part_plain w (by simp [Program.plainKey,h1]) (by rw [o1];rfl)
 have c0:=zi1 (k:=k0) h0 e n a w
 have c1:=zi1 (k:=k1) h1 e n b w
 rw [show n+2=(n+1)+1 from rfl,Instr.checkKey]
 simp only [Sem.run_bind,run_underlying hu,Result.andThen_ok]
 rw [<- Array.forIn_toList]
 simp only [List.forIn_cons,List.forIn_nil,Sem.run_bind,n0,n1,ne_eq,not_false_eq_true,if_true,Result.andThen_ok,p0,p1,c0,c1,Sem.run_pure]
theorem zuy (e:Bool) (k:Int × Int) (w:World):(Instr.checkKey e 10000 T.a17 (ekK k)).run P w=.ok () w :=
 zrd (P:=P) (q0:=.i64) (q1:=.i64) Go.Proofs.Tryz.underlying298 (by kernel_rfl) (by kernel_rfl) rfl rfl (by decide) (by decide) e 9998 k.1 k.2 w
theorem zib (k:Int × Int) (w:World):∀ (es:List MapEntry) (i:Nat),(∀ e ∈ es,∃ k',e.key=ekK k') ->
  (∃ (j:Nat) (e:MapEntry),es[j]? = some e/\e.key=ekK k/\(Instr.findAsking T.a17 (ekK k) es i).run P w=.ok (some (i+j,e.val)) w) \/
  ((∀ e ∈ es,e.key≠ekK k)/\(Instr.findAsking T.a17 (ekK k) es i).run P w=.ok none w)
 | [],i,_=>.inr ⟨by simp,by simp [Instr.findAsking,Sem.run_pure]⟩
 | e::es,i,h=>by
  obtain ⟨k',hk'⟩:=h e (List.mem_cons_self ..)
  have hrun:(Instr.findAsking T.a17 (ekK k) (e::es) i).run P w=(if (k.1 == k'.1 && k.2 == k'.2)=true then (pure (some (i,e.val)):Sem (Option (Nat × Value))) else Instr.findAsking T.a17 (ekK k) es (i+1)).run P w:=by
   rw [Instr.findAsking]
   simp only [Sem.run_bind,hk',z02x,Result.andThen_ok]
  by_cases hk:k=k'
  ·subst hk
   refine .inl ⟨0,e,rfl,hk',?_⟩
   rw [hrun,if_pos (by simp)];rfl
  ·have hne:¬ (k.1 == k'.1 && k.2 == k'.2)=true:=λh2=>hk (by
    simp only [Bool.and_eq_true,beq_iff_eq] at h2
    exact Prod.ext h2.1 h2.2)
   rcases zib k w es (i+1) (λe he=>h e (List.mem_cons_of_mem _ he)) with ⟨j,e',h1,h2,h3⟩|⟨h1,h2⟩
   ·exact .inl ⟨j+1,e',h1,h2,by rw [hrun,if_neg hne,h3,Nat.add_assoc,Nat.add_comm 1 j]⟩
   ·refine .inr ⟨λe' he'=>?_,by rw [hrun,if_neg hne,h2]⟩
    rcases List.mem_cons.1 he' with rfl|he'
    ·rw [hk']
     intro h4
     injection h4 with h4
     simp at h4
     exact hk (Prod.ext h4.1.symm h4.2.symm)
    ·exact h1 e' he'
instance:KeyT P T.a17 ekK where
 inj a b h:=by
  injection h with h4
  simp at h4
  exact Prod.ext h4.1 h4.2
 same a:=by
  show (_ && _)=true
  simp [Instr.sameBits]
 check:=zuy
 find es k w h:=by
  have e:=run_findKey_eq (P:=P) w (k:=T.a17) (by kernel_rfl) (ekK k) es
  rcases zib k w es 0 h with ⟨j,e',h1,h2,h3⟩|⟨h1,h2⟩
  ·exact .inl ⟨j,e',h1,h2,by rw [e,h3,Nat.zero_add]⟩
  ·exact .inr ⟨h1,by rw [e,h2]⟩
instance:KeyT P T.a14 ekI:=zkx (by kernel_rfl)
instance IsK.key {a b:Int}:IsK ekK (.agg #[.int .i64 a,.int .i64 b]) (a,b):=⟨rfl⟩
instance:MapT P T.a20 T.a14 (.agg #[.int .i64 0,.int .i64 0,.int .i64 0,.int .i64 0]):=⟨T.a18,by kernel_rfl,by kernel_rfl⟩
instance:MapT P T.a21 T.a17 (.agg #[.int .i64 0,.int .i64 0,.int .i64 0,.int .i64 0]):=⟨T.a18,by kernel_rfl,by kernel_rfl⟩
end Go.Dec
