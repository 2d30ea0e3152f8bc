/- What the claim of this folder leans on: our own texts, joined, without what it does not use. -/
import Derived.Test.YtgpcickgjngglaaGreatRows
import Derived.WalkKit
import Derived.ProofKit
import Derived.OpenShut
import Derived.RowKit3
import Derived.OrdersHeld
import Derived.Scope
import Derived.KernelRfl
import Derived.Laws.Sem
import Derived.Laws.StructEq
import Derived.Deep.AppendSrc
import Derived.Laws.BytesArg
import Derived.Laws.RangeString
import Derived.Maps.RangeRun
import Derived.Lib.ConvBytes
import Derived.Lib.SlBytesConst
import Derived.ChangeSlices
import Derived.ChangeMaps5
import Derived.ChangeSame
import Derived.Deep.Slices
import Derived.Deep.Fields
import Derived.Test.YtgpcickgjngglaaGreatProg
import Derived.Laws.MakeOwn
import Derived.WideKeyRuns
import Derived.DeepKeys3
import Derived.Sort.MapsRangeIn
import Derived.Sort.KeysCollected
import Derived.RangeFuncNested
import Derived.RangeFuncBound
import Derived.RangeFuncCalls
import Derived.RangeFuncLeaves
import Derived.RangeFuncBox
import Derived.OwnWalkIn
import Derived.TacticsInMore
import Derived.RegionIn
import Derived.LoopNIn
import Derived.LoopIn
import Derived.Maps.AppendAt
import Derived.Shelf.Abstract
import Derived.Shelf.Sort.Plain
import Derived.Shelf.Slices.In.SortNone
import Derived.Test.YtgpcickgjngglaaGreatQORec1
import Derived.Test.YtgpcickgjngglaaGreatQORec2
import Derived.Test.YtgpcickgjngglaaGreatQORec3
set_option linter.unusedVariables false
set_option linter.unusedSimpArgs false
namespace Go.Dec
def z02m (parts:Sl):Prog :=
AI 1 (
AJ 2 (0,(0,())) λn0 n1=>
Aa (decide (n1<(Ag parts))) (
.ex [.adr] (c1 λa2=>0<=n1/\n1<(Ag parts)/\parts.a=some a2) (u1 λa3=>
Ax T.a49 a3 (Int.toNat n1*1) λl4=>
Ah (AF (n0+(Ag l4))) λn5=>
Ab 2 [Ac n5,Ac (AF (n1+1))]))<|
Ab 1 [Ac n0]) λn6=>
AP (Instr.makeSlice T.a49 (Ac 0) (Ac n6)) λl7=>
AS 1 (
Bl 2 ({ a:=l7.a,len:=l7.len,cap:=l7.cap },(0,())) λl8 n9=>
Aa (decide (n9<(Ag parts))) (
.ex [.adr] (c1 λa10=>0<=n9/\n9<(Ag parts)/\parts.a=some a10) (u1 λa11=>
Ax T.a49 a11 (Int.toNat n9*1) λl12=>
AP (app T.a49 T.a49 T.a49 l8.v l12.v) λl13=>
Ab 2 [l13.v,Ac (AF (n9+1))]))<|
Ab 1 [l8.v]) λl14=>
Ab 0 [l14.v]
theorem zp5 (parts:Sl):FnS (z02m parts) F.a198 #[.slice parts.a parts.len parts.cap]:=dV ⟨[],[(0,[(3,.one (.int .i64))]),(2,[(6,.one .slc)])],[],[(0,[(3,.one (.int .i64)),(11,.one (.int .i64))]),(2,[(6,.one .slc),(24,.one (.int .i64))])]⟩ Go.Proofs.Tryz.func73 (by kernel_rfl)
def z02y (n:Int):Prog :=
.bind 1 [.one (.int .u64),.one .slc] (
.loop 2 [.one (.int .u64),.one .slc] (n,(⟨none,0,0⟩,())) (u2 λ(n0:Int) l1=>
Aa (decide (n0>=128)) (
AP (Instr.buildSlice T.a49 1 #[(0,.int .u8 (IntKind.wrap .u8 (((BitVec.toNat (BitVec.ofInt 8 (IntKind.wrap .u8 n0) ||| BitVec.ofInt 8 128):Nat):Int))))]) λl2=>
AP (app T.a49 T.a49 T.a49 l1.v l2.v) λl3=>
AU (Int.fdiv n0 128) λn4=>
Ab 2 [.int .u64 n4,l3.v])<|
Ab 1 [.int .u64 n0,l1.v])) (u2 λ(n5:Int) l6=>
AP (Instr.buildSlice T.a49 1 #[(0,.int .u8 (IntKind.wrap .u8 n5))]) λl7=>
AP (app T.a49 T.a49 T.a49 l6.v l7.v) λl8=>
Ab 0 [l8.v])
theorem zph (n:Int):FnS (z02y n) F.a210 #[.int .u64 n]:=dV ⟨[],[(0,[(0,.one (.int .u64)),(3,.one .slc)])],[],[(0,[(0,.one (.int .u64)),(3,.one .slc)])]⟩ Go.Proofs.Tryz.func74 (by kernel_rfl)
def ztg (n:Int):Prog :=
Aa (decide (n<128)) (
AP (Instr.buildSlice T.a49 1 #[(0,.int .u8 (IntKind.wrap .u8 n))]) λl0=>
Ab 0 [l0.v])<|
AP (Instr.buildSlice T.a49 1 #[(0,.int .u8 (IntKind.wrap .u8 (IntKind.wrap .u64 (Int.tmod n 128+128))))]) λl1=>
Ay F.a191 [.int .u64 (IntKind.wrap .u64 (Int.tdiv n 128))] λl2=>
AP (app T.a49 T.a49 T.a49 l1.v l2.v) λl3=>
Ab 0 [l3.v]
theorem zfa (n:Int):FnS (ztg n) F.a191 #[.int .u64 n]:=dV ⟨[],[],[],[]⟩ Go.Proofs.Tryz.func76 (by kernel_rfl)
def z02n (b:Sl):Prog :=
Ay F.a0 [b.v] λl0=>
Ae T.a59 (.agg #[l0.v,Ac 0,Ac 0]) λa1=>
Ab 0 [Af a1]
theorem zp6 (b:Sl):FnS (z02n b) F.a199 #[.slice b.a b.len b.cap]:=dV ⟨[],[],[],[]⟩ Go.Proofs.Tryz.func78 (by kernel_rfl)
def z02u (r:Option Addr):Prog :=
AM F.a208 [Ad r] λb0=>
Aa (not b0) (
Ab 0 [.int .u64 0])<|
Aj r λa2=>
Bj F.a214 [An a2 0] λn3=>
AU n3 λn4=>
Ab 0 [.int .u64 n4]
theorem zpd (r:Option Addr):FnS (z02u r) F.a206 #[.pointer r]:=dV ⟨[],[],[],[]⟩ Go.Proofs.Tryz.func79 (by kernel_rfl)
def z02p (r:Option Addr):Prog :=
Aa (Option.isNone r) (
Ab 0 [Ac 1])<|
Aj r λa1=>
Ai F.a212 [An a1 0] λn2=>
AB 1 (
Aa (decide (n2>0)) (
Aj r λa4=>
Am F.a211 [An a4 0,Ac 6]<|
Ab 1 [])<|
Ab 1 [])<|
Aj r λa6=>
AD T.a1 (Addr.add a6 0) 2 λn7=>
Ah n7 λn8=>
Ab 0 [Ac n8]
theorem zp8 (r:Option Addr):FnS (z02p r) F.a201 #[.pointer r]:=dV ⟨[(62914569,[])],[],[],[]⟩ Go.Proofs.Tryz.func80 (by kernel_rfl)
def z02e (r:Option Addr):Prog :=
Aj r λa1=>
AD T.a1 a1 2 λn2=>
Aa (n2 != 0) (
Ab 0 [.int .u64 0])<|
AC<|
Aj r λa4=>
Ax T.a49 a4 0 λl5=>
Aj r λa7=>
AD T.a13 a7 1 λn8=>
.must (0<=n8/\n8<=(Ag l5)) <|
.call F.a192 [.slice (z12 l5.a 1 (Int.toNat n8) l5.cap) (l5.len-Int.toNat n8) (l5.cap-Int.toNat n8)] (.tup [.one (.int .u64),.one (.int .i64)]) (u2 λ(n9 n10:Int)=>
AU n9 λn11=>
Ah n10 λn12=>
AG<|
Aa (n12 == 0) (
Am F.a190 [Ad r,Ac 6]<|
Ab 0 [.int .u64 0])<|
Aj r λa14=>
AD T.a13 a14 1 λn15=>
Aj r λa17=>
AE T.a13 a17 1 (Ac (AF (n15+n12)))<|
AU n11 λn18=>
Ab 0 [.int .u64 n18])
theorem zox (r:Option Addr):FnS (z02e r) F.a189 #[.pointer r]:=dV ⟨[],[],[],[]⟩ Go.Proofs.Tryz.func81 (by kernel_rfl)
def z00w (l:Sl):Prog :=
AS 1 (
Bl 2 (⟨none,0,0⟩,(0,())) λl0 n1=>
Aa (decide (n1<(Ag l))) (
AS 3 (
.ex [.adr] (c1 λa2=>0<=n1/\n1<(Ag l)/\l.a=some a2) (u1 λa3=>
AV T.a0 a3 (Int.toNat n1*7) λn4 n5 n6 n7 n8 n9 l10=>
Ar T.a0 λa11=>
Au T.a0 a11 (AW n4 n5 n6 n7 n8 n9 l10)<|
Bn T.a0 a11 λn12 n13 n14 n15 n16 n17 l18=>
AM F.a113 [AW n12 n13 n14 n15 n16 n17 l18] λb19=>
Aa b19 (
Ab 3 [l0.v])<|
Ax T.a39 a11 6 λl20=>
AS 4 (
Bl 5 ({ a:=l0.a,len:=l0.len,cap:=l0.cap },(0,())) λl21 n22=>
Aa (decide (n22<(Ag l20))) (
.ex [.adr] (c1 λa23=>0<=n22/\n22<(Ag l20)/\l20.a=some a23) (u1 λa24=>
Bo T.a2 a24 (Int.toNat n22*4) λs25 s26 b27 n28=>
Ar T.a2 λa29=>
Ah n22 λn30=>
Au T.a2 a29 (Bp s25 s26 b27 n28)<|
AD T.a14 a11 0 λn31=>
Bq T.a2 a29 λs32 s33 b34 n35=>
AP (Instr.buildSlice T.a46 1 #[(0,.agg #[Ac (AF (n31+n30)),.string s32,.string s33,.bool b34,Ac n35])]) λl36=>
AP (app T.a46 T.a46 T.a46 l21.v l36.v) λl37=>
Ab 5 [l37.v,Ac (AF (n22+1))]))<|
Ab 4 [l21.v]) λl38=>
Ab 3 [l38.v])) λl39=>
Ab 2 [l39.v,Ac (AF (n1+1))])<|
Ab 1 [l0.v]) λl40=>
Ab 0 [l40.v]
theorem znf (l:Sl):FnS (z00w l) F.a105 #[.slice l.a l.len l.cap]:=dV ⟨[],[(0,[(3,.one .slc)]),(1,[(3,.one .slc)]),(2,[(3,.one .slc)])],[],[(0,[(3,.one .slc),(10,.one (.int .i64))]),(2,[(3,.one .slc),(19,.one (.int .i64))])]⟩ Go.Proofs.Tryz.func89 (by kernel_rfl)
def z01t (d:Option Addr) (prefix_:ByteArray) (c_0:Int) (c_1:Int):Prog :=
Ae T.a50 (Br c_0 c_1) λa0=>
Az (Option.isNone d) (
Ab 0 [Ad none,Ac 1])<|
Bc 1 (
AM F.a140 [.string prefix_] λb2=>
Bs (not b2=false) (ld T.a50 a0) λn3 n4=>
Aa (not b2) (
Ab 1 [.bool true])<|
AM F.a144 [Br n3 n4] λb5=>
Ao (not b5) λb6=>
Ab 1 [.bool b6]) λb7=>
Aa b7 (
Ab 0 [Ad none,Ac 2])<|
AM F.a29 [Ad d] λb8=>
Az b8 (
Ab 0 [Ad none,Ac 9])<|
.read True (ld T.a50 a0) (sG [.int .i64,.int .i64]) (u2 λ(n10 n11:Int)=>
Ae T.a51 (.agg #[Ad d,.string prefix_,Ac n10,Ac n11,.slice none 0 0]) λa12=>
Bt F.a130 [Af a12] λl13 n14=>
Ah n14 λn15=>
Aa (n15 != 0) (
Ah n15 λn16=>
Ab 0 [Ad none,Ac n16])<|
AI 1 (
AJ 2 (n15,(0,())) λn17 n18=>
Aa (decide (n18<(Ag l13))) (
AI 3 (
.ex [.adr] (c1 λa19=>0<=n18/\n18<(Ag l13)/\l13.a=some a19) (u1 λa20=>
AD T.a14 a20 (Int.toNat n18*1) λn21=>
Ah n18 λn22=>
Ah n21 λn23=>
Ai F.a123 [Af a12] λn24=>
Aa (decide (n23<n24)) (
Bu F.a133 [Af a12,Ac n23,.string (ByteArray.mk #[46,108,111,103])] λs25=>
Ai F.a32 [Ad d,.string s25] λn26=>
Ah n26 λn27=>
Aa (n27 != 0) (
Ab 1 [Ac n27])<|
Ab 3 [Ac n27])<|
.call F.a136 [Af a12,Ac n23] (.tup [.one .bool,.one (.int .i64)]) (u2 λb28 (n29:Int)=>
Ao b28 λb30=>
Ah n29 λn31=>
Aa (n31 == 0 && not b30) (
.must (0<=AF (n22+1)/\AF (n22+1)<=(Ag l13)) <|
Ai F.a129 [Af a12,.slice (z12 l13.a 1 (Int.toNat (AF (n22+1))) l13.cap) (l13.len-Int.toNat (AF (n22+1))) (l13.cap-Int.toNat (AF (n22+1)))] λn32=>
Ah n32 λn33=>
Ab 1 [Ac n33])<|
Aa (n31 != 0) (
Ab 1 [Ac n31])<|
Ab 3 [Ac n31]))) λn34=>
Ab 2 [Ac n34,Ac (AF (n18+1))])<|
Ab 1 [Ac n17]) λn35=>
Aa (n35 != 0) (
Ah n35 λn36=>
Ab 0 [Ad none,Ac n36])<|
Ab 0 [Af a12,Ac 0])
theorem zoc (d:Option Addr) (prefix_:ByteArray) (c_0 c_1:Int):FnS (z01t d prefix_ c_0 c_1) F.a139 #[.pointer d,.string prefix_,.agg #[.int .i64 c_0,.int .i64 c_1]]:=dV ⟨[],[(1,[(10,.one (.int .i64))]),(2,[(10,.one (.int .i64))])],[(3,[(17,.one .bool)])],[(1,[(10,.one (.int .i64)),(44,.one (.int .i64))])]⟩ Go.Proofs.Tryz.func119 (by kernel_rfl)
def z01b (l:Option Addr):Prog :=
Aa (Option.isNone l) (
Ab 0 [.slice none 0 0])<|
Ai F.a122 [Ad l] λn0=>
Bt F.a124 [Ad l,Ac n0,Ac 1099511627776] λl1 n2=>
Ah n2 λn3=>
Ab 0 [l1.v]
theorem znu (l:Option Addr):FnS (z01b l) F.a120 #[.pointer l]:=dV ⟨[],[],[],[]⟩ Go.Proofs.Tryz.func125 (by kernel_rfl)
def z01e (l:Option Addr) (offset:Int) (most:Int):Prog :=
Ae T.a33 (Ad l) λa0=>
Ae T.a14 (Ac offset) λa1=>
Ae T.a13 (Ac most) λa2=>
Bv T.a33 a0 λp3=>
Az (Option.isNone p3) (
Ab 0 [.slice none 0 0,Ac 1])<|
Bk T.a13 a2 λn5=>
Az (decide (n5<1)) (
Ab 0 [.slice none 0 0,Ac 2])<|
Bc 1 (
AC<|
.hold True (ld T.a14 a1) (sI .i64) (u1 λ(n7:Int)=>
Bv T.a33 a0 λp8=>
Ai F.a122 [Ad p8] λn9=>
.hold (decide (n7<n9)=false) (ld T.a14 a1) (sI .i64) (u1 λ(n10:Int)=>
.read (decide (n7<n9)=false) (ld T.a33 a0) sP (u1 λp11=>
Aa (decide (n7<n9)) (
AG<|
Ab 1 [.bool true])<|
Ai F.a123 [Ad p11] λn12=>
Ao (decide (n10>n12)) λb13=>
AG<|
Ab 1 [.bool b13])))) λb14=>
Aa b14 (
Ab 0 [.slice none 0 0,Ac 8])<|
Ar T.a38 λa15=>
Bv T.a33 a0 λp16=>
Aj p16 λa18=>
Ax T.a45 a18 4 λl19=>
Ai F.a182 [Ac (Ag l19),.func (Fn.func 195) #[] #[Af a0,Af a1]] λn20=>
Ah (AF (n20-1)) λn21=>
Ah (if 0>n21 then 0 else n21) λn22=>
AB 1 (
AO 2 (n22,()) λn23=>
Bv T.a33 a0 λp24=>
Aj p24 λa26=>
Ax T.a45 a26 4 λl27=>
Aa (decide (n23<(Ag l27))) (
Bv T.a33 a0 λp28=>
Aj p28 λa30=>
Ax T.a45 a30 4 λl31=>
.ex [.adr] (c1 λa32=>0<=n23/\n23<(Ag l31)/\l31.a=some a32) (u1 λa33=>
Bw T.a34 a33 (Int.toNat n23*1) λp34=>
Bc 3 (
AC<|
.hold True (ld T.a33 a0) sP (u1 λp35=>
Bk T.a14 a1 λn36=>
Ai F.a145 [Ad p34,Ac n36] λn37=>
AG<|
AM F.a138 [Ad p35,Ad p34,Ac n37,.func (Fn.func 198) #[] #[Af a1,Af a15,Af a2]] λb38=>
Ao b38 λb39=>
AG<|
Ab 3 [.bool b39])) λb40=>
Aa (not b40) (
Ab 1 [])<|
Ah (AF (n23+1)) λn41=>
Ab 2 [Ac n41]))<|
Ab 1 [])<|
Bx (ld T.a38 a15) λl42=>
Ab 0 [l42.v,Ac 0]
theorem znx (l:Option Addr) (offset most:Int):FnS (z01e l offset most) F.a124 #[.pointer l,.int .i64 offset,.int .i64 most]:=dV ⟨[],[(1,[])],[(5,[(18,.one .bool)]),(13,[(11,.one .bool)])],[(1,[(9,.one (.int .i64))])]⟩ Go.Proofs.Tryz.func127 (by kernel_rfl)
def z00z (b_0 b_1 b_2 b_3 b_4 b_5:Int) (b_6:Sl):Prog :=
Ae T.a0 (AW b_0 b_1 b_2 b_3 b_4 b_5 b_6) λa0=>
Bn T.a0 a0 λn1 n2 n3 n4 n5 n6 l7=>
Ai F.a110 [AW n1 n2 n3 n4 n5 n6 l7] λn8=>
Aa (n8 != 0) (
Ab 0 [Ac 0])<|
AC<|
By T.a14 a0 0 λn9=>
Bn T.a0 a0 λn10 n11 n12 n13 n14 n15 l16=>
Ai F.a109 [AW n10 n11 n12 n13 n14 n15 l16] λn17=>
Ah (AF (n9+n17)) λn18=>
AG<|
Ab 0 [Ac n18]
theorem zni (b_0 b_1 b_2 b_3 b_4 b_5:Int) (b_6:Sl):FnS (z00z b_0 b_1 b_2 b_3 b_4 b_5 b_6) F.a108 #[.agg #[.int .i64 b_0,.int .i64 b_1,.int .i64 b_2,.int .i64 b_3,.int .i64 b_4,.int .i64 b_5,.slice b_6.a b_6.len b_6.cap]]:=dV ⟨[],[],[],[]⟩ Go.Proofs.Tryz.func130 (by kernel_rfl)
def z01c (l:Option Addr):Prog :=
Ap (Option.isNone l=false) l λa1=>
AX (Option.isNone l=false) T.a45 a1 4 λl2=>
Aa (Option.isNone l || (Ag l2) == 0) (
Ab 0 [Ac 0])<|
Aj l λa4=>
Ax T.a45 a4 4 λl5=>
.ex [.adr] (c1 λa6=>(0:Int)<=0/\0<(Ag l5)/\l5.a=some a6) (u1 λa7=>
Bw T.a34 a7 0 λp8=>
Aj p8 λa10=>
AD T.a14 a10 1 λn11=>
Ah n11 λn12=>
Ab 0 [Ac n12])
theorem znv (l:Option Addr):FnS (z01c l) F.a122 #[.pointer l]:=dV ⟨[],[],[],[]⟩ Go.Proofs.Tryz.func131 (by kernel_rfl)
def zf0 (b:Sl):Prog :=
Aa (Option.isNone b.a) (
Ab 0 [.slice none 0 0])<|
AP (Instr.buildSlice T.a49 0 #[]) λl0=>
AP (app T.a49 T.a49 T.a49 l0.v b.v) λl1=>
Ab 0 [l1.v]
theorem zjx (b:Sl):FnS (zf0 b) F.a0 #[.slice b.a b.len b.cap]:=dV ⟨[],[],[],[]⟩ Go.Proofs.Tryz.func135 (by kernel_rfl)
def z02w (r:Option Addr):Prog :=
Ap (not (Option.isNone r)=true) r λa1=>
Bz (not (Option.isNone r)=true) T.a1 (Addr.add a1 0) 2 λn2=>
Ao (not (Option.isNone r) && n2 == 0) λb3=>
Ab 0 [.bool b3]
theorem zpf (r:Option Addr):FnS (z02w r) F.a208 #[.pointer r]:=dV ⟨[],[],[],[]⟩ Go.Proofs.Tryz.func136 (by kernel_rfl)
def z032 (p:Option Addr):Prog :=
AB 1 (
.loop 2 [.one (.int .u64),.one (.int .i64)] (0,(0,())) (u2 λ(n0 n1:Int)=>
Aa (decide (n1<10)) (
Ai F.a212 [Ad p] λn2=>
Aa (decide (n1>=n2)) (
Ab 1 [])<|
AC<|
Aj p λa4=>
Ax T.a49 a4 0 λl5=>
Aj p λa7=>
AD T.a13 a7 1 λn8=>
.ex [.adr] (c1 λa9=>0<=AF (n8+n1)/\AF (n8+n1)<(Ag l5)/\l5.a=some a9) (u1 λa10=>
AY T.a57 a10 (Int.toNat (AF (n8+n1))*1) λn11=>
AZ n11 λn12=>
AG<|
Aa (n1 == 9 && decide (n12>1)) (
Ab 1 [])<|
.must (0<=AF (7*n1)) <|
AU (IntKind.wrap .u64 (((BitVec.toNat (BitVec.ofInt 64 n0 ||| BitVec.ofInt 64 (IntKind.wrap .u64 (IntKind.wrap .u64 (IntKind.wrap .u8 (((BitVec.toNat (BitVec.ofInt 8 n12 &&& BitVec.ofInt 8 127):Nat):Int)))*2 ^ min (Int.toNat (AF (7*n1))) 64))):Nat):Int))) λn13=>
Aa (decide (n12>=128)) (
Ah (AF (n1+1)) λn14=>
Ab 2 [.int .u64 n13,Ac n14])<|
Aa (n12 == 0 && decide (n1>0)) (
Ab 1 [])<|
Aj p λa16=>
AD T.a13 a16 1 λn17=>
Aj p λa19=>
AE T.a13 a19 1 (Ac (AF (n17+AF (n1+1))))<|
AU n13 λn20=>
Ab 0 [.int .u64 n20]))<|
Ab 1 []))<|
Am F.a211 [Ad p,Ac 6]<|
Ab 0 [.int .u64 0]
theorem zpl (p:Option Addr):FnS (z032 p) F.a214 #[.pointer p]:=dV ⟨[],[(0,[])],[],[(0,[(3,.one (.int .u64)),(4,.one (.int .i64))])]⟩ Go.Proofs.Tryz.func137 (by kernel_rfl)
def z030 (p:Option Addr):Prog :=
AC<|
Aj p λa1=>
Ax T.a49 a1 0 λl2=>
Aj p λa4=>
AD T.a13 a4 1 λn5=>
Ah (AF ((Ag l2)-n5)) λn6=>
AG<|
Ab 0 [Ac n6]
theorem zpj (p:Option Addr):FnS (z030 p) F.a212 #[.pointer p]:=dV ⟨[],[],[],[]⟩ Go.Proofs.Tryz.func138 (by kernel_rfl)
def z02z (p:Option Addr) (e_:Int):Prog :=
Aj p λa1=>
AD T.a1 a1 2 λn2=>
AB 1 (
Aa (n2 == 0) (
Aj p λa4=>
AE T.a1 a4 2 (Ac e_)<|
Ab 1 [])<|
Ab 1 [])<|
Ab 0 []
theorem zpi (p:Option Addr) (e_:Int):FnS (z02z p e_) F.a211 #[.pointer p,.int .i64 e_]:=dV ⟨[(31457288,[])],[],[],[]⟩ Go.Proofs.Tryz.func139 (by kernel_rfl)
def z02g (b:Sl):Prog :=
AI 1 (
AO 2 (0,()) λn0=>
.ex [.adr] (c1 λa1=>(decide (n0<(Ag b)) && decide (n0<10))=true->0<=n0/\n0<(Ag b)/\b.a=some a1) (u1 λa2=>
B0 ((decide (n0<(Ag b)) && decide (n0<10))=true) T.a57 a2 (Int.toNat n0*1) λn3=>
Aa (decide (n0<(Ag b)) && decide (n0<10) && decide (n3>=128)) (
Ah (AF (n0+1)) λn4=>
Ab 2 [Ac n4])<|
Ab 1 [Ac n0])) λn5=>
Aa (decide (n5>=(Ag b)) || decide (n5>=10)) (
Ab 0 [.int .u64 0,Ac 0])<|
.ex [.adr] (c1 λa6=>decide (n5>0)=true->0<=n5/\n5<(Ag b)/\b.a=some a6) (u1 λa7=>
B0 (decide (n5>0)=true) T.a57 a7 (Int.toNat n5*1) λn8=>
.ex [.adr] (c1 λa9=>(decide (n5>0) && n8 == 0)=false/\(n5 == 9)=true->0<=n5/\n5<(Ag b)/\b.a=some a9) (u1 λa10=>
B0 ((decide (n5>0) && n8 == 0)=false/\(n5 == 9)=true) T.a57 a10 (Int.toNat n5*1) λn11=>
Aa (decide (n5>0) && n8 == 0 || n5 == 9 && decide (n11>1)) (
Ab 0 [.int .u64 0,Ac 0])<|
Ah n5 λn12=>
.bind 1 [.one (.int .u64)] (
.loop 2 [.one (.int .u64),.one (.int .i64)] (0,(n12,())) (u2 λ(n13 n14:Int)=>
Aa (decide (n14>=0)) (
.ex [.adr] (c1 λa15=>0<=n14/\n14<(Ag b)/\b.a=some a15) (u1 λa16=>
AY T.a57 a16 (Int.toNat n14*1) λn17=>
AU (IntKind.wrap .u64 (IntKind.wrap .u64 (n13*128)+IntKind.wrap .u64 (Int.tmod n17 128))) λn18=>
Ah (AF (n14-1)) λn19=>
Ab 2 [.int .u64 n18,Ac n19]))<|
Ab 1 [.int .u64 n13])) (u1 λ(n20:Int)=>
AU n20 λn21=>
Ah (AF (n5+1)) λn22=>
Ab 0 [.int .u64 n21,Ac n22])))
theorem zoz (b:Sl):FnS (z02g b) F.a192 #[.slice b.a b.len b.cap]:=dV ⟨[],[(0,[(4,.one (.int .i64))]),(2,[(5,.one (.int .u64))])],[],[(0,[(4,.one (.int .i64))]),(2,[(5,.one (.int .u64)),(6,.one (.int .i64))])]⟩ Go.Proofs.Tryz.func140 (by kernel_rfl)
def z02f (r:Option Addr) (e_:Int):Prog :=
Aj r λa1=>
AD T.a1 a1 2 λn2=>
AB 1 (
Aa (n2 == 0) (
Aj r λa4=>
AE T.a1 a4 2 (Ac e_)<|
Ab 1 [])<|
Ab 1 [])<|
Ab 0 []
theorem zoy (r:Option Addr) (e_:Int):FnS (z02f r e_) F.a190 #[.pointer r,.int .i64 e_]:=dV ⟨[(31457288,[])],[],[],[]⟩ Go.Proofs.Tryz.func141 (by kernel_rfl)
def z00y (pid epoch:Int) (commit:Bool) (time:Int):Prog :=
Ar T.a0 λa0=>
Ar T.a0 λa1=>
Au T.a0 a1 (.agg #[Ac 0,Ac pid,Ac epoch,Ac 0,Ac 3,Ac time,.slice none 0 0])<|
AB 1 (
Aa commit (
AE T.a13 a1 4 (Ac 2)<|
Ab 1 [])<|
Ab 1 [])<|
Bn T.a0 a1 λn2 n3 n4 n5 n6 n7 l8=>
Au T.a0 a0 (AW n2 n3 n4 n5 n6 n7 l8)<|
Bn T.a0 a0 λn9 n10 n11 n12 n13 n14 l15=>
Ab 0 [AW n9 n10 n11 n12 n13 n14 l15]
theorem znh (pid epoch:Int) (commit:Bool) (time:Int):FnS (z00y pid epoch commit time) F.a107 #[.int .i64 pid,.int .i64 epoch,.bool commit,.int .i64 time]:=dV ⟨[(134217742,[])],[],[],[]⟩ Go.Proofs.Tryz.func143 (by kernel_rfl)
def z014 (b_0 b_1 b_2 b_3 b_4 b_5:Int) (b_6:Sl):Prog :=
Ae T.a0 (AW b_0 b_1 b_2 b_3 b_4 b_5 b_6) λa0=>
AD T.a13 a0 4 λn1=>
Bz ((n1 == 2)=false) T.a13 a0 4 λn2=>
Ao (n1 == 2 || n2 == 3) λb3=>
Ab 0 [.bool b3]
theorem znn (b_0 b_1 b_2 b_3 b_4 b_5:Int) (b_6:Sl):FnS (z014 b_0 b_1 b_2 b_3 b_4 b_5 b_6) F.a113 #[.agg #[.int .i64 b_0,.int .i64 b_1,.int .i64 b_2,.int .i64 b_3,.int .i64 b_4,.int .i64 b_5,.slice b_6.a b_6.len b_6.cap]]:=dV ⟨[],[],[],[]⟩ Go.Proofs.Tryz.func153 (by kernel_rfl)
def z02r (r:Option Addr):Prog :=
AM F.a208 [Ad r] λb0=>
Aa (not b0) (
Ab 0 [.bool false])<|
AC<|
Aj r λa2=>
Ai F.a212 [An a2 0] λn3=>
Ap ((n3 == 0)=false) r λa5=>
AX ((n3 == 0)=false) T.a49 (Addr.add a5 0) 0 λl6=>
Ap ((n3 == 0)=false) r λa8=>
Bz ((n3 == 0)=false) T.a13 (Addr.add a8 0) 1 λn9=>
.ex [.adr] (c1 λa10=>(n3 == 0)=false->0<=n9/\n9<(Ag l6)/\l6.a=some a10) (u1 λa11=>
B0 ((n3 == 0)=false) T.a57 a11 (Int.toNat n9*1) λn12=>
AG<|
Aa (n3 == 0 || decide (n12>1)) (
Aj r λa14=>
Am F.a211 [An a14 0,Ac 6]<|
Ab 0 [.bool false])<|
Aj r λa16=>
Ay F.a213 [An a16 0,Ac 1] λl17=>
.ex [.adr] (c1 λa18=>(0:Int)<=0/\0<(Ag l17)/\l17.a=some a18) (u1 λa19=>
AY T.a57 a19 0 λn20=>
Ao (n20 == 1) λb21=>
Ab 0 [.bool b21]))
theorem zpa (r:Option Addr):FnS (z02r r) F.a203 #[.pointer r]:=dV ⟨[],[],[],[]⟩ Go.Proofs.Tryz.func156 (by kernel_rfl)
def z02q (r:Option Addr):Prog :=
Aa (Option.isNone r) (
Ab 0 [Ac 1])<|
Aj r λa1=>
AD T.a1 (Addr.add a1 0) 2 λn2=>
Ah n2 λn3=>
Ab 0 [Ac n3]
theorem zp9 (r:Option Addr):FnS (z02q r) F.a202 #[.pointer r]:=dV ⟨[],[],[],[]⟩ Go.Proofs.Tryz.func157 (by kernel_rfl)
def z01u (s:ByteArray):Prog :=
Aa (decide (((ByteArray.size s:Nat):Int)<1) || decide (((ByteArray.size s:Nat):Int)>8)) (
Ab 0 [.bool false])<|
AP (convert T.a54 T.a49 (.string s)) λl0=>
AB 1 (
AO 2 (0,()) λn1=>
Aa (decide (n1<(Ag l0))) (
.ex [.adr] (c1 λa2=>0<=n1/\n1<(Ag l0)/\l0.a=some a2) (u1 λa3=>
AY T.a57 a3 (Int.toNat n1*1) λn4=>
AZ n4 λn5=>
Aa (not (decide (n5>=97) && decide (n5<=122) || decide (n5>=48) && decide (n5<=57))) (
Ab 0 [.bool false])<|
Ab 2 [Ac (AF (n1+1))]))<|
Ab 1 [])<|
Ab 0 [.bool true]
theorem zod (s:ByteArray):FnS (z01u s) F.a140 #[.string s]:=dV ⟨[],[(0,[])],[],[(0,[(16,.one (.int .i64))])]⟩ Go.Proofs.Tryz.func169 (by kernel_rfl)
def z01y (c_0:Int) (c_1:Int):Prog :=
Ae T.a50 (Br c_0 c_1) λa0=>
AD T.a13 a0 0 λn1=>
Bz (decide (n1>=64)=true) T.a13 a0 0 λn2=>
Bz ((decide (n1>=64) && decide (n2<=4194304))=true) T.a13 a0 1 λn3=>
Bz ((decide (n1>=64) && decide (n2<=4194304) && decide (n3>=1))=true) T.a13 a0 1 λn4=>
Ao (decide (n1>=64) && decide (n2<=4194304) && decide (n3>=1) && decide (n4<=4194304)) λb5=>
Ab 0 [.bool b5]
theorem zoh (c_0 c_1:Int):FnS (z01y c_0 c_1) F.a144 #[.agg #[.int .i64 c_0,.int .i64 c_1]]:=dV ⟨[],[],[],[]⟩ Go.Proofs.Tryz.func170 (by kernel_rfl)
def z01k (l:Option Addr):Prog :=
AC<|
Aj l λa1=>
Bw T.a28 a1 0 λp2=>
Aj l λa4=>
AQ T.a54 a4 1 λs5=>
.must (((ByteArray.size s5+1:Nat):Int)<=9223372036854775807) <|
Ay F.a30 [Ad p2,.string (s5++(ByteArray.mk #[45]))] λl6=>
AG<|
AS 1 (
Bl 2 (⟨none,0,0⟩,(0,())) λl7 n8=>
Aa (decide (n8<(Ag l6))) (
.ex [.adr] (c1 λa9=>0<=n8/\n8<(Ag l6)/\l6.a=some a9) (u1 λa10=>
AQ T.a54 a10 (Int.toNat n8*1) λs11=>
AR s11 λs12=>
Bg F.a128 [Ad l,.string s12,.string (ByteArray.mk #[46,108,111,103])] λn13 b14=>
Ah n13 λn15=>
Ao b14 λb16=>
AS 3 (
Aa b16 (
AP (Instr.buildSlice T.a41 1 #[(0,Ac n15)]) λl17=>
AP (app T.a41 T.a41 T.a41 l7.v l17.v) λl18=>
Ab 3 [l18.v])<|
Ab 3 [l7.v]) λl19=>
Bg F.a128 [Ad l,.string s12,.string (ByteArray.mk #[46,110,101,119])] λn20 b21=>
Ah n20 λn22=>
Ao b21 λb23=>
AB 3 (
Aa b23 (
Aj l λa25=>
Bw T.a28 a25 0 λp26=>
Ai F.a32 [Ad p26,.string s12] λn27=>
Ah n27 λn28=>
Aa (n28 != 0) (
Ah n28 λn29=>
Ab 0 [.slice none 0 0,Ac n29])<|
Ab 3 [])<|
Ab 3 [])<|
Ab 2 [l19.v,Ac (AF (n8+1))]))<|
Ab 1 [l7.v]) λl30=>
Ab 0 [l30.v,Ac 0]
theorem zo3 (l:Option Addr):FnS (z01k l) F.a130 #[.pointer l]:=dV ⟨[(1055531162730529,[(4,.one .slc)]),(73642861106770788396,[])],[(0,[(4,.one .slc)])],[],[(0,[(4,.one .slc),(23,.one (.int .i64))])]⟩ Go.Proofs.Tryz.func172 (by kernel_rfl)
def z01d (l:Option Addr):Prog :=
Ap (Option.isNone l=false) l λa1=>
AX (Option.isNone l=false) T.a45 a1 4 λl2=>
Aa (Option.isNone l || (Ag l2) == 0) (
Ab 0 [Ac 0])<|
B1 F.a132 [Ad l] λp3=>
Ai F.a146 [Ad p3] λn4=>
Ah n4 λn5=>
Ab 0 [Ac n5]
theorem znw (l:Option Addr):FnS (z01d l) F.a123 #[.pointer l]:=dV ⟨[],[],[],[]⟩ Go.Proofs.Tryz.func173 (by kernel_rfl)
def z01n (l:Option Addr) (base:Int) (end_:ByteArray):Prog :=
AP (Instr.makeSlice T.a49 (Ac 11) (Ac 11)) λl0=>
AB 1 (
AJ 2 (base,(10,())) λn1 n2=>
Aa (decide (n2>=0)) (
.must (0<=AF (((BitVec.toNat (BitVec.ofInt 64 n1 &&& BitVec.ofInt 64 15):Nat):Int))/\AF (((BitVec.toNat (BitVec.ofInt 64 n1 &&& BitVec.ofInt 64 15):Nat):Int))<16) <|
.ex [.adr] (c1 λa3=>0<=n2/\n2<(Ag l0)/\l0.a=some a3) (u1 λa4=>
AE T.a57 a4 (Int.toNat n2*1) (.int .u8 (bt (ByteArray.mk #[48,49,50,51,52,53,54,55,56,57,97,98,99,100,101,102]) (AF (((BitVec.toNat (BitVec.ofInt 64 n1 &&& BitVec.ofInt 64 15):Nat):Int)))))<|
Ah (Int.fdiv n1 16) λn5=>
Ah (AF (n2-1)) λn6=>
Ab 2 [Ac n5,Ac n6]))<|
Ab 1 [])<|
AC<|
Aj l λa8=>
AQ T.a54 a8 1 λs9=>
.must (((ByteArray.size s9+1:Nat):Int)<=9223372036854775807) <|
B2 (convert T.a49 T.a54 l0.v) λs10=>
.must (((ByteArray.size (s9++(ByteArray.mk #[45]))+ByteArray.size s10:Nat):Int)<=9223372036854775807) <|
.must (((ByteArray.size (s9++(ByteArray.mk #[45])++s10)+ByteArray.size end_:Nat):Int)<=9223372036854775807) <|
AR (s9++(ByteArray.mk #[45])++s10++end_) λs11=>
AG<|
Ab 0 [.string s11]
theorem zo6 (l:Option Addr) (base:Int) (end_:ByteArray):FnS (z01n l base end_) F.a133 #[.pointer l,.int .i64 base,.string end_]:=dV ⟨[],[(0,[])],[],[(0,[(1,.one (.int .i64)),(8,.one (.int .i64))])]⟩ Go.Proofs.Tryz.func174 (by kernel_rfl)
def z01q (l:Option Addr) (base:Int):Prog :=
Bu F.a133 [Ad l,Ac base,.string (ByteArray.mk #[46,108,111,103])] λs0=>
AR s0 λs1=>
Aj l λa3=>
Bw T.a28 a3 0 λp4=>
Bt F.a31 [Ad p4,.string s1] λl5 n6=>
Ah n6 λn7=>
Aa (n7 != 0) (
Ah n7 λn8=>
Ab 0 [.bool false,Ac n8])<|
B3 F.a41 [l5.v] λl9 n10 b11=>
Ah n10 λn12=>
Ao b11 λb13=>
.bind 1 [.one (.int .i64),.one .bool] (
Aa b13 (
Bg F.a142 [l9.v,Ac base] λn14 b15=>
Ah n14 λn16=>
Ao b15 λb17=>
Ab 1 [Ac n16,.bool b17])<|
Ab 1 [Ac 0,.bool false]) (u2 λ(n18:Int) b19=>
Aa (not b19) (
Aj l λa21=>
Bw T.a28 a21 0 λp22=>
Ai F.a32 [Ad p22,.string s1] λn23=>
Ah n23 λn24=>
Ab 0 [.bool false,Ac n24])<|
B1 F.a137 [Ad l,Ac base,Ac n18] λp25=>
Ah base λn26=>
AI 1 (
AJ 2 (n12,(n26,())) λn27 n28=>
.must (0<=n27/\n27<=(Ag l5)) <|
B3 F.a41 [.slice (z12 l5.a 1 (Int.toNat n27) l5.cap) (l5.len-Int.toNat n27) (l5.cap-Int.toNat n27)] λl29 n30 b31=>
Ah n30 λn32=>
Ao b31 λb33=>
Aa (not b33) (
Ab 1 [Ac n27])<|
.call F.a103 [l29.v] (.tup [.agg [.int .i64,.int .i64,.int .i64,.int .i64,.int .i64,.int .i64,.slc],.one (.int .i64)]) (u8 λ(n34 n35 n36 n37 n38 n39:Int) l40 (n41:Int)=>
Ar T.a0 λa42=>
Au T.a0 a42 (AW n34 n35 n36 n37 n38 n39 l40)<|
Ah n41 λn43=>
Bz ((n43 != 0)=false) T.a14 a42 0 λn44=>
Aa (n43 != 0 || decide (n44<n28)) (
Ab 1 [Ac n27])<|
Bn T.a0 a42 λn45 n46 n47 n48 n49 n50 l51=>
Am F.a147 [Ad p25,AW n45 n46 n47 n48 n49 n50 l51,Ac n32]<|
Aj p25 λa53=>
AD T.a14 a53 3 λn54=>
Ah n54 λn55=>
Ah (AF (n27+n32)) λn56=>
Ab 2 [Ac n56,Ac n55])) λn57=>
Am F.a135 [Ad l,Ad p25]<|
Aa (n57 == (Ag l5)) (
Ab 0 [.bool true,Ac 0])<|
Aj l λa59=>
Bw T.a28 a59 0 λp60=>
Ai F.a27 [Ad p60,.string s1,Ac n57] λn61=>
Ah n61 λn62=>
Ab 0 [.bool false,Ac n62])
theorem zo9 (l:Option Addr) (base:Int):FnS (z01q l base) F.a136 #[.pointer l,.int .i64 base]:=dV ⟨[(2269814212245061674,[(12,.one (.int .i64)),(13,.one .bool)])],[(0,[(10,.one (.int .i64))])],[],[(0,[(10,.one (.int .i64)),(15,.one (.int .i64))])]⟩ Go.Proofs.Tryz.func175 (by kernel_rfl)
def z01j (l:Option Addr) (bases:Sl):Prog :=
AB 1 (
AO 2 (0,()) λn0=>
Aa (decide (n0<(Ag bases))) (
.ex [.adr] (c1 λa1=>0<=n0/\n0<(Ag bases)/\bases.a=some a1) (u1 λa2=>
AD T.a14 a2 (Int.toNat n0*1) λn3=>
Ah n3 λn4=>
AI 3 (
AC<|
Aj l λa6=>
B4 T.a28 a6 0 λp7=>
Bu F.a133 [Ad l,Ac n4,.string (ByteArray.mk #[46,108,111,103])] λs8=>
AG<|
Ai F.a32 [Ad p7,.string s8] λn9=>
Ah n9 λn10=>
AG<|
Ab 3 [Ac n10]) λn11=>
Aa (n11 != 0) (
Ah n11 λn12=>
Ab 0 [Ac n12])<|
Ab 2 [Ac (AF (n0+1))]))<|
Ab 1 [])<|
Ab 0 [Ac 0]
theorem zo2 (l:Option Addr) (bases:Sl):FnS (z01j l bases) F.a129 #[.pointer l,.slice bases.a bases.len bases.cap]:=dV ⟨[],[(0,[])],[(4,[(7,.one (.int .i64))])],[(0,[(10,.one (.int .i64))])]⟩ Go.Proofs.Tryz.func176 (by kernel_rfl)
def z07v (b:Sl):Prog :=
B3 F.a41 [b.v] λl0 n1 b2=>
Ah n1 λn3=>
Ao b2 λb4=>
Aa (not b4 || n3 != (Ag b)) (
Ab 0 [.slice none 0 0,.bool false])<|
Ab 0 [l0.v,.bool true]
theorem zu3 (b:Sl):FnS (z07v b) F.a43 #[.slice b.a b.len b.cap]:=dV ⟨[],[],[],[]⟩ Go.Proofs.Tryz.func185 (by kernel_rfl)
def z02t (r:Option Addr) (most:Int):Prog :=
AM F.a208 [Ad r] λb0=>
Aa (not b0) (
Ab 0 [.string (ByteArray.mk #[])])<|
Aj r λa2=>
AD T.a13 (Addr.add a2 0) 1 λn3=>
Ah n3 λn4=>
Aj r λa6=>
Bj F.a214 [An a6 0] λn7=>
AU n7 λn8=>
Aj r λa10=>
AD T.a1 (Addr.add a10 0) 2 λn11=>
Ao (n11 != 0) λb12=>
AB 1 (
Aa b12 (
Ab 1 [])<|
Ao (decide (n8>IntKind.wrap .u64 (if 0>most then 0 else most))) λb13=>
AB 2 (
Aa b13 (
Aj r λa15=>
Am F.a211 [An a15 0,Ac 7]<|
Ab 2 [])<|
Aj r λa17=>
Ai F.a212 [An a17 0] λn18=>
Az (decide (n8>IntKind.wrap .u64 n18)) (
Aj r λa21=>
Am F.a211 [An a21 0,Ac 6]<|
Ab 2 [])<|
Aj r λa23=>
Ay F.a213 [An a23 0,Ac (AF n8)] λl24=>
B2 (convert T.a49 T.a54 l24.v) λs25=>
AR s25 λs26=>
Ab 0 [.string s26])<|
Ab 1 [])<|
Aj r λa28=>
AE T.a13 (Addr.add a28 0) 1 (Ac n4)<|
Ab 0 [.string (ByteArray.mk #[])]
theorem zpc (r:Option Addr) (most:Int):FnS (z02t r most) F.a205 #[.pointer r,.int .i64 most]:=dV ⟨[(147571701062593216545,[]),(147573917678034812954,[])],[],[],[]⟩ Go.Proofs.Tryz.func186 (by kernel_rfl)
def z01f (i:Int) (fv0:Option Addr) (fv1:Option Addr):Prog :=
AC<|
B5 T.a33 fv0 λp0=>
Aj p0 λa2=>
Ax T.a45 a2 4 λl3=>
.ex [.adr] (c1 λa4=>0<=i/\i<(Ag l3)/\l3.a=some a4) (u1 λa5=>
Bw T.a34 a5 (Int.toNat i*1) λp6=>
Aj p6 λa8=>
AD T.a14 a8 1 λn9=>
B6 T.a14 fv1 λn10=>
Ao (decide (n9>n10)) λb11=>
AG<|
Ab 0 [.bool b11])
theorem zny (i:Int) (fv0 fv1:Option Addr):FnS (z01f i fv0 fv1) F.a125 #[.int .i64 i,.pointer fv0,.pointer fv1]:=dV ⟨[],[],[],[]⟩ Go.Proofs.Tryz.func195 (by kernel_rfl)
def z01s (l s:Option Addr) (place:Int) (told:Value):Prog :=
AS 1 (
AC<|
Aj l λa1=>
B4 T.a28 a1 0 λp2=>
Aj s λa4=>
AD T.a14 a4 1 λn5=>
Bu F.a133 [Ad l,Ac n5,.string (ByteArray.mk #[46,108,111,103])] λs6=>
AG<|
Bt F.a31 [Ad p2,.string s6] λl7 n8=>
Ah n8 λn9=>
AG<|
Ab 1 [l7.v]) λl10=>
Ah place λn11=>
AB 1 (
AO 2 (n11,()) λn12=>
Ap (decide (n12<(Ag l10))=true) s λa14=>
Bz (decide (n12<(Ag l10))=true) T.a13 a14 5 λn15=>
Aa (decide (n12<(Ag l10)) && decide (n12<n15)) (
.must (0<=n12/\n12<=(Ag l10)) <|
B3 F.a41 [.slice (z12 l10.a 1 (Int.toNat n12) l10.cap) (l10.len-Int.toNat n12) (l10.cap-Int.toNat n12)] λl16 n17 b18=>
Ah n17 λn19=>
Ao b18 λb20=>
Aa (not b20) (
Ab 0 [.bool true])<|
.call F.a103 [l16.v] (.tup [.agg [.int .i64,.int .i64,.int .i64,.int .i64,.int .i64,.int .i64,.slc],.one (.int .i64)]) (u8 λ(n21 n22 n23 n24 n25 n26:Int) l27 (n28:Int)=>
Ar T.a0 λa29=>
Au T.a0 a29 (AW n21 n22 n23 n24 n25 n26 l27)<|
Ah n28 λn30=>
Bc 3 (
B7 ((n30 != 0)=false) T.a0 a29 λn31 n32 n33 n34 n35 n36 l37=>
Aa (n30 != 0) (
Ab 3 [.bool true])<|
AK told [AW n31 n32 n33 n34 n35 n36 l37] λb38=>
Ab 3 [.bool (not b38)]) λb39=>
Aa b39 (
Ab 0 [.bool false])<|
Ah (AF (n12+n19)) λn40=>
Ab 2 [Ac n40]))<|
Ab 1 [])<|
Ab 0 [.bool true]
theorem zob (l s:Option Addr) (place:Int) (told:Value) {w:World} {R:List Value->World->Prop} (h:(z01s l s place told).wp P (λ_=>True) w λe vs w'=>e=0/\R vs w'):Ret P F.a138 #[.pointer l,.pointer s,.int .i64 place,told] w R:=dS (n:=70) (rv:=[.tmp 8]) { cnd:=[],blk:=[(0,[])],reg:=[(1,[(9,.one .slc)]),(8,[(66,.one .bool)])],lps:=[(0,[(11,.one (.int .i64))])] } [.val (.pointer l),.val (.pointer s),.val (.int .i64 place),.any told] Go.Proofs.Tryz.func196 (by kernel_rfl) (by kernel_rfl) (by kernel_rfl) (by kernel_rfl) h
def z01z (s:Option Addr) (offset:Int):Prog :=
Aj s λa1=>
Bw T.a30 a1 0 λp2=>
.call F.a48 [Ad p2,Ac offset] (.tup [.agg [.int .i64,.int .i64,.int .i64],.one .bool]) (u4 λ(n3 n4 n5:Int) b6=>
Ar T.a10 λa7=>
Au T.a10 a7 (B8 n3 n4 n5)<|
Az b6 (
AD T.a13 a7 1 λn9=>
Ah n9 λn10=>
Ab 0 [Ac n10])<|
AC<|
Aj s λa12=>
AD T.a14 a12 1 λn13=>
Aj s λa15=>
AD T.a14 a15 2 λn16=>
Ay F.a141 [Ac n13,Ac n16] λl17=>
Ah (Ag l17) λn18=>
AG<|
Ab 0 [Ac n18])
theorem zoi (s:Option Addr) (offset:Int):FnS (z01z s offset) F.a145 #[.pointer s,.int .i64 offset]:=dV ⟨[],[],[],[]⟩ Go.Proofs.Tryz.func197 (by kernel_rfl)
def z01g (b_0 b_1 b_2 b_3 b_4 b_5:Int) (b_6:Sl) (fv0 fv1:Option Addr) (fv2:Option Addr):Prog :=
Ae T.a0 (AW b_0 b_1 b_2 b_3 b_4 b_5 b_6) λa0=>
Bn T.a0 a0 λn1 n2 n3 n4 n5 n6 l7=>
B6 T.a14 fv0 λn8=>
.call F.a106 [AW n1 n2 n3 n4 n5 n6 l7,Ac n8] (.tup [.agg [.int .i64,.int .i64,.int .i64,.int .i64,.int .i64,.int .i64,.slc],.one .bool]) (u8 λ(n9 n10 n11 n12 n13 n14:Int) l15 b16=>
Ar T.a0 λa17=>
Au T.a0 a17 (AW n9 n10 n11 n12 n13 n14 l15)<|
Ao b16 λb18=>
AB 1 (
Aa b18 (
Bx (Instr.loadAt T.a38 (Ad fv1)) λl19=>
Bn T.a0 a17 λn20 n21 n22 n23 n24 n25 l26=>
AP (Instr.buildSlice T.a38 1 #[(0,AW n20 n21 n22 n23 n24 n25 l26)]) λl27=>
AP (app T.a38 T.a38 T.a38 l19.v l27.v) λl28=>
AN (Instr.storeAt T.a38 (Ad fv1) l28.v)<|
Ab 1 [])<|
Ab 1 [])<|
Bx (Instr.loadAt T.a38 (Ad fv1)) λl29=>
B6 T.a13 fv2 λn30=>
Ao (decide ((Ag l29)<n30)) λb31=>
Ab 0 [.bool b31])
theorem znz (b_0 b_1 b_2 b_3 b_4 b_5:Int) (b_6:Sl) (fv0 fv1 fv2:Option Addr):FnS (z01g b_0 b_1 b_2 b_3 b_4 b_5 b_6 fv0 fv1 fv2) F.a126 #[.agg #[.int .i64 b_0,.int .i64 b_1,.int .i64 b_2,.int .i64 b_3,.int .i64 b_4,.int .i64 b_5,.slice b_6.a b_6.len b_6.cap],.pointer fv0,.pointer fv1,.pointer fv2]:=dV ⟨[(2013265934,[])],[],[],[]⟩ Go.Proofs.Tryz.func198 (by kernel_rfl)
def z00x (b_0 b_1 b_2 b_3 b_4 b_5:Int) (b_6:Sl) (offset:Int):Prog :=
Ae T.a0 (AW b_0 b_1 b_2 b_3 b_4 b_5 b_6) λa0=>
Ar T.a0 λa1=>
Bc 1 (
Bn T.a0 a0 λn2 n3 n4 n5 n6 n7 l8=>
Ai F.a110 [AW n2 n3 n4 n5 n6 n7 l8] λn9=>
B7 ((n9 != 0)=false) T.a0 a0 λn10 n11 n12 n13 n14 n15 l16=>
Aa (n9 != 0) (
Ab 1 [.bool true])<|
Ai F.a108 [AW n10 n11 n12 n13 n14 n15 l16] λn17=>
Ao (decide (offset>=n17)) λb18=>
Ab 1 [.bool b18]) λb19=>
Aa b19 (
Au T.a0 a1 (.agg #[Ac 0,Ac 0,Ac 0,Ac 0,Ac 0,Ac 0,.slice none 0 0])<|
Bn T.a0 a1 λn20 n21 n22 n23 n24 n25 l26=>
Ab 0 [AW n20 n21 n22 n23 n24 n25 l26,.bool false])<|
Bn T.a0 a0 λn27 n28 n29 n30 n31 n32 l33=>
AM F.a113 [AW n27 n28 n29 n30 n31 n32 l33] λb34=>
Bz (b34=false) T.a14 a0 0 λn35=>
Az (b34 || decide (offset<=n35)) (
Bn T.a0 a0 λn37 n38 n39 n40 n41 n42 l43=>
B9 F.a102 [AW n37 n38 n39 n40 n41 n42 l43] λn44 n45 n46 n47 n48 n49 l50=>
Au T.a0 a1 (AW n44 n45 n46 n47 n48 n49 l50)<|
Bn T.a0 a1 λn51 n52 n53 n54 n55 n56 l57=>
Ab 0 [AW n51 n52 n53 n54 n55 n56 l57,.bool true])<|
Bn T.a0 a0 λn58 n59 n60 n61 n62 n63 l64=>
AD T.a14 a0 0 λn65=>
Ax T.a39 a0 6 λl66=>
B9 F.a115 [AW n58 n59 n60 n61 n62 n63 l64,Ac (AF (offset-n65)),Ac (Ag l66)] λn67 n68 n69 n70 n71 n72 l73=>
Au T.a0 a1 (AW n67 n68 n69 n70 n71 n72 l73)<|
Bn T.a0 a1 λn74 n75 n76 n77 n78 n79 l80=>
Ab 0 [AW n74 n75 n76 n77 n78 n79 l80,.bool true]
theorem zng (b_0 b_1 b_2 b_3 b_4 b_5:Int) (b_6:Sl) (offset:Int):FnS (z00x b_0 b_1 b_2 b_3 b_4 b_5 b_6 offset) F.a106 #[.agg #[.int .i64 b_0,.int .i64 b_1,.int .i64 b_2,.int .i64 b_3,.int .i64 b_4,.int .i64 b_5,.slice b_6.a b_6.len b_6.cap],.int .i64 offset]:=dV ⟨[],[],[(1,[(6,.one .bool)])],[]⟩ Go.Proofs.Tryz.func199 (by kernel_rfl)
def z011 (b_0 b_1 b_2 b_3 b_4 b_5:Int) (b_6:Sl):Prog :=
Ae T.a0 (AW b_0 b_1 b_2 b_3 b_4 b_5 b_6) λa0=>
Bc 1 (
Bn T.a0 a0 λn1 n2 n3 n4 n5 n6 l7=>
AM F.a114 [AW n1 n2 n3 n4 n5 n6 l7] λb8=>
B7 (not b8=false) T.a0 a0 λn9 n10 n11 n12 n13 n14 l15=>
Aa (not b8) (
Ab 1 [.bool true])<|
AM F.a112 [AW n9 n10 n11 n12 n13 n14 l15] λb16=>
Ao (not b16) λb17=>
Ab 1 [.bool b17]) λb18=>
Aa b18 (
Ab 0 [Ac 2])<|
Ax T.a39 a0 6 λl19=>
Az (decide ((Ag l19)>64)) (
Ab 0 [Ac 7])<|
Ax T.a39 a0 6 λl21=>
AB 1 (
AO 2 (0,()) λn22=>
Aa (decide (n22<(Ag l21))) (
.ex [.adr] (c1 λa23=>0<=n22/\n22<(Ag l21)/\l21.a=some a23) (u1 λa24=>
Bo T.a2 a24 (Int.toNat n22*4) λs25 s26 b27 n28=>
Ar T.a2 λa29=>
Au T.a2 a29 (Bp s25 s26 b27 n28)<|
Bq T.a2 a29 λs30 s31 b32 n33=>
Ai F.a117 [Bp s30 s31 b32 n33] λn34=>
Ah n34 λn35=>
Aa (n35 != 0) (
Ah n35 λn36=>
Ab 0 [Ac n36])<|
Ab 2 [Ac (AF (n22+1))]))<|
Ab 1 [])<|
Bn T.a0 a0 λn37 n38 n39 n40 n41 n42 l43=>
Ai F.a109 [AW n37 n38 n39 n40 n41 n42 l43] λn44=>
Ah (AF (n44-1)) λn45=>
Bc 1 (
AD T.a14 a0 0 λn46=>
Bz (decide (n46>AF (1099511627776-n45))=false) T.a14 a0 1 λn47=>
B7 (decide (n46>AF (1099511627776-n45))=false/\decide (n47>0)=true) T.a0 a0 λn48 n49 n50 n51 n52 n53 l54=>
Aa (decide (n46>AF (1099511627776-n45))) (
Ab 1 [.bool true])<|
Aa (decide (n47>0)) (
AM F.a113 [AW n48 n49 n50 n51 n52 n53 l54] λb55=>
Bz (not b55=true) T.a13 a0 3 λn56=>
Ab 1 [.bool (not b55 && decide (n56>AF (2147483647-n45)))])<|
Ab 1 [.bool false]) λb57=>
Aa b57 (
Ab 0 [Ac 24])<|
Ab 0 [Ac 0]
theorem znk (b_0 b_1 b_2 b_3 b_4 b_5:Int) (b_6:Sl):FnS (z011 b_0 b_1 b_2 b_3 b_4 b_5 b_6) F.a110 #[.agg #[.int .i64 b_0,.int .i64 b_1,.int .i64 b_2,.int .i64 b_3,.int .i64 b_4,.int .i64 b_5,.slice b_6.a b_6.len b_6.cap]]:=dV ⟨[],[(1,[])],[(1,[(7,.one .bool)]),(13,[(58,.one .bool)])],[(1,[(24,.one (.int .i64))])]⟩ Go.Proofs.Tryz.func203 (by kernel_rfl)
def z010 (b_0 b_1 b_2 b_3 b_4 b_5:Int) (b_6:Sl):Prog :=
Ae T.a0 (AW b_0 b_1 b_2 b_3 b_4 b_5 b_6) λa0=>
Bn T.a0 a0 λn1 n2 n3 n4 n5 n6 l7=>
AM F.a113 [AW n1 n2 n3 n4 n5 n6 l7] λb8=>
Aa b8 (
Ab 0 [Ac 1])<|
Ax T.a39 a0 6 λl9=>
Ah (Ag l9) λn10=>
Ab 0 [Ac n10]
theorem znj (b_0 b_1 b_2 b_3 b_4 b_5:Int) (b_6:Sl):FnS (z010 b_0 b_1 b_2 b_3 b_4 b_5 b_6) F.a109 #[.agg #[.int .i64 b_0,.int .i64 b_1,.int .i64 b_2,.int .i64 b_3,.int .i64 b_4,.int .i64 b_5,.slice b_6.a b_6.len b_6.cap]]:=dV ⟨[],[],[],[]⟩ Go.Proofs.Tryz.func204 (by kernel_rfl)
def ztb (l:Option Addr) (bs:Sl):Prog :=
Aa (Option.isNone l) (
Ab 0 [Ac 0,Ac 1])<|
Aa ((Ag bs) == 0) (
Ab 0 [Ac 0,Ac 3])<|
.call F.a134 [Ad l,bs.v] (.tup [.one .slc,.one .slc,.one (.int .i64)]) (u3 λl0 l1 (n2:Int)=>
Ah n2 λn3=>
Aa (n3 != 0) (
Ah n3 λn4=>
Ab 0 [Ac 0,Ac n4])<|
AI 1 (
AJ 2 (0,(0,())) λn5 n6=>
Aa (decide (n6<(Ag l1))) (
.ex [.adr] (c1 λa7=>0<=n6/\n6<(Ag l1)/\l1.a=some a7) (u1 λa8=>
Ax T.a49 a8 (Int.toNat n6*1) λl9=>
Ah (AF (n5+(Ag l9))) λn10=>
Ab 2 [Ac n10,Ac (AF (n6+1))]))<|
Ab 1 [Ac n5]) λn11=>
B1 F.a132 [Ad l] λp12=>
AM F.a131 [Ad l,Ac n11] λb13=>
.bind 1 [.one .ptr] (
Aa (not b13) (
Ai F.a127 [Ad l] λn14=>
Ah n14 λn15=>
Aa (n15 != 0) (
Ah n15 λn16=>
Ab 0 [Ac 0,Ac n16])<|
Ai F.a123 [Ad l] λn17=>
B1 F.a137 [Ad l,Ac n17,Ac 0] λp18=>
AI 2 (
AC<|
Aj l λa20=>
B4 T.a28 a20 0 λp21=>
Aj p18 λa23=>
AD T.a14 a23 1 λn24=>
Aj p18 λa26=>
By T.a14 a26 1 λn27=>
Bu F.a133 [Ad l,Ac n24,.string (ByteArray.mk #[46,108,111,103])] λs28=>
Ay F.a141 [Ac n27,Ac 0] λl29=>
AP (Instr.buildSlice T.a47 1 #[(0,l29.v)]) λl30=>
AP (app T.a47 T.a47 T.a47 l30.v l1.v) λl31=>
AG<|
Ai F.a26 [Ad p21,.string s28,l31.v] λn32=>
Ah n32 λn33=>
AG<|
Ab 2 [Ac n33]) λn34=>
Aa (n34 != 0) (
Ah n34 λn35=>
Ab 0 [Ac 0,Ac n35])<|
Am F.a135 [Ad l,Ad p18]<|
Ab 1 [Ad p18])<|
AI 2 (
AC<|
Aj l λa37=>
B4 T.a28 a37 0 λp38=>
Aj p12 λa40=>
AD T.a14 a40 1 λn41=>
Bu F.a133 [Ad l,Ac n41,.string (ByteArray.mk #[46,108,111,103])] λs42=>
AG<|
Ai F.a26 [Ad p38,.string s42,l1.v] λn43=>
Ah n43 λn44=>
AG<|
Ab 2 [Ac n44]) λn45=>
Aa (n45 != 0) (
Ah n45 λn46=>
Ab 0 [Ac 0,Ac n46])<|
Ab 1 [Ad p12]) (u1 λp47=>
AB 1 (
AO 2 (0,()) λn48=>
Aa (decide (n48<(Ag l0))) (
.ex [.adr] (c1 λa49=>0<=n48/\n48<(Ag l0)/\l0.a=some a49) (u1 λa50=>
AV T.a0 a50 (Int.toNat n48*7) λn51 n52 n53 n54 n55 n56 l57=>
Ar T.a0 λa58=>
Ah n48 λn59=>
Au T.a0 a58 (AW n51 n52 n53 n54 n55 n56 l57)<|
AC<|
Bn T.a0 a58 λn60 n61 n62 n63 n64 n65 l66=>
.ex [.adr] (c1 λa67=>0<=n59/\n59<(Ag l1)/\l1.a=some a67) (u1 λa68=>
Ax T.a49 a68 (Int.toNat n59*1) λl69=>
Am F.a147 [Ad p47,AW n60 n61 n62 n63 n64 n65 l66,Ac (Ag l69)]<|
AG<|
Ab 2 [Ac (AF (n48+1))])))<|
Ab 1 [])<|
.ex [.adr] (c1 λa70=>(0:Int)<=0/\0<(Ag l0)/\l0.a=some a70) (u1 λa71=>
AD T.a14 (Addr.add a71 0) 0 λn72=>
Ah n72 λn73=>
Ab 0 [Ac n73,Ac 0])))
theorem zez (l:Option Addr) (bs:Sl):FnS (ztb l bs) F.a121 #[.pointer l,.slice bs.a bs.len bs.cap]:=dV ⟨[(2596148429267409202579229989077041,[(12,.one .ptr)])],[(0,[(9,.one (.int .i64))]),(2,[])],[(20,[(14,.one (.int .i64))]),(24,[(15,.one (.int .i64))])],[(0,[(9,.one (.int .i64)),(35,.one (.int .i64))]),(2,[(101,.one (.int .i64))])]⟩ Go.Proofs.Tryz.func211 (by kernel_rfl)
def z01h (l:Option Addr):Prog :=
Aa (Option.isNone l) (
Ab 0 [Ac 1])<|
B1 F.a132 [Ad l] λp0=>
Aa (not (Option.isNone p0)) (
AI 1 (
AC<|
Aj l λa2=>
B4 T.a28 a2 0 λp3=>
Aj p0 λa5=>
AD T.a14 a5 1 λn6=>
Bu F.a133 [Ad l,Ac n6,.string (ByteArray.mk #[46,108,111,103])] λs7=>
AP (Instr.buildSlice T.a48 1 #[(0,.string s7)]) λl8=>
AG<|
Ai F.a34 [Ad p3,l8.v] λn9=>
Ah n9 λn10=>
AG<|
Ab 1 [Ac n10]) λn11=>
Ab 0 [Ac n11])<|
Ab 0 [Ac 0]
theorem zo0 (l:Option Addr):FnS (z01h l) F.a127 #[.pointer l]:=dV ⟨[],[],[(5,[(2,.one (.int .i64))])],[]⟩ Go.Proofs.Tryz.func212 (by kernel_rfl)
def z00t (b_0 b_1 b_2 b_3 b_4 b_5:Int) (b_6:Sl):Prog :=
Ae T.a0 (AW b_0 b_1 b_2 b_3 b_4 b_5 b_6) λa0=>
Ar T.a0 λa1=>
Ax T.a39 a0 6 λl2=>
AP (app T.a39 T.a39 T.a39 (.slice none 0 0) l2.v) λl3=>
AE T.a39 a0 6 l3.v<|
Bn T.a0 a0 λn4 n5 n6 n7 n8 n9 l10=>
Au T.a0 a1 (AW n4 n5 n6 n7 n8 n9 l10)<|
Bn T.a0 a1 λn11 n12 n13 n14 n15 n16 l17=>
Ab 0 [AW n11 n12 n13 n14 n15 n16 l17]
theorem znc (b_0 b_1 b_2 b_3 b_4 b_5:Int) (b_6:Sl):FnS (z00t b_0 b_1 b_2 b_3 b_4 b_5 b_6) F.a102 #[.agg #[.int .i64 b_0,.int .i64 b_1,.int .i64 b_2,.int .i64 b_3,.int .i64 b_4,.int .i64 b_5,.slice b_6.a b_6.len b_6.cap]]:=dV ⟨[],[],[],[]⟩ Go.Proofs.Tryz.func213 (by kernel_rfl)
def z031 (p:Option Addr) (n:Int):Prog :=
Aj p λa1=>
AD T.a13 a1 1 λn2=>
Aj p λa4=>
AE T.a13 a4 1 (Ac (AF (n2+n)))<|
AC<|
Aj p λa6=>
Ax T.a49 a6 0 λl7=>
Aj p λa9=>
AD T.a13 a9 1 λn10=>
Aj p λa12=>
AD T.a13 a12 1 λn13=>
.must (0<=AF (n10-n)/\AF (n10-n)<=n13/\n13<=((l7.cap:Nat):Int)) <|
AG<|
Ab 0 [.slice (z12 l7.a 1 (Int.toNat (AF (n10-n))) l7.cap) (Int.toNat n13-Int.toNat (AF (n10-n))) (l7.cap-Int.toNat (AF (n10-n)))]
theorem zpk (p:Option Addr) (n:Int):FnS (z031 p n) F.a213 #[.pointer p,.int .i64 n]:=dV ⟨[],[],[],[]⟩ Go.Proofs.Tryz.func225 (by kernel_rfl)
def z02k (on:Bool):Prog :=
Aa on (
AP (Instr.buildSlice T.a49 1 #[(0,.int .u8 1)]) λl0=>
Ab 0 [l0.v])<|
AP (Instr.buildSlice T.a49 1 #[(0,.int .u8 0)]) λl1=>
Ab 0 [l1.v]
theorem zp3 (on:Bool):FnS (z02k on) F.a196 #[.bool on]:=dV ⟨[],[],[],[]⟩ Go.Proofs.Tryz.func226 (by kernel_rfl)
def z01i (l:Option Addr) (name:ByteArray) (end_:ByteArray):Prog :=
Aj l λa1=>
AQ T.a54 a1 1 λs2=>
Ah (AF (((ByteArray.size s2:Nat):Int)+1)) λn3=>
.must ((((ByteArray.size name:Nat):Int) != AF (AF (n3+11)+((ByteArray.size end_:Nat):Int)))=false->0<=AF (n3+11)/\AF (n3+11)<=((ByteArray.size name:Nat):Int)) <|
Aa (((ByteArray.size name:Nat):Int) != AF (AF (n3+11)+((ByteArray.size end_:Nat):Int)) || not (ByteArray.toList (ByteArray.extract name (Int.toNat (AF (n3+11))) (ByteArray.size name)) == ByteArray.toList end_)) (
Ab 0 [Ac 0,.bool false])<|
.must (0<=n3/\n3<=AF (n3+11)/\AF (n3+11)<=((ByteArray.size name:Nat):Int)) <|
AP (convert T.a54 T.a49 (.string (ByteArray.extract name (Int.toNat n3) (Int.toNat (AF (n3+11)))))) λl4=>
AI 1 (
AJ 2 (0,(0,())) λn5 n6=>
Aa (decide (n6<(Ag l4))) (
.ex [.adr] (c1 λa7=>0<=n6/\n6<(Ag l4)/\l4.a=some a7) (u1 λa8=>
AY T.a57 a8 (Int.toNat n6*1) λn9=>
AZ n9 λn10=>
Ao (decide (n10>=48) && decide (n10<=57)) λb11=>
AI 3 (
Aa b11 (
Ah (AF (((BitVec.toNat (BitVec.ofInt 64 (AF (n5*16)) ||| BitVec.ofInt 64 (AF (IntKind.wrap .u8 (n10-48)))):Nat):Int))) λn12=>
Ab 3 [Ac n12])<|
Az (decide (n10>=97) && decide (n10<=102)) (
Ah (AF (((BitVec.toNat (BitVec.ofInt 64 (AF (n5*16)) ||| BitVec.ofInt 64 (AF (IntKind.wrap .u8 (IntKind.wrap .u8 (n10-97)+10)))):Nat):Int))) λn14=>
Ab 3 [Ac n14])<|
Ab 0 [Ac 0,.bool false]) λn15=>
Ab 2 [Ac n15,Ac (AF (n6+1))]))<|
Ab 1 [Ac n5]) λn16=>
Ah n16 λn17=>
Ab 0 [Ac n17,.bool true]
theorem zo1 (l:Option Addr) (name end_:ByteArray):FnS (z01i l name end_) F.a128 #[.pointer l,.string name,.string end_]:=dV ⟨[(19342794667089993088630829,[(9,.one (.int .i64))])],[(0,[(9,.one (.int .i64))])],[],[(0,[(9,.one (.int .i64)),(41,.one (.int .i64))])]⟩ Go.Proofs.Tryz.func242 (by kernel_rfl)
def z01m (l:Option Addr):Prog :=
Aj l λa1=>
Ax T.a45 a1 4 λl2=>
Aa ((Ag l2) == 0) (
Ab 0 [Ad none])<|
AC<|
Aj l λa4=>
Ax T.a45 a4 4 λl5=>
Aj l λa7=>
Ax T.a45 a7 4 λl8=>
.ex [.adr] (c1 λa9=>0<=AF ((Ag l8)-1)/\AF ((Ag l8)-1)<(Ag l5)/\l5.a=some a9) (u1 λa10=>
Bw T.a34 a10 (Int.toNat (AF ((Ag l8)-1))*1) λp11=>
AG<|
Ab 0 [Ad p11])
theorem zo5 (l:Option Addr):FnS (z01m l) F.a132 #[.pointer l]:=dV ⟨[],[],[],[]⟩ Go.Proofs.Tryz.func243 (by kernel_rfl)
def z020 (s:Option Addr):Prog :=
AC<|
Aj s λa1=>
AD T.a14 a1 1 λn2=>
Aj s λa4=>
AD T.a14 a4 2 λn5=>
Aj s λa7=>
AD T.a14 a7 3 λn8=>
Ah (if n8>if n5>n2 then n5 else n2 then n8 else if n5>n2 then n5 else n2) λn9=>
AG<|
Ab 0 [Ac n9]
theorem zoj (s:Option Addr):FnS (z020 s) F.a146 #[.pointer s]:=dV ⟨[],[],[],[]⟩ Go.Proofs.Tryz.func244 (by kernel_rfl)
def z07t (b:Sl):Prog :=
Aa (decide ((Ag b)<8)) (
Ab 0 [.slice none 0 0,Ac 0,.bool false])<|
BA F.a47 [b.v] λn0=>
BB n0 λn1=>
Aa (decide (n1>262144) || decide (AF n1>AF ((Ag b)-8))) (
Ab 0 [.slice none 0 0,Ac 0,.bool false])<|
Ah (AF (AF n1+4)) λn2=>
Bc 1 (
AC<|
.must (0<=n2/\n2<=(Ag b)) <|
.must (0<=n2/\n2<=((b.cap:Nat):Int)) <|
.both (
BA F.a47 [.slice (z12 b.a 1 (Int.toNat n2) b.cap) (b.len-Int.toNat n2) (b.cap-Int.toNat n2)] λn3=>
AP (Instr.buildSlice T.a47 1 #[(0,.slice b.a (Int.toNat n2) b.cap)]) λl4=>
BA F.a45 [l4.v] λn5=>
AG<|
Ab 1 [.bool (n3 != n5)]) <|
AP (Instr.buildSlice T.a47 1 #[(0,.slice b.a (Int.toNat n2) b.cap)]) λl6=>
BA F.a47 [.slice (z12 b.a 1 (Int.toNat n2) b.cap) (b.len-Int.toNat n2) (b.cap-Int.toNat n2)] λn7=>
BA F.a45 [l6.v] λn8=>
AG<|
Ab 1 [.bool (n7 != n8)]) λb9=>
Aa b9 (
Ab 0 [.slice none 0 0,Ac 0,.bool false])<|
.must ((0:Int)<=4/\4<=n2/\n2<=((b.cap:Nat):Int)) <|
Ay F.a0 [.slice (z12 b.a 1 4 b.cap) (Int.toNat n2-4) (b.cap-4)] λl10=>
Ah (AF (n2+4)) λn11=>
Ab 0 [l10.v,Ac n11,.bool true]
theorem zu1 (b:Sl):FnS (z07t b) F.a41 #[.slice b.a b.len b.cap]:=dV ⟨[],[],[(7,[(34,.one .bool)])],[]⟩ Go.Proofs.Tryz.func245 (by kernel_rfl)
def z01w (body:Sl) (base:Int):Prog :=
B1 F.a199 [body.v] λp0=>
Ai F.a200 [Ad p0] λn1=>
Bj F.a206 [Ad p0] λn2=>
Bj F.a206 [Ad p0] λn3=>
Ah n1 λn4=>
AU n2 λn5=>
AU n3 λn6=>
Ai F.a201 [Ad p0] λn7=>
Aa (n7 != 0 || n4 != 83 || n5 != IntKind.wrap .u64 base || decide (base>1099511627776) || decide (n6>1099511627776)) (
Ab 0 [Ac 0,.bool false])<|
Ah (AF n6) λn8=>
Ao (n6 == 0 || decide (AF n6>base)) λb9=>
Ab 0 [Ac n8,.bool b9]
theorem zof (body:Sl) (base:Int):FnS (z01w body base) F.a142 #[.slice body.a body.len body.cap,.int .i64 base]:=dV ⟨[],[],[],[]⟩ Go.Proofs.Tryz.func246 (by kernel_rfl)
def z01r (l:Option Addr) (base:Int) (end_:Int):Prog :=
Aj l λa1=>
AD T.a13 (Addr.add a1 2) 1 λn2=>
BC F.a52 [Ac n2] λp3 n4=>
Ah n4 λn5=>
Ay F.a141 [Ac base,Ac end_] λl6=>
Ae T.a52 (.agg #[Ad p3,Ac base,Ac end_,Ac 0,Ac (-1),Ac (Ag l6)]) λa7=>
Ab 0 [Af a7]
theorem zoa (l:Option Addr) (base end_:Int):FnS (z01r l base end_) F.a137 #[.pointer l,.int .i64 base,.int .i64 end_]:=dV ⟨[],[],[],[]⟩ Go.Proofs.Tryz.func247 (by kernel_rfl)
def z00u (raw:Sl):Prog :=
Ar T.a0 λa0=>
Ar T.a0 λa1=>
Au T.a0 a1 (.agg #[Ac 0,Ac 0,Ac 0,Ac 0,Ac 0,Ac 0,.slice none 0 0])<|
B1 F.a199 [raw.v] λp2=>
Ai F.a200 [Ad p2] λn3=>
Aa (n3 != 1) (
Bn T.a0 a1 λn4 n5 n6 n7 n8 n9 l10=>
Au T.a0 a0 (AW n4 n5 n6 n7 n8 n9 l10)<|
Bn T.a0 a0 λn11 n12 n13 n14 n15 n16 l17=>
Ab 0 [AW n11 n12 n13 n14 n15 n16 l17,Ac 6])<|
Ai F.a200 [Ad p2] λn18=>
Ai F.a118 [Ad p2,Ac 1099511627776] λn19=>
Ai F.a118 [Ad p2,Ac 1048576] λn20=>
Ar T.a0 λa21=>
Au T.a0 a21 (.agg #[Ac n19,Ac n20,Ac 0,Ac 0,Ac n18,Ac 0,.slice none 0 0])<|
AD T.a14 a21 1 λn22=>
AB 1 (
Aa (decide (n22>0)) (
Ai F.a118 [Ad p2,Ac 32767] λn23=>
AE T.a13 a21 2 (Ac n23)<|
Bn T.a0 a21 λn24 n25 n26 n27 n28 n29 l30=>
AM F.a113 [AW n24 n25 n26 n27 n28 n29 l30] λb31=>
AB 2 (
Aa (not b31) (
Ai F.a118 [Ad p2,Ac 2147483647] λn32=>
AE T.a13 a21 3 (Ac n32)<|
Ab 2 [])<|
Ab 2 [])<|
Ab 1 [])<|
Ab 1 [])<|
Ai F.a118 [Ad p2,Ac 1099511627776] λn33=>
AE T.a14 a21 5 (Ac n33)<|
Ai F.a202 [Ad p2] λn34=>
Bz ((n34 != 0)=false) T.a14 a21 5 λn35=>
Aa (n34 != 0 || decide (n35>1099511627776)) (
Bn T.a0 a1 λn36 n37 n38 n39 n40 n41 l42=>
Au T.a0 a0 (AW n36 n37 n38 n39 n40 n41 l42)<|
Bn T.a0 a0 λn43 n44 n45 n46 n47 n48 l49=>
Ab 0 [AW n43 n44 n45 n46 n47 n48 l49,Ac 6])<|
Bn T.a0 a21 λn50 n51 n52 n53 n54 n55 l56=>
AM F.a113 [AW n50 n51 n52 n53 n54 n55 l56] λb57=>
AB 1 (
Aa (not b57) (
Ai F.a118 [Ad p2,Ac 64] λn58=>
Ah n58 λn59=>
Aa (decide (n59>64)) (
Bn T.a0 a1 λn60 n61 n62 n63 n64 n65 l66=>
Au T.a0 a0 (AW n60 n61 n62 n63 n64 n65 l66)<|
Bn T.a0 a0 λn67 n68 n69 n70 n71 n72 l73=>
Ab 0 [AW n67 n68 n69 n70 n71 n72 l73,Ac 6])<|
AB 2 (
.loop 3 [.one .str,.one (.int .i64)] ((ByteArray.mk #[]),(0,())) (u2 λs74 (n75:Int)=>
Aa (decide (n75<n59)) (
AD T.a14 a21 5 λn76=>
.call F.a116 [Ad p2,Ac n76,.string s74] (.tup [.agg [.str,.str,.bool,.int .i64],.one .bool]) (u5 λs77 s78 b79 (n80:Int) b81=>
Ar T.a2 λa82=>
Au T.a2 a82 (Bp s77 s78 b79 n80)<|
Ao b81 λb83=>
Aa (not b83) (
Bn T.a0 a1 λn84 n85 n86 n87 n88 n89 l90=>
Au T.a0 a0 (AW n84 n85 n86 n87 n88 n89 l90)<|
Bn T.a0 a0 λn91 n92 n93 n94 n95 n96 l97=>
Ab 0 [AW n91 n92 n93 n94 n95 n96 l97,Ac 6])<|
Ax T.a39 a21 6 λl98=>
Bq T.a2 a82 λs99 s100 b101 n102=>
AP (Instr.buildSlice T.a39 1 #[(0,Bp s99 s100 b101 n102)]) λl103=>
AP (app T.a39 T.a39 T.a39 l98.v l103.v) λl104=>
AE T.a39 a21 6 l104.v<|
AQ T.a54 a82 0 λs105=>
AR s105 λs106=>
Ab 3 [.string s106,Ac (AF (n75+1))]))<|
Ab 2 []))<|
Ab 1 [])<|
Ab 1 [])<|
Bc 1 (
Ai F.a201 [Ad p2] λn107=>
B7 ((n107 != 0)=false) T.a0 a21 λn108 n109 n110 n111 n112 n113 l114=>
Aa (n107 != 0) (
Ab 1 [.bool true])<|
Ai F.a110 [AW n108 n109 n110 n111 n112 n113 l114] λn115=>
Ab 1 [.bool (n115 != 0)]) λb116=>
Aa b116 (
Bn T.a0 a1 λn117 n118 n119 n120 n121 n122 l123=>
Au T.a0 a0 (AW n117 n118 n119 n120 n121 n122 l123)<|
Bn T.a0 a0 λn124 n125 n126 n127 n128 n129 l130=>
Ab 0 [AW n124 n125 n126 n127 n128 n129 l130,Ac 6])<|
Bn T.a0 a21 λn131 n132 n133 n134 n135 n136 l137=>
Au T.a0 a0 (AW n131 n132 n133 n134 n135 n136 l137)<|
Bn T.a0 a0 λn138 n139 n140 n141 n142 n143 l144=>
Ab 0 [AW n138 n139 n140 n141 n142 n143 l144,Ac 0]
theorem znd (raw:Sl):FnS (z00u raw) F.a103 #[.slice raw.a raw.len raw.cap]:=dV ⟨[(985162418487330,[]),(1123700883587100,[]),(19807040591672596250983170100,[])],[(0,[])],[(27,[(89,.one .bool)])],[(0,[(8,.one .str),(59,.one (.int .i64))])]⟩ Go.Proofs.Tryz.func248 (by kernel_rfl)
def z021 (s:Option Addr) (b_0 b_1 b_2 b_3 b_4 b_5:Int) (b_6:Sl) (size:Int):Prog :=
Ae T.a0 (AW b_0 b_1 b_2 b_3 b_4 b_5 b_6) λa0=>
Bn T.a0 a0 λn1 n2 n3 n4 n5 n6 l7=>
Ai F.a143 [AW n1 n2 n3 n4 n5 n6 l7] λn8=>
Ah n8 λn9=>
AC<|
Aj s λa11=>
Bw T.a30 a11 0 λp12=>
AD T.a14 a0 0 λn13=>
Aj s λa15=>
AD T.a13 a15 5 λn16=>
Ai F.a50 [Ad p12,Ac n13,Ac n16,Ac n9] λn17=>
AG<|
Bn T.a0 a0 λn18 n19 n20 n21 n22 n23 l24=>
Ai F.a108 [AW n18 n19 n20 n21 n22 n23 l24] λn25=>
Aj s λa27=>
AE T.a14 a27 3 (Ac n25)<|
Aj s λa29=>
AD T.a14 a29 4 λn30=>
Aj s λa32=>
AE T.a14 a32 4 (Ac (if n9>n30 then n9 else n30))<|
Aj s λa34=>
AD T.a13 a34 5 λn35=>
Aj s λa37=>
AE T.a13 a37 5 (Ac (AF (n35+size)))<|
Ab 0 []
theorem zok (s:Option Addr) (b_0 b_1 b_2 b_3 b_4 b_5:Int) (b_6:Sl) (size:Int):FnS (z021 s b_0 b_1 b_2 b_3 b_4 b_5 b_6 size) F.a147 #[.pointer s,.agg #[.int .i64 b_0,.int .i64 b_1,.int .i64 b_2,.int .i64 b_3,.int .i64 b_4,.int .i64 b_5,.slice b_6.a b_6.len b_6.cap],.int .i64 size]:=dV ⟨[],[],[],[]⟩ Go.Proofs.Tryz.func249 (by kernel_rfl)
def z01p (l:Option Addr) (s:Option Addr):Prog :=
Aj l λa1=>
Ax T.a45 a1 4 λl2=>
AP (Instr.buildSlice T.a45 1 #[(0,Ad s)]) λl3=>
AP (app T.a45 T.a45 T.a45 l2.v l3.v) λl4=>
Aj l λa6=>
AE T.a45 a6 4 l4.v<|
Ab 0 []
theorem zo8 (l s:Option Addr):FnS (z01p l s) F.a135 #[.pointer l,.pointer s]:=dV ⟨[],[],[],[]⟩ Go.Proofs.Tryz.func250 (by kernel_rfl)
def z02v (r:Option Addr) (lo:Int) (hi:Int):Prog :=
AM F.a208 [Ad r] λb0=>
Aa (not b0) (
Ab 0 [Ac 0])<|
Aj r λa2=>
AD T.a13 (Addr.add a2 0) 1 λn3=>
Ah n3 λn4=>
Ai F.a204 [Ad r] λn5=>
Ah n5 λn6=>
Aj r λa8=>
AD T.a1 (Addr.add a8 0) 2 λn9=>
AB 1 (
Aa (n9 == 0 && (decide (n6<lo) || decide (n6>hi))) (
Aj r λa11=>
AE T.a13 (Addr.add a11 0) 1 (Ac n4)<|
Aj r λa13=>
Am F.a211 [An a13 0,Ac 8]<|
Ab 1 [])<|
Ab 1 [])<|
Aj r λa15=>
AD T.a1 (Addr.add a15 0) 2 λn16=>
Aa (n16 != 0) (
Ab 0 [Ac 0])<|
Ah n6 λn17=>
Ab 0 [Ac n17]
theorem zpe (r:Option Addr) (lo hi:Int):FnS (z02v r lo hi) F.a207 #[.pointer r,.int .i64 lo,.int .i64 hi]:=dV ⟨[(71916856549572642,[])],[],[],[]⟩ Go.Proofs.Tryz.func253 (by kernel_rfl)
def z080 (x:Option Addr) (offset:Int):Prog :=
Ae T.a30 (Ad x) λa0=>
Ae T.a14 (Ac offset) λa1=>
Ar T.a10 λa2=>
Bv T.a30 a0 λp3=>
Aa (Option.isNone p3) (
Au T.a10 a2 (B8 0 0 0)<|
BD T.a10 a2 λn4 n5 n6=>
Ab 0 [B8 n4 n5 n6,.bool false])<|
Bc 1 (
AC<|
.hold True (ld T.a30 a0) sP (u1 λp7=>
Bv T.a30 a0 λp8=>
Aj p8 λa10=>
Ax T.a40 a10 4 λl11=>
Ai F.a182 [Ac (Ag l11),.func (Fn.func 311) #[] #[Af a0,Af a1]] λn12=>
AG<|
.call F.a51 [Ad p7,Ac (AF (n12-1))] (.tup [.agg [.int .i64,.int .i64,.int .i64],.one .bool]) (u4 λ(n13 n14 n15:Int) b16=>
Au T.a10 a2 (B8 n13 n14 n15)<|
Ao b16 λb17=>
AG<|
Ab 1 [.bool b17]))) λb18=>
BD T.a10 a2 λn19 n20 n21=>
Ab 0 [B8 n19 n20 n21,.bool b18]
theorem zu8 (x:Option Addr) (offset:Int):FnS (z080 x offset) F.a48 #[.pointer x,.int .i64 offset]:=dV ⟨[],[],[(3,[(5,.one .bool)])],[]⟩ Go.Proofs.Tryz.func262 (by kernel_rfl)
def z01v (base:Int) (end_:Int):Prog :=
AP (Instr.buildSlice T.a49 1 #[(0,.int .u8 83)]) λl0=>
Ay F.a210 [.int .u64 (IntKind.wrap .u64 base)] λl1=>
Ay F.a210 [.int .u64 (IntKind.wrap .u64 end_)] λl2=>
AP (Instr.buildSlice T.a47 3 #[(0,l0.v),(1,l1.v),(2,l2.v)]) λl3=>
Ay F.a44 [l3.v] λl4=>
Ab 0 [l4.v]
theorem zoe (base end_:Int):FnS (z01v base end_) F.a141 #[.int .i64 base,.int .i64 end_]:=dV ⟨[],[],[],[]⟩ Go.Proofs.Tryz.func263 (by kernel_rfl)
def z016 (b_0 b_1 b_2 b_3 b_4 b_5:Int) (b_6:Sl) (from_:Int) (to_:Int):Prog :=
Ae T.a0 (AW b_0 b_1 b_2 b_3 b_4 b_5 b_6) λa0=>
Ar T.a0 λa1=>
Bn T.a0 a0 λn2 n3 n4 n5 n6 n7 l8=>
Ar T.a0 λa9=>
Au T.a0 a9 (AW n2 n3 n4 n5 n6 n7 l8)<|
Ax T.a39 a0 6 λl10=>
.must (0<=from_/\from_<=to_/\to_<=((l10.cap:Nat):Int)) <|
AP (app T.a39 T.a39 T.a39 (.slice none 0 0) (.slice (z12 l10.a 4 (Int.toNat from_) l10.cap) (Int.toNat to_-Int.toNat from_) (l10.cap-Int.toNat from_))) λl11=>
AE T.a39 a9 6 l11.v<|
AD T.a14 a9 0 λn12=>
AE T.a14 a9 0 (Ac (AF (n12+from_)))<|
AD T.a14 a9 1 λn13=>
AB 1 (
Aa (decide (n13>0)) (
AD T.a13 a9 3 λn14=>
AE T.a13 a9 3 (Ac (AF (n14+from_)))<|
Ab 1 [])<|
Ab 1 [])<|
Bn T.a0 a9 λn15 n16 n17 n18 n19 n20 l21=>
Au T.a0 a1 (AW n15 n16 n17 n18 n19 n20 l21)<|
Bn T.a0 a1 λn22 n23 n24 n25 n26 n27 l28=>
Ab 0 [AW n22 n23 n24 n25 n26 n27 l28]
theorem znp (b_0 b_1 b_2 b_3 b_4 b_5:Int) (b_6:Sl) (from_ to_:Int):FnS (z016 b_0 b_1 b_2 b_3 b_4 b_5 b_6 from_ to_) F.a115 #[.agg #[.int .i64 b_0,.int .i64 b_1,.int .i64 b_2,.int .i64 b_3,.int .i64 b_4,.int .i64 b_5,.slice b_6.a b_6.len b_6.cap],.int .i64 from_,.int .i64 to_]:=dV ⟨[(2130303778839,[])],[],[],[]⟩ Go.Proofs.Tryz.func264 (by kernel_rfl)
def z015 (b_0 b_1 b_2 b_3 b_4 b_5:Int) (b_6:Sl):Prog :=
Ae T.a0 (AW b_0 b_1 b_2 b_3 b_4 b_5 b_6) λa0=>
Bc 1 (
AD T.a13 a0 4 λn1=>
Bz (decide (n1>=0)=true) T.a13 a0 4 λn2=>
Bz ((decide (n1>=0) && decide (n2<=3))=true) T.a14 a0 0 λn3=>
Aa (decide (n1>=0) && decide (n2<=3)) (
AM F.a119 [Ac n3,Ac 0,Ac 1099511627776] λb4=>
Bz (b4=true) T.a14 a0 1 λn5=>
Aa b4 (
AM F.a119 [Ac n5,Ac 0,Ac 1048576] λb6=>
Bz (b6=true) T.a13 a0 2 λn7=>
Bz ((b6 && decide (n7>=0))=true) T.a13 a0 2 λn8=>
Bz ((b6 && decide (n7>=0) && decide (n8<=32767))=true) T.a13 a0 3 λn9=>
Bz ((b6 && decide (n7>=0) && decide (n8<=32767) && decide (n9>=0))=true) T.a13 a0 3 λn10=>
Bz ((b6 && decide (n7>=0) && decide (n8<=32767) && decide (n9>=0) && decide (n10<=2147483647))=true) T.a14 a0 5 λn11=>
Aa (b6 && decide (n7>=0) && decide (n8<=32767) && decide (n9>=0) && decide (n10<=2147483647)) (
AM F.a119 [Ac n11,Ac 0,Ac 1099511627776] λb12=>
Ao b12 λb13=>
Ab 1 [.bool b13])<|
Ab 1 [.bool false])<|
Ab 1 [.bool false])<|
Ab 1 [.bool false]) λb14=>
Ab 0 [.bool b14]
theorem zno (b_0 b_1 b_2 b_3 b_4 b_5:Int) (b_6:Sl):FnS (z015 b_0 b_1 b_2 b_3 b_4 b_5 b_6) F.a114 #[.agg #[.int .i64 b_0,.int .i64 b_1,.int .i64 b_2,.int .i64 b_3,.int .i64 b_4,.int .i64 b_5,.slice b_6.a b_6.len b_6.cap]]:=dV ⟨[],[],[(1,[(2,.one .bool)])],[]⟩ Go.Proofs.Tryz.func269 (by kernel_rfl)
def z013 (b_0 b_1 b_2 b_3 b_4 b_5:Int) (b_6:Sl):Prog :=
Ae T.a0 (AW b_0 b_1 b_2 b_3 b_4 b_5 b_6) λa0=>
AD T.a14 a0 1 λn1=>
Bz ((n1 == 0)=true) T.a13 a0 4 λn2=>
Bz ((n1 == 0)=true/\(n2 != 0)=false) T.a13 a0 2 λn3=>
Bz ((n1 == 0)=true/\(n2 != 0 || n3 != 0)=false) T.a13 a0 3 λn4=>
Aa (n1 == 0 && (n2 != 0 || n3 != 0 || n4 != 0)) (
Ab 0 [.bool false])<|
Bn T.a0 a0 λn5 n6 n7 n8 n9 n10 l11=>
AM F.a113 [AW n5 n6 n7 n8 n9 n10 l11] λb12=>
Aa b12 (
AD T.a13 a0 3 λn13=>
AX ((n13 == 0)=true) T.a39 a0 6 λl14=>
Ao (n13 == 0 && (Ag l14) == 0) λb15=>
Ab 0 [.bool b15])<|
Ax T.a39 a0 6 λl16=>
Ao (decide ((Ag l16)>0)) λb17=>
Ab 0 [.bool b17]
theorem znm (b_0 b_1 b_2 b_3 b_4 b_5:Int) (b_6:Sl):FnS (z013 b_0 b_1 b_2 b_3 b_4 b_5 b_6) F.a112 #[.agg #[.int .i64 b_0,.int .i64 b_1,.int .i64 b_2,.int .i64 b_3,.int .i64 b_4,.int .i64 b_5,.slice b_6.a b_6.len b_6.cap]]:=dV ⟨[],[],[],[]⟩ Go.Proofs.Tryz.func270 (by kernel_rfl)
def z018 (r_0 r_1:ByteArray) (r_2:Bool) (r_3:Int):Prog :=
Ae T.a2 (Bp r_0 r_1 r_2 r_3) λa0=>
AQ T.a54 a0 0 λs1=>
Bh (decide (((ByteArray.size s1:Nat):Int)>1024)=false) T.a54 a0 1 λs2=>
Az (decide (((ByteArray.size s1:Nat):Int)>1024) || decide (((ByteArray.size s2:Nat):Int)>1024)) (
Ab 0 [Ac 7])<|
AD T.a14 a0 3 λn4=>
AM F.a119 [Ac n4,Ac 0,Ac 1099511627776] λb5=>
Aq (not b5=false) T.a3 a0 2 λb6=>
Bh (not b5=false/\b6=true) T.a54 a0 1 λs7=>
Az (not b5 || b6 && not (ByteArray.toList s7 == ByteArray.toList (ByteArray.mk #[]))) (
Ab 0 [Ac 2])<|
Ab 0 [Ac 0]
theorem znr (r_0 r_1:ByteArray) (r_2:Bool) (r_3:Int):FnS (z018 r_0 r_1 r_2 r_3) F.a117 #[.agg #[.string r_0,.string r_1,.bool r_2,.int .i64 r_3]]:=dV ⟨[],[],[],[]⟩ Go.Proofs.Tryz.func271 (by kernel_rfl)
def z01o (l:Option Addr) (bs:Sl):Prog :=
Ai F.a123 [Ad l] λn0=>
Ah n0 λn1=>
.bind 1 [.one .slc,.one .slc] (
.loop 2 [.one (.int .i64),.one .slc,.one .slc,.one (.int .i64)] (n1,(⟨none,0,0⟩,(⟨none,0,0⟩,(0,())))) (u4 λ(n2:Int) l3 l4 (n5:Int)=>
Aa (decide (n5<(Ag bs))) (
.ex [.adr] (c1 λa6=>0<=n5/\n5<(Ag bs)/\bs.a=some a6) (u1 λa7=>
AV T.a0 a7 (Int.toNat n5*7) λn8 n9 n10 n11 n12 n13 l14=>
Ar T.a0 λa15=>
Au T.a0 a15 (AW n8 n9 n10 n11 n12 n13 l14)<|
AE T.a14 a15 0 (Ac n2)<|
Bn T.a0 a15 λn16 n17 n18 n19 n20 n21 l22=>
Bt F.a104 [AW n16 n17 n18 n19 n20 n21 l22] λl23 n24=>
Ah n24 λn25=>
Aa (n25 != 0) (
Ah n25 λn26=>
Ab 0 [.slice none 0 0,.slice none 0 0,Ac n26])<|
Bn T.a0 a15 λn27 n28 n29 n30 n31 n32 l33=>
AP (Instr.buildSlice T.a38 1 #[(0,AW n27 n28 n29 n30 n31 n32 l33)]) λl34=>
AP (app T.a38 T.a38 T.a38 l3.v l34.v) λl35=>
AP (Instr.buildSlice T.a47 1 #[(0,l23.v)]) λl36=>
Ay F.a44 [l36.v] λl37=>
AP (Instr.buildSlice T.a47 1 #[(0,l37.v)]) λl38=>
AP (app T.a47 T.a47 T.a47 l4.v l38.v) λl39=>
Bn T.a0 a15 λn40 n41 n42 n43 n44 n45 l46=>
Ai F.a108 [AW n40 n41 n42 n43 n44 n45 l46] λn47=>
Ah n47 λn48=>
Ab 2 [Ac n48,l35.v,l39.v,Ac (AF (n5+1))]))<|
Ab 1 [l3.v,l4.v])) (u2 λl49 l50=>
Ab 0 [l49.v,l50.v,Ac 0])
theorem zo7 (l:Option Addr) (bs:Sl):FnS (z01o l bs) F.a134 #[.pointer l,.slice bs.a bs.len bs.cap]:=dV ⟨[],[(0,[(8,.one .slc),(9,.one .slc)])],[],[(0,[(7,.one (.int .i64)),(8,.one .slc),(9,.one .slc),(18,.one (.int .i64))])]⟩ Go.Proofs.Tryz.func274 (by kernel_rfl)
def z01l (l:Option Addr) (n:Int):Prog :=
B1 F.a132 [Ad l] λp0=>
AC<|
Ap (not (Option.isNone p0)=true) p0 λa2=>
Bz (not (Option.isNone p0)=true) T.a14 a2 3 λn3=>
Ap (not (Option.isNone p0)=true/\(n3 == 0)=false) p0 λa5=>
Bz (not (Option.isNone p0)=true/\(n3 == 0)=false) T.a13 a5 5 λn6=>
Ap (not (Option.isNone p0)=true/\(n3 == 0)=false) l λa8=>
Bz (not (Option.isNone p0)=true/\(n3 == 0)=false) T.a13 (Addr.add a8 2) 0 λn9=>
Ao (not (Option.isNone p0) && (n3 == 0 || decide (AF (n6+n)<=n9))) λb10=>
AG<|
Ab 0 [.bool b10]
theorem zo4 (l:Option Addr) (n:Int):FnS (z01l l n) F.a131 #[.pointer l,.int .i64 n]:=dV ⟨[],[],[],[]⟩ Go.Proofs.Tryz.func275 (by kernel_rfl)
def z07w (parts:Sl):Prog :=
AI 1 (
AJ 2 (0,(0,())) λn0 n1=>
Aa (decide (n1<(Ag parts))) (
.ex [.adr] (c1 λa2=>0<=n1/\n1<(Ag parts)/\parts.a=some a2) (u1 λa3=>
Ax T.a49 a3 (Int.toNat n1*1) λl4=>
Ah (AF (n0+(Ag l4))) λn5=>
Aa (decide (n5>262144)) (
Ab 0 [.slice none 0 0])<|
Ab 2 [Ac n5,Ac (AF (n1+1))]))<|
Ab 1 [Ac n0]) λn6=>
AP (Instr.makeSlice T.a49 (Ac 0) (Ac (AF (n6+8)))) λl7=>
Ay F.a46 [.int .u32 (IntKind.wrap .u32 n6)] λl8=>
AP (app T.a49 T.a49 T.a49 l7.v l8.v) λl9=>
AS 1 (
Bl 2 ({ a:=l9.a,len:=l9.len,cap:=l9.cap },(0,())) λl10 n11=>
Aa (decide (n11<(Ag parts))) (
.ex [.adr] (c1 λa12=>0<=n11/\n11<(Ag parts)/\parts.a=some a12) (u1 λa13=>
Ax T.a49 a13 (Int.toNat n11*1) λl14=>
AP (app T.a49 T.a49 T.a49 l10.v l14.v) λl15=>
Ab 2 [l15.v,Ac (AF (n11+1))]))<|
Ab 1 [l10.v]) λl16=>
AP (Instr.buildSlice T.a47 1 #[(0,l16.v)]) λl17=>
BA F.a45 [l17.v] λn18=>
Ay F.a46 [.int .u32 n18] λl19=>
AP (app T.a49 T.a49 T.a49 l16.v l19.v) λl20=>
Ab 0 [l20.v]
theorem zu4 (parts:Sl):FnS (z07w parts) F.a44 #[.slice parts.a parts.len parts.cap]:=dV ⟨[],[(0,[(3,.one (.int .i64))]),(2,[(6,.one .slc)])],[],[(0,[(3,.one (.int .i64)),(11,.one (.int .i64))]),(2,[(6,.one .slc),(32,.one (.int .i64))])]⟩ Go.Proofs.Tryz.func278 (by kernel_rfl)
def z02x (s:ByteArray):Prog :=
Ay F.a210 [.int .u64 (IntKind.wrap .u64 (((ByteArray.size s:Nat):Int)))] λl0=>
AP (app T.a49 T.a54 T.a49 l0.v (.string s)) λl1=>
Ab 0 [l1.v]
theorem zpg (s:ByteArray):FnS (z02x s) F.a209 #[.string s]:=dV ⟨[],[],[],[]⟩ Go.Proofs.Tryz.func279 (by kernel_rfl)
def z00v (b_0 b_1 b_2 b_3 b_4 b_5:Int) (b_6:Sl):Prog :=
Ae T.a0 (AW b_0 b_1 b_2 b_3 b_4 b_5 b_6) λa0=>
Bn T.a0 a0 λn1 n2 n3 n4 n5 n6 l7=>
Ai F.a110 [AW n1 n2 n3 n4 n5 n6 l7] λn8=>
Ah n8 λn9=>
Aa (n9 != 0) (
Ah n9 λn10=>
Ab 0 [.slice none 0 0,Ac n10])<|
AS 1 (
AC<|
By T.a13 a0 4 λn11=>
By T.a14 a0 0 λn12=>
By T.a14 a0 1 λn13=>
.both (
AP (Instr.buildSlice T.a49 2 #[(0,.int .u8 1),(1,.int .u8 (IntKind.wrap .u8 n11))]) λl14=>
Ay F.a210 [.int .u64 (IntKind.wrap .u64 n12)] λl15=>
Ay F.a210 [.int .u64 (IntKind.wrap .u64 n13)] λl16=>
AG<|
AP (Instr.buildSlice T.a47 3 #[(0,l14.v),(1,l15.v),(2,l16.v)]) λl17=>
Ay F.a198 [l17.v] λl18=>
AG<|
Ab 1 [l18.v]) <|
Ay F.a210 [.int .u64 (IntKind.wrap .u64 n12)] λl19=>
.both (
AP (Instr.buildSlice T.a49 2 #[(0,.int .u8 1),(1,.int .u8 (IntKind.wrap .u8 n11))]) λl20=>
Ay F.a210 [.int .u64 (IntKind.wrap .u64 n13)] λl21=>
AG<|
AP (Instr.buildSlice T.a47 3 #[(0,l20.v),(1,l19.v),(2,l21.v)]) λl22=>
Ay F.a198 [l22.v] λl23=>
AG<|
Ab 1 [l23.v]) <|
Ay F.a210 [.int .u64 (IntKind.wrap .u64 n13)] λl24=>
AP (Instr.buildSlice T.a49 2 #[(0,.int .u8 1),(1,.int .u8 (IntKind.wrap .u8 n11))]) λl25=>
AG<|
AP (Instr.buildSlice T.a47 3 #[(0,l25.v),(1,l19.v),(2,l24.v)]) λl26=>
Ay F.a198 [l26.v] λl27=>
AG<|
Ab 1 [l27.v]) λl28=>
AD T.a14 a0 1 λn29=>
AS 1 (
Aa (decide (n29>0)) (
AD T.a13 a0 2 λn30=>
Ay F.a210 [.int .u64 (IntKind.wrap .u64 n30)] λl31=>
AP (app T.a49 T.a49 T.a49 l28.v l31.v) λl32=>
Bn T.a0 a0 λn33 n34 n35 n36 n37 n38 l39=>
AM F.a113 [AW n33 n34 n35 n36 n37 n38 l39] λb40=>
AS 2 (
Aa (not b40) (
AD T.a13 a0 3 λn41=>
Ay F.a210 [.int .u64 (IntKind.wrap .u64 n41)] λl42=>
AP (app T.a49 T.a49 T.a49 l32.v l42.v) λl43=>
Ab 2 [l43.v])<|
Ab 2 [l32.v]) λl44=>
Ab 1 [l44.v])<|
Ab 1 [l28.v]) λl45=>
AD T.a14 a0 5 λn46=>
Ay F.a210 [.int .u64 (IntKind.wrap .u64 n46)] λl47=>
AP (app T.a49 T.a49 T.a49 l45.v l47.v) λl48=>
Bn T.a0 a0 λn49 n50 n51 n52 n53 n54 l55=>
AM F.a113 [AW n49 n50 n51 n52 n53 n54 l55] λb56=>
Aa b56 (
Ab 0 [l48.v,Ac 0])<|
Ax T.a39 a0 6 λl57=>
Ay F.a210 [.int .u64 (IntKind.wrap .u64 (Ag l57))] λl58=>
AP (app T.a49 T.a49 T.a49 l48.v l58.v) λl59=>
Ax T.a39 a0 6 λl60=>
AS 1 (
.loop 2 [.one .slc,.one .str,.one (.int .i64)] ({ a:=l59.a,len:=l59.len,cap:=l59.cap },((ByteArray.mk #[]),(0,()))) (u3 λl61 s62 (n63:Int)=>
Aa (decide (n63<(Ag l60))) (
.ex [.adr] (c1 λa64=>0<=n63/\n63<(Ag l60)/\l60.a=some a64) (u1 λa65=>
Bo T.a2 a65 (Int.toNat n63*4) λs66 s67 b68 n69=>
Ar T.a2 λa70=>
Au T.a2 a70 (Bp s66 s67 b68 n69)<|
AQ T.a54 a70 0 λs71=>
Ai F.a111 [.string s62,.string s71] λn72=>
Ah n72 λn73=>
AS 3 (
AC<|
AD T.a14 a70 3 λn74=>
AD T.a14 a0 5 λn75=>
.hold True (ld T.a3 (Addr.add a70 2)) sB (u1 λb76=>
.hold True (ld T.a54 (Addr.add a70 0)) sS (u1 λs77=>
.must (0<=n73/\n73<=((ByteArray.size s77:Nat):Int)) <|
Ay F.a197 [Ac (AF (n74-n75))] λl78=>
Ay F.a196 [.bool b76] λl79=>
Ay F.a210 [.int .u64 (IntKind.wrap .u64 n73)] λl80=>
AG<|
Ay F.a209 [.string (ByteArray.extract s77 (Int.toNat n73) (ByteArray.size s77))] λl81=>
AP (Instr.buildSlice T.a47 4 #[(0,l78.v),(1,l79.v),(2,l80.v),(3,l81.v)]) λl82=>
Ay F.a198 [l82.v] λl83=>
AP (app T.a49 T.a49 T.a49 l61.v l83.v) λl84=>
AG<|
Ab 3 [l84.v]))) λl85=>
AA T.a3 a70 2 λb86=>
AS 3 (
Aa (not b86) (
AQ T.a54 a70 1 λs87=>
Ay F.a209 [.string s87] λl88=>
AP (app T.a49 T.a49 T.a49 l85.v l88.v) λl89=>
Ab 3 [l89.v])<|
Ab 3 [l85.v]) λl90=>
AQ T.a54 a70 0 λs91=>
AR s91 λs92=>
Ab 2 [l90.v,.string s92,Ac (AF (n63+1))]))<|
Ab 1 [l61.v])) λl93=>
Ab 0 [l93.v,Ac 0]
theorem zne (b_0 b_1 b_2 b_3 b_4 b_5:Int) (b_6:Sl):FnS (z00v b_0 b_1 b_2 b_3 b_4 b_5 b_6) F.a104 #[.agg #[.int .i64 b_0,.int .i64 b_1,.int .i64 b_2,.int .i64 b_3,.int .i64 b_4,.int .i64 b_5,.slice b_6.a b_6.len b_6.cap]]:=dV ⟨[(567453553048813608,[(5,.one .slc)]),(576443160117510175,[(5,.one .slc)]),(40240300653644914121111346551586913,[(5,.one .slc)])],[(0,[(5,.one .slc)])],[(4,[(5,.one .slc)]),(18,[(5,.one .slc)])],[(0,[(5,.one .slc),(6,.one .str),(66,.one (.int .i64))])]⟩ Go.Proofs.Tryz.func280 (by kernel_rfl)
def z07z (b:Sl):Prog :=
AC<|
.ex [.adr] (c1 λa0=>(0:Int)<=0/\0<(Ag b)/\b.a=some a0) (u1 λa1=>
AY T.a57 a1 0 λn2=>
.ex [.adr] (c1 λa3=>(0:Int)<=1/\1<(Ag b)/\b.a=some a3) (u1 λa4=>
AY T.a57 a4 1 λn5=>
.ex [.adr] (c1 λa6=>(0:Int)<=2/\2<(Ag b)/\b.a=some a6) (u1 λa7=>
AY T.a57 a7 2 λn8=>
.ex [.adr] (c1 λa9=>(0:Int)<=3/\3<(Ag b)/\b.a=some a9) (u1 λa10=>
AY T.a57 a10 3 λn11=>
BB (IntKind.wrap .u32 (((BitVec.toNat (BitVec.ofInt 32 (IntKind.wrap .u32 (((BitVec.toNat (BitVec.ofInt 32 (IntKind.wrap .u32 (((BitVec.toNat (BitVec.ofInt 32 (IntKind.wrap .u32 n2) ||| BitVec.ofInt 32 (IntKind.wrap .u32 (IntKind.wrap .u32 n5*256))):Nat):Int))) ||| BitVec.ofInt 32 (IntKind.wrap .u32 (IntKind.wrap .u32 n8*65536))):Nat):Int))) ||| BitVec.ofInt 32 (IntKind.wrap .u32 (IntKind.wrap .u32 n11*16777216))):Nat):Int))) λn12=>
AG<|
Ab 0 [.int .u32 n12]))))
theorem zu7 (b:Sl):FnS (z07z b) F.a47 #[.slice b.a b.len b.cap]:=dV ⟨[],[],[],[]⟩ Go.Proofs.Tryz.func295 (by kernel_rfl)
def z07x (parts:Sl):Prog :=
BA F.a42 [.int .u32 0,parts.v] λn0=>
BB n0 λn1=>
Ab 0 [.int .u32 n1]
theorem zu5 (parts:Sl):FnS (z07x parts) F.a45 #[.slice parts.a parts.len parts.cap]:=dV ⟨[],[],[],[]⟩ Go.Proofs.Tryz.func296 (by kernel_rfl)
def z02o (r:Option Addr):Prog :=
AM F.a208 [Ad r] λb0=>
Aa (not b0) (
Ab 0 [Ac 0])<|
Aj r λa2=>
Ai F.a212 [An a2 0] λn3=>
Aa (n3 == 0) (
Aj r λa5=>
Am F.a211 [An a5 0,Ac 6]<|
Ab 0 [Ac 0])<|
Aj r λa7=>
Ay F.a213 [An a7 0,Ac 1] λl8=>
.ex [.adr] (c1 λa9=>(0:Int)<=0/\0<(Ag l8)/\l8.a=some a9) (u1 λa10=>
AY T.a57 a10 0 λn11=>
Ah (AF n11) λn12=>
Ab 0 [Ac n12])
theorem zp7 (r:Option Addr):FnS (z02o r) F.a200 #[.pointer r]:=dV ⟨[],[],[],[]⟩ Go.Proofs.Tryz.func297 (by kernel_rfl)
def z084 (gap:Int):Prog :=
Aa (decide (gap<1) || decide (gap>4194304)) (
Ab 0 [Ad none,Ac 2])<|
Ae T.a11 (.agg #[Ac (-1),Ac (-1),Ac (-1),Ac gap,.slice none 0 0]) λa0=>
Ab 0 [Af a0,Ac 0]
theorem zuc (gap:Int):FnS (z084 gap) F.a52 #[.int .i64 gap]:=dV ⟨[],[],[],[]⟩ Go.Proofs.Tryz.func298 (by kernel_rfl)
def z019 (r:Option Addr) (most:Int):Prog :=
Bj F.a206 [Ad r] λn0=>
AU n0 λn1=>
Aa (decide (n1>IntKind.wrap .u64 most)) (
Ah (AF (most+1)) λn2=>
Ab 0 [Ac n2])<|
Ah (AF n1) λn3=>
Ab 0 [Ac n3]
theorem zns (r:Option Addr) (most:Int):FnS (z019 r most) F.a118 #[.pointer r,.int .i64 most]:=dV ⟨[],[],[],[]⟩ Go.Proofs.Tryz.func299 (by kernel_rfl)
def z017 (r:Option Addr) (time:Int) (ahead:ByteArray):Prog :=
Ar T.a2 λa0=>
Ai F.a207 [Ad r,Ac (-1099511627776),Ac 1099511627776] λn1=>
Ah n1 λn2=>
AM F.a203 [Ad r] λb3=>
Ar T.a2 λa4=>
Au T.a2 a4 (.agg #[.string (ByteArray.mk #[]),.string (ByteArray.mk #[]),.bool b3,Ac (AF (time+n2))])<|
Ai F.a118 [Ad r,Ac 1024] λn5=>
Ah n5 λn6=>
Bu F.a205 [Ad r,Ac 1024] λs7=>
AR s7 λs8=>
Aa (decide (n6>((ByteArray.size ahead:Nat):Int))) (
Bq T.a2 a4 λs9 s10 b11 n12=>
Au T.a2 a0 (Bp s9 s10 b11 n12)<|
Bq T.a2 a0 λs13 s14 b15 n16=>
Ab 0 [Bp s13 s14 b15 n16,.bool false])<|
.must (0<=n6/\n6<=((ByteArray.size ahead:Nat):Int)) <|
.must (((ByteArray.size (ByteArray.extract ahead 0 (Int.toNat n6))+ByteArray.size s8:Nat):Int)<=9223372036854775807) <|
AE T.a54 a4 0 (.string (ByteArray.extract ahead 0 (Int.toNat n6)++s8))<|
AA T.a3 a4 2 λb17=>
AB 1 (
Aa (not b17) (
Bu F.a205 [Ad r,Ac 1024] λs18=>
AE T.a54 a4 1 (.string s18)<|
Ab 1 [])<|
Ab 1 [])<|
Bc 1 (
AC<|
.hold True (ld T.a2 a4) (sG [.str,.str,.bool,.int .i64]) (u4 λs19 s20 b21 (n22:Int)=>
Ai F.a202 [Ad r] λn23=>
Bh ((n23 == 0)=true) T.a54 a4 0 λs24=>
Aa (n23 == 0) (
Ai F.a111 [.string ahead,.string s24] λn25=>
AG<|
Au T.a2 a0 (Bp s19 s20 b21 n22)<|
Ao (n25 == n6) λb26=>
AG<|
Ab 1 [.bool b26])<|
AG<|
Au T.a2 a0 (Bp s19 s20 b21 n22)<|
AG<|
Ab 1 [.bool false])) λb27=>
Bq T.a2 a0 λs28 s29 b30 n31=>
Ab 0 [Bp s28 s29 b30 n31,.bool b27]
theorem znq (r:Option Addr) (time:Int) (ahead:ByteArray):FnS (z017 r time ahead) F.a116 #[.pointer r,.int .i64 time,.string ahead]:=dV ⟨[(7881299347898405,[])],[],[(10,[(7,.one .bool)])],[]⟩ Go.Proofs.Tryz.func300 (by kernel_rfl)
def z01x (b_0 b_1 b_2 b_3 b_4 b_5:Int) (b_6:Sl):Prog :=
Ae T.a0 (AW b_0 b_1 b_2 b_3 b_4 b_5 b_6) λa0=>
Ax T.a39 a0 6 λl1=>
AI 1 (
AJ 2 (-1,(0,())) λn2 n3=>
Aa (decide (n3<(Ag l1))) (
.ex [.adr] (c1 λa4=>0<=n3/\n3<(Ag l1)/\l1.a=some a4) (u1 λa5=>
Bo T.a2 a5 (Int.toNat n3*4) λs6 s7 b8 n9=>
Ar T.a2 λa10=>
Au T.a2 a10 (Bp s6 s7 b8 n9)<|
AD T.a14 a10 3 λn11=>
Ah (if n11>n2 then n11 else n2) λn12=>
Ab 2 [Ac n12,Ac (AF (n3+1))]))<|
Ab 1 [Ac n2]) λn13=>
Ax T.a39 a0 6 λl14=>
AI 1 (
Aa ((Ag l14) == 0) (
AD T.a14 a0 5 λn15=>
Ah n15 λn16=>
Ab 1 [Ac n16])<|
Ab 1 [Ac n13]) λn17=>
Ah n17 λn18=>
Ab 0 [Ac n18]
theorem zog (b_0 b_1 b_2 b_3 b_4 b_5:Int) (b_6:Sl):FnS (z01x b_0 b_1 b_2 b_3 b_4 b_5 b_6) F.a143 #[.agg #[.int .i64 b_0,.int .i64 b_1,.int .i64 b_2,.int .i64 b_3,.int .i64 b_4,.int .i64 b_5,.slice b_6.a b_6.len b_6.cap]]:=dV ⟨[(51539640341,[(3,.one (.int .i64))])],[(0,[(3,.one (.int .i64))])],[],[(0,[(3,.one (.int .i64)),(9,.one (.int .i64))])]⟩ Go.Proofs.Tryz.func301 (by kernel_rfl)
def z082 (x:Option Addr) (offset place:Int) (time:Int):Prog :=
Az (Option.isNone x) (
Ab 0 [Ac 1])<|
AM F.a53 [Ac offset,Ac place,Ac time] λb1=>
Az (not b1) (
Ab 0 [Ac 2])<|
Aj x λa4=>
AD T.a14 (Addr.add a4 0) 0 λn5=>
Ap (decide (offset<=n5)=false) x λa7=>
Bz (decide (offset<=n5)=false) T.a13 (Addr.add a7 0) 1 λn8=>
Az (decide (offset<=n5) || decide (place<=n8)) (
Ab 0 [Ac 21])<|
Aj x λa11=>
Ax T.a40 a11 4 λl12=>
Ah (Ag l12) λn13=>
AC<|
Ap ((n13 == 0)=false) x λa15=>
AX ((n13 == 0)=false) T.a40 a15 4 λl16=>
.ex [.adr] (c1 λa17=>(n13 == 0)=false->0<=AF (n13-1)/\AF (n13-1)<(Ag l16)/\l16.a=some a17) (u1 λa18=>
Bz ((n13 == 0)=false) T.a13 (Addr.add a18 (Int.toNat (AF (n13-1))*3)) 1 λn19=>
Ap ((n13 == 0)=false) x λa21=>
Bz ((n13 == 0)=false) T.a13 a21 3 λn22=>
AG<|
AB 1 (
Aa (n13 == 0 || decide (AF (place-n19)>=n22)) (
AS 2 (
AC<|
Aj x λa24=>
.hold True (ld T.a40 (Addr.add a24 4)) sL (u1 λl25=>
Aj x λa27=>
AD T.a14 (Addr.add a27 0) 2 λn28=>
AP (Instr.buildSlice T.a40 1 #[(0,B8 offset place n28)]) λl29=>
AG<|
AP (app T.a40 T.a40 T.a40 l25.v l29.v) λl30=>
AG<|
Ab 2 [l30.v])) λl31=>
Aj x λa33=>
AE T.a40 a33 4 l31.v<|
Ab 1 [])<|
Ab 1 [])<|
Aj x λa35=>
AD T.a14 (Addr.add a35 0) 2 λn36=>
Aj x λa38=>
AE T.a12 a38 0 (.agg #[Ac offset,Ac place,Ac (if time>n36 then time else n36)])<|
Ab 0 [Ac 0])
theorem zua (x:Option Addr) (offset place time:Int):FnS (z082 x offset place time) F.a50 #[.pointer x,.int .i64 offset,.int .i64 place,.int .i64 time]:=dV ⟨[(4951741267675589621019836477,[])],[],[(9,[(10,.one .slc)])],[]⟩ Go.Proofs.Tryz.func302 (by kernel_rfl)
def z02s (r:Option Addr):Prog :=
Bj F.a206 [Ad r] λn0=>
AU n0 λn1=>
Ah (AF (((BitVec.toNat (BitVec.ofInt 64 (AF (Int.fdiv n1 2)) ^^^ BitVec.ofInt 64 (AF (0-AF (IntKind.wrap .u64 (((BitVec.toNat (BitVec.ofInt 64 n1 &&& BitVec.ofInt 64 1):Nat):Int)))))):Nat):Int))) λn2=>
Ab 0 [Ac n2]
theorem zpb (r:Option Addr):FnS (z02s r) F.a204 #[.pointer r]:=dV ⟨[],[],[],[]⟩ Go.Proofs.Tryz.func303 (by kernel_rfl)
def z083 (x:Option Addr) (i:Int):Prog :=
Ar T.a10 λa0=>
Aa (decide (i<0)) (
Au T.a10 a0 (B8 0 0 0)<|
BD T.a10 a0 λn1 n2 n3=>
Ab 0 [B8 n1 n2 n3,.bool false])<|
Aj x λa5=>
Ax T.a40 a5 4 λl6=>
.ex [.adr] (c1 λa7=>0<=i/\i<(Ag l6)/\l6.a=some a7) (u1 λa8=>
.read True (ld T.a10 (Addr.add a8 (Int.toNat i*3))) (sG [.int .i64,.int .i64,.int .i64]) (u3 λ(n9 n10 n11:Int)=>
Au T.a10 a0 (B8 n9 n10 n11)<|
BD T.a10 a0 λn12 n13 n14=>
Ab 0 [B8 n12 n13 n14,.bool true]))
theorem zub (x:Option Addr) (i:Int):FnS (z083 x i) F.a51 #[.pointer x,.int .i64 i]:=dV ⟨[],[],[],[]⟩ Go.Proofs.Tryz.func310 (by kernel_rfl)
def z081 (i:Int) (fv0:Option Addr) (fv1:Option Addr):Prog :=
AC<|
B5 T.a30 fv0 λp0=>
Aj p0 λa2=>
Ax T.a40 a2 4 λl3=>
.ex [.adr] (c1 λa4=>0<=i/\i<(Ag l3)/\l3.a=some a4) (u1 λa5=>
AD T.a14 (Addr.add a5 (Int.toNat i*3)) 0 λn6=>
B6 T.a14 fv1 λn7=>
Ao (decide (n6>n7)) λb8=>
AG<|
Ab 0 [.bool b8])
theorem zu9 (i:Int) (fv0 fv1:Option Addr):FnS (z081 i fv0 fv1) F.a49 #[.int .i64 i,.pointer fv0,.pointer fv1]:=dV ⟨[],[],[],[]⟩ Go.Proofs.Tryz.func311 (by kernel_rfl)
def z01a (n lo:Int) (hi:Int):Prog :=
Ao (decide (n>=lo) && decide (n<=hi)) λb0=>
Ab 0 [.bool b0]
theorem znt (n lo hi:Int):FnS (z01a n lo hi) F.a119 #[.int .i64 n,.int .i64 lo,.int .i64 hi]:=dV ⟨[],[],[],[]⟩ Go.Proofs.Tryz.func314 (by kernel_rfl)
def z02l (n:Int):Prog :=
Ay F.a210 [.int .u64 (IntKind.wrap .u64 (((BitVec.toNat (BitVec.ofInt 64 (IntKind.wrap .u64 (IntKind.wrap .u64 n*2)) ^^^ BitVec.ofInt 64 (IntKind.wrap .u64 (Int.fdiv n 9223372036854775808))):Nat):Int)))] λl0=>
Ab 0 [l0.v]
theorem zp4 (n:Int):FnS (z02l n) F.a197 #[.int .i64 n]:=dV ⟨[],[],[],[]⟩ Go.Proofs.Tryz.func317 (by kernel_rfl)
def z07y (n:Int):Prog :=
AP (Instr.buildSlice T.a49 4 #[(0,.int .u8 (IntKind.wrap .u8 n)),(1,.int .u8 (IntKind.wrap .u8 (Int.fdiv n 256))),(2,.int .u8 (IntKind.wrap .u8 (Int.fdiv n 65536))),(3,.int .u8 (IntKind.wrap .u8 (Int.fdiv n 16777216)))]) λl0=>
Ab 0 [l0.v]
theorem zu6 (n:Int):FnS (z07y n) F.a46 #[.int .u32 n]:=dV ⟨[],[],[],[]⟩ Go.Proofs.Tryz.func319 (by kernel_rfl)
def z012 (a:ByteArray) (b:ByteArray):Prog :=
Ah (if ((ByteArray.size b:Nat):Int)<((ByteArray.size a:Nat):Int) then ((ByteArray.size b:Nat):Int) else ((ByteArray.size a:Nat):Int)) λn0=>
AB 1 (
AO 2 (0,()) λn1=>
Aa (decide (n1<n0)) (
Ah n1 λn2=>
AC<|
.must (0<=n2/\n2<((ByteArray.size a:Nat):Int)) <|
.must (0<=n2/\n2<((ByteArray.size b:Nat):Int)) <|
AG<|
Aa (bt a n2 != bt b n2) (
Ah n2 λn3=>
Ab 0 [Ac n3])<|
Ab 2 [Ac (AF (n1+1))])<|
Ab 1 [])<|
Ah n0 λn4=>
Ab 0 [Ac n4]
theorem znl (a b:ByteArray):FnS (z012 a b) F.a111 #[.string a,.string b]:=dV ⟨[],[(0,[])],[],[(0,[(13,.one (.int .i64))])]⟩ Go.Proofs.Tryz.func320 (by kernel_rfl)
def z07u (sum:Int) (parts:Sl):Prog :=
BB (IntKind.wrap .u32 (((BitVec.toNat (BitVec.ofInt 32 4294967295 ^^^ BitVec.ofInt 32 sum):Nat):Int))) λn0=>
BE 1 (
BF 2 (n0,(0,())) λn1 n2=>
Aa (decide (n2<(Ag parts))) (
BE 3 (
.ex [.adr] (c1 λa3=>0<=n2/\n2<(Ag parts)/\parts.a=some a3) (u1 λa4=>
Ax T.a49 a4 (Int.toNat n2*1) λl5=>
BE 4 (
BF 5 (n1,(0,())) λn6 n7=>
Aa (decide (n7<(Ag l5))) (
BE 6 (
.ex [.adr] (c1 λa8=>0<=n7/\n7<(Ag l5)/\l5.a=some a8) (u1 λa9=>
AY T.a57 a9 (Int.toNat n7*1) λn10=>
AZ n10 λn11=>
BB (IntKind.wrap .u32 (((BitVec.toNat (BitVec.ofInt 32 n6 ^^^ BitVec.ofInt 32 (IntKind.wrap .u32 n11)):Nat):Int))) λn12=>
BE 7 (
BF 8 (n12,(0,())) λn13 n14=>
Aa (decide (n14<8)) (
BB (IntKind.wrap .u32 (((BitVec.toNat (BitVec.ofInt 32 (Int.fdiv n13 2) ^^^ BitVec.ofInt 32 (IntKind.wrap .u32 (((BitVec.toNat (BitVec.ofInt 32 3988292384 &&& BitVec.ofInt 32 (IntKind.wrap .u32 (0-IntKind.wrap .u32 (((BitVec.toNat (BitVec.ofInt 32 n13 &&& BitVec.ofInt 32 1):Nat):Int))))):Nat):Int)))):Nat):Int))) λn15=>
Ab 8 [.int .u32 n15,Ac (AF (n14+1))])<|
Ab 7 [.int .u32 n13]) λn16=>
Ab 6 [.int .u32 n16])) λn17=>
Ab 5 [.int .u32 n17,Ac (AF (n7+1))])<|
Ab 4 [.int .u32 n6]) λn18=>
Ab 3 [.int .u32 n18])) λn19=>
Ab 2 [.int .u32 n19,Ac (AF (n2+1))])<|
Ab 1 [.int .u32 n1]) λn20=>
BB (IntKind.wrap .u32 (((BitVec.toNat (BitVec.ofInt 32 4294967295 ^^^ BitVec.ofInt 32 n20):Nat):Int))) λn21=>
Ab 0 [.int .u32 n21]
theorem zu2 (sum:Int) (parts:Sl):FnS (z07u sum parts) F.a42 #[.int .u32 sum,.slice parts.a parts.len parts.cap]:=dV ⟨[],[(0,[(5,.one (.int .u32))]),(1,[(5,.one (.int .u32))]),(2,[(5,.one (.int .u32))]),(3,[(5,.one (.int .u32))]),(4,[(5,.one (.int .u32))])],[],[(0,[(5,.one (.int .u32)),(14,.one (.int .i64))]),(2,[(5,.one (.int .u32)),(20,.one (.int .i64))]),(4,[(5,.one (.int .u32)),(28,.one (.int .i64))])]⟩ Go.Proofs.Tryz.func327 (by kernel_rfl)
def z085 (offset place:Int) (time:Int):Prog :=
Ao (decide (offset>=0) && decide (offset<=1099511627776) && decide (place>=0) && decide (place<=4194304) && decide (time>=0) && decide (time<=1099511627776)) λb0=>
Ab 0 [.bool b0]
theorem zud (offset place time:Int):FnS (z085 offset place time) F.a53 #[.int .i64 offset,.int .i64 place,.int .i64 time]:=dV ⟨[],[],[],[]⟩ Go.Proofs.Tryz.func328 (by kernel_rfl)
instance:One P T.a14:=⟨by kernel_rfl,by kernel_rfl⟩
instance:One P T.a13:=⟨by kernel_rfl,by kernel_rfl⟩
instance:One P T.a3:=⟨by kernel_rfl,by kernel_rfl⟩
instance:One P T.a57:=⟨by kernel_rfl,by kernel_rfl⟩
instance:One P T.a54:=⟨by kernel_rfl,by kernel_rfl⟩
instance:Agg P T.a50 2:=⟨by kernel_rfl,by kernel_rfl⟩
instance:Agg P T.a35 3:=⟨by kernel_rfl,by kernel_rfl⟩
instance:One P T.a28:=⟨by kernel_rfl,by kernel_rfl⟩
instance:One P T.a1:=⟨by kernel_rfl,by kernel_rfl⟩
instance:One P T.a39:=⟨by kernel_rfl,by kernel_rfl⟩
instance:Agg P T.a56 4:=⟨by kernel_rfl,by kernel_rfl⟩
instance:Agg P T.a2 4:=⟨by kernel_rfl,by kernel_rfl⟩
instance:Agg P T.a23 4:=⟨by kernel_rfl,by kernel_rfl⟩
instance:One P T.a43:=⟨by kernel_rfl,by kernel_rfl⟩
instance:One P T.a38:=⟨by kernel_rfl,by kernel_rfl⟩
instance:Agg P T.a0 7:=⟨by kernel_rfl,by kernel_rfl⟩
instance:One P T.a46:=⟨by kernel_rfl,by kernel_rfl⟩
instance:One P T.a48:=⟨by kernel_rfl,by kernel_rfl⟩
instance:One P T.a49:=⟨by kernel_rfl,by kernel_rfl⟩
instance:Agg P T.a37 5:=⟨by kernel_rfl,by kernel_rfl⟩
instance:One P T.a44:=⟨by kernel_rfl,by kernel_rfl⟩
instance:One P T.a22:=⟨by kernel_rfl,by kernel_rfl⟩
instance:Agg P T.a8 5:=⟨by kernel_rfl,by kernel_rfl⟩
instance:One P T.a32:=⟨by kernel_rfl,by kernel_rfl⟩
instance:One P T.a26:=⟨by kernel_rfl,by kernel_rfl⟩
instance:Agg P T.a55 3:=⟨by kernel_rfl,by kernel_rfl⟩
instance:Agg P T.a25 6:=⟨by kernel_rfl,by kernel_rfl⟩
instance:Agg P T.a24 3:=⟨by kernel_rfl,by kernel_rfl⟩
instance:One P T.a41:=⟨by kernel_rfl,by kernel_rfl⟩
instance:One P T.a33:=⟨by kernel_rfl,by kernel_rfl⟩
instance:One P T.a27:=⟨by kernel_rfl,by kernel_rfl⟩
instance:One P T.a31:=⟨by kernel_rfl,by kernel_rfl⟩
instance:Agg P T.a36 6:=⟨by kernel_rfl,by kernel_rfl⟩
instance:Agg P T.a4 2:=⟨by kernel_rfl,by kernel_rfl⟩
instance:One P T.a47:=⟨by kernel_rfl,by kernel_rfl⟩
instance:Agg P T.a59 3:=⟨by kernel_rfl,by kernel_rfl⟩
instance:One P T.a45:=⟨by kernel_rfl,by kernel_rfl⟩
instance:Agg P T.a51 5:=⟨by kernel_rfl,by kernel_rfl⟩
instance:Agg P T.a9 2:=⟨by kernel_rfl,by kernel_rfl⟩
instance:One P T.a29:=⟨by kernel_rfl,by kernel_rfl⟩
instance:One P T.a30:=⟨by kernel_rfl,by kernel_rfl⟩
instance:Agg P T.a52 6:=⟨by kernel_rfl,by kernel_rfl⟩
instance:One P T.a34:=⟨by kernel_rfl,by kernel_rfl⟩
instance:One P T.a42:=⟨by kernel_rfl,by kernel_rfl⟩
instance:Agg P T.a17 2:=⟨by kernel_rfl,by kernel_rfl⟩
instance:Agg P T.a18 4:=⟨by kernel_rfl,by kernel_rfl⟩
instance:One P T.a20:=⟨by kernel_rfl,by kernel_rfl⟩
instance:One P T.a21:=⟨by kernel_rfl,by kernel_rfl⟩
instance:Agg P T.a16 3:=⟨by kernel_rfl,by kernel_rfl⟩
instance:Agg P T.a7 2:=⟨by kernel_rfl,by kernel_rfl⟩
instance:One P T.a19:=⟨by kernel_rfl,by kernel_rfl⟩
instance:Agg P T.a6 3:=⟨by kernel_rfl,by kernel_rfl⟩
instance:Agg P T.a5 7:=⟨by kernel_rfl,by kernel_rfl⟩
instance:Agg P T.a10 3:=⟨by kernel_rfl,by kernel_rfl⟩
instance:Agg P T.a15 4:=⟨by kernel_rfl,by kernel_rfl⟩
instance:One P T.a53:=⟨by kernel_rfl,by kernel_rfl⟩
instance:Agg P T.a12 3:=⟨by kernel_rfl,by kernel_rfl⟩
instance:One P T.a40:=⟨by kernel_rfl,by kernel_rfl⟩
instance:Agg P T.a11 5:=⟨by kernel_rfl,by kernel_rfl⟩
instance:Zer P T.a14 (.int .i64 0):=⟨by kernel_rfl⟩
instance:Zer P T.a13 (.int .i64 0):=⟨by kernel_rfl⟩
instance:Zer P T.a3 (.bool false):=⟨by kernel_rfl⟩
instance:Zer P T.a57 (.int .u8 0):=⟨by kernel_rfl⟩
instance:Zer P T.a54 (.string ⟨#[]⟩):=⟨by kernel_rfl⟩
instance:Zer P T.a50 (.agg #[.int .i64 0,.int .i64 0]):=⟨by kernel_rfl⟩
instance:Zer P T.a35 (.agg #[.int .i64 0,.int .i64 0,.int .i64 0]):=⟨by kernel_rfl⟩
instance:Zer P T.a28 (.pointer none):=⟨by kernel_rfl⟩
instance:Zer P T.a1 (.int .i64 0):=⟨by kernel_rfl⟩
instance:Zer P T.a39 (.slice none 0 0):=⟨by kernel_rfl⟩
instance:Zer P T.a56 (.agg #[.int .i64 0,.int .i64 0,.int .i64 0,.int .i64 0]):=⟨by kernel_rfl⟩
instance:Zer P T.a2 (.agg #[.string ⟨#[]⟩,.string ⟨#[]⟩,.bool false,.int .i64 0]):=⟨by kernel_rfl⟩
instance:Zer P T.a23 (.agg #[.int .i64 0,.int .i64 0,.int .i64 0,.int .i64 0]):=⟨by kernel_rfl⟩
instance:Zer P T.a43 (.slice none 0 0):=⟨by kernel_rfl⟩
instance:Zer P T.a38 (.slice none 0 0):=⟨by kernel_rfl⟩
instance:Zer P T.a0 (.agg #[.int .i64 0,.int .i64 0,.int .i64 0,.int .i64 0,.int .i64 0,.int .i64 0,.slice none 0 0]):=⟨by kernel_rfl⟩
instance:Zer P T.a46 (.slice none 0 0):=⟨by kernel_rfl⟩
instance:Zer P T.a48 (.slice none 0 0):=⟨by kernel_rfl⟩
instance:Zer P T.a49 (.slice none 0 0):=⟨by kernel_rfl⟩
instance:Zer P T.a37 (.agg #[.int .i64 0,.string ⟨#[]⟩,.string ⟨#[]⟩,.bool false,.int .i64 0]):=⟨by kernel_rfl⟩
instance:Zer P T.a44 (.slice none 0 0):=⟨by kernel_rfl⟩
instance:Zer P T.a22 (.map none):=⟨by kernel_rfl⟩
instance:Zer P T.a8 (.agg #[.int .i64 0,.bool false,.int .i64 0,.int .i64 0,.map none]):=⟨by kernel_rfl⟩
instance:Zer P T.a32 (.pointer none):=⟨by kernel_rfl⟩
instance:Zer P T.a26 (.pointer none):=⟨by kernel_rfl⟩
instance:Zer P T.a55 (.agg #[.slice none 0 0,.int .i64 0,.int .i64 0]):=⟨by kernel_rfl⟩
instance:Zer P T.a25 (.agg #[.int .i64 0,.int .i64 0,.int .i64 0,.int .i64 0,.int .i64 0,.int .i64 0]):=⟨by kernel_rfl⟩
instance:Zer P T.a24 (.agg #[.pointer none,.int .i64 0,.pointer none]):=⟨by kernel_rfl⟩
instance:Zer P T.a41 (.slice none 0 0):=⟨by kernel_rfl⟩
instance:Zer P T.a33 (.pointer none):=⟨by kernel_rfl⟩
instance:Zer P T.a27 (.pointer none):=⟨by kernel_rfl⟩
instance:Zer P T.a31 (.pointer none):=⟨by kernel_rfl⟩
instance:Zer P T.a36 (.agg #[.pointer none,.pointer none,.string ⟨#[]⟩,.int .i64 0,.pointer none,.pointer none]):=⟨by kernel_rfl⟩
instance:Zer P T.a4 (.agg #[.int .i64 0,.slice none 0 0]):=⟨by kernel_rfl⟩
instance:Zer P T.a47 (.slice none 0 0):=⟨by kernel_rfl⟩
instance:Zer P T.a59 (.agg #[.slice none 0 0,.int .i64 0,.int .i64 0]):=⟨by kernel_rfl⟩
instance:Zer P T.a45 (.slice none 0 0):=⟨by kernel_rfl⟩
instance:Zer P T.a51 (.agg #[.pointer none,.string ⟨#[]⟩,.int .i64 0,.int .i64 0,.slice none 0 0]):=⟨by kernel_rfl⟩
instance:Zer P T.a9 (.agg #[.slice none 0 0,.int .i64 0]):=⟨by kernel_rfl⟩
instance:Zer P T.a29 (.pointer none):=⟨by kernel_rfl⟩
instance:Zer P T.a30 (.pointer none):=⟨by kernel_rfl⟩
instance:Zer P T.a52 (.agg #[.pointer none,.int .i64 0,.int .i64 0,.int .i64 0,.int .i64 0,.int .i64 0]):=⟨by kernel_rfl⟩
instance:Zer P T.a34 (.pointer none):=⟨by kernel_rfl⟩
instance:Zer P T.a42 (.slice none 0 0):=⟨by kernel_rfl⟩
instance:Zer P T.a17 (.agg #[.int .i64 0,.int .i64 0]):=⟨by kernel_rfl⟩
instance:Zer P T.a18 (.agg #[.int .i64 0,.int .i64 0,.int .i64 0,.int .i64 0]):=⟨by kernel_rfl⟩
instance:Zer P T.a20 (.map none):=⟨by kernel_rfl⟩
instance:Zer P T.a21 (.map none):=⟨by kernel_rfl⟩
instance:Zer P T.a16 (.agg #[.int .i64 0,.map none,.map none]):=⟨by kernel_rfl⟩
instance:Zer P T.a7 (.agg #[.bool false,.int .i64 0]):=⟨by kernel_rfl⟩
instance:Zer P T.a19 (.map none):=⟨by kernel_rfl⟩
instance:Zer P T.a6 (.agg #[.int .i64 0,.int .i64 0,.map none]):=⟨by kernel_rfl⟩
instance:Zer P T.a5 (.agg #[.int .i64 0,.int .i64 0,.int .i64 0,.int .i64 0,.int .i64 0,.int .i64 0,.int .i64 0]):=⟨by kernel_rfl⟩
instance:Zer P T.a10 (.agg #[.int .i64 0,.int .i64 0,.int .i64 0]):=⟨by kernel_rfl⟩
instance:Zer P T.a15 (.agg #[.int .i64 0,.int .i64 0,.int .i64 0,.int .i64 0]):=⟨by kernel_rfl⟩
instance:Zer P T.a53 (.int .u64 0):=⟨by kernel_rfl⟩
instance:Zer P T.a12 (.agg #[.int .i64 0,.int .i64 0,.int .i64 0]):=⟨by kernel_rfl⟩
instance:Zer P T.a40 (.slice none 0 0):=⟨by kernel_rfl⟩
instance:Zer P T.a11 (.agg #[.int .i64 0,.int .i64 0,.int .i64 0,.int .i64 0,.slice none 0 0]):=⟨by kernel_rfl⟩
instance:SlT P T.a39 T.a2 4 48:=⟨by kernel_rfl,by kernel_rfl⟩
instance:SlT P T.a43 T.a23 4 32:=⟨by kernel_rfl,by kernel_rfl⟩
instance:SlT P T.a38 T.a0 7 72:=⟨by kernel_rfl,by kernel_rfl⟩
instance:SlT P T.a46 T.a37 5 56:=⟨by kernel_rfl,by kernel_rfl⟩
instance:SlT P T.a48 T.a54 1 16:=⟨by kernel_rfl,by kernel_rfl⟩
instance:SlT P T.a49 T.a57 1 1:=⟨by kernel_rfl,by kernel_rfl⟩
instance:SlT P T.a44 T.a25 6 48:=⟨by kernel_rfl,by kernel_rfl⟩
instance:SlT P T.a41 T.a14 1 8:=⟨by kernel_rfl,by kernel_rfl⟩
instance:SlT P T.a47 T.a49 1 24:=⟨by kernel_rfl,by kernel_rfl⟩
instance:SlT P T.a45 T.a34 1 8:=⟨by kernel_rfl,by kernel_rfl⟩
instance:SlT P T.a42 T.a15 4 32:=⟨by kernel_rfl,by kernel_rfl⟩
instance:SlT P T.a40 T.a10 3 24:=⟨by kernel_rfl,by kernel_rfl⟩
structure RecM where
 key:ByteArray
 value:ByteArray
 gone:Bool
 time:Int
def z00 (r:RecM):List Value:=[.string r.key,.string r.value,.bool r.gone,.int .i64 r.time]
instance:EncA z00 [.str,.str,.bool,.int .i64] (λr=>(r.key,r.value,r.gone,r.time,())):=⟨λ_=>rfl⟩
instance:EncN z00 4:=⟨λ_=>rfl,by decide,by simp [z00,Value.oneCell']⟩
structure BatM where
 base:Int
 pid:Int
 epoch:Int
 seq:Int
 kind:Int
 time:Int
 x:Sl
 rs:List RecM
def zr (b:BatM):List Value:=[.int .i64 b.base,.int .i64 b.pid,.int .i64 b.epoch,.int .i64 b.seq,.int .i64 b.kind,.int .i64 b.time,.slice b.x.a b.x.len b.x.cap]
instance:EncA zr [.int .i64,.int .i64,.int .i64,.int .i64,.int .i64,.int .i64,.slc] (λb=>(b.base,b.pid,b.epoch,b.seq,b.kind,b.time,b.x,())):=⟨λ_=>rfl⟩
instance:EncN zr 7:=⟨λ_=>rfl,by decide,by simp [zr,Value.oneCell']⟩
def z0h (b:BatM):Bool:=decide (b.kind=2) || decide (b.kind=3)
def z6m (b:BatM):Prop:=(0<=b.kind/\b.kind<=3)/\(0<=b.base/\b.base<=1099511627776)/\(0<=b.pid/\b.pid<=1048576)/\(0<=b.epoch/\b.epoch<=32767)/\(0<=b.seq/\b.seq<=2147483647)/\(0<=b.time/\b.time<=1099511627776)
instance (b:BatM):Decidable (z6m b):=by unfold z6m;infer_instance
def z5d (b:BatM):Prop:=¬ (b.pid=0/\(b.kind≠0\/b.epoch≠0\/b.seq≠0))/\if z0h b then b.seq=0/\b.rs.length=0 else 0<b.rs.length
instance (b:BatM):Decidable (z5d b):=by unfold z5d;infer_instance
def z1z (r:RecM):Int:=if r.key.size>1024\/r.value.size>1024 then 7 else if ¬ (0<=r.time/\r.time<=1099511627776)\/(r.gone=true/\r.value.size>0) then 2 else 0
def z5x:List RecM->Int
 | []=>0
 | r::rs=>if z1z r≠0 then z1z r else z5x rs
def zq (b:BatM):Int:=if z0h b then 1 else (b.rs.length:Nat)
def z04 (b:BatM):Int:=if ¬ z6m b\/¬ z5d b then 2 else if b.rs.length>64 then 7 else if z5x b.rs≠0 then z5x b.rs else
 if b.base>1099511627776-(zq b-1)\/(b.pid>0/\z0h b=false/\b.seq>2147483647-(zq b-1)) then 24 else 0
def z1p (b:BatM):Int:=if z04 b≠0 then 0 else b.base+zq b
theorem zid:∀ (rs:List RecM) (i:Nat) (hi:i<rs.length),z5x (rs.take i)=0->z1z rs[i]≠0->z5x rs=z1z rs[i]
 | r::rs,0,_,_,h=>by
  have h:z1z r≠0:=h
  show (if z1z r≠0 then z1z r else z5x rs)=z1z r
  rw [if_pos h]
 | r::rs,i+1,hi,h1,h2=>by
  have h1:(if z1z r≠0 then z1z r else z5x (rs.take i))=0:=h1
  by_cases h:z1z r≠0
  ·rw [if_pos h] at h1;exact absurd h1 h
  ·rw [if_neg h] at h1
   show (if z1z r≠0 then z1z r else z5x rs)=_
   rw [if_neg h]
   exact zid rs i (by simpa using hi) h1 h2
theorem zic:∀ (rs:List RecM) (i:Nat) (hi:i<rs.length),z5x (rs.take i)=0->z1z rs[i]=0->z5x (rs.take (i+1))=0
 | r::rs,0,_,_,h=>by
  have h:z1z r=0:=h
  show (if z1z r≠0 then z1z r else z5x (rs.take 0))=0
  rw [if_neg (by rw [h];simp)];rfl
 | r::rs,i+1,hi,h1,h2=>by
  have h1:(if z1z r≠0 then z1z r else z5x (rs.take i))=0:=h1
  by_cases h:z1z r≠0
  ·rw [if_pos h] at h1;exact absurd h1 h
  ·rw [if_neg h] at h1
   show (if z1z r≠0 then z1z r else z5x (rs.take (i+1)))=0
   rw [if_neg h]
   exact zic rs i (by simpa using hi) h1 h2
theorem zmc {s:ByteArray}:s.size>0↔s≠ByteArray.mk #[]:=by
 constructor
 ·rintro h rfl;exact absurd h (Nat.lt_irrefl 0)
 ·intro h
  rcases Nat.eq_zero_or_pos s.size with h0|h0
  ·exfalso
   apply h
   obtain ⟨⟨l⟩⟩:=s
   have h0:l.length=0:=h0
   rw [List.length_eq_zero_iff.1 h0]
  ·exact h0
section
variable {w:World} {l r:List HP} {b:BatM}
theorem z6p (b:BatM) (hs:Sat w l):Ret P F.a113 #[.agg (zr b).toArray] w λvs w'=>vs=[.bool (z0h b)]/\Sat w' l :=
 znn b.base b.pid b.epoch b.seq b.kind b.time b.x <| by
  delta z014 AD AW Ab Ae Ao Bz
  refine zp hs λa0 w' hs=>?_
  refine za hs ?_
  refine za hs ?_
  refine wp_lt ?_
  exact ⟨rfl,rfl,hs.tail⟩
theorem zce (n lo hi:Int) (hs:Sat w l):Ret P F.a119 #[.int .i64 n,.int .i64 lo,.int .i64 hi] w λvs w'=>vs=[.bool (decide (lo<=n/\n<=hi))]/\Sat w' l :=
 znt n lo hi <| by
  delta z01a Ab Ao
  refine wp_lt ?_
  exact ⟨rfl,by rw [Bool.decide_and],hs⟩
theorem zwz (b:BatM) [hb:FocR l b.x 4 (b.rs.flatMap z00)] (hs:Sat w l):Ret P F.a109 #[.agg (zr b).toArray] w λvs w'=>vs=[.int .i64 (zq b)]/\Sat w' l :=
 znj b.base b.pid b.epoch b.seq b.kind b.time b.x <| by
  delta z010 AM AW Aa Ab Ac Ae Ag Ah Ax Bn;unfold zq
  have hl:=hs.slen b.x (xs:=b.rs) (enc:=z00)
  refine zp hs λa0 w' hs=>?_
  refine ze hs ?_
  refine z8 (z6p b hs) λ_ _ hs=>?_
  obtain ⟨rfl,hs⟩:=hs
  refine zb ?_
  refine zg (λh=>?_) λh=>?_
  ·rw [if_pos h];exact ⟨rfl,rfl,hs.tail⟩
  ·rw [if_neg h]
   refine za hs ?_
   refine wp_lt ?_
   rw [hl]
   exact ⟨rfl,rfl,hs.tail⟩
theorem zzk (r:RecM) (hs:Sat w l):Ret P F.a117 #[.agg (z00 r).toArray] w λvs w'=>vs=[.int .i64 (z1z r)]/\Sat w' l :=
 znr r.key r.value r.gone r.time <| by
  delta z018 AD AM AQ Ab Ac Ae Aq Az Bh Bp;unfold z1z
  refine zp hs λa0 w' hs=>?_
  refine za hs ?_
  refine za hs ?_
  refine wp_lt ?_
  refine zg (λh=>?_) λh=>?_
  ·rw [if_pos (by omega)];exact ⟨rfl,rfl,hs.tail⟩
  rw [if_neg (by omega)]
  refine za hs ?_
  refine z8 (zce r.time 0 1099511627776 hs) λ_ _ hs=>?_
  obtain ⟨rfl,hs⟩:=hs
  refine zb ?_
  refine za hs ?_
  refine za hs ?_
  refine wp_lt ?_
  have e:(¬ (0<=r.time/\r.time<=1099511627776)\/(r.gone=true/\r.value.size>0))↔(¬ (0<=r.time/\r.time<=1099511627776)\/(r.gone=true/\¬ r.value=ByteArray.mk #[])):=by rw [zmc]
  refine zg (λh=>?_) λh=>?_
  ·rw [if_pos (e.2 h)];exact ⟨rfl,rfl,hs.tail⟩
  ·rw [if_neg (λh2=>h (e.1 h2))];exact ⟨rfl,rfl,hs.tail⟩
theorem zwi (b:BatM) (hs:Sat w l):Ret P F.a114 #[.agg (zr b).toArray] w λvs w'=>vs=[.bool (decide (z6m b))]/\Sat w' l :=
 zno b.base b.pid b.epoch b.seq b.kind b.time b.x <| by
  delta z015 AD AM AW Aa Ab Ac Ae Ao Bc Bz
  refine zp hs λa0 w' hs=>?_
  refine zk (λv w'=>v=(decide (z6m b),())/\Sat w' l) ?_ (by rintro _ w' ⟨rfl,hs⟩;refine zj ?_;exact ⟨rfl,rfl,hs⟩)
  have hno:∀ {w'},¬ z6m b->Sat w' (pt a0 (.cells #[.int .i64 b.base,.int .i64 b.pid,.int .i64 b.epoch,.int .i64 b.seq,.int .i64 b.kind,.int .i64 b.time,.slice b.x.a b.x.len b.x.cap] T.a0)::l)->((false,()):Bool × Unit)=(decide (z6m b),())/\Sat w' l:=λh hs=>⟨by rw [decide_eq_false h],hs.tail⟩
  refine za hs ?_
  refine za hs ?_
  refine za hs ?_
  refine zg (λh1=>?_) λh1=>?_
  rotate_left
  ·exact zf (hno (λh=>h1 h.1) hs)
  refine z8 (zce b.base 0 1099511627776 hs) λ_ _ hs=>?_
  obtain ⟨rfl,hs⟩:=hs
  refine zb ?_
  refine za hs ?_
  refine zg (λh2=>?_) λh2=>?_
  rotate_left
  ·exact zf (hno (λh=>h2 h.2.1) hs)
  refine z8 (zce b.pid 0 1048576 hs) λ_ _ hs=>?_
  obtain ⟨rfl,hs⟩:=hs
  refine zb ?_
  refine za hs ?_
  refine za hs ?_
  refine za hs ?_
  refine za hs ?_
  refine za hs ?_
  refine zg (λh3=>?_) λh3=>?_
  rotate_left
  ·exact zf (hno (λh=>h3 ⟨⟨⟨⟨h.2.2.1,h.2.2.2.1.1⟩,h.2.2.2.1.2⟩,h.2.2.2.2.1.1⟩,h.2.2.2.2.1.2⟩) hs)
  refine z8 (zce b.time 0 1099511627776 hs) λ_ _ hs=>?_
  obtain ⟨rfl,hs⟩:=hs
  refine zb ?_
  refine wp_lt ?_
  refine zf ⟨?_,hs.tail⟩
  have:(z6m b)↔(0<=b.time/\b.time<=1099511627776):=⟨λh=>h.2.2.2.2.2,λh=>⟨h1,h2,h3.1.1.1.1,⟨h3.1.1.1.2,h3.1.1.2⟩,⟨h3.1.2,h3.2⟩,h⟩⟩
  rw [decide_eq_decide.2 this]
theorem z05m (b:BatM) [hb:FocR l b.x 4 (b.rs.flatMap z00)] (hs:Sat w l):Ret P F.a112 #[.agg (zr b).toArray] w λvs w'=>vs=[.bool (decide (z5d b))]/\Sat w' l :=
 znm b.base b.pid b.epoch b.seq b.kind b.time b.x <| by
  delta z013 AD AM AW AX Aa Ab Ae Ag Ao Ax Bn Bz
  have hl:=hs.slen b.x (xs:=b.rs) (enc:=z00)
  refine zp hs λa0 w' hs=>?_
  refine za hs ?_
  refine za hs ?_
  refine za hs ?_
  refine za hs ?_
  refine zg (λh1=>?_) λh1=>?_
  ·have:¬ z5d b:=λh=>h.1 ⟨h1.1,or_assoc.1 h1.2⟩
   exact ⟨rfl,by rw [decide_eq_false this],hs.tail⟩
  have h1:¬ (b.pid=0/\(b.kind≠0\/b.epoch≠0\/b.seq≠0)):=λh=>h1 ⟨h.1,or_assoc.2 h.2⟩
  refine ze hs ?_
  refine z8 (z6p b hs) λ_ _ hs=>?_
  obtain ⟨rfl,hs⟩:=hs
  refine zb ?_
  refine zg (λh2=>?_) λh2=>?_
  ·refine za hs ?_
   refine za hs ?_
   refine wp_lt ?_
   refine ⟨rfl,?_,hs.tail⟩
   have:z5d b↔(b.seq=0/\b.rs.length=0):=by
    unfold z5d
    rw [if_pos h2]
    exact ⟨λh=>h.2,λh=>⟨h1,h⟩⟩
   congr 2
   rw [Bool.eq_iff_iff,decide_eq_true_iff,this,Bool.and_eq_true,beq_iff_eq,beq_iff_eq,hl]
   omega
  ·refine za hs ?_
   refine wp_lt ?_
   refine ⟨rfl,?_,hs.tail⟩
   have:z5d b↔0<b.rs.length:=by
    unfold z5d
    rw [if_neg h2]
    exact ⟨λh=>h.2,λh=>⟨h1,h⟩⟩
   congr 2
   rw [Bool.eq_iff_iff,decide_eq_true_iff,decide_eq_true_iff,this,hl]
   omega
theorem z9h (b:BatM) [hb:FocR l b.x 4 (b.rs.flatMap z00)] (hs:Sat w l):Ret P F.a110 #[.agg (zr b).toArray] w λvs w'=>vs=[.int .i64 (z04 b)]/\Sat w' l :=
 znk b.base b.pid b.epoch b.seq b.kind b.time b.x <| by
  delta z011 AB AD AF AM AO AW Aa Ab Ac Ae Ag Ah Ai Ao Ar Au Ax Az B7 Bc Bn Bo Bp Bq Bz;unfold z04
  have hl:=hs.slen b.x (xs:=b.rs) (enc:=z00)
  refine zp hs λa0 w' hs=>?_
  refine zk (λv w'=>v=(decide (¬ z6m b\/¬ z5d b),())/\Sat w' (pt a0 (.cells #[.int .i64 b.base,.int .i64 b.pid,.int .i64 b.epoch,.int .i64 b.seq,.int .i64 b.kind,.int .i64 b.time,.slice b.x.a b.x.len b.x.cap] T.a0)::l)) ?_ ?_
  ·refine ze hs ?_
   refine z8 (zwi b hs) λ_ _ hs=>?_
   obtain ⟨rfl,hs⟩:=hs
   refine zb ?_
   refine ze hs ?_
   refine zg (λh1=>?_) λh1=>?_
   ·exact zf ⟨by rw [decide_eq_true (.inl h1)],hs⟩
   refine z8 (z05m b hs) λ_ _ hs=>?_
   obtain ⟨rfl,hs⟩:=hs
   refine zb ?_
   refine wp_lt ?_
   refine zf ⟨?_,hs⟩
   have:(¬ z6m b\/¬ z5d b)↔¬ z5d b:=⟨λh=>h.resolve_left h1,.inr⟩
   rw [decide_eq_decide.2 this,decide_not]
  clear hs
  rintro _ w ⟨rfl,hs⟩
  refine zj ?_
  refine zg (λh1=>?_) λh1=>?_
  ·rw [if_pos h1];exact ⟨rfl,rfl,hs.tail⟩
  rw [if_neg h1]
  have hnum:z6m b:=Decidable.not_not.1 λh=>h1 (.inl h)
  have hfit:z5d b:=Decidable.not_not.1 λh=>h1 (.inr h)
  refine za hs ?_
  refine wp_lt ?_
  refine zg (λh2=>?_) λh2=>?_
  ·rw [if_pos (by omega)];exact ⟨rfl,rfl,hs.tail⟩
  rw [if_neg (by omega)]
  refine za hs ?_
  refine zk (λv w'=>z5x b.rs=0/\Sat w' (pt a0 (.cells #[.int .i64 b.base,.int .i64 b.pid,.int .i64 b.epoch,.int .i64 b.seq,.int .i64 b.kind,.int .i64 b.time,.slice b.x.a b.x.len b.x.cap] T.a0)::l)) ?_ ?_
  ·refine z09 (λk v w=>∃ i:Nat,v=((i:Int),())/\i<=b.rs.length/\b.rs.length-i=k/\z5x (b.rs.take i)=0/\Sat w (pt a0 (.cells #[.int .i64 b.base,.int .i64 b.pid,.int .i64 b.epoch,.int .i64 b.seq,.int .i64 b.kind,.int .i64 b.time,.slice b.x.a b.x.len b.x.cap] T.a0)::l)) b.rs.length ⟨0,rfl,by omega,rfl,rfl,hs⟩ ?_
   clear hs
   rintro k _ w ⟨i,rfl,hi,hk,hbad,hs⟩
   refine zj ?_
   refine zg (λhc=>?_) λhc=>?_
   rotate_left
   ·refine zn (zf ⟨?_,hs⟩)
    rwa [List.take_of_length_le (by omega)] at hbad
   have hil:i<b.rs.length:=by omega
   refine z39 hs i hil ?_
   refine zm hs λc w' hs=>?_
   refine zl hs λw' hs=>?_
   refine ze hs ?_
   refine z8 (zzk b.rs[i] hs) λ_ _ hs=>?_
   obtain ⟨rfl,hs⟩:=hs
   refine zb ?_
   refine wp_lt ?_
   refine zg (λh3=>?_) λh3=>?_
   ·refine wp_lt ?_
    refine zn (zn ?_)
    have:=zid b.rs i hil hbad h3
    rw [if_pos (by rw [this];exact h3),this]
    exact ⟨rfl,rfl,hs.tail.tail⟩
   ·refine z27 (us':=[.int .i64 ((i+1:Nat):Int)]) (by (try simp (disch:=omega) only [w64]);first|rfl|(congr;omega)) ?_
    refine z0w (b.rs.length-(i+1)) ?_
    exact ⟨i+1,rfl,by omega,rfl,zic b.rs i hil hbad (Decidable.not_not.1 h3),hs.sub⟩
  clear hs
  rintro _ w ⟨hbad,hs⟩
  refine zj ?_
  rw [if_neg (by rw [hbad];simp)]
  refine ze hs ?_
  refine z8 (zwz b hs) λ_ _ hs=>?_
  obtain ⟨rfl,hs⟩:=hs
  refine zb ?_
  have hsp:1<=zq b/\zq b<=64:=by
   unfold zq
   have h3:=hfit.2
   split
   ·omega
   ·rename_i hm
    rw [if_neg hm] at h3
    omega
  obtain ⟨-,hba,-,-,hse,-⟩:=hnum
  refine z1u (y:=zq b-1) ?_ (by rw [w64 (by omega) (by omega)])
  refine zk (λv w'=>v=(decide (b.base>1099511627776-(zq b-1)\/(b.pid>0/\z0h b=false/\b.seq>2147483647-(zq b-1))),())/\Sat w' l) ?_ ?_
  ·rw [w64 (x:=1099511627776-(zq b-1)) (by omega) (by omega)]
   refine za hs ?_
   refine za hs ?_
   refine ze hs ?_
   refine zg (λh3=>?_) λh3=>?_
   ·exact zf ⟨by rw [decide_eq_true (.inl h3)],hs.tail⟩
   refine zg (λh4=>?_) λh4=>?_
   rotate_left
   ·exact zf ⟨by rw [decide_eq_false (λh=>h.elim h3 λh=>h4 h.1)],hs.tail⟩
   refine z8 (z6p b hs) λ_ _ hs=>?_
   obtain ⟨rfl,hs⟩:=hs
   refine zb ?_
   refine za hs ?_
   rw [w64 (x:=2147483647-(zq b-1)) (by omega) (by omega)]
   refine zf ⟨?_,hs.tail⟩
   have:(b.base>1099511627776-(zq b-1)\/(b.pid>0/\z0h b=false/\b.seq>2147483647-(zq b-1)))↔(z0h b=false/\b.seq>2147483647-(zq b-1)):=⟨λh=>(h.resolve_left h3).2,λh=>.inr ⟨h4,h⟩⟩
   rw [decide_eq_decide.2 this,Bool.decide_and]
   cases z0h b <;> rfl
  clear hs
  rintro _ w ⟨rfl,hs⟩
  refine zj ?_
  refine zg (λh3=>?_) λh3=>?_
  ·rw [if_pos h3];exact ⟨rfl,rfl,hs⟩
  ·rw [if_neg h3];exact ⟨rfl,rfl,hs⟩
theorem z17 (b:BatM) (hv:z04 b=0):1<=zq b/\zq b<=64/\z6m b/\z5d b/\b.base+zq b<=1099511627777:=by
 unfold z04 at hv
 split at hv
 ·cases hv
 rename_i h1
 have hnum:z6m b:=Decidable.not_not.1 λh=>h1 (.inl h)
 have hfit:z5d b:=Decidable.not_not.1 λh=>h1 (.inr h)
 split at hv
 ·cases hv
 rename_i h2
 split at hv
 ·rename_i h3;exact absurd hv h3
 split at hv
 ·cases hv
 rename_i h4
 have hsp:1<=zq b/\zq b<=64:=by
  unfold zq
  have h3:=hfit.2
  split
  ·omega
  ·rename_i hm
   rw [if_neg hm] at h3
   omega
 refine ⟨hsp.1,hsp.2,hnum,hfit,?_⟩
 apply Decidable.byContradiction
 intro h5
 exact h4 (.inl (by omega))
theorem z9e (b:BatM) [hb:FocR l b.x 4 (b.rs.flatMap z00)] (hs:Sat w l):Ret P F.a108 #[.agg (zr b).toArray] w λvs w'=>vs=[.int .i64 (z1p b)]/\Sat w' l :=
 zni b.base b.pid b.epoch b.seq b.kind b.time b.x <| by
  delta z00z AC AF AG AW Aa Ab Ac Ae Ah Ai Bn By;unfold z1p
  refine zp hs λa0 w' hs=>?_
  refine ze hs ?_
  refine z8 (z9h b hs) λ_ _ hs=>?_
  obtain ⟨rfl,hs⟩:=hs
  refine zb ?_
  refine zg (λh=>?_) λh=>?_
  ·rw [if_pos h];exact ⟨rfl,rfl,hs.tail⟩
  rw [if_neg h]
  obtain ⟨h1,h2,h3,-⟩:=z17 b (Decidable.not_not.1 h)
  have h3:=h3.2.1
  refine zw hs λw' hs=>?_
  refine z0z hs ?_
  refine ze hs ?_
  refine z8 (zwz b hs) λ_ w' hs=>?_
  obtain ⟨rfl,hs⟩:=hs
  refine zb ?_ ⟨trivial,λ_=>z05 hs⟩
  refine z1u (y:=b.base+zq b) ?_ (by rw [w64 (by omega) (by omega)])
  refine zd ?_
  exact ⟨rfl,rfl,hs.tail⟩
end
open Go.ChangeShapes Go.WideShapes Go.RowKit Go.Deep
section
variable {H:Type} {enc:TypeId × Value->H} {P:Program} {w:World} {base:Nat} {spare:Nat->Bool} {held:Bool}
theorem zew {t:TypeId} {fs:Array Field} {n C:Nat} {cs:List Value} {y:DataW H × List MemPlace} (ht:P.underlying t=some (.struct fs)) (hd:DataW.trod enc P w base spare held n t cs=some y) (hC:P.cellsOf t=C) :
  cs.length=C/\∃ n',∀ (j:Nat) (f:Field),fs[j]? = some f->∃ y,DataW.trod enc P w base spare held n' f.type ((cs.drop f.offset).take (P.cellsOf f.type))=some y:=by
 obtain ⟨ys,n',hn',hy,hlen,hyl,hf⟩:=DataW.trod_struct ht hd
 refine ⟨by rw [hlen,hC],n',λj f hj=>?_⟩
 have hjl:j<fs.size:=(Array.getElem?_eq_some_iff.1 hj).1
 have h1:=hf j f hj
 rw [List.getElem?_eq_getElem (by omega)] at h1
 exact ⟨_,h1⟩
theorem zzh {t:TypeId} {f0 f1 f2 f3:Field} {n:Nat} {cs:List Value} {y:DataW H × List MemPlace} (ht:P.underlying t=some (.struct #[f0,f1,f2,f3])) (hC:P.cellsOf t=4) (k0:P.underlying f0.type=some .string) (k1:P.underlying f1.type=some .string) (k2:P.underlying f2.type=some .bool) (k3:P.underlying f3.type=some (.int .i64))
  (o0:f0.offset=0) (o1:f1.offset=1) (o2:f2.offset=2) (o3:f3.offset=3) (c0:P.cellsOf f0.type=1) (c1:P.cellsOf f1.type=1) (c2:P.cellsOf f2.type=1) (c3:P.cellsOf f3.type=1)
  (hd:DataW.trod enc P w base spare held n t cs=some y):∃ r:RecM,cs=z00 r/\True:=by
 obtain ⟨hl,n',hf⟩:=zew ht hd hC
 match cs,hl with
 | [v0,v1,v2,v3],_ =>
  obtain ⟨y0,h0⟩:=hf 0 f0 rfl
  obtain ⟨y1,h1⟩:=hf 1 f1 rfl
  obtain ⟨y2,h2⟩:=hf 2 f2 rfl
  obtain ⟨y3,h3⟩:=hf 3 f3 rfl
  rw [o0,c0] at h0
  rw [o1,c1] at h1
  rw [o2,c2] at h2
  rw [o3,c3] at h3
  obtain ⟨s0,q0,-,-⟩:=DataW.trod_string k0 h0
  obtain ⟨s1,q1,-,-⟩:=DataW.trod_string k1 h1
  obtain ⟨b2,q2,-⟩:=DataW.trod_bool k2 h2
  obtain ⟨n3,q3,-,-⟩:=DataW.trod_int k3 h3
  simp at q0 q1 q2 q3
  subst q0 q1 q2 q3
  exact ⟨⟨s0,s1,b2,n3⟩,rfl,trivial⟩
end
def z50:Nat->Nat->List UInt8
 | 0,_=>[]
 | k+1,n=>if n<128 then [UInt8.ofNat n] else UInt8.ofNat (n % 128+128)::z50 k (n / 128)
def z25 (n:Nat):List UInt8:=z50 10 n
def z2p (i:Nat):List UInt8->Option (Nat × Nat)
 | []=>none
 | c::r=>if i>=10\/(i=9/\1<c.toNat) then none else if 128<=c.toNat then (z2p (i+1) r).map λp=>(c.toNat % 128+128*p.1,p.2+1) else if c.toNat=0/\0<i then none else some (c.toNat,1)
theorem z8o (i:Nat) (c:UInt8) (r:List UInt8):z2p i (c::r)=if i>=10\/(i=9/\1<c.toNat) then none else if 128<=c.toNat then (z2p (i+1) r).map λp=>(c.toNat % 128+128*p.1,p.2+1) else if c.toNat=0/\0<i then none else some (c.toNat,1):=rfl
theorem zhb:∀ (k n:Nat),0<k->n<128 ^ k->z50 (k+1) n=z50 k n
 | k+1,n,_,h=>by
  show (if n<128 then _ else _::z50 (k+1) (n / 128))=if n<128 then _ else _::z50 k (n / 128)
  by_cases h1:n<128
  ·rw [if_pos h1,if_pos h1]
  ·rw [if_neg h1,if_neg h1]
   have hk:0<k:=by
    apply Nat.pos_of_ne_zero
    rintro rfl
    simp at h;omega
   rw [zhb k (n / 128) hk]
   rw [Nat.pow_succ] at h
   omega
theorem zca {n:Nat} (h:n<18446744073709551616):z25 n=if n<128 then [UInt8.ofNat n] else UInt8.ofNat (n % 128+128)::z25 (n / 128):=by
 unfold z25
 rw [zhb 9 (n / 128) (by decide) (by omega)]
 rfl
theorem zjt:∀ (k n:Nat),(z50 k n).length<=k
 | 0,_=>Nat.le_refl _
 | k+1,n=>by
  have:=zjt k (n / 128)
  unfold z50
  split <;> simp <;> omega
theorem zx7 (k n:Nat):0<(z50 (k+1) n).length:=by
 unfold z50
 split <;> simp
theorem z8s (n:Nat):0<(z25 n).length/\(z25 n).length<=10:=⟨zx7 9 n,zjt 10 n⟩
theorem zfv:∀ (bs:List UInt8) (i v k:Nat),z2p i bs=some (v,k)->0<k/\k<=bs.length/\i+k<=10
 | [],i,v,k,h=>by cases h
 | c::r,i,v,k,h=>by
  unfold z2p at h
  split at h
  ·cases h
  rename_i h1
  split at h
  ·rename_i h2
   cases hr:z2p (i+1) r with
   | none=>rw [hr] at h;cases h
   | some p =>
    rw [hr] at h
    simp only [Option.map_some,Option.some.injEq,Prod.mk.injEq] at h
    have:=zfv r (i+1) p.1 p.2 hr
    simp;omega
  ·split at h
   ·cases h
   ·simp only [Option.some.injEq,Prod.mk.injEq] at h
    simp;omega
theorem zlo:∀ (k i n:Nat) (rest:List UInt8),n<128 ^ k->0<k->n*128 ^ i<18446744073709551616->(0<i->0<n)->i<10->z2p i (z50 k n++rest)=some (n,(z50 k n).length)
 | k+1,i,n,rest,hn,_,h64,hi,hi10=>by
  have hcase:i=0\/i=1\/i=2\/i=3\/i=4\/i=5\/i=6\/i=7\/i=8\/i=9:=by omega
  have h9:i=9->n<2:=λe=>by subst e;simp at h64;omega
  unfold z50
  by_cases h:n<128
  ·rw [if_pos h]
   show (if _ then _ else if _ then _ else if _ then _ else _)=_
   have e:(UInt8.ofNat n).toNat=n:=by simp;omega
   rw [e,if_neg (by omega),if_neg (by omega),if_neg (by omega)]
   rfl
  ·rw [if_neg h]
   have e:(UInt8.ofNat (n % 128+128)).toNat=n % 128+128:=by simp;omega
   have h64':n / 128*128 ^ (i+1)<18446744073709551616:=by
    rw [Nat.pow_succ,Nat.mul_comm (128 ^ i),<- Nat.mul_assoc]
    exact Nat.lt_of_le_of_lt (Nat.mul_le_mul_right _ (Nat.div_mul_le_self n 128)) h64
   have hk:0<k:=by
    apply Nat.pos_of_ne_zero
    rintro rfl
    simp at hn;omega
   have ih:=zlo k (i+1) (n / 128) rest (by rw [Nat.pow_succ] at hn;omega) hk h64' (λ_=>by omega) (by omega)
   rw [List.cons_append]
   show (if _ then _ else if _ then _ else _)=_
   have e3:(n % 128+128) % 128+128*(n / 128)=n:=by omega
   rw [e,if_neg (by omega),if_pos (by omega),ih,Option.map_some,e3,List.length_cons]
theorem zad {n:Nat} (h:n<18446744073709551616) (rest:List UInt8):z2p 0 (z25 n++rest)=some (n,(z25 n).length) :=
 zlo 10 0 n rest (by omega) (by decide) (by omega) (λh=>absurd h (by decide)) (by decide)
theorem zqg:∀ (bs:List UInt8) (i v k:Nat),i<10->z2p i bs=some (v,k)->bs.take k=z50 (10-i) v/\v*128 ^ i<18446744073709551616/\(0<i->0<v)
 | [],i,v,k,_,h=>by cases h
 | c::r,i,v,k,hi10,h=>by
  have hcase:i=0\/i=1\/i=2\/i=3\/i=4\/i=5\/i=6\/i=7\/i=8\/i=9:=by omega
  have hc:=c.toNat_lt
  unfold z2p at h
  split at h
  ·cases h
  rename_i h1
  split at h
  ·rename_i h2
   cases hr:z2p (i+1) r with
   | none=>rw [hr] at h;cases h
   | some p =>
    rw [hr] at h
    simp only [Option.map_some,Option.some.injEq,Prod.mk.injEq] at h
    obtain ⟨rfl,rfl⟩:=h
    obtain ⟨g1,g2,g3⟩:=zqg r (i+1) p.1 p.2 (by omega) hr
    have hp:=g3 (by omega)
    obtain ⟨m,hm⟩:∃ m,10-i=m+1:=⟨9-i,by omega⟩
    have hm':10-(i+1)=m:=by omega
    rw [hm'] at g1
    refine ⟨?_,?_,λ_=>by omega⟩
    ·rw [hm]
     unfold z50
     rw [if_neg (by omega),List.take_succ_cons,g1]
     have e1:(c.toNat % 128+128*p.1) % 128+128=c.toNat:=by omega
     have e2:(c.toNat % 128+128*p.1) / 128=p.1:=by omega
     rw [e1,e2]
     simp
    ·obtain ⟨m,hm⟩:∃ m,18446744073709551616=m*128 ^ (i+1):=by
      rcases hcase with rfl|rfl|rfl|rfl|rfl|rfl|rfl|rfl|rfl|rfl
      ·exact ⟨2 ^ 57,rfl⟩
      ·exact ⟨2 ^ 50,rfl⟩
      ·exact ⟨2 ^ 43,rfl⟩
      ·exact ⟨2 ^ 36,rfl⟩
      ·exact ⟨2 ^ 29,rfl⟩
      ·exact ⟨2 ^ 22,rfl⟩
      ·exact ⟨2 ^ 15,rfl⟩
      ·exact ⟨2 ^ 8,rfl⟩
      ·exact ⟨2 ^ 1,rfl⟩
      ·omega
     rw [hm] at g2 ⊢
     have hlt:=Nat.lt_of_mul_lt_mul_right g2
     have h5:(p.1+1)*128 ^ (i+1)<=m*128 ^ (i+1):=Nat.mul_le_mul_right _ hlt
     refine Nat.lt_of_lt_of_le ?_ h5
     rw [Nat.pow_succ,Nat.mul_comm (128 ^ i),<- Nat.mul_assoc]
     exact Nat.mul_lt_mul_of_pos_right (by omega) (Nat.pow_pos (by decide))
  ·split at h
   ·cases h
   ·simp only [Option.some.injEq,Prod.mk.injEq] at h
    obtain ⟨rfl,rfl⟩:=h
    obtain ⟨m,hm⟩:∃ m,10-i=m+1:=⟨9-i,by omega⟩
    refine ⟨?_,?_,λ_=>by omega⟩
    ·rw [hm]
     unfold z50
     rw [if_pos (by omega)]
     simp
    ·rcases hcase with rfl|rfl|rfl|rfl|rfl|rfl|rfl|rfl|rfl|rfl <;> simp <;> omega
theorem zfw {bs:List UInt8} {v k:Nat} (h:z2p 0 bs=some (v,k)):bs.take k=z25 v/\v<18446744073709551616:=by
 obtain ⟨h1,h2,-⟩:=zqg bs 0 v k (by decide) h
 exact ⟨h1,by simpa using h2⟩
def z0r:List UInt8->Nat
 | []=>0
 | c::r=>if 128<=c.toNat then z0r r+1 else 0
def z6t:List UInt8->Nat
 | []=>0
 | c::r=>c.toNat % 128+128*z6t r
theorem zby:∀ bs:List UInt8,z0r bs<=bs.length
 | []=>Nat.le_refl _
 | c::r=>by
  have:=zby r
  unfold z0r
  split <;> simp <;> omega
theorem zj2:∀ (bs:List UInt8) (i:Nat) (h:i<z0r bs),128<=(bs[i]'(Nat.lt_of_lt_of_le h (zby bs))).toNat
 | [],i,h=>by cases h
 | c::r,i,h=>by
  unfold z0r at h
  split at h
  ·rename_i h1
   cases i with
   | zero=>exact h1
   | succ i=>exact zj2 r i (by omega)
  ·cases h
theorem zdb:∀ (bs:List UInt8) (h:z0r bs<bs.length),(bs[z0r bs]'h).toNat<128
 | [],h=>by cases h
 | c::r,h=>by
  by_cases h1:128<=c.toNat
  ·have e:z0r (c::r)=z0r r+1:=by show (if _ then _ else _)=_;rw [if_pos h1]
   simp only [e,List.getElem_cons_succ]
   exact zdb r (by rw [e] at h;simpa using h)
  ·have e:z0r (c::r)=0:=by show (if _ then _ else _)=_;rw [if_neg h1]
   simp only [e,List.getElem_cons_zero]
   omega
theorem zln:∀ (bs:List UInt8) (i:Nat),z2p i bs=if h:z0r bs<bs.length/\i+z0r bs<10 then
  if ((bs[z0r bs]'h.1).toNat=0/\0<i+z0r bs)\/(i+z0r bs=9/\1<(bs[z0r bs]'h.1).toNat) then none else some (z6t (bs.take (z0r bs+1)),z0r bs+1) else none
 | [],i=>by simp [z2p,z0r]
 | c::r,i=>by
  have ih:=zln r (i+1)
  have hl:=zby r
  unfold z2p
  by_cases h1:128<=c.toNat
  ·have e:z0r (c::r)=z0r r+1:=by show (if _ then _ else _)=_;rw [if_pos h1]
   rw [if_pos h1,ih]
   simp only [e,List.length_cons,List.getElem_cons_succ,List.take_succ_cons,z6t]
   by_cases h2:z0r r<r.length/\i+1+z0r r<10
   ·rw [if_neg (by omega),dif_pos h2,dif_pos (by omega)]
    have e2:i+(z0r r+1)=i+1+z0r r:=by omega
    simp only [e2]
    split <;> rfl
   ·rw [dif_neg h2,dif_neg (by omega)]
    split <;> rfl
  ·have e:z0r (c::r)=0:=by show (if _ then _ else _)=_;rw [if_neg h1]
   rw [if_neg h1]
   simp only [e,List.length_cons,List.getElem_cons_zero,List.take_succ_cons,z6t,List.take_zero,Nat.add_zero]
   by_cases h2:i<10
   ·rw [dif_pos ⟨by omega,h2⟩]
    by_cases h3:i=9/\1<c.toNat
    ·rw [if_pos (.inr h3),if_pos (.inr h3)]
    ·rw [if_neg (by omega)]
     by_cases h4:c.toNat=0/\0<i
     ·rw [if_pos h4,if_pos (.inl h4)]
     ·rw [if_neg h4,if_neg (by omega)]
      have:c.toNat % 128=c.toNat:=by omega
      simp [this]
   ·rw [if_pos (by omega),dif_neg (by omega)]
def z0c (x:Sl):List Value:=[.slice x.a x.len x.cap]
instance:Enc1 z0c .slc (λx=>x):=⟨λ_=>rfl⟩
instance:EncN z0c 1:=⟨λ_=>rfl,by decide,by simp [z0c,Value.oneCell']⟩
section
variable {w:World} {l r:List HP} {sz:Nat} {x:Sl}
theorem zcx {α:Type} {enc:α->List Value} [hE:EncN enc sz]:∀ (xs:List α) (n:Nat),(xs.flatMap enc).drop (n*sz)=(xs.drop n).flatMap enc
 | [],n=>by simp
 | x::xs,0=>by simp
 | x::xs,n+1=>by
  rw [List.flatMap_cons,Nat.succ_mul,Nat.add_comm,<- List.drop_drop,List.drop_left' (hE.len x),zcx xs n,List.drop_succ_cons]
theorem FocR.post {α:Type} {enc:α->List Value} [hE:EncN enc sz] {xs:List α} [hf:FocR l x sz (xs.flatMap enc)] {n m c:Nat} (hm:x.len<=m):FocR l ⟨z12 x.a sz n m,x.len-n,c⟩ sz ((xs.drop n).flatMap enc):=⟨λw hs=>by
 obtain ⟨hlen,h0⟩:=hf.rd w hs
 have hl:x.len=xs.length:=(hf.rd w hs).len hE.len hE.pos
 refine ⟨by rw [z3u,List.length_drop,hl],?_⟩
 by_cases hn:x.len-n=0
 ·exact .inl hn
 ·right
  rcases h0 with h0|⟨b,off,arr,T,fr,ha,hb,hc⟩
  ·omega
  ·refine ⟨b,off+n*sz,arr,T,fr,?_,hb,λi hi=>?_⟩
   ·show z12 x.a sz n m=_
    unfold z12
    rw [if_neg (by omega),ha,Option.map_some,z4c]
   ·rw [<- zcx,List.length_drop] at hi
    rw [Nat.add_assoc,hc (n*sz+i) (by omega),<- zcx,List.getElem?_drop]⟩
end
section
variable {w:World} {l r:List HP} {Q:Post} {S:World->Prop}
theorem zrd {P:Program} {t el:TypeId} {sz bytes:Nat} {c:Int} {k:Sl->Prog} [ht:SlT P t el sz bytes] (n:Nat) (hs:Sat w l) (h:∀ x w',Sat w' (slc el sz x []::l)->(k x).wp P S w' Q) (hc:c=n:=by first|rfl|omega) (hb:n*bytes<=281474976710656/\n<=9223372036854775807:=by omega) (hS:∀ w',S w':=by exact λ_=>trivial) :
  (Prog.act (Instr.makeSlice t (.int .i64 0) (.int .i64 c)) sL (u1 k)).wp P S w Q:=by
 subst hc
 obtain ⟨i,z,hi,h2,h3,h4,h5⟩:=ht.parts
 have hrun:=run_make (P:=P) w t el i z ht.ok.1 hi h4 .i64 .i64 0 n (Int.le_refl _) (by omega) (by rw [h3,<- Int.natCast_mul,Nat.mul_comm];omega) (by omega)
 simp only [Int.toNat_zero,Int.toNat_natCast] at hrun
 have hp:=hs.push (o:=.cells (madeCells z.cells (n*i.size)) el) (w':=w.alloc (.cells (madeCells z.cells (n*i.size)) el)) rfl
 refine ⟨(⟨some ⟨w.heap.size,0,none⟩,0,n⟩,()),_,hrun,hS _,h ⟨some ⟨w.heap.size,0,none⟩,0,n⟩ _ ?_⟩
 refine hp.imp λp hp=>.inr ⟨w.heap.size,0,_,_,rfl,hp,by simp,Nat.zero_le _,?_,λi hi=>by simp at hi,z2v _ _⟩
 rw [size_madeCells,h2];simp
theorem zbh {P:Program} {T:TypeId} {sz:Nat} {α:Type} {enc:α->List Value} {xs:List α} {i i':Int} {x:Sl} {g g':Prop} {p:Pr} {f:p.D->Prog} (hs:Sat w l) [hf:FocR l x sz (xs.flatMap enc)] [hE:EncN enc sz] [hT:One P T]
  (y:p.D) (hg:g->∃ n,∃ hn:n<xs.length,i=(n:Int)/\enc xs[n]=[p.mk y]) (h:(f y).wp P S w Q) (hgg:g'->g:=by exact id) (hi':i'=i:=by rfl) :
  (Prog.ex [.adr] (c1 λa=>g->0<=i/\i<((x.len:Nat):Int)/\x.a=some a) (u1 λa=>.read g' (ld T (Addr.add a (Int.toNat i'*sz))) (.one (.one p)) (u1 f))).wp P S w Q:=by
 subst hi'
 have hr:=hf.rd w hs
 have hl:x.len=xs.length:=hr.len hE.len hE.pos
 by_cases hgc:g
 ·obtain ⟨n,hn,hin,hen⟩:=hg hgc
  subst hin
  obtain ⟨a,ha,he⟩:=hr.el hE.len (by omega)
  refine ⟨(a,()),λ_=>⟨by omega,by omega,ha⟩,(y,()),λ_=>?_,h⟩
  have:=he n hn
  rw [hen] at this
  have h2:=At.ld1 (P:=P) (T:=T) this rfl
  cases p <;> exact h2
 ·exact ⟨(⟨0,0,none⟩,()),λh=>absurd h hgc,(y,()),λh=>absurd (hgg h) hgc,h⟩
theorem zcf {P:Program} {T:TypeId} {sz:Nat} {α:Type} {enc:α->List Value} {xs:List α} {i i':Int} {j:Nat} {x:Sl} {g g':Prop} {p:Pr} {dec:α->p.D} {f:p.D->Prog} (hs:Sat w l) [hf:FocR l x sz (xs.flatMap enc)] [hE:EncN enc sz] [hD:EncF enc j p dec] [hT:One P T]
  (y:p.D) (hg:g->∃ n,∃ hn:n<xs.length,i=(n:Int)/\dec xs[n]=y) (h:(f y).wp P S w Q) (hgg:g'->g:=by exact id) (hi':i'=i:=by rfl) :
  (Prog.ex [.adr] (c1 λa=>g->0<=i/\i<((x.len:Nat):Int)/\x.a=some a) (u1 λa=>.read g' (ld T (Addr.add (Addr.add a (Int.toNat i'*sz)) j)) (.one (.one p)) (u1 f))).wp P S w Q:=by
 subst hi'
 by_cases hgc:g
 ·obtain ⟨n,hn,hin,hen⟩:=hg hgc
  subst hin hen
  obtain ⟨a,ha,hl,hr⟩:=ze1 (P:=P) (T:=T) (j:=j) (enc:=enc) (p:=p) (dec:=dec) (x:=x) hs hn
  exact ⟨(a,()),λ_=>⟨by omega,by omega,ha⟩,(dec xs[n],()),λ_=>by rw [Int.toNat_natCast];exact hr,h⟩
 ·exact ⟨(⟨0,0,none⟩,()),λh=>absurd h hgc,(y,()),λh=>absurd (hgg h) hgc,h⟩
theorem z04z {P:Program} {T:TypeId} {sz:Nat} {α:Type} {enc:α->List Value} {xs:List α} {ii:Int} {m j:Nat} {x:Sl} {g':Prop} {p:Pr} {dec:α->p.D} {f:p.D->Prog} (hs:Sat w l) [hf:FocR l x sz (xs.flatMap enc)] [hE:EncN enc sz] [hD:EncF enc j p dec] [hT:One P T]
  (n:Nat) (hn:n<xs.length) (h:(f (dec xs[n])).wp P S w Q) (hm:m=n*sz:=by rfl) (hi:ii=n:=by rfl) :
  (Prog.ex [.adr] (c1 λa=>(0:Int)<=ii/\ii<((x.len:Nat):Int)/\x.a=some a) (u1 λa=>.read g' (ld T (Addr.add (Addr.add a m) j)) (.one (.one p)) (u1 f))).wp P S w Q:=by
 subst hm hi
 obtain ⟨a,ha,hl,hr⟩:=ze1 (P:=P) (T:=T) (j:=j) (enc:=enc) (p:=p) (dec:=dec) (x:=x) hs hn
 exact ⟨(a,()),⟨by omega,by omega,ha⟩,(dec xs[n],()),λ_=>hr,h⟩
end
instance:ByE P T.a49 T.a57:=⟨by kernel_rfl,by kernel_rfl,by kernel_rfl⟩
instance:StT P T.a54:=⟨by kernel_rfl⟩
theorem z7v (m:Nat) {k:Int} (hk:0<=k):Int.fdiv (m:Int) k=((m / k.toNat:Nat):Int):=by
 obtain ⟨k,rfl⟩:=Int.eq_ofNat_of_zero_le hk
 rw [Int.fdiv_eq_ediv_of_nonneg _ hk];rfl
theorem za0 (m:Nat) {k:Int} (hk:0<=k):Int.tdiv (m:Int) k=((m / k.toNat:Nat):Int):=by
 obtain ⟨k,rfl⟩:=Int.eq_ofNat_of_zero_le hk
 rfl
theorem z85 (m:Nat) {k:Int} (hk:0<=k):Int.tmod (m:Int) k=((m % k.toNat:Nat):Int):=by
 obtain ⟨k,rfl⟩:=Int.eq_ofNat_of_zero_le hk
 rfl
theorem z90 (m:Nat):IntKind.wrap .u8 (m:Int)=((m % 256:Nat):Int):=by simp [IntKind.wrap,IntKind.bits,IntKind.signed]
theorem zkd (m:Nat):IntKind.wrap .u32 (m:Int)=((m % 4294967296:Nat):Int):=by simp [IntKind.wrap,IntKind.bits,IntKind.signed]
theorem z8h (m:Nat):IntKind.wrap .u64 (m:Int)=((m % 18446744073709551616:Nat):Int):=by simp [IntKind.wrap,IntKind.bits,IntKind.signed]
theorem z098 (m:Nat):(BitVec.toNat (BitVec.ofInt 8 (IntKind.wrap .u8 (m:Int)) ||| BitVec.ofInt 8 128))=m % 128+128:=by
 rw [z90,BitVec.ofInt_natCast]
 have h:∀ k:Fin 256,(BitVec.ofNat 8 k.val ||| BitVec.ofInt 8 128).toNat=k.val % 128+128:=by decide +kernel
 have:=h ⟨m % 256,by omega⟩
 rw [this]
 show m % 256 % 128+128=_
 omega
theorem z058 (m:Nat) (hm:m<256):(BitVec.toNat (BitVec.ofInt 8 (m:Int) &&& BitVec.ofInt 8 127))=m % 128:=by
 rw [BitVec.ofInt_natCast]
 have h:∀ k:Fin 256,(BitVec.ofNat 8 k.val &&& BitVec.ofInt 8 127).toNat=k.val % 128:=by decide +kernel
 exact h ⟨m,hm⟩
theorem z09j {n c i:Nat} (hn:n<128 ^ i) (hi:i<=9) (hc:c<256) (h9:i=9->c<=1) :
  IntKind.wrap .u64 (((BitVec.toNat (BitVec.ofInt 64 (n:Int) ||| BitVec.ofInt 64 (IntKind.wrap .u64 (IntKind.wrap .u64 (IntKind.wrap .u8 (((BitVec.toNat (BitVec.ofInt 8 (c:Int) &&& BitVec.ofInt 8 127):Nat):Int)))*2 ^ min (Int.toNat (IntKind.wrap .i64 (7*(i:Int)))) 64))):Nat):Int))=((n+128 ^ i*(c % 128):Nat):Int):=by
 have e1:min (Int.toNat (IntKind.wrap .i64 (7*(i:Int)))) 64=7*i:=by rw [w64 (by omega) (by omega)];omega
 have e2:(2:Nat) ^ (7*i)=128 ^ i:=by rw [Nat.pow_mul]
 have hle:128 ^ i*(c % 128)+128 ^ i<=18446744073709551616:=by
  have hcase:i=0\/i=1\/i=2\/i=3\/i=4\/i=5\/i=6\/i=7\/i=8\/i=9:=by omega
  rcases hcase with rfl|rfl|rfl|rfl|rfl|rfl|rfl|rfl|rfl|rfl <;> simp <;> omega
 rw [z058 c hc,e1,z90,z8h (c % 128 % 256),show c % 128 % 256 % 18446744073709551616=c % 128 by omega]
 have e3:((c % 128:Nat):Int)*2 ^ (7*i)=((128 ^ i*(c % 128):Nat):Int):=by
  rw [<- e2,Nat.mul_comm (2 ^ (7*i)),Int.natCast_mul];simp
 rw [e3,z8h (128 ^ i*(c % 128)),BitVec.ofInt_natCast,BitVec.ofInt_natCast,BitVec.toNat_or,BitVec.toNat_ofNat,BitVec.toNat_ofNat,Nat.mod_eq_of_lt (show n<2 ^ 64 by omega),Nat.mod_mod,Nat.mod_eq_of_lt (show 128 ^ i*(c % 128)<2 ^ 64 by omega)]
 have h5:=Nat.two_pow_add_eq_or_of_lt (i:=7*i) (b:=n) (by rw [e2];exact hn) (c % 128)
 rw [e2] at h5
 rw [Nat.or_comm,<- h5,z8h,Nat.mod_eq_of_lt (by omega),Nat.add_comm]
section
variable {w:World} {l r:List HP} {Q:Post} {S:World->Prop}
theorem zrh (n:Nat) (hn:n<18446744073709551616) (hs:Sat w l):Ret P F.a210 #[.int .u64 (n:Int)] w λvs w'=>∃ z:Sl,vs=[z.v]/\Sat w' (slc T.a57 1 z ((z25 n).flatMap zh)::l) :=
 zph n <| by
  delta z02y AP AU Aa Ab
  refine zk (λu w'=>∃ (m:Nat) (z:Sl) (acc:List UInt8),u=((m:Int),z,())/\m<128/\acc.length<=9/\z25 n=acc++[UInt8.ofNat m]/\Sat w' (slc T.a57 1 z (acc.flatMap zh)::l)) ?_ ?_
  ·refine z09 (λk u w=>∃ (z:Sl) (acc:List UInt8),u=((k:Int),z,())/\k<18446744073709551616/\z25 n=acc++z25 k/\Sat w (slc T.a57 1 z (acc.flatMap zh)::l)) n ⟨⟨none,0,0⟩,[],rfl,hn,rfl,hs.slc_nil⟩ ?_
   clear hs
   rintro k _ w ⟨z,acc,rfl,hk,he,hs⟩
   refine zj ?_
   have hal:acc.length<=9:=by
    have h1:=congrArg List.length he
    rw [List.length_append] at h1
    have h2:=z8s n
    have h3:=z8s k
    omega
   refine zg (λh=>?_) λh=>?_
   ·rw [zca hk,if_neg (by omega)] at he
    refine z5m hs (xs:=acc) (enc:=zh) (UInt8.ofNat (k % 128+128)) (λz w' hs=>?_) ?_
    ·refine z1u (y:=((k / 128:Nat):Int)) ?_ (z7v k (by decide))
     refine z0w (k / 128) ?_
     exact ⟨z,acc++[UInt8.ofNat (k % 128+128)],rfl,by omega,by rw [he];simp,hs⟩
    ·unfold zh
     rw [z098,z90]
     simp
   ·rw [zca hk,if_pos (by omega)] at he
    exact zn (zf ⟨k,z,acc,rfl,by omega,hal,he,hs⟩)
  clear hs
  rintro _ w ⟨m,z,acc,rfl,hm,hal,he,hs⟩
  refine zj ?_
  refine z5m hs (xs:=acc) (enc:=zh) (UInt8.ofNat m) (λz w' hs=>?_) ?_
  ·refine ⟨rfl,z,rfl,?_⟩
   rw [he];exact hs
  ·unfold zh
   rw [z90]
   simp
theorem z03b:∀ (k n:Nat) {w:World} {l:List HP},n<128 ^ (k+1)->n<18446744073709551616->Sat w l->Ret P F.a191 #[.int .u64 (n:Int)] w λvs w'=>∃ z:Sl,vs=[z.v]/\Sat w' (slc T.a57 1 z ((z25 n).flatMap zh)::l):=by
 intro k
 induction k with
 | zero =>
  intro n w l hn h64 hs
  refine zfa n ?_
  delta ztg AP Aa Ab Ay
  rw [zca h64,if_pos (by omega)]
  refine z0o ?_ (by omega)
  refine z6h hs (enc:=zh) (UInt8.ofNat n) (λz w' hs=>⟨rfl,z,rfl,hs⟩) ?_
  unfold zh
  rw [z90];simp
 | succ k ih =>
  intro n w l hn h64 hs
  refine zfa n ?_
  delta ztg AP Aa Ab Ay
  rw [zca h64]
  refine zg (λh=>?_) λh=>?_
  ·rw [if_pos (by omega)]
   refine z6h hs (enc:=zh) (UInt8.ofNat n) (λz w' hs=>⟨rfl,z,rfl,hs⟩) ?_
   unfold zh
   rw [z90];simp
  ·rw [if_neg (by omega)]
   have e1:IntKind.wrap .u64 (Int.tmod (n:Int) 128+128)=((n % 128+128:Nat):Int):=by
    rw [z85 n (by decide)]
    have:((n % Int.toNat 128:Nat):Int)+128=((n % 128+128:Nat):Int):=rfl
    rw [this,z8h];omega
   have e2:IntKind.wrap .u64 (Int.tdiv (n:Int) 128)=((n / 128:Nat):Int):=by
    rw [za0 n (by decide),z8h]
    show ((n / 128 % _:Nat):Int)=_
    omega
   rw [e1,e2]
   refine z6h hs (enc:=zh) (UInt8.ofNat (n % 128+128)) (λy w' hs=>?_) ?_
   ·refine z8 (ih (n / 128) (by rw [Nat.pow_succ] at hn;omega) (by omega) hs) λ_ _ hs=>?_
    obtain ⟨z,rfl,hs⟩:=hs
    refine zb ?_
    have hl:=z8s (n / 128)
    have hs:=hs.pick [1,0]
    refine wp_app' (xs:=[UInt8.ofNat (n % 128+128)]) (ys:=z25 (n / 128)) (enc:=zh) hs (λz w' hs=>?_) (by simp;omega)
    have hs:Sat _ (slc T.a57 1 z ((UInt8.ofNat (n % 128+128)::z25 (n / 128)).flatMap zh)::_):=hs
    exact ⟨rfl,z,rfl,hs.sub⟩
   ·unfold zh
    rw [z90];simp
theorem zr9 (x:Sl) (ps:List (Sl × List UInt8)) [hx:FocR l x 1 ((ps.map Prod.fst).flatMap z0c)] (hps:∀ p ∈ ps,FocR l p.1 1 (p.2.flatMap zh)) (hpl:ps.length<=1000000) (hn:(ps.flatMap Prod.snd).length<=1000000000) (hs:Sat w l) :
  Ret P F.a198 #[x.v] w λvs w'=>∃ z:Sl,vs=[z.v]/\Sat w' (slc T.a57 1 z ((ps.flatMap Prod.snd).flatMap zh)::l) :=
 zp5 x <| by
  delta z02m AF AI AJ AP AS Aa Ab Ac Ag Ah Ax Bl
  have hl:=hs.slen x (xs:=ps.map Prod.fst) (enc:=z0c)
  rw [List.length_map] at hl
  have hstep:∀ i (hi:i<ps.length),(ps.take (i+1)).flatMap Prod.snd=(ps.take i).flatMap Prod.snd++ps[i].2:=λi hi=>by
   rw [List.take_add_one,List.getElem?_eq_getElem hi,Option.toList_some,List.flatMap_append,List.flatMap_singleton]
  have hmany:∀ i,((ps.take i).flatMap Prod.snd).length<=1000000000:=λi=>by
   have:ps.flatMap Prod.snd=(ps.take i).flatMap Prod.snd++(ps.drop i).flatMap Prod.snd:=by rw [<- List.flatMap_append,List.take_append_drop]
   rw [this,List.length_append] at hn
   omega
  refine zk (λu w'=>u=((((ps.flatMap Prod.snd).length:Nat):Int),())/\Sat w' l) ?_ ?_
  ·refine z09 (λk u w=>∃ i:Nat,u=(((((ps.take i).flatMap Prod.snd).length:Nat):Int),(i:Int),())/\i<=ps.length/\ps.length-i=k/\Sat w l) ps.length ⟨0,rfl,by omega,rfl,hs⟩ ?_
   clear hs
   rintro k _ w ⟨i,rfl,hi,hk,hs⟩
   refine zj ?_
   refine zg (λhc=>?_) λhc=>?_
   rotate_left
   ·refine zn (zf ⟨?_,hs⟩)
    rw [List.take_of_length_le (by omega)]
   have hil:i<ps.length:=by omega
   refine z1w hs (xs:=ps.map Prod.fst) (enc:=z0c) i (by rw [List.length_map];exact hil) ?_
   rw [List.getElem_map]
   have hF:=hps _ (List.getElem_mem hil)
   have hpi:=hs.slen ps[i].1 (xs:=ps[i].2) (enc:=zh)
   have h1:=hmany (i+1)
   have h2:=congrArg List.length (hstep i hil)
   rw [List.length_append] at h2
   have e:IntKind.wrap .i64 (((((ps.take i).flatMap Prod.snd).length:Nat):Int)+((ps[i].1.len:Nat):Int))=((((ps.take (i+1)).flatMap Prod.snd).length:Nat):Int):=by rw [w64 (by omega) (by omega)];omega
   refine z7r e ?_
   refine z27 (us':=[.int .i64 ((((ps.take (i+1)).flatMap Prod.snd).length:Nat):Int),.int .i64 ((i+1:Nat):Int)]) (by (try simp (disch:=omega) only [w64]);first|rfl|(congr;omega)) ?_
   refine z0w (ps.length-(i+1)) ?_
   exact ⟨i+1,rfl,by omega,rfl,hs⟩
  clear hs
  rintro _ w ⟨rfl,hs⟩
  refine zj ?_
  refine zrd (ps.flatMap Prod.snd).length hs λz w' hs=>?_
  refine zk (λu w'=>∃ z:Sl,u=(z,())/\Sat w' (slc T.a57 1 z ((ps.flatMap Prod.snd).flatMap zh)::l)) ?_ (by rintro _ w' ⟨z,rfl,hs⟩;refine zj ?_;exact ⟨rfl,z,rfl,hs⟩)
  refine z09 (λk u w=>∃ (i:Nat) (z:Sl),u=(z,(i:Int),())/\i<=ps.length/\ps.length-i=k/\Sat w (slc T.a57 1 z (((ps.take i).flatMap Prod.snd).flatMap zh)::l)) ps.length ⟨0,z,rfl,by omega,rfl,hs⟩ ?_
  clear hs
  rintro k _ w ⟨i,z,rfl,hi,hk,hs⟩
  refine zj ?_
  refine zg (λhc=>?_) λhc=>?_
  rotate_left
  ·refine zn (zf ⟨z,rfl,?_⟩)
   rw [List.take_of_length_le (by omega)] at hs
   exact hs
  have hil:i<ps.length:=by omega
  refine z1w hs (xs:=ps.map Prod.fst) (enc:=z0c) i (by rw [List.length_map];exact hil) ?_
  rw [List.getElem_map]
  have hF:=hps _ (List.getElem_mem hil)
  have h1:=hmany (i+1)
  rw [hstep i hil,List.length_append] at h1
  refine wp_app' (xs:=(ps.take i).flatMap Prod.snd) (ys:=ps[i].2) (enc:=zh) hs (λz w' hs=>?_)
  rw [<- hstep i hil] at hs
  refine z27 (us':=[z.v,.int .i64 ((i+1:Nat):Int)]) (by (try simp (disch:=omega) only [w64]);first|rfl|(congr;omega)) ?_
  refine z0w (ps.length-(i+1)) ?_
  exact ⟨i+1,z,rfl,by omega,rfl,hs⟩
theorem zko (x:Sl) (bs:List UInt8) [hx:FocR l x 1 (bs.flatMap zh)] (hn:bs.length<=1000000000) (hs:Sat w l) :
  Ret P F.a0 #[x.v] w λvs w'=>∃ z:Sl,vs=[z.v]/\Sat w' (slc T.a57 1 z (bs.flatMap zh)::l) :=
 zjx x <| by
  delta zf0 AP Aa Ab
  have hl:=hs.slen x (xs:=bs) (enc:=zh)
  refine zg (λh=>?_) λh=>?_
  ·have h:x.a=none:=by simpa using h
   have:bs=[]:=by
    obtain ⟨h1,h2|⟨b,off,arr,T',fr,ha,-⟩⟩:=hx.rd w hs
    ·exact List.length_eq_zero_iff.1 (by omega)
    ·rw [h] at ha;cases ha
   subst this
   exact ⟨rfl,⟨none,0,0⟩,rfl,hs.slc_nil⟩
  ·refine z9j hs (enc:=zh) [] bs0 (λb w' hs=>?_)
   refine wp_app' (xs:=[]) (ys:=bs) (enc:=zh) hs (λz w' hs=>?_) (by simp;omega)
   exact ⟨rfl,z,rfl,hs⟩
structure RdM where
 bs:List UInt8
 at_:Nat
 e:Int
def RdM.fail (R:RdM) (e:Int):RdM:=⟨R.bs,R.at_,if R.e=0 then e else R.e⟩
def RdM.uint (R:RdM):Nat × RdM:=if R.e≠0 then (0,R) else match z2p 0 (R.bs.drop R.at_) with
 | some p=>(p.1,⟨R.bs,R.at_+p.2,R.e⟩)
 | none=>(0,⟨R.bs,R.at_,6⟩)
def RdM.done (R:RdM):RdM:=if R.at_<R.bs.length then R.fail 6 else R
def rdP (T':TypeId) (p:Nat) (R:RdM):HP:=HP.ex λx:Sl=>HP.and (R.at_<=R.bs.length/\R.bs.length<=1000000000) (HP.star (pt p (.cells #[.slice x.a x.len x.cap,.int .i64 R.at_,.int .i64 R.e] T')) (slc T.a57 1 x (R.bs.flatMap zh)))
theorem z1x {T':TypeId} {p:Nat} {R:RdM} (hs:Sat w (rdP T' p R::l)):∃ x:Sl,(R.at_<=R.bs.length/\R.bs.length<=1000000000)/\Sat w (pt p (.cells #[.slice x.a x.len x.cap,.int .i64 R.at_,.int .i64 R.e] T')::slc T.a57 1 x (R.bs.flatMap zh)::l):=by
 obtain ⟨x,hs⟩:=hs.ex
 obtain ⟨h,hs⟩:=hs.and
 exact ⟨x,h,hs.star⟩
theorem z0t {T':TypeId} {p:Nat} (R:RdM) {x:Sl} (h:R.at_<=R.bs.length/\R.bs.length<=1000000000) (hs:Sat w (pt p (.cells #[.slice x.a x.len x.cap,.int .i64 R.at_,.int .i64 R.e] T')::slc T.a57 1 x (R.bs.flatMap zh)::l)):Sat w (rdP T' p R::l) :=
 .ex_mk x (.and_mk h (.star_mk hs))
theorem zr8 (R:RdM):(R.uint.2).bs=R.bs:=by
 unfold RdM.uint
 split
 ·rfl
 ·split <;> rfl
variable {p:Nat} {R:RdM}
theorem zmz (x:Sl) (bs:List UInt8) [hx:FocR l x 1 (bs.flatMap zh)] (hn:bs.length<=1000000000) (hs:Sat w l) :
  Ret P F.a199 #[x.v] w λvs w'=>∃ p:Nat,vs=[.pointer (some ⟨p,0,none⟩)]/\Sat w' (rdP T.a59 p ⟨bs,0,0⟩::l) :=
 zp6 x <| by
  delta z02n Ab Ac Ae Af Ay
  refine z8 (zko x bs hn hs) λ_ _ hs=>?_
  obtain ⟨z,rfl,hs⟩:=hs
  refine zb ?_
  refine zp hs λp w' hs=>?_
  exact ⟨rfl,p,rfl,z0t ⟨bs,0,0⟩ ⟨Nat.zero_le _,hn⟩ hs⟩
theorem zdc [hf:Fo l (rdP T.a59) p R r] (hs:Sat w l):Ret P F.a212 #[.pointer (some ⟨p,0,none⟩)] w λvs w'=>vs=[.int .i64 ((R.bs.length-R.at_:Nat):Int)]/\Sat w' (rdP T.a59 p R::r) :=
 zpj _ <| by
  delta z030 AC AD AF AG Ab Ac Ag Ah Aj Ax
  obtain ⟨x,hb,hs⟩:=z1x (hs.perm hf.perm)
  have hl:=hs.slen x (xs:=R.bs) (enc:=zh)
  refine zw hs λw' hs=>?_
  refine zi ?_
  refine za hs ?_
  refine zi ?_
  refine za hs ?_
  refine z1u (y:=((R.bs.length-R.at_:Nat):Int)) ?_ (by rw [w64 (by omega) (by omega)];omega)
  refine zd ?_
  exact ⟨rfl,rfl,z0t R hb hs⟩
theorem z7d (e:Int) [hf:Fo l (rdP T.a59) p R r] (hs:Sat w l):Ret P F.a211 #[.pointer (some ⟨p,0,none⟩),.int .i64 e] w λvs w'=>vs=[]/\Sat w' (rdP T.a59 p (R.fail e)::r) :=
 zpi _ e <| by
  delta z02z AB AD AE Aa Ab Ac Aj
  obtain ⟨x,hb,hs⟩:=z1x (hs.perm hf.perm)
  refine zi ?_
  refine za hs ?_
  refine zk (λ_ w'=>Sat w' (rdP T.a59 p (R.fail e)::r)) ?_ (by rintro _ w' hs;refine zj ?_;exact ⟨rfl,rfl,hs⟩)
  refine zg (λh=>?_) λh=>?_
  ·refine zi ?_
   refine z02 hs λw' hs=>?_
   refine zf ?_
   have e1:R.fail e=⟨R.bs,R.at_,e⟩:=by unfold RdM.fail;rw [if_pos h]
   rw [e1]
   exact z0t ⟨R.bs,R.at_,e⟩ hb hs
  ·have e1:R.fail e=R:=by unfold RdM.fail;rw [if_neg h]
   rw [e1]
   exact zf (z0t R hb hs)
theorem zqr [hf:Fo l (rdP T.a59) p R r] (he:R.e=0) (hs:Sat w l):Ret P F.a214 #[.pointer (some ⟨p,0,none⟩)] w λvs w'=>vs=[.int .u64 ((R.uint.1:Nat):Int)]/\Sat w' (rdP T.a59 p R.uint.2::r) :=
 zpl _ <| by
  delta z032 AB AC AD AE AF AG AU AY AZ Aa Ab Ac Ad Ag Ah Ai Aj Am Ax
  have hs:=hs.perm hf.perm
  refine zk (λ_ w'=>z2p 0 (R.bs.drop R.at_)=none/\Sat w' (rdP T.a59 p R::r)) ?_ ?_
  rotate_left
  ·rintro _ w' ⟨hno,hs⟩
   refine zj ?_
   refine z8 (z7d (p:=p) 6 hs) λ_ _ hs=>?_
   obtain ⟨rfl,hs⟩:=hs
   refine zb ?_
   have e1:R.uint=(0,R.fail 6):=by unfold RdM.uint RdM.fail;rw [if_neg (by rw [he];simp),hno,if_pos he]
   rw [e1]
   exact ⟨rfl,rfl,hs⟩
  refine z09 (λk u w=>∃ i n:Nat,u=((n:Int),(i:Int),())/\i<=10/\10-i=k/\n<128 ^ i/\z2p 0 (R.bs.drop R.at_)=(z2p i ((R.bs.drop R.at_).drop i)).map (λq=>(n+128 ^ i*q.1,i+q.2))/\Sat w (rdP T.a59 p R::r)) 10
   ⟨0,0,rfl,by omega,rfl,by simp,by simp,hs⟩ ?_
  clear hs
  rintro k _ w ⟨i,n,rfl,hi,hk,hn,hnum,hs⟩
  refine zj ?_
  refine zg (λhc=>?_) λhc=>?_
  rotate_left
  ·refine zn (zf ⟨?_,hs⟩)
   rw [hnum]
   have:z2p i ((R.bs.drop R.at_).drop i)=none:=by
    cases (R.bs.drop R.at_).drop i with
    | nil=>rfl
    | cons c q=>rw [z8o,if_pos (by omega)]
   rw [this];rfl
  refine z8 (zdc (p:=p) hs) λ_ _ hs=>?_
  obtain ⟨rfl,hs⟩:=hs
  refine zb ?_
  refine zg (λhc2=>?_) λhc2=>?_
  ·refine zn (zf ⟨?_,hs⟩)
   rw [hnum,List.drop_drop,List.drop_eq_nil_of_le (by omega)];rfl
  obtain ⟨x,hb,hs⟩:=z1x hs
  have hl:=hs.slen x (xs:=R.bs) (enc:=zh)
  have hlt:R.at_+i<R.bs.length:=by omega
  refine zw hs λw' hs=>?_
  refine zi ?_
  refine za hs ?_
  refine zi ?_
  refine za hs ?_
  refine z1w hs (xs:=R.bs) (enc:=zh) (R.at_+i) hlt ?_ (by rw [w64 (by omega) (by omega)];omega)
  rw [List.drop_drop,List.drop_eq_getElem_cons hlt] at hnum
  generalize R.bs[R.at_+i]=c at hnum
  have hc256:=c.toNat_lt
  refine wp_lt ?_
  refine zd ?_
  have hz:∀ {X:Option (Nat × Nat)},z2p i (c::R.bs.drop (R.at_+i+1))=X->z2p 0 (R.bs.drop R.at_)=X.map (λq=>(n+128 ^ i*q.1,i+q.2)):=λ{X} h=>by rw [hnum,h]
  refine zg (λh9=>?_) λh9=>?_
  ·refine zn (zf ⟨?_,z0t R hb hs⟩)
   refine hz (X:=none) ?_
   rw [z8o]
   rw [if_pos (by right;omega)]
  refine wp_must (by rw [w64 (by omega) (by omega)];omega) ?_
  have h91:i=9->c.toNat<=1:=λe=>by
   apply Nat.le_of_not_lt
   intro h
   exact h9 ⟨by omega,by omega⟩
  rw [z09j hn (by omega) (by omega) h91]
  refine wp_lt ?_
  refine zg (λh128=>?_) λh128=>?_
  ·refine z1u (y:=((i+1:Nat):Int)) ?_ (by rw [w64 (by omega) (by omega)];omega)
   refine z0w (10-(i+1)) ?_
   have hpos:0<128 ^ i:=Nat.pow_pos (by decide)
   have hmul:128 ^ i*(c.toNat % 128)<=128 ^ i*127:=Nat.mul_le_mul_left _ (by omega)
   refine ⟨i+1,_,rfl,by omega,rfl,by rw [Nat.pow_succ];omega,?_,z0t R hb hs⟩
   rw [hnum]
   rw [z8o]
   rw [if_neg (by omega),if_pos (by omega),List.drop_drop,<- Nat.add_assoc]
   cases z2p (i+1) (R.bs.drop (R.at_+i+1)) with
   | none=>rfl
   | some q =>
    simp only [Option.map_some,Option.some.injEq,Prod.mk.injEq]
    refine ⟨?_,by omega⟩
    rw [Nat.pow_succ,Nat.mul_add,Nat.mul_assoc,Nat.add_assoc]
  refine zg (λh0=>?_) λh0=>?_
  ·refine zn (zf ⟨?_,z0t R hb hs⟩)
   refine hz (X:=none) ?_
   rw [z8o]
   rw [if_neg (by omega),if_neg (by omega),if_pos (by omega)]
  have hsome:=hz (X:=some (c.toNat,1)) (by rw [z8o,if_neg (by omega),if_neg (by omega),if_neg (by omega)])
  have e1:R.uint=(n+128 ^ i*c.toNat,⟨R.bs,R.at_+(i+1),R.e⟩):=by
   unfold RdM.uint
   rw [if_neg (by rw [he];simp),hsome];rfl
  rw [e1]
  refine zi ?_
  refine za hs ?_
  refine zi ?_
  have e2:IntKind.wrap .i64 ((R.at_:Int)+IntKind.wrap .i64 ((i:Int)+1))=((R.at_+(i+1):Nat):Int):=by rw [w64 (x:=(i:Int)+1) (by omega) (by omega),w64 (by omega) (by omega)];omega
  rw [e2]
  refine z02 hs λw' hs=>?_
  refine wp_lt ?_
  refine zn (zn ⟨rfl,?_,z0t ⟨R.bs,R.at_+(i+1),R.e⟩ ⟨by show R.at_+(i+1)<=R.bs.length;omega,hb.2⟩ hs⟩)
  rw [show c.toNat % 128=c.toNat by omega]
theorem zd6 [hf:Fo l (rdP T.a59) p R r] (hs:Sat w l):Ret P F.a208 #[.pointer (some ⟨p,0,none⟩)] w λvs w'=>vs=[.bool (decide (R.e=0))]/\Sat w' (rdP T.a59 p R::r) :=
 zpf _ <| by
  delta z02w Ab Ao Ap Bz
  obtain ⟨x,hb,hs⟩:=z1x (hs.perm hf.perm)
  refine z0j ?_
  refine za hs ?_
  refine wp_lt ?_
  refine ⟨rfl,?_,z0t R hb hs⟩
  by_cases h:R.e=0 <;> simp [h]
theorem zqx [hf:Fo l (rdP T.a59) p R r] (hs:Sat w l):Ret P F.a206 #[.pointer (some ⟨p,0,none⟩)] w λvs w'=>vs=[.int .u64 ((R.uint.1:Nat):Int)]/\Sat w' (rdP T.a59 p R.uint.2::r) :=
 zpd _ <| by
  delta z02u AM AU Aa Ab Ad Aj An Bj
  refine z8 (zd6 (p:=p) hs) λ_ _ hs=>?_
  obtain ⟨rfl,hs⟩:=hs
  refine zb ?_
  refine zg (λh=>?_) λh=>?_
  ·have h:R.e≠0:=by simpa using h
   have e1:R.uint=(0,R):=by unfold RdM.uint;rw [if_pos h]
   rw [e1]
   exact ⟨rfl,rfl,hs⟩
  ·have h:R.e=0:=by simpa using h
   refine zi ?_
   refine z8 (zqr (p:=p) h hs) λ_ _ hs=>?_
   obtain ⟨rfl,hs⟩:=hs
   refine zb ?_
   refine wp_lt ?_
   exact ⟨rfl,rfl,hs⟩
theorem z06g [hf:Fo l (rdP T.a59) p R r] (hs:Sat w l):Ret P F.a202 #[.pointer (some ⟨p,0,none⟩)] w λvs w'=>vs=[.int .i64 R.e]/\Sat w' (rdP T.a59 p R::r) :=
 zp9 _ <| by
  delta z02q AD Aa Ab Ac Ah Aj
  obtain ⟨x,hb,hs⟩:=z1x (hs.perm hf.perm)
  refine zy ?_ (by simp)
  refine zi ?_
  refine za hs ?_
  refine wp_lt ?_
  exact ⟨rfl,rfl,z0t R hb hs⟩
theorem z06f [hf:Fo l (rdP T.a59) p R r] (hs:Sat w l):Ret P F.a201 #[.pointer (some ⟨p,0,none⟩)] w λvs w'=>vs=[.int .i64 R.done.e]/\Sat w' (rdP T.a59 p R.done::r) :=
 zp8 _ <| by
  delta z02p AB AD Aa Ab Ac Ah Ai Aj Am An
  refine zy ?_ (by simp)
  refine zi ?_
  refine z8 (zdc (p:=p) hs) λ_ _ hs=>?_
  obtain ⟨rfl,hs⟩:=hs
  refine zb ?_
  refine zk (λ_ w'=>Sat w' (rdP T.a59 p R.done::r)) ?_ ?_
  ·unfold RdM.done
   refine zg (λh=>?_) λh=>?_
   ·rw [if_pos (by omega)]
    refine zi ?_
    refine z8 (z7d (p:=p) 6 hs) λ_ _ hs=>?_
    obtain ⟨rfl,hs⟩:=hs
    refine zb ?_
    exact zf hs
   ·rw [if_neg (by omega)]
    exact zf hs
  clear hs
  rintro _ w hs
  refine zj ?_
  obtain ⟨x,hb,hs⟩:=z1x hs
  refine zi ?_
  refine za hs ?_
  refine wp_lt ?_
  exact ⟨rfl,rfl,z0t R.done hb hs⟩
end
theorem z00l {n:Int} (h:0<=n/\n<9223372036854775808):IntKind.wrap .u64 n=((n.toNat:Nat):Int):=by
 obtain ⟨m,rfl⟩:=Int.eq_ofNat_of_zero_le h.1
 show IntKind.wrap .u64 ((m:Nat):Int)=_
 rw [z8h];omega
def uI (n:Int):List UInt8:=z25 n.toNat
theorem z11 (n:Int):0<(uI n).length/\(uI n).length<=10:=z8s _
section
variable {w:World} {l r:List HP} {Q:Post} {S:World->Prop}
theorem z3j (n:Int) (hn:0<=n/\n<9223372036854775808) (hs:Sat w l):Ret P F.a210 #[.int .u64 (IntKind.wrap .u64 n)] w λvs w'=>∃ z:Sl,vs=[z.v]/\Sat w' (slc T.a57 1 z ((uI n).flatMap zh)::l):=by
 rw [z00l hn]
 exact zrh n.toNat (by omega) hs
theorem zky (n:Int) (hn:0<=n/\n<9223372036854775808) (hs:Sat w l):Ret P F.a191 #[.int .u64 (IntKind.wrap .u64 n)] w λvs w'=>∃ z:Sl,vs=[z.v]/\Sat w' (slc T.a57 1 z ((uI n).flatMap zh)::l):=by
 rw [z00l hn]
 exact z03b 9 n.toNat (by omega) (by omega) hs
theorem zmp (x a b c:Sl) (aa bs cs:List UInt8) [hx:FocR l x 1 ([a,b,c].flatMap z0c)] [ha:FocR l a 1 (aa.flatMap zh)] [hb:FocR l b 1 (bs.flatMap zh)] [hc:FocR l c 1 (cs.flatMap zh)] (hn:aa.length+bs.length+cs.length<=1000000000) (hs:Sat w l) :
  Ret P F.a198 #[x.v] w λvs w'=>∃ z:Sl,vs=[z.v]/\Sat w' (slc T.a57 1 z ((aa++(bs++cs)).flatMap zh)::l):=by
 have:=@zr9 w l x [(a,aa),(b,bs),(c,cs)] hx (by
  intro p hp
  rcases List.mem_cons.1 hp with rfl|hp
  ·exact ha
  rcases List.mem_cons.1 hp with rfl|hp
  ·exact hb
  ·rw [List.mem_singleton.1 hp];exact hc) (by simp) (by simp;omega) hs
 simpa using this
theorem z001 (x a b c d:Sl) (aa bs cs ds:List UInt8) [hx:FocR l x 1 ([a,b,c,d].flatMap z0c)] [ha:FocR l a 1 (aa.flatMap zh)] [hb:FocR l b 1 (bs.flatMap zh)] [hc:FocR l c 1 (cs.flatMap zh)] [hd:FocR l d 1 (ds.flatMap zh)]
  (hn:aa.length+bs.length+cs.length+ds.length<=1000000000) (hs:Sat w l) :
  Ret P F.a198 #[x.v] w λvs w'=>∃ z:Sl,vs=[z.v]/\Sat w' (slc T.a57 1 z ((aa++(bs++(cs++ds))).flatMap zh)::l):=by
 have:=@zr9 w l x [(a,aa),(b,bs),(c,cs),(d,ds)] hx (by
  intro p hp
  rcases List.mem_cons.1 hp with rfl|hp
  ·exact ha
  rcases List.mem_cons.1 hp with rfl|hp
  ·exact hb
  rcases List.mem_cons.1 hp with rfl|hp
  ·exact hc
  ·rw [List.mem_singleton.1 hp];exact hd) (by simp) (by simp;omega) hs
 simpa using this
theorem z88 {P:Program} {t:TypeId} {sz:Nat} {α:Type} {enc:α->List Value} {n:Nat} {ps:Array (Nat × Value)} {el:TypeId} {bytes:Nat} {k:Sl->Prog} (hs:Sat w l) [ht:SlT P t el sz bytes] [hE:EncN enc sz] (xs:List α)
  (h:∀ x w',Sat w' (slc el sz x (xs.flatMap enc)::l)->(k x).wp P S w' Q) (hc:z48 P t n ps=some (el,(xs.flatMap enc).toArray):=by kernel_rfl) (hn:xs.length=n:=by rfl) (hS:∀ w',S w':=by exact λ_=>trivial) :
  (Prog.act (Instr.buildSlice t n ps) sL (u1 k)).wp P S w Q:=z9j hs xs hc (λb w' hs=>h _ w' hs) (by simp) hn hS
end
def z4s (R:RdM):List UInt8:=R.bs.drop R.at_
theorem zx8 {a b:Nat} {x y:List UInt8} (ha:a<18446744073709551616) (hb:b<18446744073709551616) (h:z25 a++x=z25 b++y):a=b/\x=y:=by
 have h1:=zad ha x
 have h2:=zad hb y
 rw [h,h2] at h1
 simp only [Option.some.injEq,Prod.mk.injEq] at h1
 obtain ⟨rfl,-⟩:=h1
 exact ⟨rfl,List.append_cancel_left h⟩
theorem zmm {a b:Int} {x y:List UInt8} (ha:0<=a/\a<18446744073709551616) (hb:0<=b/\b<18446744073709551616) (h:uI a++x=uI b++y):a=b/\x=y:=by
 obtain ⟨h1,h2⟩:=zx8 (by omega) (by omega) h
 exact ⟨by omega,h2⟩
theorem zsy {R:RdM} (hb:R.at_<=R.bs.length) :
  (R.e=0/\R.uint.1<18446744073709551616/\R.uint.2.e=0/\R.uint.2.at_<=R.uint.2.bs.length/\R.uint.2.bs=R.bs/\z4s R=z25 R.uint.1++z4s R.uint.2) \/
  (R.uint.1=0/\R.uint.2.e≠0/\R.uint.2.at_<=R.uint.2.bs.length/\(R.e=0->∀ m z,m<18446744073709551616->z4s R≠z25 m++z)):=by
 unfold RdM.uint z4s
 by_cases h0:R.e=0
 ·rw [if_neg (by rw [h0];simp)]
  cases hn:z2p 0 (R.bs.drop R.at_) with
  | none =>
   refine .inr ⟨rfl,(show (6:Int)≠0 by decide),hb,λ_ m z hm he=>?_⟩
   rw [he,zad hm] at hn
   cases hn
  | some p =>
   obtain ⟨v,k⟩:=p
   obtain ⟨h1,h2⟩:=zfw hn
   have h3:=zfv _ _ _ _ hn
   rw [List.length_drop] at h3
   refine .inl ⟨h0,h2,h0,by show R.at_+k<=R.bs.length;omega,rfl,?_⟩
   show R.bs.drop R.at_=z25 v++R.bs.drop (R.at_+k)
   rw [<- h1,<- List.drop_drop,List.take_append_drop]
 ·rw [if_pos h0]
  exact .inr ⟨rfl,h0,hb,λh=>absurd h h0⟩
theorem zm3 {R:RdM}:(z4s R).length=R.bs.length-R.at_:=by unfold z4s;rw [List.length_drop]
theorem z6b {w:World} {l:List HP} {T':TypeId} {p:Nat} {R:RdM} (hs:Sat w (rdP T' p R::l)):R.at_<=R.bs.length/\R.bs.length<=1000000000:=by
 obtain ⟨x,h,-⟩:=z1x hs
 exact h
theorem zrs {R:RdM} (hb:R.at_<=R.bs.length):R.done.e=0↔R.e=0/\z4s R=[]:=by
 have hl:=zm3 (R:=R)
 unfold RdM.done RdM.fail
 by_cases h:R.at_<R.bs.length
 ·rw [if_pos h]
  constructor
  ·intro h2
   by_cases h3:R.e=0
   ·simp [h3] at h2
   ·simp [h3] at h2
  ·rintro ⟨-,h2⟩
   rw [h2] at hl;simp at hl;omega
 ·rw [if_neg h]
  exact ⟨λh2=>⟨h2,List.length_eq_zero_iff.1 (by omega)⟩,λh2=>h2.1⟩
def zig (n:Int):Nat:=if 0<=n then (2*n).toNat else (-2*n-1).toNat
def zag (m:Nat):Int:=if m % 2=1 then -((m / 2:Nat):Int)-1 else ((m / 2:Nat):Int)
def z5k (n:Int):List UInt8:=z25 (zig n)
theorem z055 (n:Int):zag (zig n)=n:=by
 unfold zag zig
 split <;> split <;> omega
theorem z056 (m:Nat):zig (zag m)=m:=by
 unfold zag zig
 split <;> split <;> omega
theorem zxm {n:Int} (h : -9223372036854775808<=n/\n<9223372036854775808):zig n<18446744073709551616:=by
 unfold zig
 split <;> omega
theorem zjm (n:Int):0<(z5k n).length/\(z5k n).length<=10:=z8s _
theorem xor_zero (x:BitVec 64):x ^^^ BitVec.ofInt 64 0=x:=by
 have:BitVec.ofInt 64 0=0#64:=by decide
 rw [this,BitVec.xor_zero]
theorem zms (x:BitVec 64) {n:Int} (hn:BitVec.ofInt 64 n=BitVec.allOnes 64):(x ^^^ BitVec.ofInt 64 n).toNat=18446744073709551615-x.toNat:=by
 rw [hn,BitVec.xor_allOnes,BitVec.toNat_not]
theorem toNat_ofInt (n:Int):(BitVec.ofInt 64 n).toNat=(n % 18446744073709551616).toNat:=by rw [BitVec.toNat_ofInt];rfl
theorem z89 (n:Int):IntKind.wrap .u64 n=n % 18446744073709551616:=by simp [IntKind.wrap,IntKind.bits,IntKind.signed]
theorem z05k {n:Int} (h : -9223372036854775808<=n/\n<9223372036854775808):Int.fdiv n 9223372036854775808=if 0<=n then 0 else -1:=by
 rw [Int.fdiv_eq_ediv_of_nonneg _ (by omega)]
 split <;> omega
theorem z00a {n:Int} (h : -9223372036854775808<=n/\n<9223372036854775808) :
  (BitVec.toNat (BitVec.ofInt 64 (IntKind.wrap .u64 (IntKind.wrap .u64 n*2)) ^^^ BitVec.ofInt 64 (IntKind.wrap .u64 (Int.fdiv n 9223372036854775808))))=zig n:=by
 rw [z05k h,z89,z89]
 unfold zig
 by_cases h0:0<=n
 ·rw [if_pos h0,if_pos h0,z89,Int.zero_emod,xor_zero,toNat_ofInt];omega
 ·rw [if_neg h0,if_neg h0,zms _ (by rw [z89];decide),toNat_ofInt];omega
theorem z004 {m:Nat} (h:m<18446744073709551616) :
  IntKind.wrap .i64 (((BitVec.toNat (BitVec.ofInt 64 (IntKind.wrap .i64 (Int.fdiv (m:Int) 2)) ^^^ BitVec.ofInt 64 (IntKind.wrap .i64 (0-IntKind.wrap .i64 (IntKind.wrap .u64 (((BitVec.toNat (BitVec.ofInt 64 (m:Int) &&& BitVec.ofInt 64 1):Nat):Int)))))):Nat):Int))=zag m:=by
 have e1:(BitVec.toNat (BitVec.ofInt 64 (m:Int) &&& BitVec.ofInt 64 1))=m % 2:=by
  rw [BitVec.toNat_and,toNat_ofInt,toNat_ofInt]
  have h1:((m:Int) % 18446744073709551616).toNat=m:=by omega
  have h2:((1:Int) % 18446744073709551616).toNat=1:=by decide
  rw [h1,h2,Nat.and_one_is_mod]
 have e2:Int.fdiv (m:Int) 2=((m / 2:Nat):Int):=by rw [Int.fdiv_eq_ediv_of_nonneg _ (by omega)];omega
 rw [e1,e2,z89,w64 (x:=((m / 2:Nat):Int)) (by omega) (by omega)]
 unfold zag
 by_cases h0:m % 2=1
 ·rw [if_pos h0,h0]
  have e3:IntKind.wrap .i64 (0-IntKind.wrap .i64 ((((1:Nat):Int)) % 18446744073709551616)) = -1:=by decide
  rw [e3,zms _ (by decide),toNat_ofInt]
  have e4:((((m / 2:Nat):Int)) % 18446744073709551616).toNat=m / 2:=by omega
  rw [e4]
  have e5:IntKind.wrap .i64 ((18446744073709551615-m / 2:Nat):Int) = -((m / 2:Nat):Int)-1:=by
   rw [zi7];split <;> omega
  exact e5
 ·rw [if_neg h0]
  have h2:m % 2=0:=by omega
  rw [h2]
  have e3:IntKind.wrap .i64 (0-IntKind.wrap .i64 ((((0:Nat):Int)) % 18446744073709551616))=0:=by decide
  rw [e3,xor_zero,toNat_ofInt]
  have e4:((((m / 2:Nat):Int)) % 18446744073709551616).toNat=m / 2:=by omega
  rw [e4,w64 (by omega) (by omega)]
def RdM.within (R:RdM) (lo hi:Int):Int × RdM :=
 if R.uint.2.e≠0 then (0,R.uint.2) else if zag R.uint.1<lo\/zag R.uint.1>hi then (0,⟨R.bs,R.at_,8⟩) else (zag R.uint.1,R.uint.2)
theorem zmn {R:RdM} (h:R.e≠0):R.uint=(0,R):=by unfold RdM.uint;rw [if_pos h]
section
variable {w:World} {l r:List HP} {p:Nat} {R:RdM}
theorem z054 (n:Int) (hn : -9223372036854775808<=n/\n<9223372036854775808) (hs:Sat w l):Ret P F.a197 #[.int .i64 n] w λvs w'=>∃ z:Sl,vs=[z.v]/\Sat w' (slc T.a57 1 z ((z5k n).flatMap zh)::l) :=
 zp4 n <| by
  delta z02l Ab Ay;unfold z5k
  have hz:=zxm hn
  rw [z00a hn]
  generalize zig n=m at hz ⊢
  rw [z8h,Nat.mod_eq_of_lt hz]
  refine z8 (zrh m hz hs) λ_ _ hs=>?_
  obtain ⟨z,rfl,hs⟩:=hs
  refine zb ?_
  exact ⟨rfl,z,rfl,hs⟩
theorem z06h [hf:Fo l (rdP T.a59) p R r] (hs:Sat w l):Ret P F.a204 #[.pointer (some ⟨p,0,none⟩)] w λvs w'=>vs=[.int .i64 (zag R.uint.1)]/\Sat w' (rdP T.a59 p R.uint.2::r) :=
 zpb _ <| by
  delta z02s AF AU Ab Ac Ad Ah Bj
  have hb:=(z6b (hs.perm hf.perm)).1
  have hlt:R.uint.1<18446744073709551616:=by rcases zsy hb with h|h <;> omega
  refine z8 (zqx (p:=p) hs) λ_ _ hs=>?_
  obtain ⟨rfl,hs⟩:=hs
  refine zb ?_
  refine wp_lt ?_
  rw [z004 hlt]
  refine wp_lt ?_
  exact ⟨rfl,rfl,hs⟩
theorem zwv (lo hi:Int) [hf:Fo l (rdP T.a59) p R r] (hs:Sat w l):Ret P F.a207 #[.pointer (some ⟨p,0,none⟩),.int .i64 lo,.int .i64 hi] w λvs w'=>vs=[.int .i64 (R.within lo hi).1]/\Sat w' (rdP T.a59 p (R.within lo hi).2::r) :=
 zpe _ lo hi <| by
  delta z02v AB AD AE AM Aa Ab Ac Ad Ah Ai Aj Am An
  have hb0:=z6b (hs.perm hf.perm)
  refine z8 (zd6 (p:=p) hs) λ_ _ hs=>?_
  obtain ⟨rfl,hs⟩:=hs
  refine zb ?_
  refine zg (λh=>?_) λh=>?_
  ·have h:R.e≠0:=by simpa using h
   unfold RdM.within
   rw [zmn h,if_pos h]
   exact ⟨rfl,rfl,hs⟩
  have h:R.e=0:=by simpa using h
  obtain ⟨x,hb,hs⟩:=z1x hs
  refine zi ?_
  refine za hs ?_
  refine wp_lt ?_
  have hs:Sat _ (rdP T.a59 p R::r):=z0t R hb hs
  refine z8 (z06h (p:=p) hs) λ_ _ hs=>?_
  obtain ⟨rfl,hs⟩:=hs
  refine zb ?_
  refine wp_lt ?_
  have hbs:=zr8 R
  unfold RdM.within
  have hb2:=z6b hs
  generalize R.uint.1=m at *
  generalize R.uint.2=R1 at *
  obtain ⟨x,-,hs⟩:=z1x hs
  refine zi ?_
  refine za hs ?_
  refine zk (λ_ w'=>Sat w' (rdP T.a59 p (if R1.e≠0 then R1 else if zag m<lo\/zag m>hi then ⟨R.bs,R.at_,8⟩ else R1)::r)) ?_ ?_
  ·refine zg (λh2=>?_) λh2=>?_
   ·obtain ⟨h3,h4⟩:=h2
    have e:(if R1.e≠0 then R1 else if zag m<lo\/zag m>hi then (⟨R.bs,R.at_,8⟩:RdM) else R1)=⟨R.bs,R.at_,8⟩:=by rw [if_neg (by rw [h3];simp),if_pos h4]
    refine zi ?_
    refine z02 hs λw' hs=>?_
    refine zi ?_
    have hs:Sat w' (rdP T.a59 p ⟨R.bs,R.at_,0⟩::r):=z0t (x:=x) ⟨R.bs,R.at_,0⟩ hb0 (by rw [hbs,h3] at hs;exact hs)
    refine z8 (z7d (p:=p) 8 hs) λ_ w' hs=>?_
    obtain ⟨rfl,hs⟩:=hs
    refine zb ?_
    refine zf ?_
    rw [e]
    exact hs
   ·refine zf ?_
    have e:(if R1.e≠0 then R1 else if zag m<lo\/zag m>hi then (⟨R.bs,R.at_,8⟩:RdM) else R1)=R1:=by
     by_cases h3:R1.e=0
     ·rw [if_neg (by rw [h3];simp),if_neg (λh4=>h2 ⟨h3,h4⟩)]
     ·rw [if_pos h3]
    rw [e]
    exact z0t R1 hb2 hs
  clear hs
  rintro _ w hs
  refine zj ?_
  by_cases h3:R1.e=0
  ·rw [if_neg (by rw [h3];simp)] at hs ⊢
   by_cases h4:zag m<lo\/zag m>hi
   ·rw [if_pos h4] at hs ⊢
    obtain ⟨x,-,hs⟩:=z1x hs
    refine zi ?_
    refine za hs ?_
    refine z0o ?_ (by simp)
    exact ⟨rfl,rfl,z0t ⟨R.bs,R.at_,8⟩ hb0 hs⟩
   ·rw [if_neg h4] at hs ⊢
    obtain ⟨x,-,hs⟩:=z1x hs
    refine zi ?_
    refine za hs ?_
    refine zy ?_ (by rw [h3];simp)
    refine wp_lt ?_
    exact ⟨rfl,rfl,z0t R1 hb2 hs⟩
  ·rw [if_pos h3] at hs ⊢
   obtain ⟨x,-,hs⟩:=z1x hs
   refine zi ?_
   refine za hs ?_
   refine z0o ?_ h3
   exact ⟨rfl,rfl,z0t R1 hb2 hs⟩
end
abbrev Lf:=Option (List UInt8)
def zv:Lf->Nat × Lf
 | none=>(0,none)
 | some bs=>match z2p 0 bs with
  | none=>(0,none)
  | some p=>(p.1,some (bs.drop p.2))
def z1i (lo hi:Int) (s:Lf):Int × Lf:=match (zv s).2 with
 | none=>(0,none)
 | some t=>if zag (zv s).1<lo\/zag (zv s).1>hi then (0,none) else (zag (zv s).1,some t)
def z0u:Lf->Nat × Lf
 | some (c::t)=>(c.toNat,some t)
 | _=>(0,none)
def z4e:Lf->Bool × Lf
 | some (c::t)=>if c.toNat<=1 then (decide (c.toNat=1),some t) else (false,none)
 | _=>(false,none)
def z1h (most:Nat) (s:Lf):ByteArray × Lf:=match (zv s).2 with
 | none=>(⟨#[]⟩,none)
 | some t=>if (zv s).1<=most/\(zv s).1<=t.length then (⟨(t.take (zv s).1).toArray⟩,some (t.drop (zv s).1)) else (⟨#[]⟩,none)
def z01 (most:Int) (s:Lf):Int × Lf:=(if ((zv s).1:Int)>most then most+1 else (zv s).1,(zv s).2)
abbrev bl (s:ByteArray):List UInt8:=s.data.toList
theorem z4q {v:Nat} (h:v<18446744073709551616) (t:List UInt8):zv (some (z25 v++t))=(v,some t):=by
 unfold zv
 simp only [zad h,List.drop_left]
theorem z4p {s:Lf} {t:List UInt8} (h:(zv s).2=some t):(zv s).1<18446744073709551616/\s=some (z25 (zv s).1++t):=by
 cases s with
 | none=>cases h
 | some bs =>
  cases hn:z2p 0 bs with
  | none =>
   have e:zv (some bs)=(0,none):=by unfold zv;simp only [hn]
   rw [e] at h;cases h
  | some p =>
   obtain ⟨v,k⟩:=p
   have e:zv (some bs)=(v,some (bs.drop k)):=by unfold zv;simp only [hn]
   rw [e] at h ⊢
   obtain ⟨h1,h2⟩:=zfw hn
   simp only [Option.some.injEq] at h ⊢
   subst h
   exact ⟨h2,by rw [<- h1,List.take_append_drop]⟩
theorem zmo {lo hi n:Int} (h1:lo<=n) (h2:n<=hi) (hn : -9223372036854775808<=n/\n<9223372036854775808) (t:List UInt8):z1i lo hi (some (z5k n++t))=(n,some t):=by
 unfold z1i z5k
 simp only [z4q (zxm hn),z055]
 rw [if_neg (by omega)]
theorem zn4 {lo hi:Int} {s:Lf} {t:List UInt8} (h:(z1i lo hi s).2=some t):(lo<=(z1i lo hi s).1/\(z1i lo hi s).1<=hi)/\s=some (z5k (z1i lo hi s).1++t):=by
 unfold z1i at h ⊢
 cases hu:(zv s).2 with
 | none=>rw [hu] at h;cases h
 | some t' =>
  have h2:=z4p hu
  rw [hu] at h
  simp only at h ⊢
  split at h
  ·cases h
  rename_i h3
  simp only [Option.some.injEq] at h
  subst h
  rw [if_neg h3]
  refine ⟨by omega,?_⟩
  unfold z5k
  rw [z056]
  exact h2.2
theorem zcv {s:Lf} {t:List UInt8} (h:(z0u s).2=some t):(z0u s).1<256/\s=some (UInt8.ofNat (z0u s).1::t):=by
 match s,h with
 | some (c::r),h =>
  have h:some r=some t:=h
  cases h
  refine ⟨c.toNat_lt,?_⟩
  show some (c::t)=some (UInt8.ofNat c.toNat::t)
  rw [UInt8.ofNat_toNat]
 | some [],h=>cases h
 | none,h=>cases h
def z8d (b:Bool):UInt8:=if b then 1 else 0
theorem zs1 (b:Bool) (t:List UInt8):z4e (some (z8d b::t))=(b,some t):=by
 cases b <;> rfl
theorem zvz {s:Lf} {t:List UInt8} (h:(z4e s).2=some t):s=some (z8d (z4e s).1::t):=by
 match s,h with
 | some (c::r),h =>
  unfold z4e at h ⊢
  simp only at h ⊢
  split at h
  ·rename_i h1
   simp only [Option.some.injEq] at h
   subst h
   rw [if_pos h1]
   congr 2
   by_cases h2:c.toNat=1
   ·rw [decide_eq_true h2];exact UInt8.toNat_inj.1 h2
   ·rw [decide_eq_false h2];exact UInt8.toNat_inj.1 (by show c.toNat=0;omega)
  ·cases h
 | some [],h=>cases h
 | none,h=>cases h
theorem z1f (s:ByteArray):(bl s).length=s.size:=rfl
theorem zge (l:List UInt8):bl ⟨l.toArray⟩=l:=by simp [bl]
theorem zct {a b:ByteArray} (h:bl a=bl b):a=b:=by
 cases a;cases b;exact congrArg ByteArray.mk (Array.ext' h)
theorem zha {most:Nat} (x:ByteArray) (h:x.size<=most) (hm:most<4294967296) (t:List UInt8):z1h most (some (uI x.size++(bl x++t)))=(x,some t):=by
 unfold z1h uI
 have e:((x.size:Int)).toNat=x.size:=by omega
 rw [e]
 simp only [z4q (show x.size<18446744073709551616 by omega)]
 rw [if_pos ⟨h,by rw [List.length_append,z1f];omega⟩,<- z1f,List.take_left,List.drop_left]
theorem zjq {most:Nat} {s:Lf} {t:List UInt8} (h:(z1h most s).2=some t):(z1h most s).1.size<=most/\s=some (uI (z1h most s).1.size++(bl (z1h most s).1++t)):=by
 unfold z1h at h ⊢
 cases hu:(zv s).2 with
 | none=>rw [hu] at h;cases h
 | some t' =>
  have h2:=z4p hu
  rw [hu] at h
  simp only at h ⊢
  split at h
  rotate_left
  ·cases h
  rename_i h3
  simp only [Option.some.injEq] at h
  subst h
  rw [if_pos h3]
  have e:(ByteArray.mk (t'.take (zv s).1).toArray).size=(zv s).1:=by
   show (t'.take (zv s).1).length=_
   rw [List.length_take];omega
  refine ⟨by rw [e];exact h3.1,?_⟩
  rw [e,zge,List.take_append_drop]
  unfold uI
  exact h2.2
theorem z5l {most n:Int} (h0:0<=n) (hn:n<=most) (hm:most<9223372036854775808) (t:List UInt8):z01 most (some (uI n++t))=(n,some t):=by
 unfold z01 uI
 rw [z4q (by omega),if_neg (by simp only;omega)]
 congr 1
 simp only;omega
theorem z6f {most:Int} (hm:0<=most) {s:Lf} {t:List UInt8} (h:(z01 most s).2=some t):(0<=(z01 most s).1/\(z01 most s).1<=most+1)/\((z01 most s).1<=most->s=some (uI (z01 most s).1++t)):=by
 have h2:=z4p (show (zv s).2=some t from h)
 unfold z01
 simp only
 split
 ·exact ⟨⟨by omega,by omega⟩,λh3=>absurd h3 (by omega)⟩
 ·refine ⟨⟨by omega,by omega⟩,λh3=>?_⟩
  unfold uI
  rw [Int.toNat_natCast]
  exact h2.2
def z0k:List UInt8->List UInt8->Nat
 | a::x,b::y=>if a=b then z0k x y+1 else 0
 | _,_=>0
theorem za5:∀ x y:List UInt8,z0k x y<=x.length/\z0k x y<=y.length
 | [],_=>by simp [z0k]
 | _::_,[]=>by simp [z0k]
 | a::x,b::y=>by
  have:=za5 x y
  unfold z0k
  split <;> simp <;> omega
theorem zeb:∀ x y:List UInt8,x.take (z0k x y)=y.take (z0k x y)
 | [],_=>by simp [z0k]
 | _::_,[]=>by simp [z0k]
 | a::x,b::y=>by
  unfold z0k
  split
  ·rename_i h
   rw [List.take_succ_cons,List.take_succ_cons,h,zeb x y]
  ·rfl
theorem zcq:∀ {x y:List UInt8} {i:Nat} (h1:i<=x.length) (h2:i<=y.length),x.take i=y.take i->(i=x.length\/i=y.length\/x[i]? ≠ y[i]?)->z0k x y=i
 | [],y,i,h1,h2,_,_=>by simp at h1;simp [z0k,h1]
 | _::_,[],i,h1,h2,_,_=>by simp at h2;simp [z0k,h2]
 | a::x,b::y,0,_,_,_,h=>by
  unfold z0k
  rw [if_neg]
  rintro rfl
  rcases h with h|h|h
  ·simp at h
  ·simp at h
  ·simp at h
 | a::x,b::y,i+1,h1,h2,ht,h=>by
  rw [List.take_succ_cons,List.take_succ_cons,List.cons.injEq] at ht
  unfold z0k
  rw [if_pos ht.1,zcq (by simpa using h1) (by simpa using h2) ht.2]
  rcases h with h|h|h
  ·left;simpa using h
  ·right;left;simpa using h
  ·right;right;simpa using h
def z71 (ahead key:ByteArray):List UInt8:=uI (key.size-z0k (bl ahead) (bl key):Nat)++(bl key).drop (z0k (bl ahead) (bl key))
def z6c (time:Int) (ahead:ByteArray) (r:RecM):List UInt8 :=
 z5k (r.time-time)++(z8d r.gone::(uI (z0k (bl ahead) (bl r.key):Nat)++(z71 ahead r.key++if r.gone then [] else uI r.value.size++bl r.value)))
def z2h (time:Int):ByteArray->List RecM->List UInt8
 | _,[]=>[]
 | ahead,r::rs=>z6c time ahead r++z2h time r.key rs
def z2j (b:BatM):List UInt8 :=
 1::UInt8.ofNat b.kind.toNat::(uI b.base++(uI b.pid++((if b.pid>0 then uI b.epoch++(if z0h b then [] else uI b.seq) else [])++(uI b.time++if z0h b then [] else uI b.rs.length++z2h b.time ⟨#[]⟩ b.rs))))
def BatM.p (b:BatM):BatM:={ b with x:=⟨none,0,0⟩ }
def z57 (ahead:ByteArray) (n:Int) (rest:ByteArray):ByteArray:=ahead.extract 0 n.toNat++rest
def z3c (time:Int) (ahead:ByteArray) (s:Lf):Option RecM × Lf :=
 if (z01 1024 (z4e (z1i (-1099511627776) 1099511627776 s).2).2).1>ahead.size then (none,(z1h 1024 (z01 1024 (z4e (z1i (-1099511627776) 1099511627776 s).2).2).2).2) else
 let a:=z1i (-1099511627776) 1099511627776 s
 let b:=z4e a.2
 let c:=z01 1024 b.2
 let d:=z1h 1024 c.2
 let e:=if b.1 then (⟨#[]⟩,d.2) else z1h 1024 d.2
 if e.2.isSome=true/\(z0k (bl ahead) (bl (z57 ahead c.1 d.1)):Int)=c.1 then (some ⟨z57 ahead c.1 d.1,e.1,b.1,time+a.1⟩,e.2) else (none,e.2)
def z4m (time:Int):Nat->ByteArray->Lf->Option (List RecM × Lf)
 | 0,_,s=>some ([],s)
 | n+1,ahead,s=>match (z3c time ahead s).1 with
  | none=>none
  | some x=>(z4m time n x.key (z3c time ahead s).2).map λq=>(x::q.1,q.2)
theorem zpt (ahead rest:ByteArray) (n:Int):bl (z57 ahead n rest)=(bl ahead).take n.toNat++bl rest:=by
 unfold z57 bl
 simp [List.extract_eq_take_drop]
theorem zw4 (ahead key:ByteArray):z57 ahead (z0k (bl ahead) (bl key):Nat) ⟨((bl key).drop (z0k (bl ahead) (bl key))).toArray⟩=key:=by
 apply zct
 rw [zpt,zge,Int.toNat_natCast,zeb,List.take_append_drop]
theorem z3p {r:RecM} (h:z1z r=0):r.key.size<=1024/\r.value.size<=1024/\(0<=r.time/\r.time<=1099511627776)/\(r.gone=true->r.value=⟨#[]⟩):=by
 unfold z1z at h
 split at h
 ·cases h
 rename_i h1
 split at h
 ·cases h
 rename_i h2
 refine ⟨by omega,by omega,by omega,λhg=>?_⟩
 apply Decidable.byContradiction
 intro h3
 exact h2 (.inr ⟨hg,zmc.2 h3⟩)
theorem zst {time:Int} (ht:0<=time/\time<=1099511627776) {r:RecM} (hr:z1z r=0) (ahead:ByteArray) (t:List UInt8):z3c time ahead (some (z6c time ahead r++t))=(some r,some t):=by
 obtain ⟨h1,h2,h3,h4⟩:=z3p hr
 have hle:=za5 (bl ahead) (bl r.key)
 rw [z1f,z1f] at hle
 have hd:(ByteArray.mk ((bl r.key).drop (z0k (bl ahead) (bl r.key))).toArray).size=r.key.size-z0k (bl ahead) (bl r.key):=by
  show ((bl r.key).drop _).length=_
  rw [List.length_drop,z1f]
 have e0:z6c time ahead r++t=z5k (r.time-time)++(z8d r.gone::(uI (z0k (bl ahead) (bl r.key):Nat)++(uI ((ByteArray.mk ((bl r.key).drop (z0k (bl ahead) (bl r.key))).toArray).size:Nat)++(bl (ByteArray.mk ((bl r.key).drop (z0k (bl ahead) (bl r.key))).toArray)++((if r.gone then [] else uI r.value.size++bl r.value)++t))))):=by
  rw [hd,zge]
  unfold z6c z71
  simp only [List.append_assoc,List.cons_append]
 rw [e0]
 generalize hZ:(if r.gone then [] else uI r.value.size++bl r.value)++t=Z
 have e1:=zmo (lo := -1099511627776) (hi:=1099511627776) (n:=r.time-time) (by omega) (by omega) (by omega)
 have e3:=z5l (most:=1024) (n:=(z0k (bl ahead) (bl r.key):Nat)) (by omega) (by omega) (by omega)
 have e4:=zha (most:=1024) (ByteArray.mk ((bl r.key).drop (z0k (bl ahead) (bl r.key))).toArray) (by rw [hd];omega) (by omega)
 unfold z3c
 simp only [e1,zs1,e3,e4,zw4]
 rw [if_neg (by omega)]
 have e5:(if r.gone=true then ((⟨#[]⟩:ByteArray),some Z) else z1h 1024 (some Z))=(r.value,some t):=by
  by_cases hg:r.gone=true
  ·rw [if_pos hg] at hZ ⊢
   rw [h4 hg,<- hZ];rfl
  ·rw [if_neg hg] at hZ ⊢
   rw [<- hZ,List.append_assoc]
   exact zha _ h2 (by omega) t
 rw [e5]
 simp only [Option.isSome_some,true_and]
 rw [if_pos trivial,show time+(r.time-time)=r.time by omega]
theorem zwt {time:Int} {ahead:ByteArray} (hah:ahead.size<=1024) {s:Lf} {r:RecM} (h:(z3c time ahead s).1=some r):∃ t,(z3c time ahead s).2=some t/\s=some (z6c time ahead r++t):=by
 unfold z3c at h ⊢
 split at h
 ·cases h
 rename_i hc
 rw [if_neg hc]
 simp only at h ⊢
 generalize ha:z1i (-1099511627776) 1099511627776 s=a at *
 generalize hb:z4e a.2=b at *
 generalize hcc:z01 1024 b.2=c at *
 generalize hd:z1h 1024 c.2=d at *
 generalize he:(if b.1=true then ((⟨#[]⟩:ByteArray),d.2) else z1h 1024 d.2)=e at *
 split at h
 rotate_left
 ·cases h
 rename_i h5
 rw [if_pos h5]
 obtain ⟨h5,h6⟩:=h5
 obtain ⟨t,ht⟩:=Option.isSome_iff_exists.1 h5
 refine ⟨t,ht,?_⟩
 simp only [Option.some.injEq] at h
 have hd2:d.2=some ((if b.1=true then [] else uI e.1.size++bl e.1)++t):=by
  by_cases hg:b.1=true
  ·rw [if_pos hg] at he ⊢
   rw [<- he] at ht
   exact ht
  ·rw [if_neg hg] at he ⊢
   rw [<- he] at ht ⊢
   rw [List.append_assoc]
   exact (zjq ht).2
 rw [<- hd] at hd2
 have h7:=zjq hd2
 rw [hd] at h7
 have hc2:c.2=_:=h7.2
 rw [<- hcc] at hc2
 have h8:=z6f (by omega) hc2
 rw [hcc] at h8
 have hle:=za5 (bl ahead) (bl (z57 ahead c.1 d.1))
 have hb2:=h8.2 (by omega)
 rw [<- hb] at hb2
 have ha2:=zvz hb2
 rw [hb,<- ha] at ha2
 have h9:=zn4 ha2
 rw [ha] at h9
 rw [h9.2,<- h]
 unfold z6c z71
 simp only
 have hn:c.1.toNat=z0k (bl ahead) (bl (z57 ahead c.1 d.1)):=by omega
 have hl1:((bl ahead).take c.1.toNat).length=c.1.toNat:=by rw [List.length_take,hn];omega
 have hdrop:(bl (z57 ahead c.1 d.1)).drop c.1.toNat=bl d.1:=by
  rw [zpt]
  exact List.drop_left' hl1
 have hsz:(z57 ahead c.1 d.1).size-c.1.toNat=d.1.size:=by
  rw [<- z1f,<- z1f,<- hdrop,List.length_drop]
 rw [<- hn,hdrop,hsz,show time+a.1-time=a.1 by omega,show ((c.1.toNat:Nat):Int)=c.1 by omega]
 simp only [List.append_assoc,List.cons_append]
theorem zh4 {time:Int} (ht:0<=time/\time<=1099511627776):∀ {rs:List RecM} (hr:∀ r ∈ rs,z1z r=0) (ahead:ByteArray) (t:List UInt8),z4m time rs.length ahead (some (z2h time ahead rs++t))=some (rs,some t)
 | [],_,_,_=>rfl
 | r::rs,hr,ahead,t=>by
  have e:=zst ht (hr r (List.mem_cons_self ..)) ahead (z2h time r.key rs++t)
  show z4m time (rs.length+1) ahead (some ((z6c time ahead r++z2h time r.key rs)++t))=_
  rw [List.append_assoc]
  unfold z4m
  rw [e]
  simp only
  rw [zh4 ht (λx hx=>hr x (List.mem_cons_of_mem _ hx)) r.key t]
  rfl
theorem zjf {time:Int}:∀ {n:Nat} {ahead:ByteArray} (hah:ahead.size<=1024) {s:Lf} {rs:List RecM} {t:List UInt8} (hk:∀ r ∈ rs,r.key.size<=1024) (h:z4m time n ahead s=some (rs,some t)),rs.length=n/\s=some (z2h time ahead rs++t)
 | 0,ahead,hah,s,rs,t,hk,h=>by
  simp only [z4m,Option.some.injEq,Prod.mk.injEq] at h
  obtain ⟨rfl,rfl⟩:=h
  exact ⟨rfl,rfl⟩
 | n+1,ahead,hah,s,rs,t,hk,h=>by
  unfold z4m at h
  cases hx:(z3c time ahead s).1 with
  | none=>rw [hx] at h;cases h
  | some x =>
   rw [hx] at h
   simp only [Option.map_eq_some_iff,Prod.mk.injEq] at h
   obtain ⟨⟨rs',s'⟩,h1,rfl,rfl⟩:=h
   obtain ⟨t1,h2,h3⟩:=zwt hah hx
   rw [h2] at h1
   have hk1:x.key.size<=1024:=hk x (List.mem_cons_self ..)
   obtain ⟨h4,h5⟩:=zjf hk1 (λr hr=>hk r (List.mem_cons_of_mem _ hr)) h1
   simp only [Option.some.injEq] at h5
   refine ⟨by rw [List.length_cons,h4],?_⟩
   rw [h3,h5]
   show some (z6c time ahead x++(z2h time x.key rs'++t))=some ((z6c time ahead x++z2h time x.key rs')++t)
   rw [List.append_assoc]
def z7k:Sl:=⟨none,0,0⟩
structure HdS where
 k:Nat × Lf
 ba:Int × Lf
 pi:Int × Lf
 ep:Int × Lf
 sq:Int × Lf
 tm:Int × Lf
def z36 (k:Nat):Bool:=decide ((k:Int)=2) || decide ((k:Int)=3)
def hdS (s:Lf):HdS :=
 let k:=z0u s
 let ba:=z01 1099511627776 k.2
 let pi:=z01 1048576 ba.2
 let ep:=if pi.1>0 then z01 32767 pi.2 else (0,pi.2)
 let sq:=if pi.1>0/\z36 k.1=false then z01 2147483647 ep.2 else (0,ep.2)
 ⟨k,ba,pi,ep,sq,z01 1099511627776 sq.2⟩
def HdS.b (h:HdS) (rs:List RecM):BatM:=⟨h.ba.1,h.pi.1,h.ep.1,h.sq.1,h.k.1,h.tm.1,z7k,rs⟩
def zkp (h:HdS):Option BatM :=
 if h.tm.2.isSome=false\/h.tm.1>1099511627776 then none else
 if z36 h.k.1=true then (if h.tm.2=some []/\z04 (h.b [])=0 then some (h.b []) else none) else
 if (z01 64 h.tm.2).1>64 then none else
 match z4m h.tm.1 (z01 64 h.tm.2).1.toNat ⟨#[]⟩ (z01 64 h.tm.2).2 with
 | none=>none
 | some q=>if q.2=some []/\z04 (h.b q.1)=0 then some (h.b q.1) else none
def z5z (raw:List UInt8):Option BatM:=if (z0u (some raw)).1≠1 then none else zkp (hdS (z0u (some raw)).2)
theorem zkm:∀ {rs:List RecM},z5x rs=0->∀ r ∈ rs,z1z r=0
 | [],_,r,h=>by cases h
 | x::rs,h,r,hr=>by
  have h:(if z1z x≠0 then z1z x else z5x rs)=0:=h
  by_cases hx:z1z x≠0
  ·rw [if_pos hx] at h;exact absurd h hx
  rw [if_neg hx] at h
  rcases List.mem_cons.1 hr with rfl|hr
  ·exact Decidable.not_not.1 hx
  ·exact zkm h r hr
theorem z26 {b:BatM} (hv:z04 b=0):b.rs.length<=64/\∀ r ∈ b.rs,z1z r=0:=by
 unfold z04 at hv
 split at hv
 ·cases hv
 split at hv
 ·cases hv
 rename_i h2
 split at hv
 ·rename_i h3;exact absurd hv h3
 rename_i h3
 exact ⟨by omega,zkm (Decidable.not_not.1 h3)⟩
theorem zqd {b:BatM} (h:0<=b.kind):z36 b.kind.toNat=z0h b:=by
 unfold z36 z0h
 rw [Int.toNat_of_nonneg h]
theorem zy9 {b:BatM} (hv:z04 b=0):∃ s1 s2 s3 s4 s5,hdS (z0u (some (z2j b))).2=⟨(b.kind.toNat,s1),(b.base,s2),(b.pid,s3),(b.epoch,s4),(b.seq,s5),(b.time,some (if z0h b then [] else uI b.rs.length++z2h b.time ⟨#[]⟩ b.rs))⟩:=by
 obtain ⟨-,-,⟨hk,hba,hpi,hep,hsq,htm⟩,hfit,-⟩:=z17 b hv
 unfold z2j
 generalize hY:(if z0h b then [] else uI b.rs.length++z2h b.time ⟨#[]⟩ b.rs)=Y
 have e1:∀ t,z0u (some (UInt8.ofNat b.kind.toNat::t))=(b.kind.toNat,some t):=λt=>by
  show ((UInt8.ofNat b.kind.toNat).toNat,some t)=_
  rw [UInt8.toNat_ofNat']
  congr 1
  omega
 have e2:=z5l (most:=1099511627776) (n:=b.base) hba.1 hba.2 (by omega)
 have e3:=z5l (most:=1048576) (n:=b.pid) hpi.1 hpi.2 (by omega)
 have e4:=z5l (most:=32767) (n:=b.epoch) hep.1 hep.2 (by omega)
 have e5:=z5l (most:=2147483647) (n:=b.seq) hsq.1 hsq.2 (by omega)
 have e6:=z5l (most:=1099511627776) (n:=b.time) htm.1 htm.2 (by omega)
 show ∃ s1 s2 s3 s4 s5,hdS (some (UInt8.ofNat b.kind.toNat::_))=_
 unfold hdS
 simp only [e1,e2,e3,zqd hk.1]
 by_cases hp:b.pid>0
 ·rw [if_pos hp,if_pos hp]
  by_cases hm:z0h b=true
  ·have hs0:b.seq=0:=by have:=hfit.2;rw [if_pos hm] at this;exact this.1
   simp only [hm,if_true,Bool.true_eq_false,and_false,if_false,List.append_nil,List.append_assoc,e4,e6]
   exact ⟨_,_,_,_,_,by rw [hs0]⟩
  ·have hm:z0h b=false:=by simpa using hm
   simp only [hm,hp,Bool.false_eq_true,and_self,if_true,if_false,List.append_assoc,e4,e5,e6]
   exact ⟨_,_,_,_,_,rfl⟩
 ·have h0:b.pid=0:=by omega
  have hz:b.kind=0/\b.epoch=0/\b.seq=0:=by
   have:=hfit.1
   refine ⟨?_,?_,?_⟩ <;> (apply Decidable.byContradiction;intro h;apply this;simp [h0,h])
  rw [if_neg hp,if_neg hp,if_neg (λh=>hp h.1)]
  simp only [List.nil_append,e6]
  exact ⟨_,_,_,_,_,by rw [hz.2.1,hz.2.2]⟩
theorem zik {b:BatM} (hv:z04 b=0):z5z (z2j b)=some b.p:=by
 obtain ⟨s1,s2,s3,s4,s5,h⟩:=zy9 hv
 obtain ⟨-,-,⟨hk,hba,hpi,hep,hsq,htm⟩,hfit,-⟩:=z17 b hv
 obtain ⟨h64,hrs⟩:=z26 hv
 have hb:∀ rs,(HdS.mk (b.kind.toNat,s1) (b.base,s2) (b.pid,s3) (b.epoch,s4) (b.seq,s5) (b.time,some (if z0h b then [] else uI b.rs.length++z2h b.time ⟨#[]⟩ b.rs))).b rs={ b.p with rs:=rs }:=λrs=>by
  unfold HdS.b BatM.p
  simp only [Int.toNat_of_nonneg hk.1]
  rfl
 unfold z5z
 rw [h,if_neg (by show ¬ ((1:Nat)≠1);simp)]
 unfold zkp
 rw [if_neg (by simp only [Option.isSome_some];rintro (h|h);cases h;omega)]
 simp only [hb,zqd hk.1]
 by_cases hm:z0h b=true
 ·have h0:b.rs=[]:=by have:=hfit.2;rw [if_pos hm] at this;exact List.length_eq_zero_iff.1 this.2
  rw [if_pos hm,if_pos hm]
  have e:{ b.p with rs:=[] }=b.p:=by rw [<- h0];rfl
  rw [e,if_pos ⟨rfl,hv⟩]
 ·have e1:=z5l (most:=64) (n:=(b.rs.length:Int)) (by omega) (by omega) (by omega) (z2h b.time ⟨#[]⟩ b.rs)
  have e2:=zh4 htm hrs ⟨#[]⟩ []
  rw [List.append_nil] at e2
  rw [if_neg hm,if_neg hm]
  simp only [e1,Int.toNat_natCast,e2]
  rw [if_neg (by omega),if_pos (by first|exact ⟨rfl,hv⟩|exact ⟨trivial,hv⟩)]
  rfl
theorem zq2 {s:Lf} {t:List UInt8} (h:(hdS s).tm.2=some t) (htm:(hdS s).tm.1<=1099511627776) {rs:List RecM} (hv:z04 ((hdS s).b rs)=0) :
  s=some (UInt8.ofNat ((hdS s).b rs).kind.toNat::(uI ((hdS s).b rs).base++(uI ((hdS s).b rs).pid++((if ((hdS s).b rs).pid>0 then uI ((hdS s).b rs).epoch++(if z0h ((hdS s).b rs) then [] else uI ((hdS s).b rs).seq) else [])++(uI ((hdS s).b rs).time++t))))):=by
 obtain ⟨-,-,⟨hk,hba,hpi,hep,hsq,-⟩,hfit,-⟩:=z17 _ hv
 unfold hdS at *
 unfold HdS.b at *
 simp only at *
 generalize e1:z0u s=k at *
 generalize e2:z01 1099511627776 k.2=ba at *
 generalize e3:z01 1048576 ba.2=pi at *
 generalize e4:(if pi.1>0 then z01 32767 pi.2 else (0,pi.2))=ep at *
 generalize e5:(if pi.1>0/\z36 k.1=false then z01 2147483647 ep.2 else (0,ep.2))=sq at *
 have hmk:z0h (⟨ba.1,pi.1,ep.1,sq.1,k.1,(z01 1099511627776 sq.2).1,z7k,rs⟩:BatM)=z36 k.1:=rfl
 have h6:=(z6f (by omega) h).2 htm
 have h5:ep.2=some ((if pi.1>0/\z36 k.1=false then uI sq.1 else [])++(uI (z01 1099511627776 sq.2).1++t)):=by
  generalize (z01 1099511627776 sq.2).1=tm at *
  by_cases hc:pi.1>0/\z36 k.1=false
  ·rw [if_pos hc] at e5 ⊢
   rw [<- e5] at h6 hsq ⊢
   exact (z6f (by omega) h6).2 hsq.2
  ·rw [if_neg hc] at e5 ⊢
   rw [<- e5] at h6
   exact h6
 generalize (z01 1099511627776 sq.2).1=tm at *
 have h4:pi.2=some ((if pi.1>0 then uI ep.1 else [])++((if pi.1>0/\z36 k.1=false then uI sq.1 else [])++(uI tm++t))):=by
  by_cases hc:pi.1>0
  ·rw [if_pos hc] at e4 ⊢
   rw [<- e4] at h5 hep ⊢
   exact (z6f (by omega) h5).2 hep.2
  ·rw [if_neg hc] at e4 ⊢
   rw [<- e4] at h5
   exact h5
 rw [<- e3] at h4 hpi
 have h3:=(z6f (by omega) h4).2 hpi.2
 rw [e3] at h3
 rw [<- e2] at h3 hba
 have h2:=(z6f (by omega) h3).2 hba.2
 rw [e2] at h2
 rw [<- e1] at h2
 have h1:=(zcv h2).2
 rw [e1] at h1
 have e:(if pi.1>0 then uI ep.1 else [])++((if pi.1>0/\z36 k.1=false then uI sq.1 else [])++(uI tm++t))=(if pi.1>0 then uI ep.1++(if z36 k.1 then [] else uI sq.1) else [])++(uI tm++t):=by
  by_cases hp:pi.1>0
  ·by_cases hm:z36 k.1=true
   ·simp [hp,hm]
   ·simp [hp,hm]
  ·simp [hp]
 rw [h1,hmk,Int.toNat_natCast,e]
theorem zkv {raw:List UInt8} {b:BatM} (h:z5z raw=some b):z04 b=0/\z2j b=raw/\b.p=b:=by
 unfold z5z at h
 split at h
 ·cases h
 rename_i h1
 have h1:(z0u (some raw)).1=1:=Decidable.not_not.1 h1
 generalize hs:(z0u (some raw)).2=s at h
 have hraw:∀ t,s=some t->raw=1::t:=λt ht=>by
  rw [<- hs] at ht
  have:=(zcv ht).2
  rw [h1] at this
  exact Option.some.inj this
 unfold zkp at h
 split at h
 ·cases h
 rename_i h2
 have h3:(hdS s).tm.2.isSome=true:=by
  cases he:(hdS s).tm.2.isSome with
  | true=>rfl
  | false=>exact absurd (.inl he) h2
 have h4:(hdS s).tm.1<=1099511627776:=by omega
 obtain ⟨t,ht⟩:=Option.isSome_iff_exists.1 h3
 split at h
 ·rename_i hm
  split at h
  rotate_left
  ·cases h
  rename_i h5
  simp only [Option.some.injEq] at h
  subst h
  refine ⟨h5.2,?_,rfl⟩
  have h6:=hraw _ (zq2 h5.1 h4 h5.2)
  rw [h6]
  have hm:z0h ((hdS s).b [])=true:=hm
  unfold z2j
  rw [hm]
  rfl
 ·rename_i hm
  split at h
  ·cases h
  rename_i h7
  cases hr:z4m (hdS s).tm.1 (z01 64 (hdS s).tm.2).1.toNat ⟨#[]⟩ (z01 64 (hdS s).tm.2).2 with
  | none=>rw [hr] at h;cases h
  | some q =>
   rw [hr] at h
   simp only at h
   split at h
   rotate_left
   ·cases h
   rename_i h5
   simp only [Option.some.injEq] at h
   subst h
   refine ⟨h5.2,?_,rfl⟩
   obtain ⟨rs,q2⟩:=q
   obtain ⟨rfl,h5⟩:=h5
   have hrs:=(z26 h5).2
   obtain ⟨h8,h9⟩:=zjf (by decide) (λr hr=>(z3p (hrs r hr)).1) hr
   have h10:=z6f (by omega) h9
   have h11:=h10.2 (by omega)
   have h6:=hraw _ (zq2 h11 h4 h5)
   rw [h6]
   have hm:z0h ((hdS s).b rs)≠true:=hm
   unfold z2j
   rw [if_neg hm,if_neg hm]
   have e:((hdS s).b rs).rs.length=(z01 64 (hdS s).tm.2).1:=by
    have h12:=h10.1
    have h13:rs.length=(z01 64 (hdS s).tm.2).1.toNat:=h8
    show ((rs.length:Nat):Int)=_
    rw [h13,Int.toNat_of_nonneg h12.1]
   rw [e,List.append_nil]
   rfl
end Go.Dec
