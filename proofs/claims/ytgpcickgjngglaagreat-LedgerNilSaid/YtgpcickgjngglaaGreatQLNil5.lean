/- What the claim of this folder leans on: our own texts, joined, without what it does not use. -/
import Derived.Test.YtgpcickgjngglaaGreatRows
import Derived.WalkKit
import Derived.ProofKit
import Derived.OpenShut
import Derived.RowKit3
import Derived.OrdersHeld
import Derived.Scope
import Derived.KernelRfl
import Derived.Laws.Sem
import Derived.Laws.StructEq
import Derived.Deep.AppendSrc
import Derived.Laws.BytesArg
import Derived.Laws.RangeString
import Derived.Maps.RangeRun
import Derived.Lib.ConvBytes
import Derived.Lib.SlBytesConst
import Derived.ChangeSlices
import Derived.ChangeMaps5
import Derived.ChangeSame
import Derived.Deep.Slices
import Derived.Deep.Fields
import Derived.Test.YtgpcickgjngglaaGreatProg
import Derived.WideKeyRuns
import Derived.DeepKeys3
import Derived.Laws.MakeOwn
import Derived.Sort.MapsRangeIn
import Derived.Sort.KeysCollected
import Derived.RangeFuncNested
import Derived.RangeFuncBound
import Derived.RangeFuncCalls
import Derived.RangeFuncLeaves
import Derived.RangeFuncBox
import Derived.OwnWalkIn
import Derived.TacticsInMore
import Derived.RegionIn
import Derived.LoopNIn
import Derived.LoopIn
import Derived.Maps.AppendAt
import Derived.Shelf.Abstract
import Derived.Shelf.Sort.Plain
import Derived.Shelf.Slices.In.SortNone
import Derived.Test.YtgpcickgjngglaaGreatQLNil1
import Derived.Test.YtgpcickgjngglaaGreatQLNil2
import Derived.Test.YtgpcickgjngglaaGreatQLNil3
import Derived.Test.YtgpcickgjngglaaGreatQLNil4
set_option linter.unusedVariables false
set_option linter.unusedSimpArgs false
namespace Go.Dec
def z025 (parts:Sl):Prog :=
Ap 1 (
AM 2 (0,(0,())) λn0 n1=>
Ai (decide (n1<(Al parts))) (
.ex [.adr] (c1 λa2=>0<=n1/\n1<(Al parts)/\parts.a=some a2) (u1 λa3=>
AO T.a46 a3 (Int.toNat n1*1) λl4=>
Af (Aq (n0+(Al l4))) λn5=>
An 2 [Ac n5,Ac (Aq (n1+1))]))<|
An 1 [Ac n0]) λn6=>
AE (Instr.makeSlice T.a46 (Ac 0) (Ac n6)) λl7=>
AZ 1 (
Bf 2 ({ a:=l7.a,len:=l7.len,cap:=l7.cap },(0,())) λl8 n9=>
Ai (decide (n9<(Al parts))) (
.ex [.adr] (c1 λa10=>0<=n9/\n9<(Al parts)/\parts.a=some a10) (u1 λa11=>
AO T.a46 a11 (Int.toNat n9*1) λl12=>
AE (app T.a46 T.a46 T.a46 l8.v l12.v) λl13=>
An 2 [l13.v,Ac (Aq (n9+1))]))<|
An 1 [l8.v]) λl14=>
An 0 [l14.v]
theorem zp5 (parts:Sl):FnS (z025 parts) F.a221 #[.slice parts.a parts.len parts.cap]:=dV ⟨[],[(0,[(3,.one (.int .i64))]),(2,[(6,.one .slc)])],[],[(0,[(3,.one (.int .i64)),(11,.one (.int .i64))]),(2,[(6,.one .slc),(24,.one (.int .i64))])]⟩ Go.Proofs.Tryz.func73 (by kernel_rfl)
def z02h (n:Int):Prog :=
.bind 1 [.one (.int .u64),.one .slc] (
.loop 2 [.one (.int .u64),.one .slc] (n,(⟨none,0,0⟩,())) (u2 λ(n0:Int) l1=>
Ai (decide (n0>=128)) (
AE (Instr.buildSlice T.a46 1 #[(0,.int .u8 (IntKind.wrap .u8 (((BitVec.toNat (BitVec.ofInt 8 (IntKind.wrap .u8 n0) ||| BitVec.ofInt 8 128):Nat):Int))))]) λl2=>
AE (app T.a46 T.a46 T.a46 l1.v l2.v) λl3=>
Bj (Int.fdiv n0 128) λn4=>
An 2 [.int .u64 n4,l3.v])<|
An 1 [.int .u64 n0,l1.v])) (u2 λ(n5:Int) l6=>
AE (Instr.buildSlice T.a46 1 #[(0,.int .u8 (IntKind.wrap .u8 n5))]) λl7=>
AE (app T.a46 T.a46 T.a46 l6.v l7.v) λl8=>
An 0 [l8.v])
theorem zph (n:Int):FnS (z02h n) F.a233 #[.int .u64 n]:=dV ⟨[],[(0,[(0,.one (.int .u64)),(3,.one .slc)])],[],[(0,[(0,.one (.int .u64)),(3,.one .slc)])]⟩ Go.Proofs.Tryz.func74 (by kernel_rfl)
def z026 (b:Sl):Prog :=
Ak F.a0 [b.v] λl0=>
Av T.a54 (.agg #[l0.v,Ac 0,Ac 0]) λa1=>
An 0 [Az a1]
theorem zp6 (b:Sl):FnS (z026 b) F.a222 #[.slice b.a b.len b.cap]:=dV ⟨[],[],[],[]⟩ Go.Proofs.Tryz.func78 (by kernel_rfl)
def z02d (r:Option Addr):Prog :=
Am F.a231 [Ad r] λb0=>
Ai (not b0) (
An 0 [.int .u64 0])<|
AA r λa2=>
Bi F.a237 [BH a2 0] λn3=>
Bj n3 λn4=>
An 0 [.int .u64 n4]
theorem zpd (r:Option Addr):FnS (z02d r) F.a229 #[.pointer r]:=dV ⟨[],[],[],[]⟩ Go.Proofs.Tryz.func79 (by kernel_rfl)
def z028 (r:Option Addr):Prog :=
Ai (Option.isNone r) (
An 0 [Ac 1])<|
AA r λa1=>
Aj F.a235 [BH a1 0] λn2=>
AK 1 (
Ai (decide (n2>0)) (
AA r λa4=>
AU F.a234 [BH a4 0,Ac 6]<|
An 1 [])<|
An 1 [])<|
AA r λa6=>
AP T.a1 (Addr.add a6 0) 2 λn7=>
Af n7 λn8=>
An 0 [Ac n8]
theorem zp8 (r:Option Addr):FnS (z028 r) F.a224 #[.pointer r]:=dV ⟨[(62914569,[])],[],[],[]⟩ Go.Proofs.Tryz.func80 (by kernel_rfl)
def z00p (l:Sl):Prog :=
AZ 1 (
Bf 2 (⟨none,0,0⟩,(0,())) λl0 n1=>
Ai (decide (n1<(Al l))) (
AZ 3 (
.ex [.adr] (c1 λa2=>0<=n1/\n1<(Al l)/\l.a=some a2) (u1 λa3=>
AN T.a0 a3 (Int.toNat n1*7) λn4 n5 n6 n7 n8 n9 l10=>
Ao T.a0 λa11=>
Ar T.a0 a11 (AF n4 n5 n6 n7 n8 n9 l10)<|
AH T.a0 a11 λn12 n13 n14 n15 n16 n17 l18=>
Am F.a127 [AF n12 n13 n14 n15 n16 n17 l18] λb19=>
Ai b19 (
An 3 [l0.v])<|
AO T.a38 a11 6 λl20=>
AZ 4 (
Bf 5 ({ a:=l0.a,len:=l0.len,cap:=l0.cap },(0,())) λl21 n22=>
Ai (decide (n22<(Al l20))) (
.ex [.adr] (c1 λa23=>0<=n22/\n22<(Al l20)/\l20.a=some a23) (u1 λa24=>
By T.a2 a24 (Int.toNat n22*4) λs25 s26 b27 n28=>
Ao T.a2 λa29=>
Af n22 λn30=>
Ar T.a2 a29 (AD s25 s26 b27 n28)<|
AP T.a14 a11 0 λn31=>
BZ T.a2 a29 λs32 s33 b34 n35=>
AE (Instr.buildSlice T.a43 1 #[(0,.agg #[Ac (Aq (n31+n30)),.string s32,.string s33,.bool b34,Ac n35])]) λl36=>
AE (app T.a43 T.a43 T.a43 l21.v l36.v) λl37=>
An 5 [l37.v,Ac (Aq (n22+1))]))<|
An 4 [l21.v]) λl38=>
An 3 [l38.v])) λl39=>
An 2 [l39.v,Ac (Aq (n1+1))])<|
An 1 [l0.v]) λl40=>
An 0 [l40.v]
theorem znc (l:Sl):FnS (z00p l) F.a120 #[.slice l.a l.len l.cap]:=dV ⟨[],[(0,[(3,.one .slc)]),(1,[(3,.one .slc)]),(2,[(3,.one .slc)])],[],[(0,[(3,.one .slc),(10,.one (.int .i64))]),(2,[(3,.one .slc),(19,.one (.int .i64))])]⟩ Go.Proofs.Tryz.func89 (by kernel_rfl)
def z01l (d:Option Addr) (prefix_:ByteArray) (c_0:Int) (c_1:Int):Prog :=
Av T.a47 (AS c_0 c_1) λa0=>
Ba (Option.isNone d) (
An 0 [Ad none,Ac 1])<|
Ah 1 (
Am F.a157 [.string prefix_] λb2=>
BC (not b2=false) (ld T.a47 a0) λn3 n4=>
Ai (not b2) (
An 1 [.bool true])<|
Am F.a161 [AS n3 n4] λb5=>
Ag (not b5) λb6=>
An 1 [.bool b6]) λb7=>
Ai b7 (
An 0 [Ad none,Ac 2])<|
Am F.a37 [Ad d] λb8=>
Ba b8 (
An 0 [Ad none,Ac 9])<|
BL T.a47 a0 λn10 n11=>
Av T.a48 (.agg #[Ad d,.string prefix_,Ac n10,Ac n11,.slice none 0 0]) λa12=>
AV F.a146 [Az a12] λl13 n14=>
Af n14 λn15=>
Ai (n15 != 0) (
Af n15 λn16=>
An 0 [Ad none,Ac n16])<|
Ap 1 (
AM 2 (n15,(0,())) λn17 n18=>
Ai (decide (n18<(Al l13))) (
Ap 3 (
.ex [.adr] (c1 λa19=>0<=n18/\n18<(Al l13)/\l13.a=some a19) (u1 λa20=>
AP T.a14 a20 (Int.toNat n18*1) λn21=>
Af n18 λn22=>
Af n21 λn23=>
Aj F.a137 [Az a12] λn24=>
Ai (decide (n23<n24)) (
Aa F.a150 [Az a12,Ac n23,.string (ByteArray.mk #[46,108,111,103])] λs25=>
Aj F.a40 [Ad d,.string s25] λn26=>
Af n26 λn27=>
Ai (n27 != 0) (
An 1 [Ac n27])<|
An 3 [Ac n27])<|
.call F.a153 [Az a12,Ac n23] (.tup [.one .bool,.one (.int .i64)]) (u2 λb28 (n29:Int)=>
Ag b28 λb30=>
Af n29 λn31=>
Ai (n31 == 0 && not b30) (
.must (0<=Aq (n22+1)/\Aq (n22+1)<=(Al l13)) <|
Aj F.a145 [Az a12,.slice (z14 l13.a 1 (Int.toNat (Aq (n22+1))) l13.cap) (l13.len-Int.toNat (Aq (n22+1))) (l13.cap-Int.toNat (Aq (n22+1)))] λn32=>
Af n32 λn33=>
An 1 [Ac n33])<|
Ai (n31 != 0) (
An 1 [Ac n31])<|
An 3 [Ac n31]))) λn34=>
An 2 [Ac n34,Ac (Aq (n18+1))])<|
An 1 [Ac n17]) λn35=>
Ai (n35 != 0) (
Af n35 λn36=>
An 0 [Ad none,Ac n36])<|
An 0 [Az a12,Ac 0]
theorem zo8 (d:Option Addr) (prefix_:ByteArray) (c_0 c_1:Int):FnS (z01l d prefix_ c_0 c_1) F.a156 #[.pointer d,.string prefix_,.agg #[.int .i64 c_0,.int .i64 c_1]]:=dV ⟨[],[(1,[(10,.one (.int .i64))]),(2,[(10,.one (.int .i64))])],[(3,[(17,.one .bool)])],[(1,[(10,.one (.int .i64)),(44,.one (.int .i64))])]⟩ Go.Proofs.Tryz.func119 (by kernel_rfl)
def z013 (l:Option Addr):Prog :=
Ai (Option.isNone l) (
An 0 [.slice none 0 0])<|
Aj F.a136 [Ad l] λn0=>
AV F.a138 [Ad l,Ac n0,Ac 1099511627776] λl1 n2=>
Af n2 λn3=>
An 0 [l1.v]
theorem znq (l:Option Addr):FnS (z013 l) F.a134 #[.pointer l]:=dV ⟨[],[],[],[]⟩ Go.Proofs.Tryz.func125 (by kernel_rfl)
def z016 (l:Option Addr) (offset:Int) (most:Int):Prog :=
Av T.a32 (Ad l) λa0=>
Av T.a14 (Ac offset) λa1=>
Av T.a13 (Ac most) λa2=>
B0 T.a32 a0 λp3=>
Ba (Option.isNone p3) (
An 0 [.slice none 0 0,Ac 1])<|
BX T.a13 a2 λn5=>
Ba (decide (n5<1)) (
An 0 [.slice none 0 0,Ac 2])<|
Ah 1 (
AG<|
.hold True (ld T.a14 a1) (sI .i64) (u1 λ(n7:Int)=>
B0 T.a32 a0 λp8=>
Aj F.a136 [Ad p8] λn9=>
.hold (decide (n7<n9)=false) (ld T.a14 a1) (sI .i64) (u1 λ(n10:Int)=>
.read (decide (n7<n9)=false) (ld T.a32 a0) sP (u1 λp11=>
Ai (decide (n7<n9)) (
AI<|
An 1 [.bool true])<|
Aj F.a137 [Ad p11] λn12=>
Ag (decide (n10>n12)) λb13=>
AI<|
An 1 [.bool b13])))) λb14=>
Ai b14 (
An 0 [.slice none 0 0,Ac 8])<|
Ao T.a37 λa15=>
B0 T.a32 a0 λp16=>
AA p16 λa18=>
AO T.a42 a18 4 λl19=>
Aj F.a213 [Ac (Al l19),.func (Fn.func 195) #[] #[Az a0,Az a1]] λn20=>
Af (Aq (n20-1)) λn21=>
Af (if 0>n21 then 0 else n21) λn22=>
AK 1 (
AT 2 (n22,()) λn23=>
B0 T.a32 a0 λp24=>
AA p24 λa26=>
AO T.a42 a26 4 λl27=>
Ai (decide (n23<(Al l27))) (
B0 T.a32 a0 λp28=>
AA p28 λa30=>
AO T.a42 a30 4 λl31=>
.ex [.adr] (c1 λa32=>0<=n23/\n23<(Al l31)/\l31.a=some a32) (u1 λa33=>
Ay T.a33 a33 (Int.toNat n23*1) λp34=>
Ah 3 (
AG<|
.hold True (ld T.a32 a0) sP (u1 λp35=>
BX T.a14 a1 λn36=>
Aj F.a162 [Ad p34,Ac n36] λn37=>
AI<|
Am F.a155 [Ad p35,Ad p34,Ac n37,.func (Fn.func 198) #[] #[Az a1,Az a15,Az a2]] λb38=>
Ag b38 λb39=>
AI<|
An 3 [.bool b39])) λb40=>
Ai (not b40) (
An 1 [])<|
Af (Aq (n23+1)) λn41=>
An 2 [Ac n41]))<|
An 1 [])<|
Ca (ld T.a37 a15) λl42=>
An 0 [l42.v,Ac 0]
theorem znt (l:Option Addr) (offset most:Int):FnS (z016 l offset most) F.a138 #[.pointer l,.int .i64 offset,.int .i64 most]:=dV ⟨[],[(1,[])],[(5,[(18,.one .bool)]),(13,[(11,.one .bool)])],[(1,[(9,.one (.int .i64))])]⟩ Go.Proofs.Tryz.func127 (by kernel_rfl)
def z00r (b_0 b_1 b_2 b_3 b_4 b_5:Int) (b_6:Sl):Prog :=
Av T.a0 (AF b_0 b_1 b_2 b_3 b_4 b_5 b_6) λa0=>
AH T.a0 a0 λn1 n2 n3 n4 n5 n6 l7=>
Aj F.a124 [AF n1 n2 n3 n4 n5 n6 l7] λn8=>
Ai (n8 != 0) (
An 0 [Ac 0])<|
AG<|
Bn T.a14 a0 0 λn9=>
AH T.a0 a0 λn10 n11 n12 n13 n14 n15 l16=>
Aj F.a123 [AF n10 n11 n12 n13 n14 n15 l16] λn17=>
Af (Aq (n9+n17)) λn18=>
AI<|
An 0 [Ac n18]
theorem zne (b_0 b_1 b_2 b_3 b_4 b_5:Int) (b_6:Sl):FnS (z00r b_0 b_1 b_2 b_3 b_4 b_5 b_6) F.a122 #[.agg #[.int .i64 b_0,.int .i64 b_1,.int .i64 b_2,.int .i64 b_3,.int .i64 b_4,.int .i64 b_5,.slice b_6.a b_6.len b_6.cap]]:=dV ⟨[],[],[],[]⟩ Go.Proofs.Tryz.func130 (by kernel_rfl)
def z014 (l:Option Addr):Prog :=
AX (Option.isNone l=false) l λa1=>
Bw (Option.isNone l=false) T.a42 a1 4 λl2=>
Ai (Option.isNone l || (Al l2) == 0) (
An 0 [Ac 0])<|
AA l λa4=>
AO T.a42 a4 4 λl5=>
.ex [.adr] (c1 λa6=>(0:Int)<=0/\0<(Al l5)/\l5.a=some a6) (u1 λa7=>
Ay T.a33 a7 0 λp8=>
AA p8 λa10=>
AP T.a14 a10 1 λn11=>
Af n11 λn12=>
An 0 [Ac n12])
theorem znr (l:Option Addr):FnS (z014 l) F.a136 #[.pointer l]:=dV ⟨[],[],[],[]⟩ Go.Proofs.Tryz.func131 (by kernel_rfl)
def zf0 (b:Sl):Prog :=
Ai (Option.isNone b.a) (
An 0 [.slice none 0 0])<|
AE (Instr.buildSlice T.a46 0 #[]) λl0=>
AE (app T.a46 T.a46 T.a46 l0.v b.v) λl1=>
An 0 [l1.v]
theorem zjf (b:Sl):FnS (zf0 b) F.a0 #[.slice b.a b.len b.cap]:=dV ⟨[],[],[],[]⟩ Go.Proofs.Tryz.func135 (by kernel_rfl)
def z02f (r:Option Addr):Prog :=
AX (not (Option.isNone r)=true) r λa1=>
AQ (not (Option.isNone r)=true) T.a1 (Addr.add a1 0) 2 λn2=>
Ag (not (Option.isNone r) && n2 == 0) λb3=>
An 0 [.bool b3]
theorem zpf (r:Option Addr):FnS (z02f r) F.a231 #[.pointer r]:=dV ⟨[],[],[],[]⟩ Go.Proofs.Tryz.func136 (by kernel_rfl)
def z02l (p:Option Addr):Prog :=
AK 1 (
.loop 2 [.one (.int .u64),.one (.int .i64)] (0,(0,())) (u2 λ(n0 n1:Int)=>
Ai (decide (n1<10)) (
Aj F.a235 [Ad p] λn2=>
Ai (decide (n1>=n2)) (
An 1 [])<|
AG<|
AA p λa4=>
AO T.a46 a4 0 λl5=>
AA p λa7=>
AP T.a13 a7 1 λn8=>
.ex [.adr] (c1 λa9=>0<=Aq (n8+n1)/\Aq (n8+n1)<(Al l5)/\l5.a=some a9) (u1 λa10=>
BN T.a52 a10 (Int.toNat (Aq (n8+n1))*1) λn11=>
BO n11 λn12=>
AI<|
Ai (n1 == 9 && decide (n12>1)) (
An 1 [])<|
.must (0<=Aq (7*n1)) <|
Bj (IntKind.wrap .u64 (((BitVec.toNat (BitVec.ofInt 64 n0 ||| BitVec.ofInt 64 (IntKind.wrap .u64 (IntKind.wrap .u64 (IntKind.wrap .u8 (((BitVec.toNat (BitVec.ofInt 8 n12 &&& BitVec.ofInt 8 127):Nat):Int)))*2 ^ min (Int.toNat (Aq (7*n1))) 64))):Nat):Int))) λn13=>
Ai (decide (n12>=128)) (
Af (Aq (n1+1)) λn14=>
An 2 [.int .u64 n13,Ac n14])<|
Ai (n12 == 0 && decide (n1>0)) (
An 1 [])<|
AA p λa16=>
AP T.a13 a16 1 λn17=>
AA p λa19=>
AJ T.a13 a19 1 (Ac (Aq (n17+Aq (n1+1))))<|
Bj n13 λn20=>
An 0 [.int .u64 n20]))<|
An 1 []))<|
AU F.a234 [Ad p,Ac 6]<|
An 0 [.int .u64 0]
theorem zpl (p:Option Addr):FnS (z02l p) F.a237 #[.pointer p]:=dV ⟨[],[(0,[])],[],[(0,[(3,.one (.int .u64)),(4,.one (.int .i64))])]⟩ Go.Proofs.Tryz.func137 (by kernel_rfl)
def z02j (p:Option Addr):Prog :=
AG<|
AA p λa1=>
AO T.a46 a1 0 λl2=>
AA p λa4=>
AP T.a13 a4 1 λn5=>
Af (Aq ((Al l2)-n5)) λn6=>
AI<|
An 0 [Ac n6]
theorem zpj (p:Option Addr):FnS (z02j p) F.a235 #[.pointer p]:=dV ⟨[],[],[],[]⟩ Go.Proofs.Tryz.func138 (by kernel_rfl)
def z02i (p:Option Addr) (e_:Int):Prog :=
AA p λa1=>
AP T.a1 a1 2 λn2=>
AK 1 (
Ai (n2 == 0) (
AA p λa4=>
AJ T.a1 a4 2 (Ac e_)<|
An 1 [])<|
An 1 [])<|
An 0 []
theorem zpi (p:Option Addr) (e_:Int):FnS (z02i p e_) F.a234 #[.pointer p,.int .i64 e_]:=dV ⟨[(31457288,[])],[],[],[]⟩ Go.Proofs.Tryz.func139 (by kernel_rfl)
def z09b (l:Option Addr) (upto:Int) (bs:Sl):Prog :=
Ai (Option.isNone l) (
An 0 [Ac 1])<|
AA l λa1=>
AO T.a42 a1 4 λl2=>
Ap 1 (
AM 2 (0,(0,())) λn3 n4=>
Ai (decide (n4<(Al l2))) (
.ex [.adr] (c1 λa5=>0<=n4/\n4<(Al l2)/\l2.a=some a5) (u1 λa6=>
Ay T.a33 a6 (Int.toNat n4*1) λp7=>
Af n4 λn8=>
AX (decide (n8>0)=true) p7 λa10=>
AQ (decide (n8>0)=true) T.a14 a10 1 λn11=>
Ap 3 (
Ai (decide (n8>0) && n11 == upto) (
Af n8 λn12=>
An 3 [Ac n12])<|
An 3 [Ac n3]) λn13=>
An 2 [Ac n13,Ac (Aq (n4+1))]))<|
An 1 [Ac n3]) λn14=>
Ai (n14 == 0) (
An 0 [Ac 2])<|
.call F.a148 [Ad l,Ac upto,bs.v] (.tup [.one .ptr,.one .slc,.one .bool]) (u3 λp15 l16 b17=>
Ag b17 λb18=>
Ai (not b18) (
An 0 [Ac 2])<|
.bind 1 [.one .str,.one .str] (
AG<|
AA p15 λa20=>
AP T.a14 a20 1 λn21=>
AA p15 λa23=>
Bn T.a14 a23 1 λn24=>
Aa F.a150 [Ad l,Ac n21,.string (ByteArray.mk #[46,110,101,119])] λs25=>
AI<|
Aa F.a150 [Ad l,Ac n24,.string (ByteArray.mk #[46,108,111,103])] λs26=>
Ab s25 λs27=>
Ab s26 λs28=>
AI<|
An 1 [.string s27,.string s28]) (u2 λs29 s30=>
AA l λa32=>
Ay T.a27 a32 0 λp33=>
Aj F.a34 [Ad p33,.string s29,l16.v] λn34=>
Af n34 λn35=>
Ai (n35 != 0) (
Af n35 λn36=>
An 0 [Ac n36])<|
AA l λa38=>
Ay T.a27 a38 0 λp39=>
AE (Instr.buildSlice T.a45 1 #[(0,.string s29)]) λl40=>
Aj F.a43 [Ad p39,l40.v] λn41=>
Af n41 λn42=>
Ai (n42 != 0) (
Af n42 λn43=>
An 0 [Ac n43])<|
AA l λa45=>
Ay T.a27 a45 0 λp46=>
Aj F.a41 [Ad p46,.string s29,.string s30] λn47=>
Af n47 λn48=>
Ai (n48 != 0) (
Af n48 λn49=>
An 0 [Ac n49])<|
AA l λa51=>
AO T.a42 a51 4 λl52=>
.must ((0:Int)<=1/\1<=n14/\n14<=((l52.cap:Nat):Int)) <|
AE (Instr.buildSlice T.a42 1 #[(0,Ad p15)]) λl53=>
AA l λa55=>
AO T.a42 a55 4 λl56=>
.must (0<=n14/\n14<=(Al l56)) <|
AE (app T.a42 T.a42 T.a42 l53.v (.slice (z14 l56.a 1 (Int.toNat n14) l56.cap) (l56.len-Int.toNat n14) (l56.cap-Int.toNat n14))) λl57=>
AA l λa59=>
AJ T.a42 a59 4 l57.v<|
AK 1 (
AT 2 (0,()) λn60=>
Ai (decide (n60<((Int.toNat n14-1:Nat):Int))) (
.ex [.adr] (c1 λa61=>0<=n60/\n60<((Int.toNat n14-1:Nat):Int)/\z14 l52.a 1 1 l52.cap=some a61) (u1 λa62=>
Ay T.a33 a62 (Int.toNat n60*1) λp63=>
Ap 3 (
AG<|
AA l λa65=>
AL T.a27 a65 0 λp66=>
AA p63 λa68=>
AP T.a14 a68 1 λn69=>
Aa F.a150 [Ad l,Ac n69,.string (ByteArray.mk #[46,108,111,103])] λs70=>
AI<|
Aj F.a40 [Ad p66,.string s70] λn71=>
Af n71 λn72=>
AI<|
An 3 [Ac n72]) λn73=>
Ai (n73 != 0) (
Af n73 λn74=>
An 0 [Ac n74])<|
An 2 [Ac (Aq (n60+1))]))<|
An 1 [])<|
An 0 [Ac 0]))
def z00w (b_0 b_1 b_2 b_3 b_4 b_5:Int) (b_6:Sl):Prog :=
Av T.a0 (AF b_0 b_1 b_2 b_3 b_4 b_5 b_6) λa0=>
AP T.a13 a0 4 λn1=>
AQ ((n1 == 2)=false) T.a13 a0 4 λn2=>
Ag (n1 == 2 || n2 == 3) λb3=>
An 0 [.bool b3]
theorem znj (b_0 b_1 b_2 b_3 b_4 b_5:Int) (b_6:Sl):FnS (z00w b_0 b_1 b_2 b_3 b_4 b_5 b_6) F.a127 #[.agg #[.int .i64 b_0,.int .i64 b_1,.int .i64 b_2,.int .i64 b_3,.int .i64 b_4,.int .i64 b_5,.slice b_6.a b_6.len b_6.cap]]:=dV ⟨[],[],[],[]⟩ Go.Proofs.Tryz.func153 (by kernel_rfl)
def z02a (r:Option Addr):Prog :=
Am F.a231 [Ad r] λb0=>
Ai (not b0) (
An 0 [.bool false])<|
AG<|
AA r λa2=>
Aj F.a235 [BH a2 0] λn3=>
AX ((n3 == 0)=false) r λa5=>
Bw ((n3 == 0)=false) T.a46 (Addr.add a5 0) 0 λl6=>
AX ((n3 == 0)=false) r λa8=>
AQ ((n3 == 0)=false) T.a13 (Addr.add a8 0) 1 λn9=>
.ex [.adr] (c1 λa10=>(n3 == 0)=false->0<=n9/\n9<(Al l6)/\l6.a=some a10) (u1 λa11=>
.read ((n3 == 0)=false) (ld T.a52 (Addr.add a11 (Int.toNat n9*1))) (sI .u8) (u1 λ(n12:Int)=>
AI<|
Ai (n3 == 0 || decide (n12>1)) (
AA r λa14=>
AU F.a234 [BH a14 0,Ac 6]<|
An 0 [.bool false])<|
AA r λa16=>
Ak F.a236 [BH a16 0,Ac 1] λl17=>
.ex [.adr] (c1 λa18=>(0:Int)<=0/\0<(Al l17)/\l17.a=some a18) (u1 λa19=>
BN T.a52 a19 0 λn20=>
Ag (n20 == 1) λb21=>
An 0 [.bool b21])))
theorem zpa (r:Option Addr):FnS (z02a r) F.a226 #[.pointer r]:=dV ⟨[],[],[],[]⟩ Go.Proofs.Tryz.func156 (by kernel_rfl)
def z029 (r:Option Addr):Prog :=
Ai (Option.isNone r) (
An 0 [Ac 1])<|
AA r λa1=>
AP T.a1 (Addr.add a1 0) 2 λn2=>
Af n2 λn3=>
An 0 [Ac n3]
theorem zp9 (r:Option Addr):FnS (z029 r) F.a225 #[.pointer r]:=dV ⟨[],[],[],[]⟩ Go.Proofs.Tryz.func157 (by kernel_rfl)
def z01m (s:ByteArray):Prog :=
Ai (decide (((ByteArray.size s:Nat):Int)<1) || decide (((ByteArray.size s:Nat):Int)>8)) (
An 0 [.bool false])<|
AE (convert T.a51 T.a46 (.string s)) λl0=>
AK 1 (
AT 2 (0,()) λn1=>
Ai (decide (n1<(Al l0))) (
.ex [.adr] (c1 λa2=>0<=n1/\n1<(Al l0)/\l0.a=some a2) (u1 λa3=>
BN T.a52 a3 (Int.toNat n1*1) λn4=>
BO n4 λn5=>
Ai (not (decide (n5>=97) && decide (n5<=122) || decide (n5>=48) && decide (n5<=57))) (
An 0 [.bool false])<|
An 2 [Ac (Aq (n1+1))]))<|
An 1 [])<|
An 0 [.bool true]
theorem zo9 (s:ByteArray):FnS (z01m s) F.a157 #[.string s]:=dV ⟨[],[(0,[])],[],[(0,[(16,.one (.int .i64))])]⟩ Go.Proofs.Tryz.func169 (by kernel_rfl)
def z01q (c_0:Int) (c_1:Int):Prog :=
Av T.a47 (AS c_0 c_1) λa0=>
AP T.a13 a0 0 λn1=>
AQ (decide (n1>=64)=true) T.a13 a0 0 λn2=>
AQ ((decide (n1>=64) && decide (n2<=4194304))=true) T.a13 a0 1 λn3=>
AQ ((decide (n1>=64) && decide (n2<=4194304) && decide (n3>=1))=true) T.a13 a0 1 λn4=>
Ag (decide (n1>=64) && decide (n2<=4194304) && decide (n3>=1) && decide (n4<=4194304)) λb5=>
An 0 [.bool b5]
theorem zod (c_0 c_1:Int):FnS (z01q c_0 c_1) F.a161 #[.agg #[.int .i64 c_0,.int .i64 c_1]]:=dV ⟨[],[],[],[]⟩ Go.Proofs.Tryz.func170 (by kernel_rfl)
def z01c (l:Option Addr):Prog :=
AG<|
AA l λa1=>
Ay T.a27 a1 0 λp2=>
AA l λa4=>
AC T.a51 a4 1 λs5=>
.must (((ByteArray.size s5+1:Nat):Int)<=9223372036854775807) <|
Ak F.a38 [Ad p2,.string (s5++(ByteArray.mk #[45]))] λl6=>
AI<|
AZ 1 (
Bf 2 (⟨none,0,0⟩,(0,())) λl7 n8=>
Ai (decide (n8<(Al l6))) (
.ex [.adr] (c1 λa9=>0<=n8/\n8<(Al l6)/\l6.a=some a9) (u1 λa10=>
AC T.a51 a10 (Int.toNat n8*1) λs11=>
Ab s11 λs12=>
Bd F.a144 [Ad l,.string s12,.string (ByteArray.mk #[46,108,111,103])] λn13 b14=>
Af n13 λn15=>
Ag b14 λb16=>
AZ 3 (
Ai b16 (
AE (Instr.buildSlice T.a40 1 #[(0,Ac n15)]) λl17=>
AE (app T.a40 T.a40 T.a40 l7.v l17.v) λl18=>
An 3 [l18.v])<|
An 3 [l7.v]) λl19=>
Bd F.a144 [Ad l,.string s12,.string (ByteArray.mk #[46,110,101,119])] λn20 b21=>
Af n20 λn22=>
Ag b21 λb23=>
AK 3 (
Ai b23 (
AA l λa25=>
Ay T.a27 a25 0 λp26=>
Aj F.a40 [Ad p26,.string s12] λn27=>
Af n27 λn28=>
Ai (n28 != 0) (
Af n28 λn29=>
An 0 [.slice none 0 0,Ac n29])<|
An 3 [])<|
An 3 [])<|
An 2 [l19.v,Ac (Aq (n8+1))]))<|
An 1 [l7.v]) λl30=>
An 0 [l30.v,Ac 0]
theorem znz (l:Option Addr):FnS (z01c l) F.a146 #[.pointer l]:=dV ⟨[(1055531162730529,[(4,.one .slc)]),(73642861106770788396,[])],[(0,[(4,.one .slc)])],[],[(0,[(4,.one .slc),(23,.one (.int .i64))])]⟩ Go.Proofs.Tryz.func172 (by kernel_rfl)
def z015 (l:Option Addr):Prog :=
AX (Option.isNone l=false) l λa1=>
Bw (Option.isNone l=false) T.a42 a1 4 λl2=>
Ai (Option.isNone l || (Al l2) == 0) (
An 0 [Ac 0])<|
Ax F.a149 [Ad l] λp3=>
Aj F.a163 [Ad p3] λn4=>
Af n4 λn5=>
An 0 [Ac n5]
theorem zns (l:Option Addr):FnS (z015 l) F.a137 #[.pointer l]:=dV ⟨[],[],[],[]⟩ Go.Proofs.Tryz.func173 (by kernel_rfl)
def z01f (l:Option Addr) (base:Int) (end_:ByteArray):Prog :=
AE (Instr.makeSlice T.a46 (Ac 11) (Ac 11)) λl0=>
AK 1 (
AM 2 (base,(10,())) λn1 n2=>
Ai (decide (n2>=0)) (
.must (0<=Aq (((BitVec.toNat (BitVec.ofInt 64 n1 &&& BitVec.ofInt 64 15):Nat):Int))/\Aq (((BitVec.toNat (BitVec.ofInt 64 n1 &&& BitVec.ofInt 64 15):Nat):Int))<16) <|
.ex [.adr] (c1 λa3=>0<=n2/\n2<(Al l0)/\l0.a=some a3) (u1 λa4=>
AJ T.a52 a4 (Int.toNat n2*1) (.int .u8 (bt (ByteArray.mk #[48,49,50,51,52,53,54,55,56,57,97,98,99,100,101,102]) (Aq (((BitVec.toNat (BitVec.ofInt 64 n1 &&& BitVec.ofInt 64 15):Nat):Int)))))<|
Af (Int.fdiv n1 16) λn5=>
Af (Aq (n2-1)) λn6=>
An 2 [Ac n5,Ac n6]))<|
An 1 [])<|
AG<|
AA l λa8=>
AC T.a51 a8 1 λs9=>
.must (((ByteArray.size s9+1:Nat):Int)<=9223372036854775807) <|
.read True (convert T.a46 T.a51 l0.v) sS (u1 λs10=>
.must (((ByteArray.size (s9++(ByteArray.mk #[45]))+ByteArray.size s10:Nat):Int)<=9223372036854775807) <|
.must (((ByteArray.size (s9++(ByteArray.mk #[45])++s10)+ByteArray.size end_:Nat):Int)<=9223372036854775807) <|
Ab (s9++(ByteArray.mk #[45])++s10++end_) λs11=>
AI<|
An 0 [.string s11])
theorem zo2 (l:Option Addr) (base:Int) (end_:ByteArray):FnS (z01f l base end_) F.a150 #[.pointer l,.int .i64 base,.string end_]:=dV ⟨[],[(0,[])],[],[(0,[(1,.one (.int .i64)),(8,.one (.int .i64))])]⟩ Go.Proofs.Tryz.func174 (by kernel_rfl)
def z01i (l:Option Addr) (base:Int):Prog :=
Aa F.a150 [Ad l,Ac base,.string (ByteArray.mk #[46,108,111,103])] λs0=>
Ab s0 λs1=>
AA l λa3=>
Ay T.a27 a3 0 λp4=>
AV F.a39 [Ad p4,.string s1] λl5 n6=>
Af n6 λn7=>
Ai (n7 != 0) (
Af n7 λn8=>
An 0 [.bool false,Ac n8])<|
Cb F.a50 [l5.v] λl9 n10 b11=>
Af n10 λn12=>
Ag b11 λb13=>
.bind 1 [.one (.int .i64),.one .bool] (
Ai b13 (
Bd F.a159 [l9.v,Ac base] λn14 b15=>
Af n14 λn16=>
Ag b15 λb17=>
An 1 [Ac n16,.bool b17])<|
An 1 [Ac 0,.bool false]) (u2 λ(n18:Int) b19=>
Ai (not b19) (
AA l λa21=>
Ay T.a27 a21 0 λp22=>
Aj F.a40 [Ad p22,.string s1] λn23=>
Af n23 λn24=>
An 0 [.bool false,Ac n24])<|
Ax F.a154 [Ad l,Ac base,Ac n18] λp25=>
Af base λn26=>
Ap 1 (
AM 2 (n12,(n26,())) λn27 n28=>
.must (0<=n27/\n27<=(Al l5)) <|
Cb F.a50 [.slice (z14 l5.a 1 (Int.toNat n27) l5.cap) (l5.len-Int.toNat n27) (l5.cap-Int.toNat n27)] λl29 n30 b31=>
Af n30 λn32=>
Ag b31 λb33=>
Ai (not b33) (
An 1 [Ac n27])<|
.call F.a118 [l29.v] (.tup [.agg [.int .i64,.int .i64,.int .i64,.int .i64,.int .i64,.int .i64,.slc],.one (.int .i64)]) (u8 λ(n34 n35 n36 n37 n38 n39:Int) l40 (n41:Int)=>
Ao T.a0 λa42=>
Ar T.a0 a42 (AF n34 n35 n36 n37 n38 n39 l40)<|
Af n41 λn43=>
AQ ((n43 != 0)=false) T.a14 a42 0 λn44=>
Ai (n43 != 0 || decide (n44<n28)) (
An 1 [Ac n27])<|
AH T.a0 a42 λn45 n46 n47 n48 n49 n50 l51=>
AU F.a164 [Ad p25,AF n45 n46 n47 n48 n49 n50 l51,Ac n32]<|
AA p25 λa53=>
AP T.a14 a53 3 λn54=>
Af n54 λn55=>
Af (Aq (n27+n32)) λn56=>
An 2 [Ac n56,Ac n55])) λn57=>
AU F.a152 [Ad l,Ad p25]<|
Ai (n57 == (Al l5)) (
An 0 [.bool true,Ac 0])<|
AA l λa59=>
Ay T.a27 a59 0 λp60=>
Aj F.a35 [Ad p60,.string s1,Ac n57] λn61=>
Af n61 λn62=>
An 0 [.bool false,Ac n62])
theorem zo5 (l:Option Addr) (base:Int):FnS (z01i l base) F.a153 #[.pointer l,.int .i64 base]:=dV ⟨[(2269814212245061674,[(12,.one (.int .i64)),(13,.one .bool)])],[(0,[(10,.one (.int .i64))])],[],[(0,[(10,.one (.int .i64)),(15,.one (.int .i64))])]⟩ Go.Proofs.Tryz.func175 (by kernel_rfl)
def z01b (l:Option Addr) (bases:Sl):Prog :=
AK 1 (
AT 2 (0,()) λn0=>
Ai (decide (n0<(Al bases))) (
.ex [.adr] (c1 λa1=>0<=n0/\n0<(Al bases)/\bases.a=some a1) (u1 λa2=>
AP T.a14 a2 (Int.toNat n0*1) λn3=>
Af n3 λn4=>
Ap 3 (
AG<|
AA l λa6=>
AL T.a27 a6 0 λp7=>
Aa F.a150 [Ad l,Ac n4,.string (ByteArray.mk #[46,108,111,103])] λs8=>
AI<|
Aj F.a40 [Ad p7,.string s8] λn9=>
Af n9 λn10=>
AI<|
An 3 [Ac n10]) λn11=>
Ai (n11 != 0) (
Af n11 λn12=>
An 0 [Ac n12])<|
An 2 [Ac (Aq (n0+1))]))<|
An 1 [])<|
An 0 [Ac 0]
theorem zny (l:Option Addr) (bases:Sl):FnS (z01b l bases) F.a145 #[.pointer l,.slice bases.a bases.len bases.cap]:=dV ⟨[],[(0,[])],[(4,[(7,.one (.int .i64))])],[(0,[(10,.one (.int .i64))])]⟩ Go.Proofs.Tryz.func176 (by kernel_rfl)
def z07f (b:Sl):Prog :=
Cb F.a50 [b.v] λl0 n1 b2=>
Af n1 λn3=>
Ag b2 λb4=>
Ai (not b4 || n3 != (Al b)) (
An 0 [.slice none 0 0,.bool false])<|
An 0 [l0.v,.bool true]
theorem zu2 (b:Sl):FnS (z07f b) F.a52 #[.slice b.a b.len b.cap]:=dV ⟨[],[],[],[]⟩ Go.Proofs.Tryz.func185 (by kernel_rfl)
def z02c (r:Option Addr) (most:Int):Prog :=
Am F.a231 [Ad r] λb0=>
Ai (not b0) (
An 0 [.string (ByteArray.mk #[])])<|
AA r λa2=>
AP T.a13 (Addr.add a2 0) 1 λn3=>
Af n3 λn4=>
AA r λa6=>
Bi F.a237 [BH a6 0] λn7=>
Bj n7 λn8=>
AA r λa10=>
AP T.a1 (Addr.add a10 0) 2 λn11=>
Ag (n11 != 0) λb12=>
AK 1 (
Ai b12 (
An 1 [])<|
Ag (decide (n8>IntKind.wrap .u64 (if 0>most then 0 else most))) λb13=>
AK 2 (
Ai b13 (
AA r λa15=>
AU F.a234 [BH a15 0,Ac 7]<|
An 2 [])<|
AA r λa17=>
Aj F.a235 [BH a17 0] λn18=>
Ba (decide (n8>IntKind.wrap .u64 n18)) (
AA r λa21=>
AU F.a234 [BH a21 0,Ac 6]<|
An 2 [])<|
AA r λa23=>
Ak F.a236 [BH a23 0,Ac (Aq n8)] λl24=>
.read True (convert T.a46 T.a51 l24.v) sS (u1 λs25=>
Ab s25 λs26=>
An 0 [.string s26]))<|
An 1 [])<|
AA r λa28=>
AJ T.a13 (Addr.add a28 0) 1 (Ac n4)<|
An 0 [.string (ByteArray.mk #[])]
theorem zpc (r:Option Addr) (most:Int):FnS (z02c r most) F.a228 #[.pointer r,.int .i64 most]:=dV ⟨[(147571701062593216545,[]),(147573917678034812954,[])],[],[],[]⟩ Go.Proofs.Tryz.func186 (by kernel_rfl)
def z017 (i:Int) (fv0:Option Addr) (fv1:Option Addr):Prog :=
AG<|
BA T.a32 fv0 λp0=>
AA p0 λa2=>
AO T.a42 a2 4 λl3=>
.ex [.adr] (c1 λa4=>0<=i/\i<(Al l3)/\l3.a=some a4) (u1 λa5=>
Ay T.a33 a5 (Int.toNat i*1) λp6=>
AA p6 λa8=>
AP T.a14 a8 1 λn9=>
Cc T.a14 fv1 λn10=>
Ag (decide (n9>n10)) λb11=>
AI<|
An 0 [.bool b11])
theorem znu (i:Int) (fv0 fv1:Option Addr):FnS (z017 i fv0 fv1) F.a139 #[.int .i64 i,.pointer fv0,.pointer fv1]:=dV ⟨[],[],[],[]⟩ Go.Proofs.Tryz.func195 (by kernel_rfl)
def z01k (l s:Option Addr) (place:Int) (told:Value):Prog :=
AZ 1 (
AG<|
AA l λa1=>
AL T.a27 a1 0 λp2=>
AA s λa4=>
AP T.a14 a4 1 λn5=>
Aa F.a150 [Ad l,Ac n5,.string (ByteArray.mk #[46,108,111,103])] λs6=>
AI<|
AV F.a39 [Ad p2,.string s6] λl7 n8=>
Af n8 λn9=>
AI<|
An 1 [l7.v]) λl10=>
Af place λn11=>
AK 1 (
AT 2 (n11,()) λn12=>
AX (decide (n12<(Al l10))=true) s λa14=>
AQ (decide (n12<(Al l10))=true) T.a13 a14 5 λn15=>
Ai (decide (n12<(Al l10)) && decide (n12<n15)) (
.must (0<=n12/\n12<=(Al l10)) <|
Cb F.a50 [.slice (z14 l10.a 1 (Int.toNat n12) l10.cap) (l10.len-Int.toNat n12) (l10.cap-Int.toNat n12)] λl16 n17 b18=>
Af n17 λn19=>
Ag b18 λb20=>
Ai (not b20) (
An 0 [.bool true])<|
.call F.a118 [l16.v] (.tup [.agg [.int .i64,.int .i64,.int .i64,.int .i64,.int .i64,.int .i64,.slc],.one (.int .i64)]) (u8 λ(n21 n22 n23 n24 n25 n26:Int) l27 (n28:Int)=>
Ao T.a0 λa29=>
Ar T.a0 a29 (AF n21 n22 n23 n24 n25 n26 l27)<|
Af n28 λn30=>
Ah 3 (
AY ((n30 != 0)=false) T.a0 a29 λn31 n32 n33 n34 n35 n36 l37=>
Ai (n30 != 0) (
An 3 [.bool true])<|
BK told [AF n31 n32 n33 n34 n35 n36 l37] λb38=>
An 3 [.bool (not b38)]) λb39=>
Ai b39 (
An 0 [.bool false])<|
Af (Aq (n12+n19)) λn40=>
An 2 [Ac n40]))<|
An 1 [])<|
An 0 [.bool true]
theorem zo7 (l s:Option Addr) (place:Int) (told:Value) {w:World} {R:List Value->World->Prop} (h:(z01k l s place told).wp P (λ_=>True) w λe vs w'=>e=0/\R vs w'):Ret P F.a155 #[.pointer l,.pointer s,.int .i64 place,told] w R:=dS (n:=70) (rv:=[.tmp 8]) { cnd:=[],blk:=[(0,[])],reg:=[(1,[(9,.one .slc)]),(8,[(66,.one .bool)])],lps:=[(0,[(11,.one (.int .i64))])] } [.val (.pointer l),.val (.pointer s),.val (.int .i64 place),.any told] Go.Proofs.Tryz.func196 (by kernel_rfl) (by kernel_rfl) (by kernel_rfl) (by kernel_rfl) h
def z01r (s:Option Addr) (offset:Int):Prog :=
AA s λa1=>
Ay T.a29 a1 0 λp2=>
.call F.a57 [Ad p2,Ac offset] (.tup [.agg [.int .i64,.int .i64,.int .i64],.one .bool]) (u4 λ(n3 n4 n5:Int) b6=>
Ao T.a10 λa7=>
Ar T.a10 a7 (Au n3 n4 n5)<|
Ba b6 (
AP T.a13 a7 1 λn9=>
Af n9 λn10=>
An 0 [Ac n10])<|
AG<|
AA s λa12=>
AP T.a14 a12 1 λn13=>
AA s λa15=>
AP T.a14 a15 2 λn16=>
Ak F.a158 [Ac n13,Ac n16] λl17=>
Af (Al l17) λn18=>
AI<|
An 0 [Ac n18])
theorem zoe (s:Option Addr) (offset:Int):FnS (z01r s offset) F.a162 #[.pointer s,.int .i64 offset]:=dV ⟨[],[],[],[]⟩ Go.Proofs.Tryz.func197 (by kernel_rfl)
def z018 (b_0 b_1 b_2 b_3 b_4 b_5:Int) (b_6:Sl) (fv0 fv1:Option Addr) (fv2:Option Addr):Prog :=
Av T.a0 (AF b_0 b_1 b_2 b_3 b_4 b_5 b_6) λa0=>
AH T.a0 a0 λn1 n2 n3 n4 n5 n6 l7=>
Cc T.a14 fv0 λn8=>
.call F.a121 [AF n1 n2 n3 n4 n5 n6 l7,Ac n8] (.tup [.agg [.int .i64,.int .i64,.int .i64,.int .i64,.int .i64,.int .i64,.slc],.one .bool]) (u8 λ(n9 n10 n11 n12 n13 n14:Int) l15 b16=>
Ao T.a0 λa17=>
Ar T.a0 a17 (AF n9 n10 n11 n12 n13 n14 l15)<|
Ag b16 λb18=>
AK 1 (
Ai b18 (
Ca (Instr.loadAt T.a37 (Ad fv1)) λl19=>
AH T.a0 a17 λn20 n21 n22 n23 n24 n25 l26=>
AE (Instr.buildSlice T.a37 1 #[(0,AF n20 n21 n22 n23 n24 n25 l26)]) λl27=>
AE (app T.a37 T.a37 T.a37 l19.v l27.v) λl28=>
B5 (Instr.storeAt T.a37 (Ad fv1) l28.v)<|
An 1 [])<|
An 1 [])<|
Ca (Instr.loadAt T.a37 (Ad fv1)) λl29=>
Cc T.a13 fv2 λn30=>
Ag (decide ((Al l29)<n30)) λb31=>
An 0 [.bool b31])
theorem znv (b_0 b_1 b_2 b_3 b_4 b_5:Int) (b_6:Sl) (fv0 fv1 fv2:Option Addr):FnS (z018 b_0 b_1 b_2 b_3 b_4 b_5 b_6 fv0 fv1 fv2) F.a140 #[.agg #[.int .i64 b_0,.int .i64 b_1,.int .i64 b_2,.int .i64 b_3,.int .i64 b_4,.int .i64 b_5,.slice b_6.a b_6.len b_6.cap],.pointer fv0,.pointer fv1,.pointer fv2]:=dV ⟨[(2013265934,[])],[],[],[]⟩ Go.Proofs.Tryz.func198 (by kernel_rfl)
def z00q (b_0 b_1 b_2 b_3 b_4 b_5:Int) (b_6:Sl) (offset:Int):Prog :=
Av T.a0 (AF b_0 b_1 b_2 b_3 b_4 b_5 b_6) λa0=>
Ao T.a0 λa1=>
Ah 1 (
AH T.a0 a0 λn2 n3 n4 n5 n6 n7 l8=>
Aj F.a124 [AF n2 n3 n4 n5 n6 n7 l8] λn9=>
AY ((n9 != 0)=false) T.a0 a0 λn10 n11 n12 n13 n14 n15 l16=>
Ai (n9 != 0) (
An 1 [.bool true])<|
Aj F.a122 [AF n10 n11 n12 n13 n14 n15 l16] λn17=>
Ag (decide (offset>=n17)) λb18=>
An 1 [.bool b18]) λb19=>
Ai b19 (
Ar T.a0 a1 (.agg #[Ac 0,Ac 0,Ac 0,Ac 0,Ac 0,Ac 0,.slice none 0 0])<|
AH T.a0 a1 λn20 n21 n22 n23 n24 n25 l26=>
An 0 [AF n20 n21 n22 n23 n24 n25 l26,.bool false])<|
AH T.a0 a0 λn27 n28 n29 n30 n31 n32 l33=>
Am F.a127 [AF n27 n28 n29 n30 n31 n32 l33] λb34=>
AQ (b34=false) T.a14 a0 0 λn35=>
Ba (b34 || decide (offset<=n35)) (
AH T.a0 a0 λn37 n38 n39 n40 n41 n42 l43=>
Bv F.a117 [AF n37 n38 n39 n40 n41 n42 l43] λn44 n45 n46 n47 n48 n49 l50=>
Ar T.a0 a1 (AF n44 n45 n46 n47 n48 n49 l50)<|
AH T.a0 a1 λn51 n52 n53 n54 n55 n56 l57=>
An 0 [AF n51 n52 n53 n54 n55 n56 l57,.bool true])<|
AH T.a0 a0 λn58 n59 n60 n61 n62 n63 l64=>
AP T.a14 a0 0 λn65=>
AO T.a38 a0 6 λl66=>
Bv F.a129 [AF n58 n59 n60 n61 n62 n63 l64,Ac (Aq (offset-n65)),Ac (Al l66)] λn67 n68 n69 n70 n71 n72 l73=>
Ar T.a0 a1 (AF n67 n68 n69 n70 n71 n72 l73)<|
AH T.a0 a1 λn74 n75 n76 n77 n78 n79 l80=>
An 0 [AF n74 n75 n76 n77 n78 n79 l80,.bool true]
theorem znd (b_0 b_1 b_2 b_3 b_4 b_5:Int) (b_6:Sl) (offset:Int):FnS (z00q b_0 b_1 b_2 b_3 b_4 b_5 b_6 offset) F.a121 #[.agg #[.int .i64 b_0,.int .i64 b_1,.int .i64 b_2,.int .i64 b_3,.int .i64 b_4,.int .i64 b_5,.slice b_6.a b_6.len b_6.cap],.int .i64 offset]:=dV ⟨[],[],[(1,[(6,.one .bool)])],[]⟩ Go.Proofs.Tryz.func199 (by kernel_rfl)
def z00t (b_0 b_1 b_2 b_3 b_4 b_5:Int) (b_6:Sl):Prog :=
Av T.a0 (AF b_0 b_1 b_2 b_3 b_4 b_5 b_6) λa0=>
Ah 1 (
AH T.a0 a0 λn1 n2 n3 n4 n5 n6 l7=>
Am F.a128 [AF n1 n2 n3 n4 n5 n6 l7] λb8=>
AY (not b8=false) T.a0 a0 λn9 n10 n11 n12 n13 n14 l15=>
Ai (not b8) (
An 1 [.bool true])<|
Am F.a126 [AF n9 n10 n11 n12 n13 n14 l15] λb16=>
Ag (not b16) λb17=>
An 1 [.bool b17]) λb18=>
Ai b18 (
An 0 [Ac 2])<|
AO T.a38 a0 6 λl19=>
Ba (decide ((Al l19)>64)) (
An 0 [Ac 7])<|
AO T.a38 a0 6 λl21=>
AK 1 (
AT 2 (0,()) λn22=>
Ai (decide (n22<(Al l21))) (
.ex [.adr] (c1 λa23=>0<=n22/\n22<(Al l21)/\l21.a=some a23) (u1 λa24=>
By T.a2 a24 (Int.toNat n22*4) λs25 s26 b27 n28=>
Ao T.a2 λa29=>
Ar T.a2 a29 (AD s25 s26 b27 n28)<|
BZ T.a2 a29 λs30 s31 b32 n33=>
Aj F.a131 [AD s30 s31 b32 n33] λn34=>
Af n34 λn35=>
Ai (n35 != 0) (
Af n35 λn36=>
An 0 [Ac n36])<|
An 2 [Ac (Aq (n22+1))]))<|
An 1 [])<|
AH T.a0 a0 λn37 n38 n39 n40 n41 n42 l43=>
Aj F.a123 [AF n37 n38 n39 n40 n41 n42 l43] λn44=>
Af (Aq (n44-1)) λn45=>
Ah 1 (
AP T.a14 a0 0 λn46=>
AQ (decide (n46>Aq (1099511627776-n45))=false) T.a14 a0 1 λn47=>
AY (decide (n46>Aq (1099511627776-n45))=false/\decide (n47>0)=true) T.a0 a0 λn48 n49 n50 n51 n52 n53 l54=>
Ai (decide (n46>Aq (1099511627776-n45))) (
An 1 [.bool true])<|
Ai (decide (n47>0)) (
Am F.a127 [AF n48 n49 n50 n51 n52 n53 l54] λb55=>
AQ (not b55=true) T.a13 a0 3 λn56=>
An 1 [.bool (not b55 && decide (n56>Aq (2147483647-n45)))])<|
An 1 [.bool false]) λb57=>
Ai b57 (
An 0 [Ac 24])<|
An 0 [Ac 0]
theorem zng (b_0 b_1 b_2 b_3 b_4 b_5:Int) (b_6:Sl):FnS (z00t b_0 b_1 b_2 b_3 b_4 b_5 b_6) F.a124 #[.agg #[.int .i64 b_0,.int .i64 b_1,.int .i64 b_2,.int .i64 b_3,.int .i64 b_4,.int .i64 b_5,.slice b_6.a b_6.len b_6.cap]]:=dV ⟨[],[(1,[])],[(1,[(7,.one .bool)]),(13,[(58,.one .bool)])],[(1,[(24,.one (.int .i64))])]⟩ Go.Proofs.Tryz.func203 (by kernel_rfl)
def z00s (b_0 b_1 b_2 b_3 b_4 b_5:Int) (b_6:Sl):Prog :=
Av T.a0 (AF b_0 b_1 b_2 b_3 b_4 b_5 b_6) λa0=>
AH T.a0 a0 λn1 n2 n3 n4 n5 n6 l7=>
Am F.a127 [AF n1 n2 n3 n4 n5 n6 l7] λb8=>
Ai b8 (
An 0 [Ac 1])<|
AO T.a38 a0 6 λl9=>
Af (Al l9) λn10=>
An 0 [Ac n10]
theorem znf (b_0 b_1 b_2 b_3 b_4 b_5:Int) (b_6:Sl):FnS (z00s b_0 b_1 b_2 b_3 b_4 b_5 b_6) F.a123 #[.agg #[.int .i64 b_0,.int .i64 b_1,.int .i64 b_2,.int .i64 b_3,.int .i64 b_4,.int .i64 b_5,.slice b_6.a b_6.len b_6.cap]]:=dV ⟨[],[],[],[]⟩ Go.Proofs.Tryz.func204 (by kernel_rfl)
def zt9 (l:Option Addr) (bs:Sl):Prog :=
Ai (Option.isNone l) (
An 0 [Ac 0,Ac 1])<|
Ai ((Al bs) == 0) (
An 0 [Ac 0,Ac 3])<|
.call F.a151 [Ad l,bs.v] (.tup [.one .slc,.one .slc,.one (.int .i64)]) (u3 λl0 l1 (n2:Int)=>
Af n2 λn3=>
Ai (n3 != 0) (
Af n3 λn4=>
An 0 [Ac 0,Ac n4])<|
Ap 1 (
AM 2 (0,(0,())) λn5 n6=>
Ai (decide (n6<(Al l1))) (
.ex [.adr] (c1 λa7=>0<=n6/\n6<(Al l1)/\l1.a=some a7) (u1 λa8=>
AO T.a46 a8 (Int.toNat n6*1) λl9=>
Af (Aq (n5+(Al l9))) λn10=>
An 2 [Ac n10,Ac (Aq (n6+1))]))<|
An 1 [Ac n5]) λn11=>
Ax F.a149 [Ad l] λp12=>
Am F.a147 [Ad l,Ac n11] λb13=>
.bind 1 [.one .ptr] (
Ai (not b13) (
Aj F.a143 [Ad l] λn14=>
Af n14 λn15=>
Ai (n15 != 0) (
Af n15 λn16=>
An 0 [Ac 0,Ac n16])<|
Aj F.a137 [Ad l] λn17=>
Ax F.a154 [Ad l,Ac n17,Ac 0] λp18=>
Ap 2 (
AG<|
AA l λa20=>
AL T.a27 a20 0 λp21=>
AA p18 λa23=>
AP T.a14 a23 1 λn24=>
AA p18 λa26=>
Bn T.a14 a26 1 λn27=>
Aa F.a150 [Ad l,Ac n24,.string (ByteArray.mk #[46,108,111,103])] λs28=>
Ak F.a158 [Ac n27,Ac 0] λl29=>
AE (Instr.buildSlice T.a44 1 #[(0,l29.v)]) λl30=>
AE (app T.a44 T.a44 T.a44 l30.v l1.v) λl31=>
AI<|
Aj F.a34 [Ad p21,.string s28,l31.v] λn32=>
Af n32 λn33=>
AI<|
An 2 [Ac n33]) λn34=>
Ai (n34 != 0) (
Af n34 λn35=>
An 0 [Ac 0,Ac n35])<|
AU F.a152 [Ad l,Ad p18]<|
An 1 [Ad p18])<|
Ap 2 (
AG<|
AA l λa37=>
AL T.a27 a37 0 λp38=>
AA p12 λa40=>
AP T.a14 a40 1 λn41=>
Aa F.a150 [Ad l,Ac n41,.string (ByteArray.mk #[46,108,111,103])] λs42=>
AI<|
Aj F.a34 [Ad p38,.string s42,l1.v] λn43=>
Af n43 λn44=>
AI<|
An 2 [Ac n44]) λn45=>
Ai (n45 != 0) (
Af n45 λn46=>
An 0 [Ac 0,Ac n46])<|
An 1 [Ad p12]) (u1 λp47=>
AK 1 (
AT 2 (0,()) λn48=>
Ai (decide (n48<(Al l0))) (
.ex [.adr] (c1 λa49=>0<=n48/\n48<(Al l0)/\l0.a=some a49) (u1 λa50=>
AN T.a0 a50 (Int.toNat n48*7) λn51 n52 n53 n54 n55 n56 l57=>
Ao T.a0 λa58=>
Af n48 λn59=>
Ar T.a0 a58 (AF n51 n52 n53 n54 n55 n56 l57)<|
AG<|
AH T.a0 a58 λn60 n61 n62 n63 n64 n65 l66=>
.ex [.adr] (c1 λa67=>0<=n59/\n59<(Al l1)/\l1.a=some a67) (u1 λa68=>
AO T.a46 a68 (Int.toNat n59*1) λl69=>
AU F.a164 [Ad p47,AF n60 n61 n62 n63 n64 n65 l66,Ac (Al l69)]<|
AI<|
An 2 [Ac (Aq (n48+1))])))<|
An 1 [])<|
.ex [.adr] (c1 λa70=>(0:Int)<=0/\0<(Al l0)/\l0.a=some a70) (u1 λa71=>
AP T.a14 (Addr.add a71 0) 0 λn72=>
Af n72 λn73=>
An 0 [Ac n73,Ac 0])))
theorem zec (l:Option Addr) (bs:Sl):FnS (zt9 l bs) F.a135 #[.pointer l,.slice bs.a bs.len bs.cap]:=dV ⟨[(2596148429267409202579229989077041,[(12,.one .ptr)])],[(0,[(9,.one (.int .i64))]),(2,[])],[(20,[(14,.one (.int .i64))]),(24,[(15,.one (.int .i64))])],[(0,[(9,.one (.int .i64)),(35,.one (.int .i64))]),(2,[(101,.one (.int .i64))])]⟩ Go.Proofs.Tryz.func211 (by kernel_rfl)
def z019 (l:Option Addr):Prog :=
Ai (Option.isNone l) (
An 0 [Ac 1])<|
Ax F.a149 [Ad l] λp0=>
Ai (not (Option.isNone p0)) (
Ap 1 (
AG<|
AA l λa2=>
AL T.a27 a2 0 λp3=>
AA p0 λa5=>
AP T.a14 a5 1 λn6=>
Aa F.a150 [Ad l,Ac n6,.string (ByteArray.mk #[46,108,111,103])] λs7=>
AE (Instr.buildSlice T.a45 1 #[(0,.string s7)]) λl8=>
AI<|
Aj F.a43 [Ad p3,l8.v] λn9=>
Af n9 λn10=>
AI<|
An 1 [Ac n10]) λn11=>
An 0 [Ac n11])<|
An 0 [Ac 0]
theorem znw (l:Option Addr):FnS (z019 l) F.a143 #[.pointer l]:=dV ⟨[],[],[(5,[(2,.one (.int .i64))])],[]⟩ Go.Proofs.Tryz.func212 (by kernel_rfl)
def z00m (b_0 b_1 b_2 b_3 b_4 b_5:Int) (b_6:Sl):Prog :=
Av T.a0 (AF b_0 b_1 b_2 b_3 b_4 b_5 b_6) λa0=>
Ao T.a0 λa1=>
AO T.a38 a0 6 λl2=>
AE (app T.a38 T.a38 T.a38 (.slice none 0 0) l2.v) λl3=>
AJ T.a38 a0 6 l3.v<|
AH T.a0 a0 λn4 n5 n6 n7 n8 n9 l10=>
Ar T.a0 a1 (AF n4 n5 n6 n7 n8 n9 l10)<|
AH T.a0 a1 λn11 n12 n13 n14 n15 n16 l17=>
An 0 [AF n11 n12 n13 n14 n15 n16 l17]
theorem zn9 (b_0 b_1 b_2 b_3 b_4 b_5:Int) (b_6:Sl):FnS (z00m b_0 b_1 b_2 b_3 b_4 b_5 b_6) F.a117 #[.agg #[.int .i64 b_0,.int .i64 b_1,.int .i64 b_2,.int .i64 b_3,.int .i64 b_4,.int .i64 b_5,.slice b_6.a b_6.len b_6.cap]]:=dV ⟨[],[],[],[]⟩ Go.Proofs.Tryz.func213 (by kernel_rfl)
def z09c (l:Option Addr):Prog :=
Ai (Option.isNone l) (
An 0 [.slice none 0 0])<|
AA l λa1=>
AO T.a42 a1 4 λl2=>
AZ 1 (
Bf 2 (⟨none,0,0⟩,(0,())) λl3 n4=>
Ai (decide (n4<(Al l2))) (
.ex [.adr] (c1 λa5=>0<=n4/\n4<(Al l2)/\l2.a=some a5) (u1 λa6=>
Ay T.a33 a6 (Int.toNat n4*1) λp7=>
AA p7 λa9=>
AP T.a14 a9 1 λn10=>
AE (Instr.buildSlice T.a40 1 #[(0,Ac n10)]) λl11=>
AE (app T.a40 T.a40 T.a40 l3.v l11.v) λl12=>
An 2 [l12.v,Ac (Aq (n4+1))]))<|
An 1 [l3.v]) λl13=>
An 0 [l13.v]
def z09d (l:Option Addr) (upto:Int) (bs:Sl):Prog :=
Aj F.a136 [Ad l] λn0=>
Ax F.a154 [Ad l,Ac n0,Ac upto] λp1=>
AA p1 λa3=>
AP T.a14 a3 1 λn4=>
Ak F.a158 [Ac n4,Ac upto] λl5=>
AE (Instr.buildSlice T.a44 1 #[(0,l5.v)]) λl6=>
AA p1 λa8=>
AP T.a14 a8 1 λn9=>
Af n9 λn10=>
AZ 1 (
.loop 2 [.one .slc,.one (.int .i64),.one (.int .i64)] ({ a:=l6.a,len:=l6.len,cap:=l6.cap },(n10,(0,()))) (u3 λl11 (n12 n13:Int)=>
Ai (decide (n13<(Al bs))) (
.ex [.adr] (c1 λa14=>0<=n13/\n13<(Al bs)/\bs.a=some a14) (u1 λa15=>
AN T.a0 a15 (Int.toNat n13*7) λn16 n17 n18 n19 n20 n21 l22=>
Ao T.a0 λa23=>
Ar T.a0 a23 (AF n16 n17 n18 n19 n20 n21 l22)<|
AH T.a0 a23 λn24 n25 n26 n27 n28 n29 l30=>
AV F.a119 [AF n24 n25 n26 n27 n28 n29 l30] λl31 n32=>
Af n32 λn33=>
Ah 3 (
AQ ((n33 != 0)=false) T.a14 a23 0 λn34=>
AY ((n33 != 0 || decide (n34<n12))=false) T.a0 a23 λn35 n36 n37 n38 n39 n40 l41=>
Ai (n33 != 0 || decide (n34<n12)) (
An 3 [.bool true])<|
Aj F.a122 [AF n35 n36 n37 n38 n39 n40 l41] λn42=>
An 3 [.bool (decide (n42>upto))]) λb43=>
Ai b43 (
An 0 [Ad none,.slice none 0 0,.bool false])<|
AE (Instr.buildSlice T.a44 1 #[(0,l31.v)]) λl44=>
Ak F.a53 [l44.v] λl45=>
AE (Instr.buildSlice T.a44 1 #[(0,l45.v)]) λl46=>
AE (app T.a44 T.a44 T.a44 l11.v l46.v) λl47=>
AH T.a0 a23 λn48 n49 n50 n51 n52 n53 l54=>
AU F.a164 [Ad p1,AF n48 n49 n50 n51 n52 n53 l54,Ac (Al l45)]<|
AA p1 λa56=>
AP T.a14 a56 3 λn57=>
Af n57 λn58=>
An 2 [l47.v,Ac n58,Ac (Aq (n13+1))]))<|
An 1 [l11.v])) λl59=>
An 0 [Ad p1,l59.v,.bool true]
def z02k (p:Option Addr) (n:Int):Prog :=
AA p λa1=>
AP T.a13 a1 1 λn2=>
AA p λa4=>
AJ T.a13 a4 1 (Ac (Aq (n2+n)))<|
AG<|
AA p λa6=>
AO T.a46 a6 0 λl7=>
AA p λa9=>
AP T.a13 a9 1 λn10=>
AA p λa12=>
AP T.a13 a12 1 λn13=>
.must (0<=Aq (n10-n)/\Aq (n10-n)<=n13/\n13<=((l7.cap:Nat):Int)) <|
AI<|
An 0 [.slice (z14 l7.a 1 (Int.toNat (Aq (n10-n))) l7.cap) (Int.toNat n13-Int.toNat (Aq (n10-n))) (l7.cap-Int.toNat (Aq (n10-n)))]
theorem zpk (p:Option Addr) (n:Int):FnS (z02k p n) F.a236 #[.pointer p,.int .i64 n]:=dV ⟨[],[],[],[]⟩ Go.Proofs.Tryz.func225 (by kernel_rfl)
def z023 (on:Bool):Prog :=
Ai on (
AE (Instr.buildSlice T.a46 1 #[(0,.int .u8 1)]) λl0=>
An 0 [l0.v])<|
AE (Instr.buildSlice T.a46 1 #[(0,.int .u8 0)]) λl1=>
An 0 [l1.v]
theorem zp3 (on:Bool):FnS (z023 on) F.a219 #[.bool on]:=dV ⟨[],[],[],[]⟩ Go.Proofs.Tryz.func226 (by kernel_rfl)
def z01a (l:Option Addr) (name:ByteArray) (end_:ByteArray):Prog :=
AA l λa1=>
AC T.a51 a1 1 λs2=>
Af (Aq (((ByteArray.size s2:Nat):Int)+1)) λn3=>
.must ((((ByteArray.size name:Nat):Int) != Aq (Aq (n3+11)+((ByteArray.size end_:Nat):Int)))=false->0<=Aq (n3+11)/\Aq (n3+11)<=((ByteArray.size name:Nat):Int)) <|
Ai (((ByteArray.size name:Nat):Int) != Aq (Aq (n3+11)+((ByteArray.size end_:Nat):Int)) || not (ByteArray.toList (ByteArray.extract name (Int.toNat (Aq (n3+11))) (ByteArray.size name)) == ByteArray.toList end_)) (
An 0 [Ac 0,.bool false])<|
.must (0<=n3/\n3<=Aq (n3+11)/\Aq (n3+11)<=((ByteArray.size name:Nat):Int)) <|
AE (convert T.a51 T.a46 (.string (ByteArray.extract name (Int.toNat n3) (Int.toNat (Aq (n3+11)))))) λl4=>
Ap 1 (
AM 2 (0,(0,())) λn5 n6=>
Ai (decide (n6<(Al l4))) (
.ex [.adr] (c1 λa7=>0<=n6/\n6<(Al l4)/\l4.a=some a7) (u1 λa8=>
BN T.a52 a8 (Int.toNat n6*1) λn9=>
BO n9 λn10=>
Ag (decide (n10>=48) && decide (n10<=57)) λb11=>
Ap 3 (
Ai b11 (
Af (Aq (((BitVec.toNat (BitVec.ofInt 64 (Aq (n5*16)) ||| BitVec.ofInt 64 (Aq (IntKind.wrap .u8 (n10-48)))):Nat):Int))) λn12=>
An 3 [Ac n12])<|
Ba (decide (n10>=97) && decide (n10<=102)) (
Af (Aq (((BitVec.toNat (BitVec.ofInt 64 (Aq (n5*16)) ||| BitVec.ofInt 64 (Aq (IntKind.wrap .u8 (IntKind.wrap .u8 (n10-97)+10)))):Nat):Int))) λn14=>
An 3 [Ac n14])<|
An 0 [Ac 0,.bool false]) λn15=>
An 2 [Ac n15,Ac (Aq (n6+1))]))<|
An 1 [Ac n5]) λn16=>
Af n16 λn17=>
An 0 [Ac n17,.bool true]
theorem znx (l:Option Addr) (name end_:ByteArray):FnS (z01a l name end_) F.a144 #[.pointer l,.string name,.string end_]:=dV ⟨[(19342794667089993088630829,[(9,.one (.int .i64))])],[(0,[(9,.one (.int .i64))])],[],[(0,[(9,.one (.int .i64)),(41,.one (.int .i64))])]⟩ Go.Proofs.Tryz.func242 (by kernel_rfl)
def z01e (l:Option Addr):Prog :=
AA l λa1=>
AO T.a42 a1 4 λl2=>
Ai ((Al l2) == 0) (
An 0 [Ad none])<|
AG<|
AA l λa4=>
AO T.a42 a4 4 λl5=>
AA l λa7=>
AO T.a42 a7 4 λl8=>
.ex [.adr] (c1 λa9=>0<=Aq ((Al l8)-1)/\Aq ((Al l8)-1)<(Al l5)/\l5.a=some a9) (u1 λa10=>
Ay T.a33 a10 (Int.toNat (Aq ((Al l8)-1))*1) λp11=>
AI<|
An 0 [Ad p11])
theorem zo1 (l:Option Addr):FnS (z01e l) F.a149 #[.pointer l]:=dV ⟨[],[],[],[]⟩ Go.Proofs.Tryz.func243 (by kernel_rfl)
def z01s (s:Option Addr):Prog :=
AG<|
AA s λa1=>
AP T.a14 a1 1 λn2=>
AA s λa4=>
AP T.a14 a4 2 λn5=>
AA s λa7=>
AP T.a14 a7 3 λn8=>
Af (if n8>if n5>n2 then n5 else n2 then n8 else if n5>n2 then n5 else n2) λn9=>
AI<|
An 0 [Ac n9]
theorem zof (s:Option Addr):FnS (z01s s) F.a163 #[.pointer s]:=dV ⟨[],[],[],[]⟩ Go.Proofs.Tryz.func244 (by kernel_rfl)
def z07d (b:Sl):Prog :=
Ai (decide ((Al b)<8)) (
An 0 [.slice none 0 0,Ac 0,.bool false])<|
Cd F.a56 [b.v] λn0=>
Ce n0 λn1=>
Ai (decide (n1>262144) || decide (Aq n1>Aq ((Al b)-8))) (
An 0 [.slice none 0 0,Ac 0,.bool false])<|
Af (Aq (Aq n1+4)) λn2=>
Ah 1 (
AG<|
.must (0<=n2/\n2<=(Al b)) <|
.must (0<=n2/\n2<=((b.cap:Nat):Int)) <|
.both (
Cd F.a56 [.slice (z14 b.a 1 (Int.toNat n2) b.cap) (b.len-Int.toNat n2) (b.cap-Int.toNat n2)] λn3=>
AE (Instr.buildSlice T.a44 1 #[(0,.slice b.a (Int.toNat n2) b.cap)]) λl4=>
Cd F.a54 [l4.v] λn5=>
AI<|
An 1 [.bool (n3 != n5)]) <|
AE (Instr.buildSlice T.a44 1 #[(0,.slice b.a (Int.toNat n2) b.cap)]) λl6=>
Cd F.a56 [.slice (z14 b.a 1 (Int.toNat n2) b.cap) (b.len-Int.toNat n2) (b.cap-Int.toNat n2)] λn7=>
Cd F.a54 [l6.v] λn8=>
AI<|
An 1 [.bool (n7 != n8)]) λb9=>
Ai b9 (
An 0 [.slice none 0 0,Ac 0,.bool false])<|
.must ((0:Int)<=4/\4<=n2/\n2<=((b.cap:Nat):Int)) <|
Ak F.a0 [.slice (z14 b.a 1 4 b.cap) (Int.toNat n2-4) (b.cap-4)] λl10=>
Af (Aq (n2+4)) λn11=>
An 0 [l10.v,Ac n11,.bool true]
theorem zu0 (b:Sl):FnS (z07d b) F.a50 #[.slice b.a b.len b.cap]:=dV ⟨[],[],[(7,[(34,.one .bool)])],[]⟩ Go.Proofs.Tryz.func245 (by kernel_rfl)
def z01o (body:Sl) (base:Int):Prog :=
Ax F.a222 [body.v] λp0=>
Aj F.a223 [Ad p0] λn1=>
Bi F.a229 [Ad p0] λn2=>
Bi F.a229 [Ad p0] λn3=>
Af n1 λn4=>
Bj n2 λn5=>
Bj n3 λn6=>
Aj F.a224 [Ad p0] λn7=>
Ai (n7 != 0 || n4 != 83 || n5 != IntKind.wrap .u64 base || decide (base>1099511627776) || decide (n6>1099511627776)) (
An 0 [Ac 0,.bool false])<|
Af (Aq n6) λn8=>
Ag (n6 == 0 || decide (Aq n6>base)) λb9=>
An 0 [Ac n8,.bool b9]
theorem zob (body:Sl) (base:Int):FnS (z01o body base) F.a159 #[.slice body.a body.len body.cap,.int .i64 base]:=dV ⟨[],[],[],[]⟩ Go.Proofs.Tryz.func246 (by kernel_rfl)
def z01j (l:Option Addr) (base:Int) (end_:Int):Prog :=
AA l λa1=>
AP T.a13 (Addr.add a1 2) 1 λn2=>
Aw F.a61 [Ac n2] λp3 n4=>
Af n4 λn5=>
Ak F.a158 [Ac base,Ac end_] λl6=>
Av T.a49 (.agg #[Ad p3,Ac base,Ac end_,Ac 0,Ac (-1),Ac (Al l6)]) λa7=>
An 0 [Az a7]
theorem zo6 (l:Option Addr) (base end_:Int):FnS (z01j l base end_) F.a154 #[.pointer l,.int .i64 base,.int .i64 end_]:=dV ⟨[],[],[],[]⟩ Go.Proofs.Tryz.func247 (by kernel_rfl)
def z00n (raw:Sl):Prog :=
Ao T.a0 λa0=>
Ao T.a0 λa1=>
Ar T.a0 a1 (.agg #[Ac 0,Ac 0,Ac 0,Ac 0,Ac 0,Ac 0,.slice none 0 0])<|
Ax F.a222 [raw.v] λp2=>
Aj F.a223 [Ad p2] λn3=>
Ai (n3 != 1) (
AH T.a0 a1 λn4 n5 n6 n7 n8 n9 l10=>
Ar T.a0 a0 (AF n4 n5 n6 n7 n8 n9 l10)<|
AH T.a0 a0 λn11 n12 n13 n14 n15 n16 l17=>
An 0 [AF n11 n12 n13 n14 n15 n16 l17,Ac 6])<|
Aj F.a223 [Ad p2] λn18=>
Aj F.a132 [Ad p2,Ac 1099511627776] λn19=>
Aj F.a132 [Ad p2,Ac 1048576] λn20=>
Ao T.a0 λa21=>
Ar T.a0 a21 (.agg #[Ac n19,Ac n20,Ac 0,Ac 0,Ac n18,Ac 0,.slice none 0 0])<|
AP T.a14 a21 1 λn22=>
AK 1 (
Ai (decide (n22>0)) (
Aj F.a132 [Ad p2,Ac 32767] λn23=>
AJ T.a13 a21 2 (Ac n23)<|
AH T.a0 a21 λn24 n25 n26 n27 n28 n29 l30=>
Am F.a127 [AF n24 n25 n26 n27 n28 n29 l30] λb31=>
AK 2 (
Ai (not b31) (
Aj F.a132 [Ad p2,Ac 2147483647] λn32=>
AJ T.a13 a21 3 (Ac n32)<|
An 2 [])<|
An 2 [])<|
An 1 [])<|
An 1 [])<|
Aj F.a132 [Ad p2,Ac 1099511627776] λn33=>
AJ T.a14 a21 5 (Ac n33)<|
Aj F.a225 [Ad p2] λn34=>
AQ ((n34 != 0)=false) T.a14 a21 5 λn35=>
Ai (n34 != 0 || decide (n35>1099511627776)) (
AH T.a0 a1 λn36 n37 n38 n39 n40 n41 l42=>
Ar T.a0 a0 (AF n36 n37 n38 n39 n40 n41 l42)<|
AH T.a0 a0 λn43 n44 n45 n46 n47 n48 l49=>
An 0 [AF n43 n44 n45 n46 n47 n48 l49,Ac 6])<|
AH T.a0 a21 λn50 n51 n52 n53 n54 n55 l56=>
Am F.a127 [AF n50 n51 n52 n53 n54 n55 l56] λb57=>
AK 1 (
Ai (not b57) (
Aj F.a132 [Ad p2,Ac 64] λn58=>
Af n58 λn59=>
Ai (decide (n59>64)) (
AH T.a0 a1 λn60 n61 n62 n63 n64 n65 l66=>
Ar T.a0 a0 (AF n60 n61 n62 n63 n64 n65 l66)<|
AH T.a0 a0 λn67 n68 n69 n70 n71 n72 l73=>
An 0 [AF n67 n68 n69 n70 n71 n72 l73,Ac 6])<|
AK 2 (
.loop 3 [.one .str,.one (.int .i64)] ((ByteArray.mk #[]),(0,())) (u2 λs74 (n75:Int)=>
Ai (decide (n75<n59)) (
AP T.a14 a21 5 λn76=>
.call F.a130 [Ad p2,Ac n76,.string s74] (.tup [.agg [.str,.str,.bool,.int .i64],.one .bool]) (u5 λs77 s78 b79 (n80:Int) b81=>
Ao T.a2 λa82=>
Ar T.a2 a82 (AD s77 s78 b79 n80)<|
Ag b81 λb83=>
Ai (not b83) (
AH T.a0 a1 λn84 n85 n86 n87 n88 n89 l90=>
Ar T.a0 a0 (AF n84 n85 n86 n87 n88 n89 l90)<|
AH T.a0 a0 λn91 n92 n93 n94 n95 n96 l97=>
An 0 [AF n91 n92 n93 n94 n95 n96 l97,Ac 6])<|
AO T.a38 a21 6 λl98=>
BZ T.a2 a82 λs99 s100 b101 n102=>
AE (Instr.buildSlice T.a38 1 #[(0,AD s99 s100 b101 n102)]) λl103=>
AE (app T.a38 T.a38 T.a38 l98.v l103.v) λl104=>
AJ T.a38 a21 6 l104.v<|
AC T.a51 a82 0 λs105=>
Ab s105 λs106=>
An 3 [.string s106,Ac (Aq (n75+1))]))<|
An 2 []))<|
An 1 [])<|
An 1 [])<|
Ah 1 (
Aj F.a224 [Ad p2] λn107=>
AY ((n107 != 0)=false) T.a0 a21 λn108 n109 n110 n111 n112 n113 l114=>
Ai (n107 != 0) (
An 1 [.bool true])<|
Aj F.a124 [AF n108 n109 n110 n111 n112 n113 l114] λn115=>
An 1 [.bool (n115 != 0)]) λb116=>
Ai b116 (
AH T.a0 a1 λn117 n118 n119 n120 n121 n122 l123=>
Ar T.a0 a0 (AF n117 n118 n119 n120 n121 n122 l123)<|
AH T.a0 a0 λn124 n125 n126 n127 n128 n129 l130=>
An 0 [AF n124 n125 n126 n127 n128 n129 l130,Ac 6])<|
AH T.a0 a21 λn131 n132 n133 n134 n135 n136 l137=>
Ar T.a0 a0 (AF n131 n132 n133 n134 n135 n136 l137)<|
AH T.a0 a0 λn138 n139 n140 n141 n142 n143 l144=>
An 0 [AF n138 n139 n140 n141 n142 n143 l144,Ac 0]
theorem zna (raw:Sl):FnS (z00n raw) F.a118 #[.slice raw.a raw.len raw.cap]:=dV ⟨[(985162418487330,[]),(1123700883587100,[]),(19807040591672596250983170100,[])],[(0,[])],[(27,[(89,.one .bool)])],[(0,[(8,.one .str),(59,.one (.int .i64))])]⟩ Go.Proofs.Tryz.func248 (by kernel_rfl)
def z01t (s:Option Addr) (b_0 b_1 b_2 b_3 b_4 b_5:Int) (b_6:Sl) (size:Int):Prog :=
Av T.a0 (AF b_0 b_1 b_2 b_3 b_4 b_5 b_6) λa0=>
AH T.a0 a0 λn1 n2 n3 n4 n5 n6 l7=>
Aj F.a160 [AF n1 n2 n3 n4 n5 n6 l7] λn8=>
Af n8 λn9=>
AG<|
AA s λa11=>
Ay T.a29 a11 0 λp12=>
AP T.a14 a0 0 λn13=>
AA s λa15=>
AP T.a13 a15 5 λn16=>
Aj F.a59 [Ad p12,Ac n13,Ac n16,Ac n9] λn17=>
AI<|
AH T.a0 a0 λn18 n19 n20 n21 n22 n23 l24=>
Aj F.a122 [AF n18 n19 n20 n21 n22 n23 l24] λn25=>
AA s λa27=>
AJ T.a14 a27 3 (Ac n25)<|
AA s λa29=>
AP T.a14 a29 4 λn30=>
AA s λa32=>
AJ T.a14 a32 4 (Ac (if n9>n30 then n9 else n30))<|
AA s λa34=>
AP T.a13 a34 5 λn35=>
AA s λa37=>
AJ T.a13 a37 5 (Ac (Aq (n35+size)))<|
An 0 []
theorem zog (s:Option Addr) (b_0 b_1 b_2 b_3 b_4 b_5:Int) (b_6:Sl) (size:Int):FnS (z01t s b_0 b_1 b_2 b_3 b_4 b_5 b_6 size) F.a164 #[.pointer s,.agg #[.int .i64 b_0,.int .i64 b_1,.int .i64 b_2,.int .i64 b_3,.int .i64 b_4,.int .i64 b_5,.slice b_6.a b_6.len b_6.cap],.int .i64 size]:=dV ⟨[],[],[],[]⟩ Go.Proofs.Tryz.func249 (by kernel_rfl)
def z01h (l:Option Addr) (s:Option Addr):Prog :=
AA l λa1=>
AO T.a42 a1 4 λl2=>
AE (Instr.buildSlice T.a42 1 #[(0,Ad s)]) λl3=>
AE (app T.a42 T.a42 T.a42 l2.v l3.v) λl4=>
AA l λa6=>
AJ T.a42 a6 4 l4.v<|
An 0 []
theorem zo4 (l s:Option Addr):FnS (z01h l s) F.a152 #[.pointer l,.pointer s]:=dV ⟨[],[],[],[]⟩ Go.Proofs.Tryz.func250 (by kernel_rfl)
def z02e (r:Option Addr) (lo:Int) (hi:Int):Prog :=
Am F.a231 [Ad r] λb0=>
Ai (not b0) (
An 0 [Ac 0])<|
AA r λa2=>
AP T.a13 (Addr.add a2 0) 1 λn3=>
Af n3 λn4=>
Aj F.a227 [Ad r] λn5=>
Af n5 λn6=>
AA r λa8=>
AP T.a1 (Addr.add a8 0) 2 λn9=>
AK 1 (
Ai (n9 == 0 && (decide (n6<lo) || decide (n6>hi))) (
AA r λa11=>
AJ T.a13 (Addr.add a11 0) 1 (Ac n4)<|
AA r λa13=>
AU F.a234 [BH a13 0,Ac 8]<|
An 1 [])<|
An 1 [])<|
AA r λa15=>
AP T.a1 (Addr.add a15 0) 2 λn16=>
Ai (n16 != 0) (
An 0 [Ac 0])<|
Af n6 λn17=>
An 0 [Ac n17]
theorem zpe (r:Option Addr) (lo hi:Int):FnS (z02e r lo hi) F.a230 #[.pointer r,.int .i64 lo,.int .i64 hi]:=dV ⟨[(71916856549572642,[])],[],[],[]⟩ Go.Proofs.Tryz.func253 (by kernel_rfl)
def z07k (x:Option Addr) (offset:Int):Prog :=
Av T.a29 (Ad x) λa0=>
Av T.a14 (Ac offset) λa1=>
Ao T.a10 λa2=>
B0 T.a29 a0 λp3=>
Ai (Option.isNone p3) (
Ar T.a10 a2 (Au 0 0 0)<|
As T.a10 a2 λn4 n5 n6=>
An 0 [Au n4 n5 n6,.bool false])<|
Ah 1 (
AG<|
.hold True (ld T.a29 a0) sP (u1 λp7=>
B0 T.a29 a0 λp8=>
AA p8 λa10=>
AO T.a39 a10 4 λl11=>
Aj F.a213 [Ac (Al l11),.func (Fn.func 311) #[] #[Az a0,Az a1]] λn12=>
AI<|
.call F.a60 [Ad p7,Ac (Aq (n12-1))] (.tup [.agg [.int .i64,.int .i64,.int .i64],.one .bool]) (u4 λ(n13 n14 n15:Int) b16=>
Ar T.a10 a2 (Au n13 n14 n15)<|
Ag b16 λb17=>
AI<|
An 1 [.bool b17]))) λb18=>
As T.a10 a2 λn19 n20 n21=>
An 0 [Au n19 n20 n21,.bool b18]
theorem zu7 (x:Option Addr) (offset:Int):FnS (z07k x offset) F.a57 #[.pointer x,.int .i64 offset]:=dV ⟨[],[],[(3,[(5,.one .bool)])],[]⟩ Go.Proofs.Tryz.func262 (by kernel_rfl)
def z01n (base:Int) (end_:Int):Prog :=
AE (Instr.buildSlice T.a46 1 #[(0,.int .u8 83)]) λl0=>
Ak F.a233 [.int .u64 (IntKind.wrap .u64 base)] λl1=>
Ak F.a233 [.int .u64 (IntKind.wrap .u64 end_)] λl2=>
AE (Instr.buildSlice T.a44 3 #[(0,l0.v),(1,l1.v),(2,l2.v)]) λl3=>
Ak F.a53 [l3.v] λl4=>
An 0 [l4.v]
theorem zoa (base end_:Int):FnS (z01n base end_) F.a158 #[.int .i64 base,.int .i64 end_]:=dV ⟨[],[],[],[]⟩ Go.Proofs.Tryz.func263 (by kernel_rfl)
def z00y (b_0 b_1 b_2 b_3 b_4 b_5:Int) (b_6:Sl) (from_:Int) (to_:Int):Prog :=
Av T.a0 (AF b_0 b_1 b_2 b_3 b_4 b_5 b_6) λa0=>
Ao T.a0 λa1=>
AH T.a0 a0 λn2 n3 n4 n5 n6 n7 l8=>
Ao T.a0 λa9=>
Ar T.a0 a9 (AF n2 n3 n4 n5 n6 n7 l8)<|
AO T.a38 a0 6 λl10=>
.must (0<=from_/\from_<=to_/\to_<=((l10.cap:Nat):Int)) <|
AE (app T.a38 T.a38 T.a38 (.slice none 0 0) (.slice (z14 l10.a 4 (Int.toNat from_) l10.cap) (Int.toNat to_-Int.toNat from_) (l10.cap-Int.toNat from_))) λl11=>
AJ T.a38 a9 6 l11.v<|
AP T.a14 a9 0 λn12=>
AJ T.a14 a9 0 (Ac (Aq (n12+from_)))<|
AP T.a14 a9 1 λn13=>
AK 1 (
Ai (decide (n13>0)) (
AP T.a13 a9 3 λn14=>
AJ T.a13 a9 3 (Ac (Aq (n14+from_)))<|
An 1 [])<|
An 1 [])<|
AH T.a0 a9 λn15 n16 n17 n18 n19 n20 l21=>
Ar T.a0 a1 (AF n15 n16 n17 n18 n19 n20 l21)<|
AH T.a0 a1 λn22 n23 n24 n25 n26 n27 l28=>
An 0 [AF n22 n23 n24 n25 n26 n27 l28]
theorem znl (b_0 b_1 b_2 b_3 b_4 b_5:Int) (b_6:Sl) (from_ to_:Int):FnS (z00y b_0 b_1 b_2 b_3 b_4 b_5 b_6 from_ to_) F.a129 #[.agg #[.int .i64 b_0,.int .i64 b_1,.int .i64 b_2,.int .i64 b_3,.int .i64 b_4,.int .i64 b_5,.slice b_6.a b_6.len b_6.cap],.int .i64 from_,.int .i64 to_]:=dV ⟨[(2130303778839,[])],[],[],[]⟩ Go.Proofs.Tryz.func264 (by kernel_rfl)
def z00x (b_0 b_1 b_2 b_3 b_4 b_5:Int) (b_6:Sl):Prog :=
Av T.a0 (AF b_0 b_1 b_2 b_3 b_4 b_5 b_6) λa0=>
Ah 1 (
AP T.a13 a0 4 λn1=>
AQ (decide (n1>=0)=true) T.a13 a0 4 λn2=>
AQ ((decide (n1>=0) && decide (n2<=3))=true) T.a14 a0 0 λn3=>
Ai (decide (n1>=0) && decide (n2<=3)) (
Am F.a133 [Ac n3,Ac 0,Ac 1099511627776] λb4=>
AQ (b4=true) T.a14 a0 1 λn5=>
Ai b4 (
Am F.a133 [Ac n5,Ac 0,Ac 1048576] λb6=>
AQ (b6=true) T.a13 a0 2 λn7=>
AQ ((b6 && decide (n7>=0))=true) T.a13 a0 2 λn8=>
AQ ((b6 && decide (n7>=0) && decide (n8<=32767))=true) T.a13 a0 3 λn9=>
AQ ((b6 && decide (n7>=0) && decide (n8<=32767) && decide (n9>=0))=true) T.a13 a0 3 λn10=>
AQ ((b6 && decide (n7>=0) && decide (n8<=32767) && decide (n9>=0) && decide (n10<=2147483647))=true) T.a14 a0 5 λn11=>
Ai (b6 && decide (n7>=0) && decide (n8<=32767) && decide (n9>=0) && decide (n10<=2147483647)) (
Am F.a133 [Ac n11,Ac 0,Ac 1099511627776] λb12=>
Ag b12 λb13=>
An 1 [.bool b13])<|
An 1 [.bool false])<|
An 1 [.bool false])<|
An 1 [.bool false]) λb14=>
An 0 [.bool b14]
theorem znk (b_0 b_1 b_2 b_3 b_4 b_5:Int) (b_6:Sl):FnS (z00x b_0 b_1 b_2 b_3 b_4 b_5 b_6) F.a128 #[.agg #[.int .i64 b_0,.int .i64 b_1,.int .i64 b_2,.int .i64 b_3,.int .i64 b_4,.int .i64 b_5,.slice b_6.a b_6.len b_6.cap]]:=dV ⟨[],[],[(1,[(2,.one .bool)])],[]⟩ Go.Proofs.Tryz.func269 (by kernel_rfl)
def z00v (b_0 b_1 b_2 b_3 b_4 b_5:Int) (b_6:Sl):Prog :=
Av T.a0 (AF b_0 b_1 b_2 b_3 b_4 b_5 b_6) λa0=>
AP T.a14 a0 1 λn1=>
AQ ((n1 == 0)=true) T.a13 a0 4 λn2=>
AQ ((n1 == 0)=true/\(n2 != 0)=false) T.a13 a0 2 λn3=>
AQ ((n1 == 0)=true/\(n2 != 0 || n3 != 0)=false) T.a13 a0 3 λn4=>
Ai (n1 == 0 && (n2 != 0 || n3 != 0 || n4 != 0)) (
An 0 [.bool false])<|
AH T.a0 a0 λn5 n6 n7 n8 n9 n10 l11=>
Am F.a127 [AF n5 n6 n7 n8 n9 n10 l11] λb12=>
Ai b12 (
AP T.a13 a0 3 λn13=>
Bw ((n13 == 0)=true) T.a38 a0 6 λl14=>
Ag (n13 == 0 && (Al l14) == 0) λb15=>
An 0 [.bool b15])<|
AO T.a38 a0 6 λl16=>
Ag (decide ((Al l16)>0)) λb17=>
An 0 [.bool b17]
theorem zni (b_0 b_1 b_2 b_3 b_4 b_5:Int) (b_6:Sl):FnS (z00v b_0 b_1 b_2 b_3 b_4 b_5 b_6) F.a126 #[.agg #[.int .i64 b_0,.int .i64 b_1,.int .i64 b_2,.int .i64 b_3,.int .i64 b_4,.int .i64 b_5,.slice b_6.a b_6.len b_6.cap]]:=dV ⟨[],[],[],[]⟩ Go.Proofs.Tryz.func270 (by kernel_rfl)
def z010 (r_0 r_1:ByteArray) (r_2:Bool) (r_3:Int):Prog :=
Av T.a2 (AD r_0 r_1 r_2 r_3) λa0=>
AC T.a51 a0 0 λs1=>
Bg (decide (((ByteArray.size s1:Nat):Int)>1024)=false) T.a51 a0 1 λs2=>
Ba (decide (((ByteArray.size s1:Nat):Int)>1024) || decide (((ByteArray.size s2:Nat):Int)>1024)) (
An 0 [Ac 7])<|
AP T.a14 a0 3 λn4=>
Am F.a133 [Ac n4,Ac 0,Ac 1099511627776] λb5=>
Bq (not b5=false) T.a3 a0 2 λb6=>
Bg (not b5=false/\b6=true) T.a51 a0 1 λs7=>
Ba (not b5 || b6 && not (ByteArray.toList s7 == ByteArray.toList (ByteArray.mk #[]))) (
An 0 [Ac 2])<|
An 0 [Ac 0]
theorem znn (r_0 r_1:ByteArray) (r_2:Bool) (r_3:Int):FnS (z010 r_0 r_1 r_2 r_3) F.a131 #[.agg #[.string r_0,.string r_1,.bool r_2,.int .i64 r_3]]:=dV ⟨[],[],[],[]⟩ Go.Proofs.Tryz.func271 (by kernel_rfl)
def z01g (l:Option Addr) (bs:Sl):Prog :=
Aj F.a137 [Ad l] λn0=>
Af n0 λn1=>
.bind 1 [.one .slc,.one .slc] (
.loop 2 [.one (.int .i64),.one .slc,.one .slc,.one (.int .i64)] (n1,(⟨none,0,0⟩,(⟨none,0,0⟩,(0,())))) (u4 λ(n2:Int) l3 l4 (n5:Int)=>
Ai (decide (n5<(Al bs))) (
.ex [.adr] (c1 λa6=>0<=n5/\n5<(Al bs)/\bs.a=some a6) (u1 λa7=>
AN T.a0 a7 (Int.toNat n5*7) λn8 n9 n10 n11 n12 n13 l14=>
Ao T.a0 λa15=>
Ar T.a0 a15 (AF n8 n9 n10 n11 n12 n13 l14)<|
AJ T.a14 a15 0 (Ac n2)<|
AH T.a0 a15 λn16 n17 n18 n19 n20 n21 l22=>
AV F.a119 [AF n16 n17 n18 n19 n20 n21 l22] λl23 n24=>
Af n24 λn25=>
Ai (n25 != 0) (
Af n25 λn26=>
An 0 [.slice none 0 0,.slice none 0 0,Ac n26])<|
AH T.a0 a15 λn27 n28 n29 n30 n31 n32 l33=>
AE (Instr.buildSlice T.a37 1 #[(0,AF n27 n28 n29 n30 n31 n32 l33)]) λl34=>
AE (app T.a37 T.a37 T.a37 l3.v l34.v) λl35=>
AE (Instr.buildSlice T.a44 1 #[(0,l23.v)]) λl36=>
Ak F.a53 [l36.v] λl37=>
AE (Instr.buildSlice T.a44 1 #[(0,l37.v)]) λl38=>
AE (app T.a44 T.a44 T.a44 l4.v l38.v) λl39=>
AH T.a0 a15 λn40 n41 n42 n43 n44 n45 l46=>
Aj F.a122 [AF n40 n41 n42 n43 n44 n45 l46] λn47=>
Af n47 λn48=>
An 2 [Ac n48,l35.v,l39.v,Ac (Aq (n5+1))]))<|
An 1 [l3.v,l4.v])) (u2 λl49 l50=>
An 0 [l49.v,l50.v,Ac 0])
theorem zo3 (l:Option Addr) (bs:Sl):FnS (z01g l bs) F.a151 #[.pointer l,.slice bs.a bs.len bs.cap]:=dV ⟨[],[(0,[(8,.one .slc),(9,.one .slc)])],[],[(0,[(7,.one (.int .i64)),(8,.one .slc),(9,.one .slc),(18,.one (.int .i64))])]⟩ Go.Proofs.Tryz.func274 (by kernel_rfl)
def z01d (l:Option Addr) (n:Int):Prog :=
Ax F.a149 [Ad l] λp0=>
AG<|
AX (not (Option.isNone p0)=true) p0 λa2=>
AQ (not (Option.isNone p0)=true) T.a14 a2 3 λn3=>
AX (not (Option.isNone p0)=true/\(n3 == 0)=false) p0 λa5=>
AQ (not (Option.isNone p0)=true/\(n3 == 0)=false) T.a13 a5 5 λn6=>
AX (not (Option.isNone p0)=true/\(n3 == 0)=false) l λa8=>
AQ (not (Option.isNone p0)=true/\(n3 == 0)=false) T.a13 (Addr.add a8 2) 0 λn9=>
Ag (not (Option.isNone p0) && (n3 == 0 || decide (Aq (n6+n)<=n9))) λb10=>
AI<|
An 0 [.bool b10]
theorem zo0 (l:Option Addr) (n:Int):FnS (z01d l n) F.a147 #[.pointer l,.int .i64 n]:=dV ⟨[],[],[],[]⟩ Go.Proofs.Tryz.func275 (by kernel_rfl)
def z07g (parts:Sl):Prog :=
Ap 1 (
AM 2 (0,(0,())) λn0 n1=>
Ai (decide (n1<(Al parts))) (
.ex [.adr] (c1 λa2=>0<=n1/\n1<(Al parts)/\parts.a=some a2) (u1 λa3=>
AO T.a46 a3 (Int.toNat n1*1) λl4=>
Af (Aq (n0+(Al l4))) λn5=>
Ai (decide (n5>262144)) (
An 0 [.slice none 0 0])<|
An 2 [Ac n5,Ac (Aq (n1+1))]))<|
An 1 [Ac n0]) λn6=>
AE (Instr.makeSlice T.a46 (Ac 0) (Ac (Aq (n6+8)))) λl7=>
Ak F.a55 [.int .u32 (IntKind.wrap .u32 n6)] λl8=>
AE (app T.a46 T.a46 T.a46 l7.v l8.v) λl9=>
AZ 1 (
Bf 2 ({ a:=l9.a,len:=l9.len,cap:=l9.cap },(0,())) λl10 n11=>
Ai (decide (n11<(Al parts))) (
.ex [.adr] (c1 λa12=>0<=n11/\n11<(Al parts)/\parts.a=some a12) (u1 λa13=>
AO T.a46 a13 (Int.toNat n11*1) λl14=>
AE (app T.a46 T.a46 T.a46 l10.v l14.v) λl15=>
An 2 [l15.v,Ac (Aq (n11+1))]))<|
An 1 [l10.v]) λl16=>
AE (Instr.buildSlice T.a44 1 #[(0,l16.v)]) λl17=>
Cd F.a54 [l17.v] λn18=>
Ak F.a55 [.int .u32 n18] λl19=>
AE (app T.a46 T.a46 T.a46 l16.v l19.v) λl20=>
An 0 [l20.v]
theorem zu3 (parts:Sl):FnS (z07g parts) F.a53 #[.slice parts.a parts.len parts.cap]:=dV ⟨[],[(0,[(3,.one (.int .i64))]),(2,[(6,.one .slc)])],[],[(0,[(3,.one (.int .i64)),(11,.one (.int .i64))]),(2,[(6,.one .slc),(32,.one (.int .i64))])]⟩ Go.Proofs.Tryz.func278 (by kernel_rfl)
def z02g (s:ByteArray):Prog :=
Ak F.a233 [.int .u64 (IntKind.wrap .u64 (((ByteArray.size s:Nat):Int)))] λl0=>
AE (app T.a46 T.a51 T.a46 l0.v (.string s)) λl1=>
An 0 [l1.v]
theorem zpg (s:ByteArray):FnS (z02g s) F.a232 #[.string s]:=dV ⟨[],[],[],[]⟩ Go.Proofs.Tryz.func279 (by kernel_rfl)
def z00o (b_0 b_1 b_2 b_3 b_4 b_5:Int) (b_6:Sl):Prog :=
Av T.a0 (AF b_0 b_1 b_2 b_3 b_4 b_5 b_6) λa0=>
AH T.a0 a0 λn1 n2 n3 n4 n5 n6 l7=>
Aj F.a124 [AF n1 n2 n3 n4 n5 n6 l7] λn8=>
Af n8 λn9=>
Ai (n9 != 0) (
Af n9 λn10=>
An 0 [.slice none 0 0,Ac n10])<|
AZ 1 (
AG<|
Bn T.a13 a0 4 λn11=>
Bn T.a14 a0 0 λn12=>
Bn T.a14 a0 1 λn13=>
.both (
AE (Instr.buildSlice T.a46 2 #[(0,.int .u8 1),(1,.int .u8 (IntKind.wrap .u8 n11))]) λl14=>
Ak F.a233 [.int .u64 (IntKind.wrap .u64 n12)] λl15=>
Ak F.a233 [.int .u64 (IntKind.wrap .u64 n13)] λl16=>
AI<|
AE (Instr.buildSlice T.a44 3 #[(0,l14.v),(1,l15.v),(2,l16.v)]) λl17=>
Ak F.a221 [l17.v] λl18=>
AI<|
An 1 [l18.v]) <|
Ak F.a233 [.int .u64 (IntKind.wrap .u64 n12)] λl19=>
.both (
AE (Instr.buildSlice T.a46 2 #[(0,.int .u8 1),(1,.int .u8 (IntKind.wrap .u8 n11))]) λl20=>
Ak F.a233 [.int .u64 (IntKind.wrap .u64 n13)] λl21=>
AI<|
AE (Instr.buildSlice T.a44 3 #[(0,l20.v),(1,l19.v),(2,l21.v)]) λl22=>
Ak F.a221 [l22.v] λl23=>
AI<|
An 1 [l23.v]) <|
Ak F.a233 [.int .u64 (IntKind.wrap .u64 n13)] λl24=>
AE (Instr.buildSlice T.a46 2 #[(0,.int .u8 1),(1,.int .u8 (IntKind.wrap .u8 n11))]) λl25=>
AI<|
AE (Instr.buildSlice T.a44 3 #[(0,l25.v),(1,l19.v),(2,l24.v)]) λl26=>
Ak F.a221 [l26.v] λl27=>
AI<|
An 1 [l27.v]) λl28=>
AP T.a14 a0 1 λn29=>
AZ 1 (
Ai (decide (n29>0)) (
AP T.a13 a0 2 λn30=>
Ak F.a233 [.int .u64 (IntKind.wrap .u64 n30)] λl31=>
AE (app T.a46 T.a46 T.a46 l28.v l31.v) λl32=>
AH T.a0 a0 λn33 n34 n35 n36 n37 n38 l39=>
Am F.a127 [AF n33 n34 n35 n36 n37 n38 l39] λb40=>
AZ 2 (
Ai (not b40) (
AP T.a13 a0 3 λn41=>
Ak F.a233 [.int .u64 (IntKind.wrap .u64 n41)] λl42=>
AE (app T.a46 T.a46 T.a46 l32.v l42.v) λl43=>
An 2 [l43.v])<|
An 2 [l32.v]) λl44=>
An 1 [l44.v])<|
An 1 [l28.v]) λl45=>
AP T.a14 a0 5 λn46=>
Ak F.a233 [.int .u64 (IntKind.wrap .u64 n46)] λl47=>
AE (app T.a46 T.a46 T.a46 l45.v l47.v) λl48=>
AH T.a0 a0 λn49 n50 n51 n52 n53 n54 l55=>
Am F.a127 [AF n49 n50 n51 n52 n53 n54 l55] λb56=>
Ai b56 (
An 0 [l48.v,Ac 0])<|
AO T.a38 a0 6 λl57=>
Ak F.a233 [.int .u64 (IntKind.wrap .u64 (Al l57))] λl58=>
AE (app T.a46 T.a46 T.a46 l48.v l58.v) λl59=>
AO T.a38 a0 6 λl60=>
AZ 1 (
.loop 2 [.one .slc,.one .str,.one (.int .i64)] ({ a:=l59.a,len:=l59.len,cap:=l59.cap },((ByteArray.mk #[]),(0,()))) (u3 λl61 s62 (n63:Int)=>
Ai (decide (n63<(Al l60))) (
.ex [.adr] (c1 λa64=>0<=n63/\n63<(Al l60)/\l60.a=some a64) (u1 λa65=>
By T.a2 a65 (Int.toNat n63*4) λs66 s67 b68 n69=>
Ao T.a2 λa70=>
Ar T.a2 a70 (AD s66 s67 b68 n69)<|
AC T.a51 a70 0 λs71=>
Aj F.a125 [.string s62,.string s71] λn72=>
Af n72 λn73=>
AZ 3 (
AG<|
AP T.a14 a70 3 λn74=>
AP T.a14 a0 5 λn75=>
.hold True (ld T.a3 (Addr.add a70 2)) sB (u1 λb76=>
.hold True (ld T.a51 (Addr.add a70 0)) sS (u1 λs77=>
.must (0<=n73/\n73<=((ByteArray.size s77:Nat):Int)) <|
Ak F.a220 [Ac (Aq (n74-n75))] λl78=>
Ak F.a219 [.bool b76] λl79=>
Ak F.a233 [.int .u64 (IntKind.wrap .u64 n73)] λl80=>
AI<|
Ak F.a232 [.string (ByteArray.extract s77 (Int.toNat n73) (ByteArray.size s77))] λl81=>
AE (Instr.buildSlice T.a44 4 #[(0,l78.v),(1,l79.v),(2,l80.v),(3,l81.v)]) λl82=>
Ak F.a221 [l82.v] λl83=>
AE (app T.a46 T.a46 T.a46 l61.v l83.v) λl84=>
AI<|
An 3 [l84.v]))) λl85=>
Br T.a3 a70 2 λb86=>
AZ 3 (
Ai (not b86) (
AC T.a51 a70 1 λs87=>
Ak F.a232 [.string s87] λl88=>
AE (app T.a46 T.a46 T.a46 l85.v l88.v) λl89=>
An 3 [l89.v])<|
An 3 [l85.v]) λl90=>
AC T.a51 a70 0 λs91=>
Ab s91 λs92=>
An 2 [l90.v,.string s92,Ac (Aq (n63+1))]))<|
An 1 [l61.v])) λl93=>
An 0 [l93.v,Ac 0]
theorem znb (b_0 b_1 b_2 b_3 b_4 b_5:Int) (b_6:Sl):FnS (z00o b_0 b_1 b_2 b_3 b_4 b_5 b_6) F.a119 #[.agg #[.int .i64 b_0,.int .i64 b_1,.int .i64 b_2,.int .i64 b_3,.int .i64 b_4,.int .i64 b_5,.slice b_6.a b_6.len b_6.cap]]:=dV ⟨[(567453553048813608,[(5,.one .slc)]),(576443160117510175,[(5,.one .slc)]),(40240300653644914121111346551586913,[(5,.one .slc)])],[(0,[(5,.one .slc)])],[(4,[(5,.one .slc)]),(18,[(5,.one .slc)])],[(0,[(5,.one .slc),(6,.one .str),(66,.one (.int .i64))])]⟩ Go.Proofs.Tryz.func280 (by kernel_rfl)
def z07j (b:Sl):Prog :=
AG<|
.ex [.adr] (c1 λa0=>(0:Int)<=0/\0<(Al b)/\b.a=some a0) (u1 λa1=>
BN T.a52 a1 0 λn2=>
.ex [.adr] (c1 λa3=>(0:Int)<=1/\1<(Al b)/\b.a=some a3) (u1 λa4=>
BN T.a52 a4 1 λn5=>
.ex [.adr] (c1 λa6=>(0:Int)<=2/\2<(Al b)/\b.a=some a6) (u1 λa7=>
BN T.a52 a7 2 λn8=>
.ex [.adr] (c1 λa9=>(0:Int)<=3/\3<(Al b)/\b.a=some a9) (u1 λa10=>
BN T.a52 a10 3 λn11=>
Ce (IntKind.wrap .u32 (((BitVec.toNat (BitVec.ofInt 32 (IntKind.wrap .u32 (((BitVec.toNat (BitVec.ofInt 32 (IntKind.wrap .u32 (((BitVec.toNat (BitVec.ofInt 32 (IntKind.wrap .u32 n2) ||| BitVec.ofInt 32 (IntKind.wrap .u32 (IntKind.wrap .u32 n5*256))):Nat):Int))) ||| BitVec.ofInt 32 (IntKind.wrap .u32 (IntKind.wrap .u32 n8*65536))):Nat):Int))) ||| BitVec.ofInt 32 (IntKind.wrap .u32 (IntKind.wrap .u32 n11*16777216))):Nat):Int))) λn12=>
AI<|
An 0 [.int .u32 n12]))))
theorem zu6 (b:Sl):FnS (z07j b) F.a56 #[.slice b.a b.len b.cap]:=dV ⟨[],[],[],[]⟩ Go.Proofs.Tryz.func295 (by kernel_rfl)
def z07h (parts:Sl):Prog :=
Cd F.a51 [.int .u32 0,parts.v] λn0=>
Ce n0 λn1=>
An 0 [.int .u32 n1]
theorem zu4 (parts:Sl):FnS (z07h parts) F.a54 #[.slice parts.a parts.len parts.cap]:=dV ⟨[],[],[],[]⟩ Go.Proofs.Tryz.func296 (by kernel_rfl)
def z027 (r:Option Addr):Prog :=
Am F.a231 [Ad r] λb0=>
Ai (not b0) (
An 0 [Ac 0])<|
AA r λa2=>
Aj F.a235 [BH a2 0] λn3=>
Ai (n3 == 0) (
AA r λa5=>
AU F.a234 [BH a5 0,Ac 6]<|
An 0 [Ac 0])<|
AA r λa7=>
Ak F.a236 [BH a7 0,Ac 1] λl8=>
.ex [.adr] (c1 λa9=>(0:Int)<=0/\0<(Al l8)/\l8.a=some a9) (u1 λa10=>
BN T.a52 a10 0 λn11=>
Af (Aq n11) λn12=>
An 0 [Ac n12])
theorem zp7 (r:Option Addr):FnS (z027 r) F.a223 #[.pointer r]:=dV ⟨[],[],[],[]⟩ Go.Proofs.Tryz.func297 (by kernel_rfl)
def z07o (gap:Int):Prog :=
Ai (decide (gap<1) || decide (gap>4194304)) (
An 0 [Ad none,Ac 2])<|
Av T.a11 (.agg #[Ac (-1),Ac (-1),Ac (-1),Ac gap,.slice none 0 0]) λa0=>
An 0 [Az a0,Ac 0]
theorem zub (gap:Int):FnS (z07o gap) F.a61 #[.int .i64 gap]:=dV ⟨[],[],[],[]⟩ Go.Proofs.Tryz.func298 (by kernel_rfl)
def z011 (r:Option Addr) (most:Int):Prog :=
Bi F.a229 [Ad r] λn0=>
Bj n0 λn1=>
Ai (decide (n1>IntKind.wrap .u64 most)) (
Af (Aq (most+1)) λn2=>
An 0 [Ac n2])<|
Af (Aq n1) λn3=>
An 0 [Ac n3]
theorem zno (r:Option Addr) (most:Int):FnS (z011 r most) F.a132 #[.pointer r,.int .i64 most]:=dV ⟨[],[],[],[]⟩ Go.Proofs.Tryz.func299 (by kernel_rfl)
def z00z (r:Option Addr) (time:Int) (ahead:ByteArray):Prog :=
Ao T.a2 λa0=>
Aj F.a230 [Ad r,Ac (-1099511627776),Ac 1099511627776] λn1=>
Af n1 λn2=>
Am F.a226 [Ad r] λb3=>
Ao T.a2 λa4=>
Ar T.a2 a4 (.agg #[.string (ByteArray.mk #[]),.string (ByteArray.mk #[]),.bool b3,Ac (Aq (time+n2))])<|
Aj F.a132 [Ad r,Ac 1024] λn5=>
Af n5 λn6=>
Aa F.a228 [Ad r,Ac 1024] λs7=>
Ab s7 λs8=>
Ai (decide (n6>((ByteArray.size ahead:Nat):Int))) (
BZ T.a2 a4 λs9 s10 b11 n12=>
Ar T.a2 a0 (AD s9 s10 b11 n12)<|
BZ T.a2 a0 λs13 s14 b15 n16=>
An 0 [AD s13 s14 b15 n16,.bool false])<|
.must (0<=n6/\n6<=((ByteArray.size ahead:Nat):Int)) <|
.must (((ByteArray.size (ByteArray.extract ahead 0 (Int.toNat n6))+ByteArray.size s8:Nat):Int)<=9223372036854775807) <|
AJ T.a51 a4 0 (.string (ByteArray.extract ahead 0 (Int.toNat n6)++s8))<|
Br T.a3 a4 2 λb17=>
AK 1 (
Ai (not b17) (
Aa F.a228 [Ad r,Ac 1024] λs18=>
AJ T.a51 a4 1 (.string s18)<|
An 1 [])<|
An 1 [])<|
Ah 1 (
AG<|
.hold True (ld T.a2 a4) (sG [.str,.str,.bool,.int .i64]) (u4 λs19 s20 b21 (n22:Int)=>
Aj F.a225 [Ad r] λn23=>
Bg ((n23 == 0)=true) T.a51 a4 0 λs24=>
Ai (n23 == 0) (
Aj F.a125 [.string ahead,.string s24] λn25=>
AI<|
Ar T.a2 a0 (AD s19 s20 b21 n22)<|
Ag (n25 == n6) λb26=>
AI<|
An 1 [.bool b26])<|
AI<|
Ar T.a2 a0 (AD s19 s20 b21 n22)<|
AI<|
An 1 [.bool false])) λb27=>
BZ T.a2 a0 λs28 s29 b30 n31=>
An 0 [AD s28 s29 b30 n31,.bool b27]
theorem znm (r:Option Addr) (time:Int) (ahead:ByteArray):FnS (z00z r time ahead) F.a130 #[.pointer r,.int .i64 time,.string ahead]:=dV ⟨[(7881299347898405,[])],[],[(10,[(7,.one .bool)])],[]⟩ Go.Proofs.Tryz.func300 (by kernel_rfl)
def z01p (b_0 b_1 b_2 b_3 b_4 b_5:Int) (b_6:Sl):Prog :=
Av T.a0 (AF b_0 b_1 b_2 b_3 b_4 b_5 b_6) λa0=>
AO T.a38 a0 6 λl1=>
Ap 1 (
AM 2 (-1,(0,())) λn2 n3=>
Ai (decide (n3<(Al l1))) (
.ex [.adr] (c1 λa4=>0<=n3/\n3<(Al l1)/\l1.a=some a4) (u1 λa5=>
By T.a2 a5 (Int.toNat n3*4) λs6 s7 b8 n9=>
Ao T.a2 λa10=>
Ar T.a2 a10 (AD s6 s7 b8 n9)<|
AP T.a14 a10 3 λn11=>
Af (if n11>n2 then n11 else n2) λn12=>
An 2 [Ac n12,Ac (Aq (n3+1))]))<|
An 1 [Ac n2]) λn13=>
AO T.a38 a0 6 λl14=>
Ap 1 (
Ai ((Al l14) == 0) (
AP T.a14 a0 5 λn15=>
Af n15 λn16=>
An 1 [Ac n16])<|
An 1 [Ac n13]) λn17=>
Af n17 λn18=>
An 0 [Ac n18]
theorem zoc (b_0 b_1 b_2 b_3 b_4 b_5:Int) (b_6:Sl):FnS (z01p b_0 b_1 b_2 b_3 b_4 b_5 b_6) F.a160 #[.agg #[.int .i64 b_0,.int .i64 b_1,.int .i64 b_2,.int .i64 b_3,.int .i64 b_4,.int .i64 b_5,.slice b_6.a b_6.len b_6.cap]]:=dV ⟨[(51539640341,[(3,.one (.int .i64))])],[(0,[(3,.one (.int .i64))])],[],[(0,[(3,.one (.int .i64)),(9,.one (.int .i64))])]⟩ Go.Proofs.Tryz.func301 (by kernel_rfl)
def z07m (x:Option Addr) (offset place:Int) (time:Int):Prog :=
Ba (Option.isNone x) (
An 0 [Ac 1])<|
Am F.a62 [Ac offset,Ac place,Ac time] λb1=>
Ba (not b1) (
An 0 [Ac 2])<|
AA x λa4=>
AP T.a14 (Addr.add a4 0) 0 λn5=>
AX (decide (offset<=n5)=false) x λa7=>
AQ (decide (offset<=n5)=false) T.a13 (Addr.add a7 0) 1 λn8=>
Ba (decide (offset<=n5) || decide (place<=n8)) (
An 0 [Ac 21])<|
AA x λa11=>
AO T.a39 a11 4 λl12=>
Af (Al l12) λn13=>
AG<|
AX ((n13 == 0)=false) x λa15=>
Bw ((n13 == 0)=false) T.a39 a15 4 λl16=>
.ex [.adr] (c1 λa17=>(n13 == 0)=false->0<=Aq (n13-1)/\Aq (n13-1)<(Al l16)/\l16.a=some a17) (u1 λa18=>
AQ ((n13 == 0)=false) T.a13 (Addr.add a18 (Int.toNat (Aq (n13-1))*3)) 1 λn19=>
AX ((n13 == 0)=false) x λa21=>
AQ ((n13 == 0)=false) T.a13 a21 3 λn22=>
AI<|
AK 1 (
Ai (n13 == 0 || decide (Aq (place-n19)>=n22)) (
AZ 2 (
AG<|
AA x λa24=>
Be T.a39 a24 4 λl25=>
AA x λa27=>
AP T.a14 (Addr.add a27 0) 2 λn28=>
AE (Instr.buildSlice T.a39 1 #[(0,Au offset place n28)]) λl29=>
AI<|
AE (app T.a39 T.a39 T.a39 l25.v l29.v) λl30=>
AI<|
An 2 [l30.v]) λl31=>
AA x λa33=>
AJ T.a39 a33 4 l31.v<|
An 1 [])<|
An 1 [])<|
AA x λa35=>
AP T.a14 (Addr.add a35 0) 2 λn36=>
AA x λa38=>
AJ T.a12 a38 0 (.agg #[Ac offset,Ac place,Ac (if time>n36 then time else n36)])<|
An 0 [Ac 0])
theorem zu9 (x:Option Addr) (offset place time:Int):FnS (z07m x offset place time) F.a59 #[.pointer x,.int .i64 offset,.int .i64 place,.int .i64 time]:=dV ⟨[(4951741267675589621019836477,[])],[],[(9,[(10,.one .slc)])],[]⟩ Go.Proofs.Tryz.func302 (by kernel_rfl)
def z02b (r:Option Addr):Prog :=
Bi F.a229 [Ad r] λn0=>
Bj n0 λn1=>
Af (Aq (((BitVec.toNat (BitVec.ofInt 64 (Aq (Int.fdiv n1 2)) ^^^ BitVec.ofInt 64 (Aq (0-Aq (IntKind.wrap .u64 (((BitVec.toNat (BitVec.ofInt 64 n1 &&& BitVec.ofInt 64 1):Nat):Int)))))):Nat):Int))) λn2=>
An 0 [Ac n2]
theorem zpb (r:Option Addr):FnS (z02b r) F.a227 #[.pointer r]:=dV ⟨[],[],[],[]⟩ Go.Proofs.Tryz.func303 (by kernel_rfl)
def z07n (x:Option Addr) (i:Int):Prog :=
Ao T.a10 λa0=>
Ai (decide (i<0)) (
Ar T.a10 a0 (Au 0 0 0)<|
As T.a10 a0 λn1 n2 n3=>
An 0 [Au n1 n2 n3,.bool false])<|
AA x λa5=>
AO T.a39 a5 4 λl6=>
.ex [.adr] (c1 λa7=>0<=i/\i<(Al l6)/\l6.a=some a7) (u1 λa8=>
.read True (ld T.a10 (Addr.add a8 (Int.toNat i*3))) (sG [.int .i64,.int .i64,.int .i64]) (u3 λ(n9 n10 n11:Int)=>
Ar T.a10 a0 (Au n9 n10 n11)<|
As T.a10 a0 λn12 n13 n14=>
An 0 [Au n12 n13 n14,.bool true]))
theorem zua (x:Option Addr) (i:Int):FnS (z07n x i) F.a60 #[.pointer x,.int .i64 i]:=dV ⟨[],[],[],[]⟩ Go.Proofs.Tryz.func310 (by kernel_rfl)
def z07l (i:Int) (fv0:Option Addr) (fv1:Option Addr):Prog :=
AG<|
BA T.a29 fv0 λp0=>
AA p0 λa2=>
AO T.a39 a2 4 λl3=>
.ex [.adr] (c1 λa4=>0<=i/\i<(Al l3)/\l3.a=some a4) (u1 λa5=>
AP T.a14 (Addr.add a5 (Int.toNat i*3)) 0 λn6=>
Cc T.a14 fv1 λn7=>
Ag (decide (n6>n7)) λb8=>
AI<|
An 0 [.bool b8])
theorem zu8 (i:Int) (fv0 fv1:Option Addr):FnS (z07l i fv0 fv1) F.a58 #[.int .i64 i,.pointer fv0,.pointer fv1]:=dV ⟨[],[],[],[]⟩ Go.Proofs.Tryz.func311 (by kernel_rfl)
def z012 (n lo:Int) (hi:Int):Prog :=
Ag (decide (n>=lo) && decide (n<=hi)) λb0=>
An 0 [.bool b0]
theorem znp (n lo hi:Int):FnS (z012 n lo hi) F.a133 #[.int .i64 n,.int .i64 lo,.int .i64 hi]:=dV ⟨[],[],[],[]⟩ Go.Proofs.Tryz.func314 (by kernel_rfl)
def z024 (n:Int):Prog :=
Ak F.a233 [.int .u64 (IntKind.wrap .u64 (((BitVec.toNat (BitVec.ofInt 64 (IntKind.wrap .u64 (IntKind.wrap .u64 n*2)) ^^^ BitVec.ofInt 64 (IntKind.wrap .u64 (Int.fdiv n 9223372036854775808))):Nat):Int)))] λl0=>
An 0 [l0.v]
theorem zp4 (n:Int):FnS (z024 n) F.a220 #[.int .i64 n]:=dV ⟨[],[],[],[]⟩ Go.Proofs.Tryz.func317 (by kernel_rfl)
def z07i (n:Int):Prog :=
AE (Instr.buildSlice T.a46 4 #[(0,.int .u8 (IntKind.wrap .u8 n)),(1,.int .u8 (IntKind.wrap .u8 (Int.fdiv n 256))),(2,.int .u8 (IntKind.wrap .u8 (Int.fdiv n 65536))),(3,.int .u8 (IntKind.wrap .u8 (Int.fdiv n 16777216)))]) λl0=>
An 0 [l0.v]
theorem zu5 (n:Int):FnS (z07i n) F.a55 #[.int .u32 n]:=dV ⟨[],[],[],[]⟩ Go.Proofs.Tryz.func319 (by kernel_rfl)
def z00u (a:ByteArray) (b:ByteArray):Prog :=
Af (if ((ByteArray.size b:Nat):Int)<((ByteArray.size a:Nat):Int) then ((ByteArray.size b:Nat):Int) else ((ByteArray.size a:Nat):Int)) λn0=>
AK 1 (
AT 2 (0,()) λn1=>
Ai (decide (n1<n0)) (
Af n1 λn2=>
AG<|
.must (0<=n2/\n2<((ByteArray.size a:Nat):Int)) <|
.must (0<=n2/\n2<((ByteArray.size b:Nat):Int)) <|
AI<|
Ai (bt a n2 != bt b n2) (
Af n2 λn3=>
An 0 [Ac n3])<|
An 2 [Ac (Aq (n1+1))])<|
An 1 [])<|
Af n0 λn4=>
An 0 [Ac n4]
theorem znh (a b:ByteArray):FnS (z00u a b) F.a125 #[.string a,.string b]:=dV ⟨[],[(0,[])],[],[(0,[(13,.one (.int .i64))])]⟩ Go.Proofs.Tryz.func320 (by kernel_rfl)
def z07e (sum:Int) (parts:Sl):Prog :=
Ce (IntKind.wrap .u32 (((BitVec.toNat (BitVec.ofInt 32 4294967295 ^^^ BitVec.ofInt 32 sum):Nat):Int))) λn0=>
Cf 1 (
Cg 2 (n0,(0,())) λn1 n2=>
Ai (decide (n2<(Al parts))) (
Cf 3 (
.ex [.adr] (c1 λa3=>0<=n2/\n2<(Al parts)/\parts.a=some a3) (u1 λa4=>
AO T.a46 a4 (Int.toNat n2*1) λl5=>
Cf 4 (
Cg 5 (n1,(0,())) λn6 n7=>
Ai (decide (n7<(Al l5))) (
Cf 6 (
.ex [.adr] (c1 λa8=>0<=n7/\n7<(Al l5)/\l5.a=some a8) (u1 λa9=>
BN T.a52 a9 (Int.toNat n7*1) λn10=>
BO n10 λn11=>
Ce (IntKind.wrap .u32 (((BitVec.toNat (BitVec.ofInt 32 n6 ^^^ BitVec.ofInt 32 (IntKind.wrap .u32 n11)):Nat):Int))) λn12=>
Cf 7 (
Cg 8 (n12,(0,())) λn13 n14=>
Ai (decide (n14<8)) (
Ce (IntKind.wrap .u32 (((BitVec.toNat (BitVec.ofInt 32 (Int.fdiv n13 2) ^^^ BitVec.ofInt 32 (IntKind.wrap .u32 (((BitVec.toNat (BitVec.ofInt 32 3988292384 &&& BitVec.ofInt 32 (IntKind.wrap .u32 (0-IntKind.wrap .u32 (((BitVec.toNat (BitVec.ofInt 32 n13 &&& BitVec.ofInt 32 1):Nat):Int))))):Nat):Int)))):Nat):Int))) λn15=>
An 8 [.int .u32 n15,Ac (Aq (n14+1))])<|
An 7 [.int .u32 n13]) λn16=>
An 6 [.int .u32 n16])) λn17=>
An 5 [.int .u32 n17,Ac (Aq (n7+1))])<|
An 4 [.int .u32 n6]) λn18=>
An 3 [.int .u32 n18])) λn19=>
An 2 [.int .u32 n19,Ac (Aq (n2+1))])<|
An 1 [.int .u32 n1]) λn20=>
Ce (IntKind.wrap .u32 (((BitVec.toNat (BitVec.ofInt 32 4294967295 ^^^ BitVec.ofInt 32 n20):Nat):Int))) λn21=>
An 0 [.int .u32 n21]
theorem zu1 (sum:Int) (parts:Sl):FnS (z07e sum parts) F.a51 #[.int .u32 sum,.slice parts.a parts.len parts.cap]:=dV ⟨[],[(0,[(5,.one (.int .u32))]),(1,[(5,.one (.int .u32))]),(2,[(5,.one (.int .u32))]),(3,[(5,.one (.int .u32))]),(4,[(5,.one (.int .u32))])],[],[(0,[(5,.one (.int .u32)),(14,.one (.int .i64))]),(2,[(5,.one (.int .u32)),(20,.one (.int .i64))]),(4,[(5,.one (.int .u32)),(28,.one (.int .i64))])]⟩ Go.Proofs.Tryz.func327 (by kernel_rfl)
def z07p (offset place:Int) (time:Int):Prog :=
Ag (decide (offset>=0) && decide (offset<=1099511627776) && decide (place>=0) && decide (place<=4194304) && decide (time>=0) && decide (time<=1099511627776)) λb0=>
An 0 [.bool b0]
theorem zuc (offset place time:Int):FnS (z07p offset place time) F.a62 #[.int .i64 offset,.int .i64 place,.int .i64 time]:=dV ⟨[],[],[],[]⟩ Go.Proofs.Tryz.func328 (by kernel_rfl)
instance:One P T.a14:=⟨by kernel_rfl,by kernel_rfl⟩
instance:One P T.a13:=⟨by kernel_rfl,by kernel_rfl⟩
instance:One P T.a3:=⟨by kernel_rfl,by kernel_rfl⟩
instance:One P T.a52:=⟨by kernel_rfl,by kernel_rfl⟩
instance:One P T.a51:=⟨by kernel_rfl,by kernel_rfl⟩
instance:Agg P T.a47 2:=⟨by kernel_rfl,by kernel_rfl⟩
instance:Agg P T.a34 3:=⟨by kernel_rfl,by kernel_rfl⟩
instance:One P T.a27:=⟨by kernel_rfl,by kernel_rfl⟩
instance:One P T.a1:=⟨by kernel_rfl,by kernel_rfl⟩
instance:One P T.a38:=⟨by kernel_rfl,by kernel_rfl⟩
instance:Agg P T.a2 4:=⟨by kernel_rfl,by kernel_rfl⟩
instance:One P T.a37:=⟨by kernel_rfl,by kernel_rfl⟩
instance:Agg P T.a0 7:=⟨by kernel_rfl,by kernel_rfl⟩
instance:One P T.a43:=⟨by kernel_rfl,by kernel_rfl⟩
instance:One P T.a45:=⟨by kernel_rfl,by kernel_rfl⟩
instance:One P T.a46:=⟨by kernel_rfl,by kernel_rfl⟩
instance:Agg P T.a36 5:=⟨by kernel_rfl,by kernel_rfl⟩
instance:One P T.a24:=⟨by kernel_rfl,by kernel_rfl⟩
instance:Agg P T.a8 5:=⟨by kernel_rfl,by kernel_rfl⟩
instance:One P T.a31:=⟨by kernel_rfl,by kernel_rfl⟩
instance:One P T.a25:=⟨by kernel_rfl,by kernel_rfl⟩
instance:Agg P T.a19 2:=⟨by kernel_rfl,by kernel_rfl⟩
instance:One P T.a40:=⟨by kernel_rfl,by kernel_rfl⟩
instance:One P T.a32:=⟨by kernel_rfl,by kernel_rfl⟩
instance:One P T.a26:=⟨by kernel_rfl,by kernel_rfl⟩
instance:One P T.a30:=⟨by kernel_rfl,by kernel_rfl⟩
instance:Agg P T.a35 6:=⟨by kernel_rfl,by kernel_rfl⟩
instance:Agg P T.a4 2:=⟨by kernel_rfl,by kernel_rfl⟩
instance:One P T.a44:=⟨by kernel_rfl,by kernel_rfl⟩
instance:Agg P T.a54 3:=⟨by kernel_rfl,by kernel_rfl⟩
instance:One P T.a42:=⟨by kernel_rfl,by kernel_rfl⟩
instance:Agg P T.a48 5:=⟨by kernel_rfl,by kernel_rfl⟩
instance:Agg P T.a9 2:=⟨by kernel_rfl,by kernel_rfl⟩
instance:One P T.a28:=⟨by kernel_rfl,by kernel_rfl⟩
instance:One P T.a29:=⟨by kernel_rfl,by kernel_rfl⟩
instance:Agg P T.a49 6:=⟨by kernel_rfl,by kernel_rfl⟩
instance:One P T.a33:=⟨by kernel_rfl,by kernel_rfl⟩
instance:One P T.a41:=⟨by kernel_rfl,by kernel_rfl⟩
instance:Agg P T.a17 2:=⟨by kernel_rfl,by kernel_rfl⟩
instance:Agg P T.a18 4:=⟨by kernel_rfl,by kernel_rfl⟩
instance:One P T.a21:=⟨by kernel_rfl,by kernel_rfl⟩
instance:One P T.a22:=⟨by kernel_rfl,by kernel_rfl⟩
instance:Agg P T.a16 3:=⟨by kernel_rfl,by kernel_rfl⟩
instance:Agg P T.a7 2:=⟨by kernel_rfl,by kernel_rfl⟩
instance:One P T.a23:=⟨by kernel_rfl,by kernel_rfl⟩
instance:One P T.a20:=⟨by kernel_rfl,by kernel_rfl⟩
instance:Agg P T.a6 3:=⟨by kernel_rfl,by kernel_rfl⟩
instance:Agg P T.a5 7:=⟨by kernel_rfl,by kernel_rfl⟩
instance:Agg P T.a10 3:=⟨by kernel_rfl,by kernel_rfl⟩
instance:Agg P T.a15 4:=⟨by kernel_rfl,by kernel_rfl⟩
instance:One P T.a50:=⟨by kernel_rfl,by kernel_rfl⟩
instance:Agg P T.a12 3:=⟨by kernel_rfl,by kernel_rfl⟩
instance:One P T.a39:=⟨by kernel_rfl,by kernel_rfl⟩
instance:Agg P T.a11 5:=⟨by kernel_rfl,by kernel_rfl⟩
instance:Zer P T.a14 (.int .i64 0):=⟨by kernel_rfl⟩
instance:Zer P T.a13 (.int .i64 0):=⟨by kernel_rfl⟩
instance:Zer P T.a3 (.bool false):=⟨by kernel_rfl⟩
instance:Zer P T.a52 (.int .u8 0):=⟨by kernel_rfl⟩
instance:Zer P T.a51 (.string ⟨#[]⟩):=⟨by kernel_rfl⟩
instance:Zer P T.a47 (.agg #[.int .i64 0,.int .i64 0]):=⟨by kernel_rfl⟩
instance:Zer P T.a34 (.agg #[.int .i64 0,.int .i64 0,.int .i64 0]):=⟨by kernel_rfl⟩
instance:Zer P T.a27 (.pointer none):=⟨by kernel_rfl⟩
instance:Zer P T.a1 (.int .i64 0):=⟨by kernel_rfl⟩
instance:Zer P T.a38 (.slice none 0 0):=⟨by kernel_rfl⟩
instance:Zer P T.a2 (.agg #[.string ⟨#[]⟩,.string ⟨#[]⟩,.bool false,.int .i64 0]):=⟨by kernel_rfl⟩
instance:Zer P T.a37 (.slice none 0 0):=⟨by kernel_rfl⟩
instance:Zer P T.a0 (.agg #[.int .i64 0,.int .i64 0,.int .i64 0,.int .i64 0,.int .i64 0,.int .i64 0,.slice none 0 0]):=⟨by kernel_rfl⟩
instance:Zer P T.a43 (.slice none 0 0):=⟨by kernel_rfl⟩
instance:Zer P T.a45 (.slice none 0 0):=⟨by kernel_rfl⟩
instance:Zer P T.a46 (.slice none 0 0):=⟨by kernel_rfl⟩
instance:Zer P T.a36 (.agg #[.int .i64 0,.string ⟨#[]⟩,.string ⟨#[]⟩,.bool false,.int .i64 0]):=⟨by kernel_rfl⟩
instance:Zer P T.a24 (.map none):=⟨by kernel_rfl⟩
instance:Zer P T.a8 (.agg #[.int .i64 0,.bool false,.int .i64 0,.int .i64 0,.map none]):=⟨by kernel_rfl⟩
instance:Zer P T.a31 (.pointer none):=⟨by kernel_rfl⟩
instance:Zer P T.a25 (.pointer none):=⟨by kernel_rfl⟩
instance:Zer P T.a19 (.agg #[.pointer none,.pointer none]):=⟨by kernel_rfl⟩
instance:Zer P T.a40 (.slice none 0 0):=⟨by kernel_rfl⟩
instance:Zer P T.a32 (.pointer none):=⟨by kernel_rfl⟩
instance:Zer P T.a26 (.pointer none):=⟨by kernel_rfl⟩
instance:Zer P T.a30 (.pointer none):=⟨by kernel_rfl⟩
instance:Zer P T.a35 (.agg #[.pointer none,.pointer none,.string ⟨#[]⟩,.int .i64 0,.pointer none,.pointer none]):=⟨by kernel_rfl⟩
instance:Zer P T.a4 (.agg #[.int .i64 0,.slice none 0 0]):=⟨by kernel_rfl⟩
instance:Zer P T.a44 (.slice none 0 0):=⟨by kernel_rfl⟩
instance:Zer P T.a54 (.agg #[.slice none 0 0,.int .i64 0,.int .i64 0]):=⟨by kernel_rfl⟩
instance:Zer P T.a42 (.slice none 0 0):=⟨by kernel_rfl⟩
instance:Zer P T.a48 (.agg #[.pointer none,.string ⟨#[]⟩,.int .i64 0,.int .i64 0,.slice none 0 0]):=⟨by kernel_rfl⟩
instance:Zer P T.a9 (.agg #[.slice none 0 0,.int .i64 0]):=⟨by kernel_rfl⟩
instance:Zer P T.a28 (.pointer none):=⟨by kernel_rfl⟩
instance:Zer P T.a29 (.pointer none):=⟨by kernel_rfl⟩
instance:Zer P T.a49 (.agg #[.pointer none,.int .i64 0,.int .i64 0,.int .i64 0,.int .i64 0,.int .i64 0]):=⟨by kernel_rfl⟩
instance:Zer P T.a33 (.pointer none):=⟨by kernel_rfl⟩
instance:Zer P T.a41 (.slice none 0 0):=⟨by kernel_rfl⟩
instance:Zer P T.a17 (.agg #[.int .i64 0,.int .i64 0]):=⟨by kernel_rfl⟩
instance:Zer P T.a18 (.agg #[.int .i64 0,.int .i64 0,.int .i64 0,.int .i64 0]):=⟨by kernel_rfl⟩
instance:Zer P T.a21 (.map none):=⟨by kernel_rfl⟩
instance:Zer P T.a22 (.map none):=⟨by kernel_rfl⟩
instance:Zer P T.a16 (.agg #[.int .i64 0,.map none,.map none]):=⟨by kernel_rfl⟩
instance:Zer P T.a7 (.agg #[.bool false,.int .i64 0]):=⟨by kernel_rfl⟩
instance:Zer P T.a23 (.map none):=⟨by kernel_rfl⟩
instance:Zer P T.a20 (.map none):=⟨by kernel_rfl⟩
instance:Zer P T.a6 (.agg #[.int .i64 0,.int .i64 0,.map none]):=⟨by kernel_rfl⟩
instance:Zer P T.a5 (.agg #[.int .i64 0,.int .i64 0,.int .i64 0,.int .i64 0,.int .i64 0,.int .i64 0,.int .i64 0]):=⟨by kernel_rfl⟩
instance:Zer P T.a10 (.agg #[.int .i64 0,.int .i64 0,.int .i64 0]):=⟨by kernel_rfl⟩
instance:Zer P T.a15 (.agg #[.int .i64 0,.int .i64 0,.int .i64 0,.int .i64 0]):=⟨by kernel_rfl⟩
instance:Zer P T.a50 (.int .u64 0):=⟨by kernel_rfl⟩
instance:Zer P T.a12 (.agg #[.int .i64 0,.int .i64 0,.int .i64 0]):=⟨by kernel_rfl⟩
instance:Zer P T.a39 (.slice none 0 0):=⟨by kernel_rfl⟩
instance:Zer P T.a11 (.agg #[.int .i64 0,.int .i64 0,.int .i64 0,.int .i64 0,.slice none 0 0]):=⟨by kernel_rfl⟩
instance:SlT P T.a38 T.a2 4 48:=⟨by kernel_rfl,by kernel_rfl⟩
instance:SlT P T.a37 T.a0 7 72:=⟨by kernel_rfl,by kernel_rfl⟩
instance:SlT P T.a43 T.a36 5 56:=⟨by kernel_rfl,by kernel_rfl⟩
instance:SlT P T.a45 T.a51 1 16:=⟨by kernel_rfl,by kernel_rfl⟩
instance:SlT P T.a46 T.a52 1 1:=⟨by kernel_rfl,by kernel_rfl⟩
instance:SlT P T.a40 T.a14 1 8:=⟨by kernel_rfl,by kernel_rfl⟩
instance:SlT P T.a44 T.a46 1 24:=⟨by kernel_rfl,by kernel_rfl⟩
instance:SlT P T.a42 T.a33 1 8:=⟨by kernel_rfl,by kernel_rfl⟩
instance:SlT P T.a41 T.a15 4 32:=⟨by kernel_rfl,by kernel_rfl⟩
instance:SlT P T.a39 T.a10 3 24:=⟨by kernel_rfl,by kernel_rfl⟩
structure RecM where
 key:ByteArray
 value:ByteArray
 gone:Bool
 time:Int
def z04 (r:RecM):List Value:=[.string r.key,.string r.value,.bool r.gone,.int .i64 r.time]
instance:EncA z04 [.str,.str,.bool,.int .i64] (λr=>(r.key,r.value,r.gone,r.time,())):=⟨λ_=>rfl⟩
instance:EncN z04 4:=⟨λ_=>rfl,by decide,by simp [z04,Value.oneCell']⟩
structure BatM where
 base:Int
 pid:Int
 epoch:Int
 seq:Int
 kind:Int
 time:Int
 x:Sl
 rs:List RecM
def zv (b:BatM):List Value:=[.int .i64 b.base,.int .i64 b.pid,.int .i64 b.epoch,.int .i64 b.seq,.int .i64 b.kind,.int .i64 b.time,.slice b.x.a b.x.len b.x.cap]
instance:EncA zv [.int .i64,.int .i64,.int .i64,.int .i64,.int .i64,.int .i64,.slc] (λb=>(b.base,b.pid,b.epoch,b.seq,b.kind,b.time,b.x,())):=⟨λ_=>rfl⟩
instance:EncN zv 7:=⟨λ_=>rfl,by decide,by simp [zv,Value.oneCell']⟩
def z0i (b:BatM):Bool:=decide (b.kind=2) || decide (b.kind=3)
def z6e (b:BatM):Prop:=(0<=b.kind/\b.kind<=3)/\(0<=b.base/\b.base<=1099511627776)/\(0<=b.pid/\b.pid<=1048576)/\(0<=b.epoch/\b.epoch<=32767)/\(0<=b.seq/\b.seq<=2147483647)/\(0<=b.time/\b.time<=1099511627776)
instance (b:BatM):Decidable (z6e b):=by unfold z6e;infer_instance
def z58 (b:BatM):Prop:=¬ (b.pid=0/\(b.kind≠0\/b.epoch≠0\/b.seq≠0))/\if z0i b then b.seq=0/\b.rs.length=0 else 0<b.rs.length
instance (b:BatM):Decidable (z58 b):=by unfold z58;infer_instance
def z28 (r:RecM):Int:=if r.key.size>1024\/r.value.size>1024 then 7 else if ¬ (0<=r.time/\r.time<=1099511627776)\/(r.gone=true/\r.value.size>0) then 2 else 0
def z5q:List RecM->Int
 | []=>0
 | r::rs=>if z28 r≠0 then z28 r else z5q rs
def zo (b:BatM):Int:=if z0i b then 1 else (b.rs.length:Nat)
def z05 (b:BatM):Int:=if ¬ z6e b\/¬ z58 b then 2 else if b.rs.length>64 then 7 else if z5q b.rs≠0 then z5q b.rs else
 if b.base>1099511627776-(zo b-1)\/(b.pid>0/\z0i b=false/\b.seq>2147483647-(zo b-1)) then 24 else 0
def z1r (b:BatM):Int:=if z05 b≠0 then 0 else b.base+zo b
theorem zhv:∀ (rs:List RecM) (i:Nat) (hi:i<rs.length),z5q (rs.take i)=0->z28 rs[i]≠0->z5q rs=z28 rs[i]
 | r::rs,0,_,_,h=>by
  have h:z28 r≠0:=h
  show (if z28 r≠0 then z28 r else z5q rs)=z28 r
  rw [if_pos h]
 | r::rs,i+1,hi,h1,h2=>by
  have h1:(if z28 r≠0 then z28 r else z5q (rs.take i))=0:=h1
  by_cases h:z28 r≠0
  ·rw [if_pos h] at h1;exact absurd h1 h
  ·rw [if_neg h] at h1
   show (if z28 r≠0 then z28 r else z5q rs)=_
   rw [if_neg h]
   exact zhv rs i (by simpa using hi) h1 h2
theorem zhu:∀ (rs:List RecM) (i:Nat) (hi:i<rs.length),z5q (rs.take i)=0->z28 rs[i]=0->z5q (rs.take (i+1))=0
 | r::rs,0,_,_,h=>by
  have h:z28 r=0:=h
  show (if z28 r≠0 then z28 r else z5q (rs.take 0))=0
  rw [if_neg (by rw [h];simp)];rfl
 | r::rs,i+1,hi,h1,h2=>by
  have h1:(if z28 r≠0 then z28 r else z5q (rs.take i))=0:=h1
  by_cases h:z28 r≠0
  ·rw [if_pos h] at h1;exact absurd h1 h
  ·rw [if_neg h] at h1
   show (if z28 r≠0 then z28 r else z5q (rs.take (i+1)))=0
   rw [if_neg h]
   exact zhu rs i (by simpa using hi) h1 h2
theorem zlt {s:ByteArray}:s.size>0↔s≠ByteArray.mk #[]:=by
 constructor
 ·rintro h rfl;exact absurd h (Nat.lt_irrefl 0)
 ·intro h
  rcases Nat.eq_zero_or_pos s.size with h0|h0
  ·exfalso
   apply h
   obtain ⟨⟨l⟩⟩:=s
   have h0:l.length=0:=h0
   rw [List.length_eq_zero_iff.1 h0]
  ·exact h0
section
variable {w:World} {l r:List HP} {b:BatM}
theorem z6h (b:BatM) (hs:Sat w l):Ret P F.a127 #[.agg (zv b).toArray] w λvs w'=>vs=[.bool (z0i b)]/\Sat w' l :=
 znj b.base b.pid b.epoch b.seq b.kind b.time b.x <| by
  delta z00w AF AP AQ Ag An Av
  refine zn hs λa0 w' hs=>?_
  refine za hs ?_
  refine za hs ?_
  refine wp_lt ?_
  exact ⟨rfl,rfl,hs.tail⟩
theorem zbs (n lo hi:Int) (hs:Sat w l):Ret P F.a133 #[.int .i64 n,.int .i64 lo,.int .i64 hi] w λvs w'=>vs=[.bool (decide (lo<=n/\n<=hi))]/\Sat w' l :=
 znp n lo hi <| by
  delta z012 Ag An
  refine wp_lt ?_
  exact ⟨rfl,by rw [Bool.decide_and],hs⟩
theorem zwn (b:BatM) [hb:FocR l b.x 4 (b.rs.flatMap z04)] (hs:Sat w l):Ret P F.a123 #[.agg (zv b).toArray] w λvs w'=>vs=[.int .i64 (zo b)]/\Sat w' l :=
 znf b.base b.pid b.epoch b.seq b.kind b.time b.x <| by
  delta z00s AF AH AO Ac Af Ai Al Am An Av;unfold zo
  have hl:=hs.slen b.x (xs:=b.rs) (enc:=z04)
  refine zn hs λa0 w' hs=>?_
  refine zk hs ?_
  refine z8 (z6h b hs) λ_ _ hs=>?_
  obtain ⟨rfl,hs⟩:=hs
  refine zb ?_
  refine ze (λh=>?_) λh=>?_
  ·rw [if_pos h];exact ⟨rfl,rfl,hs.tail⟩
  ·rw [if_neg h]
   refine za hs ?_
   refine wp_lt ?_
   rw [hl]
   exact ⟨rfl,rfl,hs.tail⟩
theorem zyt (r:RecM) (hs:Sat w l):Ret P F.a131 #[.agg (z04 r).toArray] w λvs w'=>vs=[.int .i64 (z28 r)]/\Sat w' l :=
 znn r.key r.value r.gone r.time <| by
  delta z010 AC AD AP Ac Am An Av Ba Bg Bq;unfold z28
  refine zn hs λa0 w' hs=>?_
  refine za hs ?_
  refine za hs ?_
  refine wp_lt ?_
  refine ze (λh=>?_) λh=>?_
  ·rw [if_pos (by omega)];exact ⟨rfl,rfl,hs.tail⟩
  rw [if_neg (by omega)]
  refine za hs ?_
  refine z8 (zbs r.time 0 1099511627776 hs) λ_ _ hs=>?_
  obtain ⟨rfl,hs⟩:=hs
  refine zb ?_
  refine za hs ?_
  refine za hs ?_
  refine wp_lt ?_
  have e:(¬ (0<=r.time/\r.time<=1099511627776)\/(r.gone=true/\r.value.size>0))↔(¬ (0<=r.time/\r.time<=1099511627776)\/(r.gone=true/\¬ r.value=ByteArray.mk #[])):=by rw [zlt]
  refine ze (λh=>?_) λh=>?_
  ·rw [if_pos (e.2 h)];exact ⟨rfl,rfl,hs.tail⟩
  ·rw [if_neg (λh2=>h (e.1 h2))];exact ⟨rfl,rfl,hs.tail⟩
theorem zw6 (b:BatM) (hs:Sat w l):Ret P F.a128 #[.agg (zv b).toArray] w λvs w'=>vs=[.bool (decide (z6e b))]/\Sat w' l :=
 znk b.base b.pid b.epoch b.seq b.kind b.time b.x <| by
  delta z00x AF AP AQ Ac Ag Ah Ai Am An Av
  refine zn hs λa0 w' hs=>?_
  refine zf (λv w'=>v=(decide (z6e b),())/\Sat w' l) ?_ (by rintro _ w' ⟨rfl,hs⟩;refine zm ?_;exact ⟨rfl,rfl,hs⟩)
  have hno:∀ {w'},¬ z6e b->Sat w' (pt a0 (.cells #[.int .i64 b.base,.int .i64 b.pid,.int .i64 b.epoch,.int .i64 b.seq,.int .i64 b.kind,.int .i64 b.time,.slice b.x.a b.x.len b.x.cap] T.a0)::l)->((false,()):Bool × Unit)=(decide (z6e b),())/\Sat w' l:=λh hs=>⟨by rw [decide_eq_false h],hs.tail⟩
  refine za hs ?_
  refine za hs ?_
  refine za hs ?_
  refine ze (λh1=>?_) λh1=>?_
  rotate_left
  ·exact zj (hno (λh=>h1 h.1) hs)
  refine z8 (zbs b.base 0 1099511627776 hs) λ_ _ hs=>?_
  obtain ⟨rfl,hs⟩:=hs
  refine zb ?_
  refine za hs ?_
  refine ze (λh2=>?_) λh2=>?_
  rotate_left
  ·exact zj (hno (λh=>h2 h.2.1) hs)
  refine z8 (zbs b.pid 0 1048576 hs) λ_ _ hs=>?_
  obtain ⟨rfl,hs⟩:=hs
  refine zb ?_
  refine za hs ?_
  refine za hs ?_
  refine za hs ?_
  refine za hs ?_
  refine za hs ?_
  refine ze (λh3=>?_) λh3=>?_
  rotate_left
  ·exact zj (hno (λh=>h3 ⟨⟨⟨⟨h.2.2.1,h.2.2.2.1.1⟩,h.2.2.2.1.2⟩,h.2.2.2.2.1.1⟩,h.2.2.2.2.1.2⟩) hs)
  refine z8 (zbs b.time 0 1099511627776 hs) λ_ _ hs=>?_
  obtain ⟨rfl,hs⟩:=hs
  refine zb ?_
  refine wp_lt ?_
  refine zj ⟨?_,hs.tail⟩
  have:(z6e b)↔(0<=b.time/\b.time<=1099511627776):=⟨λh=>h.2.2.2.2.2,λh=>⟨h1,h2,h3.1.1.1.1,⟨h3.1.1.1.2,h3.1.1.2⟩,⟨h3.1.2,h3.2⟩,h⟩⟩
  rw [decide_eq_decide.2 this]
theorem z050 (b:BatM) [hb:FocR l b.x 4 (b.rs.flatMap z04)] (hs:Sat w l):Ret P F.a126 #[.agg (zv b).toArray] w λvs w'=>vs=[.bool (decide (z58 b))]/\Sat w' l :=
 zni b.base b.pid b.epoch b.seq b.kind b.time b.x <| by
  delta z00v AF AH AO AP AQ Ag Ai Al Am An Av Bw
  have hl:=hs.slen b.x (xs:=b.rs) (enc:=z04)
  refine zn hs λa0 w' hs=>?_
  refine za hs ?_
  refine za hs ?_
  refine za hs ?_
  refine za hs ?_
  refine ze (λh1=>?_) λh1=>?_
  ·have:¬ z58 b:=λh=>h.1 ⟨h1.1,or_assoc.1 h1.2⟩
   exact ⟨rfl,by rw [decide_eq_false this],hs.tail⟩
  have h1:¬ (b.pid=0/\(b.kind≠0\/b.epoch≠0\/b.seq≠0)):=λh=>h1 ⟨h.1,or_assoc.2 h.2⟩
  refine zk hs ?_
  refine z8 (z6h b hs) λ_ _ hs=>?_
  obtain ⟨rfl,hs⟩:=hs
  refine zb ?_
  refine ze (λh2=>?_) λh2=>?_
  ·refine za hs ?_
   refine za hs ?_
   refine wp_lt ?_
   refine ⟨rfl,?_,hs.tail⟩
   have:z58 b↔(b.seq=0/\b.rs.length=0):=by
    unfold z58
    rw [if_pos h2]
    exact ⟨λh=>h.2,λh=>⟨h1,h⟩⟩
   congr 2
   rw [Bool.eq_iff_iff,decide_eq_true_iff,this,Bool.and_eq_true,beq_iff_eq,beq_iff_eq,hl]
   omega
  ·refine za hs ?_
   refine wp_lt ?_
   refine ⟨rfl,?_,hs.tail⟩
   have:z58 b↔0<b.rs.length:=by
    unfold z58
    rw [if_neg h2]
    exact ⟨λh=>h.2,λh=>⟨h1,h⟩⟩
   congr 2
   rw [Bool.eq_iff_iff,decide_eq_true_iff,decide_eq_true_iff,this,hl]
   omega
theorem z92 (b:BatM) [hb:FocR l b.x 4 (b.rs.flatMap z04)] (hs:Sat w l):Ret P F.a124 #[.agg (zv b).toArray] w λvs w'=>vs=[.int .i64 (z05 b)]/\Sat w' l :=
 zng b.base b.pid b.epoch b.seq b.kind b.time b.x <| by
  delta z00t AD AF AH AK AO AP AQ AT AY Ac Af Ag Ah Ai Aj Al Am An Ao Aq Ar Av BZ Ba By;unfold z05
  have hl:=hs.slen b.x (xs:=b.rs) (enc:=z04)
  refine zn hs λa0 w' hs=>?_
  refine zf (λv w'=>v=(decide (¬ z6e b\/¬ z58 b),())/\Sat w' (pt a0 (.cells #[.int .i64 b.base,.int .i64 b.pid,.int .i64 b.epoch,.int .i64 b.seq,.int .i64 b.kind,.int .i64 b.time,.slice b.x.a b.x.len b.x.cap] T.a0)::l)) ?_ ?_
  ·refine zk hs ?_
   refine z8 (zw6 b hs) λ_ _ hs=>?_
   obtain ⟨rfl,hs⟩:=hs
   refine zb ?_
   refine zk hs ?_
   refine ze (λh1=>?_) λh1=>?_
   ·exact zj ⟨by rw [decide_eq_true (.inl h1)],hs⟩
   refine z8 (z050 b hs) λ_ _ hs=>?_
   obtain ⟨rfl,hs⟩:=hs
   refine zb ?_
   refine wp_lt ?_
   refine zj ⟨?_,hs⟩
   have:(¬ z6e b\/¬ z58 b)↔¬ z58 b:=⟨λh=>h.resolve_left h1,.inr⟩
   rw [decide_eq_decide.2 this,decide_not]
  clear hs
  rintro _ w ⟨rfl,hs⟩
  refine zm ?_
  refine ze (λh1=>?_) λh1=>?_
  ·rw [if_pos h1];exact ⟨rfl,rfl,hs.tail⟩
  rw [if_neg h1]
  have hnum:z6e b:=Decidable.not_not.1 λh=>h1 (.inl h)
  have hfit:z58 b:=Decidable.not_not.1 λh=>h1 (.inr h)
  refine za hs ?_
  refine wp_lt ?_
  refine ze (λh2=>?_) λh2=>?_
  ·rw [if_pos (by omega)];exact ⟨rfl,rfl,hs.tail⟩
  rw [if_neg (by omega)]
  refine za hs ?_
  refine zf (λv w'=>z5q b.rs=0/\Sat w' (pt a0 (.cells #[.int .i64 b.base,.int .i64 b.pid,.int .i64 b.epoch,.int .i64 b.seq,.int .i64 b.kind,.int .i64 b.time,.slice b.x.a b.x.len b.x.cap] T.a0)::l)) ?_ ?_
  ·refine z03 (λk v w=>∃ i:Nat,v=((i:Int),())/\i<=b.rs.length/\b.rs.length-i=k/\z5q (b.rs.take i)=0/\Sat w (pt a0 (.cells #[.int .i64 b.base,.int .i64 b.pid,.int .i64 b.epoch,.int .i64 b.seq,.int .i64 b.kind,.int .i64 b.time,.slice b.x.a b.x.len b.x.cap] T.a0)::l)) b.rs.length ⟨0,rfl,by omega,rfl,rfl,hs⟩ ?_
   clear hs
   rintro k _ w ⟨i,rfl,hi,hk,hbad,hs⟩
   refine zm ?_
   refine ze (λhc=>?_) λhc=>?_
   rotate_left
   ·refine zh (zj ⟨?_,hs⟩)
    rwa [List.take_of_length_le (by omega)] at hbad
   have hil:i<b.rs.length:=by omega
   refine z4l hs i hil ?_
   refine zq hs λc w' hs=>?_
   refine zr hs λw' hs=>?_
   refine zk hs ?_
   refine z8 (zyt b.rs[i] hs) λ_ _ hs=>?_
   obtain ⟨rfl,hs⟩:=hs
   refine zb ?_
   refine wp_lt ?_
   refine ze (λh3=>?_) λh3=>?_
   ·refine wp_lt ?_
    refine zh (zh ?_)
    have:=zhv b.rs i hil hbad h3
    rw [if_pos (by rw [this];exact h3),this]
    exact ⟨rfl,rfl,hs.tail.tail⟩
   ·refine z2z (us':=[.int .i64 ((i+1:Nat):Int)]) (by (try simp (disch:=omega) only [w64]);first|rfl|(congr;omega)) ?_
    refine z11 (b.rs.length-(i+1)) ?_
    exact ⟨i+1,rfl,by omega,rfl,zhu b.rs i hil hbad (Decidable.not_not.1 h3),hs.sub⟩
  clear hs
  rintro _ w ⟨hbad,hs⟩
  refine zm ?_
  rw [if_neg (by rw [hbad];simp)]
  refine zk hs ?_
  refine z8 (zwn b hs) λ_ _ hs=>?_
  obtain ⟨rfl,hs⟩:=hs
  refine zb ?_
  have hsp:1<=zo b/\zo b<=64:=by
   unfold zo
   have h3:=hfit.2
   split
   ·omega
   ·rename_i hm
    rw [if_neg hm] at h3
    omega
  obtain ⟨-,hba,-,-,hse,-⟩:=hnum
  refine z23 (y:=zo b-1) ?_ (by rw [w64 (by omega) (by omega)])
  refine zf (λv w'=>v=(decide (b.base>1099511627776-(zo b-1)\/(b.pid>0/\z0i b=false/\b.seq>2147483647-(zo b-1))),())/\Sat w' l) ?_ ?_
  ·rw [w64 (x:=1099511627776-(zo b-1)) (by omega) (by omega)]
   refine za hs ?_
   refine za hs ?_
   refine zk hs ?_
   refine ze (λh3=>?_) λh3=>?_
   ·exact zj ⟨by rw [decide_eq_true (.inl h3)],hs.tail⟩
   refine ze (λh4=>?_) λh4=>?_
   rotate_left
   ·exact zj ⟨by rw [decide_eq_false (λh=>h.elim h3 λh=>h4 h.1)],hs.tail⟩
   refine z8 (z6h b hs) λ_ _ hs=>?_
   obtain ⟨rfl,hs⟩:=hs
   refine zb ?_
   refine za hs ?_
   rw [w64 (x:=2147483647-(zo b-1)) (by omega) (by omega)]
   refine zj ⟨?_,hs.tail⟩
   have:(b.base>1099511627776-(zo b-1)\/(b.pid>0/\z0i b=false/\b.seq>2147483647-(zo b-1)))↔(z0i b=false/\b.seq>2147483647-(zo b-1)):=⟨λh=>(h.resolve_left h3).2,λh=>.inr ⟨h4,h⟩⟩
   rw [decide_eq_decide.2 this,Bool.decide_and]
   cases z0i b <;> rfl
  clear hs
  rintro _ w ⟨rfl,hs⟩
  refine zm ?_
  refine ze (λh3=>?_) λh3=>?_
  ·rw [if_pos h3];exact ⟨rfl,rfl,hs⟩
  ·rw [if_neg h3];exact ⟨rfl,rfl,hs⟩
theorem z16 (b:BatM) (hv:z05 b=0):1<=zo b/\zo b<=64/\z6e b/\z58 b/\b.base+zo b<=1099511627777:=by
 unfold z05 at hv
 split at hv
 ·cases hv
 rename_i h1
 have hnum:z6e b:=Decidable.not_not.1 λh=>h1 (.inl h)
 have hfit:z58 b:=Decidable.not_not.1 λh=>h1 (.inr h)
 split at hv
 ·cases hv
 rename_i h2
 split at hv
 ·rename_i h3;exact absurd hv h3
 split at hv
 ·cases hv
 rename_i h4
 have hsp:1<=zo b/\zo b<=64:=by
  unfold zo
  have h3:=hfit.2
  split
  ·omega
  ·rename_i hm
   rw [if_neg hm] at h3
   omega
 refine ⟨hsp.1,hsp.2,hnum,hfit,?_⟩
 apply Decidable.byContradiction
 intro h5
 exact h4 (.inl (by omega))
theorem z90 (b:BatM) [hb:FocR l b.x 4 (b.rs.flatMap z04)] (hs:Sat w l):Ret P F.a122 #[.agg (zv b).toArray] w λvs w'=>vs=[.int .i64 (z1r b)]/\Sat w' l :=
 zne b.base b.pid b.epoch b.seq b.kind b.time b.x <| by
  delta z00r AF AG AH AI Ac Af Ai Aj An Aq Av Bn;unfold z1r
  refine zn hs λa0 w' hs=>?_
  refine zk hs ?_
  refine z8 (z92 b hs) λ_ _ hs=>?_
  obtain ⟨rfl,hs⟩:=hs
  refine zb ?_
  refine ze (λh=>?_) λh=>?_
  ·rw [if_pos h];exact ⟨rfl,rfl,hs.tail⟩
  rw [if_neg h]
  obtain ⟨h1,h2,h3,-⟩:=z16 b (Decidable.not_not.1 h)
  have h3:=h3.2.1
  refine zx hs λw' hs=>?_
  refine z18 hs ?_
  refine zk hs ?_
  refine z8 (zwn b hs) λ_ w' hs=>?_
  obtain ⟨rfl,hs⟩:=hs
  refine zb ?_ ⟨trivial,λ_=>z09 hs⟩
  refine z23 (y:=b.base+zo b) ?_ (by rw [w64 (by omega) (by omega)])
  refine zd ?_
  exact ⟨rfl,rfl,hs.tail⟩
end
theorem ziq {K V:Type} {kk:K} {v v':V}:∀ {es:List (K × V)},(es.map Prod.fst).Nodup->(kk,v) ∈ es->(kk,v') ∈ es->v'=v
 | a::r,hnd,hv,hv'=>by
  rw [List.map_cons,List.nodup_cons] at hnd
  rcases List.mem_cons.1 hv with h1|h1 <;> rcases List.mem_cons.1 hv' with h2|h2
  ·rw [<- h1] at h2;exact (Prod.mk.inj h2).2
  ·exact absurd (List.mem_map.2 ⟨_,h2,by rw [<- h1]⟩) hnd.1
  ·exact absurd (List.mem_map.2 ⟨_,h1,by rw [<- h2]⟩) hnd.1
  ·exact ziq hnd.2 h1 h2
section
variable {K V:Type} {ek:K->Value} {ev:V->Value} {m:Nat} {es:List (K × V)} {P:Program} {w:World} {l r:List HP} {Q:Post} {S:World->Prop} {T kt:TypeId} {z:Value} {g:Prop} {kk:K} {kv:Value}
theorem zqc [hf:FoM l m ek ev es r] [hT:MapT P T kt z] [hk:KeyT P kt ek] [hkv:IsK ek kv kk] (hs:Sat w l) {v:V} (hv:(kk,v) ∈ es) {ss:List Sh1} {x:HL (prims ss)} (hx:z17 ss x=[ev v,.bool true]) :
  (Instr.lookup T (.map (some m)) kv true).run P w=.ok ((Sh.tup ss).mk x) w:=by
 have hs:=hs.perm hf.perm
 have hnd:=hs.mapNodup
 rcases zbl (P:=P) (T:=T) true hs kk with ⟨v',hv',hr⟩|⟨hno,-⟩
 ·have:v'=v:=ziq hnd hv hv'
  rw [hkv.ok,hr,this]
  show Result.ok (Value.tuple #[ev v,.bool true]) w=Result.ok (Value.tuple (z17 ss x).toArray) w
  rw [hx]
 ·exact absurd hv (hno _)
theorem zky [hf:FoM l m ek ev es r] [hT:MapT P T kt z] [hk:KeyT P kt ek] [hkv:IsK ek kv kk] (hs:Sat w l) (hv:∀ v,(kk,v) ∉ es) {ss:List Sh1} {x:HL (prims ss)} (hx:z17 ss x=[z,.bool false]) :
  (Instr.lookup T (.map (some m)) kv true).run P w=.ok ((Sh.tup ss).mk x) w:=by
 have hs:=hs.perm hf.perm
 rcases zbl (P:=P) (T:=T) true hs kk with ⟨v',hv',hr⟩|⟨-,hr⟩
 ·exact absurd hv' (hv _)
 ·rw [hkv.ok,hr]
  show Result.ok (Value.tuple #[z,.bool false]) w=Result.ok (Value.tuple (z17 ss x).toArray) w
  rw [hx]
theorem zbu {ss:List Sh1} {k:HL (prims ss)->Prog} [hf:FoM l m ek ev es r] [hT:MapT P T kt z] [hk:KeyT P kt ek] [hkv:IsK ek kv kk] (hs:Sat w l) (o:Option V) (ho:(∃ v,o=some v/\(kk,v) ∈ es)\/(o=none/\∀ v,(kk,v) ∉ es)) (d:Option V->HL (prims ss))
  (h:(k (d o)).wp P (λw'=>S w'/\(g->(Instr.lookup T (.map (some m)) kv true).run P w'=.ok ((Sh.tup ss).mk (d o)) w')) w Q) (h1:∀ v,z17 ss (d (some v))=[ev v,.bool true]:=by intros;rfl) (h0:z17 ss (d none)=[z,.bool false]:=by rfl) :
  (Prog.hold g (Instr.lookup T (.map (some m)) kv true) (.tup ss) k).wp P S w Q:=by
 refine ⟨d o,λ_=>?_,h⟩
 rcases ho with ⟨v,rfl,hv⟩|⟨rfl,hv⟩
 ·exact zqc hs hv (h1 v)
 ·exact zky hs hv h0
theorem z8b {ss:List Sh1} [hf:FoM l m ek ev es r] [hT:MapT P T kt z] [hk:KeyT P kt ek] [hkv:IsK ek kv kk] (hs:Sat w l) {o:Option V} (ho:(∃ v,o=some v/\(kk,v) ∈ es)\/(o=none/\∀ v,(kk,v) ∉ es)) (d:Option V->HL (prims ss))
  (h1:∀ v,z17 ss (d (some v))=[ev v,.bool true]:=by intros;rfl) (h0:z17 ss (d none)=[z,.bool false]:=by rfl) :
  (Instr.lookup T (.map (some m)) kv true).run P w=.ok ((Sh.tup ss).mk (d o)) w:=by
 rcases ho with ⟨v,rfl,hv⟩|⟨rfl,hv⟩
 ·exact zqc hs hv (h1 v)
 ·exact zky hs hv h0
theorem zze {ss:List Sh1} {k:HL (prims ss)->Prog} [hf:FoM l m ek ev es r] [hT:MapT P T kt z] [hk:KeyT P kt ek] [hkv:IsK ek kv kk] (hs:Sat w l) (o:Option V) (ho:(∃ v,o=some v/\(kk,v) ∈ es)\/(o=none/\∀ v,(kk,v) ∉ es)) (d:Option V->HL (prims ss))
  (h:(k (d o)).wp P S w Q) (h1:∀ v,z17 ss (d (some v))=[ev v,.bool true]:=by intros;rfl) (h0:z17 ss (d none)=[z,.bool false]:=by rfl) :
  (Prog.read g (Instr.lookup T (.map (some m)) kv true) (.tup ss) k).wp P S w Q :=
 ⟨d o,λ_=>z8b hs ho d h1 h0,h⟩
end
section
variable {P:Program} {w:World} {l r:List HP} {Q:Post} {S:World->Prop} {t:TypeId} {sz:Nat}
theorem z004 {α β γ δ:Type} {f:α->β->γ->δ->Prog} (a:α) (b:β) (c:γ) (d:δ) (h:(f a b c d).wp P S w Q):(u4 f (a,b,c,d,())).wp P S w Q:=h
theorem zdk {α:Type} {enc:α->List Value} {n:Nat} {ps:Array (Nat × Value)} {el:TypeId} {bytes:Nat} {k:Sl->Prog} (hs:Sat w l) [ht:SlT P t el sz bytes] [hE:EncN enc sz] (xs:List α)
  (h:∀ x w',Sat w' (slc el sz x (xs.flatMap enc)::l)->(k x).wp P S w' Q) (hc:z45 P t n ps=some (el,(xs.flatMap enc).toArray):=by kernel_rfl) (hn:xs.length=n:=by rfl) (hS:∀ w',S w':=by exact λ_=>trivial) :
  (Prog.act (Instr.buildSlice t n ps) sL (u1 k)).wp P S w Q:=z94 hs xs hc (λb w' hs=>h _ w' hs) (by simp) hn hS
end
section
variable {P:Program} {w:World} {l r:List HP} {Q:Post} {S:World->Prop} {α β γ δ ε ζ η θ:Type}
theorem z39 {f:α->β->Prog} (a:α) (b:β) (h:(f a b).wp P S w Q):(u2 f (a,b,())).wp P S w Q:=h
theorem zjt {f:α->β->γ->Prog} (a:α) (b:β) (c:γ) (h:(f a b c).wp P S w Q):(u3 f (a,b,c,())).wp P S w Q:=h
theorem z8w {f:α->β->γ->δ->ε->Prog} (a:α) (b:β) (c:γ) (d:δ) (e:ε) (h:(f a b c d e).wp P S w Q):(u5 f (a,b,c,d,e,())).wp P S w Q:=h
theorem z005 {f:α->β->γ->δ->ε->ζ->Prog} (a:α) (b:β) (c:γ) (d:δ) (e:ε) (z:ζ) (h:(f a b c d e z).wp P S w Q):(u6 f (a,b,c,d,e,z,())).wp P S w Q:=h
theorem zt1 {f:α->β->γ->δ->ε->ζ->η->Prog} (a:α) (b:β) (c:γ) (d:δ) (e:ε) (z:ζ) (y:η) (h:(f a b c d e z y).wp P S w Q):(u7 f (a,b,c,d,e,z,y,())).wp P S w Q:=h
theorem zdm {f:α->β->γ->δ->ε->ζ->η->θ->Prog} (a:α) (b:β) (c:γ) (d:δ) (e:ε) (z:ζ) (y:η) (x:θ) (h:(f a b c d e z y x).wp P S w Q):(u8 f (a,b,c,d,e,z,y,x,())).wp P S w Q:=h
theorem z04h {α:Type} {enc:α->List Value} {xs:List α} {i i':Int} {x:Sl} {T t:TypeId} {sz n':Nat} {k:Prog} {us:List Value} (hs:Sat w l) [hf:FocS l x T sz (xs.flatMap enc) r] [hE:EncN enc sz] [hT:Agg P t n'] (n:Nat) (hn:n<xs.length) (y:α)
  (h:∀ w',Sat w' (slc T sz x ((xs.set n y).flatMap enc)::r)->k.wp P S w' Q) (hy:us=enc y:=by rfl) (hi:i=n:=by first|rfl|omega) (hi':i'=i:=by rfl) (hz:Nat.beq sz n'=true:=by rfl) (hS:∀ w',S w':=by exact λ_=>trivial) :
  (Prog.ex [.adr] (c1 λa=>0<=i/\i<((x.len:Nat):Int)/\x.a=some a) (u1 λa=>.actU (st t (Addr.add a (Int.toNat i'*sz)) (.agg us.toArray)) k)).wp P S w Q:=by
 have hz:=Nat.eq_of_beq_eq_true hz
 subst hi hi' hz
 have hr:=(hs.focS x).rd
 have hl:x.len=xs.length:=hr.len hE.len hE.pos
 obtain ⟨a,ha,he⟩:=hr.el hE.len (by omega)
 refine ⟨(a,()),⟨by omega,by omega,ha⟩,?_⟩
 exact zgm (xs:=xs) (i:=n) (y:=y) hE.len hs ha hn (λb o e=>by subst e;rw [z3g,Int.toNat_natCast]) hT.ok.2 (by show us.toArray.toList=_;rw [hy]) (hE.one y) λw' hs'=>⟨hS _,h w' hs'⟩
theorem zww {f : FuncId} {cap : Array Value} {args : List Value} {s : Sh} {k : HL s.prims → Prog} {vs₀ : List Value} {R : World → Prop} (hok : (P.funcs[f]?).any (fun fn => fn.body.isSome && fn.name != "runtime.NumGoroutine") = true) (x : HL s.prims)
  (hc:Ret P f (args.toArray++cap) w λvs w'=>vs=vs₀/\R w') (hx:z7v vs₀=s.mk x) (h:∀ w',R w'->S w'/\(k x).wp P S w' Q):(Prog.callv (.func (.func f) #[] cap) args s k).wp P S w Q:=by
 refine ⟨f,#[],cap,rfl,hok,?_⟩
 have e:(#[]:Array Value)++args.toArray++cap=args.toArray++cap:=by simp
 rw [e]
 refine Calls.mono hc λe w' ⟨vs,he,hv,hR⟩=>?_
 exact ⟨x,by rw [he,hv,hx],h w' hR⟩
end
section
variable {P:Program} {w:World} {l r:List HP} {Q:Post} {S:World->Prop} {b off:Nat} {T T':TypeId} {g:Prop}
theorem z041 {a:Addr} {vs:List Value} {fr:Nat × Nat} {ps:List Pr} (x:HL ps) {n:Nat} (hs:Sat w l) [ha:AddrIs a b off] [hb:FocB l b (.cells vs.toArray T' fr) r] [hT:Agg P T n] (hx:(vs.drop off).take n=HL.vals ps x) (hn:(HL.vals ps x).length=n) :
  (ld T a).run P w=.ok ((Sh.one (.agg ps)).mk x) w:=by
 rw [ha.ok]
 refine At.ldA (P:=P) (T:=T) (vs:=HL.vals ps x) ⟨b,off,vs.toArray,T',fr,rfl,(hs.focB b).get,λi hi=>?_⟩ hn
 rw [<- hx,List.getElem?_take,if_pos (by omega),List.getElem?_drop]
 simp
theorem zm6 {a:Addr} {vs:List Value} {fr:Nat × Nat} {ps:List Pr} {k:HL ps->Prog} (hs:Sat w l) (x:HL ps) {n:Nat} [ha:AddrIs a b off] [hb:FocB l b (.cells vs.toArray T' fr) r] [hT:Agg P T n] {p:Prog} [hA:App k x p]
  (h:p.wp P S w Q) (hx:(vs.drop off).take n=HL.vals ps x:=by rfl) (hn:(HL.vals ps x).length=n:=by rfl):(Prog.read g (ld T a) (.one (.agg ps)) k).wp P S w Q :=
 ⟨x,λ_=>z041 (T:=T) x hs hx hn,by rw [hA.ok];exact h⟩
end
section
variable {P:Program} {w:World} {l r:List HP} {Q:Post} {S:World->Prop} {T:TypeId} {sz:Nat} {x:Sl}
theorem At.part {A:Addr} {vs:List Value} (h:At w A vs) (j q:Nat):At w (A.add j) ((vs.drop j).take q):=by
 obtain ⟨b,o,arr,T',fr,rfl,hb,hc⟩:=h
 refine ⟨b,o+j,arr,T',fr,z3g ..,hb,λi hi=>?_⟩
 rw [List.length_take,List.length_drop] at hi
 rw [List.getElem?_take,if_pos (by omega),List.getElem?_drop,Nat.add_assoc,hc (j+i) (by omega)]
end
structure TabA where
 most:Int
 next:Int
 rows:List RowA
def z5e (A:TabA) (pid:Int):Option RowA:=A.rows.find? λr=>decide (r.pid=pid)
def z05z (pid:Int):RowA:=⟨pid,-1,0,0,0,-1,0⟩
def z0t (A:TabA) (pid:Int):RowA:=(z5e A pid).getD (z05z pid)
def z8r (rs:List RowA):List RowA:=rs.filter λr=>decide (0<=r.frm)
structure okRw (r:RowA) (next:Int):Prop where
 pid:1<=r.pid/\r.pid<=1048576
 epoch:0<=r.epoch/\r.epoch<=32768
 time:0<=r.time/\r.time<=1099511627776
 count:0<=r.count/\r.count<=64
 seq:0<=r.seq
 base:0<=r.base
 frm : -1<=r.frm
 none_:r.count=0->r.seq=0/\r.base=0/\r.frm = -1
 some_:0<r.count->r.epoch<=32767/\r.seq+r.count<=2147483648/\r.base+r.count<=next/\r.frm<=r.base
structure okTb (A:TabA):Prop where
 most:1<=A.most/\A.most<=4096
 next:0<=A.next/\A.next<=1099511627777
 many:(A.rows.length:Int)<=A.most
 row:∀ r ∈ A.rows,okRw r A.next
 byPid:A.rows.Pairwise λa b=>a.pid<b.pid
 apart:(z8r A.rows).Pairwise λa b=>a.frm≠b.frm
instance:KeyT P T.a14 ekI:=zkt (by kernel_rfl)
instance:MapT P T.a20 T.a14 (.agg #[.int .i64 0,.int .i64 0,.int .i64 0,.int .i64 0,.int .i64 0,.int .i64 0,.int .i64 0]):=⟨T.a5,by kernel_rfl,by kernel_rfl⟩
def z3b (rs:List RowA):List (Int × RowA):=rs.map λr=>(r.pid,r)
def tb (t:Nat) (A:TabA):HP:=HP.ex λm:Nat=>HP.and (okTb A) (HP.star (pt t (.cells #[.int .i64 A.most,.int .i64 A.next,.map (some m)] T.a6)) (z1c ekI evW m (z3b A.rows)))
theorem okRw.seqs {r:RowA} {next:Int} (h:okRw r next):r.seq+r.count<=2147483648:=by
 have h1:=h.count;have h2:=h.seq
 rcases Int.lt_or_le 0 r.count with h3|h3
 ·exact (h.some_ h3).2.1
 ·have:=(h.none_ (by omega)).1;omega
theorem z2o {A:TabA} {pid:Int} {t:RowA} (h:z5e A pid=some t):t ∈ A.rows/\t.pid=pid:=⟨List.mem_of_find?_eq_some h,by simpa using List.find?_some h⟩
theorem zd1 {A:TabA} {pid:Int} (h:z5e A pid=none):∀ t ∈ A.rows,t.pid≠pid:=λt ht=>by simpa using List.find?_eq_none.1 h t ht
theorem zj0 (A:TabA) (pid:Int):(∃ t,z5e A pid=some t/\(pid,t) ∈ z3b A.rows)\/(z5e A pid=none/\∀ t,(pid,t) ∉ z3b A.rows):=by
 cases h:z5e A pid with
 | some t=>exact .inl ⟨t,rfl,List.mem_map.2 ⟨t,(z2o h).1,by rw [(z2o h).2]⟩⟩
 | none=>exact .inr ⟨rfl,λt ht=>by
   obtain ⟨u,hu,e⟩:=List.mem_map.1 ht
   simp only [Prod.mk.injEq] at e
   exact zd1 h u hu e.1⟩
theorem zhg {A:TabA} (hok:okTb A) (pid:Int):0<=(z0t A pid).seq/\0<=(z0t A pid).count/\(z0t A pid).seq+(z0t A pid).count<=2147483648 /\ -1<=(z0t A pid).epoch/\(z0t A pid).epoch<=32768 /\ -1<=(z0t A pid).frm/\(z0t A pid).pid=pid:=by
 unfold z0t
 cases h:z5e A pid with
 | none=>simp [z05z]
 | some t =>
  have h1:=hok.row t (z2o h).1
  have:=h1.seqs;have:=h1.seq;have:=h1.count;have:=h1.epoch;have:=h1.frm;have:=(z2o h).2
  simp only [Option.getD_some];omega
section
variable {w:World} {l r r1 r2 l':List HP} {t:Nat} {A:TabA}
theorem zax (hs:Sat w (tb t A::l)):∃ m:Nat,okTb A/\Sat w (pt t (.cells #[.int .i64 A.most,.int .i64 A.next,.map (some m)] T.a6)::z1c ekI evW m (z3b A.rows)::l):=by
 obtain ⟨m,hs⟩:=hs.ex
 obtain ⟨hok,hs⟩:=hs.and
 exact ⟨m,hok,hs.star⟩
theorem z08j (m:Nat) (hok:okTb A) (hs:Sat w (pt t (.cells #[.int .i64 A.most,.int .i64 A.next,.map (some m)] T.a6)::z1c ekI evW m (z3b A.rows)::l)):Sat w (tb t A::l):=.ex_mk m (.and_mk hok (.star_mk hs))
theorem z3f (m:Nat) (hok:okTb A) (hs:Sat w l) {es1:List (Int × RowA)} [h1:FocB l t (.cells [.int .i64 A.most,.int .i64 A.next,.map (some m)].toArray T.a6) r1] [h2:FoM r1 m ekI evW es1 r2] [h4:Sub r2 l']
  (hp1:es1.Perm (z3b A.rows):=by exact .refl _):Sat w (tb t A::l'):=by
 have hs:=hs.perm (h1.perm.trans (.cons _ h2.perm))
 have hs:=((hs.pick [1]).mapPerm hp1).pick [1]
 have hs:Sat w (tb t A::r2):=z08j m hok hs
 exact hs.sub
theorem z003 (hs:Sat w (tb t A::l)):okTb A:=(zax hs).choose_spec.1
instance {r:RowA}:IsR (sG [.int .i64,.int .i64,.int .i64,.int .i64,.int .i64,.int .i64,.int .i64]) [.agg (z5t r).toArray] (r.pid,r.epoch,r.seq,r.count,r.base,r.frm,r.time,()):=⟨rfl⟩
instance {r:RowA} {b:Bool}:IsR (.tup [.agg [.int .i64,.int .i64,.int .i64,.int .i64,.int .i64,.int .i64,.int .i64],.one .bool]) [.agg (z5t r).toArray,.bool b] (r.pid,r.epoch,r.seq,r.count,r.base,r.frm,r.time,b,()):=⟨rfl⟩
def z08a (o:Option RowA):Int × Int × Int × Int × Int × Int × Int × Bool × Unit :=
 ((o.getD ⟨0,0,0,0,0,0,0⟩).pid,(o.getD ⟨0,0,0,0,0,0,0⟩).epoch,(o.getD ⟨0,0,0,0,0,0,0⟩).seq,(o.getD ⟨0,0,0,0,0,0,0⟩).count,(o.getD ⟨0,0,0,0,0,0,0⟩).base,(o.getD ⟨0,0,0,0,0,0,0⟩).frm,(o.getD ⟨0,0,0,0,0,0,0⟩).time,o.isSome,())
theorem z066 (most:Int) (hs:Sat w l):Ret P F.a20 #[.int .i64 most] w λvs w' =>
  (1<=most/\most<=4096/\∃ t,vs=[.pointer (some ⟨t,0,none⟩),.int .i64 0]/\Sat w' (tb t ⟨most,0,[]⟩::l))\/((most<1\/most>4096)/\vs=[.pointer none,.int .i64 2]/\Sat w' l) :=
 ztc most <| by
  delta z06p Ac Ad Ai An Av Az B1
  refine ze (λh=>?_) λh=>?_
  ·exact ⟨rfl,.inr ⟨h,rfl,hs⟩⟩
  refine zbv ekI evW hs λm w' hs=>?_
  refine zn hs λt w' hs=>?_
  refine ⟨rfl,.inl ⟨by omega,by omega,t,rfl,?_⟩⟩
  exact z3f m (A:=⟨most,0,[]⟩) ⟨by show 1<=most/\most<=4096;omega,by show (0:Int)<=0/\(0:Int)<=_;omega,by show (0:Int)<=most;omega,by simp,by simp,by simp [z8r]⟩ hs
theorem zwt (pid:Int) [hf:Fo l tb t A r] (hs:Sat w l):Ret P F.a29 #[.pointer (some ⟨t,0,none⟩),.int .i64 pid] w λvs w'=>vs=[.agg (z5t (z0t A pid)).toArray,.bool (z5e A pid).isSome]/\Sat w' (tb t A::r) :=
 zti _ _ <| by
  delta z06v AA Ac Ag Ai An Ao Ar B2 B4 Bz
  obtain ⟨m,hok,hs⟩:=zax (hs.perm hf.perm)
  refine zq hs λa0 w' hs=>?_
  refine zg ?_
  refine za hs ?_
  have ho:=zj0 A pid
  unfold z0t
  generalize z5e A pid=o at ho ⊢
  refine zze hs o ho z08a ?_
  refine zdm _ _ _ _ _ _ _ _ ?_
  refine zq hs λa12 w' hs=>?_
  refine zr hs λw' hs=>?_
  refine wp_lt ?_
  cases o with
  | none =>
   refine z0c ?_ (by simp)
   refine zr hs λw' hs=>?_
   refine zk hs ?_
   exact ⟨rfl,rfl,z3f m hok hs⟩
  | some x =>
   refine zy ?_ (by simp)
   refine zk hs ?_
   refine zr hs λw' hs=>?_
   refine zk hs ?_
   exact ⟨rfl,rfl,z3f m hok hs⟩
theorem zr8 (x:RowA) (h1:0<=x.seq+x.count/\x.seq+x.count<=2147483648) (hs:Sat w l):Ret P F.a21 #[.agg (z5t x).toArray] w λvs w'=>vs=[.int .i64 (x.seq+x.count)]/\Sat w' l :=
 ztd x.pid x.epoch x.seq x.count x.base x.frm x.time <| by
  delta z06q AP Ac Af An Aq Av B2
  refine zn hs λa0 w' hs=>?_
  refine za hs ?_
  refine za hs ?_
  refine z19 ?_
  exact ⟨rfl,rfl,hs.tail⟩
theorem zqv (x:RowA) (hs:Sat w l):Ret P F.a22 #[.agg (z5t x).toArray] w λvs w'=>vs=[.bool (decide (0<=x.frm))]/\Sat w' l :=
 zte x.pid x.epoch x.seq x.count x.base x.frm x.time <| by
  delta z06r AP Ag An Av B2
  refine zn hs λa0 w' hs=>?_
  refine za hs ?_
  refine wp_lt ?_
  exact ⟨rfl,rfl,hs.tail⟩
theorem zhl (b:BatM) (hs:Sat w l):Ret P F.a31 #[.agg (zv b).toArray] w λvs w'=>vs=[.bool (z0i b)]/\Sat w' l :=
 ztk b.base b.pid b.epoch b.seq b.kind b.time b.x <| by
  delta z06x AF AP AQ Ag An Av
  refine zn hs λa0 w' hs=>?_
  refine za hs ?_
  refine za hs ?_
  refine wp_lt ?_
  exact ⟨rfl,rfl,hs.tail⟩
end
structure VerA where
 again:Bool
 base:Int
def zfq (v:VerA):List Value:=[.bool v.again,.int .i64 v.base]
def z88 (r:RowA) (b:BatM):VerA × Bool :=
 if b.epoch≠r.epoch\/b.seq+b.rs.length>r.seq+r.count then (⟨false,0⟩,false) else if b.seq=r.seq/\(b.rs.length:Int)=r.count then (⟨true,r.base⟩,true) else (⟨true,-1⟩,true)
def zao (A:TabA) (r:RowA) (there:Bool) (b:BatM):Int :=
 if 0<=r.frm/\(b.epoch>r.epoch\/b.kind=0) then 22
 else if z0i b=false/\b.seq≠(if b.epoch>r.epoch then 0 else r.seq+r.count) then 21
 else if there=false/\(A.rows.length:Int)>=A.most then 5 else 0
def z1v (A:TabA) (b:BatM):VerA × Int :=
 if z05 b≠0\/b.pid=0 then (⟨false,0⟩,z05 b)
 else if b.epoch<(z0t A b.pid).epoch then (if z0i b then (⟨true,-1⟩,0) else (⟨false,0⟩,20))
 else if z0i b=false/\(z88 (z0t A b.pid) b).2=true then ((z88 (z0t A b.pid) b).1,0)
 else (⟨false,0⟩,zao A (z0t A b.pid) (z5e A b.pid).isSome b)
instance {v:VerA} {b:Bool}:IsR (.tup [.agg [.bool,.int .i64],.one .bool]) [.agg (zfq v).toArray,.bool b] (v.again,v.base,b,()):=⟨rfl⟩
instance {v:VerA} {n:Int}:IsR (.tup [.agg [.bool,.int .i64],.one (.int .i64)]) [.agg (zfq v).toArray,.int .i64 n] (v.again,v.base,n,()):=⟨rfl⟩
section
variable {w:World} {l r r1 r2 l':List HP} {t:Nat} {A:TabA}
theorem zz5 (x:RowA) (b:BatM) [hb:FocR l b.x 4 (b.rs.flatMap z04)] (h1:0<=x.seq+x.count/\x.seq+x.count<=2147483648) (h2:0<=b.seq/\b.seq<=2147483647) (h3:b.rs.length<=64) (hs:Sat w l) :
  Ret P F.a30 #[.agg (z5t x).toArray,.agg (zv b).toArray] w λvs w'=>vs=[.agg (zfq (z88 x b).1).toArray,.bool (z88 x b).2]/\Sat w' l :=
 ztj x.pid x.epoch x.seq x.count x.base x.frm x.time b.base b.pid b.epoch b.seq b.kind b.time b.x <| by
  delta z06w AF AG AI AP AQ AW Ac Ah Ai Aj Al An Ao Aq Ar Av B2 B3 B9 Bt Bw;unfold z88
  have hl:=hs.slen b.x (xs:=b.rs) (enc:=z04)
  refine zn hs λa0 w' hs=>?_
  refine zn hs λa1 w' hs=>?_
  refine zq hs λa2 w' hs=>?_
  have hs:Sat w' (pt a2 (.cells #[.bool false,.int .i64 0] T.a7)::pt a1 (.cells #[.int .i64 b.base,.int .i64 b.pid,.int .i64 b.epoch,.int .i64 b.seq,.int .i64 b.kind,.int .i64 b.time,.slice b.x.a b.x.len b.x.cap] T.a0) ::
   pt a0 (.cells #[.int .i64 x.pid,.int .i64 x.epoch,.int .i64 x.seq,.int .i64 x.count,.int .i64 x.base,.int .i64 x.frm,.int .i64 x.time] T.a5)::l):=hs
  refine zf (λv w'=>v=(decide (b.epoch≠x.epoch\/b.seq+b.rs.length>x.seq+x.count),())/\Sat w' (pt a2 (.cells #[.bool false,.int .i64 0] T.a7)::pt a1 (.cells #[.int .i64 b.base,.int .i64 b.pid,.int .i64 b.epoch,.int .i64 b.seq,.int .i64 b.kind,.int .i64 b.time,.slice b.x.a b.x.len b.x.cap] T.a0) ::
   pt a0 (.cells #[.int .i64 x.pid,.int .i64 x.epoch,.int .i64 x.seq,.int .i64 x.count,.int .i64 x.base,.int .i64 x.frm,.int .i64 x.time] T.a5)::l)) ?_ ?_
  ·refine zx hs λw' hs=>?_
   refine za hs ?_
   refine za hs ?_
   refine z18 hs ?_
   refine z18 hs ?_
   refine zk hs ?_
   refine ze (λh=>?_) λh=>?_
   ·refine zd ?_
    exact zj ⟨by rw [decide_eq_true (.inl h)],hs⟩
   ·refine z8 (zr8 x h1 hs) λ_ w' hs=>?_
    obtain ⟨rfl,hs⟩:=hs
    refine zb ?_ ⟨⟨trivial,λ_=>z09 hs⟩,λ_=>z09 hs⟩
    refine zd ?_
    refine zj ⟨?_,hs⟩
    rw [w64 (by omega) (by omega),hl]
    have:(b.epoch≠x.epoch\/b.seq+b.rs.length>x.seq+x.count)↔b.seq+((b.rs.length:Nat):Int)>x.seq+x.count:=⟨λh'=>h'.resolve_left h,.inr⟩
    rw [decide_eq_decide.2 this]
  clear hs
  rintro _ w ⟨rfl,hs⟩
  refine zm ?_
  refine ze (λh=>?_) λh=>?_
  ·rw [if_pos h]
   refine zr hs λw' hs=>?_
   refine zk hs ?_
   exact ⟨rfl,rfl,hs.sub⟩
  rw [if_neg h]
  refine za hs ?_
  refine za hs ?_
  refine za hs ?_
  refine za hs ?_
  refine ze (λh=>?_) λh=>?_
  ·rw [if_pos (by rw [hl] at h;exact h)]
   refine za hs ?_
   refine zr hs λw' hs=>?_
   refine zk hs ?_
   exact ⟨rfl,rfl,hs.sub⟩
  ·rw [if_neg (by rw [hl] at h;exact h)]
   refine zr hs λw' hs=>?_
   refine zk hs ?_
   exact ⟨rfl,rfl,hs.sub⟩
theorem zz8 (x:RowA) (there:Bool) (b:BatM) [hf:Fo l tb t A r] (h1:0<=x.seq+x.count/\x.seq+x.count<=2147483648) (hs:Sat w l) :
  Ret P F.a28 #[.pointer (some ⟨t,0,none⟩),.agg (z5t x).toArray,.bool there,.agg (zv b).toArray] w λvs w'=>vs=[.int .i64 (zao A x there b)]/\Sat w' (tb t A::r) :=
 zth _ x.pid x.epoch x.seq x.count x.base x.frm x.time there b.base b.pid b.epoch b.seq b.kind b.time b.x <| by
  delta z06u AF AG AH AI AP AQ AX Ac Af Ag Ai Aj Am An Ap Av B2 B4 BB BF Ba;unfold zao
  obtain ⟨m,hok,hs⟩:=zax (hs.perm hf.perm)
  refine zn hs λa0 w' hs=>?_
  refine zn hs λa1 w' hs=>?_
  refine zk hs ?_
  refine z8 (zr8 x h1 hs) λ_ _ hs=>?_
  obtain ⟨rfl,hs⟩:=hs
  refine zb ?_
  refine wp_lt ?_
  refine za hs ?_
  refine za hs ?_
  have hs:Sat _ (pt a1 (.cells #[.int .i64 b.base,.int .i64 b.pid,.int .i64 b.epoch,.int .i64 b.seq,.int .i64 b.kind,.int .i64 b.time,.slice b.x.a b.x.len b.x.cap] T.a0) ::
   pt a0 (.cells #[.int .i64 x.pid,.int .i64 x.epoch,.int .i64 x.seq,.int .i64 x.count,.int .i64 x.base,.int .i64 x.frm,.int .i64 x.time] T.a5)::pt t (.cells #[.int .i64 A.most,.int .i64 A.next,.map (some m)] T.a6)::z1c ekI evW m (z3b A.rows)::r):=hs
  refine zf (λv w'=>v=((if b.epoch>x.epoch then 0 else x.seq+x.count),())/\Sat w' (pt a1 (.cells #[.int .i64 b.base,.int .i64 b.pid,.int .i64 b.epoch,.int .i64 b.seq,.int .i64 b.kind,.int .i64 b.time,.slice b.x.a b.x.len b.x.cap] T.a0) ::
   pt a0 (.cells #[.int .i64 x.pid,.int .i64 x.epoch,.int .i64 x.seq,.int .i64 x.count,.int .i64 x.base,.int .i64 x.frm,.int .i64 x.time] T.a5)::pt t (.cells #[.int .i64 A.most,.int .i64 A.next,.map (some m)] T.a6)::z1c ekI evW m (z3b A.rows)::r)) ?_ ?_
  ·refine ze (λh=>?_) λh=>?_
   ·exact zj ⟨by rw [if_pos h],hs⟩
   ·exact zj ⟨by rw [if_neg h],hs⟩
  clear hs
  rintro _ w ⟨rfl,hs⟩
  refine zm ?_
  refine zk hs ?_
  refine z8 (zqv x hs) λ_ _ hs=>?_
  obtain ⟨rfl,hs⟩:=hs
  refine zb ?_
  refine za hs ?_
  refine za hs ?_
  refine za hs ?_
  refine wp_lt ?_
  refine ze (λh=>?_) λh=>?_
  ·rw [if_pos h]
   exact ⟨rfl,rfl,z3f m hok hs⟩
  rw [if_neg h]
  refine zk hs ?_
  refine z8 (zhl b hs) λ_ _ hs=>?_
  obtain ⟨rfl,hs⟩:=hs
  refine zb ?_
  refine za hs ?_
  refine wp_lt ?_
  refine ze (λh=>?_) λh=>?_
  ·rw [if_pos (by simpa using h)]
   exact ⟨rfl,rfl,z3f m hok hs⟩
  rw [if_neg (by simpa using h)]
  refine zx hs λw' hs=>?_
  refine z0k ?_
  refine za hs ?_
  refine zdl hs ?_
  refine z0k ?_
  refine za hs ?_
  refine wp_lt ?_
  refine zd ?_
  have hlen:(z3b A.rows).length=A.rows.length:=by unfold z3b;rw [List.length_map]
  rw [hlen]
  refine ze (λh=>?_) λh=>?_
  ·rw [if_pos (by simpa using h)]
   exact ⟨rfl,rfl,z3f m hok hs⟩
  ·rw [if_neg (by simpa using h)]
   exact ⟨rfl,rfl,z3f m hok hs⟩
theorem zfd (b:BatM) [hf:Fo l tb t A r] [hb:FocR r b.x 4 (b.rs.flatMap z04)] (hs:Sat w l) :
  Ret P F.a24 #[.pointer (some ⟨t,0,none⟩),.agg (zv b).toArray] w λvs w'=>vs=[.agg (zfq (z1v A b).1).toArray,.int .i64 (z1v A b).2]/\Sat w' (tb t A::r) :=
 ztf _ b.base b.pid b.epoch b.seq b.kind b.time b.x <| by
  delta z06s AF AH AK AP AQ Ac Ad Af Ag Ai Aj Am An Ao Ar Av B2 B4 B9 Ba Bt;unfold z1v
  have hs:Sat w (tb t A::r):=hs.perm hf.perm
  have hok:=z003 hs
  refine zn hs λa0 w' hs=>?_
  refine zq hs λa1 w' hs=>?_
  refine zy ?_ (by simp)
  refine zk hs ?_
  refine z8 (z92 b hs) λ_ _ hs=>?_
  obtain ⟨rfl,hs⟩:=hs
  refine zb ?_
  refine wp_lt ?_
  refine za hs ?_
  refine ze (λh=>?_) λh=>?_
  ·rw [if_pos h]
   refine zr hs λw' hs=>?_
   refine wp_lt ?_
   refine zk hs ?_
   exact ⟨rfl,rfl,hs.sub⟩
  rw [if_neg h]
  have hv:z05 b=0:=Decidable.not_not.1 λe=>h (.inl e)
  obtain ⟨hs1,hs2,hnum,hfit,hnx⟩:=z16 b hv
  have hl64:b.rs.length<=64:=by
   unfold zo at hs2
   split at hs2
   ·have:=hfit.2
    rename_i hm
    rw [if_pos hm] at this;omega
   ·omega
  refine za hs ?_
  refine z8 (zwt b.pid hs) λ_ _ hs=>?_
  obtain ⟨rfl,hs⟩:=hs
  refine zb ?_
  obtain ⟨hr1,hr2,hr3,hr4,hr5,hr6,hr7⟩:=zhg hok b.pid
  generalize z0t A b.pid=x at *
  refine zq hs λa26 w' hs=>?_
  refine zr hs λw' hs=>?_
  refine wp_lt ?_
  refine za hs ?_
  refine za hs ?_
  refine ze (λh=>?_) λh=>?_
  ·rw [if_pos h]
   refine zk hs ?_
   refine z8 (zhl b hs) λ_ _ hs=>?_
   obtain ⟨rfl,hs⟩:=hs
   refine zb ?_
   refine ze (λh=>?_) λh=>?_
   ·rw [if_pos h]
    refine zr hs λw' hs=>?_
    refine zk hs ?_
    exact ⟨rfl,rfl,hs.sub⟩
   ·rw [if_neg h]
    refine zr hs λw' hs=>?_
    refine zk hs ?_
    exact ⟨rfl,rfl,hs.sub⟩
  rw [if_neg h]
  refine zk hs ?_
  refine z8 (zhl b hs) λ_ _ hs=>?_
  obtain ⟨rfl,hs⟩:=hs
  refine zb ?_
  have hs:Sat _ (tb t A::pt a26 (.cells #[.int .i64 x.pid,.int .i64 x.epoch,.int .i64 x.seq,.int .i64 x.count,.int .i64 x.base,.int .i64 x.frm,.int .i64 x.time] T.a5)::pt a1 (.cells #[.bool false,.int .i64 0] T.a7) ::
   pt a0 (.cells #[.int .i64 b.base,.int .i64 b.pid,.int .i64 b.epoch,.int .i64 b.seq,.int .i64 b.kind,.int .i64 b.time,.slice b.x.a b.x.len b.x.cap] T.a0)::r):=hs.sub
  refine zf (λ_ w'=>¬ (z0i b=false/\(z88 x b).2=true)/\Sat w' (tb t A::pt a26 (.cells #[.int .i64 x.pid,.int .i64 x.epoch,.int .i64 x.seq,.int .i64 x.count,.int .i64 x.base,.int .i64 x.frm,.int .i64 x.time] T.a5)::pt a1 (.cells #[.bool false,.int .i64 0] T.a7) ::
   pt a0 (.cells #[.int .i64 b.base,.int .i64 b.pid,.int .i64 b.epoch,.int .i64 b.seq,.int .i64 b.kind,.int .i64 b.time,.slice b.x.a b.x.len b.x.cap] T.a0)::r)) ?_ ?_
  ·refine ze (λh=>?_) λh=>?_
   ·refine zk hs ?_
    refine zk hs ?_
    refine z8 (zz5 x b ⟨by omega,by omega⟩ hnum.2.2.2.2.1 hl64 hs) λ_ _ hs=>?_
    obtain ⟨rfl,hs⟩:=hs
    refine zb ?_
    refine zq hs λa67 w' hs=>?_
    refine zr hs λw' hs=>?_
    refine wp_lt ?_
    refine ze (λh2=>?_) λh2=>?_
    ·rw [if_pos ⟨by simpa using h,h2⟩]
     refine zk hs ?_
     refine zr hs λw' hs=>?_
     refine zk hs ?_
     refine zh ?_
     exact ⟨rfl,rfl,hs.sub⟩
    ·exact zj ⟨λe=>h2 e.2,hs.sub⟩
   ·exact zj ⟨λe=>h (by rw [e.1];simp),hs⟩
  clear hs
  rintro _ w ⟨hno,hs⟩
  refine zm ?_
  rw [if_neg hno]
  refine zk hs ?_
  refine zk hs ?_
  refine z8 (zz8 x (z5e A b.pid).isSome b ⟨by omega,by omega⟩ hs) λ_ _ hs=>?_
  obtain ⟨rfl,hs⟩:=hs
  refine zb ?_
  refine zr hs λw' hs=>?_
  refine wp_lt ?_
  refine zk hs ?_
  exact ⟨rfl,rfl,hs.sub⟩
end
def z8p (A:TabA) (b:BatM):Int:=match z5e A b.pid with
 | none=>b.time
 | some r=>if r.time>b.time then r.time else b.time
def z6k (A:TabA) (b:BatM):Int:=if b.kind=1/\(z0t A b.pid).frm<0 then b.base else (z0t A b.pid).frm
def z44 (A:TabA) (b:BatM):RowA:=if z0i b then ⟨b.pid,b.epoch+1,0,0,0,-1,z8p A b⟩ else ⟨b.pid,b.epoch,b.seq,b.rs.length,b.base,z6k A b,z8p A b⟩
def z7h (pid:Int) (rs:List RowA):List RowA:=rs.filter λr=>!decide (r.pid=pid)
def z8l (x:RowA) (rs:List RowA):List RowA:=rs.filter (λr=>decide (r.pid<x.pid))++x::rs.filter (λr=>decide (x.pid<r.pid))
def z5b (A:TabA) (b:BatM):TabA:=⟨A.most,b.base+zo b,if b.pid=0 then A.rows else z8l (z44 A b) A.rows⟩
def zjs (A:TabA) (b:BatM):Int × TabA :=
 if (z1v A b).2≠0 then ((z1v A b).2,A) else if (z1v A b).1.again then (4,A) else if b.base<A.next then (8,A) else (0,z5b A b)
theorem zld (x:RowA) (rs:List RowA):(z8l x rs).Perm (x::z7h x.pid rs):=by
 unfold z8l z7h
 refine List.perm_middle.trans (.cons _ ?_)
 have h:=List.filter_append_perm (λr:RowA=>decide (r.pid<x.pid)) (rs.filter λr=>!decide (r.pid=x.pid))
 rw [List.filter_filter,List.filter_filter] at h
 have e1:rs.filter (λr=>decide (r.pid<x.pid))=rs.filter (λr=>decide (r.pid<x.pid) && !decide (r.pid=x.pid)):=List.filter_congr λr _=>by
  rw [Bool.eq_iff_iff];simp;omega
 have e2:rs.filter (λr=>decide (x.pid<r.pid))=rs.filter (λr=>!decide (r.pid<x.pid) && !decide (r.pid=x.pid)):=List.filter_congr λr _=>by
  rw [Bool.eq_iff_iff];simp;omega
 rw [e1,e2];exact h
theorem zsm {x:RowA} {rs:List RowA} (h:rs.Pairwise λa b=>a.pid<b.pid):(z8l x rs).Pairwise λa b=>a.pid<b.pid:=by
 unfold z8l
 rw [List.pairwise_append,List.pairwise_cons]
 refine ⟨h.filter _,⟨λr hr=>?_,h.filter _⟩,λa ha c hc=>?_⟩
 ·simpa using (List.mem_filter.1 hr).2
 ·have h1:a.pid<x.pid:=by simpa using (List.mem_filter.1 ha).2
  rcases List.mem_cons.1 hc with rfl|hc
  ·exact h1
  ·have h2:x.pid<c.pid:=by simpa using (List.mem_filter.1 hc).2
   omega
theorem zd0 {pid:Int} {rs:List RowA} (h:∀ r ∈ rs,r.pid≠pid):z7h pid rs=rs:=List.filter_eq_self.2 λr hr=>by simp [h r hr]
theorem za1 {x:RowA}:∀ {rs:List RowA},x ∈ rs->(rs.Pairwise λa b=>a.pid<b.pid)->rs.Perm (x::z7h x.pid rs)
 | y::rs,hx,h=>by
  rw [List.pairwise_cons] at h
  unfold z7h
  rw [List.filter_cons]
  rcases List.mem_cons.1 hx with rfl|hx
  ·rw [if_neg (by simp)]
   have:=zd0 (pid:=x.pid) (rs:=rs) (λr hr=>by have:=h.1 r hr;omega)
   unfold z7h at this
   rw [this]
  ·have h1:=h.1 x hx
   rw [if_pos (by simp;omega)]
   exact ((za1 hx h.2).cons y).trans (.swap _ _ _)
theorem zsg {a b:List RowA} (h:a.Perm b):(z8r a).Perm (z8r b):=h.filter _
theorem zfj {a b:List RowA} (h:a.Perm b) (ha:(z8r a).Pairwise λx y=>x.frm≠y.frm):(z8r b).Pairwise λx y=>x.frm≠y.frm :=
 (List.Perm.pairwise_iff (λ{x y} h=>Ne.symm h) (zsg h)).1 ha
theorem ze0 {A:TabA} {b:BatM} (h1:(z1v A b).2=0) (h2:(z1v A b).1.again=false):z05 b=0/\(b.pid≠0->(z0t A b.pid).epoch<=b.epoch/\¬ (z0i b=false/\(z88 (z0t A b.pid) b).2=true)/\zao A (z0t A b.pid) (z5e A b.pid).isSome b=0):=by
 unfold z1v at h1 h2
 split at h1
 ·rename_i h
  rw [if_pos h] at h2
  refine ⟨h1,λhp=>absurd h (λh=>h.elim (λh=>h h1) hp)⟩
 rename_i h
 rw [if_neg h] at h2
 have hv:z05 b=0:=Decidable.not_not.1 λe=>h (.inl e)
 refine ⟨hv,λhp=>?_⟩
 split at h1
 ·rename_i h3
  rw [if_pos h3] at h2
  split at h1
  ·rename_i h4;rw [if_pos h4] at h2;cases h2
  ·cases h1
 rename_i h3
 rw [if_neg h3] at h2
 split at h1
 ·rename_i h4
  rw [if_pos h4] at h2
  obtain ⟨-,h4⟩:=h4
  unfold z88 at h2 h4
  split at h4
  ·cases h4
  ·rename_i h5
   rw [if_neg h5] at h2
   split at h2 <;> cases h2
 ·rename_i h4
  exact ⟨by omega,h4,h1⟩
theorem zrz {A:TabA} {x:RowA} {there:Bool} {b:BatM} (h:zao A x there b=0):¬ (0<=x.frm/\(b.epoch>x.epoch\/b.kind=0))/\¬ (z0i b=false/\b.seq≠(if b.epoch>x.epoch then 0 else x.seq+x.count))/\(there=false->(A.rows.length:Int)<A.most):=by
 unfold zao at h
 by_cases h1:0<=x.frm/\(b.epoch>x.epoch\/b.kind=0)
 ·rw [if_pos h1] at h;cases h
 rw [if_neg h1] at h
 by_cases h2:z0i b=false/\b.seq≠(if b.epoch>x.epoch then 0 else x.seq+x.count)
 ·rw [if_pos h2] at h;cases h
 rw [if_neg h2] at h
 by_cases h3:there=false/\(A.rows.length:Int)>=A.most
 ·rw [if_pos h3] at h;cases h
 exact ⟨h1,h2,λe=>by rcases Int.lt_or_le (A.rows.length:Int) A.most with h|h;exact h;exact absurd ⟨e,h⟩ h3⟩
theorem zlj (A:TabA) (b:BatM):(z44 A b).pid=b.pid:=by unfold z44;split <;> rfl
theorem z03d {A:TabA} (hok:okTb A) {b:BatM} (hb:0<=b.time/\b.time<=1099511627776):0<=z8p A b/\z8p A b<=1099511627776:=by
 unfold z8p
 split
 ·exact hb
 ·rename_i r hr
  have:=(hok.row r (z2o hr).1).time
  split <;> omega
theorem z03i {A:TabA} {b:BatM} (hok:okTb A) (h1:(z1v A b).2=0) (h2:(z1v A b).1.again=false) (h3:A.next<=b.base):okTb (z5b A b):=by
 obtain ⟨hv,hj⟩:=ze0 h1 h2
 obtain ⟨hs1,hs2,hnum,hfit,hnx⟩:=z16 b hv
 have hn0:=hok.next
 by_cases hp0:b.pid=0
 ·have e:z5b A b=⟨A.most,b.base+zo b,A.rows⟩:=by unfold z5b;rw [if_pos hp0]
  rw [e]
  exact ⟨hok.most,⟨by show 0<=b.base+zo b;omega,by show b.base+zo b<=_;omega⟩,hok.many,λr hr=>by
   have h:=hok.row r hr
   exact ⟨h.pid,h.epoch,h.time,h.count,h.seq,h.base,h.frm,h.none_,λhc=>by have:=h.some_ hc;show _/\_/\_<=b.base+zo b/\_;omega⟩,hok.byPid,hok.apart⟩
 obtain ⟨hje,-,hfr⟩:=hj hp0
 obtain ⟨hf1,hf2,hf3⟩:=zrz hfr
 have e:z5b A b=⟨A.most,b.base+zo b,z8l (z44 A b) A.rows⟩:=by unfold z5b;rw [if_neg hp0]
 have hpp:=zld (z44 A b) A.rows
 rw [zlj] at hpp
 obtain ⟨hnk,hnb,hnp,hne,hns,hnt⟩:=hnum
 have hlate:=z03d hok hnt
 have hF:=zhg hok b.pid
 have hfrm:(z0t A b.pid).frm<A.next:=by
  unfold z0t
  cases h:z5e A b.pid with
  | none=>show (-1:Int)<_;omega
  | some y =>
   have hy:=hok.row y (z2o h).1
   show y.frm<A.next
   rcases Int.lt_or_le 0 y.count with hc|hc
   ·have:=hy.some_ hc;omega
   ·have:=hy.none_ (by have:=hy.count;omega);omega
 have hokN:okRw (z44 A b) (b.base+zo b):=by
  unfold z44
  by_cases hm:z0i b=true
  ·rw [if_pos hm]
   exact ⟨by show 1<=b.pid/\b.pid<=_;omega,by show 0<=b.epoch+1/\b.epoch+1<=_;omega,hlate,by show (0:Int)<=0/\(0:Int)<=64;omega,Int.le_refl _,Int.le_refl _,Int.le_refl _,λ_=>⟨rfl,rfl,rfl⟩,λh=>absurd h (by show ¬ (0:Int)<0;omega)⟩
  ·rw [if_neg hm]
   have hm:z0i b=false:=by simpa using hm
   have hlen:zo b=b.rs.length:=by unfold zo;rw [hm];rfl
   have hseq:b.seq+b.rs.length<=2147483648:=by
    unfold z05 at hv
    split at hv
    ·cases hv
    split at hv
    ·cases hv
    split at hv
    ·rename_i h;exact absurd hv h
    split at hv
    ·cases hv
    ·rename_i h
     rcases Int.lt_or_le 2147483647 (b.seq+(zo b-1)) with h9|h9
     ·exact absurd (.inr ⟨by omega,hm,by omega⟩) h
     ·omega
   have hfrm2 : -1<=z6k A b/\z6k A b<=b.base:=by
    unfold z6k
    split
    ·omega
    ·omega
   exact ⟨by show 1<=b.pid/\b.pid<=_;omega,by show 0<=b.epoch/\b.epoch<=_;omega,hlate,by show (0:Int)<=b.rs.length/\(b.rs.length:Int)<=64;omega,hns.1,hnb.1,hfrm2.1,λh=>absurd h (by show ¬ (b.rs.length:Int)=0;omega),λ_=>by
    show b.epoch<=_/\b.seq+(b.rs.length:Int)<=_/\b.base+(b.rs.length:Int)<=b.base+zo b/\z6k A b<=b.base
    omega⟩
 have hrest:z7h b.pid A.rows ⊆ A.rows:=λr hr=>(List.mem_filter.1 hr).1
 rw [e]
 refine ⟨hok.most,⟨by show 0<=b.base+zo b;omega,by show b.base+zo b<=_;omega⟩,?_,λr hr=>?_,zsm hok.byPid,?_⟩
 ·show ((z8l (z44 A b) A.rows).length:Int)<=A.most
  rw [hpp.length_eq,List.length_cons]
  cases h:z5e A b.pid with
  | none =>
   have:=hf3 (by rw [h];rfl)
   rw [zd0 (zd1 h)];omega
  | some y =>
   have h4:=(za1 (z2o h).1 hok.byPid).length_eq
   rw [(z2o h).2,List.length_cons] at h4
   have:=hok.many
   omega
 ·have hr:r ∈ z8l (z44 A b) A.rows:=hr
  rcases List.mem_cons.1 (hpp.mem_iff.1 hr) with rfl|hr
  ·exact hokN
  ·have h:=hok.row r (hrest hr)
   exact ⟨h.pid,h.epoch,h.time,h.count,h.seq,h.base,h.frm,h.none_,λhc=>by have:=h.some_ hc;show _/\_/\_<=b.base+zo b/\_;omega⟩
 ·refine zfj hpp.symm ?_
  have hsub:(z8r (z7h b.pid A.rows)).Pairwise λx y=>x.frm≠y.frm:=hok.apart.sublist ((List.filter_sublist).filter _)
  unfold z8r
  rw [List.filter_cons]
  split
  rotate_left
  ·exact hsub
  rename_i hop
  have hop:0<=(z44 A b).frm:=by simpa using hop
  rw [List.pairwise_cons]
  refine ⟨λy hy=>?_,hsub⟩
  have hy1:=List.mem_filter.1 hy
  have hy2:0<=y.frm:=by simpa using hy1.2
  have hyr:=hok.row y (hrest hy1.1)
  have hm:¬ z0i b=true:=λhm=>by unfold z44 at hop;rw [if_pos hm] at hop;exact absurd hop (by show ¬ (0:Int) <= -1;omega)
  unfold z44
  rw [if_neg hm]
  show z6k A b≠y.frm
  have hylt:y.frm<A.next:=by
   rcases Int.lt_or_le 0 y.count with hc|hc
   ·have:=hyr.some_ hc;omega
   ·have:=hyr.none_ (by have:=hyr.count;omega);omega
  unfold z6k
  split
  ·omega
  ·rename_i hk
   cases h:z5e A b.pid with
   | none =>
    have:(z0t A b.pid).frm = -1:=by unfold z0t;rw [h];rfl
    omega
   | some z =>
    have hz:z0t A b.pid=z:=by unfold z0t;rw [h];rfl
    rw [hz] at *
    by_cases hzo:0<=z.frm
    ·have h5:=zfj (za1 (z2o h).1 hok.byPid) hok.apart
     rw [(z2o h).2] at h5
     unfold z8r at h5
     rw [List.filter_cons,if_pos (by simpa using hzo),List.pairwise_cons] at h5
     exact h5.1 y hy
    ·omega
theorem z05c {A:TabA} (hok:okTb A) (pid:Int):(∃ v0,(z3b A.rows).Perm ((pid,v0)::z3b (z7h pid A.rows)))\/((∀ v,(pid,v) ∉ z3b A.rows)/\z3b (z7h pid A.rows)=z3b A.rows):=by
 rcases zj0 A pid with ⟨y,hy,-⟩|⟨hn,hno⟩
 ·left
  refine ⟨y,?_⟩
  have h:=(za1 (z2o hy).1 hok.byPid).map λr:RowA=>(r.pid,r)
  rw [(z2o hy).2,List.map_cons,(z2o hy).2] at h
  exact h
 ·right
  exact ⟨hno,by rw [zd0 (zd1 hn)]⟩
theorem z03b (x:RowA) (rs:List RowA):((x.pid,x)::z3b (z7h x.pid rs)).Perm (z3b (z8l x rs)):=((zld x rs).map λr:RowA=>(r.pid,r)).symm
theorem zy6 {A:TabA} {n:Int} (hok:okTb A) (h1:A.next<=n) (h2:n<=1099511627777):okTb ⟨A.most,n,A.rows⟩ :=
 ⟨hok.most,⟨by have:=hok.next;show 0<=n;omega,h2⟩,hok.many,λr hr=>by
  have h:=hok.row r hr
  exact ⟨h.pid,h.epoch,h.time,h.count,h.seq,h.base,h.frm,h.none_,λhc=>by have:=h.some_ hc;show _/\_/\_<=n/\_;omega⟩,hok.byPid,hok.apart⟩
section
variable {w:World} {l r r1 r2 l':List HP} {t:Nat} {A:TabA}
theorem z04a (b:BatM) [hf:Fo l tb t A r] [hb:FocR r b.x 4 (b.rs.flatMap z04)] (hs:Sat w l) :
  Ret P F.a27 #[.pointer (some ⟨t,0,none⟩),.agg (zv b).toArray] w λvs w'=>vs=[.int .i64 (zjs A b).1]/\Sat w' (tb t (zjs A b).2::r) :=
 ztg _ b.base b.pid b.epoch b.seq b.kind b.time b.x <| by
  delta z06t AA AF AG AH AI AJ AK AO AP Ac Ad Af Ag Ah Ai Aj Al Am An Ao Ap Aq Ar Av B2 B4 B5 Ba Br Bs Bt Bz;unfold zjs
  have hs:Sat w (tb t A::r):=hs.perm hf.perm
  have hok:=z003 hs
  refine zn hs λa0 w' hs=>?_
  refine zk hs ?_
  refine z8 (zfd b hs) λ_ _ hs=>?_
  obtain ⟨rfl,hs⟩:=hs
  refine zb ?_
  have hnx:=z03i (b:=b) hok
  have hjf:=ze0 (A:=A) (b:=b)
  generalize hje:z1v A b=j at *
  obtain ⟨v,e⟩:=j
  refine zq hs λa11 w' hs=>?_
  refine zr hs λw' hs=>?_
  refine wp_lt ?_
  refine wp_lt ?_
  refine ze (λh=>?_) λh=>?_
  ·rw [if_pos h]
   refine wp_lt ?_
   exact ⟨rfl,rfl,hs.sub⟩
  have he:e=0:=Decidable.not_not.1 h
  subst he
  rw [if_neg (by simp)]
  refine za hs ?_
  refine wp_lt ?_
  refine ze (λh=>?_) λh=>?_
  ·rw [if_pos h]
   exact ⟨rfl,rfl,hs.sub⟩
  rw [if_neg h]
  have hag:v.again=false:=by simpa using h
  refine zx hs λw' hs=>?_
  refine za hs ?_
  refine zg ?_
  have hs:Sat w' (tb t A::pt a11 (.cells #[.bool v.again,.int .i64 v.base] T.a7)::pt a0 (.cells #[.int .i64 b.base,.int .i64 b.pid,.int .i64 b.epoch,.int .i64 b.seq,.int .i64 b.kind,.int .i64 b.time,.slice b.x.a b.x.len b.x.cap] T.a0)::r):=hs.sub
  obtain ⟨m,-,hs⟩:=zax hs
  refine za hs ?_
  refine wp_lt ?_
  refine zd ?_
  refine ze (λh=>?_) λh=>?_
  ·rw [if_pos h]
   exact ⟨rfl,rfl,z3f m hok hs⟩
  rw [if_neg h]
  have hok':=hnx rfl hag (by omega)
  obtain ⟨hv,hj⟩:=hjf rfl hag
  obtain ⟨hs1,hs2,hnum,hfit,hn2⟩:=z16 b hv
  have hne:=hnum.2.2.2.1
  refine zk hs ?_
  refine z8 (z90 b hs) λ_ _ hs=>?_
  obtain ⟨rfl,hs⟩:=hs
  refine zb ?_
  have hnb:z1r b=b.base+zo b:=by unfold z1r;rw [if_neg (by rw [hv];simp)]
  rw [hnb]
  refine zg ?_
  refine z07 hs λw' hs=>?_
  refine za hs ?_
  have hok1:okTb ⟨A.most,b.base+zo b,A.rows⟩:=zy6 hok (by omega) hn2
  refine ze (λh0=>?_) λh0=>?_
  ·refine ⟨rfl,rfl,?_⟩
   have e:z5b A b=⟨A.most,b.base+zo b,A.rows⟩:=by unfold z5b;rw [if_pos h0]
   show Sat _ (tb t (z5b A b)::r)
   rw [e]
   exact z3f m hok1 hs
  have e:z5b A b=⟨A.most,b.base+zo b,z8l (z44 A b) A.rows⟩:=by unfold z5b;rw [if_neg h0]
  show _
  refine za hs ?_
  have hs:Sat _ (tb t ⟨A.most,b.base+zo b,A.rows⟩::pt a11 (.cells #[.bool v.again,.int .i64 v.base] T.a7)::pt a0 (.cells #[.int .i64 b.base,.int .i64 b.pid,.int .i64 b.epoch,.int .i64 b.seq,.int .i64 b.kind,.int .i64 b.time,.slice b.x.a b.x.len b.x.cap] T.a0)::r):=z3f m hok1 hs
  refine z8 (zwt b.pid hs) λ_ _ hs=>?_
  obtain ⟨rfl,hs⟩:=hs
  refine zb ?_
  have eF:z0t ⟨A.most,b.base+zo b,A.rows⟩ b.pid=z0t A b.pid:=rfl
  have eO:z5e ⟨A.most,b.base+zo b,A.rows⟩ b.pid=z5e A b.pid:=rfl
  rw [eF,eO]
  have hFok:=zhg hok b.pid
  have hkeys:=z05c hok b.pid
  have hkp:=z03b (z44 A b) A.rows
  rw [zlj] at hkp
  refine zq hs λa42 w' hs=>?_
  refine zr hs λw' hs=>?_
  refine wp_lt ?_
  refine za hs ?_
  refine wp_lt ?_
  have hs:Sat _ (tb t ⟨A.most,b.base+zo b,A.rows⟩::pt a42 (.cells #[.int .i64 (z0t A b.pid).pid,.int .i64 (z0t A b.pid).epoch,.int .i64 (z0t A b.pid).seq,.int .i64 (z0t A b.pid).count,.int .i64 (z0t A b.pid).base,.int .i64 (z0t A b.pid).frm,.int .i64 (z0t A b.pid).time] T.a5) ::
   pt a0 (.cells #[.int .i64 b.base,.int .i64 b.pid,.int .i64 b.epoch,.int .i64 b.seq,.int .i64 b.kind,.int .i64 b.time,.slice b.x.a b.x.len b.x.cap] T.a0)::r):=hs.sub
  refine zf (λv w'=>v=(z8p A b,())/\Sat w' (tb t ⟨A.most,b.base+zo b,A.rows⟩::pt a42 (.cells #[.int .i64 (z0t A b.pid).pid,.int .i64 (z0t A b.pid).epoch,.int .i64 (z0t A b.pid).seq,.int .i64 (z0t A b.pid).count,.int .i64 (z0t A b.pid).base,.int .i64 (z0t A b.pid).frm,.int .i64 (z0t A b.pid).time] T.a5) ::
   pt a0 (.cells #[.int .i64 b.base,.int .i64 b.pid,.int .i64 b.epoch,.int .i64 b.seq,.int .i64 b.kind,.int .i64 b.time,.slice b.x.a b.x.len b.x.cap] T.a0)::r)) ?_ ?_
  ·unfold z8p z0t at *
   cases ho:z5e A b.pid with
   | none =>
    rw [ho] at hs
    refine zy ?_ (by simp)
    exact zj ⟨rfl,hs⟩
   | some y =>
    rw [ho] at hs
    refine z0c ?_ (by simp)
    refine za hs ?_
    refine wp_lt ?_
    exact zj ⟨rfl,hs⟩
  clear hs
  rintro _ w ⟨rfl,hs⟩
  refine zm ?_
  refine za hs ?_
  obtain ⟨m,-,hs⟩:=zax hs
  have hfin:∀ {w:World},Sat w (tb t (z5b A b)::r)->0=0/\([.int .i64 0]:List Value)=[.int .i64 0]/\Sat w (tb t (z5b A b)::r):=λh=>⟨rfl,rfl,h⟩
  refine zf (λ_ w'=>Sat w' (tb t (z5b A b)::r)) ?_ (by rintro _ w' hs;refine zm ?_;exact ⟨rfl,rfl,hs⟩)
  refine zf (λ_ w'=>z0i b=false/\Sat w' (pt t (.cells #[.int .i64 A.most,.int .i64 (b.base+zo b),.map (some m)] T.a6)::z1c ekI evW m (z3b A.rows)::pt a42 (.cells #[.int .i64 (z0t A b.pid).pid,.int .i64 (z0t A b.pid).epoch,.int .i64 (z0t A b.pid).seq,.int .i64 (z0t A b.pid).count,.int .i64 (z0t A b.pid).base,.int .i64 (z6k A b),.int .i64 (z0t A b.pid).time] T.a5) ::
   pt a0 (.cells #[.int .i64 b.base,.int .i64 b.pid,.int .i64 b.epoch,.int .i64 b.seq,.int .i64 b.kind,.int .i64 b.time,.slice b.x.a b.x.len b.x.cap] T.a0)::r)) ?_ ?_
  ·refine wp_lt ?_
   refine zf (λv w'=>v=(z0i b,())/\Sat w' (pt t (.cells #[.int .i64 A.most,.int .i64 (b.base+zo b),.map (some m)] T.a6)::z1c ekI evW m (z3b A.rows)::pt a42 (.cells #[.int .i64 (z0t A b.pid).pid,.int .i64 (z0t A b.pid).epoch,.int .i64 (z0t A b.pid).seq,.int .i64 (z0t A b.pid).count,.int .i64 (z0t A b.pid).base,.int .i64 (z0t A b.pid).frm,.int .i64 (z0t A b.pid).time] T.a5) ::
    pt a0 (.cells #[.int .i64 b.base,.int .i64 b.pid,.int .i64 b.epoch,.int .i64 b.seq,.int .i64 b.kind,.int .i64 b.time,.slice b.x.a b.x.len b.x.cap] T.a0)::r)) ?_ ?_
   ·refine ze (λh=>?_) λh=>?_
    ·exact zj ⟨by unfold z0i;rw [show (b.kind == 2)=true by simpa using h,decide_eq_true (by simpa using h)];rfl,hs⟩
    ·refine wp_lt ?_
     exact zj ⟨by unfold z0i;rw [decide_eq_false (p:=b.kind=2) (by simpa using h)];rfl,hs⟩
   clear hs
   rintro _ w ⟨rfl,hs⟩
   refine zm ?_
   refine ze (λhm=>?_) λhm=>?_
   ·refine zx hs λw' hs=>?_
    refine zg ?_
    refine za hs ?_
    refine za hs ?_
    refine za hs ?_
    refine za hs ?_
    have eN:z44 A b=⟨b.pid,b.epoch+1,0,0,0,-1,z8p A b⟩:=by unfold z44;rw [if_pos hm]
    rw [w64 (x:=b.epoch+1) (by omega) (by omega)]
    refine zaz hs _ hkeys (z44 A b) (λw' hs=>?_) (by rw [eN])
    refine zd ?_
    refine zh (zh ?_)
    exact ⟨rfl,rfl,by show Sat _ (tb t (z5b A b)::r);exact e ▸ z3f m (A:=⟨A.most,b.base+zo b,z8l (z44 A b) A.rows⟩) (e ▸ hok') hs hkp⟩
   have hm:z0i b=false:=by simpa using hm
   refine wp_lt ?_
   refine ze (λh=>?_) λh=>?_
   ·refine zk hs ?_
    refine z8 (zqv (z0t A b.pid) hs) λ_ _ hs=>?_
    obtain ⟨rfl,hs⟩:=hs
    refine zb ?_
    refine zf (λ_ w'=>Sat w' (pt t (.cells #[.int .i64 A.most,.int .i64 (b.base+zo b),.map (some m)] T.a6)::z1c ekI evW m (z3b A.rows)::pt a42 (.cells #[.int .i64 (z0t A b.pid).pid,.int .i64 (z0t A b.pid).epoch,.int .i64 (z0t A b.pid).seq,.int .i64 (z0t A b.pid).count,.int .i64 (z0t A b.pid).base,.int .i64 (z6k A b),.int .i64 (z0t A b.pid).time] T.a5) ::
     pt a0 (.cells #[.int .i64 b.base,.int .i64 b.pid,.int .i64 b.epoch,.int .i64 b.seq,.int .i64 b.kind,.int .i64 b.time,.slice b.x.a b.x.len b.x.cap] T.a0)::r)) ?_ (by rintro _ w' hs;refine zm ?_;exact zj ⟨hm,hs⟩)
    refine ze (λh2=>?_) λh2=>?_
    ·refine za hs ?_
     refine z07 hs λw' hs=>?_
     refine zj ?_
     have:z6k A b=b.base:=by unfold z6k;rw [if_pos ⟨h,by simpa using h2⟩]
     rw [this];exact hs.sub
    ·refine zj ?_
     have:z6k A b=(z0t A b.pid).frm:=by unfold z6k;rw [if_neg (λh3=>h2 (by simpa using h3.2))]
     rw [this];exact hs
   ·refine zj ⟨hm,?_⟩
    have:z6k A b=(z0t A b.pid).frm:=by unfold z6k;rw [if_neg (λh3=>h h3.1)]
    rw [this];exact hs
  clear hs
  rintro _ w ⟨hm,hs⟩
  refine zm ?_
  have hl:=hs.slen b.x (xs:=b.rs) (enc:=z04)
  refine zx hs λw' hs=>?_
  refine zg ?_
  refine za hs ?_
  refine za hs ?_
  refine za hs ?_
  refine za hs ?_
  refine za hs ?_
  refine za hs ?_
  refine za hs ?_
  refine za hs ?_
  have eN:z44 A b=⟨b.pid,b.epoch,b.seq,b.rs.length,b.base,z6k A b,z8p A b⟩:=by unfold z44;rw [if_neg (by rw [hm];simp)]
  refine zaz hs _ hkeys (z44 A b) (λw' hs=>?_) (by rw [eN,hl])
  refine zd ?_
  refine zj ?_
  exact e ▸ z3f m (A:=⟨A.most,b.base+zo b,z8l (z44 A b) A.rows⟩) (e ▸ hok') hs hkp
end
abbrev ekK (k:Int × Int):Value:=.agg #[.int .i64 k.1,.int .i64 k.2]
theorem z02v (a b:Int × Int) (w:World):(Op.equal T.a17 (ekK a) (ekK b)).run P w=.ok (a.1 == b.1 && a.2 == b.2) w :=
 zke 10000 (t:=T.a17) (x:=ekK a) (y:=ekK b) (by kernel_rfl) w
theorem zhz {P:Program} {t:TypeId} {q k:IntKind} (hu:P.underlying t=some (.int q)) (e:Bool) (n:Nat) (v:Int) (w:World):(Instr.checkKey e (n+1) t (.int k v)).run P w=.ok () w:=by
 simp [Instr.checkKey,run_underlying hu]
theorem zrj {P:Program} {t:TypeId} {f0 f1:Field} {q0 q1 k0 k1:IntKind} (hu:P.underlying t=some (.struct #[f0,f1])) (h0:P.underlying f0.type=some (.int q0)) (h1:P.underlying f1.type=some (.int q1)) (o0:f0.offset=0) (o1:f1.offset=1)
  (n0 : ¬ f0.name = "_") (n1 : ¬ f1.name = "_") (e : Bool) (n : Nat) (a b : Int) (w : World) : (Instr.checkKey e (n + 2) t (.agg #[.int k0 a, .int k1 b])).run P w = .ok () w := by
 have p0:(part f0.type #[Value.int k0 a,.int k1 b] f0.offset).run P w=.ok (.int k0 a) w:=run_part_plain w (by simp [Program.plainKey,h0]) (by rw [o0];rfl)
 have p1:(part f1.type #[Value.int k0 a,.int k1 b] f1.offset).run P w=.ok (.int k1 b) w:=run_part_plain w (by simp [Program.plainKey,h1]) (by rw [o1];rfl)
 have c0:=zhz (k:=k0) h0 e n a w
 have c1:=zhz (k:=k1) h1 e n b w
 rw [show n+2=(n+1)+1 from rfl,Instr.checkKey]
 simp only [Sem.run_bind,run_underlying hu,Result.andThen_ok]
 rw [<- Array.forIn_toList]
 simp only [List.forIn_cons,List.forIn_nil,Sem.run_bind,n0,n1,ne_eq,not_false_eq_true,if_true,Result.andThen_ok,p0,p1,c0,c1,Sem.run_pure]
theorem zv0 (e:Bool) (k:Int × Int) (w:World):(Instr.checkKey e 10000 T.a17 (ekK k)).run P w=.ok () w :=
 zrj (P:=P) (q0:=.i64) (q1:=.i64) Go.Proofs.Tryz.underlying298 (by kernel_rfl) (by kernel_rfl) rfl rfl (by decide) (by decide) e 9998 k.1 k.2 w
theorem zia (k:Int × Int) (w:World):∀ (es:List MapEntry) (i:Nat),(∀ e ∈ es,∃ k',e.key=ekK k') ->
  (∃ (j:Nat) (e:MapEntry),es[j]? = some e/\e.key=ekK k/\(Instr.findAsking T.a17 (ekK k) es i).run P w=.ok (some (i+j,e.val)) w) \/
  ((∀ e ∈ es,e.key≠ekK k)/\(Instr.findAsking T.a17 (ekK k) es i).run P w=.ok none w)
 | [],i,_=>.inr ⟨by simp,by simp [Instr.findAsking,Sem.run_pure]⟩
 | e::es,i,h=>by
  obtain ⟨k',hk'⟩:=h e (List.mem_cons_self ..)
  have hrun:(Instr.findAsking T.a17 (ekK k) (e::es) i).run P w=(if (k.1 == k'.1 && k.2 == k'.2)=true then (pure (some (i,e.val)):Sem (Option (Nat × Value))) else Instr.findAsking T.a17 (ekK k) es (i+1)).run P w:=by
   rw [Instr.findAsking]
   simp only [Sem.run_bind,hk',z02v,Result.andThen_ok]
  by_cases hk:k=k'
  ·subst hk
   refine .inl ⟨0,e,rfl,hk',?_⟩
   rw [hrun,if_pos (by simp)];rfl
  ·have hne:¬ (k.1 == k'.1 && k.2 == k'.2)=true:=λh2=>hk (by
    simp only [Bool.and_eq_true,beq_iff_eq] at h2
    exact Prod.ext h2.1 h2.2)
   rcases zia k w es (i+1) (λe he=>h e (List.mem_cons_of_mem _ he)) with ⟨j,e',h1,h2,h3⟩|⟨h1,h2⟩
   ·exact .inl ⟨j+1,e',h1,h2,by rw [hrun,if_neg hne,h3,Nat.add_assoc,Nat.add_comm 1 j]⟩
   ·refine .inr ⟨λe' he'=>?_,by rw [hrun,if_neg hne,h2]⟩
    rcases List.mem_cons.1 he' with rfl|he'
    ·rw [hk']
     intro h4
     injection h4 with h4
     simp at h4
     exact hk (Prod.ext h4.1.symm h4.2.symm)
    ·exact h1 e' he'
instance:KeyT P T.a17 ekK where
 inj a b h:=by
  injection h with h4
  simp at h4
  exact Prod.ext h4.1 h4.2
 same a:=by
  show (_ && _)=true
  simp [Instr.sameBits]
 check:=zv0
 find es k w h:=by
  have e:=run_findKey_eq (P:=P) w (k:=T.a17) (by kernel_rfl) (ekK k) es
  rcases zia k w es 0 h with ⟨j,e',h1,h2,h3⟩|⟨h1,h2⟩
  ·exact .inl ⟨j,e',h1,h2,by rw [e,h3,Nat.zero_add]⟩
  ·exact .inr ⟨h1,by rw [e,h2]⟩
instance:KeyT P T.a14 ekI:=zkt (by kernel_rfl)
instance IsK.key {a b:Int}:IsK ekK (.agg #[.int .i64 a,.int .i64 b]) (a,b):=⟨rfl⟩
instance:MapT P T.a21 T.a14 (.agg #[.int .i64 0,.int .i64 0,.int .i64 0,.int .i64 0]):=⟨T.a18,by kernel_rfl,by kernel_rfl⟩
instance:MapT P T.a22 T.a17 (.agg #[.int .i64 0,.int .i64 0,.int .i64 0,.int .i64 0]):=⟨T.a18,by kernel_rfl,by kernel_rfl⟩
end Go.Dec
