/- What the claim of this folder leans on: our own texts, joined, without what it does not use. -/
import Derived.Test.YtlmaipahgknahaaGreatRows
import Derived.WalkKit
import Derived.ProofKit
import Derived.OpenShut
import Derived.RowKit3
import Derived.OrdersHeld
import Derived.Scope
import Derived.KernelRfl
import Derived.Laws.Sem
import Derived.Laws.StructEq
import Derived.Deep.AppendSrc
import Derived.Laws.BytesArg
import Derived.Laws.RangeString
import Derived.Maps.RangeRun
import Derived.Lib.ConvBytes
import Derived.Lib.SlBytesConst
import Derived.ChangeSlices
import Derived.ChangeMaps5
import Derived.ChangeSame
import Derived.Deep.Slices
import Derived.Deep.Fields
import Derived.Test.YtlmaipahgknahaaGreatProg
import Derived.WideKeyRuns
import Derived.DeepKeys3
import Derived.Laws.MakeOwn
import Derived.Sort.MapsRangeIn
import Derived.Sort.KeysCollected
import Derived.RangeFuncNested
import Derived.RangeFuncBound
import Derived.RangeFuncCalls
import Derived.RangeFuncLeaves
import Derived.RangeFuncBox
import Derived.OwnWalkIn
import Derived.TacticsInMore
import Derived.RegionIn
import Derived.LoopNIn
import Derived.LoopIn
import Derived.Maps.AppendAt
import Derived.Shelf.Abstract
import Derived.Shelf.Sort.Plain
import Derived.Shelf.Slices.In.SortNone
import Derived.Test.YtlmaipahgknahaaGreatQNews1
import Derived.Test.YtlmaipahgknahaaGreatQNews2
import Derived.Test.YtlmaipahgknahaaGreatQNews3
set_option linter.unusedVariables false
set_option linter.unusedSimpArgs false
namespace Go.Dec
def z001 (b_0 b_1 b_2 b_3 b_4 b_5:Int) (b_6:Sl):Prog :=
Ap T.a0 (AD b_0 b_1 b_2 b_3 b_4 b_5 b_6) λa0=>
Aq T.a12 a0 4 λn1=>
Ar ((n1 == 2)=false) T.a12 a0 4 λn2=>
Al (n1 == 2 || n2 == 3) λb3=>
Am 0 [.bool b3]
theorem zng (b_0 b_1 b_2 b_3 b_4 b_5:Int) (b_6:Sl):FnS (z001 b_0 b_1 b_2 b_3 b_4 b_5 b_6) F.a168 #[.agg #[.int .i64 b_0,.int .i64 b_1,.int .i64 b_2,.int .i64 b_3,.int .i64 b_4,.int .i64 b_5,.slice b_6.a b_6.len b_6.cap]]:=dV ⟨[],[],[],[]⟩ Go.Proofs.Tryz.func19 (by kernel_rfl)
def zg4 (d:Option Addr) (prefix_:ByteArray) (c_0:Int) (c_1:Int):Prog :=
Ap T.a47 (Au c_0 c_1) λa0=>
AH (Option.isNone d) (
Am 0 [Ah none,Aa 1])<|
Aj 1 (
Ak F.a122 [.string prefix_] λb2=>
Bz (not b2=false) (ld T.a47 a0) λn3 n4=>
Ai (not b2) (
Am 1 [.bool true])<|
Ak F.a126 [Au n3 n4] λb5=>
Al (not b5) λb6=>
Am 1 [.bool b6]) λb7=>
Ai b7 (
Am 0 [Ah none,Aa 2])<|
Ak F.a22 [Ah d] λb8=>
AH b8 (
Am 0 [Ah none,Aa 9])<|
.read True (ld T.a47 a0) (sG [.int .i64,.int .i64]) (u2 λ(n10 n11:Int)=>
Ap T.a48 (.agg #[Ah d,.string prefix_,Aa n10,Aa n11,.slice none 0 0]) λa12=>
AK F.a112 [Av a12] λl13 n14=>
Ac n14 λn15=>
Ai (n15 != 0) (
Ac n15 λn16=>
Am 0 [Ah none,Aa n16])<|
Bg 1 (
Br 2 (n15,(0,())) λn17 n18=>
Ai (decide (n18<(AB l13))) (
Bg 3 (
.ex [.adr] (c1 λa19=>0<=n18/\n18<(AB l13)/\l13.a=some a19) (u1 λa20=>
Aq T.a13 a20 (Int.toNat n18*1) λn21=>
Ac n18 λn22=>
Ac n21 λn23=>
Ax F.a105 [Av a12] λn24=>
Ai (decide (n23<n24)) (
Aw F.a115 [Av a12,Aa n23,.string (ByteArray.mk #[46,108,111,103])] λs25=>
Ax F.a25 [Ah d,.string s25] λn26=>
Ac n26 λn27=>
Ai (n27 != 0) (
Am 1 [Aa n27])<|
Am 3 [Aa n27])<|
.call F.a118 [Av a12,Aa n23] (.tup [.one .bool,.one (.int .i64)]) (u2 λb28 (n29:Int)=>
Al b28 λb30=>
Ac n29 λn31=>
Ai (n31 == 0 && not b30) (
.must (0<=AF (n22+1)/\AF (n22+1)<=(AB l13)) <|
Ax F.a111 [Av a12,.slice (z1r l13.a 1 (Int.toNat (AF (n22+1))) l13.cap) (l13.len-Int.toNat (AF (n22+1))) (l13.cap-Int.toNat (AF (n22+1)))] λn32=>
Ac n32 λn33=>
Am 1 [Aa n33])<|
Ai (n31 != 0) (
Am 1 [Aa n31])<|
Am 3 [Aa n31]))) λn34=>
Am 2 [Aa n34,Aa (AF (n18+1))])<|
Am 1 [Aa n17]) λn35=>
Ai (n35 != 0) (
Ac n35 λn36=>
Am 0 [Ah none,Aa n36])<|
Am 0 [Av a12,Aa 0])
theorem z7u (d:Option Addr) (prefix_:ByteArray) (c_0 c_1:Int):FnS (zg4 d prefix_ c_0 c_1) F.a121 #[.pointer d,.string prefix_,.agg #[.int .i64 c_0,.int .i64 c_1]]:=dV ⟨[],[(1,[(10,.one (.int .i64))]),(2,[(10,.one (.int .i64))])],[(3,[(17,.one .bool)])],[(1,[(10,.one (.int .i64)),(44,.one (.int .i64))])]⟩ Go.Proofs.Tryz.func41 (by kernel_rfl)
def zz4 (l:Option Addr):Prog :=
Ai (Option.isNone l) (
Am 0 [.slice none 0 0])<|
Ax F.a104 [Ah l] λn0=>
AK F.a106 [Ah l,Aa n0,Aa 1099511627776] λl1 n2=>
Ac n2 λn3=>
Am 0 [l1.v]
theorem zm6 (l:Option Addr):FnS (zz4 l) F.a102 #[.pointer l]:=dV ⟨[],[],[],[]⟩ Go.Proofs.Tryz.func46 (by kernel_rfl)
def z06c (pid epoch:Int) (commit:Bool) (time:Int):Prog :=
Ad T.a0 λa0=>
Ad T.a0 λa1=>
Ae T.a0 a1 (.agg #[Aa 0,Aa pid,Aa epoch,Aa 0,Aa 3,Aa time,.slice none 0 0])<|
Ay 1 (
Ai commit (
AV T.a12 a1 4 (Aa 2)<|
Am 1 [])<|
Am 1 [])<|
AE T.a0 a1 λn2 n3 n4 n5 n6 n7 l8=>
Ae T.a0 a0 (AD n2 n3 n4 n5 n6 n7 l8)<|
AE T.a0 a0 λn9 n10 n11 n12 n13 n14 l15=>
Am 0 [AD n9 n10 n11 n12 n13 n14 l15]
theorem ztp (pid epoch:Int) (commit:Bool) (time:Int):FnS (z06c pid epoch commit time) F.a89 #[.int .i64 pid,.int .i64 epoch,.bool commit,.int .i64 time]:=dV ⟨[(134217742,[])],[],[],[]⟩ Go.Proofs.Tryz.func49 (by kernel_rfl)
def zz7 (l:Option Addr) (offset:Int) (most:Int):Prog :=
Ap T.a27 (Ah l) λa0=>
Ap T.a13 (Aa offset) λa1=>
Ap T.a12 (Aa most) λa2=>
BE T.a27 a0 λp3=>
AH (Option.isNone p3) (
Am 0 [.slice none 0 0,Aa 1])<|
BB T.a12 a2 λn5=>
AH (decide (n5<1)) (
Am 0 [.slice none 0 0,Aa 2])<|
Aj 1 (
AL<|
.hold True (ld T.a13 a1) (sI .i64) (u1 λ(n7:Int)=>
BE T.a27 a0 λp8=>
Ax F.a104 [Ah p8] λn9=>
.hold (decide (n7<n9)=false) (ld T.a13 a1) (sI .i64) (u1 λ(n10:Int)=>
.read (decide (n7<n9)=false) (ld T.a27 a0) sP (u1 λp11=>
Ai (decide (n7<n9)) (
AN<|
Am 1 [.bool true])<|
Ax F.a105 [Ah p11] λn12=>
Al (decide (n10>n12)) λb13=>
AN<|
Am 1 [.bool b13])))) λb14=>
Ai b14 (
Am 0 [.slice none 0 0,Aa 8])<|
Ad T.a34 λa15=>
BE T.a27 a0 λp16=>
AI p16 λa18=>
Bp T.a39 a18 4 λl19=>
Ax F.a160 [Aa (AB l19),.func (Fn.func 122) #[] #[Av a0,Av a1]] λn20=>
Ac (AF (n20-1)) λn21=>
Ac (if 0>n21 then 0 else n21) λn22=>
Ay 1 (
AA 2 (n22,()) λn23=>
BE T.a27 a0 λp24=>
AI p24 λa26=>
Bp T.a39 a26 4 λl27=>
Ai (decide (n23<(AB l27))) (
BE T.a27 a0 λp28=>
AI p28 λa30=>
Bp T.a39 a30 4 λl31=>
.ex [.adr] (c1 λa32=>0<=n23/\n23<(AB l31)/\l31.a=some a32) (u1 λa33=>
AJ T.a28 a33 (Int.toNat n23*1) λp34=>
Aj 3 (
AL<|
.hold True (ld T.a27 a0) sP (u1 λp35=>
BB T.a13 a1 λn36=>
Ax F.a127 [Ah p34,Aa n36] λn37=>
AN<|
Ak F.a120 [Ah p35,Ah p34,Aa n37,.func (Fn.func 125) #[] #[Av a1,Av a15,Av a2]] λb38=>
Al b38 λb39=>
AN<|
Am 3 [.bool b39])) λb40=>
Ai (not b40) (
Am 1 [])<|
Ac (AF (n23+1)) λn41=>
Am 2 [Aa n41]))<|
Am 1 [])<|
BF (ld T.a34 a15) λl42=>
Am 0 [l42.v,Aa 0]
theorem zm9 (l:Option Addr) (offset most:Int):FnS (zz7 l offset most) F.a106 #[.pointer l,.int .i64 offset,.int .i64 most]:=dV ⟨[],[(1,[])],[(5,[(18,.one .bool)]),(13,[(11,.one .bool)])],[(1,[(9,.one (.int .i64))])]⟩ Go.Proofs.Tryz.func51 (by kernel_rfl)
def z06a (l:Sl):Prog :=
AQ 1 (
BG 2 (⟨none,0,0⟩,(0,())) λl0 n1=>
Ai (decide (n1<(AB l))) (
AQ 3 (
.ex [.adr] (c1 λa2=>0<=n1/\n1<(AB l)/\l.a=some a2) (u1 λa3=>
AC T.a0 a3 (Int.toNat n1*7) λn4 n5 n6 n7 n8 n9 l10=>
Ad T.a0 λa11=>
Ae T.a0 a11 (AD n4 n5 n6 n7 n8 n9 l10)<|
AE T.a0 a11 λn12 n13 n14 n15 n16 n17 l18=>
Ak F.a95 [AD n12 n13 n14 n15 n16 n17 l18] λb19=>
Ai b19 (
Am 3 [l0.v])<|
Bp T.a35 a11 6 λl20=>
AQ 4 (
BG 5 ({ a:=l0.a,len:=l0.len,cap:=l0.cap },(0,())) λl21 n22=>
Ai (decide (n22<(AB l20))) (
.ex [.adr] (c1 λa23=>0<=n22/\n22<(AB l20)/\l20.a=some a23) (u1 λa24=>
BH T.a2 a24 (Int.toNat n22*4) λs25 s26 b27 n28=>
Ad T.a2 λa29=>
Ac n22 λn30=>
Ae T.a2 a29 (BI s25 s26 b27 n28)<|
Aq T.a13 a11 0 λn31=>
BJ T.a2 a29 λs32 s33 b34 n35=>
AR (Instr.buildSlice T.a40 1 #[(0,.agg #[Aa (AF (n31+n30)),.string s32,.string s33,.bool b34,Aa n35])]) λl36=>
AR (app T.a40 T.a40 T.a40 l21.v l36.v) λl37=>
Am 5 [l37.v,Aa (AF (n22+1))]))<|
Am 4 [l21.v]) λl38=>
Am 3 [l38.v])) λl39=>
Am 2 [l39.v,Aa (AF (n1+1))])<|
Am 1 [l0.v]) λl40=>
Am 0 [l40.v]
theorem ztn (l:Sl):FnS (z06a l) F.a87 #[.slice l.a l.len l.cap]:=dV ⟨[],[(0,[(3,.one .slc)]),(1,[(3,.one .slc)]),(2,[(3,.one .slc)])],[],[(0,[(3,.one .slc),(10,.one (.int .i64))]),(2,[(3,.one .slc),(19,.one (.int .i64))])]⟩ Go.Proofs.Tryz.func53 (by kernel_rfl)
def z06d (b_0 b_1 b_2 b_3 b_4 b_5:Int) (b_6:Sl):Prog :=
Ap T.a0 (AD b_0 b_1 b_2 b_3 b_4 b_5 b_6) λa0=>
AE T.a0 a0 λn1 n2 n3 n4 n5 n6 l7=>
Ax F.a92 [AD n1 n2 n3 n4 n5 n6 l7] λn8=>
Ai (n8 != 0) (
Am 0 [Aa 0])<|
AL<|
Bj T.a13 a0 0 λn9=>
AE T.a0 a0 λn10 n11 n12 n13 n14 n15 l16=>
Ax F.a91 [AD n10 n11 n12 n13 n14 n15 l16] λn17=>
Ac (AF (n9+n17)) λn18=>
AN<|
Am 0 [Aa n18]
theorem ztq (b_0 b_1 b_2 b_3 b_4 b_5:Int) (b_6:Sl):FnS (z06d b_0 b_1 b_2 b_3 b_4 b_5 b_6) F.a90 #[.agg #[.int .i64 b_0,.int .i64 b_1,.int .i64 b_2,.int .i64 b_3,.int .i64 b_4,.int .i64 b_5,.slice b_6.a b_6.len b_6.cap]]:=dV ⟨[],[],[],[]⟩ Go.Proofs.Tryz.func54 (by kernel_rfl)
def z007 (l:Option Addr):Prog :=
AI l λa1=>
Bp T.a44 a1 2 λl2=>
Ai ((AB l2) == 0) (
Am 0 [Aa 0])<|
AL<|
AI l λa4=>
Bp T.a44 a4 2 λl5=>
AI l λa7=>
Bp T.a44 a7 2 λl8=>
.ex [.adr] (c1 λa9=>0<=AF ((AB l8)-1)/\AF ((AB l8)-1)<(AB l5)/\l5.a=some a9) (u1 λa10=>
.read True (ld T.a54 (Addr.add a10 (Int.toNat (AF ((AB l8)-1))*3))) (sG [.int .i64,.int .i64,.slc]) (u3 λ(n11 n12:Int) l13=>
Ax F.a179 [BK n11 n12 l13] λn14=>
Ac n14 λn15=>
AN<|
Am 0 [Aa n15]))
theorem znm (l:Option Addr):FnS (z007 l) F.a177 #[.pointer l]:=dV ⟨[],[],[],[]⟩ Go.Proofs.Tryz.func57 (by kernel_rfl)
def z006 (l:Option Addr):Prog :=
AI l λa1=>
Bp T.a44 a1 2 λl2=>
Ai ((AB l2) == 0) (
Am 0 [Aa 0])<|
AI l λa4=>
Bp T.a44 a4 2 λl5=>
.ex [.adr] (c1 λa6=>(0:Int)<=0/\0<(AB l5)/\l5.a=some a6) (u1 λa7=>
Aq T.a13 (Addr.add a7 0) 0 λn8=>
Ac n8 λn9=>
Am 0 [Aa n9])
theorem znl (l:Option Addr):FnS (z006 l) F.a176 #[.pointer l]:=dV ⟨[],[],[],[]⟩ Go.Proofs.Tryz.func62 (by kernel_rfl)
def z003 (a:Sl) (b:Sl):Prog :=
Ai ((AB a) != (AB b)) (
Am 0 [.bool false])<|
Ay 1 (
AA 2 (0,()) λn0=>
Ai (decide (n0<(AB a))) (
Ac n0 λn1=>
AL<|
.ex [.adr] (c1 λa2=>0<=n1/\n1<(AB a)/\a.a=some a2) (u1 λa3=>
AC T.a0 a3 (Int.toNat n1*7) λn4 n5 n6 n7 n8 n9 l10=>
.ex [.adr] (c1 λa11=>0<=n1/\n1<(AB b)/\b.a=some a11) (u1 λa12=>
AC T.a0 a12 (Int.toNat n1*7) λn13 n14 n15 n16 n17 n18 l19=>
Ak F.a170 [AD n4 n5 n6 n7 n8 n9 l10,AD n13 n14 n15 n16 n17 n18 l19] λb20=>
AN<|
Ai (not b20) (
Am 0 [.bool false])<|
Am 2 [Aa (AF (n0+1))])))<|
Am 1 [])<|
Am 0 [.bool true]
theorem zni (a b:Sl):FnS (z003 a b) F.a171 #[.slice a.a a.len a.cap,.slice b.a b.len b.cap]:=dV ⟨[],[(0,[])],[],[(0,[(13,.one (.int .i64))])]⟩ Go.Proofs.Tryz.func64 (by kernel_rfl)
def z005 (l:Option Addr):Prog :=
AI l λa1=>
Bp T.a44 a1 2 λl2=>
AQ 1 (
BG 2 (⟨none,0,0⟩,(0,())) λl3 n4=>
Ai (decide (n4<(AB l2))) (
.ex [.adr] (c1 λa5=>0<=n4/\n4<(AB l2)/\l2.a=some a5) (u1 λa6=>
.read True (ld T.a54 (Addr.add a6 (Int.toNat n4*3))) (sG [.int .i64,.int .i64,.slc]) (u3 λ(n7 n8:Int) l9=>
Ad T.a54 λa10=>
Ae T.a54 a10 (BK n7 n8 l9)<|
Bp T.a34 a10 2 λl11=>
AR (app T.a34 T.a34 T.a34 l3.v l11.v) λl12=>
Am 2 [l12.v,Aa (AF (n4+1))])))<|
Am 1 [l3.v]) λl13=>
Am 0 [l13.v]
theorem znk (l:Option Addr):FnS (z005 l) F.a175 #[.pointer l]:=dV ⟨[],[(0,[(3,.one .slc)])],[],[(0,[(3,.one .slc),(11,.one (.int .i64))])]⟩ Go.Proofs.Tryz.func65 (by kernel_rfl)
def zz6 (l:Option Addr):Prog :=
AO (Option.isNone l=false) l λa1=>
Bx (Option.isNone l=false) T.a39 a1 4 λl2=>
Ai (Option.isNone l || (AB l2) == 0) (
Am 0 [Aa 0])<|
An F.a114 [Ah l] λp3=>
Ax F.a128 [Ah p3] λn4=>
Ac n4 λn5=>
Am 0 [Aa n5]
theorem zm8 (l:Option Addr):FnS (zz6 l) F.a105 #[.pointer l]:=dV ⟨[],[],[],[]⟩ Go.Proofs.Tryz.func76 (by kernel_rfl)
def zz5 (l:Option Addr):Prog :=
AO (Option.isNone l=false) l λa1=>
Bx (Option.isNone l=false) T.a39 a1 4 λl2=>
Ai (Option.isNone l || (AB l2) == 0) (
Am 0 [Aa 0])<|
AI l λa4=>
Bp T.a39 a4 4 λl5=>
.ex [.adr] (c1 λa6=>(0:Int)<=0/\0<(AB l5)/\l5.a=some a6) (u1 λa7=>
AJ T.a28 a7 0 λp8=>
AI p8 λa10=>
Aq T.a13 a10 1 λn11=>
Ac n11 λn12=>
Am 0 [Aa n12])
theorem zm7 (l:Option Addr):FnS (zz5 l) F.a104 #[.pointer l]:=dV ⟨[],[],[],[]⟩ Go.Proofs.Tryz.func87 (by kernel_rfl)
def zzm (s:ByteArray):Prog :=
Ai (decide (((ByteArray.size s:Nat):Int)<1) || decide (((ByteArray.size s:Nat):Int)>8)) (
Am 0 [.bool false])<|
AR (convert T.a51 T.a46 (.string s)) λl0=>
Ay 1 (
AA 2 (0,()) λn1=>
Ai (decide (n1<(AB l0))) (
.ex [.adr] (c1 λa2=>0<=n1/\n1<(AB l0)/\l0.a=some a2) (u1 λa3=>
B3 T.a59 a3 (Int.toNat n1*1) λn4=>
B4 n4 λn5=>
Ai (not (decide (n5>=97) && decide (n5<=122) || decide (n5>=48) && decide (n5<=57))) (
Am 0 [.bool false])<|
Am 2 [Aa (AF (n1+1))]))<|
Am 1 [])<|
Am 0 [.bool true]
theorem zmo (s:ByteArray):FnS (zzm s) F.a122 #[.string s]:=dV ⟨[],[(0,[])],[],[(0,[(16,.one (.int .i64))])]⟩ Go.Proofs.Tryz.func95 (by kernel_rfl)
def zzq (c_0:Int) (c_1:Int):Prog :=
Ap T.a47 (Au c_0 c_1) λa0=>
Aq T.a12 a0 0 λn1=>
Ar (decide (n1>=64)=true) T.a12 a0 0 λn2=>
Ar ((decide (n1>=64) && decide (n2<=4194304))=true) T.a12 a0 1 λn3=>
Ar ((decide (n1>=64) && decide (n2<=4194304) && decide (n3>=1))=true) T.a12 a0 1 λn4=>
Al (decide (n1>=64) && decide (n2<=4194304) && decide (n3>=1) && decide (n4<=4194304)) λb5=>
Am 0 [.bool b5]
theorem zms (c_0 c_1:Int):FnS (zzq c_0 c_1) F.a126 #[.agg #[.int .i64 c_0,.int .i64 c_1]]:=dV ⟨[],[],[],[]⟩ Go.Proofs.Tryz.func96 (by kernel_rfl)
def zzd (l:Option Addr):Prog :=
AL<|
AI l λa1=>
AJ T.a23 a1 0 λp2=>
AI l λa4=>
AT T.a51 a4 1 λs5=>
.must (((ByteArray.size s5+1:Nat):Int)<=9223372036854775807) <|
Az F.a23 [Ah p2,.string (s5++(ByteArray.mk #[45]))] λl6=>
AN<|
AQ 1 (
BG 2 (⟨none,0,0⟩,(0,())) λl7 n8=>
Ai (decide (n8<(AB l6))) (
.ex [.adr] (c1 λa9=>0<=n8/\n8<(AB l6)/\l6.a=some a9) (u1 λa10=>
AT T.a51 a10 (Int.toNat n8*1) λs11=>
AU s11 λs12=>
B8 F.a110 [Ah l,.string s12,.string (ByteArray.mk #[46,108,111,103])] λn13 b14=>
Ac n13 λn15=>
Al b14 λb16=>
AQ 3 (
Ai b16 (
AR (Instr.buildSlice T.a37 1 #[(0,Aa n15)]) λl17=>
AR (app T.a37 T.a37 T.a37 l7.v l17.v) λl18=>
Am 3 [l18.v])<|
Am 3 [l7.v]) λl19=>
B8 F.a110 [Ah l,.string s12,.string (ByteArray.mk #[46,110,101,119])] λn20 b21=>
Ac n20 λn22=>
Al b21 λb23=>
Ay 3 (
Ai b23 (
AI l λa25=>
AJ T.a23 a25 0 λp26=>
Ax F.a25 [Ah p26,.string s12] λn27=>
Ac n27 λn28=>
Ai (n28 != 0) (
Ac n28 λn29=>
Am 0 [.slice none 0 0,Aa n29])<|
Am 3 [])<|
Am 3 [])<|
Am 2 [l19.v,Aa (AF (n8+1))]))<|
Am 1 [l7.v]) λl30=>
Am 0 [l30.v,Aa 0]
theorem zmf (l:Option Addr):FnS (zzd l) F.a112 #[.pointer l]:=dV ⟨[(1055531162730529,[(4,.one .slc)]),(73642861106770788396,[])],[(0,[(4,.one .slc)])],[],[(0,[(4,.one .slc),(23,.one (.int .i64))])]⟩ Go.Proofs.Tryz.func98 (by kernel_rfl)
def zzg (l:Option Addr) (base:Int) (end_:ByteArray):Prog :=
AR (Instr.makeSlice T.a46 (Aa 11) (Aa 11)) λl0=>
Ay 1 (
Br 2 (base,(10,())) λn1 n2=>
Ai (decide (n2>=0)) (
.must (0<=AF (((BitVec.toNat (BitVec.ofInt 64 n1 &&& BitVec.ofInt 64 15):Nat):Int))/\AF (((BitVec.toNat (BitVec.ofInt 64 n1 &&& BitVec.ofInt 64 15):Nat):Int))<16) <|
.ex [.adr] (c1 λa3=>0<=n2/\n2<(AB l0)/\l0.a=some a3) (u1 λa4=>
AV T.a59 a4 (Int.toNat n2*1) (.int .u8 (bt (ByteArray.mk #[48,49,50,51,52,53,54,55,56,57,97,98,99,100,101,102]) (AF (((BitVec.toNat (BitVec.ofInt 64 n1 &&& BitVec.ofInt 64 15):Nat):Int)))))<|
Ac (Int.fdiv n1 16) λn5=>
Ac (AF (n2-1)) λn6=>
Am 2 [Aa n5,Aa n6]))<|
Am 1 [])<|
AL<|
AI l λa8=>
AT T.a51 a8 1 λs9=>
.must (((ByteArray.size s9+1:Nat):Int)<=9223372036854775807) <|
.read True (convert T.a46 T.a51 l0.v) sS (u1 λs10=>
.must (((ByteArray.size (s9++(ByteArray.mk #[45]))+ByteArray.size s10:Nat):Int)<=9223372036854775807) <|
.must (((ByteArray.size (s9++(ByteArray.mk #[45])++s10)+ByteArray.size end_:Nat):Int)<=9223372036854775807) <|
AU (s9++(ByteArray.mk #[45])++s10++end_) λs11=>
AN<|
Am 0 [.string s11])
theorem zmi (l:Option Addr) (base:Int) (end_:ByteArray):FnS (zzg l base end_) F.a115 #[.pointer l,.int .i64 base,.string end_]:=dV ⟨[],[(0,[])],[],[(0,[(1,.one (.int .i64)),(8,.one (.int .i64))])]⟩ Go.Proofs.Tryz.func99 (by kernel_rfl)
def zzj (l:Option Addr) (base:Int):Prog :=
Aw F.a115 [Ah l,Aa base,.string (ByteArray.mk #[46,108,111,103])] λs0=>
AU s0 λs1=>
AI l λa3=>
AJ T.a23 a3 0 λp4=>
AK F.a24 [Ah p4,.string s1] λl5 n6=>
Ac n6 λn7=>
Ai (n7 != 0) (
Ac n7 λn8=>
Am 0 [.bool false,Aa n8])<|
BL F.a34 [l5.v] λl9 n10 b11=>
Ac n10 λn12=>
Al b11 λb13=>
.bind 1 [.one (.int .i64),.one .bool] (
Ai b13 (
B8 F.a124 [l9.v,Aa base] λn14 b15=>
Ac n14 λn16=>
Al b15 λb17=>
Am 1 [Aa n16,.bool b17])<|
Am 1 [Aa 0,.bool false]) (u2 λ(n18:Int) b19=>
Ai (not b19) (
AI l λa21=>
AJ T.a23 a21 0 λp22=>
Ax F.a25 [Ah p22,.string s1] λn23=>
Ac n23 λn24=>
Am 0 [.bool false,Aa n24])<|
An F.a119 [Ah l,Aa base,Aa n18] λp25=>
Ac base λn26=>
Bg 1 (
Br 2 (n12,(n26,())) λn27 n28=>
.must (0<=n27/\n27<=(AB l5)) <|
BL F.a34 [.slice (z1r l5.a 1 (Int.toNat n27) l5.cap) (l5.len-Int.toNat n27) (l5.cap-Int.toNat n27)] λl29 n30 b31=>
Ac n30 λn32=>
Al b31 λb33=>
Ai (not b33) (
Am 1 [Aa n27])<|
.call F.a85 [l29.v] (.tup [.agg [.int .i64,.int .i64,.int .i64,.int .i64,.int .i64,.int .i64,.slc],.one (.int .i64)]) (u8 λ(n34 n35 n36 n37 n38 n39:Int) l40 (n41:Int)=>
Ad T.a0 λa42=>
Ae T.a0 a42 (AD n34 n35 n36 n37 n38 n39 l40)<|
Ac n41 λn43=>
Ar ((n43 != 0)=false) T.a13 a42 0 λn44=>
Ai (n43 != 0 || decide (n44<n28)) (
Am 1 [Aa n27])<|
AE T.a0 a42 λn45 n46 n47 n48 n49 n50 l51=>
Ao F.a129 [Ah p25,AD n45 n46 n47 n48 n49 n50 l51,Aa n32]<|
AI p25 λa53=>
Aq T.a13 a53 3 λn54=>
Ac n54 λn55=>
Ac (AF (n27+n32)) λn56=>
Am 2 [Aa n56,Aa n55])) λn57=>
Ao F.a117 [Ah l,Ah p25]<|
Ai (n57 == (AB l5)) (
Am 0 [.bool true,Aa 0])<|
AI l λa59=>
AJ T.a23 a59 0 λp60=>
Ax F.a19 [Ah p60,.string s1,Aa n57] λn61=>
Ac n61 λn62=>
Am 0 [.bool false,Aa n62])
theorem zml (l:Option Addr) (base:Int):FnS (zzj l base) F.a118 #[.pointer l,.int .i64 base]:=dV ⟨[(2269814212245061674,[(12,.one (.int .i64)),(13,.one .bool)])],[(0,[(10,.one (.int .i64))])],[],[(0,[(10,.one (.int .i64)),(15,.one (.int .i64))])]⟩ Go.Proofs.Tryz.func100 (by kernel_rfl)
def zzc (l:Option Addr) (bases:Sl):Prog :=
Ay 1 (
AA 2 (0,()) λn0=>
Ai (decide (n0<(AB bases))) (
.ex [.adr] (c1 λa1=>0<=n0/\n0<(AB bases)/\bases.a=some a1) (u1 λa2=>
Aq T.a13 a2 (Int.toNat n0*1) λn3=>
Ac n3 λn4=>
Bg 3 (
AL<|
AI l λa6=>
AW T.a23 a6 0 λp7=>
Aw F.a115 [Ah l,Aa n4,.string (ByteArray.mk #[46,108,111,103])] λs8=>
AN<|
Ax F.a25 [Ah p7,.string s8] λn9=>
Ac n9 λn10=>
AN<|
Am 3 [Aa n10]) λn11=>
Ai (n11 != 0) (
Ac n11 λn12=>
Am 0 [Aa n12])<|
Am 2 [Aa (AF (n0+1))]))<|
Am 1 [])<|
Am 0 [Aa 0]
theorem zme (l:Option Addr) (bases:Sl):FnS (zzc l bases) F.a111 #[.pointer l,.slice bases.a bases.len bases.cap]:=dV ⟨[],[(0,[])],[(4,[(7,.one (.int .i64))])],[(0,[(10,.one (.int .i64))])]⟩ Go.Proofs.Tryz.func101 (by kernel_rfl)
def z058 (b:Sl):Prog :=
BL F.a34 [b.v] λl0 n1 b2=>
Ac n1 λn3=>
Al b2 λb4=>
Ai (not b4 || n3 != (AB b)) (
Am 0 [.slice none 0 0,.bool false])<|
Am 0 [l0.v,.bool true]
theorem zsj (b:Sl):FnS (z058 b) F.a36 #[.slice b.a b.len b.cap]:=dV ⟨[],[],[],[]⟩ Go.Proofs.Tryz.func107 (by kernel_rfl)
def z00g (b:Sl):Prog :=
Az F.a0 [b.v] λl0=>
Ap T.a61 (.agg #[l0.v,Aa 0,Aa 0]) λa1=>
Am 0 [Av a1]
theorem znv (b:Sl):FnS (z00g b) F.a189 #[.slice b.a b.len b.cap]:=dV ⟨[],[],[],[]⟩ Go.Proofs.Tryz.func108 (by kernel_rfl)
def z00n (r:Option Addr):Prog :=
Ak F.a198 [Ah r] λb0=>
Ai (not b0) (
Am 0 [.int .u64 0])<|
AI r λa2=>
AY F.a204 [B1 a2 0] λn3=>
AZ n3 λn4=>
Am 0 [.int .u64 n4]
theorem zo2 (r:Option Addr):FnS (z00n r) F.a196 #[.pointer r]:=dV ⟨[],[],[],[]⟩ Go.Proofs.Tryz.func109 (by kernel_rfl)
def z00m (r:Option Addr) (most:Int):Prog :=
Ak F.a198 [Ah r] λb0=>
Ai (not b0) (
Am 0 [.string (ByteArray.mk #[])])<|
AI r λa2=>
Aq T.a12 (Addr.add a2 0) 1 λn3=>
Ac n3 λn4=>
AI r λa6=>
AY F.a204 [B1 a6 0] λn7=>
AZ n7 λn8=>
AI r λa10=>
Aq T.a1 (Addr.add a10 0) 2 λn11=>
Al (n11 != 0) λb12=>
Ay 1 (
Ai b12 (
Am 1 [])<|
Al (decide (n8>IntKind.wrap .u64 (if 0>most then 0 else most))) λb13=>
Ay 2 (
Ai b13 (
AI r λa15=>
Ao F.a201 [B1 a15 0,Aa 7]<|
Am 2 [])<|
AI r λa17=>
Ax F.a202 [B1 a17 0] λn18=>
AH (decide (n8>IntKind.wrap .u64 n18)) (
AI r λa21=>
Ao F.a201 [B1 a21 0,Aa 6]<|
Am 2 [])<|
AI r λa23=>
Az F.a203 [B1 a23 0,Aa (AF n8)] λl24=>
.read True (convert T.a46 T.a51 l24.v) sS (u1 λs25=>
AU s25 λs26=>
Am 0 [.string s26]))<|
Am 1 [])<|
AI r λa28=>
AV T.a12 (Addr.add a28 0) 1 (Aa n4)<|
Am 0 [.string (ByteArray.mk #[])]
theorem zo1 (r:Option Addr) (most:Int):FnS (z00m r most) F.a195 #[.pointer r,.int .i64 most]:=dV ⟨[(147571701062593216545,[]),(147573917678034812954,[])],[],[],[]⟩ Go.Proofs.Tryz.func110 (by kernel_rfl)
def z00i (r:Option Addr):Prog :=
Ai (Option.isNone r) (
Am 0 [Aa 1])<|
AI r λa1=>
Ax F.a202 [B1 a1 0] λn2=>
Ay 1 (
Ai (decide (n2>0)) (
AI r λa4=>
Ao F.a201 [B1 a4 0,Aa 6]<|
Am 1 [])<|
Am 1 [])<|
AI r λa6=>
Aq T.a1 (Addr.add a6 0) 2 λn7=>
Ac n7 λn8=>
Am 0 [Aa n8]
theorem znx (r:Option Addr):FnS (z00i r) F.a191 #[.pointer r]:=dV ⟨[(62914569,[])],[],[],[]⟩ Go.Proofs.Tryz.func111 (by kernel_rfl)
def zrv (l:Option Addr) (bs:Sl):Prog :=
Ai (Option.isNone l) (
Am 0 [Aa 0,Aa 1])<|
Ai ((AB bs) == 0) (
Am 0 [Aa 0,Aa 3])<|
.call F.a116 [Ah l,bs.v] (.tup [.one .slc,.one .slc,.one (.int .i64)]) (u3 λl0 l1 (n2:Int)=>
Ac n2 λn3=>
Ai (n3 != 0) (
Ac n3 λn4=>
Am 0 [Aa 0,Aa n4])<|
Bg 1 (
Br 2 (0,(0,())) λn5 n6=>
Ai (decide (n6<(AB l1))) (
.ex [.adr] (c1 λa7=>0<=n6/\n6<(AB l1)/\l1.a=some a7) (u1 λa8=>
Bp T.a46 a8 (Int.toNat n6*1) λl9=>
Ac (AF (n5+(AB l9))) λn10=>
Am 2 [Aa n10,Aa (AF (n6+1))]))<|
Am 1 [Aa n5]) λn11=>
An F.a114 [Ah l] λp12=>
Ak F.a113 [Ah l,Aa n11] λb13=>
.bind 1 [.one .ptr] (
Ai (not b13) (
Ax F.a109 [Ah l] λn14=>
Ac n14 λn15=>
Ai (n15 != 0) (
Ac n15 λn16=>
Am 0 [Aa 0,Aa n16])<|
Ax F.a105 [Ah l] λn17=>
An F.a119 [Ah l,Aa n17,Aa 0] λp18=>
Bg 2 (
AL<|
AI l λa20=>
AW T.a23 a20 0 λp21=>
AI p18 λa23=>
Aq T.a13 a23 1 λn24=>
AI p18 λa26=>
Bj T.a13 a26 1 λn27=>
Aw F.a115 [Ah l,Aa n24,.string (ByteArray.mk #[46,108,111,103])] λs28=>
Az F.a123 [Aa n27,Aa 0] λl29=>
AR (Instr.buildSlice T.a41 1 #[(0,l29.v)]) λl30=>
AR (app T.a41 T.a41 T.a41 l30.v l1.v) λl31=>
AN<|
Ax F.a18 [Ah p21,.string s28,l31.v] λn32=>
Ac n32 λn33=>
AN<|
Am 2 [Aa n33]) λn34=>
Ai (n34 != 0) (
Ac n34 λn35=>
Am 0 [Aa 0,Aa n35])<|
Ao F.a117 [Ah l,Ah p18]<|
Am 1 [Ah p18])<|
Bg 2 (
AL<|
AI l λa37=>
AW T.a23 a37 0 λp38=>
AI p12 λa40=>
Aq T.a13 a40 1 λn41=>
Aw F.a115 [Ah l,Aa n41,.string (ByteArray.mk #[46,108,111,103])] λs42=>
AN<|
Ax F.a18 [Ah p38,.string s42,l1.v] λn43=>
Ac n43 λn44=>
AN<|
Am 2 [Aa n44]) λn45=>
Ai (n45 != 0) (
Ac n45 λn46=>
Am 0 [Aa 0,Aa n46])<|
Am 1 [Ah p12]) (u1 λp47=>
Ay 1 (
AA 2 (0,()) λn48=>
Ai (decide (n48<(AB l0))) (
.ex [.adr] (c1 λa49=>0<=n48/\n48<(AB l0)/\l0.a=some a49) (u1 λa50=>
AC T.a0 a50 (Int.toNat n48*7) λn51 n52 n53 n54 n55 n56 l57=>
Ad T.a0 λa58=>
Ac n48 λn59=>
Ae T.a0 a58 (AD n51 n52 n53 n54 n55 n56 l57)<|
AL<|
AE T.a0 a58 λn60 n61 n62 n63 n64 n65 l66=>
.ex [.adr] (c1 λa67=>0<=n59/\n59<(AB l1)/\l1.a=some a67) (u1 λa68=>
Bp T.a46 a68 (Int.toNat n59*1) λl69=>
Ao F.a129 [Ah p47,AD n60 n61 n62 n63 n64 n65 l66,Aa (AB l69)]<|
AN<|
Am 2 [Aa (AF (n48+1))])))<|
Am 1 [])<|
.ex [.adr] (c1 λa70=>(0:Int)<=0/\0<(AB l0)/\l0.a=some a70) (u1 λa71=>
Aq T.a13 (Addr.add a71 0) 0 λn72=>
Ac n72 λn73=>
Am 0 [Aa n73,Aa 0])))
theorem zdr (l:Option Addr) (bs:Sl):FnS (zrv l bs) F.a103 #[.pointer l,.slice bs.a bs.len bs.cap]:=dV ⟨[(2596148429267409202579229989077041,[(12,.one .ptr)])],[(0,[(9,.one (.int .i64))]),(2,[])],[(20,[(14,.one (.int .i64))]),(24,[(15,.one (.int .i64))])],[(0,[(9,.one (.int .i64)),(35,.one (.int .i64))]),(2,[(101,.one (.int .i64))])]⟩ Go.Proofs.Tryz.func118 (by kernel_rfl)
def zza (l:Option Addr):Prog :=
Ai (Option.isNone l) (
Am 0 [Aa 1])<|
An F.a114 [Ah l] λp0=>
Ai (not (Option.isNone p0)) (
Bg 1 (
AL<|
AI l λa2=>
AW T.a23 a2 0 λp3=>
AI p0 λa5=>
Aq T.a13 a5 1 λn6=>
Aw F.a115 [Ah l,Aa n6,.string (ByteArray.mk #[46,108,111,103])] λs7=>
AR (Instr.buildSlice T.a42 1 #[(0,.string s7)]) λl8=>
AN<|
Ax F.a27 [Ah p3,l8.v] λn9=>
Ac n9 λn10=>
AN<|
Am 1 [Aa n10]) λn11=>
Am 0 [Aa n11])<|
Am 0 [Aa 0]
theorem zmc (l:Option Addr):FnS (zza l) F.a109 #[.pointer l]:=dV ⟨[],[],[(5,[(2,.one (.int .i64))])],[]⟩ Go.Proofs.Tryz.func119 (by kernel_rfl)
def z067 (b_0 b_1 b_2 b_3 b_4 b_5:Int) (b_6:Sl):Prog :=
Ap T.a0 (AD b_0 b_1 b_2 b_3 b_4 b_5 b_6) λa0=>
Ad T.a0 λa1=>
Bp T.a35 a0 6 λl2=>
AR (app T.a35 T.a35 T.a35 (.slice none 0 0) l2.v) λl3=>
AV T.a35 a0 6 l3.v<|
AE T.a0 a0 λn4 n5 n6 n7 n8 n9 l10=>
Ae T.a0 a1 (AD n4 n5 n6 n7 n8 n9 l10)<|
AE T.a0 a1 λn11 n12 n13 n14 n15 n16 l17=>
Am 0 [AD n11 n12 n13 n14 n15 n16 l17]
theorem ztk (b_0 b_1 b_2 b_3 b_4 b_5:Int) (b_6:Sl):FnS (z067 b_0 b_1 b_2 b_3 b_4 b_5 b_6) F.a84 #[.agg #[.int .i64 b_0,.int .i64 b_1,.int .i64 b_2,.int .i64 b_3,.int .i64 b_4,.int .i64 b_5,.slice b_6.a b_6.len b_6.cap]]:=dV ⟨[],[],[],[]⟩ Go.Proofs.Tryz.func120 (by kernel_rfl)
def zz8 (i:Int) (fv0:Option Addr) (fv1:Option Addr):Prog :=
AL<|
B2 (Instr.loadAt T.a27 (Ah fv0)) λp0=>
AI p0 λa2=>
Bp T.a39 a2 4 λl3=>
.ex [.adr] (c1 λa4=>0<=i/\i<(AB l3)/\l3.a=some a4) (u1 λa5=>
AJ T.a28 a5 (Int.toNat i*1) λp6=>
AI p6 λa8=>
Aq T.a13 a8 1 λn9=>
BM T.a13 fv1 λn10=>
Al (decide (n9>n10)) λb11=>
AN<|
Am 0 [.bool b11])
theorem zma (i:Int) (fv0 fv1:Option Addr):FnS (zz8 i fv0 fv1) F.a107 #[.int .i64 i,.pointer fv0,.pointer fv1]:=dV ⟨[],[],[],[]⟩ Go.Proofs.Tryz.func122 (by kernel_rfl)
def zzl (l s:Option Addr) (place:Int) (told:Value):Prog :=
AQ 1 (
AL<|
AI l λa1=>
AW T.a23 a1 0 λp2=>
AI s λa4=>
Aq T.a13 a4 1 λn5=>
Aw F.a115 [Ah l,Aa n5,.string (ByteArray.mk #[46,108,111,103])] λs6=>
AN<|
AK F.a24 [Ah p2,.string s6] λl7 n8=>
Ac n8 λn9=>
AN<|
Am 1 [l7.v]) λl10=>
Ac place λn11=>
Ay 1 (
AA 2 (n11,()) λn12=>
AO (decide (n12<(AB l10))=true) s λa14=>
Ar (decide (n12<(AB l10))=true) T.a12 a14 5 λn15=>
Ai (decide (n12<(AB l10)) && decide (n12<n15)) (
.must (0<=n12/\n12<=(AB l10)) <|
BL F.a34 [.slice (z1r l10.a 1 (Int.toNat n12) l10.cap) (l10.len-Int.toNat n12) (l10.cap-Int.toNat n12)] λl16 n17 b18=>
Ac n17 λn19=>
Al b18 λb20=>
Ai (not b20) (
Am 0 [.bool true])<|
.call F.a85 [l16.v] (.tup [.agg [.int .i64,.int .i64,.int .i64,.int .i64,.int .i64,.int .i64,.slc],.one (.int .i64)]) (u8 λ(n21 n22 n23 n24 n25 n26:Int) l27 (n28:Int)=>
Ad T.a0 λa29=>
Ae T.a0 a29 (AD n21 n22 n23 n24 n25 n26 l27)<|
Ac n28 λn30=>
Aj 3 (
AP ((n30 != 0)=false) T.a0 a29 λn31 n32 n33 n34 n35 n36 l37=>
Ai (n30 != 0) (
Am 3 [.bool true])<|
.callv (told) [AD n31 n32 n33 n34 n35 n36 l37] sB (u1 λb38=>
Am 3 [.bool (not b38)])) λb39=>
Ai b39 (
Am 0 [.bool false])<|
Ac (AF (n12+n19)) λn40=>
Am 2 [Aa n40]))<|
Am 1 [])<|
Am 0 [.bool true]
theorem zmn (l s:Option Addr) (place:Int) (told:Value) {w:World} {R:List Value->World->Prop} (h:(zzl l s place told).wp P (λ_=>True) w λe vs w'=>e=0/\R vs w'):Ret P F.a120 #[.pointer l,.pointer s,.int .i64 place,told] w R:=dS (n:=70) (rv:=[.tmp 8]) { cnd:=[],blk:=[(0,[])],reg:=[(1,[(9,.one .slc)]),(8,[(66,.one .bool)])],lps:=[(0,[(11,.one (.int .i64))])] } [.val (.pointer l),.val (.pointer s),.val (.int .i64 place),.any told] Go.Proofs.Tryz.func123 (by kernel_rfl) (by kernel_rfl) (by kernel_rfl) (by kernel_rfl) h
def zzr (s:Option Addr) (offset:Int):Prog :=
AI s λa1=>
AJ T.a25 a1 0 λp2=>
.call F.a41 [Ah p2,Aa offset] (.tup [.agg [.int .i64,.int .i64,.int .i64],.one .bool]) (u4 λ(n3 n4 n5:Int) b6=>
Ad T.a9 λa7=>
Ae T.a9 a7 (Af n3 n4 n5)<|
AH b6 (
Aq T.a12 a7 1 λn9=>
Ac n9 λn10=>
Am 0 [Aa n10])<|
AL<|
AI s λa12=>
Aq T.a13 a12 1 λn13=>
AI s λa15=>
Aq T.a13 a15 2 λn16=>
Az F.a123 [Aa n13,Aa n16] λl17=>
Ac (AB l17) λn18=>
AN<|
Am 0 [Aa n18])
theorem zmt (s:Option Addr) (offset:Int):FnS (zzr s offset) F.a127 #[.pointer s,.int .i64 offset]:=dV ⟨[],[],[],[]⟩ Go.Proofs.Tryz.func124 (by kernel_rfl)
def zz9 (b_0 b_1 b_2 b_3 b_4 b_5:Int) (b_6:Sl) (fv0 fv1:Option Addr) (fv2:Option Addr):Prog :=
Ap T.a0 (AD b_0 b_1 b_2 b_3 b_4 b_5 b_6) λa0=>
AE T.a0 a0 λn1 n2 n3 n4 n5 n6 l7=>
BM T.a13 fv0 λn8=>
.call F.a88 [AD n1 n2 n3 n4 n5 n6 l7,Aa n8] (.tup [.agg [.int .i64,.int .i64,.int .i64,.int .i64,.int .i64,.int .i64,.slc],.one .bool]) (u8 λ(n9 n10 n11 n12 n13 n14:Int) l15 b16=>
Ad T.a0 λa17=>
Ae T.a0 a17 (AD n9 n10 n11 n12 n13 n14 l15)<|
Al b16 λb18=>
Ay 1 (
Ai b18 (
BF (Instr.loadAt T.a34 (Ah fv1)) λl19=>
AE T.a0 a17 λn20 n21 n22 n23 n24 n25 l26=>
AR (Instr.buildSlice T.a34 1 #[(0,AD n20 n21 n22 n23 n24 n25 l26)]) λl27=>
AR (app T.a34 T.a34 T.a34 l19.v l27.v) λl28=>
Bv (Instr.storeAt T.a34 (Ah fv1) l28.v)<|
Am 1 [])<|
Am 1 [])<|
BF (Instr.loadAt T.a34 (Ah fv1)) λl29=>
BM T.a12 fv2 λn30=>
Al (decide ((AB l29)<n30)) λb31=>
Am 0 [.bool b31])
theorem zmb (b_0 b_1 b_2 b_3 b_4 b_5:Int) (b_6:Sl) (fv0 fv1 fv2:Option Addr):FnS (zz9 b_0 b_1 b_2 b_3 b_4 b_5 b_6 fv0 fv1 fv2) F.a108 #[.agg #[.int .i64 b_0,.int .i64 b_1,.int .i64 b_2,.int .i64 b_3,.int .i64 b_4,.int .i64 b_5,.slice b_6.a b_6.len b_6.cap],.pointer fv0,.pointer fv1,.pointer fv2]:=dV ⟨[(2013265934,[])],[],[],[]⟩ Go.Proofs.Tryz.func125 (by kernel_rfl)
def z06b (b_0 b_1 b_2 b_3 b_4 b_5:Int) (b_6:Sl) (offset:Int):Prog :=
Ap T.a0 (AD b_0 b_1 b_2 b_3 b_4 b_5 b_6) λa0=>
Ad T.a0 λa1=>
Aj 1 (
AE T.a0 a0 λn2 n3 n4 n5 n6 n7 l8=>
Ax F.a92 [AD n2 n3 n4 n5 n6 n7 l8] λn9=>
AP ((n9 != 0)=false) T.a0 a0 λn10 n11 n12 n13 n14 n15 l16=>
Ai (n9 != 0) (
Am 1 [.bool true])<|
Ax F.a90 [AD n10 n11 n12 n13 n14 n15 l16] λn17=>
Al (decide (offset>=n17)) λb18=>
Am 1 [.bool b18]) λb19=>
Ai b19 (
Ae T.a0 a1 (.agg #[Aa 0,Aa 0,Aa 0,Aa 0,Aa 0,Aa 0,.slice none 0 0])<|
AE T.a0 a1 λn20 n21 n22 n23 n24 n25 l26=>
Am 0 [AD n20 n21 n22 n23 n24 n25 l26,.bool false])<|
AE T.a0 a0 λn27 n28 n29 n30 n31 n32 l33=>
Ak F.a95 [AD n27 n28 n29 n30 n31 n32 l33] λb34=>
Ar (b34=false) T.a13 a0 0 λn35=>
AH (b34 || decide (offset<=n35)) (
AE T.a0 a0 λn37 n38 n39 n40 n41 n42 l43=>
AG F.a84 [AD n37 n38 n39 n40 n41 n42 l43] λn44 n45 n46 n47 n48 n49 l50=>
Ae T.a0 a1 (AD n44 n45 n46 n47 n48 n49 l50)<|
AE T.a0 a1 λn51 n52 n53 n54 n55 n56 l57=>
Am 0 [AD n51 n52 n53 n54 n55 n56 l57,.bool true])<|
AE T.a0 a0 λn58 n59 n60 n61 n62 n63 l64=>
Aq T.a13 a0 0 λn65=>
Bp T.a35 a0 6 λl66=>
AG F.a97 [AD n58 n59 n60 n61 n62 n63 l64,Aa (AF (offset-n65)),Aa (AB l66)] λn67 n68 n69 n70 n71 n72 l73=>
Ae T.a0 a1 (AD n67 n68 n69 n70 n71 n72 l73)<|
AE T.a0 a1 λn74 n75 n76 n77 n78 n79 l80=>
Am 0 [AD n74 n75 n76 n77 n78 n79 l80,.bool true]
theorem zto (b_0 b_1 b_2 b_3 b_4 b_5:Int) (b_6:Sl) (offset:Int):FnS (z06b b_0 b_1 b_2 b_3 b_4 b_5 b_6 offset) F.a88 #[.agg #[.int .i64 b_0,.int .i64 b_1,.int .i64 b_2,.int .i64 b_3,.int .i64 b_4,.int .i64 b_5,.slice b_6.a b_6.len b_6.cap],.int .i64 offset]:=dV ⟨[],[],[(1,[(6,.one .bool)])],[]⟩ Go.Proofs.Tryz.func126 (by kernel_rfl)
def zyx (b_0 b_1 b_2 b_3 b_4 b_5:Int) (b_6:Sl):Prog :=
Ap T.a0 (AD b_0 b_1 b_2 b_3 b_4 b_5 b_6) λa0=>
Aq T.a12 a0 4 λn1=>
Ar ((n1 == 2)=false) T.a12 a0 4 λn2=>
Al (n1 == 2 || n2 == 3) λb3=>
Am 0 [.bool b3]
theorem zlz (b_0 b_1 b_2 b_3 b_4 b_5:Int) (b_6:Sl):FnS (zyx b_0 b_1 b_2 b_3 b_4 b_5 b_6) F.a95 #[.agg #[.int .i64 b_0,.int .i64 b_1,.int .i64 b_2,.int .i64 b_3,.int .i64 b_4,.int .i64 b_5,.slice b_6.a b_6.len b_6.cap]]:=dV ⟨[],[],[],[]⟩ Go.Proofs.Tryz.func128 (by kernel_rfl)
def z06f (b_0 b_1 b_2 b_3 b_4 b_5:Int) (b_6:Sl):Prog :=
Ap T.a0 (AD b_0 b_1 b_2 b_3 b_4 b_5 b_6) λa0=>
Aj 1 (
AE T.a0 a0 λn1 n2 n3 n4 n5 n6 l7=>
Ak F.a96 [AD n1 n2 n3 n4 n5 n6 l7] λb8=>
AP (not b8=false) T.a0 a0 λn9 n10 n11 n12 n13 n14 l15=>
Ai (not b8) (
Am 1 [.bool true])<|
Ak F.a94 [AD n9 n10 n11 n12 n13 n14 l15] λb16=>
Al (not b16) λb17=>
Am 1 [.bool b17]) λb18=>
Ai b18 (
Am 0 [Aa 2])<|
Bp T.a35 a0 6 λl19=>
AH (decide ((AB l19)>64)) (
Am 0 [Aa 7])<|
Bp T.a35 a0 6 λl21=>
Ay 1 (
AA 2 (0,()) λn22=>
Ai (decide (n22<(AB l21))) (
.ex [.adr] (c1 λa23=>0<=n22/\n22<(AB l21)/\l21.a=some a23) (u1 λa24=>
BH T.a2 a24 (Int.toNat n22*4) λs25 s26 b27 n28=>
Ad T.a2 λa29=>
Ae T.a2 a29 (BI s25 s26 b27 n28)<|
BJ T.a2 a29 λs30 s31 b32 n33=>
Ax F.a99 [BI s30 s31 b32 n33] λn34=>
Ac n34 λn35=>
Ai (n35 != 0) (
Ac n35 λn36=>
Am 0 [Aa n36])<|
Am 2 [Aa (AF (n22+1))]))<|
Am 1 [])<|
AE T.a0 a0 λn37 n38 n39 n40 n41 n42 l43=>
Ax F.a91 [AD n37 n38 n39 n40 n41 n42 l43] λn44=>
Ac (AF (n44-1)) λn45=>
Aj 1 (
Aq T.a13 a0 0 λn46=>
Ar (decide (n46>AF (1099511627776-n45))=false) T.a13 a0 1 λn47=>
AP (decide (n46>AF (1099511627776-n45))=false/\decide (n47>0)=true) T.a0 a0 λn48 n49 n50 n51 n52 n53 l54=>
Ai (decide (n46>AF (1099511627776-n45))) (
Am 1 [.bool true])<|
Ai (decide (n47>0)) (
Ak F.a95 [AD n48 n49 n50 n51 n52 n53 l54] λb55=>
Ar (not b55=true) T.a12 a0 3 λn56=>
Am 1 [.bool (not b55 && decide (n56>AF (2147483647-n45)))])<|
Am 1 [.bool false]) λb57=>
Ai b57 (
Am 0 [Aa 24])<|
Am 0 [Aa 0]
theorem zts (b_0 b_1 b_2 b_3 b_4 b_5:Int) (b_6:Sl):FnS (z06f b_0 b_1 b_2 b_3 b_4 b_5 b_6) F.a92 #[.agg #[.int .i64 b_0,.int .i64 b_1,.int .i64 b_2,.int .i64 b_3,.int .i64 b_4,.int .i64 b_5,.slice b_6.a b_6.len b_6.cap]]:=dV ⟨[],[(1,[])],[(1,[(7,.one .bool)]),(13,[(58,.one .bool)])],[(1,[(24,.one (.int .i64))])]⟩ Go.Proofs.Tryz.func129 (by kernel_rfl)
def z06e (b_0 b_1 b_2 b_3 b_4 b_5:Int) (b_6:Sl):Prog :=
Ap T.a0 (AD b_0 b_1 b_2 b_3 b_4 b_5 b_6) λa0=>
AE T.a0 a0 λn1 n2 n3 n4 n5 n6 l7=>
Ak F.a95 [AD n1 n2 n3 n4 n5 n6 l7] λb8=>
Ai b8 (
Am 0 [Aa 1])<|
Bp T.a35 a0 6 λl9=>
Ac (AB l9) λn10=>
Am 0 [Aa n10]
theorem ztr (b_0 b_1 b_2 b_3 b_4 b_5:Int) (b_6:Sl):FnS (z06e b_0 b_1 b_2 b_3 b_4 b_5 b_6) F.a91 #[.agg #[.int .i64 b_0,.int .i64 b_1,.int .i64 b_2,.int .i64 b_3,.int .i64 b_4,.int .i64 b_5,.slice b_6.a b_6.len b_6.cap]]:=dV ⟨[],[],[],[]⟩ Go.Proofs.Tryz.func130 (by kernel_rfl)
def z009 (s_0 s_1:Int) (s_2:Sl):Prog :=
Ap T.a54 (BK s_0 s_1 s_2) λa0=>
Aq T.a13 a0 0 λn1=>
Ac n1 λn2=>
Aq T.a13 a0 1 λn3=>
Bg 1 (
Ai (decide (n3>n2)) (
Aq T.a13 a0 1 λn4=>
Ac n4 λn5=>
Am 1 [Aa n5])<|
Am 1 [Aa n2]) λn6=>
Bp T.a34 a0 2 λl7=>
Bg 1 (
Ai (decide ((AB l7)>0)) (
Bp T.a34 a0 2 λl8=>
Bp T.a34 a0 2 λl9=>
.ex [.adr] (c1 λa10=>0<=AF ((AB l9)-1)/\AF ((AB l9)-1)<(AB l8)/\l8.a=some a10) (u1 λa11=>
AC T.a0 a11 (Int.toNat (AF ((AB l9)-1))*7) λn12 n13 n14 n15 n16 n17 l18=>
Ad T.a0 λa19=>
Ae T.a0 a19 (AD n12 n13 n14 n15 n16 n17 l18)<|
AL<|
Bj T.a13 a19 0 λn20=>
AE T.a0 a19 λn21 n22 n23 n24 n25 n26 l27=>
Ax F.a172 [AD n21 n22 n23 n24 n25 n26 l27] λn28=>
AN<|
Bg 2 (
Ai (decide (AF (n20+n28)>n6)) (
AL<|
Bj T.a13 a19 0 λn29=>
AE T.a0 a19 λn30 n31 n32 n33 n34 n35 l36=>
Ax F.a172 [AD n30 n31 n32 n33 n34 n35 l36] λn37=>
Ac (AF (n29+n37)) λn38=>
AN<|
Am 2 [Aa n38])<|
Am 2 [Aa n6]) λn39=>
Am 1 [Aa n39]))<|
Am 1 [Aa n6]) λn40=>
Ac n40 λn41=>
Am 0 [Aa n41]
theorem zno (s_0 s_1:Int) (s_2:Sl):FnS (z009 s_0 s_1 s_2) F.a179 #[.agg #[.int .i64 s_0,.int .i64 s_1,.slice s_2.a s_2.len s_2.cap]]:=dV ⟨[(25198602,[(3,.one (.int .i64))]),(545357767409695,[(3,.one (.int .i64))]),(562949416648720,[(3,.one (.int .i64))])],[],[],[]⟩ Go.Proofs.Tryz.func135 (by kernel_rfl)
def z083 (b_0 b_1 b_2 b_3 b_4 b_5:Int) (b_6:Sl):Prog :=
Ap T.a0 (AD b_0 b_1 b_2 b_3 b_4 b_5 b_6) λa0=>
Aj 1 (
Aq T.a12 a0 4 λn1=>
Ak F.a174 [Aa n1,Aa 0,Aa 3] λb2=>
Ar (b2=false) T.a13 a0 0 λn3=>
Ai b2 (
Am 1 [.bool true])<|
Ak F.a174 [Aa n3,Aa 0,Aa 1099511627776] λb4=>
Ar (b4=false) T.a13 a0 1 λn5=>
Ai b4 (
Am 1 [.bool true])<|
Ak F.a174 [Aa n5,Aa 0,Aa 1048576] λb6=>
Ar (b6=false) T.a12 a0 2 λn7=>
Ai b6 (
Am 1 [.bool true])<|
Ak F.a174 [Aa n7,Aa 0,Aa 32767] λb8=>
Ar (b8=false) T.a12 a0 3 λn9=>
Ai b8 (
Am 1 [.bool true])<|
Ak F.a174 [Aa n9,Aa 0,Aa 2147483647] λb10=>
Ar (b10=false) T.a13 a0 5 λn11=>
Ai b10 (
Am 1 [.bool true])<|
Ak F.a174 [Aa n11,Aa 0,Aa 1099511627776] λb12=>
Am 1 [.bool b12]) λb13=>
Ai b13 (
Am 0 [Aa 2])<|
Aq T.a13 a0 1 λn14=>
Ar ((n14 == 0)=true) T.a12 a0 4 λn15=>
Ar ((n14 == 0)=true/\(n15 != 0)=false) T.a12 a0 2 λn16=>
Ar ((n14 == 0)=true/\(n15 != 0 || n16 != 0)=false) T.a12 a0 3 λn17=>
Ai (n14 == 0 && (n15 != 0 || n16 != 0 || n17 != 0)) (
Am 0 [Aa 2])<|
Aj 1 (
AL<|
AE T.a0 a0 λn18 n19 n20 n21 n22 n23 l24=>
BN T.a35 a0 6 λl25=>
Ak F.a168 [AD n18 n19 n20 n21 n22 n23 l24] λb26=>
AP (not (b26 == ((AB l25) == 0))=false) T.a0 a0 λn27 n28 n29 n30 n31 n32 l33=>
AN<|
Ai (not (b26 == ((AB l25) == 0))) (
AN<|
Am 1 [.bool true])<|
Ak F.a168 [AD n27 n28 n29 n30 n31 n32 l33] λb34=>
Ar (b34=true) T.a12 a0 3 λn35=>
AN<|
Am 1 [.bool (b34 && n35 != 0)]) λb36=>
Ai b36 (
Am 0 [Aa 2])<|
Bp T.a35 a0 6 λl37=>
Ai (decide ((AB l37)>64)) (
Am 0 [Aa 7])<|
Bp T.a35 a0 6 λl38=>
Ay 1 (
AA 2 (0,()) λn39=>
Ai (decide (n39<(AB l38))) (
.ex [.adr] (c1 λa40=>0<=n39/\n39<(AB l38)/\l38.a=some a40) (u1 λa41=>
BH T.a2 a41 (Int.toNat n39*4) λs42 s43 b44 n45=>
Ad T.a2 λa46=>
Ae T.a2 a46 (BI s42 s43 b44 n45)<|
AT T.a51 a46 0 λs47=>
B7 (decide (((ByteArray.size s47:Nat):Int)>1024)=false) T.a51 a46 1 λs48=>
Ai (decide (((ByteArray.size s47:Nat):Int)>1024) || decide (((ByteArray.size s48:Nat):Int)>1024)) (
Am 0 [Aa 7])<|
Aq T.a13 a46 3 λn49=>
Ak F.a174 [Aa n49,Aa 0,Aa 1099511627776] λb50=>
Bc (b50=false) T.a3 a46 2 λb51=>
B7 (b50=false/\b51=true) T.a51 a46 1 λs52=>
Ai (b50 || b51 && decide (((ByteArray.size s52:Nat):Int)>0)) (
Am 0 [Aa 2])<|
Am 2 [Aa (AF (n39+1))]))<|
Am 1 [])<|
AL<|
Bj T.a13 a0 0 λn53=>
AE T.a0 a0 λn54 n55 n56 n57 n58 n59 l60=>
Ax F.a172 [AD n54 n55 n56 n57 n58 n59 l60] λn61=>
AN<|
Ai (decide (AF (AF (n53+n61)-1)>1099511627776)) (
Am 0 [Aa 24])<|
Aj 1 (
Aq T.a13 a0 1 λn62=>
AP (decide (n62>0)=true) T.a0 a0 λn63 n64 n65 n66 n67 n68 l69=>
Ai (decide (n62>0)) (
Ak F.a168 [AD n63 n64 n65 n66 n67 n68 l69] λb70=>
Ar (not b70=true) T.a12 a0 3 λn71=>
Bx (not b70=true) T.a35 a0 6 λl72=>
Am 1 [.bool (not b70 && decide (AF (AF (n71+(AB l72))-1)>2147483647))])<|
Am 1 [.bool false]) λb73=>
Ai b73 (
Am 0 [Aa 24])<|
Am 0 [Aa 0]
def z004 (b_0 b_1 b_2 b_3 b_4 b_5:Int) (b_6:Sl):Prog :=
Ap T.a0 (AD b_0 b_1 b_2 b_3 b_4 b_5 b_6) λa0=>
AE T.a0 a0 λn1 n2 n3 n4 n5 n6 l7=>
Ak F.a168 [AD n1 n2 n3 n4 n5 n6 l7] λb8=>
Ai b8 (
Am 0 [Aa 1])<|
Bp T.a35 a0 6 λl9=>
Ac (AB l9) λn10=>
Am 0 [Aa n10]
theorem znj (b_0 b_1 b_2 b_3 b_4 b_5:Int) (b_6:Sl):FnS (z004 b_0 b_1 b_2 b_3 b_4 b_5 b_6) F.a172 #[.agg #[.int .i64 b_0,.int .i64 b_1,.int .i64 b_2,.int .i64 b_3,.int .i64 b_4,.int .i64 b_5,.slice b_6.a b_6.len b_6.cap]]:=dV ⟨[],[],[],[]⟩ Go.Proofs.Tryz.func140 (by kernel_rfl)
def z002 (a_0 a_1 a_2 a_3 a_4 a_5:Int) (a_6:Sl) (b_0 b_1 b_2 b_3 b_4 b_5:Int) (b_6:Sl):Prog :=
Ap T.a0 (AD a_0 a_1 a_2 a_3 a_4 a_5 a_6) λa0=>
Ap T.a0 (AD b_0 b_1 b_2 b_3 b_4 b_5 b_6) λa1=>
Bp T.a35 a0 6 λl2=>
Bp T.a35 a1 6 λl3=>
Ai ((AB l2) != (AB l3)) (
Am 0 [.bool false])<|
Bp T.a35 a0 6 λl4=>
Ay 1 (
AA 2 (0,()) λn5=>
Ai (decide (n5<(AB l4))) (
Ac n5 λn6=>
AL<|
Bp T.a35 a0 6 λl7=>
.ex [.adr] (c1 λa8=>0<=n6/\n6<(AB l7)/\l7.a=some a8) (u1 λa9=>
BH T.a2 a9 (Int.toNat n6*4) λs10 s11 b12 n13=>
Bp T.a35 a1 6 λl14=>
.ex [.adr] (c1 λa15=>0<=n6/\n6<(AB l14)/\l14.a=some a15) (u1 λa16=>
BH T.a2 a16 (Int.toNat n6*4) λs17 s18 b19 n20=>
AN<|
Ai (not (s10 == s17 && (s11 == s18 && (b12 == b19 && n13 == n20)))) (
Am 0 [.bool false])<|
Am 2 [Aa (AF (n5+1))])))<|
Am 1 [])<|
Aq T.a13 a0 0 λn21=>
Aq T.a13 a1 0 λn22=>
Ar ((n21 == n22)=true) T.a13 a0 1 λn23=>
Ar ((n21 == n22)=true) T.a13 a1 1 λn24=>
Ar ((n21 == n22 && n23 == n24)=true) T.a12 a0 2 λn25=>
Ar ((n21 == n22 && n23 == n24)=true) T.a12 a1 2 λn26=>
Ar ((n21 == n22 && n23 == n24 && n25 == n26)=true) T.a12 a0 3 λn27=>
Ar ((n21 == n22 && n23 == n24 && n25 == n26)=true) T.a12 a1 3 λn28=>
Ar ((n21 == n22 && n23 == n24 && n25 == n26 && n27 == n28)=true) T.a12 a0 4 λn29=>
Ar ((n21 == n22 && n23 == n24 && n25 == n26 && n27 == n28)=true) T.a12 a1 4 λn30=>
Ar ((n21 == n22 && n23 == n24 && n25 == n26 && n27 == n28 && n29 == n30)=true) T.a13 a0 5 λn31=>
Ar ((n21 == n22 && n23 == n24 && n25 == n26 && n27 == n28 && n29 == n30)=true) T.a13 a1 5 λn32=>
Al (n21 == n22 && n23 == n24 && n25 == n26 && n27 == n28 && n29 == n30 && n31 == n32) λb33=>
Am 0 [.bool b33]
theorem znh (a_0 a_1 a_2 a_3 a_4 a_5:Int) (a_6:Sl) (b_0 b_1 b_2 b_3 b_4 b_5:Int) (b_6:Sl):FnS (z002 a_0 a_1 a_2 a_3 a_4 a_5 a_6 b_0 b_1 b_2 b_3 b_4 b_5 b_6) F.a170 #[.agg #[.int .i64 a_0,.int .i64 a_1,.int .i64 a_2,.int .i64 a_3,.int .i64 a_4,.int .i64 a_5,.slice a_6.a a_6.len a_6.cap],.agg #[.int .i64 b_0,.int .i64 b_1,.int .i64 b_2,.int .i64 b_3,.int .i64 b_4,.int .i64 b_5,.slice b_6.a b_6.len b_6.cap]]:=dV ⟨[],[(0,[])],[],[(0,[(16,.one (.int .i64))])]⟩ Go.Proofs.Tryz.func144 (by kernel_rfl)
def z008 (l:Option Addr) (offset:Int) (most:Int):Prog :=
Ai (decide (most<1)) (
Am 0 [.slice none 0 0,Aa 2])<|
Aj 1 (
Ax F.a176 [Ah l] λn0=>
Ai (decide (offset<n0)) (
Am 1 [.bool true])<|
Ax F.a177 [Ah l] λn1=>
Am 1 [.bool (decide (offset>n1))]) λb2=>
Ai b2 (
Am 0 [.slice none 0 0,Aa 8])<|
Az F.a175 [Ah l] λl3=>
AQ 1 (
BG 2 (⟨none,0,0⟩,(0,())) λl4 n5=>
Ai (decide (n5<(AB l3))) (
.ex [.adr] (c1 λa6=>0<=n5/\n5<(AB l3)/\l3.a=some a6) (u1 λa7=>
AC T.a0 a7 (Int.toNat n5*7) λn8 n9 n10 n11 n12 n13 l14=>
Ad T.a0 λa15=>
Ae T.a0 a15 (AD n8 n9 n10 n11 n12 n13 l14)<|
AE T.a0 a15 λn16 n17 n18 n19 n20 n21 l22=>
.call F.a167 [AD n16 n17 n18 n19 n20 n21 l22,Aa offset] (.tup [.agg [.int .i64,.int .i64,.int .i64,.int .i64,.int .i64,.int .i64,.slc],.one .bool]) (u8 λ(n23 n24 n25 n26 n27 n28:Int) l29 b30=>
Ad T.a0 λa31=>
Ae T.a0 a31 (AD n23 n24 n25 n26 n27 n28 l29)<|
Al b30 λb32=>
AQ 3 (
Ai (b32 && decide ((AB l4)<most)) (
AE T.a0 a31 λn33 n34 n35 n36 n37 n38 l39=>
AR (Instr.buildSlice T.a34 1 #[(0,AD n33 n34 n35 n36 n37 n38 l39)]) λl40=>
AR (app T.a34 T.a34 T.a34 l4.v l40.v) λl41=>
Am 3 [l41.v])<|
Am 3 [l4.v]) λl42=>
Am 2 [l42.v,Aa (AF (n5+1))])))<|
Am 1 [l4.v]) λl43=>
Am 0 [l43.v,Aa 0]
theorem znn (l:Option Addr) (offset most:Int):FnS (z008 l offset most) F.a178 #[.pointer l,.int .i64 offset,.int .i64 most]:=dV ⟨[(2161727821138886700,[(8,.one .slc)])],[(0,[(8,.one .slc)])],[(3,[(24,.one .bool)])],[(0,[(8,.one .slc),(28,.one (.int .i64))])]⟩ Go.Proofs.Tryz.func145 (by kernel_rfl)
def z080 (l:Sl):Prog :=
AQ 1 (
BG 2 (⟨none,0,0⟩,(0,())) λl0 n1=>
Ai (decide (n1<(AB l))) (
AQ 3 (
.ex [.adr] (c1 λa2=>0<=n1/\n1<(AB l)/\l.a=some a2) (u1 λa3=>
AC T.a0 a3 (Int.toNat n1*7) λn4 n5 n6 n7 n8 n9 l10=>
Ad T.a0 λa11=>
Ae T.a0 a11 (AD n4 n5 n6 n7 n8 n9 l10)<|
Bp T.a35 a11 6 λl12=>
AQ 4 (
BG 5 ({ a:=l0.a,len:=l0.len,cap:=l0.cap },(0,())) λl13 n14=>
Ai (decide (n14<(AB l12))) (
.ex [.adr] (c1 λa15=>0<=n14/\n14<(AB l12)/\l12.a=some a15) (u1 λa16=>
BH T.a2 a16 (Int.toNat n14*4) λs17 s18 b19 n20=>
Ad T.a2 λa21=>
Ac n14 λn22=>
Ae T.a2 a21 (BI s17 s18 b19 n20)<|
AE T.a0 a11 λn23 n24 n25 n26 n27 n28 l29=>
Ak F.a168 [AD n23 n24 n25 n26 n27 n28 l29] λb30=>
AQ 6 (
Ai (not b30) (
Aq T.a13 a11 0 λn31=>
BJ T.a2 a21 λs32 s33 b34 n35=>
AR (Instr.buildSlice T.a43 1 #[(0,.agg #[Aa (AF (n31+n22)),.string s32,.string s33,.bool b34,Aa n35])]) λl36=>
AR (app T.a43 T.a43 T.a43 l13.v l36.v) λl37=>
Am 6 [l37.v])<|
Am 6 [l13.v]) λl38=>
Am 5 [l38.v,Aa (AF (n14+1))]))<|
Am 4 [l13.v]) λl39=>
Am 3 [l39.v])) λl40=>
Am 2 [l40.v,Aa (AF (n1+1))])<|
Am 1 [l0.v]) λl41=>
Am 0 [l41.v]
def zzf (l:Option Addr):Prog :=
AI l λa1=>
Bp T.a39 a1 4 λl2=>
Ai ((AB l2) == 0) (
Am 0 [Ah none])<|
AL<|
AI l λa4=>
Bp T.a39 a4 4 λl5=>
AI l λa7=>
Bp T.a39 a7 4 λl8=>
.ex [.adr] (c1 λa9=>0<=AF ((AB l8)-1)/\AF ((AB l8)-1)<(AB l5)/\l5.a=some a9) (u1 λa10=>
AJ T.a28 a10 (Int.toNat (AF ((AB l8)-1))*1) λp11=>
AN<|
Am 0 [Ah p11])
theorem zmh (l:Option Addr):FnS (zzf l) F.a114 #[.pointer l]:=dV ⟨[],[],[],[]⟩ Go.Proofs.Tryz.func152 (by kernel_rfl)
def zzs (s:Option Addr):Prog :=
AL<|
AI s λa1=>
Aq T.a13 a1 1 λn2=>
AI s λa4=>
Aq T.a13 a4 2 λn5=>
AI s λa7=>
Aq T.a13 a7 3 λn8=>
Ac (if n8>if n5>n2 then n5 else n2 then n8 else if n5>n2 then n5 else n2) λn9=>
AN<|
Am 0 [Aa n9]
theorem zmu (s:Option Addr):FnS (zzs s) F.a128 #[.pointer s]:=dV ⟨[],[],[],[]⟩ Go.Proofs.Tryz.func153 (by kernel_rfl)
def zf0 (b:Sl):Prog :=
Ai (Option.isNone b.a) (
Am 0 [.slice none 0 0])<|
AR (Instr.buildSlice T.a46 0 #[]) λl0=>
AR (app T.a46 T.a46 T.a46 l0.v b.v) λl1=>
Am 0 [l1.v]
theorem ziq (b:Sl):FnS (zf0 b) F.a0 #[.slice b.a b.len b.cap]:=dV ⟨[],[],[],[]⟩ Go.Proofs.Tryz.func163 (by kernel_rfl)
def z059 (parts:Sl):Prog :=
Bg 1 (
Br 2 (0,(0,())) λn0 n1=>
Ai (decide (n1<(AB parts))) (
.ex [.adr] (c1 λa2=>0<=n1/\n1<(AB parts)/\parts.a=some a2) (u1 λa3=>
Bp T.a46 a3 (Int.toNat n1*1) λl4=>
Ac (AF (n0+(AB l4))) λn5=>
Ai (decide (n5>262144)) (
Am 0 [.slice none 0 0])<|
Am 2 [Aa n5,Aa (AF (n1+1))]))<|
Am 1 [Aa n0]) λn6=>
AR (Instr.makeSlice T.a46 (Aa 0) (Aa (AF (n6+8)))) λl7=>
Az F.a39 [.int .u32 (IntKind.wrap .u32 n6)] λl8=>
AR (app T.a46 T.a46 T.a46 l7.v l8.v) λl9=>
AQ 1 (
BG 2 ({ a:=l9.a,len:=l9.len,cap:=l9.cap },(0,())) λl10 n11=>
Ai (decide (n11<(AB parts))) (
.ex [.adr] (c1 λa12=>0<=n11/\n11<(AB parts)/\parts.a=some a12) (u1 λa13=>
Bp T.a46 a13 (Int.toNat n11*1) λl14=>
AR (app T.a46 T.a46 T.a46 l10.v l14.v) λl15=>
Am 2 [l15.v,Aa (AF (n11+1))]))<|
Am 1 [l10.v]) λl16=>
AR (Instr.buildSlice T.a41 1 #[(0,l16.v)]) λl17=>
BO F.a38 [l17.v] λn18=>
Az F.a39 [.int .u32 n18] λl19=>
AR (app T.a46 T.a46 T.a46 l16.v l19.v) λl20=>
Am 0 [l20.v]
theorem zsk (parts:Sl):FnS (z059 parts) F.a37 #[.slice parts.a parts.len parts.cap]:=dV ⟨[],[(0,[(3,.one (.int .i64))]),(2,[(6,.one .slc)])],[],[(0,[(3,.one (.int .i64)),(11,.one (.int .i64))]),(2,[(6,.one .slc),(32,.one (.int .i64))])]⟩ Go.Proofs.Tryz.func171 (by kernel_rfl)
def z00r (n:Int):Prog :=
.bind 1 [.one (.int .u64),.one .slc] (
.loop 2 [.one (.int .u64),.one .slc] (n,(⟨none,0,0⟩,())) (u2 λ(n0:Int) l1=>
Ai (decide (n0>=128)) (
AR (Instr.buildSlice T.a46 1 #[(0,.int .u8 (IntKind.wrap .u8 (((BitVec.toNat (BitVec.ofInt 8 (IntKind.wrap .u8 n0) ||| BitVec.ofInt 8 128):Nat):Int))))]) λl2=>
AR (app T.a46 T.a46 T.a46 l1.v l2.v) λl3=>
AZ (Int.fdiv n0 128) λn4=>
Am 2 [.int .u64 n4,l3.v])<|
Am 1 [.int .u64 n0,l1.v])) (u2 λ(n5:Int) l6=>
AR (Instr.buildSlice T.a46 1 #[(0,.int .u8 (IntKind.wrap .u8 n5))]) λl7=>
AR (app T.a46 T.a46 T.a46 l6.v l7.v) λl8=>
Am 0 [l8.v])
theorem zo6 (n:Int):FnS (z00r n) F.a200 #[.int .u64 n]:=dV ⟨[],[(0,[(0,.one (.int .u64)),(3,.one .slc)])],[],[(0,[(0,.one (.int .u64)),(3,.one .slc)])]⟩ Go.Proofs.Tryz.func172 (by kernel_rfl)
def z00q (s:ByteArray):Prog :=
Az F.a200 [.int .u64 (IntKind.wrap .u64 (((ByteArray.size s:Nat):Int)))] λl0=>
AR (app T.a46 T.a51 T.a46 l0.v (.string s)) λl1=>
Am 0 [l1.v]
theorem zo5 (s:ByteArray):FnS (z00q s) F.a199 #[.string s]:=dV ⟨[],[],[],[]⟩ Go.Proofs.Tryz.func173 (by kernel_rfl)
def zzb (l:Option Addr) (name:ByteArray) (end_:ByteArray):Prog :=
AI l λa1=>
AT T.a51 a1 1 λs2=>
Ac (AF (((ByteArray.size s2:Nat):Int)+1)) λn3=>
.must ((((ByteArray.size name:Nat):Int) != AF (AF (n3+11)+((ByteArray.size end_:Nat):Int)))=false->0<=AF (n3+11)/\AF (n3+11)<=((ByteArray.size name:Nat):Int)) <|
Ai (((ByteArray.size name:Nat):Int) != AF (AF (n3+11)+((ByteArray.size end_:Nat):Int)) || not (ByteArray.toList (ByteArray.extract name (Int.toNat (AF (n3+11))) (ByteArray.size name)) == ByteArray.toList end_)) (
Am 0 [Aa 0,.bool false])<|
.must (0<=n3/\n3<=AF (n3+11)/\AF (n3+11)<=((ByteArray.size name:Nat):Int)) <|
AR (convert T.a51 T.a46 (.string (ByteArray.extract name (Int.toNat n3) (Int.toNat (AF (n3+11)))))) λl4=>
Bg 1 (
Br 2 (0,(0,())) λn5 n6=>
Ai (decide (n6<(AB l4))) (
.ex [.adr] (c1 λa7=>0<=n6/\n6<(AB l4)/\l4.a=some a7) (u1 λa8=>
B3 T.a59 a8 (Int.toNat n6*1) λn9=>
B4 n9 λn10=>
Al (decide (n10>=48) && decide (n10<=57)) λb11=>
Bg 3 (
Ai b11 (
Ac (AF (((BitVec.toNat (BitVec.ofInt 64 (AF (n5*16)) ||| BitVec.ofInt 64 (AF (IntKind.wrap .u8 (n10-48)))):Nat):Int))) λn12=>
Am 3 [Aa n12])<|
AH (decide (n10>=97) && decide (n10<=102)) (
Ac (AF (((BitVec.toNat (BitVec.ofInt 64 (AF (n5*16)) ||| BitVec.ofInt 64 (AF (IntKind.wrap .u8 (IntKind.wrap .u8 (n10-97)+10)))):Nat):Int))) λn14=>
Am 3 [Aa n14])<|
Am 0 [Aa 0,.bool false]) λn15=>
Am 2 [Aa n15,Aa (AF (n6+1))]))<|
Am 1 [Aa n5]) λn16=>
Ac n16 λn17=>
Am 0 [Aa n17,.bool true]
theorem zmd (l:Option Addr) (name end_:ByteArray):FnS (zzb l name end_) F.a110 #[.pointer l,.string name,.string end_]:=dV ⟨[(19342794667089993088630829,[(9,.one (.int .i64))])],[(0,[(9,.one (.int .i64))])],[],[(0,[(9,.one (.int .i64)),(41,.one (.int .i64))])]⟩ Go.Proofs.Tryz.func182 (by kernel_rfl)
def z056 (b:Sl):Prog :=
Ai (decide ((AB b)<8)) (
Am 0 [.slice none 0 0,Aa 0,.bool false])<|
BO F.a40 [b.v] λn0=>
BQ n0 λn1=>
Ai (decide (n1>262144) || decide (AF n1>AF ((AB b)-8))) (
Am 0 [.slice none 0 0,Aa 0,.bool false])<|
Ac (AF (AF n1+4)) λn2=>
Aj 1 (
AL<|
.must (0<=n2/\n2<=(AB b)) <|
.must (0<=n2/\n2<=((b.cap:Nat):Int)) <|
.both (
BO F.a40 [.slice (z1r b.a 1 (Int.toNat n2) b.cap) (b.len-Int.toNat n2) (b.cap-Int.toNat n2)] λn3=>
AR (Instr.buildSlice T.a41 1 #[(0,.slice b.a (Int.toNat n2) b.cap)]) λl4=>
BO F.a38 [l4.v] λn5=>
AN<|
Am 1 [.bool (n3 != n5)]) <|
AR (Instr.buildSlice T.a41 1 #[(0,.slice b.a (Int.toNat n2) b.cap)]) λl6=>
BO F.a40 [.slice (z1r b.a 1 (Int.toNat n2) b.cap) (b.len-Int.toNat n2) (b.cap-Int.toNat n2)] λn7=>
BO F.a38 [l6.v] λn8=>
AN<|
Am 1 [.bool (n7 != n8)]) λb9=>
Ai b9 (
Am 0 [.slice none 0 0,Aa 0,.bool false])<|
.must ((0:Int)<=4/\4<=n2/\n2<=((b.cap:Nat):Int)) <|
Az F.a0 [.slice (z1r b.a 1 4 b.cap) (Int.toNat n2-4) (b.cap-4)] λl10=>
Ac (AF (n2+4)) λn11=>
Am 0 [l10.v,Aa n11,.bool true]
theorem zsh (b:Sl):FnS (z056 b) F.a34 #[.slice b.a b.len b.cap]:=dV ⟨[],[],[(7,[(34,.one .bool)])],[]⟩ Go.Proofs.Tryz.func183 (by kernel_rfl)
def zzo (body:Sl) (base:Int):Prog :=
An F.a189 [body.v] λp0=>
Ax F.a190 [Ah p0] λn1=>
AY F.a196 [Ah p0] λn2=>
AY F.a196 [Ah p0] λn3=>
Ac n1 λn4=>
AZ n2 λn5=>
AZ n3 λn6=>
Ax F.a191 [Ah p0] λn7=>
Ai (n7 != 0 || n4 != 83 || n5 != IntKind.wrap .u64 base || decide (base>1099511627776) || decide (n6>1099511627776)) (
Am 0 [Aa 0,.bool false])<|
Ac (AF n6) λn8=>
Al (n6 == 0 || decide (AF n6>base)) λb9=>
Am 0 [Aa n8,.bool b9]
theorem zmq (body:Sl) (base:Int):FnS (zzo body base) F.a124 #[.slice body.a body.len body.cap,.int .i64 base]:=dV ⟨[],[],[],[]⟩ Go.Proofs.Tryz.func184 (by kernel_rfl)
def zzk (l:Option Addr) (base:Int) (end_:Int):Prog :=
AI l λa1=>
Aq T.a12 (Addr.add a1 2) 1 λn2=>
Ab F.a45 [Aa n2] λp3 n4=>
Ac n4 λn5=>
Az F.a123 [Aa base,Aa end_] λl6=>
Ap T.a49 (.agg #[Ah p3,Aa base,Aa end_,Aa 0,Aa (-1),Aa (AB l6)]) λa7=>
Am 0 [Av a7]
theorem zmm (l:Option Addr) (base end_:Int):FnS (zzk l base end_) F.a119 #[.pointer l,.int .i64 base,.int .i64 end_]:=dV ⟨[],[],[],[]⟩ Go.Proofs.Tryz.func185 (by kernel_rfl)
def z068 (raw:Sl):Prog :=
Ad T.a0 λa0=>
Ad T.a0 λa1=>
Ae T.a0 a1 (.agg #[Aa 0,Aa 0,Aa 0,Aa 0,Aa 0,Aa 0,.slice none 0 0])<|
An F.a189 [raw.v] λp2=>
Ax F.a190 [Ah p2] λn3=>
Ai (n3 != 1) (
AE T.a0 a1 λn4 n5 n6 n7 n8 n9 l10=>
Ae T.a0 a0 (AD n4 n5 n6 n7 n8 n9 l10)<|
AE T.a0 a0 λn11 n12 n13 n14 n15 n16 l17=>
Am 0 [AD n11 n12 n13 n14 n15 n16 l17,Aa 6])<|
Ax F.a190 [Ah p2] λn18=>
Ax F.a100 [Ah p2,Aa 1099511627776] λn19=>
Ax F.a100 [Ah p2,Aa 1048576] λn20=>
Ad T.a0 λa21=>
Ae T.a0 a21 (.agg #[Aa n19,Aa n20,Aa 0,Aa 0,Aa n18,Aa 0,.slice none 0 0])<|
Aq T.a13 a21 1 λn22=>
Ay 1 (
Ai (decide (n22>0)) (
Ax F.a100 [Ah p2,Aa 32767] λn23=>
AV T.a12 a21 2 (Aa n23)<|
AE T.a0 a21 λn24 n25 n26 n27 n28 n29 l30=>
Ak F.a95 [AD n24 n25 n26 n27 n28 n29 l30] λb31=>
Ay 2 (
Ai (not b31) (
Ax F.a100 [Ah p2,Aa 2147483647] λn32=>
AV T.a12 a21 3 (Aa n32)<|
Am 2 [])<|
Am 2 [])<|
Am 1 [])<|
Am 1 [])<|
Ax F.a100 [Ah p2,Aa 1099511627776] λn33=>
AV T.a13 a21 5 (Aa n33)<|
Ax F.a192 [Ah p2] λn34=>
Ar ((n34 != 0)=false) T.a13 a21 5 λn35=>
Ai (n34 != 0 || decide (n35>1099511627776)) (
AE T.a0 a1 λn36 n37 n38 n39 n40 n41 l42=>
Ae T.a0 a0 (AD n36 n37 n38 n39 n40 n41 l42)<|
AE T.a0 a0 λn43 n44 n45 n46 n47 n48 l49=>
Am 0 [AD n43 n44 n45 n46 n47 n48 l49,Aa 6])<|
AE T.a0 a21 λn50 n51 n52 n53 n54 n55 l56=>
Ak F.a95 [AD n50 n51 n52 n53 n54 n55 l56] λb57=>
Ay 1 (
Ai (not b57) (
Ax F.a100 [Ah p2,Aa 64] λn58=>
Ac n58 λn59=>
Ai (decide (n59>64)) (
AE T.a0 a1 λn60 n61 n62 n63 n64 n65 l66=>
Ae T.a0 a0 (AD n60 n61 n62 n63 n64 n65 l66)<|
AE T.a0 a0 λn67 n68 n69 n70 n71 n72 l73=>
Am 0 [AD n67 n68 n69 n70 n71 n72 l73,Aa 6])<|
Ay 2 (
.loop 3 [.one .str,.one (.int .i64)] ((ByteArray.mk #[]),(0,())) (u2 λs74 (n75:Int)=>
Ai (decide (n75<n59)) (
Aq T.a13 a21 5 λn76=>
.call F.a98 [Ah p2,Aa n76,.string s74] (.tup [.agg [.str,.str,.bool,.int .i64],.one .bool]) (u5 λs77 s78 b79 (n80:Int) b81=>
Ad T.a2 λa82=>
Ae T.a2 a82 (BI s77 s78 b79 n80)<|
Al b81 λb83=>
Ai (not b83) (
AE T.a0 a1 λn84 n85 n86 n87 n88 n89 l90=>
Ae T.a0 a0 (AD n84 n85 n86 n87 n88 n89 l90)<|
AE T.a0 a0 λn91 n92 n93 n94 n95 n96 l97=>
Am 0 [AD n91 n92 n93 n94 n95 n96 l97,Aa 6])<|
Bp T.a35 a21 6 λl98=>
BJ T.a2 a82 λs99 s100 b101 n102=>
AR (Instr.buildSlice T.a35 1 #[(0,BI s99 s100 b101 n102)]) λl103=>
AR (app T.a35 T.a35 T.a35 l98.v l103.v) λl104=>
AV T.a35 a21 6 l104.v<|
AT T.a51 a82 0 λs105=>
AU s105 λs106=>
Am 3 [.string s106,Aa (AF (n75+1))]))<|
Am 2 []))<|
Am 1 [])<|
Am 1 [])<|
Aj 1 (
Ax F.a191 [Ah p2] λn107=>
AP ((n107 != 0)=false) T.a0 a21 λn108 n109 n110 n111 n112 n113 l114=>
Ai (n107 != 0) (
Am 1 [.bool true])<|
Ax F.a92 [AD n108 n109 n110 n111 n112 n113 l114] λn115=>
Am 1 [.bool (n115 != 0)]) λb116=>
Ai b116 (
AE T.a0 a1 λn117 n118 n119 n120 n121 n122 l123=>
Ae T.a0 a0 (AD n117 n118 n119 n120 n121 n122 l123)<|
AE T.a0 a0 λn124 n125 n126 n127 n128 n129 l130=>
Am 0 [AD n124 n125 n126 n127 n128 n129 l130,Aa 6])<|
AE T.a0 a21 λn131 n132 n133 n134 n135 n136 l137=>
Ae T.a0 a0 (AD n131 n132 n133 n134 n135 n136 l137)<|
AE T.a0 a0 λn138 n139 n140 n141 n142 n143 l144=>
Am 0 [AD n138 n139 n140 n141 n142 n143 l144,Aa 0]
theorem ztl (raw:Sl):FnS (z068 raw) F.a85 #[.slice raw.a raw.len raw.cap]:=dV ⟨[(985162418487330,[]),(1123700883587100,[]),(19807040591672596250983170100,[])],[(0,[])],[(27,[(89,.one .bool)])],[(0,[(8,.one .str),(59,.one (.int .i64))])]⟩ Go.Proofs.Tryz.func186 (by kernel_rfl)
def zzt (s:Option Addr) (b_0 b_1 b_2 b_3 b_4 b_5:Int) (b_6:Sl) (size:Int):Prog :=
Ap T.a0 (AD b_0 b_1 b_2 b_3 b_4 b_5 b_6) λa0=>
AE T.a0 a0 λn1 n2 n3 n4 n5 n6 l7=>
Ax F.a125 [AD n1 n2 n3 n4 n5 n6 l7] λn8=>
Ac n8 λn9=>
AL<|
AI s λa11=>
AJ T.a25 a11 0 λp12=>
Aq T.a13 a0 0 λn13=>
AI s λa15=>
Aq T.a12 a15 5 λn16=>
Ax F.a43 [Ah p12,Aa n13,Aa n16,Aa n9] λn17=>
AN<|
AE T.a0 a0 λn18 n19 n20 n21 n22 n23 l24=>
Ax F.a90 [AD n18 n19 n20 n21 n22 n23 l24] λn25=>
AI s λa27=>
AV T.a13 a27 3 (Aa n25)<|
AI s λa29=>
Aq T.a13 a29 4 λn30=>
AI s λa32=>
AV T.a13 a32 4 (Aa (if n9>n30 then n9 else n30))<|
AI s λa34=>
Aq T.a12 a34 5 λn35=>
AI s λa37=>
AV T.a12 a37 5 (Aa (AF (n35+size)))<|
Am 0 []
theorem zmv (s:Option Addr) (b_0 b_1 b_2 b_3 b_4 b_5:Int) (b_6:Sl) (size:Int):FnS (zzt s b_0 b_1 b_2 b_3 b_4 b_5 b_6 size) F.a129 #[.pointer s,.agg #[.int .i64 b_0,.int .i64 b_1,.int .i64 b_2,.int .i64 b_3,.int .i64 b_4,.int .i64 b_5,.slice b_6.a b_6.len b_6.cap],.int .i64 size]:=dV ⟨[],[],[],[]⟩ Go.Proofs.Tryz.func187 (by kernel_rfl)
def zzi (l:Option Addr) (s:Option Addr):Prog :=
AI l λa1=>
Bp T.a39 a1 4 λl2=>
AR (Instr.buildSlice T.a39 1 #[(0,Ah s)]) λl3=>
AR (app T.a39 T.a39 T.a39 l2.v l3.v) λl4=>
AI l λa6=>
AV T.a39 a6 4 l4.v<|
Am 0 []
theorem zmk (l s:Option Addr):FnS (zzi l s) F.a117 #[.pointer l,.pointer s]:=dV ⟨[],[],[],[]⟩ Go.Proofs.Tryz.func188 (by kernel_rfl)
def z00p (r:Option Addr):Prog :=
AO (not (Option.isNone r)=true) r λa1=>
Ar (not (Option.isNone r)=true) T.a1 (Addr.add a1 0) 2 λn2=>
Al (not (Option.isNone r) && n2 == 0) λb3=>
Am 0 [.bool b3]
theorem zo4 (r:Option Addr):FnS (z00p r) F.a198 #[.pointer r]:=dV ⟨[],[],[],[]⟩ Go.Proofs.Tryz.func190 (by kernel_rfl)
def z00v (p:Option Addr):Prog :=
Ay 1 (
.loop 2 [.one (.int .u64),.one (.int .i64)] (0,(0,())) (u2 λ(n0 n1:Int)=>
Ai (decide (n1<10)) (
Ax F.a202 [Ah p] λn2=>
Ai (decide (n1>=n2)) (
Am 1 [])<|
AL<|
AI p λa4=>
Bp T.a46 a4 0 λl5=>
AI p λa7=>
Aq T.a12 a7 1 λn8=>
.ex [.adr] (c1 λa9=>0<=AF (n8+n1)/\AF (n8+n1)<(AB l5)/\l5.a=some a9) (u1 λa10=>
B3 T.a59 a10 (Int.toNat (AF (n8+n1))*1) λn11=>
B4 n11 λn12=>
AN<|
Ai (n1 == 9 && decide (n12>1)) (
Am 1 [])<|
.must (0<=AF (7*n1)) <|
AZ (IntKind.wrap .u64 (((BitVec.toNat (BitVec.ofInt 64 n0 ||| BitVec.ofInt 64 (IntKind.wrap .u64 (IntKind.wrap .u64 (IntKind.wrap .u8 (((BitVec.toNat (BitVec.ofInt 8 n12 &&& BitVec.ofInt 8 127):Nat):Int)))*2 ^ min (Int.toNat (AF (7*n1))) 64))):Nat):Int))) λn13=>
Ai (decide (n12>=128)) (
Ac (AF (n1+1)) λn14=>
Am 2 [.int .u64 n13,Aa n14])<|
Ai (n12 == 0 && decide (n1>0)) (
Am 1 [])<|
AI p λa16=>
Aq T.a12 a16 1 λn17=>
AI p λa19=>
AV T.a12 a19 1 (Aa (AF (n17+AF (n1+1))))<|
AZ n13 λn20=>
Am 0 [.int .u64 n20]))<|
Am 1 []))<|
Ao F.a201 [Ah p,Aa 6]<|
Am 0 [.int .u64 0]
theorem zoa (p:Option Addr):FnS (z00v p) F.a204 #[.pointer p]:=dV ⟨[],[(0,[])],[],[(0,[(3,.one (.int .u64)),(4,.one (.int .i64))])]⟩ Go.Proofs.Tryz.func191 (by kernel_rfl)
def z00s (p:Option Addr) (e_:Int):Prog :=
AI p λa1=>
Aq T.a1 a1 2 λn2=>
Ay 1 (
Ai (n2 == 0) (
AI p λa4=>
AV T.a1 a4 2 (Aa e_)<|
Am 1 [])<|
Am 1 [])<|
Am 0 []
theorem zo7 (p:Option Addr) (e_:Int):FnS (z00s p e_) F.a201 #[.pointer p,.int .i64 e_]:=dV ⟨[(31457288,[])],[],[],[]⟩ Go.Proofs.Tryz.func192 (by kernel_rfl)
def z00t (p:Option Addr):Prog :=
AL<|
AI p λa1=>
Bp T.a46 a1 0 λl2=>
AI p λa4=>
Aq T.a12 a4 1 λn5=>
Ac (AF ((AB l2)-n5)) λn6=>
AN<|
Am 0 [Aa n6]
theorem zo8 (p:Option Addr):FnS (z00t p) F.a202 #[.pointer p]:=dV ⟨[],[],[],[]⟩ Go.Proofs.Tryz.func193 (by kernel_rfl)
def z00u (p:Option Addr) (n:Int):Prog :=
AI p λa1=>
Aq T.a12 a1 1 λn2=>
AI p λa4=>
AV T.a12 a4 1 (Aa (AF (n2+n)))<|
AL<|
AI p λa6=>
Bp T.a46 a6 0 λl7=>
AI p λa9=>
Aq T.a12 a9 1 λn10=>
AI p λa12=>
Aq T.a12 a12 1 λn13=>
.must (0<=AF (n10-n)/\AF (n10-n)<=n13/\n13<=((l7.cap:Nat):Int)) <|
AN<|
Am 0 [.slice (z1r l7.a 1 (Int.toNat (AF (n10-n))) l7.cap) (Int.toNat n13-Int.toNat (AF (n10-n))) (l7.cap-Int.toNat (AF (n10-n)))]
theorem zo9 (p:Option Addr) (n:Int):FnS (z00u p n) F.a203 #[.pointer p,.int .i64 n]:=dV ⟨[],[],[],[]⟩ Go.Proofs.Tryz.func194 (by kernel_rfl)
def z00o (r:Option Addr) (lo:Int) (hi:Int):Prog :=
Ak F.a198 [Ah r] λb0=>
Ai (not b0) (
Am 0 [Aa 0])<|
AI r λa2=>
Aq T.a12 (Addr.add a2 0) 1 λn3=>
Ac n3 λn4=>
Ax F.a194 [Ah r] λn5=>
Ac n5 λn6=>
AI r λa8=>
Aq T.a1 (Addr.add a8 0) 2 λn9=>
Ay 1 (
Ai (n9 == 0 && (decide (n6<lo) || decide (n6>hi))) (
AI r λa11=>
AV T.a12 (Addr.add a11 0) 1 (Aa n4)<|
AI r λa13=>
Ao F.a201 [B1 a13 0,Aa 8]<|
Am 1 [])<|
Am 1 [])<|
AI r λa15=>
Aq T.a1 (Addr.add a15 0) 2 λn16=>
Ai (n16 != 0) (
Am 0 [Aa 0])<|
Ac n6 λn17=>
Am 0 [Aa n17]
theorem zo3 (r:Option Addr) (lo hi:Int):FnS (z00o r lo hi) F.a197 #[.pointer r,.int .i64 lo,.int .i64 hi]:=dV ⟨[(71916856549572642,[])],[],[],[]⟩ Go.Proofs.Tryz.func196 (by kernel_rfl)
def z00j (r:Option Addr):Prog :=
Ai (Option.isNone r) (
Am 0 [Aa 1])<|
AI r λa1=>
Aq T.a1 (Addr.add a1 0) 2 λn2=>
Ac n2 λn3=>
Am 0 [Aa n3]
theorem zny (r:Option Addr):FnS (z00j r) F.a192 #[.pointer r]:=dV ⟨[],[],[],[]⟩ Go.Proofs.Tryz.func197 (by kernel_rfl)
def zzh (l:Option Addr) (bs:Sl):Prog :=
Ax F.a105 [Ah l] λn0=>
Ac n0 λn1=>
.bind 1 [.one .slc,.one .slc] (
.loop 2 [.one (.int .i64),.one .slc,.one .slc,.one (.int .i64)] (n1,(⟨none,0,0⟩,(⟨none,0,0⟩,(0,())))) (u4 λ(n2:Int) l3 l4 (n5:Int)=>
Ai (decide (n5<(AB bs))) (
.ex [.adr] (c1 λa6=>0<=n5/\n5<(AB bs)/\bs.a=some a6) (u1 λa7=>
AC T.a0 a7 (Int.toNat n5*7) λn8 n9 n10 n11 n12 n13 l14=>
Ad T.a0 λa15=>
Ae T.a0 a15 (AD n8 n9 n10 n11 n12 n13 l14)<|
AV T.a13 a15 0 (Aa n2)<|
AE T.a0 a15 λn16 n17 n18 n19 n20 n21 l22=>
AK F.a86 [AD n16 n17 n18 n19 n20 n21 l22] λl23 n24=>
Ac n24 λn25=>
Ai (n25 != 0) (
Ac n25 λn26=>
Am 0 [.slice none 0 0,.slice none 0 0,Aa n26])<|
AE T.a0 a15 λn27 n28 n29 n30 n31 n32 l33=>
AR (Instr.buildSlice T.a34 1 #[(0,AD n27 n28 n29 n30 n31 n32 l33)]) λl34=>
AR (app T.a34 T.a34 T.a34 l3.v l34.v) λl35=>
AR (Instr.buildSlice T.a41 1 #[(0,l23.v)]) λl36=>
Az F.a37 [l36.v] λl37=>
AR (Instr.buildSlice T.a41 1 #[(0,l37.v)]) λl38=>
AR (app T.a41 T.a41 T.a41 l4.v l38.v) λl39=>
AE T.a0 a15 λn40 n41 n42 n43 n44 n45 l46=>
Ax F.a90 [AD n40 n41 n42 n43 n44 n45 l46] λn47=>
Ac n47 λn48=>
Am 2 [Aa n48,l35.v,l39.v,Aa (AF (n5+1))]))<|
Am 1 [l3.v,l4.v])) (u2 λl49 l50=>
Am 0 [l49.v,l50.v,Aa 0])
theorem zmj (l:Option Addr) (bs:Sl):FnS (zzh l bs) F.a116 #[.pointer l,.slice bs.a bs.len bs.cap]:=dV ⟨[],[(0,[(8,.one .slc),(9,.one .slc)])],[],[(0,[(7,.one (.int .i64)),(8,.one .slc),(9,.one .slc),(18,.one (.int .i64))])]⟩ Go.Proofs.Tryz.func203 (by kernel_rfl)
def zze (l:Option Addr) (n:Int):Prog :=
An F.a114 [Ah l] λp0=>
AL<|
AO (not (Option.isNone p0)=true) p0 λa2=>
Ar (not (Option.isNone p0)=true) T.a13 a2 3 λn3=>
AO (not (Option.isNone p0)=true/\(n3 == 0)=false) p0 λa5=>
Ar (not (Option.isNone p0)=true/\(n3 == 0)=false) T.a12 a5 5 λn6=>
AO (not (Option.isNone p0)=true/\(n3 == 0)=false) l λa8=>
Ar (not (Option.isNone p0)=true/\(n3 == 0)=false) T.a12 (Addr.add a8 2) 0 λn9=>
Al (not (Option.isNone p0) && (n3 == 0 || decide (AF (n6+n)<=n9))) λb10=>
AN<|
Am 0 [.bool b10]
theorem zmg (l:Option Addr) (n:Int):FnS (zze l n) F.a113 #[.pointer l,.int .i64 n]:=dV ⟨[],[],[],[]⟩ Go.Proofs.Tryz.func204 (by kernel_rfl)
def zzn (base:Int) (end_:Int):Prog :=
AR (Instr.buildSlice T.a46 1 #[(0,.int .u8 83)]) λl0=>
Az F.a200 [.int .u64 (IntKind.wrap .u64 base)] λl1=>
Az F.a200 [.int .u64 (IntKind.wrap .u64 end_)] λl2=>
AR (Instr.buildSlice T.a41 3 #[(0,l0.v),(1,l1.v),(2,l2.v)]) λl3=>
Az F.a37 [l3.v] λl4=>
Am 0 [l4.v]
theorem zmp (base end_:Int):FnS (zzn base end_) F.a123 #[.int .i64 base,.int .i64 end_]:=dV ⟨[],[],[],[]⟩ Go.Proofs.Tryz.func205 (by kernel_rfl)
def z05d (x:Option Addr) (offset:Int):Prog :=
Ap T.a25 (Ah x) λa0=>
Ap T.a13 (Aa offset) λa1=>
Ad T.a9 λa2=>
BE T.a25 a0 λp3=>
Ai (Option.isNone p3) (
Ae T.a9 a2 (Af 0 0 0)<|
Ag T.a9 a2 λn4 n5 n6=>
Am 0 [Af n4 n5 n6,.bool false])<|
Aj 1 (
AL<|
.hold True (ld T.a25 a0) sP (u1 λp7=>
BE T.a25 a0 λp8=>
AI p8 λa10=>
Bp T.a36 a10 4 λl11=>
Ax F.a160 [Aa (AB l11),.func (Fn.func 256) #[] #[Av a0,Av a1]] λn12=>
AN<|
.call F.a44 [Ah p7,Aa (AF (n12-1))] (.tup [.agg [.int .i64,.int .i64,.int .i64],.one .bool]) (u4 λ(n13 n14 n15:Int) b16=>
Ae T.a9 a2 (Af n13 n14 n15)<|
Al b16 λb17=>
AN<|
Am 1 [.bool b17]))) λb18=>
Ag T.a9 a2 λn19 n20 n21=>
Am 0 [Af n19 n20 n21,.bool b18]
theorem zso (x:Option Addr) (offset:Int):FnS (z05d x offset) F.a41 #[.pointer x,.int .i64 offset]:=dV ⟨[],[],[(3,[(5,.one .bool)])],[]⟩ Go.Proofs.Tryz.func206 (by kernel_rfl)
def zyz (b_0 b_1 b_2 b_3 b_4 b_5:Int) (b_6:Sl) (from_:Int) (to_:Int):Prog :=
Ap T.a0 (AD b_0 b_1 b_2 b_3 b_4 b_5 b_6) λa0=>
Ad T.a0 λa1=>
AE T.a0 a0 λn2 n3 n4 n5 n6 n7 l8=>
Ad T.a0 λa9=>
Ae T.a0 a9 (AD n2 n3 n4 n5 n6 n7 l8)<|
Bp T.a35 a0 6 λl10=>
.must (0<=from_/\from_<=to_/\to_<=((l10.cap:Nat):Int)) <|
AR (app T.a35 T.a35 T.a35 (.slice none 0 0) (.slice (z1r l10.a 4 (Int.toNat from_) l10.cap) (Int.toNat to_-Int.toNat from_) (l10.cap-Int.toNat from_))) λl11=>
AV T.a35 a9 6 l11.v<|
Aq T.a13 a9 0 λn12=>
AV T.a13 a9 0 (Aa (AF (n12+from_)))<|
Aq T.a13 a9 1 λn13=>
Ay 1 (
Ai (decide (n13>0)) (
Aq T.a12 a9 3 λn14=>
AV T.a12 a9 3 (Aa (AF (n14+from_)))<|
Am 1 [])<|
Am 1 [])<|
AE T.a0 a9 λn15 n16 n17 n18 n19 n20 l21=>
Ae T.a0 a1 (AD n15 n16 n17 n18 n19 n20 l21)<|
AE T.a0 a1 λn22 n23 n24 n25 n26 n27 l28=>
Am 0 [AD n22 n23 n24 n25 n26 n27 l28]
theorem zm1 (b_0 b_1 b_2 b_3 b_4 b_5:Int) (b_6:Sl) (from_ to_:Int):FnS (zyz b_0 b_1 b_2 b_3 b_4 b_5 b_6 from_ to_) F.a97 #[.agg #[.int .i64 b_0,.int .i64 b_1,.int .i64 b_2,.int .i64 b_3,.int .i64 b_4,.int .i64 b_5,.slice b_6.a b_6.len b_6.cap],.int .i64 from_,.int .i64 to_]:=dV ⟨[(2130303778839,[])],[],[],[]⟩ Go.Proofs.Tryz.func207 (by kernel_rfl)
def zyy (b_0 b_1 b_2 b_3 b_4 b_5:Int) (b_6:Sl):Prog :=
Ap T.a0 (AD b_0 b_1 b_2 b_3 b_4 b_5 b_6) λa0=>
Aj 1 (
Aq T.a12 a0 4 λn1=>
Ar (decide (n1>=0)=true) T.a12 a0 4 λn2=>
Ar ((decide (n1>=0) && decide (n2<=3))=true) T.a13 a0 0 λn3=>
Ai (decide (n1>=0) && decide (n2<=3)) (
Ak F.a101 [Aa n3,Aa 0,Aa 1099511627776] λb4=>
Ar (b4=true) T.a13 a0 1 λn5=>
Ai b4 (
Ak F.a101 [Aa n5,Aa 0,Aa 1048576] λb6=>
Ar (b6=true) T.a12 a0 2 λn7=>
Ar ((b6 && decide (n7>=0))=true) T.a12 a0 2 λn8=>
Ar ((b6 && decide (n7>=0) && decide (n8<=32767))=true) T.a12 a0 3 λn9=>
Ar ((b6 && decide (n7>=0) && decide (n8<=32767) && decide (n9>=0))=true) T.a12 a0 3 λn10=>
Ar ((b6 && decide (n7>=0) && decide (n8<=32767) && decide (n9>=0) && decide (n10<=2147483647))=true) T.a13 a0 5 λn11=>
Ai (b6 && decide (n7>=0) && decide (n8<=32767) && decide (n9>=0) && decide (n10<=2147483647)) (
Ak F.a101 [Aa n11,Aa 0,Aa 1099511627776] λb12=>
Al b12 λb13=>
Am 1 [.bool b13])<|
Am 1 [.bool false])<|
Am 1 [.bool false])<|
Am 1 [.bool false]) λb14=>
Am 0 [.bool b14]
theorem zm0 (b_0 b_1 b_2 b_3 b_4 b_5:Int) (b_6:Sl):FnS (zyy b_0 b_1 b_2 b_3 b_4 b_5 b_6) F.a96 #[.agg #[.int .i64 b_0,.int .i64 b_1,.int .i64 b_2,.int .i64 b_3,.int .i64 b_4,.int .i64 b_5,.slice b_6.a b_6.len b_6.cap]]:=dV ⟨[],[],[(1,[(2,.one .bool)])],[]⟩ Go.Proofs.Tryz.func208 (by kernel_rfl)
def zyw (b_0 b_1 b_2 b_3 b_4 b_5:Int) (b_6:Sl):Prog :=
Ap T.a0 (AD b_0 b_1 b_2 b_3 b_4 b_5 b_6) λa0=>
Aq T.a13 a0 1 λn1=>
Ar ((n1 == 0)=true) T.a12 a0 4 λn2=>
Ar ((n1 == 0)=true/\(n2 != 0)=false) T.a12 a0 2 λn3=>
Ar ((n1 == 0)=true/\(n2 != 0 || n3 != 0)=false) T.a12 a0 3 λn4=>
Ai (n1 == 0 && (n2 != 0 || n3 != 0 || n4 != 0)) (
Am 0 [.bool false])<|
AE T.a0 a0 λn5 n6 n7 n8 n9 n10 l11=>
Ak F.a95 [AD n5 n6 n7 n8 n9 n10 l11] λb12=>
Ai b12 (
Aq T.a12 a0 3 λn13=>
Bx ((n13 == 0)=true) T.a35 a0 6 λl14=>
Al (n13 == 0 && (AB l14) == 0) λb15=>
Am 0 [.bool b15])<|
Bp T.a35 a0 6 λl16=>
Al (decide ((AB l16)>0)) λb17=>
Am 0 [.bool b17]
theorem zly (b_0 b_1 b_2 b_3 b_4 b_5:Int) (b_6:Sl):FnS (zyw b_0 b_1 b_2 b_3 b_4 b_5 b_6) F.a94 #[.agg #[.int .i64 b_0,.int .i64 b_1,.int .i64 b_2,.int .i64 b_3,.int .i64 b_4,.int .i64 b_5,.slice b_6.a b_6.len b_6.cap]]:=dV ⟨[],[],[],[]⟩ Go.Proofs.Tryz.func209 (by kernel_rfl)
def zz1 (r_0 r_1:ByteArray) (r_2:Bool) (r_3:Int):Prog :=
Ap T.a2 (BI r_0 r_1 r_2 r_3) λa0=>
AT T.a51 a0 0 λs1=>
B7 (decide (((ByteArray.size s1:Nat):Int)>1024)=false) T.a51 a0 1 λs2=>
AH (decide (((ByteArray.size s1:Nat):Int)>1024) || decide (((ByteArray.size s2:Nat):Int)>1024)) (
Am 0 [Aa 7])<|
Aq T.a13 a0 3 λn4=>
Ak F.a101 [Aa n4,Aa 0,Aa 1099511627776] λb5=>
Bc (not b5=false) T.a3 a0 2 λb6=>
B7 (not b5=false/\b6=true) T.a51 a0 1 λs7=>
AH (not b5 || b6 && not (ByteArray.toList s7 == ByteArray.toList (ByteArray.mk #[]))) (
Am 0 [Aa 2])<|
Am 0 [Aa 0]
theorem zm3 (r_0 r_1:ByteArray) (r_2:Bool) (r_3:Int):FnS (zz1 r_0 r_1 r_2 r_3) F.a99 #[.agg #[.string r_0,.string r_1,.bool r_2,.int .i64 r_3]]:=dV ⟨[],[],[],[]⟩ Go.Proofs.Tryz.func210 (by kernel_rfl)
def z084 (n lo:Int) (hi:Int):Prog :=
Al (decide (n<lo) || decide (n>hi)) λb0=>
Am 0 [.bool b0]
def z081 (b_0 b_1 b_2 b_3 b_4 b_5:Int) (b_6:Sl) (offset:Int):Prog :=
Ap T.a0 (AD b_0 b_1 b_2 b_3 b_4 b_5 b_6) λa0=>
Ad T.a0 λa1=>
Aj 1 (
AL<|
AE T.a0 a0 λn2 n3 n4 n5 n6 n7 l8=>
Ax F.a173 [AD n2 n3 n4 n5 n6 n7 l8] λn9=>
AM ((n9 != 0)=false) T.a13 a0 0 λn10=>
AP ((n9 != 0)=false) T.a0 a0 λn11 n12 n13 n14 n15 n16 l17=>
Ai (n9 != 0) (
AN<|
Am 1 [.bool true])<|
Ax F.a172 [AD n11 n12 n13 n14 n15 n16 l17] λn18=>
AN<|
Am 1 [.bool (decide (offset>AF (AF (n10+n18)-1)))]) λb19=>
Ai b19 (
Ae T.a0 a1 (.agg #[Aa 0,Aa 0,Aa 0,Aa 0,Aa 0,Aa 0,.slice none 0 0])<|
AE T.a0 a1 λn20 n21 n22 n23 n24 n25 l26=>
Am 0 [AD n20 n21 n22 n23 n24 n25 l26,.bool false])<|
AE T.a0 a0 λn27 n28 n29 n30 n31 n32 l33=>
Ak F.a168 [AD n27 n28 n29 n30 n31 n32 l33] λb34=>
Ai b34 (
AE T.a0 a0 λn35 n36 n37 n38 n39 n40 l41=>
Ae T.a0 a1 (AD n35 n36 n37 n38 n39 n40 l41)<|
AE T.a0 a1 λn42 n43 n44 n45 n46 n47 l48=>
Am 0 [AD n42 n43 n44 n45 n46 n47 l48,.bool true])<|
Bg 1 (
AA 2 (0,()) λn49=>
Aq T.a13 a0 0 λn50=>
Ai (decide (AF (n50+n49)<offset)) (
Ac (AF (n49+1)) λn51=>
Am 2 [Aa n51])<|
Am 1 [Aa n49]) λn52=>
AE T.a0 a0 λn53 n54 n55 n56 n57 n58 l59=>
Bp T.a35 a0 6 λl60=>
AG F.a169 [AD n53 n54 n55 n56 n57 n58 l59,Aa n52,Aa (AB l60)] λn61 n62 n63 n64 n65 n66 l67=>
Ae T.a0 a1 (AD n61 n62 n63 n64 n65 n66 l67)<|
AE T.a0 a1 λn68 n69 n70 n71 n72 n73 l74=>
Am 0 [AD n68 n69 n70 n71 n72 n73 l74,.bool true]
def z069 (b_0 b_1 b_2 b_3 b_4 b_5:Int) (b_6:Sl):Prog :=
Ap T.a0 (AD b_0 b_1 b_2 b_3 b_4 b_5 b_6) λa0=>
AE T.a0 a0 λn1 n2 n3 n4 n5 n6 l7=>
Ax F.a92 [AD n1 n2 n3 n4 n5 n6 l7] λn8=>
Ac n8 λn9=>
Ai (n9 != 0) (
Ac n9 λn10=>
Am 0 [.slice none 0 0,Aa n10])<|
AQ 1 (
AL<|
Bj T.a12 a0 4 λn11=>
Bj T.a13 a0 0 λn12=>
Bj T.a13 a0 1 λn13=>
.both (
AR (Instr.buildSlice T.a46 2 #[(0,.int .u8 1),(1,.int .u8 (IntKind.wrap .u8 n11))]) λl14=>
Az F.a200 [.int .u64 (IntKind.wrap .u64 n12)] λl15=>
Az F.a200 [.int .u64 (IntKind.wrap .u64 n13)] λl16=>
AN<|
AR (Instr.buildSlice T.a41 3 #[(0,l14.v),(1,l15.v),(2,l16.v)]) λl17=>
Az F.a188 [l17.v] λl18=>
AN<|
Am 1 [l18.v]) <|
Az F.a200 [.int .u64 (IntKind.wrap .u64 n12)] λl19=>
.both (
AR (Instr.buildSlice T.a46 2 #[(0,.int .u8 1),(1,.int .u8 (IntKind.wrap .u8 n11))]) λl20=>
Az F.a200 [.int .u64 (IntKind.wrap .u64 n13)] λl21=>
AN<|
AR (Instr.buildSlice T.a41 3 #[(0,l20.v),(1,l19.v),(2,l21.v)]) λl22=>
Az F.a188 [l22.v] λl23=>
AN<|
Am 1 [l23.v]) <|
Az F.a200 [.int .u64 (IntKind.wrap .u64 n13)] λl24=>
AR (Instr.buildSlice T.a46 2 #[(0,.int .u8 1),(1,.int .u8 (IntKind.wrap .u8 n11))]) λl25=>
AN<|
AR (Instr.buildSlice T.a41 3 #[(0,l25.v),(1,l19.v),(2,l24.v)]) λl26=>
Az F.a188 [l26.v] λl27=>
AN<|
Am 1 [l27.v]) λl28=>
Aq T.a13 a0 1 λn29=>
AQ 1 (
Ai (decide (n29>0)) (
Aq T.a12 a0 2 λn30=>
Az F.a200 [.int .u64 (IntKind.wrap .u64 n30)] λl31=>
AR (app T.a46 T.a46 T.a46 l28.v l31.v) λl32=>
AE T.a0 a0 λn33 n34 n35 n36 n37 n38 l39=>
Ak F.a95 [AD n33 n34 n35 n36 n37 n38 l39] λb40=>
AQ 2 (
Ai (not b40) (
Aq T.a12 a0 3 λn41=>
Az F.a200 [.int .u64 (IntKind.wrap .u64 n41)] λl42=>
AR (app T.a46 T.a46 T.a46 l32.v l42.v) λl43=>
Am 2 [l43.v])<|
Am 2 [l32.v]) λl44=>
Am 1 [l44.v])<|
Am 1 [l28.v]) λl45=>
Aq T.a13 a0 5 λn46=>
Az F.a200 [.int .u64 (IntKind.wrap .u64 n46)] λl47=>
AR (app T.a46 T.a46 T.a46 l45.v l47.v) λl48=>
AE T.a0 a0 λn49 n50 n51 n52 n53 n54 l55=>
Ak F.a95 [AD n49 n50 n51 n52 n53 n54 l55] λb56=>
Ai b56 (
Am 0 [l48.v,Aa 0])<|
Bp T.a35 a0 6 λl57=>
Az F.a200 [.int .u64 (IntKind.wrap .u64 (AB l57))] λl58=>
AR (app T.a46 T.a46 T.a46 l48.v l58.v) λl59=>
Bp T.a35 a0 6 λl60=>
AQ 1 (
.loop 2 [.one .slc,.one .str,.one (.int .i64)] ({ a:=l59.a,len:=l59.len,cap:=l59.cap },((ByteArray.mk #[]),(0,()))) (u3 λl61 s62 (n63:Int)=>
Ai (decide (n63<(AB l60))) (
.ex [.adr] (c1 λa64=>0<=n63/\n63<(AB l60)/\l60.a=some a64) (u1 λa65=>
BH T.a2 a65 (Int.toNat n63*4) λs66 s67 b68 n69=>
Ad T.a2 λa70=>
Ae T.a2 a70 (BI s66 s67 b68 n69)<|
AT T.a51 a70 0 λs71=>
Ax F.a93 [.string s62,.string s71] λn72=>
Ac n72 λn73=>
AQ 3 (
AL<|
Aq T.a13 a70 3 λn74=>
Aq T.a13 a0 5 λn75=>
.hold True (ld T.a3 (Addr.add a70 2)) sB (u1 λb76=>
.hold True (ld T.a51 (Addr.add a70 0)) sS (u1 λs77=>
.must (0<=n73/\n73<=((ByteArray.size s77:Nat):Int)) <|
Az F.a187 [Aa (AF (n74-n75))] λl78=>
Az F.a186 [.bool b76] λl79=>
Az F.a200 [.int .u64 (IntKind.wrap .u64 n73)] λl80=>
AN<|
Az F.a199 [.string (ByteArray.extract s77 (Int.toNat n73) (ByteArray.size s77))] λl81=>
AR (Instr.buildSlice T.a41 4 #[(0,l78.v),(1,l79.v),(2,l80.v),(3,l81.v)]) λl82=>
Az F.a188 [l82.v] λl83=>
AR (app T.a46 T.a46 T.a46 l61.v l83.v) λl84=>
AN<|
Am 3 [l84.v]))) λl85=>
Bd T.a3 a70 2 λb86=>
AQ 3 (
Ai (not b86) (
AT T.a51 a70 1 λs87=>
Az F.a199 [.string s87] λl88=>
AR (app T.a46 T.a46 T.a46 l85.v l88.v) λl89=>
Am 3 [l89.v])<|
Am 3 [l85.v]) λl90=>
AT T.a51 a70 0 λs91=>
AU s91 λs92=>
Am 2 [l90.v,.string s92,Aa (AF (n63+1))]))<|
Am 1 [l61.v])) λl93=>
Am 0 [l93.v,Aa 0]
theorem ztm (b_0 b_1 b_2 b_3 b_4 b_5:Int) (b_6:Sl):FnS (z069 b_0 b_1 b_2 b_3 b_4 b_5 b_6) F.a86 #[.agg #[.int .i64 b_0,.int .i64 b_1,.int .i64 b_2,.int .i64 b_3,.int .i64 b_4,.int .i64 b_5,.slice b_6.a b_6.len b_6.cap]]:=dV ⟨[(567453553048813608,[(5,.one .slc)]),(576443160117510175,[(5,.one .slc)]),(40240300653644914121111346551586913,[(5,.one .slc)])],[(0,[(5,.one .slc)])],[(4,[(5,.one .slc)]),(18,[(5,.one .slc)])],[(0,[(5,.one .slc),(6,.one .str),(66,.one (.int .i64))])]⟩ Go.Proofs.Tryz.func231 (by kernel_rfl)
def z00f (parts:Sl):Prog :=
Bg 1 (
Br 2 (0,(0,())) λn0 n1=>
Ai (decide (n1<(AB parts))) (
.ex [.adr] (c1 λa2=>0<=n1/\n1<(AB parts)/\parts.a=some a2) (u1 λa3=>
Bp T.a46 a3 (Int.toNat n1*1) λl4=>
Ac (AF (n0+(AB l4))) λn5=>
Am 2 [Aa n5,Aa (AF (n1+1))]))<|
Am 1 [Aa n0]) λn6=>
AR (Instr.makeSlice T.a46 (Aa 0) (Aa n6)) λl7=>
AQ 1 (
BG 2 ({ a:=l7.a,len:=l7.len,cap:=l7.cap },(0,())) λl8 n9=>
Ai (decide (n9<(AB parts))) (
.ex [.adr] (c1 λa10=>0<=n9/\n9<(AB parts)/\parts.a=some a10) (u1 λa11=>
Bp T.a46 a11 (Int.toNat n9*1) λl12=>
AR (app T.a46 T.a46 T.a46 l8.v l12.v) λl13=>
Am 2 [l13.v,Aa (AF (n9+1))]))<|
Am 1 [l8.v]) λl14=>
Am 0 [l14.v]
theorem znu (parts:Sl):FnS (z00f parts) F.a188 #[.slice parts.a parts.len parts.cap]:=dV ⟨[],[(0,[(3,.one (.int .i64))]),(2,[(6,.one .slc)])],[],[(0,[(3,.one (.int .i64)),(11,.one (.int .i64))]),(2,[(6,.one .slc),(24,.one (.int .i64))])]⟩ Go.Proofs.Tryz.func238 (by kernel_rfl)
def z00e (n:Int):Prog :=
Az F.a200 [.int .u64 (IntKind.wrap .u64 (((BitVec.toNat (BitVec.ofInt 64 (IntKind.wrap .u64 (IntKind.wrap .u64 n*2)) ^^^ BitVec.ofInt 64 (IntKind.wrap .u64 (Int.fdiv n 9223372036854775808))):Nat):Int)))] λl0=>
Am 0 [l0.v]
theorem znt (n:Int):FnS (z00e n) F.a187 #[.int .i64 n]:=dV ⟨[],[],[],[]⟩ Go.Proofs.Tryz.func240 (by kernel_rfl)
def z05b (n:Int):Prog :=
AR (Instr.buildSlice T.a46 4 #[(0,.int .u8 (IntKind.wrap .u8 n)),(1,.int .u8 (IntKind.wrap .u8 (Int.fdiv n 256))),(2,.int .u8 (IntKind.wrap .u8 (Int.fdiv n 65536))),(3,.int .u8 (IntKind.wrap .u8 (Int.fdiv n 16777216)))]) λl0=>
Am 0 [l0.v]
theorem zsm (n:Int):FnS (z05b n) F.a39 #[.int .u32 n]:=dV ⟨[],[],[],[]⟩ Go.Proofs.Tryz.func242 (by kernel_rfl)
def z05a (parts:Sl):Prog :=
BO F.a35 [.int .u32 0,parts.v] λn0=>
BQ n0 λn1=>
Am 0 [.int .u32 n1]
theorem zsl (parts:Sl):FnS (z05a parts) F.a38 #[.slice parts.a parts.len parts.cap]:=dV ⟨[],[],[],[]⟩ Go.Proofs.Tryz.func243 (by kernel_rfl)
def z05c (b:Sl):Prog :=
AL<|
.ex [.adr] (c1 λa0=>(0:Int)<=0/\0<(AB b)/\b.a=some a0) (u1 λa1=>
B3 T.a59 a1 0 λn2=>
.ex [.adr] (c1 λa3=>(0:Int)<=1/\1<(AB b)/\b.a=some a3) (u1 λa4=>
B3 T.a59 a4 1 λn5=>
.ex [.adr] (c1 λa6=>(0:Int)<=2/\2<(AB b)/\b.a=some a6) (u1 λa7=>
B3 T.a59 a7 2 λn8=>
.ex [.adr] (c1 λa9=>(0:Int)<=3/\3<(AB b)/\b.a=some a9) (u1 λa10=>
B3 T.a59 a10 3 λn11=>
BQ (IntKind.wrap .u32 (((BitVec.toNat (BitVec.ofInt 32 (IntKind.wrap .u32 (((BitVec.toNat (BitVec.ofInt 32 (IntKind.wrap .u32 (((BitVec.toNat (BitVec.ofInt 32 (IntKind.wrap .u32 n2) ||| BitVec.ofInt 32 (IntKind.wrap .u32 (IntKind.wrap .u32 n5*256))):Nat):Int))) ||| BitVec.ofInt 32 (IntKind.wrap .u32 (IntKind.wrap .u32 n8*65536))):Nat):Int))) ||| BitVec.ofInt 32 (IntKind.wrap .u32 (IntKind.wrap .u32 n11*16777216))):Nat):Int))) λn12=>
AN<|
Am 0 [.int .u32 n12]))))
theorem zsn (b:Sl):FnS (z05c b) F.a40 #[.slice b.a b.len b.cap]:=dV ⟨[],[],[],[]⟩ Go.Proofs.Tryz.func245 (by kernel_rfl)
def z00h (r:Option Addr):Prog :=
Ak F.a198 [Ah r] λb0=>
Ai (not b0) (
Am 0 [Aa 0])<|
AI r λa2=>
Ax F.a202 [B1 a2 0] λn3=>
Ai (n3 == 0) (
AI r λa5=>
Ao F.a201 [B1 a5 0,Aa 6]<|
Am 0 [Aa 0])<|
AI r λa7=>
Az F.a203 [B1 a7 0,Aa 1] λl8=>
.ex [.adr] (c1 λa9=>(0:Int)<=0/\0<(AB l8)/\l8.a=some a9) (u1 λa10=>
B3 T.a59 a10 0 λn11=>
Ac (AF n11) λn12=>
Am 0 [Aa n12])
theorem znw (r:Option Addr):FnS (z00h r) F.a190 #[.pointer r]:=dV ⟨[],[],[],[]⟩ Go.Proofs.Tryz.func246 (by kernel_rfl)
def z05h (gap:Int):Prog :=
Ai (decide (gap<1) || decide (gap>4194304)) (
Am 0 [Ah none,Aa 2])<|
Ap T.a10 (.agg #[Aa (-1),Aa (-1),Aa (-1),Aa gap,.slice none 0 0]) λa0=>
Am 0 [Av a0,Aa 0]
theorem zss (gap:Int):FnS (z05h gap) F.a45 #[.int .i64 gap]:=dV ⟨[],[],[],[]⟩ Go.Proofs.Tryz.func247 (by kernel_rfl)
def zz2 (r:Option Addr) (most:Int):Prog :=
AY F.a196 [Ah r] λn0=>
AZ n0 λn1=>
Ai (decide (n1>IntKind.wrap .u64 most)) (
Ac (AF (most+1)) λn2=>
Am 0 [Aa n2])<|
Ac (AF n1) λn3=>
Am 0 [Aa n3]
theorem zm4 (r:Option Addr) (most:Int):FnS (zz2 r most) F.a100 #[.pointer r,.int .i64 most]:=dV ⟨[],[],[],[]⟩ Go.Proofs.Tryz.func248 (by kernel_rfl)
def zz0 (r:Option Addr) (time:Int) (ahead:ByteArray):Prog :=
Ad T.a2 λa0=>
Ax F.a197 [Ah r,Aa (-1099511627776),Aa 1099511627776] λn1=>
Ac n1 λn2=>
Ak F.a193 [Ah r] λb3=>
Ad T.a2 λa4=>
Ae T.a2 a4 (.agg #[.string (ByteArray.mk #[]),.string (ByteArray.mk #[]),.bool b3,Aa (AF (time+n2))])<|
Ax F.a100 [Ah r,Aa 1024] λn5=>
Ac n5 λn6=>
Aw F.a195 [Ah r,Aa 1024] λs7=>
AU s7 λs8=>
Ai (decide (n6>((ByteArray.size ahead:Nat):Int))) (
BJ T.a2 a4 λs9 s10 b11 n12=>
Ae T.a2 a0 (BI s9 s10 b11 n12)<|
BJ T.a2 a0 λs13 s14 b15 n16=>
Am 0 [BI s13 s14 b15 n16,.bool false])<|
.must (0<=n6/\n6<=((ByteArray.size ahead:Nat):Int)) <|
.must (((ByteArray.size (ByteArray.extract ahead 0 (Int.toNat n6))+ByteArray.size s8:Nat):Int)<=9223372036854775807) <|
AV T.a51 a4 0 (.string (ByteArray.extract ahead 0 (Int.toNat n6)++s8))<|
Bd T.a3 a4 2 λb17=>
Ay 1 (
Ai (not b17) (
Aw F.a195 [Ah r,Aa 1024] λs18=>
AV T.a51 a4 1 (.string s18)<|
Am 1 [])<|
Am 1 [])<|
Aj 1 (
AL<|
.hold True (ld T.a2 a4) (sG [.str,.str,.bool,.int .i64]) (u4 λs19 s20 b21 (n22:Int)=>
Ax F.a192 [Ah r] λn23=>
B7 ((n23 == 0)=true) T.a51 a4 0 λs24=>
Ai (n23 == 0) (
Ax F.a93 [.string ahead,.string s24] λn25=>
AN<|
Ae T.a2 a0 (BI s19 s20 b21 n22)<|
Al (n25 == n6) λb26=>
AN<|
Am 1 [.bool b26])<|
AN<|
Ae T.a2 a0 (BI s19 s20 b21 n22)<|
AN<|
Am 1 [.bool false])) λb27=>
BJ T.a2 a0 λs28 s29 b30 n31=>
Am 0 [BI s28 s29 b30 n31,.bool b27]
theorem zm2 (r:Option Addr) (time:Int) (ahead:ByteArray):FnS (zz0 r time ahead) F.a98 #[.pointer r,.int .i64 time,.string ahead]:=dV ⟨[(7881299347898405,[])],[],[(10,[(7,.one .bool)])],[]⟩ Go.Proofs.Tryz.func249 (by kernel_rfl)
def zzp (b_0 b_1 b_2 b_3 b_4 b_5:Int) (b_6:Sl):Prog :=
Ap T.a0 (AD b_0 b_1 b_2 b_3 b_4 b_5 b_6) λa0=>
Bp T.a35 a0 6 λl1=>
Bg 1 (
Br 2 (-1,(0,())) λn2 n3=>
Ai (decide (n3<(AB l1))) (
.ex [.adr] (c1 λa4=>0<=n3/\n3<(AB l1)/\l1.a=some a4) (u1 λa5=>
BH T.a2 a5 (Int.toNat n3*4) λs6 s7 b8 n9=>
Ad T.a2 λa10=>
Ae T.a2 a10 (BI s6 s7 b8 n9)<|
Aq T.a13 a10 3 λn11=>
Ac (if n11>n2 then n11 else n2) λn12=>
Am 2 [Aa n12,Aa (AF (n3+1))]))<|
Am 1 [Aa n2]) λn13=>
Bp T.a35 a0 6 λl14=>
Bg 1 (
Ai ((AB l14) == 0) (
Aq T.a13 a0 5 λn15=>
Ac n15 λn16=>
Am 1 [Aa n16])<|
Am 1 [Aa n13]) λn17=>
Ac n17 λn18=>
Am 0 [Aa n18]
theorem zmr (b_0 b_1 b_2 b_3 b_4 b_5:Int) (b_6:Sl):FnS (zzp b_0 b_1 b_2 b_3 b_4 b_5 b_6) F.a125 #[.agg #[.int .i64 b_0,.int .i64 b_1,.int .i64 b_2,.int .i64 b_3,.int .i64 b_4,.int .i64 b_5,.slice b_6.a b_6.len b_6.cap]]:=dV ⟨[(51539640341,[(3,.one (.int .i64))])],[(0,[(3,.one (.int .i64))])],[],[(0,[(3,.one (.int .i64)),(9,.one (.int .i64))])]⟩ Go.Proofs.Tryz.func250 (by kernel_rfl)
def z05f (x:Option Addr) (offset place:Int) (time:Int):Prog :=
AH (Option.isNone x) (
Am 0 [Aa 1])<|
Ak F.a46 [Aa offset,Aa place,Aa time] λb1=>
AH (not b1) (
Am 0 [Aa 2])<|
AI x λa4=>
Aq T.a13 (Addr.add a4 0) 0 λn5=>
AO (decide (offset<=n5)=false) x λa7=>
Ar (decide (offset<=n5)=false) T.a12 (Addr.add a7 0) 1 λn8=>
AH (decide (offset<=n5) || decide (place<=n8)) (
Am 0 [Aa 21])<|
AI x λa11=>
Bp T.a36 a11 4 λl12=>
Ac (AB l12) λn13=>
AL<|
AO ((n13 == 0)=false) x λa15=>
Bx ((n13 == 0)=false) T.a36 a15 4 λl16=>
.ex [.adr] (c1 λa17=>(n13 == 0)=false->0<=AF (n13-1)/\AF (n13-1)<(AB l16)/\l16.a=some a17) (u1 λa18=>
Ar ((n13 == 0)=false) T.a12 (Addr.add a18 (Int.toNat (AF (n13-1))*3)) 1 λn19=>
AO ((n13 == 0)=false) x λa21=>
Ar ((n13 == 0)=false) T.a12 a21 3 λn22=>
AN<|
Ay 1 (
Ai (n13 == 0 || decide (AF (place-n19)>=n22)) (
AQ 2 (
AL<|
AI x λa24=>
BN T.a36 a24 4 λl25=>
AI x λa27=>
Aq T.a13 (Addr.add a27 0) 2 λn28=>
AR (Instr.buildSlice T.a36 1 #[(0,Af offset place n28)]) λl29=>
AN<|
AR (app T.a36 T.a36 T.a36 l25.v l29.v) λl30=>
AN<|
Am 2 [l30.v]) λl31=>
AI x λa33=>
AV T.a36 a33 4 l31.v<|
Am 1 [])<|
Am 1 [])<|
AI x λa35=>
Aq T.a13 (Addr.add a35 0) 2 λn36=>
AI x λa38=>
AV T.a11 a38 0 (.agg #[Aa offset,Aa place,Aa (if time>n36 then time else n36)])<|
Am 0 [Aa 0])
theorem zsq (x:Option Addr) (offset place time:Int):FnS (z05f x offset place time) F.a43 #[.pointer x,.int .i64 offset,.int .i64 place,.int .i64 time]:=dV ⟨[(4951741267675589621019836477,[])],[],[(9,[(10,.one .slc)])],[]⟩ Go.Proofs.Tryz.func251 (by kernel_rfl)
def z00l (r:Option Addr):Prog :=
AY F.a196 [Ah r] λn0=>
AZ n0 λn1=>
Ac (AF (((BitVec.toNat (BitVec.ofInt 64 (AF (Int.fdiv n1 2)) ^^^ BitVec.ofInt 64 (AF (0-AF (IntKind.wrap .u64 (((BitVec.toNat (BitVec.ofInt 64 n1 &&& BitVec.ofInt 64 1):Nat):Int)))))):Nat):Int))) λn2=>
Am 0 [Aa n2]
theorem zo0 (r:Option Addr):FnS (z00l r) F.a194 #[.pointer r]:=dV ⟨[],[],[],[]⟩ Go.Proofs.Tryz.func252 (by kernel_rfl)
def z05g (x:Option Addr) (i:Int):Prog :=
Ad T.a9 λa0=>
Ai (decide (i<0)) (
Ae T.a9 a0 (Af 0 0 0)<|
Ag T.a9 a0 λn1 n2 n3=>
Am 0 [Af n1 n2 n3,.bool false])<|
AI x λa5=>
Bp T.a36 a5 4 λl6=>
.ex [.adr] (c1 λa7=>0<=i/\i<(AB l6)/\l6.a=some a7) (u1 λa8=>
.read True (ld T.a9 (Addr.add a8 (Int.toNat i*3))) (sG [.int .i64,.int .i64,.int .i64]) (u3 λ(n9 n10 n11:Int)=>
Ae T.a9 a0 (Af n9 n10 n11)<|
Ag T.a9 a0 λn12 n13 n14=>
Am 0 [Af n12 n13 n14,.bool true]))
theorem zsr (x:Option Addr) (i:Int):FnS (z05g x i) F.a44 #[.pointer x,.int .i64 i]:=dV ⟨[],[],[],[]⟩ Go.Proofs.Tryz.func255 (by kernel_rfl)
def z05e (i:Int) (fv0:Option Addr) (fv1:Option Addr):Prog :=
AL<|
B2 (Instr.loadAt T.a25 (Ah fv0)) λp0=>
AI p0 λa2=>
Bp T.a36 a2 4 λl3=>
.ex [.adr] (c1 λa4=>0<=i/\i<(AB l3)/\l3.a=some a4) (u1 λa5=>
Aq T.a13 (Addr.add a5 (Int.toNat i*3)) 0 λn6=>
BM T.a13 fv1 λn7=>
Al (decide (n6>n7)) λb8=>
AN<|
Am 0 [.bool b8])
theorem zsp (i:Int) (fv0 fv1:Option Addr):FnS (z05e i fv0 fv1) F.a42 #[.int .i64 i,.pointer fv0,.pointer fv1]:=dV ⟨[],[],[],[]⟩ Go.Proofs.Tryz.func256 (by kernel_rfl)
def zz3 (n lo:Int) (hi:Int):Prog :=
Al (decide (n>=lo) && decide (n<=hi)) λb0=>
Am 0 [.bool b0]
theorem zm5 (n lo hi:Int):FnS (zz3 n lo hi) F.a101 #[.int .i64 n,.int .i64 lo,.int .i64 hi]:=dV ⟨[],[],[],[]⟩ Go.Proofs.Tryz.func257 (by kernel_rfl)
def z082 (b_0 b_1 b_2 b_3 b_4 b_5:Int) (b_6:Sl) (from_:Int) (to_:Int):Prog :=
Ap T.a0 (AD b_0 b_1 b_2 b_3 b_4 b_5 b_6) λa0=>
Ad T.a0 λa1=>
Aq T.a13 a0 0 λn2=>
Aq T.a13 a0 1 λn3=>
Aq T.a12 a0 2 λn4=>
Aq T.a12 a0 4 λn5=>
Aq T.a13 a0 5 λn6=>
Ad T.a0 λa7=>
Ae T.a0 a7 (.agg #[Aa (AF (n2+from_)),Aa n3,Aa n4,Aa 0,Aa n5,Aa n6,.slice none 0 0])<|
Aq T.a13 a0 1 λn8=>
Ay 1 (
Ai (decide (n8>0)) (
Aq T.a12 a0 3 λn9=>
AV T.a12 a7 3 (Aa (AF (n9+from_)))<|
Am 1 [])<|
Am 1 [])<|
Ac from_ λn10=>
Ay 1 (
AA 2 (n10,()) λn11=>
Ai (decide (n11<to_)) (
Ay 3 (
AL<|
BN T.a35 a7 6 λl12=>
Bp T.a35 a0 6 λl13=>
.ex [.adr] (c1 λa14=>0<=n11/\n11<(AB l13)/\l13.a=some a14) (u1 λa15=>
BH T.a2 a15 (Int.toNat n11*4) λs16 s17 b18 n19=>
AR (Instr.buildSlice T.a35 1 #[(0,BI s16 s17 b18 n19)]) λl20=>
AN<|
AR (app T.a35 T.a35 T.a35 l12.v l20.v) λl21=>
AV T.a35 a7 6 l21.v<|
AN<|
Am 3 []))<|
Ac (AF (n11+1)) λn22=>
Am 2 [Aa n22])<|
Am 1 [])<|
AE T.a0 a7 λn23 n24 n25 n26 n27 n28 l29=>
Ae T.a0 a1 (AD n23 n24 n25 n26 n27 n28 l29)<|
AE T.a0 a1 λn30 n31 n32 n33 n34 n35 l36=>
Am 0 [AD n30 n31 n32 n33 n34 n35 l36]
def z06g (a:ByteArray) (b:ByteArray):Prog :=
Ac (if ((ByteArray.size b:Nat):Int)<((ByteArray.size a:Nat):Int) then ((ByteArray.size b:Nat):Int) else ((ByteArray.size a:Nat):Int)) λn0=>
Ay 1 (
AA 2 (0,()) λn1=>
Ai (decide (n1<n0)) (
Ac n1 λn2=>
AL<|
.must (0<=n2/\n2<((ByteArray.size a:Nat):Int)) <|
.must (0<=n2/\n2<((ByteArray.size b:Nat):Int)) <|
AN<|
Ai (bt a n2 != bt b n2) (
Ac n2 λn3=>
Am 0 [Aa n3])<|
Am 2 [Aa (AF (n1+1))])<|
Am 1 [])<|
Ac n0 λn4=>
Am 0 [Aa n4]
theorem ztt (a b:ByteArray):FnS (z06g a b) F.a93 #[.string a,.string b]:=dV ⟨[],[(0,[])],[],[(0,[(13,.one (.int .i64))])]⟩ Go.Proofs.Tryz.func275 (by kernel_rfl)
def z00d (on:Bool):Prog :=
Ai on (
AR (Instr.buildSlice T.a46 1 #[(0,.int .u8 1)]) λl0=>
Am 0 [l0.v])<|
AR (Instr.buildSlice T.a46 1 #[(0,.int .u8 0)]) λl1=>
Am 0 [l1.v]
theorem zns (on:Bool):FnS (z00d on) F.a186 #[.bool on]:=dV ⟨[],[],[],[]⟩ Go.Proofs.Tryz.func276 (by kernel_rfl)
def z057 (sum:Int) (parts:Sl):Prog :=
BQ (IntKind.wrap .u32 (((BitVec.toNat (BitVec.ofInt 32 4294967295 ^^^ BitVec.ofInt 32 sum):Nat):Int))) λn0=>
BR 1 (
BS 2 (n0,(0,())) λn1 n2=>
Ai (decide (n2<(AB parts))) (
BR 3 (
.ex [.adr] (c1 λa3=>0<=n2/\n2<(AB parts)/\parts.a=some a3) (u1 λa4=>
Bp T.a46 a4 (Int.toNat n2*1) λl5=>
BR 4 (
BS 5 (n1,(0,())) λn6 n7=>
Ai (decide (n7<(AB l5))) (
BR 6 (
.ex [.adr] (c1 λa8=>0<=n7/\n7<(AB l5)/\l5.a=some a8) (u1 λa9=>
B3 T.a59 a9 (Int.toNat n7*1) λn10=>
B4 n10 λn11=>
BQ (IntKind.wrap .u32 (((BitVec.toNat (BitVec.ofInt 32 n6 ^^^ BitVec.ofInt 32 (IntKind.wrap .u32 n11)):Nat):Int))) λn12=>
BR 7 (
BS 8 (n12,(0,())) λn13 n14=>
Ai (decide (n14<8)) (
BQ (IntKind.wrap .u32 (((BitVec.toNat (BitVec.ofInt 32 (Int.fdiv n13 2) ^^^ BitVec.ofInt 32 (IntKind.wrap .u32 (((BitVec.toNat (BitVec.ofInt 32 3988292384 &&& BitVec.ofInt 32 (IntKind.wrap .u32 (0-IntKind.wrap .u32 (((BitVec.toNat (BitVec.ofInt 32 n13 &&& BitVec.ofInt 32 1):Nat):Int))))):Nat):Int)))):Nat):Int))) λn15=>
Am 8 [.int .u32 n15,Aa (AF (n14+1))])<|
Am 7 [.int .u32 n13]) λn16=>
Am 6 [.int .u32 n16])) λn17=>
Am 5 [.int .u32 n17,Aa (AF (n7+1))])<|
Am 4 [.int .u32 n6]) λn18=>
Am 3 [.int .u32 n18])) λn19=>
Am 2 [.int .u32 n19,Aa (AF (n2+1))])<|
Am 1 [.int .u32 n1]) λn20=>
BQ (IntKind.wrap .u32 (((BitVec.toNat (BitVec.ofInt 32 4294967295 ^^^ BitVec.ofInt 32 n20):Nat):Int))) λn21=>
Am 0 [.int .u32 n21]
theorem zsi (sum:Int) (parts:Sl):FnS (z057 sum parts) F.a35 #[.int .u32 sum,.slice parts.a parts.len parts.cap]:=dV ⟨[],[(0,[(5,.one (.int .u32))]),(1,[(5,.one (.int .u32))]),(2,[(5,.one (.int .u32))]),(3,[(5,.one (.int .u32))]),(4,[(5,.one (.int .u32))])],[],[(0,[(5,.one (.int .u32)),(14,.one (.int .i64))]),(2,[(5,.one (.int .u32)),(20,.one (.int .i64))]),(4,[(5,.one (.int .u32)),(28,.one (.int .i64))])]⟩ Go.Proofs.Tryz.func291 (by kernel_rfl)
def z00k (r:Option Addr):Prog :=
Ak F.a198 [Ah r] λb0=>
Ai (not b0) (
Am 0 [.bool false])<|
AL<|
AI r λa2=>
Ax F.a202 [B1 a2 0] λn3=>
AO ((n3 == 0)=false) r λa5=>
Bx ((n3 == 0)=false) T.a46 (Addr.add a5 0) 0 λl6=>
AO ((n3 == 0)=false) r λa8=>
Ar ((n3 == 0)=false) T.a12 (Addr.add a8 0) 1 λn9=>
.ex [.adr] (c1 λa10=>(n3 == 0)=false->0<=n9/\n9<(AB l6)/\l6.a=some a10) (u1 λa11=>
.read ((n3 == 0)=false) (ld T.a59 (Addr.add a11 (Int.toNat n9*1))) (sI .u8) (u1 λ(n12:Int)=>
AN<|
Ai (n3 == 0 || decide (n12>1)) (
AI r λa14=>
Ao F.a201 [B1 a14 0,Aa 6]<|
Am 0 [.bool false])<|
AI r λa16=>
Az F.a203 [B1 a16 0,Aa 1] λl17=>
.ex [.adr] (c1 λa18=>(0:Int)<=0/\0<(AB l17)/\l17.a=some a18) (u1 λa19=>
B3 T.a59 a19 0 λn20=>
Al (n20 == 1) λb21=>
Am 0 [.bool b21])))
theorem znz (r:Option Addr):FnS (z00k r) F.a193 #[.pointer r]:=dV ⟨[],[],[],[]⟩ Go.Proofs.Tryz.func292 (by kernel_rfl)
def z05i (offset place:Int) (time:Int):Prog :=
Al (decide (offset>=0) && decide (offset<=1099511627776) && decide (place>=0) && decide (place<=4194304) && decide (time>=0) && decide (time<=1099511627776)) λb0=>
Am 0 [.bool b0]
theorem zst (offset place time:Int):FnS (z05i offset place time) F.a46 #[.int .i64 offset,.int .i64 place,.int .i64 time]:=dV ⟨[],[],[],[]⟩ Go.Proofs.Tryz.func293 (by kernel_rfl)
instance:One P T.a13:=⟨by kernel_rfl,by kernel_rfl⟩
instance:One P T.a12:=⟨by kernel_rfl,by kernel_rfl⟩
instance:One P T.a3:=⟨by kernel_rfl,by kernel_rfl⟩
instance:One P T.a59:=⟨by kernel_rfl,by kernel_rfl⟩
instance:One P T.a51:=⟨by kernel_rfl,by kernel_rfl⟩
instance:Agg P T.a47 2:=⟨by kernel_rfl,by kernel_rfl⟩
instance:Agg P T.a31 3:=⟨by kernel_rfl,by kernel_rfl⟩
instance:One P T.a23:=⟨by kernel_rfl,by kernel_rfl⟩
instance:One P T.a1:=⟨by kernel_rfl,by kernel_rfl⟩
instance:One P T.a40:=⟨by kernel_rfl,by kernel_rfl⟩
instance:One P T.a35:=⟨by kernel_rfl,by kernel_rfl⟩
instance:Agg P T.a0 7:=⟨by kernel_rfl,by kernel_rfl⟩
instance:Agg P T.a2 4:=⟨by kernel_rfl,by kernel_rfl⟩
instance:Agg P T.a33 5:=⟨by kernel_rfl,by kernel_rfl⟩
instance:One P T.a34:=⟨by kernel_rfl,by kernel_rfl⟩
instance:One P T.a46:=⟨by kernel_rfl,by kernel_rfl⟩
instance:One P T.a42:=⟨by kernel_rfl,by kernel_rfl⟩
instance:One P T.a21:=⟨by kernel_rfl,by kernel_rfl⟩
instance:Agg P T.a7 5:=⟨by kernel_rfl,by kernel_rfl⟩
instance:One P T.a27:=⟨by kernel_rfl,by kernel_rfl⟩
instance:One P T.a22:=⟨by kernel_rfl,by kernel_rfl⟩
instance:One P T.a26:=⟨by kernel_rfl,by kernel_rfl⟩
instance:Agg P T.a32 6:=⟨by kernel_rfl,by kernel_rfl⟩
instance:One P T.a38:=⟨by kernel_rfl,by kernel_rfl⟩
instance:One P T.a29:=⟨by kernel_rfl,by kernel_rfl⟩
instance:One P T.a44:=⟨by kernel_rfl,by kernel_rfl⟩
instance:Agg P T.a53 3:=⟨by kernel_rfl,by kernel_rfl⟩
instance:Agg P T.a55 3:=⟨by kernel_rfl,by kernel_rfl⟩
instance:One P T.a30:=⟨by kernel_rfl,by kernel_rfl⟩
instance:One P T.a45:=⟨by kernel_rfl,by kernel_rfl⟩
instance:Agg P T.a57 3:=⟨by kernel_rfl,by kernel_rfl⟩
instance:Agg P T.a58 7:=⟨by kernel_rfl,by kernel_rfl⟩
instance:One P T.a43:=⟨by kernel_rfl,by kernel_rfl⟩
instance:One P T.a41:=⟨by kernel_rfl,by kernel_rfl⟩
instance:One P T.a24:=⟨by kernel_rfl,by kernel_rfl⟩
instance:Agg P T.a8 2:=⟨by kernel_rfl,by kernel_rfl⟩
instance:Agg P T.a6 2:=⟨by kernel_rfl,by kernel_rfl⟩
instance:One P T.a37:=⟨by kernel_rfl,by kernel_rfl⟩
instance:Agg P T.a54 3:=⟨by kernel_rfl,by kernel_rfl⟩
instance:One P T.a39:=⟨by kernel_rfl,by kernel_rfl⟩
instance:Agg P T.a48 5:=⟨by kernel_rfl,by kernel_rfl⟩
instance:One P T.a25:=⟨by kernel_rfl,by kernel_rfl⟩
instance:Agg P T.a49 6:=⟨by kernel_rfl,by kernel_rfl⟩
instance:One P T.a28:=⟨by kernel_rfl,by kernel_rfl⟩
instance:Agg P T.a16 2:=⟨by kernel_rfl,by kernel_rfl⟩
instance:Agg P T.a17 4:=⟨by kernel_rfl,by kernel_rfl⟩
instance:One P T.a19:=⟨by kernel_rfl,by kernel_rfl⟩
instance:One P T.a20:=⟨by kernel_rfl,by kernel_rfl⟩
instance:Agg P T.a15 3:=⟨by kernel_rfl,by kernel_rfl⟩
instance:Agg P T.a14 4:=⟨by kernel_rfl,by kernel_rfl⟩
instance:Agg P T.a56 4:=⟨by kernel_rfl,by kernel_rfl⟩
instance:One P T.a18:=⟨by kernel_rfl,by kernel_rfl⟩
instance:Agg P T.a5 3:=⟨by kernel_rfl,by kernel_rfl⟩
instance:Agg P T.a4 7:=⟨by kernel_rfl,by kernel_rfl⟩
instance:Agg P T.a61 3:=⟨by kernel_rfl,by kernel_rfl⟩
instance:Agg P T.a9 3:=⟨by kernel_rfl,by kernel_rfl⟩
instance:Agg P T.a11 3:=⟨by kernel_rfl,by kernel_rfl⟩
instance:One P T.a36:=⟨by kernel_rfl,by kernel_rfl⟩
instance:Agg P T.a10 5:=⟨by kernel_rfl,by kernel_rfl⟩
instance:One P T.a50:=⟨by kernel_rfl,by kernel_rfl⟩
instance:Zer P T.a13 (.int .i64 0):=⟨by kernel_rfl⟩
instance:Zer P T.a12 (.int .i64 0):=⟨by kernel_rfl⟩
instance:Zer P T.a3 (.bool false):=⟨by kernel_rfl⟩
instance:Zer P T.a59 (.int .u8 0):=⟨by kernel_rfl⟩
instance:Zer P T.a51 (.string ⟨#[]⟩):=⟨by kernel_rfl⟩
instance:Zer P T.a47 (.agg #[.int .i64 0,.int .i64 0]):=⟨by kernel_rfl⟩
instance:Zer P T.a31 (.agg #[.int .i64 0,.int .i64 0,.int .i64 0]):=⟨by kernel_rfl⟩
instance:Zer P T.a23 (.pointer none):=⟨by kernel_rfl⟩
instance:Zer P T.a1 (.int .i64 0):=⟨by kernel_rfl⟩
instance:Zer P T.a40 (.slice none 0 0):=⟨by kernel_rfl⟩
instance:Zer P T.a35 (.slice none 0 0):=⟨by kernel_rfl⟩
instance:Zer P T.a0 (.agg #[.int .i64 0,.int .i64 0,.int .i64 0,.int .i64 0,.int .i64 0,.int .i64 0,.slice none 0 0]):=⟨by kernel_rfl⟩
instance:Zer P T.a2 (.agg #[.string ⟨#[]⟩,.string ⟨#[]⟩,.bool false,.int .i64 0]):=⟨by kernel_rfl⟩
instance:Zer P T.a33 (.agg #[.int .i64 0,.string ⟨#[]⟩,.string ⟨#[]⟩,.bool false,.int .i64 0]):=⟨by kernel_rfl⟩
instance:Zer P T.a34 (.slice none 0 0):=⟨by kernel_rfl⟩
instance:Zer P T.a46 (.slice none 0 0):=⟨by kernel_rfl⟩
instance:Zer P T.a42 (.slice none 0 0):=⟨by kernel_rfl⟩
instance:Zer P T.a21 (.map none):=⟨by kernel_rfl⟩
instance:Zer P T.a7 (.agg #[.int .i64 0,.bool false,.int .i64 0,.int .i64 0,.map none]):=⟨by kernel_rfl⟩
instance:Zer P T.a27 (.pointer none):=⟨by kernel_rfl⟩
instance:Zer P T.a22 (.pointer none):=⟨by kernel_rfl⟩
instance:Zer P T.a26 (.pointer none):=⟨by kernel_rfl⟩
instance:Zer P T.a32 (.agg #[.pointer none,.pointer none,.string ⟨#[]⟩,.int .i64 0,.pointer none,.pointer none]):=⟨by kernel_rfl⟩
instance:Zer P T.a38 (.slice none 0 0):=⟨by kernel_rfl⟩
instance:Zer P T.a29 (.pointer none):=⟨by kernel_rfl⟩
instance:Zer P T.a44 (.slice none 0 0):=⟨by kernel_rfl⟩
instance:Zer P T.a53 (.agg #[.int .i64 0,.int .i64 0,.slice none 0 0]):=⟨by kernel_rfl⟩
instance:Zer P T.a55 (.agg #[.int .i64 0,.int .i64 0,.slice none 0 0]):=⟨by kernel_rfl⟩
instance:Zer P T.a30 (.pointer none):=⟨by kernel_rfl⟩
instance:Zer P T.a45 (.slice none 0 0):=⟨by kernel_rfl⟩
instance:Zer P T.a57 (.agg #[.int .i64 0,.slice none 0 0,.slice none 0 0]):=⟨by kernel_rfl⟩
instance:Zer P T.a58 (.agg #[.pointer none,.pointer none,.pointer none,.bool false,.int .i64 0,.pointer none,.pointer none]):=⟨by kernel_rfl⟩
instance:Zer P T.a43 (.slice none 0 0):=⟨by kernel_rfl⟩
instance:Zer P T.a41 (.slice none 0 0):=⟨by kernel_rfl⟩
instance:Zer P T.a24 (.pointer none):=⟨by kernel_rfl⟩
instance:Zer P T.a8 (.agg #[.slice none 0 0,.int .i64 0]):=⟨by kernel_rfl⟩
instance:Zer P T.a6 (.agg #[.bool false,.int .i64 0]):=⟨by kernel_rfl⟩
instance:Zer P T.a37 (.slice none 0 0):=⟨by kernel_rfl⟩
instance:Zer P T.a54 (.agg #[.int .i64 0,.int .i64 0,.slice none 0 0]):=⟨by kernel_rfl⟩
instance:Zer P T.a39 (.slice none 0 0):=⟨by kernel_rfl⟩
instance:Zer P T.a48 (.agg #[.pointer none,.string ⟨#[]⟩,.int .i64 0,.int .i64 0,.slice none 0 0]):=⟨by kernel_rfl⟩
instance:Zer P T.a25 (.pointer none):=⟨by kernel_rfl⟩
instance:Zer P T.a49 (.agg #[.pointer none,.int .i64 0,.int .i64 0,.int .i64 0,.int .i64 0,.int .i64 0]):=⟨by kernel_rfl⟩
instance:Zer P T.a28 (.pointer none):=⟨by kernel_rfl⟩
instance:Zer P T.a16 (.agg #[.int .i64 0,.int .i64 0]):=⟨by kernel_rfl⟩
instance:Zer P T.a17 (.agg #[.int .i64 0,.int .i64 0,.int .i64 0,.int .i64 0]):=⟨by kernel_rfl⟩
instance:Zer P T.a19 (.map none):=⟨by kernel_rfl⟩
instance:Zer P T.a20 (.map none):=⟨by kernel_rfl⟩
instance:Zer P T.a15 (.agg #[.int .i64 0,.map none,.map none]):=⟨by kernel_rfl⟩
instance:Zer P T.a14 (.agg #[.int .i64 0,.int .i64 0,.int .i64 0,.int .i64 0]):=⟨by kernel_rfl⟩
instance:Zer P T.a56 (.agg #[.int .i64 0,.int .i64 0,.int .i64 0,.int .i64 0]):=⟨by kernel_rfl⟩
instance:Zer P T.a18 (.map none):=⟨by kernel_rfl⟩
instance:Zer P T.a5 (.agg #[.int .i64 0,.int .i64 0,.map none]):=⟨by kernel_rfl⟩
instance:Zer P T.a4 (.agg #[.int .i64 0,.int .i64 0,.int .i64 0,.int .i64 0,.int .i64 0,.int .i64 0,.int .i64 0]):=⟨by kernel_rfl⟩
instance:Zer P T.a61 (.agg #[.slice none 0 0,.int .i64 0,.int .i64 0]):=⟨by kernel_rfl⟩
instance:Zer P T.a9 (.agg #[.int .i64 0,.int .i64 0,.int .i64 0]):=⟨by kernel_rfl⟩
instance:Zer P T.a11 (.agg #[.int .i64 0,.int .i64 0,.int .i64 0]):=⟨by kernel_rfl⟩
instance:Zer P T.a36 (.slice none 0 0):=⟨by kernel_rfl⟩
instance:Zer P T.a10 (.agg #[.int .i64 0,.int .i64 0,.int .i64 0,.int .i64 0,.slice none 0 0]):=⟨by kernel_rfl⟩
instance:Zer P T.a50 (.int .u64 0):=⟨by kernel_rfl⟩
instance:SlT P T.a40 T.a33 5 56:=⟨by kernel_rfl,by kernel_rfl⟩
instance:SlT P T.a35 T.a2 4 48:=⟨by kernel_rfl,by kernel_rfl⟩
instance:SlT P T.a34 T.a0 7 72:=⟨by kernel_rfl,by kernel_rfl⟩
instance:SlT P T.a46 T.a59 1 1:=⟨by kernel_rfl,by kernel_rfl⟩
instance:SlT P T.a42 T.a51 1 16:=⟨by kernel_rfl,by kernel_rfl⟩
instance:SlT P T.a38 T.a14 4 32:=⟨by kernel_rfl,by kernel_rfl⟩
instance:SlT P T.a44 T.a54 3 40:=⟨by kernel_rfl,by kernel_rfl⟩
instance:SlT P T.a45 T.a56 4 32:=⟨by kernel_rfl,by kernel_rfl⟩
instance:SlT P T.a43 T.a52 5 56:=⟨by kernel_rfl,by kernel_rfl⟩
instance:SlT P T.a41 T.a46 1 24:=⟨by kernel_rfl,by kernel_rfl⟩
instance:SlT P T.a37 T.a13 1 8:=⟨by kernel_rfl,by kernel_rfl⟩
instance:SlT P T.a39 T.a28 1 8:=⟨by kernel_rfl,by kernel_rfl⟩
instance:SlT P T.a36 T.a9 3 24:=⟨by kernel_rfl,by kernel_rfl⟩
structure RecM where
 key:ByteArray
 value:ByteArray
 gone:Bool
 time:Int
def z00 (r:RecM):List Value:=[.string r.key,.string r.value,.bool r.gone,.int .i64 r.time]
instance:EncA z00 [.str,.str,.bool,.int .i64] (λr=>(r.key,r.value,r.gone,r.time,())):=⟨λ_=>rfl⟩
instance:EncN z00 4:=⟨λ_=>rfl,by decide,by simp [z00,Value.oneCell']⟩
structure BatM where
 base:Int
 pid:Int
 epoch:Int
 seq:Int
 kind:Int
 time:Int
 x:Sl
 rs:List RecM
def zo (b:BatM):List Value:=[.int .i64 b.base,.int .i64 b.pid,.int .i64 b.epoch,.int .i64 b.seq,.int .i64 b.kind,.int .i64 b.time,.slice b.x.a b.x.len b.x.cap]
instance:EncA zo [.int .i64,.int .i64,.int .i64,.int .i64,.int .i64,.int .i64,.slc] (λb=>(b.base,b.pid,b.epoch,b.seq,b.kind,b.time,b.x,())):=⟨λ_=>rfl⟩
instance:EncN zo 7:=⟨λ_=>rfl,by decide,by simp [zo,Value.oneCell']⟩
def z0g (b:BatM):Bool:=decide (b.kind=2) || decide (b.kind=3)
def z63 (b:BatM):Prop:=(0<=b.kind/\b.kind<=3)/\(0<=b.base/\b.base<=1099511627776)/\(0<=b.pid/\b.pid<=1048576)/\(0<=b.epoch/\b.epoch<=32767)/\(0<=b.seq/\b.seq<=2147483647)/\(0<=b.time/\b.time<=1099511627776)
instance (b:BatM):Decidable (z63 b):=by unfold z63;infer_instance
def z4v (b:BatM):Prop:=¬ (b.pid=0/\(b.kind≠0\/b.epoch≠0\/b.seq≠0))/\if z0g b then b.seq=0/\b.rs.length=0 else 0<b.rs.length
instance (b:BatM):Decidable (z4v b):=by unfold z4v;infer_instance
def z23 (r:RecM):Int:=if r.key.size>1024\/r.value.size>1024 then 7 else if ¬ (0<=r.time/\r.time<=1099511627776)\/(r.gone=true/\r.value.size>0) then 2 else 0
def z5g:List RecM->Int
 | []=>0
 | r::rs=>if z23 r≠0 then z23 r else z5g rs
def zp (b:BatM):Int:=if z0g b then 1 else (b.rs.length:Nat)
def z05 (b:BatM):Int:=if ¬ z63 b\/¬ z4v b then 2 else if b.rs.length>64 then 7 else if z5g b.rs≠0 then z5g b.rs else
 if b.base>1099511627776-(zp b-1)\/(b.pid>0/\z0g b=false/\b.seq>2147483647-(zp b-1)) then 24 else 0
def z1m (b:BatM):Int:=if z05 b≠0 then 0 else b.base+zp b
theorem zh8:∀ (rs:List RecM) (i:Nat) (hi:i<rs.length),z5g (rs.take i)=0->z23 rs[i]≠0->z5g rs=z23 rs[i]
 | r::rs,0,_,_,h=>by
  have h:z23 r≠0:=h
  show (if z23 r≠0 then z23 r else z5g rs)=z23 r
  rw [if_pos h]
 | r::rs,i+1,hi,h1,h2=>by
  have h1:(if z23 r≠0 then z23 r else z5g (rs.take i))=0:=h1
  by_cases h:z23 r≠0
  ·rw [if_pos h] at h1;exact absurd h1 h
  ·rw [if_neg h] at h1
   show (if z23 r≠0 then z23 r else z5g rs)=_
   rw [if_neg h]
   exact zh8 rs i (by simpa using hi) h1 h2
theorem zh7:∀ (rs:List RecM) (i:Nat) (hi:i<rs.length),z5g (rs.take i)=0->z23 rs[i]=0->z5g (rs.take (i+1))=0
 | r::rs,0,_,_,h=>by
  have h:z23 r=0:=h
  show (if z23 r≠0 then z23 r else z5g (rs.take 0))=0
  rw [if_neg (by rw [h];simp)];rfl
 | r::rs,i+1,hi,h1,h2=>by
  have h1:(if z23 r≠0 then z23 r else z5g (rs.take i))=0:=h1
  by_cases h:z23 r≠0
  ·rw [if_pos h] at h1;exact absurd h1 h
  ·rw [if_neg h] at h1
   show (if z23 r≠0 then z23 r else z5g (rs.take (i+1)))=0
   rw [if_neg h]
   exact zh7 rs i (by simpa using hi) h1 h2
theorem zkz {s:ByteArray}:s.size>0↔s≠ByteArray.mk #[]:=by
 constructor
 ·rintro h rfl;exact absurd h (Nat.lt_irrefl 0)
 ·intro h
  rcases Nat.eq_zero_or_pos s.size with h0|h0
  ·exfalso
   apply h
   obtain ⟨⟨l⟩⟩:=s
   have h0:l.length=0:=h0
   rw [List.length_eq_zero_iff.1 h0]
  ·exact h0
section
variable {w:World} {l r:List HP} {b:BatM}
theorem z66 (b:BatM) (hs:Sat w l):Ret P F.a95 #[.agg (zo b).toArray] w λvs w'=>vs=[.bool (z0g b)]/\Sat w' l :=
 zlz b.base b.pid b.epoch b.seq b.kind b.time b.x <| by
  delta zyx AD Al Am Ap Aq Ar
  refine zn hs λa0 w' hs=>?_
  refine za hs ?_
  refine za hs ?_
  refine wp_lt ?_
  exact ⟨rfl,rfl,hs.tail⟩
theorem z010 (b:BatM) (hs:Sat w l):Ret P F.a168 #[.agg (zo b).toArray] w λvs w'=>vs=[.bool (z0g b)]/\Sat w' l :=
 zng b.base b.pid b.epoch b.seq b.kind b.time b.x <| by
  delta z001 AD Al Am Ap Aq Ar
  refine zn hs λa0 w' hs=>?_
  refine za hs ?_
  refine za hs ?_
  refine wp_lt ?_
  exact ⟨rfl,rfl,hs.tail⟩
theorem zbb (n lo hi:Int) (hs:Sat w l):Ret P F.a101 #[.int .i64 n,.int .i64 lo,.int .i64 hi] w λvs w'=>vs=[.bool (decide (lo<=n/\n<=hi))]/\Sat w' l :=
 zm5 n lo hi <| by
  delta zz3 Al Am
  refine wp_lt ?_
  exact ⟨rfl,by rw [Bool.decide_and],hs⟩
theorem zvp (b:BatM) [hb:FocR l b.x 4 (b.rs.flatMap z00)] (hs:Sat w l):Ret P F.a91 #[.agg (zo b).toArray] w λvs w'=>vs=[.int .i64 (zp b)]/\Sat w' l :=
 ztr b.base b.pid b.epoch b.seq b.kind b.time b.x <| by
  delta z06e AB AD AE Aa Ac Ai Ak Am Ap Bp;unfold zp
  have hl:=hs.slen b.x (xs:=b.rs) (enc:=z00)
  refine zn hs λa0 w' hs=>?_
  refine zk hs ?_
  refine z8 (z66 b hs) λ_ _ hs=>?_
  obtain ⟨rfl,hs⟩:=hs
  refine zb ?_
  refine ze (λh=>?_) λh=>?_
  ·rw [if_pos h];exact ⟨rfl,rfl,hs.tail⟩
  ·rw [if_neg h]
   refine za hs ?_
   refine wp_lt ?_
   rw [hl]
   exact ⟨rfl,rfl,hs.tail⟩
theorem zxn (r:RecM) (hs:Sat w l):Ret P F.a99 #[.agg (z00 r).toArray] w λvs w'=>vs=[.int .i64 (z23 r)]/\Sat w' l :=
 zm3 r.key r.value r.gone r.time <| by
  delta zz1 AH AT Aa Ak Am Ap Aq B7 BI Bc;unfold z23
  refine zn hs λa0 w' hs=>?_
  refine za hs ?_
  refine za hs ?_
  refine wp_lt ?_
  refine ze (λh=>?_) λh=>?_
  ·rw [if_pos (by omega)];exact ⟨rfl,rfl,hs.tail⟩
  rw [if_neg (by omega)]
  refine za hs ?_
  refine z8 (zbb r.time 0 1099511627776 hs) λ_ _ hs=>?_
  obtain ⟨rfl,hs⟩:=hs
  refine zb ?_
  refine za hs ?_
  refine za hs ?_
  refine wp_lt ?_
  have e:(¬ (0<=r.time/\r.time<=1099511627776)\/(r.gone=true/\r.value.size>0))↔(¬ (0<=r.time/\r.time<=1099511627776)\/(r.gone=true/\¬ r.value=ByteArray.mk #[])):=by rw [zkz]
  refine ze (λh=>?_) λh=>?_
  ·rw [if_pos (e.2 h)];exact ⟨rfl,rfl,hs.tail⟩
  ·rw [if_neg (λh2=>h (e.1 h2))];exact ⟨rfl,rfl,hs.tail⟩
theorem zv4 (b:BatM) (hs:Sat w l):Ret P F.a96 #[.agg (zo b).toArray] w λvs w'=>vs=[.bool (decide (z63 b))]/\Sat w' l :=
 zm0 b.base b.pid b.epoch b.seq b.kind b.time b.x <| by
  delta zyy AD Aa Ai Aj Ak Al Am Ap Aq Ar
  refine zn hs λa0 w' hs=>?_
  refine zf (λv w'=>v=(decide (z63 b),())/\Sat w' l) ?_ (by rintro _ w' ⟨rfl,hs⟩;refine zm ?_;exact ⟨rfl,rfl,hs⟩)
  have hno:∀ {w'},¬ z63 b->Sat w' (pt a0 (.cells #[.int .i64 b.base,.int .i64 b.pid,.int .i64 b.epoch,.int .i64 b.seq,.int .i64 b.kind,.int .i64 b.time,.slice b.x.a b.x.len b.x.cap] T.a0)::l)->((false,()):Bool × Unit)=(decide (z63 b),())/\Sat w' l:=λh hs=>⟨by rw [decide_eq_false h],hs.tail⟩
  refine za hs ?_
  refine za hs ?_
  refine za hs ?_
  refine ze (λh1=>?_) λh1=>?_
  rotate_left
  ·exact zg (hno (λh=>h1 h.1) hs)
  refine z8 (zbb b.base 0 1099511627776 hs) λ_ _ hs=>?_
  obtain ⟨rfl,hs⟩:=hs
  refine zb ?_
  refine za hs ?_
  refine ze (λh2=>?_) λh2=>?_
  rotate_left
  ·exact zg (hno (λh=>h2 h.2.1) hs)
  refine z8 (zbb b.pid 0 1048576 hs) λ_ _ hs=>?_
  obtain ⟨rfl,hs⟩:=hs
  refine zb ?_
  refine za hs ?_
  refine za hs ?_
  refine za hs ?_
  refine za hs ?_
  refine za hs ?_
  refine ze (λh3=>?_) λh3=>?_
  rotate_left
  ·exact zg (hno (λh=>h3 ⟨⟨⟨⟨h.2.2.1,h.2.2.2.1.1⟩,h.2.2.2.1.2⟩,h.2.2.2.2.1.1⟩,h.2.2.2.2.1.2⟩) hs)
  refine z8 (zbb b.time 0 1099511627776 hs) λ_ _ hs=>?_
  obtain ⟨rfl,hs⟩:=hs
  refine zb ?_
  refine wp_lt ?_
  refine zg ⟨?_,hs.tail⟩
  have:(z63 b)↔(0<=b.time/\b.time<=1099511627776):=⟨λh=>h.2.2.2.2.2,λh=>⟨h1,h2,h3.1.1.1.1,⟨h3.1.1.1.2,h3.1.1.2⟩,⟨h3.1.2,h3.2⟩,h⟩⟩
  rw [decide_eq_decide.2 this]
theorem z032 (b:BatM) [hb:FocR l b.x 4 (b.rs.flatMap z00)] (hs:Sat w l):Ret P F.a94 #[.agg (zo b).toArray] w λvs w'=>vs=[.bool (decide (z4v b))]/\Sat w' l :=
 zly b.base b.pid b.epoch b.seq b.kind b.time b.x <| by
  delta zyw AB AD AE Ai Ak Al Am Ap Aq Ar Bp Bx
  have hl:=hs.slen b.x (xs:=b.rs) (enc:=z00)
  refine zn hs λa0 w' hs=>?_
  refine za hs ?_
  refine za hs ?_
  refine za hs ?_
  refine za hs ?_
  refine ze (λh1=>?_) λh1=>?_
  ·have:¬ z4v b:=λh=>h.1 ⟨h1.1,or_assoc.1 h1.2⟩
   exact ⟨rfl,by rw [decide_eq_false this],hs.tail⟩
  have h1:¬ (b.pid=0/\(b.kind≠0\/b.epoch≠0\/b.seq≠0)):=λh=>h1 ⟨h.1,or_assoc.2 h.2⟩
  refine zk hs ?_
  refine z8 (z66 b hs) λ_ _ hs=>?_
  obtain ⟨rfl,hs⟩:=hs
  refine zb ?_
  refine ze (λh2=>?_) λh2=>?_
  ·refine za hs ?_
   refine za hs ?_
   refine wp_lt ?_
   refine ⟨rfl,?_,hs.tail⟩
   have:z4v b↔(b.seq=0/\b.rs.length=0):=by
    unfold z4v
    rw [if_pos h2]
    exact ⟨λh=>h.2,λh=>⟨h1,h⟩⟩
   congr 2
   rw [Bool.eq_iff_iff,decide_eq_true_iff,this,Bool.and_eq_true,beq_iff_eq,beq_iff_eq,hl]
   omega
  ·refine za hs ?_
   refine wp_lt ?_
   refine ⟨rfl,?_,hs.tail⟩
   have:z4v b↔0<b.rs.length:=by
    unfold z4v
    rw [if_neg h2]
    exact ⟨λh=>h.2,λh=>⟨h1,h⟩⟩
   congr 2
   rw [Bool.eq_iff_iff,decide_eq_true_iff,decide_eq_true_iff,this,hl]
   omega
theorem z8o (b:BatM) [hb:FocR l b.x 4 (b.rs.flatMap z00)] (hs:Sat w l):Ret P F.a92 #[.agg (zo b).toArray] w λvs w'=>vs=[.int .i64 (z05 b)]/\Sat w' l :=
 zts b.base b.pid b.epoch b.seq b.kind b.time b.x <| by
  delta z06f AA AB AD AE AF AH AP Aa Ac Ad Ae Ai Aj Ak Al Am Ap Aq Ar Ax Ay BH BI BJ Bp;unfold z05
  have hl:=hs.slen b.x (xs:=b.rs) (enc:=z00)
  refine zn hs λa0 w' hs=>?_
  refine zf (λv w'=>v=(decide (¬ z63 b\/¬ z4v b),())/\Sat w' (pt a0 (.cells #[.int .i64 b.base,.int .i64 b.pid,.int .i64 b.epoch,.int .i64 b.seq,.int .i64 b.kind,.int .i64 b.time,.slice b.x.a b.x.len b.x.cap] T.a0)::l)) ?_ ?_
  ·refine zk hs ?_
   refine z8 (zv4 b hs) λ_ _ hs=>?_
   obtain ⟨rfl,hs⟩:=hs
   refine zb ?_
   refine zk hs ?_
   refine ze (λh1=>?_) λh1=>?_
   ·exact zg ⟨by rw [decide_eq_true (.inl h1)],hs⟩
   refine z8 (z032 b hs) λ_ _ hs=>?_
   obtain ⟨rfl,hs⟩:=hs
   refine zb ?_
   refine wp_lt ?_
   refine zg ⟨?_,hs⟩
   have:(¬ z63 b\/¬ z4v b)↔¬ z4v b:=⟨λh=>h.resolve_left h1,.inr⟩
   rw [decide_eq_decide.2 this,decide_not]
  clear hs
  rintro _ w ⟨rfl,hs⟩
  refine zm ?_
  refine ze (λh1=>?_) λh1=>?_
  ·rw [if_pos h1];exact ⟨rfl,rfl,hs.tail⟩
  rw [if_neg h1]
  have hnum:z63 b:=Decidable.not_not.1 λh=>h1 (.inl h)
  have hfit:z4v b:=Decidable.not_not.1 λh=>h1 (.inr h)
  refine za hs ?_
  refine wp_lt ?_
  refine ze (λh2=>?_) λh2=>?_
  ·rw [if_pos (by omega)];exact ⟨rfl,rfl,hs.tail⟩
  rw [if_neg (by omega)]
  refine za hs ?_
  refine zf (λv w'=>z5g b.rs=0/\Sat w' (pt a0 (.cells #[.int .i64 b.base,.int .i64 b.pid,.int .i64 b.epoch,.int .i64 b.seq,.int .i64 b.kind,.int .i64 b.time,.slice b.x.a b.x.len b.x.cap] T.a0)::l)) ?_ ?_
  ·refine z02 (λk v w=>∃ i:Nat,v=((i:Int),())/\i<=b.rs.length/\b.rs.length-i=k/\z5g (b.rs.take i)=0/\Sat w (pt a0 (.cells #[.int .i64 b.base,.int .i64 b.pid,.int .i64 b.epoch,.int .i64 b.seq,.int .i64 b.kind,.int .i64 b.time,.slice b.x.a b.x.len b.x.cap] T.a0)::l)) b.rs.length ⟨0,rfl,by omega,rfl,rfl,hs⟩ ?_
   clear hs
   rintro k _ w ⟨i,rfl,hi,hk,hbad,hs⟩
   refine zm ?_
   refine ze (λhc=>?_) λhc=>?_
   rotate_left
   ·refine zh (zg ⟨?_,hs⟩)
    rwa [List.take_of_length_le (by omega)] at hbad
   have hil:i<b.rs.length:=by omega
   refine z32 hs i hil ?_
   refine zt hs λc w' hs=>?_
   refine zu hs λw' hs=>?_
   refine zk hs ?_
   refine z8 (zxn b.rs[i] hs) λ_ _ hs=>?_
   obtain ⟨rfl,hs⟩:=hs
   refine zb ?_
   refine wp_lt ?_
   refine ze (λh3=>?_) λh3=>?_
   ·refine wp_lt ?_
    refine zh (zh ?_)
    have:=zh8 b.rs i hil hbad h3
    rw [if_pos (by rw [this];exact h3),this]
    exact ⟨rfl,rfl,hs.tail.tail⟩
   ·refine z3f (us':=[.int .i64 ((i+1:Nat):Int)]) (by (try simp (disch:=omega) only [w64]);first|rfl|(congr;omega)) ?_
    refine z0z (b.rs.length-(i+1)) ?_
    exact ⟨i+1,rfl,by omega,rfl,zh7 b.rs i hil hbad (Decidable.not_not.1 h3),hs.sub⟩
  clear hs
  rintro _ w ⟨hbad,hs⟩
  refine zm ?_
  rw [if_neg (by rw [hbad];simp)]
  refine zk hs ?_
  refine z8 (zvp b hs) λ_ _ hs=>?_
  obtain ⟨rfl,hs⟩:=hs
  refine zb ?_
  have hsp:1<=zp b/\zp b<=64:=by
   unfold zp
   have h3:=hfit.2
   split
   ·omega
   ·rename_i hm
    rw [if_neg hm] at h3
    omega
  obtain ⟨-,hba,-,-,hse,-⟩:=hnum
  refine z1z (y:=zp b-1) ?_ (by rw [w64 (by omega) (by omega)])
  refine zf (λv w'=>v=(decide (b.base>1099511627776-(zp b-1)\/(b.pid>0/\z0g b=false/\b.seq>2147483647-(zp b-1))),())/\Sat w' l) ?_ ?_
  ·rw [w64 (x:=1099511627776-(zp b-1)) (by omega) (by omega)]
   refine za hs ?_
   refine za hs ?_
   refine zk hs ?_
   refine ze (λh3=>?_) λh3=>?_
   ·exact zg ⟨by rw [decide_eq_true (.inl h3)],hs.tail⟩
   refine ze (λh4=>?_) λh4=>?_
   rotate_left
   ·exact zg ⟨by rw [decide_eq_false (λh=>h.elim h3 λh=>h4 h.1)],hs.tail⟩
   refine z8 (z66 b hs) λ_ _ hs=>?_
   obtain ⟨rfl,hs⟩:=hs
   refine zb ?_
   refine za hs ?_
   rw [w64 (x:=2147483647-(zp b-1)) (by omega) (by omega)]
   refine zg ⟨?_,hs.tail⟩
   have:(b.base>1099511627776-(zp b-1)\/(b.pid>0/\z0g b=false/\b.seq>2147483647-(zp b-1)))↔(z0g b=false/\b.seq>2147483647-(zp b-1)):=⟨λh=>(h.resolve_left h3).2,λh=>.inr ⟨h4,h⟩⟩
   rw [decide_eq_decide.2 this,Bool.decide_and]
   cases z0g b <;> rfl
  clear hs
  rintro _ w ⟨rfl,hs⟩
  refine zm ?_
  refine ze (λh3=>?_) λh3=>?_
  ·rw [if_pos h3];exact ⟨rfl,rfl,hs⟩
  ·rw [if_neg h3];exact ⟨rfl,rfl,hs⟩
theorem z11 (b:BatM) (hv:z05 b=0):1<=zp b/\zp b<=64/\z63 b/\z4v b/\b.base+zp b<=1099511627777:=by
 unfold z05 at hv
 split at hv
 ·cases hv
 rename_i h1
 have hnum:z63 b:=Decidable.not_not.1 λh=>h1 (.inl h)
 have hfit:z4v b:=Decidable.not_not.1 λh=>h1 (.inr h)
 split at hv
 ·cases hv
 rename_i h2
 split at hv
 ·rename_i h3;exact absurd hv h3
 split at hv
 ·cases hv
 rename_i h4
 have hsp:1<=zp b/\zp b<=64:=by
  unfold zp
  have h3:=hfit.2
  split
  ·omega
  ·rename_i hm
   rw [if_neg hm] at h3
   omega
 refine ⟨hsp.1,hsp.2,hnum,hfit,?_⟩
 apply Decidable.byContradiction
 intro h5
 exact h4 (.inl (by omega))
theorem z8m (b:BatM) [hb:FocR l b.x 4 (b.rs.flatMap z00)] (hs:Sat w l):Ret P F.a90 #[.agg (zo b).toArray] w λvs w'=>vs=[.int .i64 (z1m b)]/\Sat w' l :=
 ztq b.base b.pid b.epoch b.seq b.kind b.time b.x <| by
  delta z06d AD AE AF AL AN Aa Ac Ai Am Ap Ax Bj;unfold z1m
  refine zn hs λa0 w' hs=>?_
  refine zk hs ?_
  refine z8 (z8o b hs) λ_ _ hs=>?_
  obtain ⟨rfl,hs⟩:=hs
  refine zb ?_
  refine ze (λh=>?_) λh=>?_
  ·rw [if_pos h];exact ⟨rfl,rfl,hs.tail⟩
  rw [if_neg h]
  obtain ⟨h1,h2,h3,-⟩:=z11 b (Decidable.not_not.1 h)
  have h3:=h3.2.1
  refine zy hs λw' hs=>?_
  refine z0x hs ?_
  refine zk hs ?_
  refine z8 (zvp b hs) λ_ w' hs=>?_
  obtain ⟨rfl,hs⟩:=hs
  refine zb ?_ ⟨trivial,λ_=>z08 hs⟩
  refine z1z (y:=b.base+zp b) ?_ (by rw [w64 (by omega) (by omega)])
  refine zd ?_
  exact ⟨rfl,rfl,hs.tail⟩
end
theorem zi0 {K V:Type} {kk:K} {v v':V}:∀ {es:List (K × V)},(es.map Prod.fst).Nodup->(kk,v) ∈ es->(kk,v') ∈ es->v'=v
 | a::r,hnd,hv,hv'=>by
  rw [List.map_cons,List.nodup_cons] at hnd
  rcases List.mem_cons.1 hv with h1|h1 <;> rcases List.mem_cons.1 hv' with h2|h2
  ·rw [<- h1] at h2;exact (Prod.mk.inj h2).2
  ·exact absurd (List.mem_map.2 ⟨_,h2,by rw [<- h1]⟩) hnd.1
  ·exact absurd (List.mem_map.2 ⟨_,h1,by rw [<- h2]⟩) hnd.1
  ·exact zi0 hnd.2 h1 h2
section
variable {K V:Type} {ek:K->Value} {ev:V->Value} {m:Nat} {es:List (K × V)} {P:Program} {w:World} {l r:List HP} {Q:Post} {S:World->Prop} {T kt:TypeId} {z:Value} {g:Prop} {kk:K} {kv:Value}
theorem zoy [hf:FoM l m ek ev es r] [hT:MapT P T kt z] [hk:KeyT P kt ek] [hkv:IsK ek kv kk] (hs:Sat w l) {v:V} (hv:(kk,v) ∈ es) {ss:List Sh1} {x:HL (prims ss)} (hx:z16 ss x=[ev v,.bool true]) :
  (Instr.lookup T (.map (some m)) kv true).run P w=.ok ((Sh.tup ss).mk x) w:=by
 have hs:=hs.perm hf.perm
 have hnd:=hs.mapNodup
 rcases zb4 (P:=P) (T:=T) true hs kk with ⟨v',hv',hr⟩|⟨hno,-⟩
 ·have:v'=v:=zi0 hnd hv hv'
  rw [hkv.ok,hr,this]
  show Result.ok (Value.tuple #[ev v,.bool true]) w=Result.ok (Value.tuple (z16 ss x).toArray) w
  rw [hx]
 ·exact absurd hv (hno _)
theorem zk7 [hf:FoM l m ek ev es r] [hT:MapT P T kt z] [hk:KeyT P kt ek] [hkv:IsK ek kv kk] (hs:Sat w l) (hv:∀ v,(kk,v) ∉ es) {ss:List Sh1} {x:HL (prims ss)} (hx:z16 ss x=[z,.bool false]) :
  (Instr.lookup T (.map (some m)) kv true).run P w=.ok ((Sh.tup ss).mk x) w:=by
 have hs:=hs.perm hf.perm
 rcases zb4 (P:=P) (T:=T) true hs kk with ⟨v',hv',hr⟩|⟨-,hr⟩
 ·exact absurd hv' (hv _)
 ·rw [hkv.ok,hr]
  show Result.ok (Value.tuple #[z,.bool false]) w=Result.ok (Value.tuple (z16 ss x).toArray) w
  rw [hx]
theorem zbc {ss:List Sh1} {k:HL (prims ss)->Prog} [hf:FoM l m ek ev es r] [hT:MapT P T kt z] [hk:KeyT P kt ek] [hkv:IsK ek kv kk] (hs:Sat w l) (o:Option V) (ho:(∃ v,o=some v/\(kk,v) ∈ es)\/(o=none/\∀ v,(kk,v) ∉ es)) (d:Option V->HL (prims ss))
  (h:(k (d o)).wp P (λw'=>S w'/\(g->(Instr.lookup T (.map (some m)) kv true).run P w'=.ok ((Sh.tup ss).mk (d o)) w')) w Q) (h1:∀ v,z16 ss (d (some v))=[ev v,.bool true]:=by intros;rfl) (h0:z16 ss (d none)=[z,.bool false]:=by rfl) :
  (Prog.hold g (Instr.lookup T (.map (some m)) kv true) (.tup ss) k).wp P S w Q:=by
 refine ⟨d o,λ_=>?_,h⟩
 rcases ho with ⟨v,rfl,hv⟩|⟨rfl,hv⟩
 ·exact zoy hs hv (h1 v)
 ·exact zk7 hs hv h0
theorem z7y {ss:List Sh1} [hf:FoM l m ek ev es r] [hT:MapT P T kt z] [hk:KeyT P kt ek] [hkv:IsK ek kv kk] (hs:Sat w l) {o:Option V} (ho:(∃ v,o=some v/\(kk,v) ∈ es)\/(o=none/\∀ v,(kk,v) ∉ es)) (d:Option V->HL (prims ss))
  (h1:∀ v,z16 ss (d (some v))=[ev v,.bool true]:=by intros;rfl) (h0:z16 ss (d none)=[z,.bool false]:=by rfl) :
  (Instr.lookup T (.map (some m)) kv true).run P w=.ok ((Sh.tup ss).mk (d o)) w:=by
 rcases ho with ⟨v,rfl,hv⟩|⟨rfl,hv⟩
 ·exact zoy hs hv (h1 v)
 ·exact zk7 hs hv h0
theorem zya {ss:List Sh1} {k:HL (prims ss)->Prog} [hf:FoM l m ek ev es r] [hT:MapT P T kt z] [hk:KeyT P kt ek] [hkv:IsK ek kv kk] (hs:Sat w l) (o:Option V) (ho:(∃ v,o=some v/\(kk,v) ∈ es)\/(o=none/\∀ v,(kk,v) ∉ es)) (d:Option V->HL (prims ss))
  (h:(k (d o)).wp P S w Q) (h1:∀ v,z16 ss (d (some v))=[ev v,.bool true]:=by intros;rfl) (h0:z16 ss (d none)=[z,.bool false]:=by rfl) :
  (Prog.read g (Instr.lookup T (.map (some m)) kv true) (.tup ss) k).wp P S w Q :=
 ⟨d o,λ_=>z7y hs ho d h1 h0,h⟩
end
section
variable {P:Program} {w:World} {l r:List HP} {Q:Post} {S:World->Prop} {t:TypeId} {sz:Nat}
theorem zyv {α β γ δ:Type} {f:α->β->γ->δ->Prog} (a:α) (b:β) (c:γ) (d:δ) (h:(f a b c d).wp P S w Q):(u4 f (a,b,c,d,())).wp P S w Q:=h
theorem zpv {α:Type} {enc:α->List Value} {n:Nat} {ps:Array (Nat × Value)} {el:TypeId} {bytes:Nat} {k:Sl->Prog} (hs:Sat w l) [ht:SlT P t el sz bytes] [hE:EncN enc sz] (xs:List α)
  (h:∀ x w',Sat w' (slc el sz x (xs.flatMap enc)::l)->(k x).wp P S w' Q) (hc:z3v P t n ps=some (el,(xs.flatMap enc).toArray):=by kernel_rfl) (hn:xs.length=n:=by rfl) (hS:∀ w',S w':=by exact λ_=>trivial) :
  (Prog.act (Instr.buildSlice t n ps) sL (u1 k)).wp P S w Q:=z8q hs xs hc (λb w' hs=>h _ w' hs) (by simp) hn hS
end
section
variable {P:Program} {w:World} {l r:List HP} {Q:Post} {S:World->Prop} {α β γ δ ε ζ η θ:Type}
theorem z2p {f:α->β->Prog} (a:α) (b:β) (h:(f a b).wp P S w Q):(u2 f (a,b,())).wp P S w Q:=h
theorem z7t {f:α->β->γ->Prog} (a:α) (b:β) (c:γ) (h:(f a b c).wp P S w Q):(u3 f (a,b,c,())).wp P S w Q:=h
theorem z8i {f:α->β->γ->δ->ε->Prog} (a:α) (b:β) (c:γ) (d:δ) (e:ε) (h:(f a b c d e).wp P S w Q):(u5 f (a,b,c,d,e,())).wp P S w Q:=h
theorem zj4 {f:α->β->γ->δ->ε->ζ->η->Prog} (a:α) (b:β) (c:γ) (d:δ) (e:ε) (z:ζ) (y:η) (h:(f a b c d e z y).wp P S w Q):(u7 f (a,b,c,d,e,z,y,())).wp P S w Q:=h
theorem zd3 {f:α->β->γ->δ->ε->ζ->η->θ->Prog} (a:α) (b:β) (c:γ) (d:δ) (e:ε) (z:ζ) (y:η) (x:θ) (h:(f a b c d e z y x).wp P S w Q):(u8 f (a,b,c,d,e,z,y,x,())).wp P S w Q:=h
theorem zvx {f : FuncId} {cap : Array Value} {args : List Value} {s : Sh} {k : HL s.prims → Prog} {vs₀ : List Value} {R : World → Prop} (hok : (P.funcs[f]?).any (fun fn => fn.body.isSome && fn.name != "runtime.NumGoroutine") = true) (x : HL s.prims)
  (hc:Ret P f (args.toArray++cap) w λvs w'=>vs=vs₀/\R w') (hx:z7h vs₀=s.mk x) (h:∀ w',R w'->S w'/\(k x).wp P S w' Q):(Prog.callv (.func (.func f) #[] cap) args s k).wp P S w Q:=by
 refine ⟨f,#[],cap,rfl,hok,?_⟩
 have e:(#[]:Array Value)++args.toArray++cap=args.toArray++cap:=by simp
 rw [e]
 refine Calls.mono hc λe w' ⟨vs,he,hv,hR⟩=>?_
 exact ⟨x,by rw [he,hv,hx],h w' hR⟩
end
section
variable {P:Program} {w:World} {l r:List HP} {Q:Post} {S:World->Prop} {b off:Nat} {T T':TypeId} {g:Prop}
theorem z029 {a:Addr} {vs:List Value} {fr:Nat × Nat} {ps:List Pr} (x:HL ps) {n:Nat} (hs:Sat w l) [ha:AddrIs a b off] [hb:FocB l b (.cells vs.toArray T' fr) r] [hT:Agg P T n] (hx:(vs.drop off).take n=HL.vals ps x) (hn:(HL.vals ps x).length=n) :
  (ld T a).run P w=.ok ((Sh.one (.agg ps)).mk x) w:=by
 rw [ha.ok]
 refine At.ldA (P:=P) (T:=T) (vs:=HL.vals ps x) ⟨b,off,vs.toArray,T',fr,rfl,(hs.focB b).get,λi hi=>?_⟩ hn
 rw [<- hx,List.getElem?_take,if_pos (by omega),List.getElem?_drop]
 simp
theorem zg2 {a:Addr} {vs:List Value} {fr:Nat × Nat} {ps:List Pr} {k:HL ps->Prog} (hs:Sat w l) (x:HL ps) {n:Nat} [ha:AddrIs a b off] [hb:FocB l b (.cells vs.toArray T' fr) r] [hT:Agg P T n] {p:Prog} [hA:App k x p]
  (h:p.wp P S w Q) (hx:(vs.drop off).take n=HL.vals ps x:=by rfl) (hn:(HL.vals ps x).length=n:=by rfl):(Prog.read g (ld T a) (.one (.agg ps)) k).wp P S w Q :=
 ⟨x,λ_=>z029 (T:=T) x hs hx hn,by rw [hA.ok];exact h⟩
end
section
variable {P:Program} {w:World} {l r:List HP} {Q:Post} {S:World->Prop} {T:TypeId} {sz:Nat} {x:Sl}
theorem At.part {A:Addr} {vs:List Value} (h:At w A vs) (j q:Nat):At w (A.add j) ((vs.drop j).take q):=by
 obtain ⟨b,o,arr,T',fr,rfl,hb,hc⟩:=h
 refine ⟨b,o+j,arr,T',fr,z3y ..,hb,λi hi=>?_⟩
 rw [List.length_take,List.length_drop] at hi
 rw [List.getElem?_take,if_pos (by omega),List.getElem?_drop,Nat.add_assoc,hc (j+i) (by omega)]
end
structure TabA where
 most:Int
 next:Int
 rows:List RowA
def z52 (A:TabA) (pid:Int):Option RowA:=A.rows.find? λr=>decide (r.pid=pid)
def z03z (pid:Int):RowA:=⟨pid,-1,0,0,0,-1,0⟩
def z0r (A:TabA) (pid:Int):RowA:=(z52 A pid).getD (z03z pid)
def z8e (rs:List RowA):List RowA:=rs.filter λr=>decide (0<=r.frm)
structure okRw (r:RowA) (next:Int):Prop where
 pid:1<=r.pid/\r.pid<=1048576
 epoch:0<=r.epoch/\r.epoch<=32768
 time:0<=r.time/\r.time<=1099511627776
 count:0<=r.count/\r.count<=64
 seq:0<=r.seq
 base:0<=r.base
 frm : -1<=r.frm
 none_:r.count=0->r.seq=0/\r.base=0/\r.frm = -1
 some_:0<r.count->r.epoch<=32767/\r.seq+r.count<=2147483648/\r.base+r.count<=next/\r.frm<=r.base
structure okTb (A:TabA):Prop where
 most:1<=A.most/\A.most<=4096
 next:0<=A.next/\A.next<=1099511627777
 many:(A.rows.length:Int)<=A.most
 row:∀ r ∈ A.rows,okRw r A.next
 byPid:A.rows.Pairwise λa b=>a.pid<b.pid
 apart:(z8e A.rows).Pairwise λa b=>a.frm≠b.frm
instance:KeyT P T.a13 ekI:=zk2 (by kernel_rfl)
instance:MapT P T.a18 T.a13 (.agg #[.int .i64 0,.int .i64 0,.int .i64 0,.int .i64 0,.int .i64 0,.int .i64 0,.int .i64 0]):=⟨T.a4,by kernel_rfl,by kernel_rfl⟩
def z33 (rs:List RowA):List (Int × RowA):=rs.map λr=>(r.pid,r)
def tb (t:Nat) (A:TabA):HP:=HP.ex λm:Nat=>HP.and (okTb A) (HP.star (pt t (.cells #[.int .i64 A.most,.int .i64 A.next,.map (some m)] T.a5)) (z18 ekI evW m (z33 A.rows)))
theorem okRw.seqs {r:RowA} {next:Int} (h:okRw r next):r.seq+r.count<=2147483648:=by
 have h1:=h.count;have h2:=h.seq
 rcases Int.lt_or_le 0 r.count with h3|h3
 ·exact (h.some_ h3).2.1
 ·have:=(h.none_ (by omega)).1;omega
theorem z2g {A:TabA} {pid:Int} {t:RowA} (h:z52 A pid=some t):t ∈ A.rows/\t.pid=pid:=⟨List.mem_of_find?_eq_some h,by simpa using List.find?_some h⟩
theorem zck {A:TabA} {pid:Int} (h:z52 A pid=none):∀ t ∈ A.rows,t.pid≠pid:=λt ht=>by simpa using List.find?_eq_none.1 h t ht
theorem zia (A:TabA) (pid:Int):(∃ t,z52 A pid=some t/\(pid,t) ∈ z33 A.rows)\/(z52 A pid=none/\∀ t,(pid,t) ∉ z33 A.rows):=by
 cases h:z52 A pid with
 | some t=>exact .inl ⟨t,rfl,List.mem_map.2 ⟨t,(z2g h).1,by rw [(z2g h).2]⟩⟩
 | none=>exact .inr ⟨rfl,λt ht=>by
   obtain ⟨u,hu,e⟩:=List.mem_map.1 ht
   simp only [Prod.mk.injEq] at e
   exact zck h u hu e.1⟩
theorem zgv {A:TabA} (hok:okTb A) (pid:Int):0<=(z0r A pid).seq/\0<=(z0r A pid).count/\(z0r A pid).seq+(z0r A pid).count<=2147483648 /\ -1<=(z0r A pid).epoch/\(z0r A pid).epoch<=32768 /\ -1<=(z0r A pid).frm/\(z0r A pid).pid=pid:=by
 unfold z0r
 cases h:z52 A pid with
 | none=>simp [z03z]
 | some t =>
  have h1:=hok.row t (z2g h).1
  have:=h1.seqs;have:=h1.seq;have:=h1.count;have:=h1.epoch;have:=h1.frm;have:=(z2g h).2
  simp only [Option.getD_some];omega
section
variable {w:World} {l r r1 r2 l':List HP} {t:Nat} {A:TabA}
theorem zah (hs:Sat w (tb t A::l)):∃ m:Nat,okTb A/\Sat w (pt t (.cells #[.int .i64 A.most,.int .i64 A.next,.map (some m)] T.a5)::z18 ekI evW m (z33 A.rows)::l):=by
 obtain ⟨m,hs⟩:=hs.ex
 obtain ⟨hok,hs⟩:=hs.and
 exact ⟨m,hok,hs.star⟩
theorem z06z (m:Nat) (hok:okTb A) (hs:Sat w (pt t (.cells #[.int .i64 A.most,.int .i64 A.next,.map (some m)] T.a5)::z18 ekI evW m (z33 A.rows)::l)):Sat w (tb t A::l):=.ex_mk m (.and_mk hok (.star_mk hs))
theorem z37 (m:Nat) (hok:okTb A) (hs:Sat w l) {es1:List (Int × RowA)} [h1:FocB l t (.cells [.int .i64 A.most,.int .i64 A.next,.map (some m)].toArray T.a5) r1] [h2:FoM r1 m ekI evW es1 r2] [h4:Sub r2 l']
  (hp1:es1.Perm (z33 A.rows):=by exact .refl _):Sat w (tb t A::l'):=by
 have hs:=hs.perm (h1.perm.trans (.cons _ h2.perm))
 have hs:=((hs.pick [1]).mapPerm hp1).pick [1]
 have hs:Sat w (tb t A::r2):=z06z m hok hs
 exact hs.sub
theorem zyu (hs:Sat w (tb t A::l)):okTb A:=(zah hs).choose_spec.1
instance {r:RowA}:IsR (sG [.int .i64,.int .i64,.int .i64,.int .i64,.int .i64,.int .i64,.int .i64]) [.agg (z5j r).toArray] (r.pid,r.epoch,r.seq,r.count,r.base,r.frm,r.time,()):=⟨rfl⟩
instance {r:RowA} {b:Bool}:IsR (.tup [.agg [.int .i64,.int .i64,.int .i64,.int .i64,.int .i64,.int .i64,.int .i64],.one .bool]) [.agg (z5j r).toArray,.bool b] (r.pid,r.epoch,r.seq,r.count,r.base,r.frm,r.time,b,()):=⟨rfl⟩
def z06p (o:Option RowA):Int × Int × Int × Int × Int × Int × Int × Bool × Unit :=
 ((o.getD ⟨0,0,0,0,0,0,0⟩).pid,(o.getD ⟨0,0,0,0,0,0,0⟩).epoch,(o.getD ⟨0,0,0,0,0,0,0⟩).seq,(o.getD ⟨0,0,0,0,0,0,0⟩).count,(o.getD ⟨0,0,0,0,0,0,0⟩).base,(o.getD ⟨0,0,0,0,0,0,0⟩).frm,(o.getD ⟨0,0,0,0,0,0,0⟩).time,o.isSome,())
theorem z046 (most:Int) (hs:Sat w l):Ret P F.a6 #[.int .i64 most] w λvs w' =>
  (1<=most/\most<=4096/\∃ t,vs=[.pointer (some ⟨t,0,none⟩),.int .i64 0]/\Sat w' (tb t ⟨most,0,[]⟩::l))\/((most<1\/most>4096)/\vs=[.pointer none,.int .i64 2]/\Sat w' l) :=
 zw3 most <| by
  delta zf7 Aa Ah Ai Am Ap Av
  refine ze (λh=>?_) λh=>?_
  ·exact ⟨rfl,.inr ⟨h,rfl,hs⟩⟩
  refine zbd ekI evW hs λm w' hs=>?_
  refine zn hs λt w' hs=>?_
  refine ⟨rfl,.inl ⟨by omega,by omega,t,rfl,?_⟩⟩
  exact z37 m (A:=⟨most,0,[]⟩) ⟨by show 1<=most/\most<=4096;omega,by show (0:Int)<=0/\(0:Int)<=_;omega,by show (0:Int)<=most;omega,by simp,by simp,by simp [z8e]⟩ hs
theorem zvu (pid:Int) [hf:Fo l tb t A r] (hs:Sat w l):Ret P F.a13 #[.pointer (some ⟨t,0,none⟩),.int .i64 pid] w λvs w'=>vs=[.agg (z5j (z0r A pid)).toArray,.bool (z52 A pid).isSome]/\Sat w' (tb t A::r) :=
 zry _ _ <| by
  delta z04n AI Aa Ad Ae Ai Al Am Bn Bs Bu
  obtain ⟨m,hok,hs⟩:=zah (hs.perm hf.perm)
  refine zt hs λa0 w' hs=>?_
  refine zj ?_
  refine za hs ?_
  have ho:=zia A pid
  unfold z0r
  generalize z52 A pid=o at ho ⊢
  refine zya hs o ho z06p ?_
  refine zd3 _ _ _ _ _ _ _ _ ?_
  refine zt hs λa12 w' hs=>?_
  refine zu hs λw' hs=>?_
  refine wp_lt ?_
  cases o with
  | none =>
   refine z0q ?_ (by simp)
   refine zu hs λw' hs=>?_
   refine zk hs ?_
   exact ⟨rfl,rfl,z37 m hok hs⟩
  | some x =>
   refine zw ?_ (by simp)
   refine zk hs ?_
   refine zu hs λw' hs=>?_
   refine zk hs ?_
   exact ⟨rfl,rfl,z37 m hok hs⟩
theorem zps (x:RowA) (h1:0<=x.seq+x.count/\x.seq+x.count<=2147483648) (hs:Sat w l):Ret P F.a7 #[.agg (z5j x).toArray] w λvs w'=>vs=[.int .i64 (x.seq+x.count)]/\Sat w' l :=
 zw4 x.pid x.epoch x.seq x.count x.base x.frm x.time <| by
  delta zf8 AF Aa Ac Am Ap Aq Bs
  refine zn hs λa0 w' hs=>?_
  refine za hs ?_
  refine za hs ?_
  refine z14 ?_
  exact ⟨rfl,rfl,hs.tail⟩
theorem zph (x:RowA) (hs:Sat w l):Ret P F.a8 #[.agg (z5j x).toArray] w λvs w'=>vs=[.bool (decide (0<=x.frm))]/\Sat w' l :=
 zw5 x.pid x.epoch x.seq x.count x.base x.frm x.time <| by
  delta zf9 Al Am Ap Aq Bs
  refine zn hs λa0 w' hs=>?_
  refine za hs ?_
  refine wp_lt ?_
  exact ⟨rfl,rfl,hs.tail⟩
theorem zgz (b:BatM) (hs:Sat w l):Ret P F.a15 #[.agg (zo b).toArray] w λvs w'=>vs=[.bool (z0g b)]/\Sat w' l :=
 zs0 b.base b.pid b.epoch b.seq b.kind b.time b.x <| by
  delta z04p AD Al Am Ap Aq Ar
  refine zn hs λa0 w' hs=>?_
  refine za hs ?_
  refine za hs ?_
  refine wp_lt ?_
  exact ⟨rfl,rfl,hs.tail⟩
end
structure VerA where
 again:Bool
 base:Int
def zeu (v:VerA):List Value:=[.bool v.again,.int .i64 v.base]
def z7v (r:RowA) (b:BatM):VerA × Bool :=
 if b.epoch≠r.epoch\/b.seq+b.rs.length>r.seq+r.count then (⟨false,0⟩,false) else if b.seq=r.seq/\(b.rs.length:Int)=r.count then (⟨true,r.base⟩,true) else (⟨true,-1⟩,true)
def za7 (A:TabA) (r:RowA) (there:Bool) (b:BatM):Int :=
 if 0<=r.frm/\(b.epoch>r.epoch\/b.kind=0) then 22
 else if z0g b=false/\b.seq≠(if b.epoch>r.epoch then 0 else r.seq+r.count) then 21
 else if there=false/\(A.rows.length:Int)>=A.most then 5 else 0
def z1q (A:TabA) (b:BatM):VerA × Int :=
 if z05 b≠0\/b.pid=0 then (⟨false,0⟩,z05 b)
 else if b.epoch<(z0r A b.pid).epoch then (if z0g b then (⟨true,-1⟩,0) else (⟨false,0⟩,20))
 else if z0g b=false/\(z7v (z0r A b.pid) b).2=true then ((z7v (z0r A b.pid) b).1,0)
 else (⟨false,0⟩,za7 A (z0r A b.pid) (z52 A b.pid).isSome b)
instance {v:VerA} {b:Bool}:IsR (.tup [.agg [.bool,.int .i64],.one .bool]) [.agg (zeu v).toArray,.bool b] (v.again,v.base,b,()):=⟨rfl⟩
instance {v:VerA} {n:Int}:IsR (.tup [.agg [.bool,.int .i64],.one (.int .i64)]) [.agg (zeu v).toArray,.int .i64 n] (v.again,v.base,n,()):=⟨rfl⟩
section
variable {w:World} {l r r1 r2 l':List HP} {t:Nat} {A:TabA}
theorem zy0 (x:RowA) (b:BatM) [hb:FocR l b.x 4 (b.rs.flatMap z00)] (h1:0<=x.seq+x.count/\x.seq+x.count<=2147483648) (h2:0<=b.seq/\b.seq<=2147483647) (h3:b.rs.length<=64) (hs:Sat w l) :
  Ret P F.a14 #[.agg (z5j x).toArray,.agg (zo b).toArray] w λvs w'=>vs=[.agg (zeu (z7v x b).1).toArray,.bool (z7v x b).2]/\Sat w' l :=
 zrz x.pid x.epoch x.seq x.count x.base x.frm x.time b.base b.pid b.epoch b.seq b.kind b.time b.x <| by
  delta z04o AB AD AF AL AM AN Aa Ad Ae Ai Aj Am Ap Aq Ar Ax Bb Bq Bs Bt Bx;unfold z7v
  have hl:=hs.slen b.x (xs:=b.rs) (enc:=z00)
  refine zn hs λa0 w' hs=>?_
  refine zn hs λa1 w' hs=>?_
  refine zt hs λa2 w' hs=>?_
  have hs:Sat w' (pt a2 (.cells #[.bool false,.int .i64 0] T.a6)::pt a1 (.cells #[.int .i64 b.base,.int .i64 b.pid,.int .i64 b.epoch,.int .i64 b.seq,.int .i64 b.kind,.int .i64 b.time,.slice b.x.a b.x.len b.x.cap] T.a0) ::
   pt a0 (.cells #[.int .i64 x.pid,.int .i64 x.epoch,.int .i64 x.seq,.int .i64 x.count,.int .i64 x.base,.int .i64 x.frm,.int .i64 x.time] T.a4)::l):=hs
  refine zf (λv w'=>v=(decide (b.epoch≠x.epoch\/b.seq+b.rs.length>x.seq+x.count),())/\Sat w' (pt a2 (.cells #[.bool false,.int .i64 0] T.a6)::pt a1 (.cells #[.int .i64 b.base,.int .i64 b.pid,.int .i64 b.epoch,.int .i64 b.seq,.int .i64 b.kind,.int .i64 b.time,.slice b.x.a b.x.len b.x.cap] T.a0) ::
   pt a0 (.cells #[.int .i64 x.pid,.int .i64 x.epoch,.int .i64 x.seq,.int .i64 x.count,.int .i64 x.base,.int .i64 x.frm,.int .i64 x.time] T.a4)::l)) ?_ ?_
  ·refine zy hs λw' hs=>?_
   refine za hs ?_
   refine za hs ?_
   refine z0x hs ?_
   refine z0x hs ?_
   refine zk hs ?_
   refine ze (λh=>?_) λh=>?_
   ·refine zd ?_
    exact zg ⟨by rw [decide_eq_true (.inl h)],hs⟩
   ·refine z8 (zps x h1 hs) λ_ w' hs=>?_
    obtain ⟨rfl,hs⟩:=hs
    refine zb ?_ ⟨⟨trivial,λ_=>z08 hs⟩,λ_=>z08 hs⟩
    refine zd ?_
    refine zg ⟨?_,hs⟩
    rw [w64 (by omega) (by omega),hl]
    have:(b.epoch≠x.epoch\/b.seq+b.rs.length>x.seq+x.count)↔b.seq+((b.rs.length:Nat):Int)>x.seq+x.count:=⟨λh'=>h'.resolve_left h,.inr⟩
    rw [decide_eq_decide.2 this]
  clear hs
  rintro _ w ⟨rfl,hs⟩
  refine zm ?_
  refine ze (λh=>?_) λh=>?_
  ·rw [if_pos h]
   refine zu hs λw' hs=>?_
   refine zk hs ?_
   exact ⟨rfl,rfl,hs.sub⟩
  rw [if_neg h]
  refine za hs ?_
  refine za hs ?_
  refine za hs ?_
  refine za hs ?_
  refine ze (λh=>?_) λh=>?_
  ·rw [if_pos (by rw [hl] at h;exact h)]
   refine za hs ?_
   refine zu hs λw' hs=>?_
   refine zk hs ?_
   exact ⟨rfl,rfl,hs.sub⟩
  ·rw [if_neg (by rw [hl] at h;exact h)]
   refine zu hs λw' hs=>?_
   refine zk hs ?_
   exact ⟨rfl,rfl,hs.sub⟩
theorem zy3 (x:RowA) (there:Bool) (b:BatM) [hf:Fo l tb t A r] (h1:0<=x.seq+x.count/\x.seq+x.count<=2147483648) (hs:Sat w l) :
  Ret P F.a12 #[.pointer (some ⟨t,0,none⟩),.agg (z5j x).toArray,.bool there,.agg (zo b).toArray] w λvs w'=>vs=[.int .i64 (za7 A x there b)]/\Sat w' (tb t A::r) :=
 zrx _ x.pid x.epoch x.seq x.count x.base x.frm x.time there b.base b.pid b.epoch b.seq b.kind b.time b.x <| by
  delta z04m AD AE AH AL AN AO Aa Ac Ai Ak Al Am Ap Aq Ar Ax B0 Bg Bs Bu By;unfold za7
  obtain ⟨m,hok,hs⟩:=zah (hs.perm hf.perm)
  refine zn hs λa0 w' hs=>?_
  refine zn hs λa1 w' hs=>?_
  refine zk hs ?_
  refine z8 (zps x h1 hs) λ_ _ hs=>?_
  obtain ⟨rfl,hs⟩:=hs
  refine zb ?_
  refine wp_lt ?_
  refine za hs ?_
  refine za hs ?_
  have hs:Sat _ (pt a1 (.cells #[.int .i64 b.base,.int .i64 b.pid,.int .i64 b.epoch,.int .i64 b.seq,.int .i64 b.kind,.int .i64 b.time,.slice b.x.a b.x.len b.x.cap] T.a0) ::
   pt a0 (.cells #[.int .i64 x.pid,.int .i64 x.epoch,.int .i64 x.seq,.int .i64 x.count,.int .i64 x.base,.int .i64 x.frm,.int .i64 x.time] T.a4)::pt t (.cells #[.int .i64 A.most,.int .i64 A.next,.map (some m)] T.a5)::z18 ekI evW m (z33 A.rows)::r):=hs
  refine zf (λv w'=>v=((if b.epoch>x.epoch then 0 else x.seq+x.count),())/\Sat w' (pt a1 (.cells #[.int .i64 b.base,.int .i64 b.pid,.int .i64 b.epoch,.int .i64 b.seq,.int .i64 b.kind,.int .i64 b.time,.slice b.x.a b.x.len b.x.cap] T.a0) ::
   pt a0 (.cells #[.int .i64 x.pid,.int .i64 x.epoch,.int .i64 x.seq,.int .i64 x.count,.int .i64 x.base,.int .i64 x.frm,.int .i64 x.time] T.a4)::pt t (.cells #[.int .i64 A.most,.int .i64 A.next,.map (some m)] T.a5)::z18 ekI evW m (z33 A.rows)::r)) ?_ ?_
  ·refine ze (λh=>?_) λh=>?_
   ·exact zg ⟨by rw [if_pos h],hs⟩
   ·exact zg ⟨by rw [if_neg h],hs⟩
  clear hs
  rintro _ w ⟨rfl,hs⟩
  refine zm ?_
  refine zk hs ?_
  refine z8 (zph x hs) λ_ _ hs=>?_
  obtain ⟨rfl,hs⟩:=hs
  refine zb ?_
  refine za hs ?_
  refine za hs ?_
  refine za hs ?_
  refine wp_lt ?_
  refine ze (λh=>?_) λh=>?_
  ·rw [if_pos h]
   exact ⟨rfl,rfl,z37 m hok hs⟩
  rw [if_neg h]
  refine zk hs ?_
  refine z8 (zgz b hs) λ_ _ hs=>?_
  obtain ⟨rfl,hs⟩:=hs
  refine zb ?_
  refine za hs ?_
  refine wp_lt ?_
  refine ze (λh=>?_) λh=>?_
  ·rw [if_pos (by simpa using h)]
   exact ⟨rfl,rfl,z37 m hok hs⟩
  rw [if_neg (by simpa using h)]
  refine zy hs λw' hs=>?_
  refine z0c ?_
  refine za hs ?_
  refine zd2 hs ?_
  refine z0c ?_
  refine za hs ?_
  refine wp_lt ?_
  refine zd ?_
  have hlen:(z33 A.rows).length=A.rows.length:=by unfold z33;rw [List.length_map]
  rw [hlen]
  refine ze (λh=>?_) λh=>?_
  ·rw [if_pos (by simpa using h)]
   exact ⟨rfl,rfl,z37 m hok hs⟩
  ·rw [if_neg (by simpa using h)]
   exact ⟨rfl,rfl,z37 m hok hs⟩
theorem zej (b:BatM) [hf:Fo l tb t A r] [hb:FocR r b.x 4 (b.rs.flatMap z00)] (hs:Sat w l) :
  Ret P F.a9 #[.pointer (some ⟨t,0,none⟩),.agg (zo b).toArray] w λvs w'=>vs=[.agg (zeu (z1q A b).1).toArray,.int .i64 (z1q A b).2]/\Sat w' (tb t A::r) :=
 zru _ b.base b.pid b.epoch b.seq b.kind b.time b.x <| by
  delta z04k AD AE AH Aa Ac Ad Ae Ah Ai Ak Al Am Ap Aq Ar Ax Ay Bb Bq Bs Bu;unfold z1q
  have hs:Sat w (tb t A::r):=hs.perm hf.perm
  have hok:=zyu hs
  refine zn hs λa0 w' hs=>?_
  refine zt hs λa1 w' hs=>?_
  refine zw ?_ (by simp)
  refine zk hs ?_
  refine z8 (z8o b hs) λ_ _ hs=>?_
  obtain ⟨rfl,hs⟩:=hs
  refine zb ?_
  refine wp_lt ?_
  refine za hs ?_
  refine ze (λh=>?_) λh=>?_
  ·rw [if_pos h]
   refine zu hs λw' hs=>?_
   refine wp_lt ?_
   refine zk hs ?_
   exact ⟨rfl,rfl,hs.sub⟩
  rw [if_neg h]
  have hv:z05 b=0:=Decidable.not_not.1 λe=>h (.inl e)
  obtain ⟨hs1,hs2,hnum,hfit,hnx⟩:=z11 b hv
  have hl64:b.rs.length<=64:=by
   unfold zp at hs2
   split at hs2
   ·have:=hfit.2
    rename_i hm
    rw [if_pos hm] at this;omega
   ·omega
  refine za hs ?_
  refine z8 (zvu b.pid hs) λ_ _ hs=>?_
  obtain ⟨rfl,hs⟩:=hs
  refine zb ?_
  obtain ⟨hr1,hr2,hr3,hr4,hr5,hr6,hr7⟩:=zgv hok b.pid
  generalize z0r A b.pid=x at *
  refine zt hs λa26 w' hs=>?_
  refine zu hs λw' hs=>?_
  refine wp_lt ?_
  refine za hs ?_
  refine za hs ?_
  refine ze (λh=>?_) λh=>?_
  ·rw [if_pos h]
   refine zk hs ?_
   refine z8 (zgz b hs) λ_ _ hs=>?_
   obtain ⟨rfl,hs⟩:=hs
   refine zb ?_
   refine ze (λh=>?_) λh=>?_
   ·rw [if_pos h]
    refine zu hs λw' hs=>?_
    refine zk hs ?_
    exact ⟨rfl,rfl,hs.sub⟩
   ·rw [if_neg h]
    refine zu hs λw' hs=>?_
    refine zk hs ?_
    exact ⟨rfl,rfl,hs.sub⟩
  rw [if_neg h]
  refine zk hs ?_
  refine z8 (zgz b hs) λ_ _ hs=>?_
  obtain ⟨rfl,hs⟩:=hs
  refine zb ?_
  have hs:Sat _ (tb t A::pt a26 (.cells #[.int .i64 x.pid,.int .i64 x.epoch,.int .i64 x.seq,.int .i64 x.count,.int .i64 x.base,.int .i64 x.frm,.int .i64 x.time] T.a4)::pt a1 (.cells #[.bool false,.int .i64 0] T.a6) ::
   pt a0 (.cells #[.int .i64 b.base,.int .i64 b.pid,.int .i64 b.epoch,.int .i64 b.seq,.int .i64 b.kind,.int .i64 b.time,.slice b.x.a b.x.len b.x.cap] T.a0)::r):=hs.sub
  refine zf (λ_ w'=>¬ (z0g b=false/\(z7v x b).2=true)/\Sat w' (tb t A::pt a26 (.cells #[.int .i64 x.pid,.int .i64 x.epoch,.int .i64 x.seq,.int .i64 x.count,.int .i64 x.base,.int .i64 x.frm,.int .i64 x.time] T.a4)::pt a1 (.cells #[.bool false,.int .i64 0] T.a6) ::
   pt a0 (.cells #[.int .i64 b.base,.int .i64 b.pid,.int .i64 b.epoch,.int .i64 b.seq,.int .i64 b.kind,.int .i64 b.time,.slice b.x.a b.x.len b.x.cap] T.a0)::r)) ?_ ?_
  ·refine ze (λh=>?_) λh=>?_
   ·refine zk hs ?_
    refine zk hs ?_
    refine z8 (zy0 x b ⟨by omega,by omega⟩ hnum.2.2.2.2.1 hl64 hs) λ_ _ hs=>?_
    obtain ⟨rfl,hs⟩:=hs
    refine zb ?_
    refine zt hs λa67 w' hs=>?_
    refine zu hs λw' hs=>?_
    refine wp_lt ?_
    refine ze (λh2=>?_) λh2=>?_
    ·rw [if_pos ⟨by simpa using h,h2⟩]
     refine zk hs ?_
     refine zu hs λw' hs=>?_
     refine zk hs ?_
     refine zh ?_
     exact ⟨rfl,rfl,hs.sub⟩
    ·exact zg ⟨λe=>h2 e.2,hs.sub⟩
   ·exact zg ⟨λe=>h (by rw [e.1];simp),hs⟩
  clear hs
  rintro _ w ⟨hno,hs⟩
  refine zm ?_
  rw [if_neg hno]
  refine zk hs ?_
  refine zk hs ?_
  refine z8 (zy3 x (z52 A b.pid).isSome b ⟨by omega,by omega⟩ hs) λ_ _ hs=>?_
  obtain ⟨rfl,hs⟩:=hs
  refine zb ?_
  refine zu hs λw' hs=>?_
  refine wp_lt ?_
  refine zk hs ?_
  exact ⟨rfl,rfl,hs.sub⟩
end
def z8c (A:TabA) (b:BatM):Int:=match z52 A b.pid with
 | none=>b.time
 | some r=>if r.time>b.time then r.time else b.time
def z68 (A:TabA) (b:BatM):Int:=if b.kind=1/\(z0r A b.pid).frm<0 then b.base else (z0r A b.pid).frm
def z3u (A:TabA) (b:BatM):RowA:=if z0g b then ⟨b.pid,b.epoch+1,0,0,0,-1,z8c A b⟩ else ⟨b.pid,b.epoch,b.seq,b.rs.length,b.base,z68 A b,z8c A b⟩
def z73 (pid:Int) (rs:List RowA):List RowA:=rs.filter λr=>!decide (r.pid=pid)
def z87 (x:RowA) (rs:List RowA):List RowA:=rs.filter (λr=>decide (r.pid<x.pid))++x::rs.filter (λr=>decide (x.pid<r.pid))
def z4z (A:TabA) (b:BatM):TabA:=⟨A.most,b.base+zp b,if b.pid=0 then A.rows else z87 (z3u A b) A.rows⟩
def zj3 (A:TabA) (b:BatM):Int × TabA :=
 if (z1q A b).2≠0 then ((z1q A b).2,A) else if (z1q A b).1.again then (4,A) else if b.base<A.next then (8,A) else (0,z4z A b)
theorem zkk (x:RowA) (rs:List RowA):(z87 x rs).Perm (x::z73 x.pid rs):=by
 unfold z87 z73
 refine List.perm_middle.trans (.cons _ ?_)
 have h:=List.filter_append_perm (λr:RowA=>decide (r.pid<x.pid)) (rs.filter λr=>!decide (r.pid=x.pid))
 rw [List.filter_filter,List.filter_filter] at h
 have e1:rs.filter (λr=>decide (r.pid<x.pid))=rs.filter (λr=>decide (r.pid<x.pid) && !decide (r.pid=x.pid)):=List.filter_congr λr _=>by
  rw [Bool.eq_iff_iff];simp;omega
 have e2:rs.filter (λr=>decide (x.pid<r.pid))=rs.filter (λr=>!decide (r.pid<x.pid) && !decide (r.pid=x.pid)):=List.filter_congr λr _=>by
  rw [Bool.eq_iff_iff];simp;omega
 rw [e1,e2];exact h
theorem zra {x:RowA} {rs:List RowA} (h:rs.Pairwise λa b=>a.pid<b.pid):(z87 x rs).Pairwise λa b=>a.pid<b.pid:=by
 unfold z87
 rw [List.pairwise_append,List.pairwise_cons]
 refine ⟨h.filter _,⟨λr hr=>?_,h.filter _⟩,λa ha c hc=>?_⟩
 ·simpa using (List.mem_filter.1 hr).2
 ·have h1:a.pid<x.pid:=by simpa using (List.mem_filter.1 ha).2
  rcases List.mem_cons.1 hc with rfl|hc
  ·exact h1
  ·have h2:x.pid<c.pid:=by simpa using (List.mem_filter.1 hc).2
   omega
theorem zcj {pid:Int} {rs:List RowA} (h:∀ r ∈ rs,r.pid≠pid):z73 pid rs=rs:=List.filter_eq_self.2 λr hr=>by simp [h r hr]
theorem z9p {x:RowA}:∀ {rs:List RowA},x ∈ rs->(rs.Pairwise λa b=>a.pid<b.pid)->rs.Perm (x::z73 x.pid rs)
 | y::rs,hx,h=>by
  rw [List.pairwise_cons] at h
  unfold z73
  rw [List.filter_cons]
  rcases List.mem_cons.1 hx with rfl|hx
  ·rw [if_neg (by simp)]
   have:=zcj (pid:=x.pid) (rs:=rs) (λr hr=>by have:=h.1 r hr;omega)
   unfold z73 at this
   rw [this]
  ·have h1:=h.1 x hx
   rw [if_pos (by simp;omega)]
   exact ((z9p hx h.2).cons y).trans (.swap _ _ _)
theorem zr3 {a b:List RowA} (h:a.Perm b):(z8e a).Perm (z8e b):=h.filter _
theorem zeo {a b:List RowA} (h:a.Perm b) (ha:(z8e a).Pairwise λx y=>x.frm≠y.frm):(z8e b).Pairwise λx y=>x.frm≠y.frm :=
 (List.Perm.pairwise_iff (λ{x y} h=>Ne.symm h) (zr3 h)).1 ha
theorem zdf {A:TabA} {b:BatM} (h1:(z1q A b).2=0) (h2:(z1q A b).1.again=false):z05 b=0/\(b.pid≠0->(z0r A b.pid).epoch<=b.epoch/\¬ (z0g b=false/\(z7v (z0r A b.pid) b).2=true)/\za7 A (z0r A b.pid) (z52 A b.pid).isSome b=0):=by
 unfold z1q at h1 h2
 split at h1
 ·rename_i h
  rw [if_pos h] at h2
  refine ⟨h1,λhp=>absurd h (λh=>h.elim (λh=>h h1) hp)⟩
 rename_i h
 rw [if_neg h] at h2
 have hv:z05 b=0:=Decidable.not_not.1 λe=>h (.inl e)
 refine ⟨hv,λhp=>?_⟩
 split at h1
 ·rename_i h3
  rw [if_pos h3] at h2
  split at h1
  ·rename_i h4;rw [if_pos h4] at h2;cases h2
  ·cases h1
 rename_i h3
 rw [if_neg h3] at h2
 split at h1
 ·rename_i h4
  rw [if_pos h4] at h2
  obtain ⟨-,h4⟩:=h4
  unfold z7v at h2 h4
  split at h4
  ·cases h4
  ·rename_i h5
   rw [if_neg h5] at h2
   split at h2 <;> cases h2
 ·rename_i h4
  exact ⟨by omega,h4,h1⟩
theorem zqn {A:TabA} {x:RowA} {there:Bool} {b:BatM} (h:za7 A x there b=0):¬ (0<=x.frm/\(b.epoch>x.epoch\/b.kind=0))/\¬ (z0g b=false/\b.seq≠(if b.epoch>x.epoch then 0 else x.seq+x.count))/\(there=false->(A.rows.length:Int)<A.most):=by
 unfold za7 at h
 by_cases h1:0<=x.frm/\(b.epoch>x.epoch\/b.kind=0)
 ·rw [if_pos h1] at h;cases h
 rw [if_neg h1] at h
 by_cases h2:z0g b=false/\b.seq≠(if b.epoch>x.epoch then 0 else x.seq+x.count)
 ·rw [if_pos h2] at h;cases h
 rw [if_neg h2] at h
 by_cases h3:there=false/\(A.rows.length:Int)>=A.most
 ·rw [if_pos h3] at h;cases h
 exact ⟨h1,h2,λe=>by rcases Int.lt_or_le (A.rows.length:Int) A.most with h|h;exact h;exact absurd ⟨e,h⟩ h3⟩
theorem zkp (A:TabA) (b:BatM):(z3u A b).pid=b.pid:=by unfold z3u;split <;> rfl
theorem z01l {A:TabA} (hok:okTb A) {b:BatM} (hb:0<=b.time/\b.time<=1099511627776):0<=z8c A b/\z8c A b<=1099511627776:=by
 unfold z8c
 split
 ·exact hb
 ·rename_i r hr
  have:=(hok.row r (z2g hr).1).time
  split <;> omega
theorem z01q {A:TabA} {b:BatM} (hok:okTb A) (h1:(z1q A b).2=0) (h2:(z1q A b).1.again=false) (h3:A.next<=b.base):okTb (z4z A b):=by
 obtain ⟨hv,hj⟩:=zdf h1 h2
 obtain ⟨hs1,hs2,hnum,hfit,hnx⟩:=z11 b hv
 have hn0:=hok.next
 by_cases hp0:b.pid=0
 ·have e:z4z A b=⟨A.most,b.base+zp b,A.rows⟩:=by unfold z4z;rw [if_pos hp0]
  rw [e]
  exact ⟨hok.most,⟨by show 0<=b.base+zp b;omega,by show b.base+zp b<=_;omega⟩,hok.many,λr hr=>by
   have h:=hok.row r hr
   exact ⟨h.pid,h.epoch,h.time,h.count,h.seq,h.base,h.frm,h.none_,λhc=>by have:=h.some_ hc;show _/\_/\_<=b.base+zp b/\_;omega⟩,hok.byPid,hok.apart⟩
 obtain ⟨hje,-,hfr⟩:=hj hp0
 obtain ⟨hf1,hf2,hf3⟩:=zqn hfr
 have e:z4z A b=⟨A.most,b.base+zp b,z87 (z3u A b) A.rows⟩:=by unfold z4z;rw [if_neg hp0]
 have hpp:=zkk (z3u A b) A.rows
 rw [zkp] at hpp
 obtain ⟨hnk,hnb,hnp,hne,hns,hnt⟩:=hnum
 have hlate:=z01l hok hnt
 have hF:=zgv hok b.pid
 have hfrm:(z0r A b.pid).frm<A.next:=by
  unfold z0r
  cases h:z52 A b.pid with
  | none=>show (-1:Int)<_;omega
  | some y =>
   have hy:=hok.row y (z2g h).1
   show y.frm<A.next
   rcases Int.lt_or_le 0 y.count with hc|hc
   ·have:=hy.some_ hc;omega
   ·have:=hy.none_ (by have:=hy.count;omega);omega
 have hokN:okRw (z3u A b) (b.base+zp b):=by
  unfold z3u
  by_cases hm:z0g b=true
  ·rw [if_pos hm]
   exact ⟨by show 1<=b.pid/\b.pid<=_;omega,by show 0<=b.epoch+1/\b.epoch+1<=_;omega,hlate,by show (0:Int)<=0/\(0:Int)<=64;omega,Int.le_refl _,Int.le_refl _,Int.le_refl _,λ_=>⟨rfl,rfl,rfl⟩,λh=>absurd h (by show ¬ (0:Int)<0;omega)⟩
  ·rw [if_neg hm]
   have hm:z0g b=false:=by simpa using hm
   have hlen:zp b=b.rs.length:=by unfold zp;rw [hm];rfl
   have hseq:b.seq+b.rs.length<=2147483648:=by
    unfold z05 at hv
    split at hv
    ·cases hv
    split at hv
    ·cases hv
    split at hv
    ·rename_i h;exact absurd hv h
    split at hv
    ·cases hv
    ·rename_i h
     rcases Int.lt_or_le 2147483647 (b.seq+(zp b-1)) with h9|h9
     ·exact absurd (.inr ⟨by omega,hm,by omega⟩) h
     ·omega
   have hfrm2 : -1<=z68 A b/\z68 A b<=b.base:=by
    unfold z68
    split
    ·omega
    ·omega
   exact ⟨by show 1<=b.pid/\b.pid<=_;omega,by show 0<=b.epoch/\b.epoch<=_;omega,hlate,by show (0:Int)<=b.rs.length/\(b.rs.length:Int)<=64;omega,hns.1,hnb.1,hfrm2.1,λh=>absurd h (by show ¬ (b.rs.length:Int)=0;omega),λ_=>by
    show b.epoch<=_/\b.seq+(b.rs.length:Int)<=_/\b.base+(b.rs.length:Int)<=b.base+zp b/\z68 A b<=b.base
    omega⟩
 have hrest:z73 b.pid A.rows ⊆ A.rows:=λr hr=>(List.mem_filter.1 hr).1
 rw [e]
 refine ⟨hok.most,⟨by show 0<=b.base+zp b;omega,by show b.base+zp b<=_;omega⟩,?_,λr hr=>?_,zra hok.byPid,?_⟩
 ·show ((z87 (z3u A b) A.rows).length:Int)<=A.most
  rw [hpp.length_eq,List.length_cons]
  cases h:z52 A b.pid with
  | none =>
   have:=hf3 (by rw [h];rfl)
   rw [zcj (zck h)];omega
  | some y =>
   have h4:=(z9p (z2g h).1 hok.byPid).length_eq
   rw [(z2g h).2,List.length_cons] at h4
   have:=hok.many
   omega
 ·have hr:r ∈ z87 (z3u A b) A.rows:=hr
  rcases List.mem_cons.1 (hpp.mem_iff.1 hr) with rfl|hr
  ·exact hokN
  ·have h:=hok.row r (hrest hr)
   exact ⟨h.pid,h.epoch,h.time,h.count,h.seq,h.base,h.frm,h.none_,λhc=>by have:=h.some_ hc;show _/\_/\_<=b.base+zp b/\_;omega⟩
 ·refine zeo hpp.symm ?_
  have hsub:(z8e (z73 b.pid A.rows)).Pairwise λx y=>x.frm≠y.frm:=hok.apart.sublist ((List.filter_sublist).filter _)
  unfold z8e
  rw [List.filter_cons]
  split
  rotate_left
  ·exact hsub
  rename_i hop
  have hop:0<=(z3u A b).frm:=by simpa using hop
  rw [List.pairwise_cons]
  refine ⟨λy hy=>?_,hsub⟩
  have hy1:=List.mem_filter.1 hy
  have hy2:0<=y.frm:=by simpa using hy1.2
  have hyr:=hok.row y (hrest hy1.1)
  have hm:¬ z0g b=true:=λhm=>by unfold z3u at hop;rw [if_pos hm] at hop;exact absurd hop (by show ¬ (0:Int) <= -1;omega)
  unfold z3u
  rw [if_neg hm]
  show z68 A b≠y.frm
  have hylt:y.frm<A.next:=by
   rcases Int.lt_or_le 0 y.count with hc|hc
   ·have:=hyr.some_ hc;omega
   ·have:=hyr.none_ (by have:=hyr.count;omega);omega
  unfold z68
  split
  ·omega
  ·rename_i hk
   cases h:z52 A b.pid with
   | none =>
    have:(z0r A b.pid).frm = -1:=by unfold z0r;rw [h];rfl
    omega
   | some z =>
    have hz:z0r A b.pid=z:=by unfold z0r;rw [h];rfl
    rw [hz] at *
    by_cases hzo:0<=z.frm
    ·have h5:=zeo (z9p (z2g h).1 hok.byPid) hok.apart
     rw [(z2g h).2] at h5
     unfold z8e at h5
     rw [List.filter_cons,if_pos (by simpa using hzo),List.pairwise_cons] at h5
     exact h5.1 y hy
    ·omega
theorem z03f {A:TabA} (hok:okTb A) (pid:Int):(∃ v0,(z33 A.rows).Perm ((pid,v0)::z33 (z73 pid A.rows)))\/((∀ v,(pid,v) ∉ z33 A.rows)/\z33 (z73 pid A.rows)=z33 A.rows):=by
 rcases zia A pid with ⟨y,hy,-⟩|⟨hn,hno⟩
 ·left
  refine ⟨y,?_⟩
  have h:=(z9p (z2g hy).1 hok.byPid).map λr:RowA=>(r.pid,r)
  rw [(z2g hy).2,List.map_cons,(z2g hy).2] at h
  exact h
 ·right
  exact ⟨hno,by rw [zcj (zck hn)]⟩
theorem z01j (x:RowA) (rs:List RowA):((x.pid,x)::z33 (z73 x.pid rs)).Perm (z33 (z87 x rs)):=((zkk x rs).map λr:RowA=>(r.pid,r)).symm
theorem zx0 {A:TabA} {n:Int} (hok:okTb A) (h1:A.next<=n) (h2:n<=1099511627777):okTb ⟨A.most,n,A.rows⟩ :=
 ⟨hok.most,⟨by have:=hok.next;show 0<=n;omega,h2⟩,hok.many,λr hr=>by
  have h:=hok.row r hr
  exact ⟨h.pid,h.epoch,h.time,h.count,h.seq,h.base,h.frm,h.none_,λhc=>by have:=h.some_ hc;show _/\_/\_<=n/\_;omega⟩,hok.byPid,hok.apart⟩
section
variable {w:World} {l r r1 r2 l':List HP} {t:Nat} {A:TabA}
theorem z02i (b:BatM) [hf:Fo l tb t A r] [hb:FocR r b.x 4 (b.rs.flatMap z00)] (hs:Sat w l) :
  Ret P F.a11 #[.pointer (some ⟨t,0,none⟩),.agg (zo b).toArray] w λvs w'=>vs=[.int .i64 (zj3 A b).1]/\Sat w' (tb t (zj3 A b).2::r) :=
 zrw _ b.base b.pid b.epoch b.seq b.kind b.time b.x <| by
  delta z04l AB AD AE AF AH AI AL AN AV Aa Ac Ad Ae Ah Ai Aj Ak Al Am Ap Aq Ax Ay Ba Bb Bd Bg Bn Bp Bs Bu Bv;unfold zj3
  have hs:Sat w (tb t A::r):=hs.perm hf.perm
  have hok:=zyu hs
  refine zn hs λa0 w' hs=>?_
  refine zk hs ?_
  refine z8 (zej b hs) λ_ _ hs=>?_
  obtain ⟨rfl,hs⟩:=hs
  refine zb ?_
  have hnx:=z01q (b:=b) hok
  have hjf:=zdf (A:=A) (b:=b)
  generalize hje:z1q A b=j at *
  obtain ⟨v,e⟩:=j
  refine zt hs λa11 w' hs=>?_
  refine zu hs λw' hs=>?_
  refine wp_lt ?_
  refine wp_lt ?_
  refine ze (λh=>?_) λh=>?_
  ·rw [if_pos h]
   refine wp_lt ?_
   exact ⟨rfl,rfl,hs.sub⟩
  have he:e=0:=Decidable.not_not.1 h
  subst he
  rw [if_neg (by simp)]
  refine za hs ?_
  refine wp_lt ?_
  refine ze (λh=>?_) λh=>?_
  ·rw [if_pos h]
   exact ⟨rfl,rfl,hs.sub⟩
  rw [if_neg h]
  have hag:v.again=false:=by simpa using h
  refine zy hs λw' hs=>?_
  refine za hs ?_
  refine zj ?_
  have hs:Sat w' (tb t A::pt a11 (.cells #[.bool v.again,.int .i64 v.base] T.a6)::pt a0 (.cells #[.int .i64 b.base,.int .i64 b.pid,.int .i64 b.epoch,.int .i64 b.seq,.int .i64 b.kind,.int .i64 b.time,.slice b.x.a b.x.len b.x.cap] T.a0)::r):=hs.sub
  obtain ⟨m,-,hs⟩:=zah hs
  refine za hs ?_
  refine wp_lt ?_
  refine zd ?_
  refine ze (λh=>?_) λh=>?_
  ·rw [if_pos h]
   exact ⟨rfl,rfl,z37 m hok hs⟩
  rw [if_neg h]
  have hok':=hnx rfl hag (by omega)
  obtain ⟨hv,hj⟩:=hjf rfl hag
  obtain ⟨hs1,hs2,hnum,hfit,hn2⟩:=z11 b hv
  have hne:=hnum.2.2.2.1
  refine zk hs ?_
  refine z8 (z8m b hs) λ_ _ hs=>?_
  obtain ⟨rfl,hs⟩:=hs
  refine zb ?_
  have hnb:z1m b=b.base+zp b:=by unfold z1m;rw [if_neg (by rw [hv];simp)]
  rw [hnb]
  refine zj ?_
  refine z07 hs λw' hs=>?_
  refine za hs ?_
  have hok1:okTb ⟨A.most,b.base+zp b,A.rows⟩:=zx0 hok (by omega) hn2
  refine ze (λh0=>?_) λh0=>?_
  ·refine ⟨rfl,rfl,?_⟩
   have e:z4z A b=⟨A.most,b.base+zp b,A.rows⟩:=by unfold z4z;rw [if_pos h0]
   show Sat _ (tb t (z4z A b)::r)
   rw [e]
   exact z37 m hok1 hs
  have e:z4z A b=⟨A.most,b.base+zp b,z87 (z3u A b) A.rows⟩:=by unfold z4z;rw [if_neg h0]
  show _
  refine za hs ?_
  have hs:Sat _ (tb t ⟨A.most,b.base+zp b,A.rows⟩::pt a11 (.cells #[.bool v.again,.int .i64 v.base] T.a6)::pt a0 (.cells #[.int .i64 b.base,.int .i64 b.pid,.int .i64 b.epoch,.int .i64 b.seq,.int .i64 b.kind,.int .i64 b.time,.slice b.x.a b.x.len b.x.cap] T.a0)::r):=z37 m hok1 hs
  refine z8 (zvu b.pid hs) λ_ _ hs=>?_
  obtain ⟨rfl,hs⟩:=hs
  refine zb ?_
  have eF:z0r ⟨A.most,b.base+zp b,A.rows⟩ b.pid=z0r A b.pid:=rfl
  have eO:z52 ⟨A.most,b.base+zp b,A.rows⟩ b.pid=z52 A b.pid:=rfl
  rw [eF,eO]
  have hFok:=zgv hok b.pid
  have hkeys:=z03f hok b.pid
  have hkp:=z01j (z3u A b) A.rows
  rw [zkp] at hkp
  refine zt hs λa42 w' hs=>?_
  refine zu hs λw' hs=>?_
  refine wp_lt ?_
  refine za hs ?_
  refine wp_lt ?_
  have hs:Sat _ (tb t ⟨A.most,b.base+zp b,A.rows⟩::pt a42 (.cells #[.int .i64 (z0r A b.pid).pid,.int .i64 (z0r A b.pid).epoch,.int .i64 (z0r A b.pid).seq,.int .i64 (z0r A b.pid).count,.int .i64 (z0r A b.pid).base,.int .i64 (z0r A b.pid).frm,.int .i64 (z0r A b.pid).time] T.a4) ::
   pt a0 (.cells #[.int .i64 b.base,.int .i64 b.pid,.int .i64 b.epoch,.int .i64 b.seq,.int .i64 b.kind,.int .i64 b.time,.slice b.x.a b.x.len b.x.cap] T.a0)::r):=hs.sub
  refine zf (λv w'=>v=(z8c A b,())/\Sat w' (tb t ⟨A.most,b.base+zp b,A.rows⟩::pt a42 (.cells #[.int .i64 (z0r A b.pid).pid,.int .i64 (z0r A b.pid).epoch,.int .i64 (z0r A b.pid).seq,.int .i64 (z0r A b.pid).count,.int .i64 (z0r A b.pid).base,.int .i64 (z0r A b.pid).frm,.int .i64 (z0r A b.pid).time] T.a4) ::
   pt a0 (.cells #[.int .i64 b.base,.int .i64 b.pid,.int .i64 b.epoch,.int .i64 b.seq,.int .i64 b.kind,.int .i64 b.time,.slice b.x.a b.x.len b.x.cap] T.a0)::r)) ?_ ?_
  ·unfold z8c z0r at *
   cases ho:z52 A b.pid with
   | none =>
    rw [ho] at hs
    refine zw ?_ (by simp)
    exact zg ⟨rfl,hs⟩
   | some y =>
    rw [ho] at hs
    refine z0q ?_ (by simp)
    refine za hs ?_
    refine wp_lt ?_
    exact zg ⟨rfl,hs⟩
  clear hs
  rintro _ w ⟨rfl,hs⟩
  refine zm ?_
  refine za hs ?_
  obtain ⟨m,-,hs⟩:=zah hs
  have hfin:∀ {w:World},Sat w (tb t (z4z A b)::r)->0=0/\([.int .i64 0]:List Value)=[.int .i64 0]/\Sat w (tb t (z4z A b)::r):=λh=>⟨rfl,rfl,h⟩
  refine zf (λ_ w'=>Sat w' (tb t (z4z A b)::r)) ?_ (by rintro _ w' hs;refine zm ?_;exact ⟨rfl,rfl,hs⟩)
  refine zf (λ_ w'=>z0g b=false/\Sat w' (pt t (.cells #[.int .i64 A.most,.int .i64 (b.base+zp b),.map (some m)] T.a5)::z18 ekI evW m (z33 A.rows)::pt a42 (.cells #[.int .i64 (z0r A b.pid).pid,.int .i64 (z0r A b.pid).epoch,.int .i64 (z0r A b.pid).seq,.int .i64 (z0r A b.pid).count,.int .i64 (z0r A b.pid).base,.int .i64 (z68 A b),.int .i64 (z0r A b.pid).time] T.a4) ::
   pt a0 (.cells #[.int .i64 b.base,.int .i64 b.pid,.int .i64 b.epoch,.int .i64 b.seq,.int .i64 b.kind,.int .i64 b.time,.slice b.x.a b.x.len b.x.cap] T.a0)::r)) ?_ ?_
  ·refine wp_lt ?_
   refine zf (λv w'=>v=(z0g b,())/\Sat w' (pt t (.cells #[.int .i64 A.most,.int .i64 (b.base+zp b),.map (some m)] T.a5)::z18 ekI evW m (z33 A.rows)::pt a42 (.cells #[.int .i64 (z0r A b.pid).pid,.int .i64 (z0r A b.pid).epoch,.int .i64 (z0r A b.pid).seq,.int .i64 (z0r A b.pid).count,.int .i64 (z0r A b.pid).base,.int .i64 (z0r A b.pid).frm,.int .i64 (z0r A b.pid).time] T.a4) ::
    pt a0 (.cells #[.int .i64 b.base,.int .i64 b.pid,.int .i64 b.epoch,.int .i64 b.seq,.int .i64 b.kind,.int .i64 b.time,.slice b.x.a b.x.len b.x.cap] T.a0)::r)) ?_ ?_
   ·refine ze (λh=>?_) λh=>?_
    ·exact zg ⟨by unfold z0g;rw [show (b.kind == 2)=true by simpa using h,decide_eq_true (by simpa using h)];rfl,hs⟩
    ·refine wp_lt ?_
     exact zg ⟨by unfold z0g;rw [decide_eq_false (p:=b.kind=2) (by simpa using h)];rfl,hs⟩
   clear hs
   rintro _ w ⟨rfl,hs⟩
   refine zm ?_
   refine ze (λhm=>?_) λhm=>?_
   ·refine zy hs λw' hs=>?_
    refine zj ?_
    refine za hs ?_
    refine za hs ?_
    refine za hs ?_
    refine za hs ?_
    have eN:z3u A b=⟨b.pid,b.epoch+1,0,0,0,-1,z8c A b⟩:=by unfold z3u;rw [if_pos hm]
    rw [w64 (x:=b.epoch+1) (by omega) (by omega)]
    refine zaj hs _ hkeys (z3u A b) (λw' hs=>?_) (by rw [eN])
    refine zd ?_
    refine zh (zh ?_)
    exact ⟨rfl,rfl,by show Sat _ (tb t (z4z A b)::r);exact e ▸ z37 m (A:=⟨A.most,b.base+zp b,z87 (z3u A b) A.rows⟩) (e ▸ hok') hs hkp⟩
   have hm:z0g b=false:=by simpa using hm
   refine wp_lt ?_
   refine ze (λh=>?_) λh=>?_
   ·refine zk hs ?_
    refine z8 (zph (z0r A b.pid) hs) λ_ _ hs=>?_
    obtain ⟨rfl,hs⟩:=hs
    refine zb ?_
    refine zf (λ_ w'=>Sat w' (pt t (.cells #[.int .i64 A.most,.int .i64 (b.base+zp b),.map (some m)] T.a5)::z18 ekI evW m (z33 A.rows)::pt a42 (.cells #[.int .i64 (z0r A b.pid).pid,.int .i64 (z0r A b.pid).epoch,.int .i64 (z0r A b.pid).seq,.int .i64 (z0r A b.pid).count,.int .i64 (z0r A b.pid).base,.int .i64 (z68 A b),.int .i64 (z0r A b.pid).time] T.a4) ::
     pt a0 (.cells #[.int .i64 b.base,.int .i64 b.pid,.int .i64 b.epoch,.int .i64 b.seq,.int .i64 b.kind,.int .i64 b.time,.slice b.x.a b.x.len b.x.cap] T.a0)::r)) ?_ (by rintro _ w' hs;refine zm ?_;exact zg ⟨hm,hs⟩)
    refine ze (λh2=>?_) λh2=>?_
    ·refine za hs ?_
     refine z07 hs λw' hs=>?_
     refine zg ?_
     have:z68 A b=b.base:=by unfold z68;rw [if_pos ⟨h,by simpa using h2⟩]
     rw [this];exact hs.sub
    ·refine zg ?_
     have:z68 A b=(z0r A b.pid).frm:=by unfold z68;rw [if_neg (λh3=>h2 (by simpa using h3.2))]
     rw [this];exact hs
   ·refine zg ⟨hm,?_⟩
    have:z68 A b=(z0r A b.pid).frm:=by unfold z68;rw [if_neg (λh3=>h h3.1)]
    rw [this];exact hs
  clear hs
  rintro _ w ⟨hm,hs⟩
  refine zm ?_
  have hl:=hs.slen b.x (xs:=b.rs) (enc:=z00)
  refine zy hs λw' hs=>?_
  refine zj ?_
  refine za hs ?_
  refine za hs ?_
  refine za hs ?_
  refine za hs ?_
  refine za hs ?_
  refine za hs ?_
  refine za hs ?_
  refine za hs ?_
  have eN:z3u A b=⟨b.pid,b.epoch,b.seq,b.rs.length,b.base,z68 A b,z8c A b⟩:=by unfold z3u;rw [if_neg (by rw [hm];simp)]
  refine zaj hs _ hkeys (z3u A b) (λw' hs=>?_) (by rw [eN,hl])
  refine zd ?_
  refine zg ?_
  exact e ▸ z37 m (A:=⟨A.most,b.base+zp b,z87 (z3u A b) A.rows⟩) (e ▸ hok') hs hkp
end
end Go.Dec
