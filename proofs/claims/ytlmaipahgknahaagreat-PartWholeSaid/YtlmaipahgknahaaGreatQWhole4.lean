/- What the claim of this folder leans on: our own texts, joined, without what it does not use. -/
import Derived.Test.YtlmaipahgknahaaGreatRows
import Derived.WalkKit
import Derived.ProofKit
import Derived.OpenShut
import Derived.RowKit3
import Derived.OrdersHeld
import Derived.Scope
import Derived.KernelRfl
import Derived.Laws.Sem
import Derived.Laws.StructEq
import Derived.Deep.AppendSrc
import Derived.Laws.BytesArg
import Derived.Laws.RangeString
import Derived.Maps.RangeRun
import Derived.Lib.ConvBytes
import Derived.Lib.SlBytesConst
import Derived.ChangeSlices
import Derived.ChangeMaps5
import Derived.ChangeSame
import Derived.Deep.Slices
import Derived.Deep.Fields
import Derived.Test.YtlmaipahgknahaaGreatProg
import Derived.WideKeyRuns
import Derived.DeepKeys3
import Derived.Laws.MakeOwn
import Derived.Sort.MapsRangeIn
import Derived.Sort.KeysCollected
import Derived.RangeFuncNested
import Derived.RangeFuncBound
import Derived.RangeFuncCalls
import Derived.RangeFuncLeaves
import Derived.RangeFuncBox
import Derived.OwnWalkIn
import Derived.TacticsInMore
import Derived.RegionIn
import Derived.LoopNIn
import Derived.LoopIn
import Derived.Maps.AppendAt
import Derived.Shelf.Abstract
import Derived.Shelf.Sort.Plain
import Derived.Shelf.Slices.In.SortNone
import Derived.Test.YtlmaipahgknahaaGreatQWhole1
import Derived.Test.YtlmaipahgknahaaGreatQWhole2
import Derived.Test.YtlmaipahgknahaaGreatQWhole3
set_option linter.unusedVariables false
set_option linter.unusedSimpArgs false
namespace Go.Dec
def z00c (b_0 b_1 b_2 b_3 b_4 b_5:Int) (b_6:Sl):Prog :=
AM T.a0 (Ao b_0 b_1 b_2 b_3 b_4 b_5 b_6) λa0=>
Aq T.a12 a0 4 λn1=>
Ar ((n1 == 2)=false) T.a12 a0 4 λn2=>
AL (n1 == 2 || n2 == 3) λb3=>
Aj 0 [.bool b3]
theorem znx (b_0 b_1 b_2 b_3 b_4 b_5:Int) (b_6:Sl):FnS (z00c b_0 b_1 b_2 b_3 b_4 b_5 b_6) F.a165 #[.agg #[.int .i64 b_0,.int .i64 b_1,.int .i64 b_2,.int .i64 b_3,.int .i64 b_4,.int .i64 b_5,.slice b_6.a b_6.len b_6.cap]]:=dV ⟨[],[],[],[]⟩ Go.Proofs.Tryz.func19 (by kernel_rfl)
def zzw (d:Option Addr) (prefix_:ByteArray) (c_0:Int) (c_1:Int):Prog :=
AM T.a42 (AO c_0 c_1) λa0=>
AZ (Option.isNone d) (
Aj 0 [Ah none,Aa 1])<|
AD 1 (
AJ F.a121 [.string prefix_] λb2=>
B3 (not b2=false) (ld T.a42 a0) λn3 n4=>
Ai (not b2) (
Aj 1 [.bool true])<|
AJ F.a125 [AO n3 n4] λb5=>
AL (not b5) λb6=>
Aj 1 [.bool b6]) λb7=>
Ai b7 (
Aj 0 [Ah none,Aa 2])<|
AJ F.a21 [Ah d] λb8=>
AZ b8 (
Aj 0 [Ah none,Aa 9])<|
.read True (ld T.a42 a0) (sG [.int .i64,.int .i64]) (u2 λ(n10 n11:Int)=>
AM T.a43 (.agg #[Ah d,.string prefix_,Aa n10,Aa n11,.slice none 0 0]) λa12=>
Bc F.a111 [AP a12] λl13 n14=>
Af n14 λn15=>
Ai (n15 != 0) (
Af n15 λn16=>
Aj 0 [Ah none,Aa n16])<|
AG 1 (
AH 2 (n15,(0,())) λn17 n18=>
Ai (decide (n18<(Am l13))) (
AG 3 (
.ex [.adr] (c1 λa19=>0<=n18/\n18<(Am l13)/\l13.a=some a19) (u1 λa20=>
Aq T.a13 a20 (Int.toNat n18*1) λn21=>
Af n18 λn22=>
Af n21 λn23=>
AF F.a104 [AP a12] λn24=>
Ai (decide (n23<n24)) (
AQ F.a114 [AP a12,Aa n23,.string (ByteArray.mk #[46,108,111,103])] λs25=>
AF F.a24 [Ah d,.string s25] λn26=>
Af n26 λn27=>
Ai (n27 != 0) (
Aj 1 [Aa n27])<|
Aj 3 [Aa n27])<|
.call F.a117 [AP a12,Aa n23] (.tup [.one .bool,.one (.int .i64)]) (u2 λb28 (n29:Int)=>
AL b28 λb30=>
Af n29 λn31=>
Ai (n31 == 0 && not b30) (
.must (0<=AB (n22+1)/\AB (n22+1)<=(Am l13)) <|
AF F.a110 [AP a12,.slice (z1t l13.a 1 (Int.toNat (AB (n22+1))) l13.cap) (l13.len-Int.toNat (AB (n22+1))) (l13.cap-Int.toNat (AB (n22+1)))] λn32=>
Af n32 λn33=>
Aj 1 [Aa n33])<|
Ai (n31 != 0) (
Aj 1 [Aa n31])<|
Aj 3 [Aa n31]))) λn34=>
Aj 2 [Aa n34,Aa (AB (n18+1))])<|
Aj 1 [Aa n17]) λn35=>
Ai (n35 != 0) (
Af n35 λn36=>
Aj 0 [Ah none,Aa n36])<|
Aj 0 [AP a12,Aa 0])
theorem zn4 (d:Option Addr) (prefix_:ByteArray) (c_0 c_1:Int):FnS (zzw d prefix_ c_0 c_1) F.a120 #[.pointer d,.string prefix_,.agg #[.int .i64 c_0,.int .i64 c_1]]:=dV ⟨[],[(1,[(10,.one (.int .i64))]),(2,[(10,.one (.int .i64))])],[(3,[(17,.one .bool)])],[(1,[(10,.one (.int .i64)),(44,.one (.int .i64))])]⟩ Go.Proofs.Tryz.func41 (by kernel_rfl)
def zze (l:Option Addr):Prog :=
Ai (Option.isNone l) (
Aj 0 [.slice none 0 0])<|
AF F.a103 [Ah l] λn0=>
Bc F.a105 [Ah l,Aa n0,Aa 1099511627776] λl1 n2=>
Af n2 λn3=>
Aj 0 [l1.v]
theorem zmm (l:Option Addr):FnS (zze l) F.a101 #[.pointer l]:=dV ⟨[],[],[],[]⟩ Go.Proofs.Tryz.func46 (by kernel_rfl)
def z06h (pid epoch:Int) (commit:Bool) (time:Int):Prog :=
Ab T.a0 λa0=>
Ab T.a0 λa1=>
Ac T.a0 a1 (.agg #[Aa 0,Aa pid,Aa epoch,Aa 0,Aa 3,Aa time,.slice none 0 0])<|
As 1 (
Ai commit (
AS T.a12 a1 4 (Aa 2)<|
Aj 1 [])<|
Aj 1 [])<|
Aw T.a0 a1 λn2 n3 n4 n5 n6 n7 l8=>
Ac T.a0 a0 (Ao n2 n3 n4 n5 n6 n7 l8)<|
Aw T.a0 a0 λn9 n10 n11 n12 n13 n14 l15=>
Aj 0 [Ao n9 n10 n11 n12 n13 n14 l15]
theorem ztu (pid epoch:Int) (commit:Bool) (time:Int):FnS (z06h pid epoch commit time) F.a88 #[.int .i64 pid,.int .i64 epoch,.bool commit,.int .i64 time]:=dV ⟨[(134217742,[])],[],[],[]⟩ Go.Proofs.Tryz.func49 (by kernel_rfl)
def zzh (l:Option Addr) (offset:Int) (most:Int):Prog :=
AM T.a27 (Ah l) λa0=>
AM T.a13 (Aa offset) λa1=>
AM T.a12 (Aa most) λa2=>
BJ T.a27 a0 λp3=>
AZ (Option.isNone p3) (
Aj 0 [.slice none 0 0,Aa 1])<|
BF T.a12 a2 λn5=>
AZ (decide (n5<1)) (
Aj 0 [.slice none 0 0,Aa 2])<|
AD 1 (
Ay<|
.hold True (ld T.a13 a1) (sI .i64) (u1 λ(n7:Int)=>
BJ T.a27 a0 λp8=>
AF F.a103 [Ah p8] λn9=>
.hold (decide (n7<n9)=false) (ld T.a13 a1) (sI .i64) (u1 λ(n10:Int)=>
.read (decide (n7<n9)=false) (ld T.a27 a0) sP (u1 λp11=>
Ai (decide (n7<n9)) (
AA<|
Aj 1 [.bool true])<|
AF F.a104 [Ah p11] λn12=>
AL (decide (n10>n12)) λb13=>
AA<|
Aj 1 [.bool b13])))) λb14=>
Ai b14 (
Aj 0 [.slice none 0 0,Aa 8])<|
Ab T.a32 λa15=>
BJ T.a27 a0 λp16=>
Ba p16 λa18=>
AT T.a37 a18 4 λl19=>
AF F.a159 [Aa (Am l19),.func (Fn.func 122) #[] #[AP a0,AP a1]] λn20=>
Af (AB (n20-1)) λn21=>
Af (if 0>n21 then 0 else n21) λn22=>
As 1 (
Ax 2 (n22,()) λn23=>
BJ T.a27 a0 λp24=>
Ba p24 λa26=>
AT T.a37 a26 4 λl27=>
Ai (decide (n23<(Am l27))) (
BJ T.a27 a0 λp28=>
Ba p28 λa30=>
AT T.a37 a30 4 λl31=>
.ex [.adr] (c1 λa32=>0<=n23/\n23<(Am l31)/\l31.a=some a32) (u1 λa33=>
Bb T.a28 a33 (Int.toNat n23*1) λp34=>
AD 3 (
Ay<|
.hold True (ld T.a27 a0) sP (u1 λp35=>
BF T.a13 a1 λn36=>
AF F.a126 [Ah p34,Aa n36] λn37=>
AA<|
AJ F.a119 [Ah p35,Ah p34,Aa n37,.func (Fn.func 125) #[] #[AP a1,AP a15,AP a2]] λb38=>
AL b38 λb39=>
AA<|
Aj 3 [.bool b39])) λb40=>
Ai (not b40) (
Aj 1 [])<|
Af (AB (n23+1)) λn41=>
Aj 2 [Aa n41]))<|
Aj 1 [])<|
BK (ld T.a32 a15) λl42=>
Aj 0 [l42.v,Aa 0]
theorem zmp (l:Option Addr) (offset most:Int):FnS (zzh l offset most) F.a105 #[.pointer l,.int .i64 offset,.int .i64 most]:=dV ⟨[],[(1,[])],[(5,[(18,.one .bool)]),(13,[(11,.one .bool)])],[(1,[(9,.one (.int .i64))])]⟩ Go.Proofs.Tryz.func51 (by kernel_rfl)
def z06f (l:Sl):Prog :=
Ak 1 (
Al 2 (⟨none,0,0⟩,(0,())) λl0 n1=>
Ai (decide (n1<(Am l))) (
Ak 3 (
.ex [.adr] (c1 λa2=>0<=n1/\n1<(Am l)/\l.a=some a2) (u1 λa3=>
An T.a0 a3 (Int.toNat n1*7) λn4 n5 n6 n7 n8 n9 l10=>
Ab T.a0 λa11=>
Ac T.a0 a11 (Ao n4 n5 n6 n7 n8 n9 l10)<|
Aw T.a0 a11 λn12 n13 n14 n15 n16 n17 l18=>
AJ F.a94 [Ao n12 n13 n14 n15 n16 n17 l18] λb19=>
Ai b19 (
Aj 3 [l0.v])<|
AT T.a33 a11 6 λl20=>
Ak 4 (
Al 5 ({ a:=l0.a,len:=l0.len,cap:=l0.cap },(0,())) λl21 n22=>
Ai (decide (n22<(Am l20))) (
.ex [.adr] (c1 λa23=>0<=n22/\n22<(Am l20)/\l20.a=some a23) (u1 λa24=>
AU T.a2 a24 (Int.toNat n22*4) λs25 s26 b27 n28=>
Ab T.a2 λa29=>
Af n22 λn30=>
Ac T.a2 a29 (AV s25 s26 b27 n28)<|
Aq T.a13 a11 0 λn31=>
AX T.a2 a29 λs32 s33 b34 n35=>
AY (Instr.buildSlice T.a38 1 #[(0,.agg #[Aa (AB (n31+n30)),.string s32,.string s33,.bool b34,Aa n35])]) λl36=>
AY (app T.a38 T.a38 T.a38 l21.v l36.v) λl37=>
Aj 5 [l37.v,Aa (AB (n22+1))]))<|
Aj 4 [l21.v]) λl38=>
Aj 3 [l38.v])) λl39=>
Aj 2 [l39.v,Aa (AB (n1+1))])<|
Aj 1 [l0.v]) λl40=>
Aj 0 [l40.v]
theorem zts (l:Sl):FnS (z06f l) F.a86 #[.slice l.a l.len l.cap]:=dV ⟨[],[(0,[(3,.one .slc)]),(1,[(3,.one .slc)]),(2,[(3,.one .slc)])],[],[(0,[(3,.one .slc),(10,.one (.int .i64))]),(2,[(3,.one .slc),(19,.one (.int .i64))])]⟩ Go.Proofs.Tryz.func53 (by kernel_rfl)
def z06i (b_0 b_1 b_2 b_3 b_4 b_5:Int) (b_6:Sl):Prog :=
AM T.a0 (Ao b_0 b_1 b_2 b_3 b_4 b_5 b_6) λa0=>
Aw T.a0 a0 λn1 n2 n3 n4 n5 n6 l7=>
AF F.a91 [Ao n1 n2 n3 n4 n5 n6 l7] λn8=>
Ai (n8 != 0) (
Aj 0 [Aa 0])<|
Ay<|
Bs T.a13 a0 0 λn9=>
Aw T.a0 a0 λn10 n11 n12 n13 n14 n15 l16=>
AF F.a90 [Ao n10 n11 n12 n13 n14 n15 l16] λn17=>
Af (AB (n9+n17)) λn18=>
AA<|
Aj 0 [Aa n18]
theorem ztv (b_0 b_1 b_2 b_3 b_4 b_5:Int) (b_6:Sl):FnS (z06i b_0 b_1 b_2 b_3 b_4 b_5 b_6) F.a89 #[.agg #[.int .i64 b_0,.int .i64 b_1,.int .i64 b_2,.int .i64 b_3,.int .i64 b_4,.int .i64 b_5,.slice b_6.a b_6.len b_6.cap]]:=dV ⟨[],[],[],[]⟩ Go.Proofs.Tryz.func54 (by kernel_rfl)
def zzg (l:Option Addr):Prog :=
Bd (Option.isNone l=false) l λa1=>
AK (Option.isNone l=false) T.a37 a1 4 λl2=>
Ai (Option.isNone l || (Am l2) == 0) (
Aj 0 [Aa 0])<|
Bf F.a113 [Ah l] λp3=>
AF F.a127 [Ah p3] λn4=>
Af n4 λn5=>
Aj 0 [Aa n5]
theorem zmo (l:Option Addr):FnS (zzg l) F.a104 #[.pointer l]:=dV ⟨[],[],[],[]⟩ Go.Proofs.Tryz.func76 (by kernel_rfl)
def zzf (l:Option Addr):Prog :=
Bd (Option.isNone l=false) l λa1=>
AK (Option.isNone l=false) T.a37 a1 4 λl2=>
Ai (Option.isNone l || (Am l2) == 0) (
Aj 0 [Aa 0])<|
Ba l λa4=>
AT T.a37 a4 4 λl5=>
.ex [.adr] (c1 λa6=>(0:Int)<=0/\0<(Am l5)/\l5.a=some a6) (u1 λa7=>
Bb T.a28 a7 0 λp8=>
Ba p8 λa10=>
Aq T.a13 a10 1 λn11=>
Af n11 λn12=>
Aj 0 [Aa n12])
theorem zmn (l:Option Addr):FnS (zzf l) F.a103 #[.pointer l]:=dV ⟨[],[],[],[]⟩ Go.Proofs.Tryz.func87 (by kernel_rfl)
def zzx (s:ByteArray):Prog :=
Ai (decide (((ByteArray.size s:Nat):Int)<1) || decide (((ByteArray.size s:Nat):Int)>8)) (
Aj 0 [.bool false])<|
AY (convert T.a46 T.a41 (.string s)) λl0=>
As 1 (
Ax 2 (0,()) λn1=>
Ai (decide (n1<(Am l0))) (
.ex [.adr] (c1 λa2=>0<=n1/\n1<(Am l0)/\l0.a=some a2) (u1 λa3=>
B7 T.a48 a3 (Int.toNat n1*1) λn4=>
B8 n4 λn5=>
Ai (not (decide (n5>=97) && decide (n5<=122) || decide (n5>=48) && decide (n5<=57))) (
Aj 0 [.bool false])<|
Aj 2 [Aa (AB (n1+1))]))<|
Aj 1 [])<|
Aj 0 [.bool true]
theorem zn5 (s:ByteArray):FnS (zzx s) F.a121 #[.string s]:=dV ⟨[],[(0,[])],[],[(0,[(16,.one (.int .i64))])]⟩ Go.Proofs.Tryz.func95 (by kernel_rfl)
def z001 (c_0:Int) (c_1:Int):Prog :=
AM T.a42 (AO c_0 c_1) λa0=>
Aq T.a12 a0 0 λn1=>
Ar (decide (n1>=64)=true) T.a12 a0 0 λn2=>
Ar ((decide (n1>=64) && decide (n2<=4194304))=true) T.a12 a0 1 λn3=>
Ar ((decide (n1>=64) && decide (n2<=4194304) && decide (n3>=1))=true) T.a12 a0 1 λn4=>
AL (decide (n1>=64) && decide (n2<=4194304) && decide (n3>=1) && decide (n4<=4194304)) λb5=>
Aj 0 [.bool b5]
theorem zn9 (c_0 c_1:Int):FnS (z001 c_0 c_1) F.a125 #[.agg #[.int .i64 c_0,.int .i64 c_1]]:=dV ⟨[],[],[],[]⟩ Go.Proofs.Tryz.func96 (by kernel_rfl)
def zzn (l:Option Addr):Prog :=
Ay<|
Ba l λa1=>
Bb T.a23 a1 0 λp2=>
Ba l λa4=>
AW T.a46 a4 1 λs5=>
.must (((ByteArray.size s5+1:Nat):Int)<=9223372036854775807) <|
AC F.a22 [Ah p2,.string (s5++(ByteArray.mk #[45]))] λl6=>
AA<|
Ak 1 (
Al 2 (⟨none,0,0⟩,(0,())) λl7 n8=>
Ai (decide (n8<(Am l6))) (
.ex [.adr] (c1 λa9=>0<=n8/\n8<(Am l6)/\l6.a=some a9) (u1 λa10=>
AW T.a46 a10 (Int.toNat n8*1) λs11=>
Be s11 λs12=>
BC F.a109 [Ah l,.string s12,.string (ByteArray.mk #[46,108,111,103])] λn13 b14=>
Af n13 λn15=>
AL b14 λb16=>
Ak 3 (
Ai b16 (
AY (Instr.buildSlice T.a35 1 #[(0,Aa n15)]) λl17=>
AY (app T.a35 T.a35 T.a35 l7.v l17.v) λl18=>
Aj 3 [l18.v])<|
Aj 3 [l7.v]) λl19=>
BC F.a109 [Ah l,.string s12,.string (ByteArray.mk #[46,110,101,119])] λn20 b21=>
Af n20 λn22=>
AL b21 λb23=>
As 3 (
Ai b23 (
Ba l λa25=>
Bb T.a23 a25 0 λp26=>
AF F.a24 [Ah p26,.string s12] λn27=>
Af n27 λn28=>
Ai (n28 != 0) (
Af n28 λn29=>
Aj 0 [.slice none 0 0,Aa n29])<|
Aj 3 [])<|
Aj 3 [])<|
Aj 2 [l19.v,Aa (AB (n8+1))]))<|
Aj 1 [l7.v]) λl30=>
Aj 0 [l30.v,Aa 0]
theorem zmv (l:Option Addr):FnS (zzn l) F.a111 #[.pointer l]:=dV ⟨[(1055531162730529,[(4,.one .slc)]),(73642861106770788396,[])],[(0,[(4,.one .slc)])],[],[(0,[(4,.one .slc),(23,.one (.int .i64))])]⟩ Go.Proofs.Tryz.func98 (by kernel_rfl)
def zzq (l:Option Addr) (base:Int) (end_:ByteArray):Prog :=
AY (Instr.makeSlice T.a41 (Aa 11) (Aa 11)) λl0=>
As 1 (
AH 2 (base,(10,())) λn1 n2=>
Ai (decide (n2>=0)) (
.must (0<=AB (((BitVec.toNat (BitVec.ofInt 64 n1 &&& BitVec.ofInt 64 15):Nat):Int))/\AB (((BitVec.toNat (BitVec.ofInt 64 n1 &&& BitVec.ofInt 64 15):Nat):Int))<16) <|
.ex [.adr] (c1 λa3=>0<=n2/\n2<(Am l0)/\l0.a=some a3) (u1 λa4=>
AS T.a48 a4 (Int.toNat n2*1) (.int .u8 (bt (ByteArray.mk #[48,49,50,51,52,53,54,55,56,57,97,98,99,100,101,102]) (AB (((BitVec.toNat (BitVec.ofInt 64 n1 &&& BitVec.ofInt 64 15):Nat):Int)))))<|
Af (Int.fdiv n1 16) λn5=>
Af (AB (n2-1)) λn6=>
Aj 2 [Aa n5,Aa n6]))<|
Aj 1 [])<|
Ay<|
Ba l λa8=>
AW T.a46 a8 1 λs9=>
.must (((ByteArray.size s9+1:Nat):Int)<=9223372036854775807) <|
.read True (convert T.a41 T.a46 l0.v) sS (u1 λs10=>
.must (((ByteArray.size (s9++(ByteArray.mk #[45]))+ByteArray.size s10:Nat):Int)<=9223372036854775807) <|
.must (((ByteArray.size (s9++(ByteArray.mk #[45])++s10)+ByteArray.size end_:Nat):Int)<=9223372036854775807) <|
Be (s9++(ByteArray.mk #[45])++s10++end_) λs11=>
AA<|
Aj 0 [.string s11])
theorem zmy (l:Option Addr) (base:Int) (end_:ByteArray):FnS (zzq l base end_) F.a114 #[.pointer l,.int .i64 base,.string end_]:=dV ⟨[],[(0,[])],[],[(0,[(1,.one (.int .i64)),(8,.one (.int .i64))])]⟩ Go.Proofs.Tryz.func99 (by kernel_rfl)
def zzt (l:Option Addr) (base:Int):Prog :=
AQ F.a114 [Ah l,Aa base,.string (ByteArray.mk #[46,108,111,103])] λs0=>
Be s0 λs1=>
Ba l λa3=>
Bb T.a23 a3 0 λp4=>
Bc F.a23 [Ah p4,.string s1] λl5 n6=>
Af n6 λn7=>
Ai (n7 != 0) (
Af n7 λn8=>
Aj 0 [.bool false,Aa n8])<|
BL F.a33 [l5.v] λl9 n10 b11=>
Af n10 λn12=>
AL b11 λb13=>
.bind 1 [.one (.int .i64),.one .bool] (
Ai b13 (
BC F.a123 [l9.v,Aa base] λn14 b15=>
Af n14 λn16=>
AL b15 λb17=>
Aj 1 [Aa n16,.bool b17])<|
Aj 1 [Aa 0,.bool false]) (u2 λ(n18:Int) b19=>
Ai (not b19) (
Ba l λa21=>
Bb T.a23 a21 0 λp22=>
AF F.a24 [Ah p22,.string s1] λn23=>
Af n23 λn24=>
Aj 0 [.bool false,Aa n24])<|
Bf F.a118 [Ah l,Aa base,Aa n18] λp25=>
Af base λn26=>
AG 1 (
AH 2 (n12,(n26,())) λn27 n28=>
.must (0<=n27/\n27<=(Am l5)) <|
BL F.a33 [.slice (z1t l5.a 1 (Int.toNat n27) l5.cap) (l5.len-Int.toNat n27) (l5.cap-Int.toNat n27)] λl29 n30 b31=>
Af n30 λn32=>
AL b31 λb33=>
Ai (not b33) (
Aj 1 [Aa n27])<|
.call F.a84 [l29.v] (.tup [.agg [.int .i64,.int .i64,.int .i64,.int .i64,.int .i64,.int .i64,.slc],.one (.int .i64)]) (u8 λ(n34 n35 n36 n37 n38 n39:Int) l40 (n41:Int)=>
Ab T.a0 λa42=>
Ac T.a0 a42 (Ao n34 n35 n36 n37 n38 n39 l40)<|
Af n41 λn43=>
Ar ((n43 != 0)=false) T.a13 a42 0 λn44=>
Ai (n43 != 0 || decide (n44<n28)) (
Aj 1 [Aa n27])<|
Aw T.a0 a42 λn45 n46 n47 n48 n49 n50 l51=>
AR F.a128 [Ah p25,Ao n45 n46 n47 n48 n49 n50 l51,Aa n32]<|
Ba p25 λa53=>
Aq T.a13 a53 3 λn54=>
Af n54 λn55=>
Af (AB (n27+n32)) λn56=>
Aj 2 [Aa n56,Aa n55])) λn57=>
AR F.a116 [Ah l,Ah p25]<|
Ai (n57 == (Am l5)) (
Aj 0 [.bool true,Aa 0])<|
Ba l λa59=>
Bb T.a23 a59 0 λp60=>
AF F.a19 [Ah p60,.string s1,Aa n57] λn61=>
Af n61 λn62=>
Aj 0 [.bool false,Aa n62])
theorem zn1 (l:Option Addr) (base:Int):FnS (zzt l base) F.a117 #[.pointer l,.int .i64 base]:=dV ⟨[(2269814212245061674,[(12,.one (.int .i64)),(13,.one .bool)])],[(0,[(10,.one (.int .i64))])],[],[(0,[(10,.one (.int .i64)),(15,.one (.int .i64))])]⟩ Go.Proofs.Tryz.func100 (by kernel_rfl)
def zzm (l:Option Addr) (bases:Sl):Prog :=
As 1 (
Ax 2 (0,()) λn0=>
Ai (decide (n0<(Am bases))) (
.ex [.adr] (c1 λa1=>0<=n0/\n0<(Am bases)/\bases.a=some a1) (u1 λa2=>
Aq T.a13 a2 (Int.toNat n0*1) λn3=>
Af n3 λn4=>
AG 3 (
Ay<|
Ba l λa6=>
Bg T.a23 a6 0 λp7=>
AQ F.a114 [Ah l,Aa n4,.string (ByteArray.mk #[46,108,111,103])] λs8=>
AA<|
AF F.a24 [Ah p7,.string s8] λn9=>
Af n9 λn10=>
AA<|
Aj 3 [Aa n10]) λn11=>
Ai (n11 != 0) (
Af n11 λn12=>
Aj 0 [Aa n12])<|
Aj 2 [Aa (AB (n0+1))]))<|
Aj 1 [])<|
Aj 0 [Aa 0]
theorem zmu (l:Option Addr) (bases:Sl):FnS (zzm l bases) F.a110 #[.pointer l,.slice bases.a bases.len bases.cap]:=dV ⟨[],[(0,[])],[(4,[(7,.one (.int .i64))])],[(0,[(10,.one (.int .i64))])]⟩ Go.Proofs.Tryz.func101 (by kernel_rfl)
def z05d (b:Sl):Prog :=
BL F.a33 [b.v] λl0 n1 b2=>
Af n1 λn3=>
AL b2 λb4=>
Ai (not b4 || n3 != (Am b)) (
Aj 0 [.slice none 0 0,.bool false])<|
Aj 0 [l0.v,.bool true]
theorem zsp (b:Sl):FnS (z05d b) F.a35 #[.slice b.a b.len b.cap]:=dV ⟨[],[],[],[]⟩ Go.Proofs.Tryz.func107 (by kernel_rfl)
def z00g (b:Sl):Prog :=
AC F.a0 [b.v] λl0=>
AM T.a50 (.agg #[l0.v,Aa 0,Aa 0]) λa1=>
Aj 0 [AP a1]
theorem zo1 (b:Sl):FnS (z00g b) F.a169 #[.slice b.a b.len b.cap]:=dV ⟨[],[],[],[]⟩ Go.Proofs.Tryz.func108 (by kernel_rfl)
def z00n (r:Option Addr):Prog :=
AJ F.a178 [Ah r] λb0=>
Ai (not b0) (
Aj 0 [.int .u64 0])<|
Ba r λa2=>
Bi F.a184 [B5 a2 0] λn3=>
Bj n3 λn4=>
Aj 0 [.int .u64 n4]
theorem zo8 (r:Option Addr):FnS (z00n r) F.a176 #[.pointer r]:=dV ⟨[],[],[],[]⟩ Go.Proofs.Tryz.func109 (by kernel_rfl)
def z00m (r:Option Addr) (most:Int):Prog :=
AJ F.a178 [Ah r] λb0=>
Ai (not b0) (
Aj 0 [.string (ByteArray.mk #[])])<|
Ba r λa2=>
Aq T.a12 (Addr.add a2 0) 1 λn3=>
Af n3 λn4=>
Ba r λa6=>
Bi F.a184 [B5 a6 0] λn7=>
Bj n7 λn8=>
Ba r λa10=>
Aq T.a1 (Addr.add a10 0) 2 λn11=>
AL (n11 != 0) λb12=>
As 1 (
Ai b12 (
Aj 1 [])<|
AL (decide (n8>IntKind.wrap .u64 (if 0>most then 0 else most))) λb13=>
As 2 (
Ai b13 (
Ba r λa15=>
AR F.a181 [B5 a15 0,Aa 7]<|
Aj 2 [])<|
Ba r λa17=>
AF F.a182 [B5 a17 0] λn18=>
AZ (decide (n8>IntKind.wrap .u64 n18)) (
Ba r λa21=>
AR F.a181 [B5 a21 0,Aa 6]<|
Aj 2 [])<|
Ba r λa23=>
AC F.a183 [B5 a23 0,Aa (AB n8)] λl24=>
.read True (convert T.a41 T.a46 l24.v) sS (u1 λs25=>
Be s25 λs26=>
Aj 0 [.string s26]))<|
Aj 1 [])<|
Ba r λa28=>
AS T.a12 (Addr.add a28 0) 1 (Aa n4)<|
Aj 0 [.string (ByteArray.mk #[])]
theorem zo7 (r:Option Addr) (most:Int):FnS (z00m r most) F.a175 #[.pointer r,.int .i64 most]:=dV ⟨[(147571701062593216545,[]),(147573917678034812954,[])],[],[],[]⟩ Go.Proofs.Tryz.func110 (by kernel_rfl)
def z00i (r:Option Addr):Prog :=
Ai (Option.isNone r) (
Aj 0 [Aa 1])<|
Ba r λa1=>
AF F.a182 [B5 a1 0] λn2=>
As 1 (
Ai (decide (n2>0)) (
Ba r λa4=>
AR F.a181 [B5 a4 0,Aa 6]<|
Aj 1 [])<|
Aj 1 [])<|
Ba r λa6=>
Aq T.a1 (Addr.add a6 0) 2 λn7=>
Af n7 λn8=>
Aj 0 [Aa n8]
theorem zo3 (r:Option Addr):FnS (z00i r) F.a171 #[.pointer r]:=dV ⟨[(62914569,[])],[],[],[]⟩ Go.Proofs.Tryz.func111 (by kernel_rfl)
def zs1 (l:Option Addr) (bs:Sl):Prog :=
Ai (Option.isNone l) (
Aj 0 [Aa 0,Aa 1])<|
Ai ((Am bs) == 0) (
Aj 0 [Aa 0,Aa 3])<|
.call F.a115 [Ah l,bs.v] (.tup [.one .slc,.one .slc,.one (.int .i64)]) (u3 λl0 l1 (n2:Int)=>
Af n2 λn3=>
Ai (n3 != 0) (
Af n3 λn4=>
Aj 0 [Aa 0,Aa n4])<|
AG 1 (
AH 2 (0,(0,())) λn5 n6=>
Ai (decide (n6<(Am l1))) (
.ex [.adr] (c1 λa7=>0<=n6/\n6<(Am l1)/\l1.a=some a7) (u1 λa8=>
AT T.a41 a8 (Int.toNat n6*1) λl9=>
Af (AB (n5+(Am l9))) λn10=>
Aj 2 [Aa n10,Aa (AB (n6+1))]))<|
Aj 1 [Aa n5]) λn11=>
Bf F.a113 [Ah l] λp12=>
AJ F.a112 [Ah l,Aa n11] λb13=>
.bind 1 [.one .ptr] (
Ai (not b13) (
AF F.a108 [Ah l] λn14=>
Af n14 λn15=>
Ai (n15 != 0) (
Af n15 λn16=>
Aj 0 [Aa 0,Aa n16])<|
AF F.a104 [Ah l] λn17=>
Bf F.a118 [Ah l,Aa n17,Aa 0] λp18=>
AG 2 (
Ay<|
Ba l λa20=>
Bg T.a23 a20 0 λp21=>
Ba p18 λa23=>
Aq T.a13 a23 1 λn24=>
Ba p18 λa26=>
Bs T.a13 a26 1 λn27=>
AQ F.a114 [Ah l,Aa n24,.string (ByteArray.mk #[46,108,111,103])] λs28=>
AC F.a122 [Aa n27,Aa 0] λl29=>
AY (Instr.buildSlice T.a39 1 #[(0,l29.v)]) λl30=>
AY (app T.a39 T.a39 T.a39 l30.v l1.v) λl31=>
AA<|
AF F.a18 [Ah p21,.string s28,l31.v] λn32=>
Af n32 λn33=>
AA<|
Aj 2 [Aa n33]) λn34=>
Ai (n34 != 0) (
Af n34 λn35=>
Aj 0 [Aa 0,Aa n35])<|
AR F.a116 [Ah l,Ah p18]<|
Aj 1 [Ah p18])<|
AG 2 (
Ay<|
Ba l λa37=>
Bg T.a23 a37 0 λp38=>
Ba p12 λa40=>
Aq T.a13 a40 1 λn41=>
AQ F.a114 [Ah l,Aa n41,.string (ByteArray.mk #[46,108,111,103])] λs42=>
AA<|
AF F.a18 [Ah p38,.string s42,l1.v] λn43=>
Af n43 λn44=>
AA<|
Aj 2 [Aa n44]) λn45=>
Ai (n45 != 0) (
Af n45 λn46=>
Aj 0 [Aa 0,Aa n46])<|
Aj 1 [Ah p12]) (u1 λp47=>
As 1 (
Ax 2 (0,()) λn48=>
Ai (decide (n48<(Am l0))) (
.ex [.adr] (c1 λa49=>0<=n48/\n48<(Am l0)/\l0.a=some a49) (u1 λa50=>
An T.a0 a50 (Int.toNat n48*7) λn51 n52 n53 n54 n55 n56 l57=>
Ab T.a0 λa58=>
Af n48 λn59=>
Ac T.a0 a58 (Ao n51 n52 n53 n54 n55 n56 l57)<|
Ay<|
Aw T.a0 a58 λn60 n61 n62 n63 n64 n65 l66=>
.ex [.adr] (c1 λa67=>0<=n59/\n59<(Am l1)/\l1.a=some a67) (u1 λa68=>
AT T.a41 a68 (Int.toNat n59*1) λl69=>
AR F.a128 [Ah p47,Ao n60 n61 n62 n63 n64 n65 l66,Aa (Am l69)]<|
AA<|
Aj 2 [Aa (AB (n48+1))])))<|
Aj 1 [])<|
.ex [.adr] (c1 λa70=>(0:Int)<=0/\0<(Am l0)/\l0.a=some a70) (u1 λa71=>
Aq T.a13 (Addr.add a71 0) 0 λn72=>
Af n72 λn73=>
Aj 0 [Aa n73,Aa 0])))
theorem ze6 (l:Option Addr) (bs:Sl):FnS (zs1 l bs) F.a102 #[.pointer l,.slice bs.a bs.len bs.cap]:=dV ⟨[(2596148429267409202579229989077041,[(12,.one .ptr)])],[(0,[(9,.one (.int .i64))]),(2,[])],[(20,[(14,.one (.int .i64))]),(24,[(15,.one (.int .i64))])],[(0,[(9,.one (.int .i64)),(35,.one (.int .i64))]),(2,[(101,.one (.int .i64))])]⟩ Go.Proofs.Tryz.func118 (by kernel_rfl)
def zzk (l:Option Addr):Prog :=
Ai (Option.isNone l) (
Aj 0 [Aa 1])<|
Bf F.a113 [Ah l] λp0=>
Ai (not (Option.isNone p0)) (
AG 1 (
Ay<|
Ba l λa2=>
Bg T.a23 a2 0 λp3=>
Ba p0 λa5=>
Aq T.a13 a5 1 λn6=>
AQ F.a114 [Ah l,Aa n6,.string (ByteArray.mk #[46,108,111,103])] λs7=>
AY (Instr.buildSlice T.a40 1 #[(0,.string s7)]) λl8=>
AA<|
AF F.a26 [Ah p3,l8.v] λn9=>
Af n9 λn10=>
AA<|
Aj 1 [Aa n10]) λn11=>
Aj 0 [Aa n11])<|
Aj 0 [Aa 0]
theorem zms (l:Option Addr):FnS (zzk l) F.a108 #[.pointer l]:=dV ⟨[],[],[(5,[(2,.one (.int .i64))])],[]⟩ Go.Proofs.Tryz.func119 (by kernel_rfl)
def z06c (b_0 b_1 b_2 b_3 b_4 b_5:Int) (b_6:Sl):Prog :=
AM T.a0 (Ao b_0 b_1 b_2 b_3 b_4 b_5 b_6) λa0=>
Ab T.a0 λa1=>
AT T.a33 a0 6 λl2=>
AY (app T.a33 T.a33 T.a33 (.slice none 0 0) l2.v) λl3=>
AS T.a33 a0 6 l3.v<|
Aw T.a0 a0 λn4 n5 n6 n7 n8 n9 l10=>
Ac T.a0 a1 (Ao n4 n5 n6 n7 n8 n9 l10)<|
Aw T.a0 a1 λn11 n12 n13 n14 n15 n16 l17=>
Aj 0 [Ao n11 n12 n13 n14 n15 n16 l17]
theorem ztp (b_0 b_1 b_2 b_3 b_4 b_5:Int) (b_6:Sl):FnS (z06c b_0 b_1 b_2 b_3 b_4 b_5 b_6) F.a83 #[.agg #[.int .i64 b_0,.int .i64 b_1,.int .i64 b_2,.int .i64 b_3,.int .i64 b_4,.int .i64 b_5,.slice b_6.a b_6.len b_6.cap]]:=dV ⟨[],[],[],[]⟩ Go.Proofs.Tryz.func120 (by kernel_rfl)
def zzi (i:Int) (fv0:Option Addr) (fv1:Option Addr):Prog :=
Ay<|
B6 (Instr.loadAt T.a27 (Ah fv0)) λp0=>
Ba p0 λa2=>
AT T.a37 a2 4 λl3=>
.ex [.adr] (c1 λa4=>0<=i/\i<(Am l3)/\l3.a=some a4) (u1 λa5=>
Bb T.a28 a5 (Int.toNat i*1) λp6=>
Ba p6 λa8=>
Aq T.a13 a8 1 λn9=>
BM T.a13 fv1 λn10=>
AL (decide (n9>n10)) λb11=>
AA<|
Aj 0 [.bool b11])
theorem zmq (i:Int) (fv0 fv1:Option Addr):FnS (zzi i fv0 fv1) F.a106 #[.int .i64 i,.pointer fv0,.pointer fv1]:=dV ⟨[],[],[],[]⟩ Go.Proofs.Tryz.func122 (by kernel_rfl)
def zzv (l s:Option Addr) (place:Int) (told:Value):Prog :=
Ak 1 (
Ay<|
Ba l λa1=>
Bg T.a23 a1 0 λp2=>
Ba s λa4=>
Aq T.a13 a4 1 λn5=>
AQ F.a114 [Ah l,Aa n5,.string (ByteArray.mk #[46,108,111,103])] λs6=>
AA<|
Bc F.a23 [Ah p2,.string s6] λl7 n8=>
Af n8 λn9=>
AA<|
Aj 1 [l7.v]) λl10=>
Af place λn11=>
As 1 (
Ax 2 (n11,()) λn12=>
Bd (decide (n12<(Am l10))=true) s λa14=>
Ar (decide (n12<(Am l10))=true) T.a12 a14 5 λn15=>
Ai (decide (n12<(Am l10)) && decide (n12<n15)) (
.must (0<=n12/\n12<=(Am l10)) <|
BL F.a33 [.slice (z1t l10.a 1 (Int.toNat n12) l10.cap) (l10.len-Int.toNat n12) (l10.cap-Int.toNat n12)] λl16 n17 b18=>
Af n17 λn19=>
AL b18 λb20=>
Ai (not b20) (
Aj 0 [.bool true])<|
.call F.a84 [l16.v] (.tup [.agg [.int .i64,.int .i64,.int .i64,.int .i64,.int .i64,.int .i64,.slc],.one (.int .i64)]) (u8 λ(n21 n22 n23 n24 n25 n26:Int) l27 (n28:Int)=>
Ab T.a0 λa29=>
Ac T.a0 a29 (Ao n21 n22 n23 n24 n25 n26 l27)<|
Af n28 λn30=>
AD 3 (
AI ((n30 != 0)=false) T.a0 a29 λn31 n32 n33 n34 n35 n36 l37=>
Ai (n30 != 0) (
Aj 3 [.bool true])<|
.callv (told) [Ao n31 n32 n33 n34 n35 n36 l37] sB (u1 λb38=>
Aj 3 [.bool (not b38)])) λb39=>
Ai b39 (
Aj 0 [.bool false])<|
Af (AB (n12+n19)) λn40=>
Aj 2 [Aa n40]))<|
Aj 1 [])<|
Aj 0 [.bool true]
theorem zn3 (l s:Option Addr) (place:Int) (told:Value) {w:World} {R:List Value->World->Prop} (h:(zzv l s place told).wp P (λ_=>True) w λe vs w'=>e=0/\R vs w'):Ret P F.a119 #[.pointer l,.pointer s,.int .i64 place,told] w R:=dS (n:=70) (rv:=[.tmp 8]) { cnd:=[],blk:=[(0,[])],reg:=[(1,[(9,.one .slc)]),(8,[(66,.one .bool)])],lps:=[(0,[(11,.one (.int .i64))])] } [.val (.pointer l),.val (.pointer s),.val (.int .i64 place),.any told] Go.Proofs.Tryz.func123 (by kernel_rfl) (by kernel_rfl) (by kernel_rfl) (by kernel_rfl) h
def z002 (s:Option Addr) (offset:Int):Prog :=
Ba s λa1=>
Bb T.a25 a1 0 λp2=>
.call F.a40 [Ah p2,Aa offset] (.tup [.agg [.int .i64,.int .i64,.int .i64],.one .bool]) (u4 λ(n3 n4 n5:Int) b6=>
Ab T.a9 λa7=>
Ac T.a9 a7 (Ad n3 n4 n5)<|
AZ b6 (
Aq T.a12 a7 1 λn9=>
Af n9 λn10=>
Aj 0 [Aa n10])<|
Ay<|
Ba s λa12=>
Aq T.a13 a12 1 λn13=>
Ba s λa15=>
Aq T.a13 a15 2 λn16=>
AC F.a122 [Aa n13,Aa n16] λl17=>
Af (Am l17) λn18=>
AA<|
Aj 0 [Aa n18])
theorem zna (s:Option Addr) (offset:Int):FnS (z002 s offset) F.a126 #[.pointer s,.int .i64 offset]:=dV ⟨[],[],[],[]⟩ Go.Proofs.Tryz.func124 (by kernel_rfl)
def zzj (b_0 b_1 b_2 b_3 b_4 b_5:Int) (b_6:Sl) (fv0 fv1:Option Addr) (fv2:Option Addr):Prog :=
AM T.a0 (Ao b_0 b_1 b_2 b_3 b_4 b_5 b_6) λa0=>
Aw T.a0 a0 λn1 n2 n3 n4 n5 n6 l7=>
BM T.a13 fv0 λn8=>
.call F.a87 [Ao n1 n2 n3 n4 n5 n6 l7,Aa n8] (.tup [.agg [.int .i64,.int .i64,.int .i64,.int .i64,.int .i64,.int .i64,.slc],.one .bool]) (u8 λ(n9 n10 n11 n12 n13 n14:Int) l15 b16=>
Ab T.a0 λa17=>
Ac T.a0 a17 (Ao n9 n10 n11 n12 n13 n14 l15)<|
AL b16 λb18=>
As 1 (
Ai b18 (
BK (Instr.loadAt T.a32 (Ah fv1)) λl19=>
Aw T.a0 a17 λn20 n21 n22 n23 n24 n25 l26=>
AY (Instr.buildSlice T.a32 1 #[(0,Ao n20 n21 n22 n23 n24 n25 l26)]) λl27=>
AY (app T.a32 T.a32 T.a32 l19.v l27.v) λl28=>
B1 (Instr.storeAt T.a32 (Ah fv1) l28.v)<|
Aj 1 [])<|
Aj 1 [])<|
BK (Instr.loadAt T.a32 (Ah fv1)) λl29=>
BM T.a12 fv2 λn30=>
AL (decide ((Am l29)<n30)) λb31=>
Aj 0 [.bool b31])
theorem zmr (b_0 b_1 b_2 b_3 b_4 b_5:Int) (b_6:Sl) (fv0 fv1 fv2:Option Addr):FnS (zzj b_0 b_1 b_2 b_3 b_4 b_5 b_6 fv0 fv1 fv2) F.a107 #[.agg #[.int .i64 b_0,.int .i64 b_1,.int .i64 b_2,.int .i64 b_3,.int .i64 b_4,.int .i64 b_5,.slice b_6.a b_6.len b_6.cap],.pointer fv0,.pointer fv1,.pointer fv2]:=dV ⟨[(2013265934,[])],[],[],[]⟩ Go.Proofs.Tryz.func125 (by kernel_rfl)
def z06g (b_0 b_1 b_2 b_3 b_4 b_5:Int) (b_6:Sl) (offset:Int):Prog :=
AM T.a0 (Ao b_0 b_1 b_2 b_3 b_4 b_5 b_6) λa0=>
Ab T.a0 λa1=>
AD 1 (
Aw T.a0 a0 λn2 n3 n4 n5 n6 n7 l8=>
AF F.a91 [Ao n2 n3 n4 n5 n6 n7 l8] λn9=>
AI ((n9 != 0)=false) T.a0 a0 λn10 n11 n12 n13 n14 n15 l16=>
Ai (n9 != 0) (
Aj 1 [.bool true])<|
AF F.a89 [Ao n10 n11 n12 n13 n14 n15 l16] λn17=>
AL (decide (offset>=n17)) λb18=>
Aj 1 [.bool b18]) λb19=>
Ai b19 (
Ac T.a0 a1 (.agg #[Aa 0,Aa 0,Aa 0,Aa 0,Aa 0,Aa 0,.slice none 0 0])<|
Aw T.a0 a1 λn20 n21 n22 n23 n24 n25 l26=>
Aj 0 [Ao n20 n21 n22 n23 n24 n25 l26,.bool false])<|
Aw T.a0 a0 λn27 n28 n29 n30 n31 n32 l33=>
AJ F.a94 [Ao n27 n28 n29 n30 n31 n32 l33] λb34=>
Ar (b34=false) T.a13 a0 0 λn35=>
AZ (b34 || decide (offset<=n35)) (
Aw T.a0 a0 λn37 n38 n39 n40 n41 n42 l43=>
Ap F.a83 [Ao n37 n38 n39 n40 n41 n42 l43] λn44 n45 n46 n47 n48 n49 l50=>
Ac T.a0 a1 (Ao n44 n45 n46 n47 n48 n49 l50)<|
Aw T.a0 a1 λn51 n52 n53 n54 n55 n56 l57=>
Aj 0 [Ao n51 n52 n53 n54 n55 n56 l57,.bool true])<|
Aw T.a0 a0 λn58 n59 n60 n61 n62 n63 l64=>
Aq T.a13 a0 0 λn65=>
AT T.a33 a0 6 λl66=>
Ap F.a96 [Ao n58 n59 n60 n61 n62 n63 l64,Aa (AB (offset-n65)),Aa (Am l66)] λn67 n68 n69 n70 n71 n72 l73=>
Ac T.a0 a1 (Ao n67 n68 n69 n70 n71 n72 l73)<|
Aw T.a0 a1 λn74 n75 n76 n77 n78 n79 l80=>
Aj 0 [Ao n74 n75 n76 n77 n78 n79 l80,.bool true]
theorem ztt (b_0 b_1 b_2 b_3 b_4 b_5:Int) (b_6:Sl) (offset:Int):FnS (z06g b_0 b_1 b_2 b_3 b_4 b_5 b_6 offset) F.a87 #[.agg #[.int .i64 b_0,.int .i64 b_1,.int .i64 b_2,.int .i64 b_3,.int .i64 b_4,.int .i64 b_5,.slice b_6.a b_6.len b_6.cap],.int .i64 offset]:=dV ⟨[],[],[(1,[(6,.one .bool)])],[]⟩ Go.Proofs.Tryz.func126 (by kernel_rfl)
def zz7 (b_0 b_1 b_2 b_3 b_4 b_5:Int) (b_6:Sl):Prog :=
AM T.a0 (Ao b_0 b_1 b_2 b_3 b_4 b_5 b_6) λa0=>
Aq T.a12 a0 4 λn1=>
Ar ((n1 == 2)=false) T.a12 a0 4 λn2=>
AL (n1 == 2 || n2 == 3) λb3=>
Aj 0 [.bool b3]
theorem zmf (b_0 b_1 b_2 b_3 b_4 b_5:Int) (b_6:Sl):FnS (zz7 b_0 b_1 b_2 b_3 b_4 b_5 b_6) F.a94 #[.agg #[.int .i64 b_0,.int .i64 b_1,.int .i64 b_2,.int .i64 b_3,.int .i64 b_4,.int .i64 b_5,.slice b_6.a b_6.len b_6.cap]]:=dV ⟨[],[],[],[]⟩ Go.Proofs.Tryz.func128 (by kernel_rfl)
def z06k (b_0 b_1 b_2 b_3 b_4 b_5:Int) (b_6:Sl):Prog :=
AM T.a0 (Ao b_0 b_1 b_2 b_3 b_4 b_5 b_6) λa0=>
AD 1 (
Aw T.a0 a0 λn1 n2 n3 n4 n5 n6 l7=>
AJ F.a95 [Ao n1 n2 n3 n4 n5 n6 l7] λb8=>
AI (not b8=false) T.a0 a0 λn9 n10 n11 n12 n13 n14 l15=>
Ai (not b8) (
Aj 1 [.bool true])<|
AJ F.a93 [Ao n9 n10 n11 n12 n13 n14 l15] λb16=>
AL (not b16) λb17=>
Aj 1 [.bool b17]) λb18=>
Ai b18 (
Aj 0 [Aa 2])<|
AT T.a33 a0 6 λl19=>
AZ (decide ((Am l19)>64)) (
Aj 0 [Aa 7])<|
AT T.a33 a0 6 λl21=>
As 1 (
Ax 2 (0,()) λn22=>
Ai (decide (n22<(Am l21))) (
.ex [.adr] (c1 λa23=>0<=n22/\n22<(Am l21)/\l21.a=some a23) (u1 λa24=>
AU T.a2 a24 (Int.toNat n22*4) λs25 s26 b27 n28=>
Ab T.a2 λa29=>
Ac T.a2 a29 (AV s25 s26 b27 n28)<|
AX T.a2 a29 λs30 s31 b32 n33=>
AF F.a98 [AV s30 s31 b32 n33] λn34=>
Af n34 λn35=>
Ai (n35 != 0) (
Af n35 λn36=>
Aj 0 [Aa n36])<|
Aj 2 [Aa (AB (n22+1))]))<|
Aj 1 [])<|
Aw T.a0 a0 λn37 n38 n39 n40 n41 n42 l43=>
AF F.a90 [Ao n37 n38 n39 n40 n41 n42 l43] λn44=>
Af (AB (n44-1)) λn45=>
AD 1 (
Aq T.a13 a0 0 λn46=>
Ar (decide (n46>AB (1099511627776-n45))=false) T.a13 a0 1 λn47=>
AI (decide (n46>AB (1099511627776-n45))=false/\decide (n47>0)=true) T.a0 a0 λn48 n49 n50 n51 n52 n53 l54=>
Ai (decide (n46>AB (1099511627776-n45))) (
Aj 1 [.bool true])<|
Ai (decide (n47>0)) (
AJ F.a94 [Ao n48 n49 n50 n51 n52 n53 l54] λb55=>
Ar (not b55=true) T.a12 a0 3 λn56=>
Aj 1 [.bool (not b55 && decide (n56>AB (2147483647-n45)))])<|
Aj 1 [.bool false]) λb57=>
Ai b57 (
Aj 0 [Aa 24])<|
Aj 0 [Aa 0]
theorem ztx (b_0 b_1 b_2 b_3 b_4 b_5:Int) (b_6:Sl):FnS (z06k b_0 b_1 b_2 b_3 b_4 b_5 b_6) F.a91 #[.agg #[.int .i64 b_0,.int .i64 b_1,.int .i64 b_2,.int .i64 b_3,.int .i64 b_4,.int .i64 b_5,.slice b_6.a b_6.len b_6.cap]]:=dV ⟨[],[(1,[])],[(1,[(7,.one .bool)]),(13,[(58,.one .bool)])],[(1,[(24,.one (.int .i64))])]⟩ Go.Proofs.Tryz.func129 (by kernel_rfl)
def z06j (b_0 b_1 b_2 b_3 b_4 b_5:Int) (b_6:Sl):Prog :=
AM T.a0 (Ao b_0 b_1 b_2 b_3 b_4 b_5 b_6) λa0=>
Aw T.a0 a0 λn1 n2 n3 n4 n5 n6 l7=>
AJ F.a94 [Ao n1 n2 n3 n4 n5 n6 l7] λb8=>
Ai b8 (
Aj 0 [Aa 1])<|
AT T.a33 a0 6 λl9=>
Af (Am l9) λn10=>
Aj 0 [Aa n10]
theorem ztw (b_0 b_1 b_2 b_3 b_4 b_5:Int) (b_6:Sl):FnS (z06j b_0 b_1 b_2 b_3 b_4 b_5 b_6) F.a90 #[.agg #[.int .i64 b_0,.int .i64 b_1,.int .i64 b_2,.int .i64 b_3,.int .i64 b_4,.int .i64 b_5,.slice b_6.a b_6.len b_6.cap]]:=dV ⟨[],[],[],[]⟩ Go.Proofs.Tryz.func130 (by kernel_rfl)
def zzp (l:Option Addr):Prog :=
Ba l λa1=>
AT T.a37 a1 4 λl2=>
Ai ((Am l2) == 0) (
Aj 0 [Ah none])<|
Ay<|
Ba l λa4=>
AT T.a37 a4 4 λl5=>
Ba l λa7=>
AT T.a37 a7 4 λl8=>
.ex [.adr] (c1 λa9=>0<=AB ((Am l8)-1)/\AB ((Am l8)-1)<(Am l5)/\l5.a=some a9) (u1 λa10=>
Bb T.a28 a10 (Int.toNat (AB ((Am l8)-1))*1) λp11=>
AA<|
Aj 0 [Ah p11])
theorem zmx (l:Option Addr):FnS (zzp l) F.a113 #[.pointer l]:=dV ⟨[],[],[],[]⟩ Go.Proofs.Tryz.func152 (by kernel_rfl)
def z003 (s:Option Addr):Prog :=
Ay<|
Ba s λa1=>
Aq T.a13 a1 1 λn2=>
Ba s λa4=>
Aq T.a13 a4 2 λn5=>
Ba s λa7=>
Aq T.a13 a7 3 λn8=>
Af (if n8>if n5>n2 then n5 else n2 then n8 else if n5>n2 then n5 else n2) λn9=>
AA<|
Aj 0 [Aa n9]
theorem znb (s:Option Addr):FnS (z003 s) F.a127 #[.pointer s]:=dV ⟨[],[],[],[]⟩ Go.Proofs.Tryz.func153 (by kernel_rfl)
def zf0 (b:Sl):Prog :=
Ai (Option.isNone b.a) (
Aj 0 [.slice none 0 0])<|
AY (Instr.buildSlice T.a41 0 #[]) λl0=>
AY (app T.a41 T.a41 T.a41 l0.v b.v) λl1=>
Aj 0 [l1.v]
theorem zj1 (b:Sl):FnS (zf0 b) F.a0 #[.slice b.a b.len b.cap]:=dV ⟨[],[],[],[]⟩ Go.Proofs.Tryz.func163 (by kernel_rfl)
def z05e (parts:Sl):Prog :=
AG 1 (
AH 2 (0,(0,())) λn0 n1=>
Ai (decide (n1<(Am parts))) (
.ex [.adr] (c1 λa2=>0<=n1/\n1<(Am parts)/\parts.a=some a2) (u1 λa3=>
AT T.a41 a3 (Int.toNat n1*1) λl4=>
Af (AB (n0+(Am l4))) λn5=>
Ai (decide (n5>262144)) (
Aj 0 [.slice none 0 0])<|
Aj 2 [Aa n5,Aa (AB (n1+1))]))<|
Aj 1 [Aa n0]) λn6=>
AY (Instr.makeSlice T.a41 (Aa 0) (Aa (AB (n6+8)))) λl7=>
AC F.a38 [.int .u32 (IntKind.wrap .u32 n6)] λl8=>
AY (app T.a41 T.a41 T.a41 l7.v l8.v) λl9=>
Ak 1 (
Al 2 ({ a:=l9.a,len:=l9.len,cap:=l9.cap },(0,())) λl10 n11=>
Ai (decide (n11<(Am parts))) (
.ex [.adr] (c1 λa12=>0<=n11/\n11<(Am parts)/\parts.a=some a12) (u1 λa13=>
AT T.a41 a13 (Int.toNat n11*1) λl14=>
AY (app T.a41 T.a41 T.a41 l10.v l14.v) λl15=>
Aj 2 [l15.v,Aa (AB (n11+1))]))<|
Aj 1 [l10.v]) λl16=>
AY (Instr.buildSlice T.a39 1 #[(0,l16.v)]) λl17=>
BN F.a37 [l17.v] λn18=>
AC F.a38 [.int .u32 n18] λl19=>
AY (app T.a41 T.a41 T.a41 l16.v l19.v) λl20=>
Aj 0 [l20.v]
theorem zsq (parts:Sl):FnS (z05e parts) F.a36 #[.slice parts.a parts.len parts.cap]:=dV ⟨[],[(0,[(3,.one (.int .i64))]),(2,[(6,.one .slc)])],[],[(0,[(3,.one (.int .i64)),(11,.one (.int .i64))]),(2,[(6,.one .slc),(32,.one (.int .i64))])]⟩ Go.Proofs.Tryz.func171 (by kernel_rfl)
def z00r (n:Int):Prog :=
.bind 1 [.one (.int .u64),.one .slc] (
.loop 2 [.one (.int .u64),.one .slc] (n,(⟨none,0,0⟩,())) (u2 λ(n0:Int) l1=>
Ai (decide (n0>=128)) (
AY (Instr.buildSlice T.a41 1 #[(0,.int .u8 (IntKind.wrap .u8 (((BitVec.toNat (BitVec.ofInt 8 (IntKind.wrap .u8 n0) ||| BitVec.ofInt 8 128):Nat):Int))))]) λl2=>
AY (app T.a41 T.a41 T.a41 l1.v l2.v) λl3=>
Bj (Int.fdiv n0 128) λn4=>
Aj 2 [.int .u64 n4,l3.v])<|
Aj 1 [.int .u64 n0,l1.v])) (u2 λ(n5:Int) l6=>
AY (Instr.buildSlice T.a41 1 #[(0,.int .u8 (IntKind.wrap .u8 n5))]) λl7=>
AY (app T.a41 T.a41 T.a41 l6.v l7.v) λl8=>
Aj 0 [l8.v])
theorem zoc (n:Int):FnS (z00r n) F.a180 #[.int .u64 n]:=dV ⟨[],[(0,[(0,.one (.int .u64)),(3,.one .slc)])],[],[(0,[(0,.one (.int .u64)),(3,.one .slc)])]⟩ Go.Proofs.Tryz.func172 (by kernel_rfl)
def z00q (s:ByteArray):Prog :=
AC F.a180 [.int .u64 (IntKind.wrap .u64 (((ByteArray.size s:Nat):Int)))] λl0=>
AY (app T.a41 T.a46 T.a41 l0.v (.string s)) λl1=>
Aj 0 [l1.v]
theorem zob (s:ByteArray):FnS (z00q s) F.a179 #[.string s]:=dV ⟨[],[],[],[]⟩ Go.Proofs.Tryz.func173 (by kernel_rfl)
def zzl (l:Option Addr) (name:ByteArray) (end_:ByteArray):Prog :=
Ba l λa1=>
AW T.a46 a1 1 λs2=>
Af (AB (((ByteArray.size s2:Nat):Int)+1)) λn3=>
.must ((((ByteArray.size name:Nat):Int) != AB (AB (n3+11)+((ByteArray.size end_:Nat):Int)))=false->0<=AB (n3+11)/\AB (n3+11)<=((ByteArray.size name:Nat):Int)) <|
Ai (((ByteArray.size name:Nat):Int) != AB (AB (n3+11)+((ByteArray.size end_:Nat):Int)) || not (ByteArray.toList (ByteArray.extract name (Int.toNat (AB (n3+11))) (ByteArray.size name)) == ByteArray.toList end_)) (
Aj 0 [Aa 0,.bool false])<|
.must (0<=n3/\n3<=AB (n3+11)/\AB (n3+11)<=((ByteArray.size name:Nat):Int)) <|
AY (convert T.a46 T.a41 (.string (ByteArray.extract name (Int.toNat n3) (Int.toNat (AB (n3+11)))))) λl4=>
AG 1 (
AH 2 (0,(0,())) λn5 n6=>
Ai (decide (n6<(Am l4))) (
.ex [.adr] (c1 λa7=>0<=n6/\n6<(Am l4)/\l4.a=some a7) (u1 λa8=>
B7 T.a48 a8 (Int.toNat n6*1) λn9=>
B8 n9 λn10=>
AL (decide (n10>=48) && decide (n10<=57)) λb11=>
AG 3 (
Ai b11 (
Af (AB (((BitVec.toNat (BitVec.ofInt 64 (AB (n5*16)) ||| BitVec.ofInt 64 (AB (IntKind.wrap .u8 (n10-48)))):Nat):Int))) λn12=>
Aj 3 [Aa n12])<|
AZ (decide (n10>=97) && decide (n10<=102)) (
Af (AB (((BitVec.toNat (BitVec.ofInt 64 (AB (n5*16)) ||| BitVec.ofInt 64 (AB (IntKind.wrap .u8 (IntKind.wrap .u8 (n10-97)+10)))):Nat):Int))) λn14=>
Aj 3 [Aa n14])<|
Aj 0 [Aa 0,.bool false]) λn15=>
Aj 2 [Aa n15,Aa (AB (n6+1))]))<|
Aj 1 [Aa n5]) λn16=>
Af n16 λn17=>
Aj 0 [Aa n17,.bool true]
theorem zmt (l:Option Addr) (name end_:ByteArray):FnS (zzl l name end_) F.a109 #[.pointer l,.string name,.string end_]:=dV ⟨[(19342794667089993088630829,[(9,.one (.int .i64))])],[(0,[(9,.one (.int .i64))])],[],[(0,[(9,.one (.int .i64)),(41,.one (.int .i64))])]⟩ Go.Proofs.Tryz.func182 (by kernel_rfl)
def z05b (b:Sl):Prog :=
Ai (decide ((Am b)<8)) (
Aj 0 [.slice none 0 0,Aa 0,.bool false])<|
BN F.a39 [b.v] λn0=>
BO n0 λn1=>
Ai (decide (n1>262144) || decide (AB n1>AB ((Am b)-8))) (
Aj 0 [.slice none 0 0,Aa 0,.bool false])<|
Af (AB (AB n1+4)) λn2=>
AD 1 (
Ay<|
.must (0<=n2/\n2<=(Am b)) <|
.must (0<=n2/\n2<=((b.cap:Nat):Int)) <|
.both (
BN F.a39 [.slice (z1t b.a 1 (Int.toNat n2) b.cap) (b.len-Int.toNat n2) (b.cap-Int.toNat n2)] λn3=>
AY (Instr.buildSlice T.a39 1 #[(0,.slice b.a (Int.toNat n2) b.cap)]) λl4=>
BN F.a37 [l4.v] λn5=>
AA<|
Aj 1 [.bool (n3 != n5)]) <|
AY (Instr.buildSlice T.a39 1 #[(0,.slice b.a (Int.toNat n2) b.cap)]) λl6=>
BN F.a39 [.slice (z1t b.a 1 (Int.toNat n2) b.cap) (b.len-Int.toNat n2) (b.cap-Int.toNat n2)] λn7=>
BN F.a37 [l6.v] λn8=>
AA<|
Aj 1 [.bool (n7 != n8)]) λb9=>
Ai b9 (
Aj 0 [.slice none 0 0,Aa 0,.bool false])<|
.must ((0:Int)<=4/\4<=n2/\n2<=((b.cap:Nat):Int)) <|
AC F.a0 [.slice (z1t b.a 1 4 b.cap) (Int.toNat n2-4) (b.cap-4)] λl10=>
Af (AB (n2+4)) λn11=>
Aj 0 [l10.v,Aa n11,.bool true]
theorem zsn (b:Sl):FnS (z05b b) F.a33 #[.slice b.a b.len b.cap]:=dV ⟨[],[],[(7,[(34,.one .bool)])],[]⟩ Go.Proofs.Tryz.func183 (by kernel_rfl)
def zzz (body:Sl) (base:Int):Prog :=
Bf F.a169 [body.v] λp0=>
AF F.a170 [Ah p0] λn1=>
Bi F.a176 [Ah p0] λn2=>
Bi F.a176 [Ah p0] λn3=>
Af n1 λn4=>
Bj n2 λn5=>
Bj n3 λn6=>
AF F.a171 [Ah p0] λn7=>
Ai (n7 != 0 || n4 != 83 || n5 != IntKind.wrap .u64 base || decide (base>1099511627776) || decide (n6>1099511627776)) (
Aj 0 [Aa 0,.bool false])<|
Af (AB n6) λn8=>
AL (n6 == 0 || decide (AB n6>base)) λb9=>
Aj 0 [Aa n8,.bool b9]
theorem zn7 (body:Sl) (base:Int):FnS (zzz body base) F.a123 #[.slice body.a body.len body.cap,.int .i64 base]:=dV ⟨[],[],[],[]⟩ Go.Proofs.Tryz.func184 (by kernel_rfl)
def zzu (l:Option Addr) (base:Int) (end_:Int):Prog :=
Ba l λa1=>
Aq T.a12 (Addr.add a1 2) 1 λn2=>
Ae F.a44 [Aa n2] λp3 n4=>
Af n4 λn5=>
AC F.a122 [Aa base,Aa end_] λl6=>
AM T.a44 (.agg #[Ah p3,Aa base,Aa end_,Aa 0,Aa (-1),Aa (Am l6)]) λa7=>
Aj 0 [AP a7]
theorem zn2 (l:Option Addr) (base end_:Int):FnS (zzu l base end_) F.a118 #[.pointer l,.int .i64 base,.int .i64 end_]:=dV ⟨[],[],[],[]⟩ Go.Proofs.Tryz.func185 (by kernel_rfl)
def z06d (raw:Sl):Prog :=
Ab T.a0 λa0=>
Ab T.a0 λa1=>
Ac T.a0 a1 (.agg #[Aa 0,Aa 0,Aa 0,Aa 0,Aa 0,Aa 0,.slice none 0 0])<|
Bf F.a169 [raw.v] λp2=>
AF F.a170 [Ah p2] λn3=>
Ai (n3 != 1) (
Aw T.a0 a1 λn4 n5 n6 n7 n8 n9 l10=>
Ac T.a0 a0 (Ao n4 n5 n6 n7 n8 n9 l10)<|
Aw T.a0 a0 λn11 n12 n13 n14 n15 n16 l17=>
Aj 0 [Ao n11 n12 n13 n14 n15 n16 l17,Aa 6])<|
AF F.a170 [Ah p2] λn18=>
AF F.a99 [Ah p2,Aa 1099511627776] λn19=>
AF F.a99 [Ah p2,Aa 1048576] λn20=>
Ab T.a0 λa21=>
Ac T.a0 a21 (.agg #[Aa n19,Aa n20,Aa 0,Aa 0,Aa n18,Aa 0,.slice none 0 0])<|
Aq T.a13 a21 1 λn22=>
As 1 (
Ai (decide (n22>0)) (
AF F.a99 [Ah p2,Aa 32767] λn23=>
AS T.a12 a21 2 (Aa n23)<|
Aw T.a0 a21 λn24 n25 n26 n27 n28 n29 l30=>
AJ F.a94 [Ao n24 n25 n26 n27 n28 n29 l30] λb31=>
As 2 (
Ai (not b31) (
AF F.a99 [Ah p2,Aa 2147483647] λn32=>
AS T.a12 a21 3 (Aa n32)<|
Aj 2 [])<|
Aj 2 [])<|
Aj 1 [])<|
Aj 1 [])<|
AF F.a99 [Ah p2,Aa 1099511627776] λn33=>
AS T.a13 a21 5 (Aa n33)<|
AF F.a172 [Ah p2] λn34=>
Ar ((n34 != 0)=false) T.a13 a21 5 λn35=>
Ai (n34 != 0 || decide (n35>1099511627776)) (
Aw T.a0 a1 λn36 n37 n38 n39 n40 n41 l42=>
Ac T.a0 a0 (Ao n36 n37 n38 n39 n40 n41 l42)<|
Aw T.a0 a0 λn43 n44 n45 n46 n47 n48 l49=>
Aj 0 [Ao n43 n44 n45 n46 n47 n48 l49,Aa 6])<|
Aw T.a0 a21 λn50 n51 n52 n53 n54 n55 l56=>
AJ F.a94 [Ao n50 n51 n52 n53 n54 n55 l56] λb57=>
As 1 (
Ai (not b57) (
AF F.a99 [Ah p2,Aa 64] λn58=>
Af n58 λn59=>
Ai (decide (n59>64)) (
Aw T.a0 a1 λn60 n61 n62 n63 n64 n65 l66=>
Ac T.a0 a0 (Ao n60 n61 n62 n63 n64 n65 l66)<|
Aw T.a0 a0 λn67 n68 n69 n70 n71 n72 l73=>
Aj 0 [Ao n67 n68 n69 n70 n71 n72 l73,Aa 6])<|
As 2 (
.loop 3 [.one .str,.one (.int .i64)] ((ByteArray.mk #[]),(0,())) (u2 λs74 (n75:Int)=>
Ai (decide (n75<n59)) (
Aq T.a13 a21 5 λn76=>
.call F.a97 [Ah p2,Aa n76,.string s74] (.tup [.agg [.str,.str,.bool,.int .i64],.one .bool]) (u5 λs77 s78 b79 (n80:Int) b81=>
Ab T.a2 λa82=>
Ac T.a2 a82 (AV s77 s78 b79 n80)<|
AL b81 λb83=>
Ai (not b83) (
Aw T.a0 a1 λn84 n85 n86 n87 n88 n89 l90=>
Ac T.a0 a0 (Ao n84 n85 n86 n87 n88 n89 l90)<|
Aw T.a0 a0 λn91 n92 n93 n94 n95 n96 l97=>
Aj 0 [Ao n91 n92 n93 n94 n95 n96 l97,Aa 6])<|
AT T.a33 a21 6 λl98=>
AX T.a2 a82 λs99 s100 b101 n102=>
AY (Instr.buildSlice T.a33 1 #[(0,AV s99 s100 b101 n102)]) λl103=>
AY (app T.a33 T.a33 T.a33 l98.v l103.v) λl104=>
AS T.a33 a21 6 l104.v<|
AW T.a46 a82 0 λs105=>
Be s105 λs106=>
Aj 3 [.string s106,Aa (AB (n75+1))]))<|
Aj 2 []))<|
Aj 1 [])<|
Aj 1 [])<|
AD 1 (
AF F.a171 [Ah p2] λn107=>
AI ((n107 != 0)=false) T.a0 a21 λn108 n109 n110 n111 n112 n113 l114=>
Ai (n107 != 0) (
Aj 1 [.bool true])<|
AF F.a91 [Ao n108 n109 n110 n111 n112 n113 l114] λn115=>
Aj 1 [.bool (n115 != 0)]) λb116=>
Ai b116 (
Aw T.a0 a1 λn117 n118 n119 n120 n121 n122 l123=>
Ac T.a0 a0 (Ao n117 n118 n119 n120 n121 n122 l123)<|
Aw T.a0 a0 λn124 n125 n126 n127 n128 n129 l130=>
Aj 0 [Ao n124 n125 n126 n127 n128 n129 l130,Aa 6])<|
Aw T.a0 a21 λn131 n132 n133 n134 n135 n136 l137=>
Ac T.a0 a0 (Ao n131 n132 n133 n134 n135 n136 l137)<|
Aw T.a0 a0 λn138 n139 n140 n141 n142 n143 l144=>
Aj 0 [Ao n138 n139 n140 n141 n142 n143 l144,Aa 0]
theorem ztq (raw:Sl):FnS (z06d raw) F.a84 #[.slice raw.a raw.len raw.cap]:=dV ⟨[(985162418487330,[]),(1123700883587100,[]),(19807040591672596250983170100,[])],[(0,[])],[(27,[(89,.one .bool)])],[(0,[(8,.one .str),(59,.one (.int .i64))])]⟩ Go.Proofs.Tryz.func186 (by kernel_rfl)
def z004 (s:Option Addr) (b_0 b_1 b_2 b_3 b_4 b_5:Int) (b_6:Sl) (size:Int):Prog :=
AM T.a0 (Ao b_0 b_1 b_2 b_3 b_4 b_5 b_6) λa0=>
Aw T.a0 a0 λn1 n2 n3 n4 n5 n6 l7=>
AF F.a124 [Ao n1 n2 n3 n4 n5 n6 l7] λn8=>
Af n8 λn9=>
Ay<|
Ba s λa11=>
Bb T.a25 a11 0 λp12=>
Aq T.a13 a0 0 λn13=>
Ba s λa15=>
Aq T.a12 a15 5 λn16=>
AF F.a42 [Ah p12,Aa n13,Aa n16,Aa n9] λn17=>
AA<|
Aw T.a0 a0 λn18 n19 n20 n21 n22 n23 l24=>
AF F.a89 [Ao n18 n19 n20 n21 n22 n23 l24] λn25=>
Ba s λa27=>
AS T.a13 a27 3 (Aa n25)<|
Ba s λa29=>
Aq T.a13 a29 4 λn30=>
Ba s λa32=>
AS T.a13 a32 4 (Aa (if n9>n30 then n9 else n30))<|
Ba s λa34=>
Aq T.a12 a34 5 λn35=>
Ba s λa37=>
AS T.a12 a37 5 (Aa (AB (n35+size)))<|
Aj 0 []
theorem znc (s:Option Addr) (b_0 b_1 b_2 b_3 b_4 b_5:Int) (b_6:Sl) (size:Int):FnS (z004 s b_0 b_1 b_2 b_3 b_4 b_5 b_6 size) F.a128 #[.pointer s,.agg #[.int .i64 b_0,.int .i64 b_1,.int .i64 b_2,.int .i64 b_3,.int .i64 b_4,.int .i64 b_5,.slice b_6.a b_6.len b_6.cap],.int .i64 size]:=dV ⟨[],[],[],[]⟩ Go.Proofs.Tryz.func187 (by kernel_rfl)
def zzs (l:Option Addr) (s:Option Addr):Prog :=
Ba l λa1=>
AT T.a37 a1 4 λl2=>
AY (Instr.buildSlice T.a37 1 #[(0,Ah s)]) λl3=>
AY (app T.a37 T.a37 T.a37 l2.v l3.v) λl4=>
Ba l λa6=>
AS T.a37 a6 4 l4.v<|
Aj 0 []
theorem zn0 (l s:Option Addr):FnS (zzs l s) F.a116 #[.pointer l,.pointer s]:=dV ⟨[],[],[],[]⟩ Go.Proofs.Tryz.func188 (by kernel_rfl)
def z00p (r:Option Addr):Prog :=
Bd (not (Option.isNone r)=true) r λa1=>
Ar (not (Option.isNone r)=true) T.a1 (Addr.add a1 0) 2 λn2=>
AL (not (Option.isNone r) && n2 == 0) λb3=>
Aj 0 [.bool b3]
theorem zoa (r:Option Addr):FnS (z00p r) F.a178 #[.pointer r]:=dV ⟨[],[],[],[]⟩ Go.Proofs.Tryz.func190 (by kernel_rfl)
def z00v (p:Option Addr):Prog :=
As 1 (
.loop 2 [.one (.int .u64),.one (.int .i64)] (0,(0,())) (u2 λ(n0 n1:Int)=>
Ai (decide (n1<10)) (
AF F.a182 [Ah p] λn2=>
Ai (decide (n1>=n2)) (
Aj 1 [])<|
Ay<|
Ba p λa4=>
AT T.a41 a4 0 λl5=>
Ba p λa7=>
Aq T.a12 a7 1 λn8=>
.ex [.adr] (c1 λa9=>0<=AB (n8+n1)/\AB (n8+n1)<(Am l5)/\l5.a=some a9) (u1 λa10=>
B7 T.a48 a10 (Int.toNat (AB (n8+n1))*1) λn11=>
B8 n11 λn12=>
AA<|
Ai (n1 == 9 && decide (n12>1)) (
Aj 1 [])<|
.must (0<=AB (7*n1)) <|
Bj (IntKind.wrap .u64 (((BitVec.toNat (BitVec.ofInt 64 n0 ||| BitVec.ofInt 64 (IntKind.wrap .u64 (IntKind.wrap .u64 (IntKind.wrap .u8 (((BitVec.toNat (BitVec.ofInt 8 n12 &&& BitVec.ofInt 8 127):Nat):Int)))*2 ^ min (Int.toNat (AB (7*n1))) 64))):Nat):Int))) λn13=>
Ai (decide (n12>=128)) (
Af (AB (n1+1)) λn14=>
Aj 2 [.int .u64 n13,Aa n14])<|
Ai (n12 == 0 && decide (n1>0)) (
Aj 1 [])<|
Ba p λa16=>
Aq T.a12 a16 1 λn17=>
Ba p λa19=>
AS T.a12 a19 1 (Aa (AB (n17+AB (n1+1))))<|
Bj n13 λn20=>
Aj 0 [.int .u64 n20]))<|
Aj 1 []))<|
AR F.a181 [Ah p,Aa 6]<|
Aj 0 [.int .u64 0]
theorem zog (p:Option Addr):FnS (z00v p) F.a184 #[.pointer p]:=dV ⟨[],[(0,[])],[],[(0,[(3,.one (.int .u64)),(4,.one (.int .i64))])]⟩ Go.Proofs.Tryz.func191 (by kernel_rfl)
def z00s (p:Option Addr) (e_:Int):Prog :=
Ba p λa1=>
Aq T.a1 a1 2 λn2=>
As 1 (
Ai (n2 == 0) (
Ba p λa4=>
AS T.a1 a4 2 (Aa e_)<|
Aj 1 [])<|
Aj 1 [])<|
Aj 0 []
theorem zod (p:Option Addr) (e_:Int):FnS (z00s p e_) F.a181 #[.pointer p,.int .i64 e_]:=dV ⟨[(31457288,[])],[],[],[]⟩ Go.Proofs.Tryz.func192 (by kernel_rfl)
def z00t (p:Option Addr):Prog :=
Ay<|
Ba p λa1=>
AT T.a41 a1 0 λl2=>
Ba p λa4=>
Aq T.a12 a4 1 λn5=>
Af (AB ((Am l2)-n5)) λn6=>
AA<|
Aj 0 [Aa n6]
theorem zoe (p:Option Addr):FnS (z00t p) F.a182 #[.pointer p]:=dV ⟨[],[],[],[]⟩ Go.Proofs.Tryz.func193 (by kernel_rfl)
def z00u (p:Option Addr) (n:Int):Prog :=
Ba p λa1=>
Aq T.a12 a1 1 λn2=>
Ba p λa4=>
AS T.a12 a4 1 (Aa (AB (n2+n)))<|
Ay<|
Ba p λa6=>
AT T.a41 a6 0 λl7=>
Ba p λa9=>
Aq T.a12 a9 1 λn10=>
Ba p λa12=>
Aq T.a12 a12 1 λn13=>
.must (0<=AB (n10-n)/\AB (n10-n)<=n13/\n13<=((l7.cap:Nat):Int)) <|
AA<|
Aj 0 [.slice (z1t l7.a 1 (Int.toNat (AB (n10-n))) l7.cap) (Int.toNat n13-Int.toNat (AB (n10-n))) (l7.cap-Int.toNat (AB (n10-n)))]
theorem zof (p:Option Addr) (n:Int):FnS (z00u p n) F.a183 #[.pointer p,.int .i64 n]:=dV ⟨[],[],[],[]⟩ Go.Proofs.Tryz.func194 (by kernel_rfl)
def z00o (r:Option Addr) (lo:Int) (hi:Int):Prog :=
AJ F.a178 [Ah r] λb0=>
Ai (not b0) (
Aj 0 [Aa 0])<|
Ba r λa2=>
Aq T.a12 (Addr.add a2 0) 1 λn3=>
Af n3 λn4=>
AF F.a174 [Ah r] λn5=>
Af n5 λn6=>
Ba r λa8=>
Aq T.a1 (Addr.add a8 0) 2 λn9=>
As 1 (
Ai (n9 == 0 && (decide (n6<lo) || decide (n6>hi))) (
Ba r λa11=>
AS T.a12 (Addr.add a11 0) 1 (Aa n4)<|
Ba r λa13=>
AR F.a181 [B5 a13 0,Aa 8]<|
Aj 1 [])<|
Aj 1 [])<|
Ba r λa15=>
Aq T.a1 (Addr.add a15 0) 2 λn16=>
Ai (n16 != 0) (
Aj 0 [Aa 0])<|
Af n6 λn17=>
Aj 0 [Aa n17]
theorem zo9 (r:Option Addr) (lo hi:Int):FnS (z00o r lo hi) F.a177 #[.pointer r,.int .i64 lo,.int .i64 hi]:=dV ⟨[(71916856549572642,[])],[],[],[]⟩ Go.Proofs.Tryz.func196 (by kernel_rfl)
def z00j (r:Option Addr):Prog :=
Ai (Option.isNone r) (
Aj 0 [Aa 1])<|
Ba r λa1=>
Aq T.a1 (Addr.add a1 0) 2 λn2=>
Af n2 λn3=>
Aj 0 [Aa n3]
theorem zo4 (r:Option Addr):FnS (z00j r) F.a172 #[.pointer r]:=dV ⟨[],[],[],[]⟩ Go.Proofs.Tryz.func197 (by kernel_rfl)
def zzr (l:Option Addr) (bs:Sl):Prog :=
AF F.a104 [Ah l] λn0=>
Af n0 λn1=>
.bind 1 [.one .slc,.one .slc] (
.loop 2 [.one (.int .i64),.one .slc,.one .slc,.one (.int .i64)] (n1,(⟨none,0,0⟩,(⟨none,0,0⟩,(0,())))) (u4 λ(n2:Int) l3 l4 (n5:Int)=>
Ai (decide (n5<(Am bs))) (
.ex [.adr] (c1 λa6=>0<=n5/\n5<(Am bs)/\bs.a=some a6) (u1 λa7=>
An T.a0 a7 (Int.toNat n5*7) λn8 n9 n10 n11 n12 n13 l14=>
Ab T.a0 λa15=>
Ac T.a0 a15 (Ao n8 n9 n10 n11 n12 n13 l14)<|
AS T.a13 a15 0 (Aa n2)<|
Aw T.a0 a15 λn16 n17 n18 n19 n20 n21 l22=>
Bc F.a85 [Ao n16 n17 n18 n19 n20 n21 l22] λl23 n24=>
Af n24 λn25=>
Ai (n25 != 0) (
Af n25 λn26=>
Aj 0 [.slice none 0 0,.slice none 0 0,Aa n26])<|
Aw T.a0 a15 λn27 n28 n29 n30 n31 n32 l33=>
AY (Instr.buildSlice T.a32 1 #[(0,Ao n27 n28 n29 n30 n31 n32 l33)]) λl34=>
AY (app T.a32 T.a32 T.a32 l3.v l34.v) λl35=>
AY (Instr.buildSlice T.a39 1 #[(0,l23.v)]) λl36=>
AC F.a36 [l36.v] λl37=>
AY (Instr.buildSlice T.a39 1 #[(0,l37.v)]) λl38=>
AY (app T.a39 T.a39 T.a39 l4.v l38.v) λl39=>
Aw T.a0 a15 λn40 n41 n42 n43 n44 n45 l46=>
AF F.a89 [Ao n40 n41 n42 n43 n44 n45 l46] λn47=>
Af n47 λn48=>
Aj 2 [Aa n48,l35.v,l39.v,Aa (AB (n5+1))]))<|
Aj 1 [l3.v,l4.v])) (u2 λl49 l50=>
Aj 0 [l49.v,l50.v,Aa 0])
theorem zmz (l:Option Addr) (bs:Sl):FnS (zzr l bs) F.a115 #[.pointer l,.slice bs.a bs.len bs.cap]:=dV ⟨[],[(0,[(8,.one .slc),(9,.one .slc)])],[],[(0,[(7,.one (.int .i64)),(8,.one .slc),(9,.one .slc),(18,.one (.int .i64))])]⟩ Go.Proofs.Tryz.func203 (by kernel_rfl)
def zzo (l:Option Addr) (n:Int):Prog :=
Bf F.a113 [Ah l] λp0=>
Ay<|
Bd (not (Option.isNone p0)=true) p0 λa2=>
Ar (not (Option.isNone p0)=true) T.a13 a2 3 λn3=>
Bd (not (Option.isNone p0)=true/\(n3 == 0)=false) p0 λa5=>
Ar (not (Option.isNone p0)=true/\(n3 == 0)=false) T.a12 a5 5 λn6=>
Bd (not (Option.isNone p0)=true/\(n3 == 0)=false) l λa8=>
Ar (not (Option.isNone p0)=true/\(n3 == 0)=false) T.a12 (Addr.add a8 2) 0 λn9=>
AL (not (Option.isNone p0) && (n3 == 0 || decide (AB (n6+n)<=n9))) λb10=>
AA<|
Aj 0 [.bool b10]
theorem zmw (l:Option Addr) (n:Int):FnS (zzo l n) F.a112 #[.pointer l,.int .i64 n]:=dV ⟨[],[],[],[]⟩ Go.Proofs.Tryz.func204 (by kernel_rfl)
def zzy (base:Int) (end_:Int):Prog :=
AY (Instr.buildSlice T.a41 1 #[(0,.int .u8 83)]) λl0=>
AC F.a180 [.int .u64 (IntKind.wrap .u64 base)] λl1=>
AC F.a180 [.int .u64 (IntKind.wrap .u64 end_)] λl2=>
AY (Instr.buildSlice T.a39 3 #[(0,l0.v),(1,l1.v),(2,l2.v)]) λl3=>
AC F.a36 [l3.v] λl4=>
Aj 0 [l4.v]
theorem zn6 (base end_:Int):FnS (zzy base end_) F.a122 #[.int .i64 base,.int .i64 end_]:=dV ⟨[],[],[],[]⟩ Go.Proofs.Tryz.func205 (by kernel_rfl)
def z05i (x:Option Addr) (offset:Int):Prog :=
AM T.a25 (Ah x) λa0=>
AM T.a13 (Aa offset) λa1=>
Ab T.a9 λa2=>
BJ T.a25 a0 λp3=>
Ai (Option.isNone p3) (
Ac T.a9 a2 (Ad 0 0 0)<|
Ag T.a9 a2 λn4 n5 n6=>
Aj 0 [Ad n4 n5 n6,.bool false])<|
AD 1 (
Ay<|
.hold True (ld T.a25 a0) sP (u1 λp7=>
BJ T.a25 a0 λp8=>
Ba p8 λa10=>
AT T.a34 a10 4 λl11=>
AF F.a159 [Aa (Am l11),.func (Fn.func 256) #[] #[AP a0,AP a1]] λn12=>
AA<|
.call F.a43 [Ah p7,Aa (AB (n12-1))] (.tup [.agg [.int .i64,.int .i64,.int .i64],.one .bool]) (u4 λ(n13 n14 n15:Int) b16=>
Ac T.a9 a2 (Ad n13 n14 n15)<|
AL b16 λb17=>
AA<|
Aj 1 [.bool b17]))) λb18=>
Ag T.a9 a2 λn19 n20 n21=>
Aj 0 [Ad n19 n20 n21,.bool b18]
theorem zsu (x:Option Addr) (offset:Int):FnS (z05i x offset) F.a40 #[.pointer x,.int .i64 offset]:=dV ⟨[],[],[(3,[(5,.one .bool)])],[]⟩ Go.Proofs.Tryz.func206 (by kernel_rfl)
def zz9 (b_0 b_1 b_2 b_3 b_4 b_5:Int) (b_6:Sl) (from_:Int) (to_:Int):Prog :=
AM T.a0 (Ao b_0 b_1 b_2 b_3 b_4 b_5 b_6) λa0=>
Ab T.a0 λa1=>
Aw T.a0 a0 λn2 n3 n4 n5 n6 n7 l8=>
Ab T.a0 λa9=>
Ac T.a0 a9 (Ao n2 n3 n4 n5 n6 n7 l8)<|
AT T.a33 a0 6 λl10=>
.must (0<=from_/\from_<=to_/\to_<=((l10.cap:Nat):Int)) <|
AY (app T.a33 T.a33 T.a33 (.slice none 0 0) (.slice (z1t l10.a 4 (Int.toNat from_) l10.cap) (Int.toNat to_-Int.toNat from_) (l10.cap-Int.toNat from_))) λl11=>
AS T.a33 a9 6 l11.v<|
Aq T.a13 a9 0 λn12=>
AS T.a13 a9 0 (Aa (AB (n12+from_)))<|
Aq T.a13 a9 1 λn13=>
As 1 (
Ai (decide (n13>0)) (
Aq T.a12 a9 3 λn14=>
AS T.a12 a9 3 (Aa (AB (n14+from_)))<|
Aj 1 [])<|
Aj 1 [])<|
Aw T.a0 a9 λn15 n16 n17 n18 n19 n20 l21=>
Ac T.a0 a1 (Ao n15 n16 n17 n18 n19 n20 l21)<|
Aw T.a0 a1 λn22 n23 n24 n25 n26 n27 l28=>
Aj 0 [Ao n22 n23 n24 n25 n26 n27 l28]
theorem zmh (b_0 b_1 b_2 b_3 b_4 b_5:Int) (b_6:Sl) (from_ to_:Int):FnS (zz9 b_0 b_1 b_2 b_3 b_4 b_5 b_6 from_ to_) F.a96 #[.agg #[.int .i64 b_0,.int .i64 b_1,.int .i64 b_2,.int .i64 b_3,.int .i64 b_4,.int .i64 b_5,.slice b_6.a b_6.len b_6.cap],.int .i64 from_,.int .i64 to_]:=dV ⟨[(2130303778839,[])],[],[],[]⟩ Go.Proofs.Tryz.func207 (by kernel_rfl)
def zz8 (b_0 b_1 b_2 b_3 b_4 b_5:Int) (b_6:Sl):Prog :=
AM T.a0 (Ao b_0 b_1 b_2 b_3 b_4 b_5 b_6) λa0=>
AD 1 (
Aq T.a12 a0 4 λn1=>
Ar (decide (n1>=0)=true) T.a12 a0 4 λn2=>
Ar ((decide (n1>=0) && decide (n2<=3))=true) T.a13 a0 0 λn3=>
Ai (decide (n1>=0) && decide (n2<=3)) (
AJ F.a100 [Aa n3,Aa 0,Aa 1099511627776] λb4=>
Ar (b4=true) T.a13 a0 1 λn5=>
Ai b4 (
AJ F.a100 [Aa n5,Aa 0,Aa 1048576] λb6=>
Ar (b6=true) T.a12 a0 2 λn7=>
Ar ((b6 && decide (n7>=0))=true) T.a12 a0 2 λn8=>
Ar ((b6 && decide (n7>=0) && decide (n8<=32767))=true) T.a12 a0 3 λn9=>
Ar ((b6 && decide (n7>=0) && decide (n8<=32767) && decide (n9>=0))=true) T.a12 a0 3 λn10=>
Ar ((b6 && decide (n7>=0) && decide (n8<=32767) && decide (n9>=0) && decide (n10<=2147483647))=true) T.a13 a0 5 λn11=>
Ai (b6 && decide (n7>=0) && decide (n8<=32767) && decide (n9>=0) && decide (n10<=2147483647)) (
AJ F.a100 [Aa n11,Aa 0,Aa 1099511627776] λb12=>
AL b12 λb13=>
Aj 1 [.bool b13])<|
Aj 1 [.bool false])<|
Aj 1 [.bool false])<|
Aj 1 [.bool false]) λb14=>
Aj 0 [.bool b14]
theorem zmg (b_0 b_1 b_2 b_3 b_4 b_5:Int) (b_6:Sl):FnS (zz8 b_0 b_1 b_2 b_3 b_4 b_5 b_6) F.a95 #[.agg #[.int .i64 b_0,.int .i64 b_1,.int .i64 b_2,.int .i64 b_3,.int .i64 b_4,.int .i64 b_5,.slice b_6.a b_6.len b_6.cap]]:=dV ⟨[],[],[(1,[(2,.one .bool)])],[]⟩ Go.Proofs.Tryz.func208 (by kernel_rfl)
def z06m (b_0 b_1 b_2 b_3 b_4 b_5:Int) (b_6:Sl):Prog :=
AM T.a0 (Ao b_0 b_1 b_2 b_3 b_4 b_5 b_6) λa0=>
Aq T.a13 a0 1 λn1=>
Ar ((n1 == 0)=true) T.a12 a0 4 λn2=>
Ar ((n1 == 0)=true/\(n2 != 0)=false) T.a12 a0 2 λn3=>
Ar ((n1 == 0)=true/\(n2 != 0 || n3 != 0)=false) T.a12 a0 3 λn4=>
Ai (n1 == 0 && (n2 != 0 || n3 != 0 || n4 != 0)) (
Aj 0 [.bool false])<|
Aw T.a0 a0 λn5 n6 n7 n8 n9 n10 l11=>
AJ F.a94 [Ao n5 n6 n7 n8 n9 n10 l11] λb12=>
Ai b12 (
Aq T.a12 a0 3 λn13=>
AK ((n13 == 0)=true) T.a33 a0 6 λl14=>
AL (n13 == 0 && (Am l14) == 0) λb15=>
Aj 0 [.bool b15])<|
AT T.a33 a0 6 λl16=>
AL (decide ((Am l16)>0)) λb17=>
Aj 0 [.bool b17]
theorem ztz (b_0 b_1 b_2 b_3 b_4 b_5:Int) (b_6:Sl):FnS (z06m b_0 b_1 b_2 b_3 b_4 b_5 b_6) F.a93 #[.agg #[.int .i64 b_0,.int .i64 b_1,.int .i64 b_2,.int .i64 b_3,.int .i64 b_4,.int .i64 b_5,.slice b_6.a b_6.len b_6.cap]]:=dV ⟨[],[],[],[]⟩ Go.Proofs.Tryz.func209 (by kernel_rfl)
def zzb (r_0 r_1:ByteArray) (r_2:Bool) (r_3:Int):Prog :=
AM T.a2 (AV r_0 r_1 r_2 r_3) λa0=>
AW T.a46 a0 0 λs1=>
BB (decide (((ByteArray.size s1:Nat):Int)>1024)=false) T.a46 a0 1 λs2=>
AZ (decide (((ByteArray.size s1:Nat):Int)>1024) || decide (((ByteArray.size s2:Nat):Int)>1024)) (
Aj 0 [Aa 7])<|
Aq T.a13 a0 3 λn4=>
AJ F.a100 [Aa n4,Aa 0,Aa 1099511627776] λb5=>
Bn (not b5=false) T.a3 a0 2 λb6=>
BB (not b5=false/\b6=true) T.a46 a0 1 λs7=>
AZ (not b5 || b6 && not (ByteArray.toList s7 == ByteArray.toList (ByteArray.mk #[]))) (
Aj 0 [Aa 2])<|
Aj 0 [Aa 0]
theorem zmj (r_0 r_1:ByteArray) (r_2:Bool) (r_3:Int):FnS (zzb r_0 r_1 r_2 r_3) F.a98 #[.agg #[.string r_0,.string r_1,.bool r_2,.int .i64 r_3]]:=dV ⟨[],[],[],[]⟩ Go.Proofs.Tryz.func210 (by kernel_rfl)
def z06e (b_0 b_1 b_2 b_3 b_4 b_5:Int) (b_6:Sl):Prog :=
AM T.a0 (Ao b_0 b_1 b_2 b_3 b_4 b_5 b_6) λa0=>
Aw T.a0 a0 λn1 n2 n3 n4 n5 n6 l7=>
AF F.a91 [Ao n1 n2 n3 n4 n5 n6 l7] λn8=>
Af n8 λn9=>
Ai (n9 != 0) (
Af n9 λn10=>
Aj 0 [.slice none 0 0,Aa n10])<|
Ak 1 (
Ay<|
Bs T.a12 a0 4 λn11=>
Bs T.a13 a0 0 λn12=>
Bs T.a13 a0 1 λn13=>
.both (
AY (Instr.buildSlice T.a41 2 #[(0,.int .u8 1),(1,.int .u8 (IntKind.wrap .u8 n11))]) λl14=>
AC F.a180 [.int .u64 (IntKind.wrap .u64 n12)] λl15=>
AC F.a180 [.int .u64 (IntKind.wrap .u64 n13)] λl16=>
AA<|
AY (Instr.buildSlice T.a39 3 #[(0,l14.v),(1,l15.v),(2,l16.v)]) λl17=>
AC F.a168 [l17.v] λl18=>
AA<|
Aj 1 [l18.v]) <|
AC F.a180 [.int .u64 (IntKind.wrap .u64 n12)] λl19=>
.both (
AY (Instr.buildSlice T.a41 2 #[(0,.int .u8 1),(1,.int .u8 (IntKind.wrap .u8 n11))]) λl20=>
AC F.a180 [.int .u64 (IntKind.wrap .u64 n13)] λl21=>
AA<|
AY (Instr.buildSlice T.a39 3 #[(0,l20.v),(1,l19.v),(2,l21.v)]) λl22=>
AC F.a168 [l22.v] λl23=>
AA<|
Aj 1 [l23.v]) <|
AC F.a180 [.int .u64 (IntKind.wrap .u64 n13)] λl24=>
AY (Instr.buildSlice T.a41 2 #[(0,.int .u8 1),(1,.int .u8 (IntKind.wrap .u8 n11))]) λl25=>
AA<|
AY (Instr.buildSlice T.a39 3 #[(0,l25.v),(1,l19.v),(2,l24.v)]) λl26=>
AC F.a168 [l26.v] λl27=>
AA<|
Aj 1 [l27.v]) λl28=>
Aq T.a13 a0 1 λn29=>
Ak 1 (
Ai (decide (n29>0)) (
Aq T.a12 a0 2 λn30=>
AC F.a180 [.int .u64 (IntKind.wrap .u64 n30)] λl31=>
AY (app T.a41 T.a41 T.a41 l28.v l31.v) λl32=>
Aw T.a0 a0 λn33 n34 n35 n36 n37 n38 l39=>
AJ F.a94 [Ao n33 n34 n35 n36 n37 n38 l39] λb40=>
Ak 2 (
Ai (not b40) (
Aq T.a12 a0 3 λn41=>
AC F.a180 [.int .u64 (IntKind.wrap .u64 n41)] λl42=>
AY (app T.a41 T.a41 T.a41 l32.v l42.v) λl43=>
Aj 2 [l43.v])<|
Aj 2 [l32.v]) λl44=>
Aj 1 [l44.v])<|
Aj 1 [l28.v]) λl45=>
Aq T.a13 a0 5 λn46=>
AC F.a180 [.int .u64 (IntKind.wrap .u64 n46)] λl47=>
AY (app T.a41 T.a41 T.a41 l45.v l47.v) λl48=>
Aw T.a0 a0 λn49 n50 n51 n52 n53 n54 l55=>
AJ F.a94 [Ao n49 n50 n51 n52 n53 n54 l55] λb56=>
Ai b56 (
Aj 0 [l48.v,Aa 0])<|
AT T.a33 a0 6 λl57=>
AC F.a180 [.int .u64 (IntKind.wrap .u64 (Am l57))] λl58=>
AY (app T.a41 T.a41 T.a41 l48.v l58.v) λl59=>
AT T.a33 a0 6 λl60=>
Ak 1 (
.loop 2 [.one .slc,.one .str,.one (.int .i64)] ({ a:=l59.a,len:=l59.len,cap:=l59.cap },((ByteArray.mk #[]),(0,()))) (u3 λl61 s62 (n63:Int)=>
Ai (decide (n63<(Am l60))) (
.ex [.adr] (c1 λa64=>0<=n63/\n63<(Am l60)/\l60.a=some a64) (u1 λa65=>
AU T.a2 a65 (Int.toNat n63*4) λs66 s67 b68 n69=>
Ab T.a2 λa70=>
Ac T.a2 a70 (AV s66 s67 b68 n69)<|
AW T.a46 a70 0 λs71=>
AF F.a92 [.string s62,.string s71] λn72=>
Af n72 λn73=>
Ak 3 (
Ay<|
Aq T.a13 a70 3 λn74=>
Aq T.a13 a0 5 λn75=>
.hold True (ld T.a3 (Addr.add a70 2)) sB (u1 λb76=>
.hold True (ld T.a46 (Addr.add a70 0)) sS (u1 λs77=>
.must (0<=n73/\n73<=((ByteArray.size s77:Nat):Int)) <|
AC F.a167 [Aa (AB (n74-n75))] λl78=>
AC F.a166 [.bool b76] λl79=>
AC F.a180 [.int .u64 (IntKind.wrap .u64 n73)] λl80=>
AA<|
AC F.a179 [.string (ByteArray.extract s77 (Int.toNat n73) (ByteArray.size s77))] λl81=>
AY (Instr.buildSlice T.a39 4 #[(0,l78.v),(1,l79.v),(2,l80.v),(3,l81.v)]) λl82=>
AC F.a168 [l82.v] λl83=>
AY (app T.a41 T.a41 T.a41 l61.v l83.v) λl84=>
AA<|
Aj 3 [l84.v]))) λl85=>
Au T.a3 a70 2 λb86=>
Ak 3 (
Ai (not b86) (
AW T.a46 a70 1 λs87=>
AC F.a179 [.string s87] λl88=>
AY (app T.a41 T.a41 T.a41 l85.v l88.v) λl89=>
Aj 3 [l89.v])<|
Aj 3 [l85.v]) λl90=>
AW T.a46 a70 0 λs91=>
Be s91 λs92=>
Aj 2 [l90.v,.string s92,Aa (AB (n63+1))]))<|
Aj 1 [l61.v])) λl93=>
Aj 0 [l93.v,Aa 0]
theorem ztr (b_0 b_1 b_2 b_3 b_4 b_5:Int) (b_6:Sl):FnS (z06e b_0 b_1 b_2 b_3 b_4 b_5 b_6) F.a85 #[.agg #[.int .i64 b_0,.int .i64 b_1,.int .i64 b_2,.int .i64 b_3,.int .i64 b_4,.int .i64 b_5,.slice b_6.a b_6.len b_6.cap]]:=dV ⟨[(567453553048813608,[(5,.one .slc)]),(576443160117510175,[(5,.one .slc)]),(40240300653644914121111346551586913,[(5,.one .slc)])],[(0,[(5,.one .slc)])],[(4,[(5,.one .slc)]),(18,[(5,.one .slc)])],[(0,[(5,.one .slc),(6,.one .str),(66,.one (.int .i64))])]⟩ Go.Proofs.Tryz.func231 (by kernel_rfl)
def z00f (parts:Sl):Prog :=
AG 1 (
AH 2 (0,(0,())) λn0 n1=>
Ai (decide (n1<(Am parts))) (
.ex [.adr] (c1 λa2=>0<=n1/\n1<(Am parts)/\parts.a=some a2) (u1 λa3=>
AT T.a41 a3 (Int.toNat n1*1) λl4=>
Af (AB (n0+(Am l4))) λn5=>
Aj 2 [Aa n5,Aa (AB (n1+1))]))<|
Aj 1 [Aa n0]) λn6=>
AY (Instr.makeSlice T.a41 (Aa 0) (Aa n6)) λl7=>
Ak 1 (
Al 2 ({ a:=l7.a,len:=l7.len,cap:=l7.cap },(0,())) λl8 n9=>
Ai (decide (n9<(Am parts))) (
.ex [.adr] (c1 λa10=>0<=n9/\n9<(Am parts)/\parts.a=some a10) (u1 λa11=>
AT T.a41 a11 (Int.toNat n9*1) λl12=>
AY (app T.a41 T.a41 T.a41 l8.v l12.v) λl13=>
Aj 2 [l13.v,Aa (AB (n9+1))]))<|
Aj 1 [l8.v]) λl14=>
Aj 0 [l14.v]
theorem zo0 (parts:Sl):FnS (z00f parts) F.a168 #[.slice parts.a parts.len parts.cap]:=dV ⟨[],[(0,[(3,.one (.int .i64))]),(2,[(6,.one .slc)])],[],[(0,[(3,.one (.int .i64)),(11,.one (.int .i64))]),(2,[(6,.one .slc),(24,.one (.int .i64))])]⟩ Go.Proofs.Tryz.func238 (by kernel_rfl)
def z00e (n:Int):Prog :=
AC F.a180 [.int .u64 (IntKind.wrap .u64 (((BitVec.toNat (BitVec.ofInt 64 (IntKind.wrap .u64 (IntKind.wrap .u64 n*2)) ^^^ BitVec.ofInt 64 (IntKind.wrap .u64 (Int.fdiv n 9223372036854775808))):Nat):Int)))] λl0=>
Aj 0 [l0.v]
theorem znz (n:Int):FnS (z00e n) F.a167 #[.int .i64 n]:=dV ⟨[],[],[],[]⟩ Go.Proofs.Tryz.func240 (by kernel_rfl)
def z05g (n:Int):Prog :=
AY (Instr.buildSlice T.a41 4 #[(0,.int .u8 (IntKind.wrap .u8 n)),(1,.int .u8 (IntKind.wrap .u8 (Int.fdiv n 256))),(2,.int .u8 (IntKind.wrap .u8 (Int.fdiv n 65536))),(3,.int .u8 (IntKind.wrap .u8 (Int.fdiv n 16777216)))]) λl0=>
Aj 0 [l0.v]
theorem zss (n:Int):FnS (z05g n) F.a38 #[.int .u32 n]:=dV ⟨[],[],[],[]⟩ Go.Proofs.Tryz.func242 (by kernel_rfl)
def z05f (parts:Sl):Prog :=
BN F.a34 [.int .u32 0,parts.v] λn0=>
BO n0 λn1=>
Aj 0 [.int .u32 n1]
theorem zsr (parts:Sl):FnS (z05f parts) F.a37 #[.slice parts.a parts.len parts.cap]:=dV ⟨[],[],[],[]⟩ Go.Proofs.Tryz.func243 (by kernel_rfl)
def z05h (b:Sl):Prog :=
Ay<|
.ex [.adr] (c1 λa0=>(0:Int)<=0/\0<(Am b)/\b.a=some a0) (u1 λa1=>
B7 T.a48 a1 0 λn2=>
.ex [.adr] (c1 λa3=>(0:Int)<=1/\1<(Am b)/\b.a=some a3) (u1 λa4=>
B7 T.a48 a4 1 λn5=>
.ex [.adr] (c1 λa6=>(0:Int)<=2/\2<(Am b)/\b.a=some a6) (u1 λa7=>
B7 T.a48 a7 2 λn8=>
.ex [.adr] (c1 λa9=>(0:Int)<=3/\3<(Am b)/\b.a=some a9) (u1 λa10=>
B7 T.a48 a10 3 λn11=>
BO (IntKind.wrap .u32 (((BitVec.toNat (BitVec.ofInt 32 (IntKind.wrap .u32 (((BitVec.toNat (BitVec.ofInt 32 (IntKind.wrap .u32 (((BitVec.toNat (BitVec.ofInt 32 (IntKind.wrap .u32 n2) ||| BitVec.ofInt 32 (IntKind.wrap .u32 (IntKind.wrap .u32 n5*256))):Nat):Int))) ||| BitVec.ofInt 32 (IntKind.wrap .u32 (IntKind.wrap .u32 n8*65536))):Nat):Int))) ||| BitVec.ofInt 32 (IntKind.wrap .u32 (IntKind.wrap .u32 n11*16777216))):Nat):Int))) λn12=>
AA<|
Aj 0 [.int .u32 n12]))))
theorem zst (b:Sl):FnS (z05h b) F.a39 #[.slice b.a b.len b.cap]:=dV ⟨[],[],[],[]⟩ Go.Proofs.Tryz.func245 (by kernel_rfl)
def z00h (r:Option Addr):Prog :=
AJ F.a178 [Ah r] λb0=>
Ai (not b0) (
Aj 0 [Aa 0])<|
Ba r λa2=>
AF F.a182 [B5 a2 0] λn3=>
Ai (n3 == 0) (
Ba r λa5=>
AR F.a181 [B5 a5 0,Aa 6]<|
Aj 0 [Aa 0])<|
Ba r λa7=>
AC F.a183 [B5 a7 0,Aa 1] λl8=>
.ex [.adr] (c1 λa9=>(0:Int)<=0/\0<(Am l8)/\l8.a=some a9) (u1 λa10=>
B7 T.a48 a10 0 λn11=>
Af (AB n11) λn12=>
Aj 0 [Aa n12])
theorem zo2 (r:Option Addr):FnS (z00h r) F.a170 #[.pointer r]:=dV ⟨[],[],[],[]⟩ Go.Proofs.Tryz.func246 (by kernel_rfl)
def z05m (gap:Int):Prog :=
Ai (decide (gap<1) || decide (gap>4194304)) (
Aj 0 [Ah none,Aa 2])<|
AM T.a10 (.agg #[Aa (-1),Aa (-1),Aa (-1),Aa gap,.slice none 0 0]) λa0=>
Aj 0 [AP a0,Aa 0]
theorem zsy (gap:Int):FnS (z05m gap) F.a44 #[.int .i64 gap]:=dV ⟨[],[],[],[]⟩ Go.Proofs.Tryz.func247 (by kernel_rfl)
def zzc (r:Option Addr) (most:Int):Prog :=
Bi F.a176 [Ah r] λn0=>
Bj n0 λn1=>
Ai (decide (n1>IntKind.wrap .u64 most)) (
Af (AB (most+1)) λn2=>
Aj 0 [Aa n2])<|
Af (AB n1) λn3=>
Aj 0 [Aa n3]
theorem zmk (r:Option Addr) (most:Int):FnS (zzc r most) F.a99 #[.pointer r,.int .i64 most]:=dV ⟨[],[],[],[]⟩ Go.Proofs.Tryz.func248 (by kernel_rfl)
def zza (r:Option Addr) (time:Int) (ahead:ByteArray):Prog :=
Ab T.a2 λa0=>
AF F.a177 [Ah r,Aa (-1099511627776),Aa 1099511627776] λn1=>
Af n1 λn2=>
AJ F.a173 [Ah r] λb3=>
Ab T.a2 λa4=>
Ac T.a2 a4 (.agg #[.string (ByteArray.mk #[]),.string (ByteArray.mk #[]),.bool b3,Aa (AB (time+n2))])<|
AF F.a99 [Ah r,Aa 1024] λn5=>
Af n5 λn6=>
AQ F.a175 [Ah r,Aa 1024] λs7=>
Be s7 λs8=>
Ai (decide (n6>((ByteArray.size ahead:Nat):Int))) (
AX T.a2 a4 λs9 s10 b11 n12=>
Ac T.a2 a0 (AV s9 s10 b11 n12)<|
AX T.a2 a0 λs13 s14 b15 n16=>
Aj 0 [AV s13 s14 b15 n16,.bool false])<|
.must (0<=n6/\n6<=((ByteArray.size ahead:Nat):Int)) <|
.must (((ByteArray.size (ByteArray.extract ahead 0 (Int.toNat n6))+ByteArray.size s8:Nat):Int)<=9223372036854775807) <|
AS T.a46 a4 0 (.string (ByteArray.extract ahead 0 (Int.toNat n6)++s8))<|
Au T.a3 a4 2 λb17=>
As 1 (
Ai (not b17) (
AQ F.a175 [Ah r,Aa 1024] λs18=>
AS T.a46 a4 1 (.string s18)<|
Aj 1 [])<|
Aj 1 [])<|
AD 1 (
Ay<|
.hold True (ld T.a2 a4) (sG [.str,.str,.bool,.int .i64]) (u4 λs19 s20 b21 (n22:Int)=>
AF F.a172 [Ah r] λn23=>
BB ((n23 == 0)=true) T.a46 a4 0 λs24=>
Ai (n23 == 0) (
AF F.a92 [.string ahead,.string s24] λn25=>
AA<|
Ac T.a2 a0 (AV s19 s20 b21 n22)<|
AL (n25 == n6) λb26=>
AA<|
Aj 1 [.bool b26])<|
AA<|
Ac T.a2 a0 (AV s19 s20 b21 n22)<|
AA<|
Aj 1 [.bool false])) λb27=>
AX T.a2 a0 λs28 s29 b30 n31=>
Aj 0 [AV s28 s29 b30 n31,.bool b27]
theorem zmi (r:Option Addr) (time:Int) (ahead:ByteArray):FnS (zza r time ahead) F.a97 #[.pointer r,.int .i64 time,.string ahead]:=dV ⟨[(7881299347898405,[])],[],[(10,[(7,.one .bool)])],[]⟩ Go.Proofs.Tryz.func249 (by kernel_rfl)
def z000 (b_0 b_1 b_2 b_3 b_4 b_5:Int) (b_6:Sl):Prog :=
AM T.a0 (Ao b_0 b_1 b_2 b_3 b_4 b_5 b_6) λa0=>
AT T.a33 a0 6 λl1=>
AG 1 (
AH 2 (-1,(0,())) λn2 n3=>
Ai (decide (n3<(Am l1))) (
.ex [.adr] (c1 λa4=>0<=n3/\n3<(Am l1)/\l1.a=some a4) (u1 λa5=>
AU T.a2 a5 (Int.toNat n3*4) λs6 s7 b8 n9=>
Ab T.a2 λa10=>
Ac T.a2 a10 (AV s6 s7 b8 n9)<|
Aq T.a13 a10 3 λn11=>
Af (if n11>n2 then n11 else n2) λn12=>
Aj 2 [Aa n12,Aa (AB (n3+1))]))<|
Aj 1 [Aa n2]) λn13=>
AT T.a33 a0 6 λl14=>
AG 1 (
Ai ((Am l14) == 0) (
Aq T.a13 a0 5 λn15=>
Af n15 λn16=>
Aj 1 [Aa n16])<|
Aj 1 [Aa n13]) λn17=>
Af n17 λn18=>
Aj 0 [Aa n18]
theorem zn8 (b_0 b_1 b_2 b_3 b_4 b_5:Int) (b_6:Sl):FnS (z000 b_0 b_1 b_2 b_3 b_4 b_5 b_6) F.a124 #[.agg #[.int .i64 b_0,.int .i64 b_1,.int .i64 b_2,.int .i64 b_3,.int .i64 b_4,.int .i64 b_5,.slice b_6.a b_6.len b_6.cap]]:=dV ⟨[(51539640341,[(3,.one (.int .i64))])],[(0,[(3,.one (.int .i64))])],[],[(0,[(3,.one (.int .i64)),(9,.one (.int .i64))])]⟩ Go.Proofs.Tryz.func250 (by kernel_rfl)
def z05k (x:Option Addr) (offset place:Int) (time:Int):Prog :=
AZ (Option.isNone x) (
Aj 0 [Aa 1])<|
AJ F.a45 [Aa offset,Aa place,Aa time] λb1=>
AZ (not b1) (
Aj 0 [Aa 2])<|
Ba x λa4=>
Aq T.a13 (Addr.add a4 0) 0 λn5=>
Bd (decide (offset<=n5)=false) x λa7=>
Ar (decide (offset<=n5)=false) T.a12 (Addr.add a7 0) 1 λn8=>
AZ (decide (offset<=n5) || decide (place<=n8)) (
Aj 0 [Aa 21])<|
Ba x λa11=>
AT T.a34 a11 4 λl12=>
Af (Am l12) λn13=>
Ay<|
Bd ((n13 == 0)=false) x λa15=>
AK ((n13 == 0)=false) T.a34 a15 4 λl16=>
.ex [.adr] (c1 λa17=>(n13 == 0)=false->0<=AB (n13-1)/\AB (n13-1)<(Am l16)/\l16.a=some a17) (u1 λa18=>
Ar ((n13 == 0)=false) T.a12 (Addr.add a18 (Int.toNat (AB (n13-1))*3)) 1 λn19=>
Bd ((n13 == 0)=false) x λa21=>
Ar ((n13 == 0)=false) T.a12 a21 3 λn22=>
AA<|
As 1 (
Ai (n13 == 0 || decide (AB (place-n19)>=n22)) (
Ak 2 (
Ay<|
Ba x λa24=>
.hold True (ld T.a34 (Addr.add a24 4)) sL (u1 λl25=>
Ba x λa27=>
Aq T.a13 (Addr.add a27 0) 2 λn28=>
AY (Instr.buildSlice T.a34 1 #[(0,Ad offset place n28)]) λl29=>
AA<|
AY (app T.a34 T.a34 T.a34 l25.v l29.v) λl30=>
AA<|
Aj 2 [l30.v])) λl31=>
Ba x λa33=>
AS T.a34 a33 4 l31.v<|
Aj 1 [])<|
Aj 1 [])<|
Ba x λa35=>
Aq T.a13 (Addr.add a35 0) 2 λn36=>
Ba x λa38=>
AS T.a11 a38 0 (.agg #[Aa offset,Aa place,Aa (if time>n36 then time else n36)])<|
Aj 0 [Aa 0])
theorem zsw (x:Option Addr) (offset place time:Int):FnS (z05k x offset place time) F.a42 #[.pointer x,.int .i64 offset,.int .i64 place,.int .i64 time]:=dV ⟨[(4951741267675589621019836477,[])],[],[(9,[(10,.one .slc)])],[]⟩ Go.Proofs.Tryz.func251 (by kernel_rfl)
def z00l (r:Option Addr):Prog :=
Bi F.a176 [Ah r] λn0=>
Bj n0 λn1=>
Af (AB (((BitVec.toNat (BitVec.ofInt 64 (AB (Int.fdiv n1 2)) ^^^ BitVec.ofInt 64 (AB (0-AB (IntKind.wrap .u64 (((BitVec.toNat (BitVec.ofInt 64 n1 &&& BitVec.ofInt 64 1):Nat):Int)))))):Nat):Int))) λn2=>
Aj 0 [Aa n2]
theorem zo6 (r:Option Addr):FnS (z00l r) F.a174 #[.pointer r]:=dV ⟨[],[],[],[]⟩ Go.Proofs.Tryz.func252 (by kernel_rfl)
def z05l (x:Option Addr) (i:Int):Prog :=
Ab T.a9 λa0=>
Ai (decide (i<0)) (
Ac T.a9 a0 (Ad 0 0 0)<|
Ag T.a9 a0 λn1 n2 n3=>
Aj 0 [Ad n1 n2 n3,.bool false])<|
Ba x λa5=>
AT T.a34 a5 4 λl6=>
.ex [.adr] (c1 λa7=>0<=i/\i<(Am l6)/\l6.a=some a7) (u1 λa8=>
.read True (ld T.a9 (Addr.add a8 (Int.toNat i*3))) (sG [.int .i64,.int .i64,.int .i64]) (u3 λ(n9 n10 n11:Int)=>
Ac T.a9 a0 (Ad n9 n10 n11)<|
Ag T.a9 a0 λn12 n13 n14=>
Aj 0 [Ad n12 n13 n14,.bool true]))
theorem zsx (x:Option Addr) (i:Int):FnS (z05l x i) F.a43 #[.pointer x,.int .i64 i]:=dV ⟨[],[],[],[]⟩ Go.Proofs.Tryz.func255 (by kernel_rfl)
def z05j (i:Int) (fv0:Option Addr) (fv1:Option Addr):Prog :=
Ay<|
B6 (Instr.loadAt T.a25 (Ah fv0)) λp0=>
Ba p0 λa2=>
AT T.a34 a2 4 λl3=>
.ex [.adr] (c1 λa4=>0<=i/\i<(Am l3)/\l3.a=some a4) (u1 λa5=>
Aq T.a13 (Addr.add a5 (Int.toNat i*3)) 0 λn6=>
BM T.a13 fv1 λn7=>
AL (decide (n6>n7)) λb8=>
AA<|
Aj 0 [.bool b8])
theorem zsv (i:Int) (fv0 fv1:Option Addr):FnS (z05j i fv0 fv1) F.a41 #[.int .i64 i,.pointer fv0,.pointer fv1]:=dV ⟨[],[],[],[]⟩ Go.Proofs.Tryz.func256 (by kernel_rfl)
def zzd (n lo:Int) (hi:Int):Prog :=
AL (decide (n>=lo) && decide (n<=hi)) λb0=>
Aj 0 [.bool b0]
theorem zml (n lo hi:Int):FnS (zzd n lo hi) F.a100 #[.int .i64 n,.int .i64 lo,.int .i64 hi]:=dV ⟨[],[],[],[]⟩ Go.Proofs.Tryz.func257 (by kernel_rfl)
def z06l (a:ByteArray) (b:ByteArray):Prog :=
Af (if ((ByteArray.size b:Nat):Int)<((ByteArray.size a:Nat):Int) then ((ByteArray.size b:Nat):Int) else ((ByteArray.size a:Nat):Int)) λn0=>
As 1 (
Ax 2 (0,()) λn1=>
Ai (decide (n1<n0)) (
Af n1 λn2=>
Ay<|
.must (0<=n2/\n2<((ByteArray.size a:Nat):Int)) <|
.must (0<=n2/\n2<((ByteArray.size b:Nat):Int)) <|
AA<|
Ai (bt a n2 != bt b n2) (
Af n2 λn3=>
Aj 0 [Aa n3])<|
Aj 2 [Aa (AB (n1+1))])<|
Aj 1 [])<|
Af n0 λn4=>
Aj 0 [Aa n4]
theorem zty (a b:ByteArray):FnS (z06l a b) F.a92 #[.string a,.string b]:=dV ⟨[],[(0,[])],[],[(0,[(13,.one (.int .i64))])]⟩ Go.Proofs.Tryz.func275 (by kernel_rfl)
def z00d (on:Bool):Prog :=
Ai on (
AY (Instr.buildSlice T.a41 1 #[(0,.int .u8 1)]) λl0=>
Aj 0 [l0.v])<|
AY (Instr.buildSlice T.a41 1 #[(0,.int .u8 0)]) λl1=>
Aj 0 [l1.v]
theorem zny (on:Bool):FnS (z00d on) F.a166 #[.bool on]:=dV ⟨[],[],[],[]⟩ Go.Proofs.Tryz.func276 (by kernel_rfl)
def z05c (sum:Int) (parts:Sl):Prog :=
BO (IntKind.wrap .u32 (((BitVec.toNat (BitVec.ofInt 32 4294967295 ^^^ BitVec.ofInt 32 sum):Nat):Int))) λn0=>
BQ 1 (
BR 2 (n0,(0,())) λn1 n2=>
Ai (decide (n2<(Am parts))) (
BQ 3 (
.ex [.adr] (c1 λa3=>0<=n2/\n2<(Am parts)/\parts.a=some a3) (u1 λa4=>
AT T.a41 a4 (Int.toNat n2*1) λl5=>
BQ 4 (
BR 5 (n1,(0,())) λn6 n7=>
Ai (decide (n7<(Am l5))) (
BQ 6 (
.ex [.adr] (c1 λa8=>0<=n7/\n7<(Am l5)/\l5.a=some a8) (u1 λa9=>
B7 T.a48 a9 (Int.toNat n7*1) λn10=>
B8 n10 λn11=>
BO (IntKind.wrap .u32 (((BitVec.toNat (BitVec.ofInt 32 n6 ^^^ BitVec.ofInt 32 (IntKind.wrap .u32 n11)):Nat):Int))) λn12=>
BQ 7 (
BR 8 (n12,(0,())) λn13 n14=>
Ai (decide (n14<8)) (
BO (IntKind.wrap .u32 (((BitVec.toNat (BitVec.ofInt 32 (Int.fdiv n13 2) ^^^ BitVec.ofInt 32 (IntKind.wrap .u32 (((BitVec.toNat (BitVec.ofInt 32 3988292384 &&& BitVec.ofInt 32 (IntKind.wrap .u32 (0-IntKind.wrap .u32 (((BitVec.toNat (BitVec.ofInt 32 n13 &&& BitVec.ofInt 32 1):Nat):Int))))):Nat):Int)))):Nat):Int))) λn15=>
Aj 8 [.int .u32 n15,Aa (AB (n14+1))])<|
Aj 7 [.int .u32 n13]) λn16=>
Aj 6 [.int .u32 n16])) λn17=>
Aj 5 [.int .u32 n17,Aa (AB (n7+1))])<|
Aj 4 [.int .u32 n6]) λn18=>
Aj 3 [.int .u32 n18])) λn19=>
Aj 2 [.int .u32 n19,Aa (AB (n2+1))])<|
Aj 1 [.int .u32 n1]) λn20=>
BO (IntKind.wrap .u32 (((BitVec.toNat (BitVec.ofInt 32 4294967295 ^^^ BitVec.ofInt 32 n20):Nat):Int))) λn21=>
Aj 0 [.int .u32 n21]
theorem zso (sum:Int) (parts:Sl):FnS (z05c sum parts) F.a34 #[.int .u32 sum,.slice parts.a parts.len parts.cap]:=dV ⟨[],[(0,[(5,.one (.int .u32))]),(1,[(5,.one (.int .u32))]),(2,[(5,.one (.int .u32))]),(3,[(5,.one (.int .u32))]),(4,[(5,.one (.int .u32))])],[],[(0,[(5,.one (.int .u32)),(14,.one (.int .i64))]),(2,[(5,.one (.int .u32)),(20,.one (.int .i64))]),(4,[(5,.one (.int .u32)),(28,.one (.int .i64))])]⟩ Go.Proofs.Tryz.func291 (by kernel_rfl)
def z00k (r:Option Addr):Prog :=
AJ F.a178 [Ah r] λb0=>
Ai (not b0) (
Aj 0 [.bool false])<|
Ay<|
Ba r λa2=>
AF F.a182 [B5 a2 0] λn3=>
Bd ((n3 == 0)=false) r λa5=>
AK ((n3 == 0)=false) T.a41 (Addr.add a5 0) 0 λl6=>
Bd ((n3 == 0)=false) r λa8=>
Ar ((n3 == 0)=false) T.a12 (Addr.add a8 0) 1 λn9=>
.ex [.adr] (c1 λa10=>(n3 == 0)=false->0<=n9/\n9<(Am l6)/\l6.a=some a10) (u1 λa11=>
.read ((n3 == 0)=false) (ld T.a48 (Addr.add a11 (Int.toNat n9*1))) (sI .u8) (u1 λ(n12:Int)=>
AA<|
Ai (n3 == 0 || decide (n12>1)) (
Ba r λa14=>
AR F.a181 [B5 a14 0,Aa 6]<|
Aj 0 [.bool false])<|
Ba r λa16=>
AC F.a183 [B5 a16 0,Aa 1] λl17=>
.ex [.adr] (c1 λa18=>(0:Int)<=0/\0<(Am l17)/\l17.a=some a18) (u1 λa19=>
B7 T.a48 a19 0 λn20=>
AL (n20 == 1) λb21=>
Aj 0 [.bool b21])))
theorem zo5 (r:Option Addr):FnS (z00k r) F.a173 #[.pointer r]:=dV ⟨[],[],[],[]⟩ Go.Proofs.Tryz.func292 (by kernel_rfl)
def z05n (offset place:Int) (time:Int):Prog :=
AL (decide (offset>=0) && decide (offset<=1099511627776) && decide (place>=0) && decide (place<=4194304) && decide (time>=0) && decide (time<=1099511627776)) λb0=>
Aj 0 [.bool b0]
theorem zsz (offset place time:Int):FnS (z05n offset place time) F.a45 #[.int .i64 offset,.int .i64 place,.int .i64 time]:=dV ⟨[],[],[],[]⟩ Go.Proofs.Tryz.func293 (by kernel_rfl)
instance:One P T.a13:=⟨by kernel_rfl,by kernel_rfl⟩
instance:One P T.a12:=⟨by kernel_rfl,by kernel_rfl⟩
instance:One P T.a3:=⟨by kernel_rfl,by kernel_rfl⟩
instance:One P T.a48:=⟨by kernel_rfl,by kernel_rfl⟩
instance:One P T.a46:=⟨by kernel_rfl,by kernel_rfl⟩
instance:Agg P T.a42 2:=⟨by kernel_rfl,by kernel_rfl⟩
instance:Agg P T.a29 3:=⟨by kernel_rfl,by kernel_rfl⟩
instance:One P T.a23:=⟨by kernel_rfl,by kernel_rfl⟩
instance:One P T.a1:=⟨by kernel_rfl,by kernel_rfl⟩
instance:One P T.a38:=⟨by kernel_rfl,by kernel_rfl⟩
instance:One P T.a33:=⟨by kernel_rfl,by kernel_rfl⟩
instance:Agg P T.a0 7:=⟨by kernel_rfl,by kernel_rfl⟩
instance:Agg P T.a47 11:=⟨by kernel_rfl,by kernel_rfl⟩
instance:Agg P T.a2 4:=⟨by kernel_rfl,by kernel_rfl⟩
instance:Agg P T.a31 5:=⟨by kernel_rfl,by kernel_rfl⟩
instance:One P T.a32:=⟨by kernel_rfl,by kernel_rfl⟩
instance:One P T.a41:=⟨by kernel_rfl,by kernel_rfl⟩
instance:One P T.a40:=⟨by kernel_rfl,by kernel_rfl⟩
instance:One P T.a21:=⟨by kernel_rfl,by kernel_rfl⟩
instance:Agg P T.a7 5:=⟨by kernel_rfl,by kernel_rfl⟩
instance:One P T.a27:=⟨by kernel_rfl,by kernel_rfl⟩
instance:One P T.a22:=⟨by kernel_rfl,by kernel_rfl⟩
instance:One P T.a26:=⟨by kernel_rfl,by kernel_rfl⟩
instance:Agg P T.a30 6:=⟨by kernel_rfl,by kernel_rfl⟩
instance:One P T.a36:=⟨by kernel_rfl,by kernel_rfl⟩
instance:One P T.a39:=⟨by kernel_rfl,by kernel_rfl⟩
instance:One P T.a24:=⟨by kernel_rfl,by kernel_rfl⟩
instance:Agg P T.a8 2:=⟨by kernel_rfl,by kernel_rfl⟩
instance:Agg P T.a6 2:=⟨by kernel_rfl,by kernel_rfl⟩
instance:One P T.a35:=⟨by kernel_rfl,by kernel_rfl⟩
instance:One P T.a37:=⟨by kernel_rfl,by kernel_rfl⟩
instance:Agg P T.a43 5:=⟨by kernel_rfl,by kernel_rfl⟩
instance:One P T.a25:=⟨by kernel_rfl,by kernel_rfl⟩
instance:Agg P T.a44 6:=⟨by kernel_rfl,by kernel_rfl⟩
instance:One P T.a28:=⟨by kernel_rfl,by kernel_rfl⟩
instance:Agg P T.a16 2:=⟨by kernel_rfl,by kernel_rfl⟩
instance:Agg P T.a17 4:=⟨by kernel_rfl,by kernel_rfl⟩
instance:One P T.a19:=⟨by kernel_rfl,by kernel_rfl⟩
instance:One P T.a20:=⟨by kernel_rfl,by kernel_rfl⟩
instance:Agg P T.a15 3:=⟨by kernel_rfl,by kernel_rfl⟩
instance:Agg P T.a14 4:=⟨by kernel_rfl,by kernel_rfl⟩
instance:One P T.a18:=⟨by kernel_rfl,by kernel_rfl⟩
instance:Agg P T.a5 3:=⟨by kernel_rfl,by kernel_rfl⟩
instance:Agg P T.a4 7:=⟨by kernel_rfl,by kernel_rfl⟩
instance:Agg P T.a50 3:=⟨by kernel_rfl,by kernel_rfl⟩
instance:Agg P T.a9 3:=⟨by kernel_rfl,by kernel_rfl⟩
instance:Agg P T.a11 3:=⟨by kernel_rfl,by kernel_rfl⟩
instance:One P T.a34:=⟨by kernel_rfl,by kernel_rfl⟩
instance:Agg P T.a10 5:=⟨by kernel_rfl,by kernel_rfl⟩
instance:One P T.a45:=⟨by kernel_rfl,by kernel_rfl⟩
instance:Zer P T.a13 (.int .i64 0):=⟨by kernel_rfl⟩
instance:Zer P T.a12 (.int .i64 0):=⟨by kernel_rfl⟩
instance:Zer P T.a3 (.bool false):=⟨by kernel_rfl⟩
instance:Zer P T.a48 (.int .u8 0):=⟨by kernel_rfl⟩
instance:Zer P T.a46 (.string ⟨#[]⟩):=⟨by kernel_rfl⟩
instance:Zer P T.a42 (.agg #[.int .i64 0,.int .i64 0]):=⟨by kernel_rfl⟩
instance:Zer P T.a29 (.agg #[.int .i64 0,.int .i64 0,.int .i64 0]):=⟨by kernel_rfl⟩
instance:Zer P T.a23 (.pointer none):=⟨by kernel_rfl⟩
instance:Zer P T.a1 (.int .i64 0):=⟨by kernel_rfl⟩
instance:Zer P T.a38 (.slice none 0 0):=⟨by kernel_rfl⟩
instance:Zer P T.a33 (.slice none 0 0):=⟨by kernel_rfl⟩
instance:Zer P T.a0 (.agg #[.int .i64 0,.int .i64 0,.int .i64 0,.int .i64 0,.int .i64 0,.int .i64 0,.slice none 0 0]):=⟨by kernel_rfl⟩
instance:Zer P T.a47 (.agg #[.int .i64 0,.int .i64 0,.int .i64 0,.int .i64 0,.int .i64 0,.int .i64 0,.int .i64 0,.slice none 0 0,.bool false,.int .i64 0,.int .i64 0]):=⟨by kernel_rfl⟩
instance:Zer P T.a2 (.agg #[.string ⟨#[]⟩,.string ⟨#[]⟩,.bool false,.int .i64 0]):=⟨by kernel_rfl⟩
instance:Zer P T.a31 (.agg #[.int .i64 0,.string ⟨#[]⟩,.string ⟨#[]⟩,.bool false,.int .i64 0]):=⟨by kernel_rfl⟩
instance:Zer P T.a32 (.slice none 0 0):=⟨by kernel_rfl⟩
instance:Zer P T.a41 (.slice none 0 0):=⟨by kernel_rfl⟩
instance:Zer P T.a40 (.slice none 0 0):=⟨by kernel_rfl⟩
instance:Zer P T.a21 (.map none):=⟨by kernel_rfl⟩
instance:Zer P T.a7 (.agg #[.int .i64 0,.bool false,.int .i64 0,.int .i64 0,.map none]):=⟨by kernel_rfl⟩
instance:Zer P T.a27 (.pointer none):=⟨by kernel_rfl⟩
instance:Zer P T.a22 (.pointer none):=⟨by kernel_rfl⟩
instance:Zer P T.a26 (.pointer none):=⟨by kernel_rfl⟩
instance:Zer P T.a30 (.agg #[.pointer none,.pointer none,.string ⟨#[]⟩,.int .i64 0,.pointer none,.pointer none]):=⟨by kernel_rfl⟩
instance:Zer P T.a36 (.slice none 0 0):=⟨by kernel_rfl⟩
instance:Zer P T.a39 (.slice none 0 0):=⟨by kernel_rfl⟩
instance:Zer P T.a24 (.pointer none):=⟨by kernel_rfl⟩
instance:Zer P T.a8 (.agg #[.slice none 0 0,.int .i64 0]):=⟨by kernel_rfl⟩
instance:Zer P T.a6 (.agg #[.bool false,.int .i64 0]):=⟨by kernel_rfl⟩
instance:Zer P T.a35 (.slice none 0 0):=⟨by kernel_rfl⟩
instance:Zer P T.a37 (.slice none 0 0):=⟨by kernel_rfl⟩
instance:Zer P T.a43 (.agg #[.pointer none,.string ⟨#[]⟩,.int .i64 0,.int .i64 0,.slice none 0 0]):=⟨by kernel_rfl⟩
instance:Zer P T.a25 (.pointer none):=⟨by kernel_rfl⟩
instance:Zer P T.a44 (.agg #[.pointer none,.int .i64 0,.int .i64 0,.int .i64 0,.int .i64 0,.int .i64 0]):=⟨by kernel_rfl⟩
instance:Zer P T.a28 (.pointer none):=⟨by kernel_rfl⟩
instance:Zer P T.a16 (.agg #[.int .i64 0,.int .i64 0]):=⟨by kernel_rfl⟩
instance:Zer P T.a17 (.agg #[.int .i64 0,.int .i64 0,.int .i64 0,.int .i64 0]):=⟨by kernel_rfl⟩
instance:Zer P T.a19 (.map none):=⟨by kernel_rfl⟩
instance:Zer P T.a20 (.map none):=⟨by kernel_rfl⟩
instance:Zer P T.a15 (.agg #[.int .i64 0,.map none,.map none]):=⟨by kernel_rfl⟩
instance:Zer P T.a14 (.agg #[.int .i64 0,.int .i64 0,.int .i64 0,.int .i64 0]):=⟨by kernel_rfl⟩
instance:Zer P T.a18 (.map none):=⟨by kernel_rfl⟩
instance:Zer P T.a5 (.agg #[.int .i64 0,.int .i64 0,.map none]):=⟨by kernel_rfl⟩
instance:Zer P T.a4 (.agg #[.int .i64 0,.int .i64 0,.int .i64 0,.int .i64 0,.int .i64 0,.int .i64 0,.int .i64 0]):=⟨by kernel_rfl⟩
instance:Zer P T.a50 (.agg #[.slice none 0 0,.int .i64 0,.int .i64 0]):=⟨by kernel_rfl⟩
instance:Zer P T.a9 (.agg #[.int .i64 0,.int .i64 0,.int .i64 0]):=⟨by kernel_rfl⟩
instance:Zer P T.a11 (.agg #[.int .i64 0,.int .i64 0,.int .i64 0]):=⟨by kernel_rfl⟩
instance:Zer P T.a34 (.slice none 0 0):=⟨by kernel_rfl⟩
instance:Zer P T.a10 (.agg #[.int .i64 0,.int .i64 0,.int .i64 0,.int .i64 0,.slice none 0 0]):=⟨by kernel_rfl⟩
instance:Zer P T.a45 (.int .u64 0):=⟨by kernel_rfl⟩
instance:SlT P T.a38 T.a31 5 56:=⟨by kernel_rfl,by kernel_rfl⟩
instance:SlT P T.a33 T.a2 4 48:=⟨by kernel_rfl,by kernel_rfl⟩
instance:SlT P T.a32 T.a0 7 72:=⟨by kernel_rfl,by kernel_rfl⟩
instance:SlT P T.a41 T.a48 1 1:=⟨by kernel_rfl,by kernel_rfl⟩
instance:SlT P T.a40 T.a46 1 16:=⟨by kernel_rfl,by kernel_rfl⟩
instance:SlT P T.a36 T.a14 4 32:=⟨by kernel_rfl,by kernel_rfl⟩
instance:SlT P T.a39 T.a41 1 24:=⟨by kernel_rfl,by kernel_rfl⟩
instance:SlT P T.a35 T.a13 1 8:=⟨by kernel_rfl,by kernel_rfl⟩
instance:SlT P T.a37 T.a28 1 8:=⟨by kernel_rfl,by kernel_rfl⟩
instance:SlT P T.a34 T.a9 3 24:=⟨by kernel_rfl,by kernel_rfl⟩
structure RecM where
 key:ByteArray
 value:ByteArray
 gone:Bool
 time:Int
def zy (r:RecM):List Value:=[.string r.key,.string r.value,.bool r.gone,.int .i64 r.time]
instance:EncA zy [.str,.str,.bool,.int .i64] (λr=>(r.key,r.value,r.gone,r.time,())):=⟨λ_=>rfl⟩
instance:EncN zy 4:=⟨λ_=>rfl,by decide,by simp [zy,Value.oneCell']⟩
structure BatM where
 base:Int
 pid:Int
 epoch:Int
 seq:Int
 kind:Int
 time:Int
 x:Sl
 rs:List RecM
def zn (b:BatM):List Value:=[.int .i64 b.base,.int .i64 b.pid,.int .i64 b.epoch,.int .i64 b.seq,.int .i64 b.kind,.int .i64 b.time,.slice b.x.a b.x.len b.x.cap]
instance:EncA zn [.int .i64,.int .i64,.int .i64,.int .i64,.int .i64,.int .i64,.slc] (λb=>(b.base,b.pid,b.epoch,b.seq,b.kind,b.time,b.x,())):=⟨λ_=>rfl⟩
instance:EncN zn 7:=⟨λ_=>rfl,by decide,by simp [zn,Value.oneCell']⟩
def z00 (b:BatM):Bool:=decide (b.kind=2) || decide (b.kind=3)
def z6f (b:BatM):Prop:=(0<=b.kind/\b.kind<=3)/\(0<=b.base/\b.base<=1099511627776)/\(0<=b.pid/\b.pid<=1048576)/\(0<=b.epoch/\b.epoch<=32767)/\(0<=b.seq/\b.seq<=2147483647)/\(0<=b.time/\b.time<=1099511627776)
instance (b:BatM):Decidable (z6f b):=by unfold z6f;infer_instance
def z59 (b:BatM):Prop:=¬ (b.pid=0/\(b.kind≠0\/b.epoch≠0\/b.seq≠0))/\if z00 b then b.seq=0/\b.rs.length=0 else 0<b.rs.length
instance (b:BatM):Decidable (z59 b):=by unfold z59;infer_instance
def z28 (r:RecM):Int:=if r.key.size>1024\/r.value.size>1024 then 7 else if ¬ (0<=r.time/\r.time<=1099511627776)\/(r.gone=true/\r.value.size>0) then 2 else 0
def z5q:List RecM->Int
 | []=>0
 | r::rs=>if z28 r≠0 then z28 r else z5q rs
def zo (b:BatM):Int:=if z00 b then 1 else (b.rs.length:Nat)
def z04 (b:BatM):Int:=if ¬ z6f b\/¬ z59 b then 2 else if b.rs.length>64 then 7 else if z5q b.rs≠0 then z5q b.rs else
 if b.base>1099511627776-(zo b-1)\/(b.pid>0/\z00 b=false/\b.seq>2147483647-(zo b-1)) then 24 else 0
def z1k (b:BatM):Int:=if z04 b≠0 then 0 else b.base+zo b
theorem zhj:∀ (rs:List RecM) (i:Nat) (hi:i<rs.length),z5q (rs.take i)=0->z28 rs[i]≠0->z5q rs=z28 rs[i]
 | r::rs,0,_,_,h=>by
  have h:z28 r≠0:=h
  show (if z28 r≠0 then z28 r else z5q rs)=z28 r
  rw [if_pos h]
 | r::rs,i+1,hi,h1,h2=>by
  have h1:(if z28 r≠0 then z28 r else z5q (rs.take i))=0:=h1
  by_cases h:z28 r≠0
  ·rw [if_pos h] at h1;exact absurd h1 h
  ·rw [if_neg h] at h1
   show (if z28 r≠0 then z28 r else z5q rs)=_
   rw [if_neg h]
   exact zhj rs i (by simpa using hi) h1 h2
theorem zhi:∀ (rs:List RecM) (i:Nat) (hi:i<rs.length),z5q (rs.take i)=0->z28 rs[i]=0->z5q (rs.take (i+1))=0
 | r::rs,0,_,_,h=>by
  have h:z28 r=0:=h
  show (if z28 r≠0 then z28 r else z5q (rs.take 0))=0
  rw [if_neg (by rw [h];simp)];rfl
 | r::rs,i+1,hi,h1,h2=>by
  have h1:(if z28 r≠0 then z28 r else z5q (rs.take i))=0:=h1
  by_cases h:z28 r≠0
  ·rw [if_pos h] at h1;exact absurd h1 h
  ·rw [if_neg h] at h1
   show (if z28 r≠0 then z28 r else z5q (rs.take (i+1)))=0
   rw [if_neg h]
   exact zhi rs i (by simpa using hi) h1 h2
theorem zle {s:ByteArray}:s.size>0↔s≠ByteArray.mk #[]:=by
 constructor
 ·rintro h rfl;exact absurd h (Nat.lt_irrefl 0)
 ·intro h
  rcases Nat.eq_zero_or_pos s.size with h0|h0
  ·exfalso
   apply h
   obtain ⟨⟨l⟩⟩:=s
   have h0:l.length=0:=h0
   rw [List.length_eq_zero_iff.1 h0]
  ·exact h0
section
variable {w:World} {l r:List HP} {b:BatM}
theorem z6i (b:BatM) (hs:Sat w l):Ret P F.a94 #[.agg (zn b).toArray] w λvs w'=>vs=[.bool (z00 b)]/\Sat w' l :=
 zmf b.base b.pid b.epoch b.seq b.kind b.time b.x <| by
  delta zz7 AL AM Aj Ao Aq Ar
  refine zt hs λa0 w' hs=>?_
  refine za hs ?_
  refine za hs ?_
  refine wp_lt ?_
  exact ⟨rfl,rfl,hs.tail⟩
theorem z011 (b:BatM) (hs:Sat w l):Ret P F.a165 #[.agg (zn b).toArray] w λvs w'=>vs=[.bool (z00 b)]/\Sat w' l :=
 znx b.base b.pid b.epoch b.seq b.kind b.time b.x <| by
  delta z00c AL AM Aj Ao Aq Ar
  refine zt hs λa0 w' hs=>?_
  refine za hs ?_
  refine za hs ?_
  refine wp_lt ?_
  exact ⟨rfl,rfl,hs.tail⟩
theorem zbq (n lo hi:Int) (hs:Sat w l):Ret P F.a100 #[.int .i64 n,.int .i64 lo,.int .i64 hi] w λvs w'=>vs=[.bool (decide (lo<=n/\n<=hi))]/\Sat w' l :=
 zml n lo hi <| by
  delta zzd AL Aj
  refine wp_lt ?_
  exact ⟨rfl,by rw [Bool.decide_and],hs⟩
theorem zvw (b:BatM) [hb:FocR l b.x 4 (b.rs.flatMap zy)] (hs:Sat w l):Ret P F.a90 #[.agg (zn b).toArray] w λvs w'=>vs=[.int .i64 (zo b)]/\Sat w' l :=
 ztw b.base b.pid b.epoch b.seq b.kind b.time b.x <| by
  delta z06j AJ AM AT Aa Af Ai Aj Am Ao Aw;unfold zo
  have hl:=hs.slen b.x (xs:=b.rs) (enc:=zy)
  refine zt hs λa0 w' hs=>?_
  refine zj hs ?_
  refine z8 (z6i b hs) λ_ _ hs=>?_
  obtain ⟨rfl,hs⟩:=hs
  refine zb ?_
  refine ze (λh=>?_) λh=>?_
  ·rw [if_pos h];exact ⟨rfl,rfl,hs.tail⟩
  ·rw [if_neg h]
   refine za hs ?_
   refine wp_lt ?_
   rw [hl]
   exact ⟨rfl,rfl,hs.tail⟩
theorem zxz (r:RecM) (hs:Sat w l):Ret P F.a98 #[.agg (zy r).toArray] w λvs w'=>vs=[.int .i64 (z28 r)]/\Sat w' l :=
 zmj r.key r.value r.gone r.time <| by
  delta zzb AJ AM AV AW AZ Aa Aj Aq BB Bn;unfold z28
  refine zt hs λa0 w' hs=>?_
  refine za hs ?_
  refine za hs ?_
  refine wp_lt ?_
  refine ze (λh=>?_) λh=>?_
  ·rw [if_pos (by omega)];exact ⟨rfl,rfl,hs.tail⟩
  rw [if_neg (by omega)]
  refine za hs ?_
  refine z8 (zbq r.time 0 1099511627776 hs) λ_ _ hs=>?_
  obtain ⟨rfl,hs⟩:=hs
  refine zb ?_
  refine za hs ?_
  refine za hs ?_
  refine wp_lt ?_
  have e:(¬ (0<=r.time/\r.time<=1099511627776)\/(r.gone=true/\r.value.size>0))↔(¬ (0<=r.time/\r.time<=1099511627776)\/(r.gone=true/\¬ r.value=ByteArray.mk #[])):=by rw [zle]
  refine ze (λh=>?_) λh=>?_
  ·rw [if_pos (e.2 h)];exact ⟨rfl,rfl,hs.tail⟩
  ·rw [if_neg (λh2=>h (e.1 h2))];exact ⟨rfl,rfl,hs.tail⟩
theorem zvb (b:BatM) (hs:Sat w l):Ret P F.a95 #[.agg (zn b).toArray] w λvs w'=>vs=[.bool (decide (z6f b))]/\Sat w' l :=
 zmg b.base b.pid b.epoch b.seq b.kind b.time b.x <| by
  delta zz8 AD AJ AL AM Aa Ai Aj Ao Aq Ar
  refine zt hs λa0 w' hs=>?_
  refine zf (λv w'=>v=(decide (z6f b),())/\Sat w' l) ?_ (by rintro _ w' ⟨rfl,hs⟩;refine zl ?_;exact ⟨rfl,rfl,hs⟩)
  have hno:∀ {w'},¬ z6f b->Sat w' (pt a0 (.cells #[.int .i64 b.base,.int .i64 b.pid,.int .i64 b.epoch,.int .i64 b.seq,.int .i64 b.kind,.int .i64 b.time,.slice b.x.a b.x.len b.x.cap] T.a0)::l)->((false,()):Bool × Unit)=(decide (z6f b),())/\Sat w' l:=λh hs=>⟨by rw [decide_eq_false h],hs.tail⟩
  refine za hs ?_
  refine za hs ?_
  refine za hs ?_
  refine ze (λh1=>?_) λh1=>?_
  rotate_left
  ·exact zg (hno (λh=>h1 h.1) hs)
  refine z8 (zbq b.base 0 1099511627776 hs) λ_ _ hs=>?_
  obtain ⟨rfl,hs⟩:=hs
  refine zb ?_
  refine za hs ?_
  refine ze (λh2=>?_) λh2=>?_
  rotate_left
  ·exact zg (hno (λh=>h2 h.2.1) hs)
  refine z8 (zbq b.pid 0 1048576 hs) λ_ _ hs=>?_
  obtain ⟨rfl,hs⟩:=hs
  refine zb ?_
  refine za hs ?_
  refine za hs ?_
  refine za hs ?_
  refine za hs ?_
  refine za hs ?_
  refine ze (λh3=>?_) λh3=>?_
  rotate_left
  ·exact zg (hno (λh=>h3 ⟨⟨⟨⟨h.2.2.1,h.2.2.2.1.1⟩,h.2.2.2.1.2⟩,h.2.2.2.2.1.1⟩,h.2.2.2.2.1.2⟩) hs)
  refine z8 (zbq b.time 0 1099511627776 hs) λ_ _ hs=>?_
  obtain ⟨rfl,hs⟩:=hs
  refine zb ?_
  refine wp_lt ?_
  refine zg ⟨?_,hs.tail⟩
  have:(z6f b)↔(0<=b.time/\b.time<=1099511627776):=⟨λh=>h.2.2.2.2.2,λh=>⟨h1,h2,h3.1.1.1.1,⟨h3.1.1.1.2,h3.1.1.2⟩,⟨h3.1.2,h3.2⟩,h⟩⟩
  rw [decide_eq_decide.2 this]
theorem z036 (b:BatM) [hb:FocR l b.x 4 (b.rs.flatMap zy)] (hs:Sat w l):Ret P F.a93 #[.agg (zn b).toArray] w λvs w'=>vs=[.bool (decide (z59 b))]/\Sat w' l :=
 ztz b.base b.pid b.epoch b.seq b.kind b.time b.x <| by
  delta z06m AJ AK AL AM AT Ai Aj Am Ao Aq Ar Aw
  have hl:=hs.slen b.x (xs:=b.rs) (enc:=zy)
  refine zt hs λa0 w' hs=>?_
  refine za hs ?_
  refine za hs ?_
  refine za hs ?_
  refine za hs ?_
  refine ze (λh1=>?_) λh1=>?_
  ·have:¬ z59 b:=λh=>h.1 ⟨h1.1,or_assoc.1 h1.2⟩
   exact ⟨rfl,by rw [decide_eq_false this],hs.tail⟩
  have h1:¬ (b.pid=0/\(b.kind≠0\/b.epoch≠0\/b.seq≠0)):=λh=>h1 ⟨h.1,or_assoc.2 h.2⟩
  refine zj hs ?_
  refine z8 (z6i b hs) λ_ _ hs=>?_
  obtain ⟨rfl,hs⟩:=hs
  refine zb ?_
  refine ze (λh2=>?_) λh2=>?_
  ·refine za hs ?_
   refine za hs ?_
   refine wp_lt ?_
   refine ⟨rfl,?_,hs.tail⟩
   have:z59 b↔(b.seq=0/\b.rs.length=0):=by
    unfold z59
    rw [if_pos h2]
    exact ⟨λh=>h.2,λh=>⟨h1,h⟩⟩
   congr 2
   rw [Bool.eq_iff_iff,decide_eq_true_iff,this,Bool.and_eq_true,beq_iff_eq,beq_iff_eq,hl]
   omega
  ·refine za hs ?_
   refine wp_lt ?_
   refine ⟨rfl,?_,hs.tail⟩
   have:z59 b↔0<b.rs.length:=by
    unfold z59
    rw [if_neg h2]
    exact ⟨λh=>h.2,λh=>⟨h1,h⟩⟩
   congr 2
   rw [Bool.eq_iff_iff,decide_eq_true_iff,decide_eq_true_iff,this,hl]
   omega
theorem z8y (b:BatM) [hb:FocR l b.x 4 (b.rs.flatMap zy)] (hs:Sat w l):Ret P F.a91 #[.agg (zn b).toArray] w λvs w'=>vs=[.int .i64 (z04 b)]/\Sat w' l :=
 ztx b.base b.pid b.epoch b.seq b.kind b.time b.x <| by
  delta z06k AB AD AF AI AJ AL AM AT AU AV AX AZ Aa Ab Ac Af Ai Aj Am Ao Aq Ar As Aw Ax;unfold z04
  have hl:=hs.slen b.x (xs:=b.rs) (enc:=zy)
  refine zt hs λa0 w' hs=>?_
  refine zf (λv w'=>v=(decide (¬ z6f b\/¬ z59 b),())/\Sat w' (pt a0 (.cells #[.int .i64 b.base,.int .i64 b.pid,.int .i64 b.epoch,.int .i64 b.seq,.int .i64 b.kind,.int .i64 b.time,.slice b.x.a b.x.len b.x.cap] T.a0)::l)) ?_ ?_
  ·refine zj hs ?_
   refine z8 (zvb b hs) λ_ _ hs=>?_
   obtain ⟨rfl,hs⟩:=hs
   refine zb ?_
   refine zj hs ?_
   refine ze (λh1=>?_) λh1=>?_
   ·exact zg ⟨by rw [decide_eq_true (.inl h1)],hs⟩
   refine z8 (z036 b hs) λ_ _ hs=>?_
   obtain ⟨rfl,hs⟩:=hs
   refine zb ?_
   refine wp_lt ?_
   refine zg ⟨?_,hs⟩
   have:(¬ z6f b\/¬ z59 b)↔¬ z59 b:=⟨λh=>h.resolve_left h1,.inr⟩
   rw [decide_eq_decide.2 this,decide_not]
  clear hs
  rintro _ w ⟨rfl,hs⟩
  refine zl ?_
  refine ze (λh1=>?_) λh1=>?_
  ·rw [if_pos h1];exact ⟨rfl,rfl,hs.tail⟩
  rw [if_neg h1]
  have hnum:z6f b:=Decidable.not_not.1 λh=>h1 (.inl h)
  have hfit:z59 b:=Decidable.not_not.1 λh=>h1 (.inr h)
  refine za hs ?_
  refine wp_lt ?_
  refine ze (λh2=>?_) λh2=>?_
  ·rw [if_pos (by omega)];exact ⟨rfl,rfl,hs.tail⟩
  rw [if_neg (by omega)]
  refine za hs ?_
  refine zf (λv w'=>z5q b.rs=0/\Sat w' (pt a0 (.cells #[.int .i64 b.base,.int .i64 b.pid,.int .i64 b.epoch,.int .i64 b.seq,.int .i64 b.kind,.int .i64 b.time,.slice b.x.a b.x.len b.x.cap] T.a0)::l)) ?_ ?_
  ·refine z03 (λk v w=>∃ i:Nat,v=((i:Int),())/\i<=b.rs.length/\b.rs.length-i=k/\z5q (b.rs.take i)=0/\Sat w (pt a0 (.cells #[.int .i64 b.base,.int .i64 b.pid,.int .i64 b.epoch,.int .i64 b.seq,.int .i64 b.kind,.int .i64 b.time,.slice b.x.a b.x.len b.x.cap] T.a0)::l)) b.rs.length ⟨0,rfl,by omega,rfl,rfl,hs⟩ ?_
   clear hs
   rintro k _ w ⟨i,rfl,hi,hk,hbad,hs⟩
   refine zl ?_
   refine ze (λhc=>?_) λhc=>?_
   rotate_left
   ·refine zh (zg ⟨?_,hs⟩)
    rwa [List.take_of_length_le (by omega)] at hbad
   have hil:i<b.rs.length:=by omega
   refine z3b hs i hil ?_
   refine zq hs λc w' hs=>?_
   refine zr hs λw' hs=>?_
   refine zj hs ?_
   refine z8 (zxz b.rs[i] hs) λ_ _ hs=>?_
   obtain ⟨rfl,hs⟩:=hs
   refine zb ?_
   refine wp_lt ?_
   refine ze (λh3=>?_) λh3=>?_
   ·refine wp_lt ?_
    refine zh (zh ?_)
    have:=zhj b.rs i hil hbad h3
    rw [if_pos (by rw [this];exact h3),this]
    exact ⟨rfl,rfl,hs.tail.tail⟩
   ·refine z2p (us':=[.int .i64 ((i+1:Nat):Int)]) (by (try simp (disch:=omega) only [w64]);first|rfl|(congr;omega)) ?_
    refine z11 (b.rs.length-(i+1)) ?_
    exact ⟨i+1,rfl,by omega,rfl,zhi b.rs i hil hbad (Decidable.not_not.1 h3),hs.sub⟩
  clear hs
  rintro _ w ⟨hbad,hs⟩
  refine zl ?_
  rw [if_neg (by rw [hbad];simp)]
  refine zj hs ?_
  refine z8 (zvw b hs) λ_ _ hs=>?_
  obtain ⟨rfl,hs⟩:=hs
  refine zb ?_
  have hsp:1<=zo b/\zo b<=64:=by
   unfold zo
   have h3:=hfit.2
   split
   ·omega
   ·rename_i hm
    rw [if_neg hm] at h3
    omega
  obtain ⟨-,hba,-,-,hse,-⟩:=hnum
  refine z21 (y:=zo b-1) ?_ (by rw [w64 (by omega) (by omega)])
  refine zf (λv w'=>v=(decide (b.base>1099511627776-(zo b-1)\/(b.pid>0/\z00 b=false/\b.seq>2147483647-(zo b-1))),())/\Sat w' l) ?_ ?_
  ·rw [w64 (x:=1099511627776-(zo b-1)) (by omega) (by omega)]
   refine za hs ?_
   refine za hs ?_
   refine zj hs ?_
   refine ze (λh3=>?_) λh3=>?_
   ·exact zg ⟨by rw [decide_eq_true (.inl h3)],hs.tail⟩
   refine ze (λh4=>?_) λh4=>?_
   rotate_left
   ·exact zg ⟨by rw [decide_eq_false (λh=>h.elim h3 λh=>h4 h.1)],hs.tail⟩
   refine z8 (z6i b hs) λ_ _ hs=>?_
   obtain ⟨rfl,hs⟩:=hs
   refine zb ?_
   refine za hs ?_
   rw [w64 (x:=2147483647-(zo b-1)) (by omega) (by omega)]
   refine zg ⟨?_,hs.tail⟩
   have:(b.base>1099511627776-(zo b-1)\/(b.pid>0/\z00 b=false/\b.seq>2147483647-(zo b-1)))↔(z00 b=false/\b.seq>2147483647-(zo b-1)):=⟨λh=>(h.resolve_left h3).2,λh=>.inr ⟨h4,h⟩⟩
   rw [decide_eq_decide.2 this,Bool.decide_and]
   cases z00 b <;> rfl
  clear hs
  rintro _ w ⟨rfl,hs⟩
  refine zl ?_
  refine ze (λh3=>?_) λh3=>?_
  ·rw [if_pos h3];exact ⟨rfl,rfl,hs⟩
  ·rw [if_neg h3];exact ⟨rfl,rfl,hs⟩
theorem z0z (b:BatM) (hv:z04 b=0):1<=zo b/\zo b<=64/\z6f b/\z59 b/\b.base+zo b<=1099511627777:=by
 unfold z04 at hv
 split at hv
 ·cases hv
 rename_i h1
 have hnum:z6f b:=Decidable.not_not.1 λh=>h1 (.inl h)
 have hfit:z59 b:=Decidable.not_not.1 λh=>h1 (.inr h)
 split at hv
 ·cases hv
 rename_i h2
 split at hv
 ·rename_i h3;exact absurd hv h3
 split at hv
 ·cases hv
 rename_i h4
 have hsp:1<=zo b/\zo b<=64:=by
  unfold zo
  have h3:=hfit.2
  split
  ·omega
  ·rename_i hm
   rw [if_neg hm] at h3
   omega
 refine ⟨hsp.1,hsp.2,hnum,hfit,?_⟩
 apply Decidable.byContradiction
 intro h5
 exact h4 (.inl (by omega))
theorem z8w (b:BatM) [hb:FocR l b.x 4 (b.rs.flatMap zy)] (hs:Sat w l):Ret P F.a89 #[.agg (zn b).toArray] w λvs w'=>vs=[.int .i64 (z1k b)]/\Sat w' l :=
 ztv b.base b.pid b.epoch b.seq b.kind b.time b.x <| by
  delta z06i AA AB AF AM Aa Af Ai Aj Ao Aw Ay Bs;unfold z1k
  refine zt hs λa0 w' hs=>?_
  refine zj hs ?_
  refine z8 (z8y b hs) λ_ _ hs=>?_
  obtain ⟨rfl,hs⟩:=hs
  refine zb ?_
  refine ze (λh=>?_) λh=>?_
  ·rw [if_pos h];exact ⟨rfl,rfl,hs.tail⟩
  rw [if_neg h]
  obtain ⟨h1,h2,h3,-⟩:=z0z b (Decidable.not_not.1 h)
  have h3:=h3.2.1
  refine z02 hs λw' hs=>?_
  refine z1d hs ?_
  refine zj hs ?_
  refine z8 (zvw b hs) λ_ w' hs=>?_
  obtain ⟨rfl,hs⟩:=hs
  refine zb ?_ ⟨trivial,λ_=>z0a hs⟩
  refine z21 (y:=b.base+zo b) ?_ (by rw [w64 (by omega) (by omega)])
  refine zd ?_
  exact ⟨rfl,rfl,hs.tail⟩
end
theorem zia {K V:Type} {kk:K} {v v':V}:∀ {es:List (K × V)},(es.map Prod.fst).Nodup->(kk,v) ∈ es->(kk,v') ∈ es->v'=v
 | a::r,hnd,hv,hv'=>by
  rw [List.map_cons,List.nodup_cons] at hnd
  rcases List.mem_cons.1 hv with h1|h1 <;> rcases List.mem_cons.1 hv' with h2|h2
  ·rw [<- h1] at h2;exact (Prod.mk.inj h2).2
  ·exact absurd (List.mem_map.2 ⟨_,h2,by rw [<- h1]⟩) hnd.1
  ·exact absurd (List.mem_map.2 ⟨_,h1,by rw [<- h2]⟩) hnd.1
  ·exact zia hnd.2 h1 h2
section
variable {K V:Type} {ek:K->Value} {ev:V->Value} {m:Nat} {es:List (K × V)} {P:Program} {w:World} {l r:List HP} {Q:Post} {S:World->Prop} {T kt:TypeId} {z:Value} {g:Prop} {kk:K} {kv:Value}
theorem zp5 [hf:FoM l m ek ev es r] [hT:MapT P T kt z] [hk:KeyT P kt ek] [hkv:IsK ek kv kk] (hs:Sat w l) {v:V} (hv:(kk,v) ∈ es) {ss:List Sh1} {x:HL (prims ss)} (hx:z1a ss x=[ev v,.bool true]) :
  (Instr.lookup T (.map (some m)) kv true).run P w=.ok ((Sh.tup ss).mk x) w:=by
 have hs:=hs.perm hf.perm
 have hnd:=hs.mapNodup
 rcases zbj (P:=P) (T:=T) true hs kk with ⟨v',hv',hr⟩|⟨hno,-⟩
 ·have:v'=v:=zia hnd hv hv'
  rw [hkv.ok,hr,this]
  show Result.ok (Value.tuple #[ev v,.bool true]) w=Result.ok (Value.tuple (z1a ss x).toArray) w
  rw [hx]
 ·exact absurd hv (hno _)
theorem zkh [hf:FoM l m ek ev es r] [hT:MapT P T kt z] [hk:KeyT P kt ek] [hkv:IsK ek kv kk] (hs:Sat w l) (hv:∀ v,(kk,v) ∉ es) {ss:List Sh1} {x:HL (prims ss)} (hx:z1a ss x=[z,.bool false]) :
  (Instr.lookup T (.map (some m)) kv true).run P w=.ok ((Sh.tup ss).mk x) w:=by
 have hs:=hs.perm hf.perm
 rcases zbj (P:=P) (T:=T) true hs kk with ⟨v',hv',hr⟩|⟨-,hr⟩
 ·exact absurd hv' (hv _)
 ·rw [hkv.ok,hr]
  show Result.ok (Value.tuple #[z,.bool false]) w=Result.ok (Value.tuple (z1a ss x).toArray) w
  rw [hx]
theorem zbr {ss:List Sh1} {k:HL (prims ss)->Prog} [hf:FoM l m ek ev es r] [hT:MapT P T kt z] [hk:KeyT P kt ek] [hkv:IsK ek kv kk] (hs:Sat w l) (o:Option V) (ho:(∃ v,o=some v/\(kk,v) ∈ es)\/(o=none/\∀ v,(kk,v) ∉ es)) (d:Option V->HL (prims ss))
  (h:(k (d o)).wp P (λw'=>S w'/\(g->(Instr.lookup T (.map (some m)) kv true).run P w'=.ok ((Sh.tup ss).mk (d o)) w')) w Q) (h1:∀ v,z1a ss (d (some v))=[ev v,.bool true]:=by intros;rfl) (h0:z1a ss (d none)=[z,.bool false]:=by rfl) :
  (Prog.hold g (Instr.lookup T (.map (some m)) kv true) (.tup ss) k).wp P S w Q:=by
 refine ⟨d o,λ_=>?_,h⟩
 rcases ho with ⟨v,rfl,hv⟩|⟨rfl,hv⟩
 ·exact zp5 hs hv (h1 v)
 ·exact zkh hs hv h0
theorem z87 {ss:List Sh1} [hf:FoM l m ek ev es r] [hT:MapT P T kt z] [hk:KeyT P kt ek] [hkv:IsK ek kv kk] (hs:Sat w l) {o:Option V} (ho:(∃ v,o=some v/\(kk,v) ∈ es)\/(o=none/\∀ v,(kk,v) ∉ es)) (d:Option V->HL (prims ss))
  (h1:∀ v,z1a ss (d (some v))=[ev v,.bool true]:=by intros;rfl) (h0:z1a ss (d none)=[z,.bool false]:=by rfl) :
  (Instr.lookup T (.map (some m)) kv true).run P w=.ok ((Sh.tup ss).mk (d o)) w:=by
 rcases ho with ⟨v,rfl,hv⟩|⟨rfl,hv⟩
 ·exact zp5 hs hv (h1 v)
 ·exact zkh hs hv h0
theorem zyk {ss:List Sh1} {k:HL (prims ss)->Prog} [hf:FoM l m ek ev es r] [hT:MapT P T kt z] [hk:KeyT P kt ek] [hkv:IsK ek kv kk] (hs:Sat w l) (o:Option V) (ho:(∃ v,o=some v/\(kk,v) ∈ es)\/(o=none/\∀ v,(kk,v) ∉ es)) (d:Option V->HL (prims ss))
  (h:(k (d o)).wp P S w Q) (h1:∀ v,z1a ss (d (some v))=[ev v,.bool true]:=by intros;rfl) (h0:z1a ss (d none)=[z,.bool false]:=by rfl) :
  (Prog.read g (Instr.lookup T (.map (some m)) kv true) (.tup ss) k).wp P S w Q :=
 ⟨d o,λ_=>z87 hs ho d h1 h0,h⟩
end
section
variable {P:Program} {w:World} {l r:List HP} {Q:Post} {S:World->Prop} {t:TypeId} {sz:Nat}
theorem zz6 {α β γ δ:Type} {f:α->β->γ->δ->Prog} (a:α) (b:β) (c:γ) (d:δ) (h:(f a b c d).wp P S w Q):(u4 f (a,b,c,d,())).wp P S w Q:=h
theorem zq5 {α:Type} {enc:α->List Value} {n:Nat} {ps:Array (Nat × Value)} {el:TypeId} {bytes:Nat} {k:Sl->Prog} (hs:Sat w l) [ht:SlT P t el sz bytes] [hE:EncN enc sz] (xs:List α)
  (h:∀ x w',Sat w' (slc el sz x (xs.flatMap enc)::l)->(k x).wp P S w' Q) (hc:z47 P t n ps=some (el,(xs.flatMap enc).toArray):=by kernel_rfl) (hn:xs.length=n:=by rfl) (hS:∀ w',S w':=by exact λ_=>trivial) :
  (Prog.act (Instr.buildSlice t n ps) sL (u1 k)).wp P S w Q:=z90 hs xs hc (λb w' hs=>h _ w' hs) (by simp) hn hS
end
section
variable {P:Program} {w:World} {l r:List HP} {Q:Post} {S:World->Prop} {α β γ δ ε ζ η θ:Type}
theorem z40 {f:α->β->Prog} (a:α) (b:β) (h:(f a b).wp P S w Q):(u2 f (a,b,())).wp P S w Q:=h
theorem z7i {f:α->β->γ->Prog} (a:α) (b:β) (c:γ) (h:(f a b c).wp P S w Q):(u3 f (a,b,c,())).wp P S w Q:=h
theorem z8r {f:α->β->γ->δ->ε->Prog} (a:α) (b:β) (c:γ) (d:δ) (e:ε) (h:(f a b c d e).wp P S w Q):(u5 f (a,b,c,d,e,())).wp P S w Q:=h
theorem zgh {f:α->β->γ->δ->ε->ζ->η->Prog} (a:α) (b:β) (c:γ) (d:δ) (e:ε) (z:ζ) (y:η) (h:(f a b c d e z y).wp P S w Q):(u7 f (a,b,c,d,e,z,y,())).wp P S w Q:=h
theorem zdi {f:α->β->γ->δ->ε->ζ->η->θ->Prog} (a:α) (b:β) (c:γ) (d:δ) (e:ε) (z:ζ) (y:η) (x:θ) (h:(f a b c d e z y x).wp P S w Q):(u8 f (a,b,c,d,e,z,y,x,())).wp P S w Q:=h
theorem zw6 {f : FuncId} {cap : Array Value} {args : List Value} {s : Sh} {k : HL s.prims → Prog} {vs₀ : List Value} {R : World → Prop} (hok : (P.funcs[f]?).any (fun fn => fn.body.isSome && fn.name != "runtime.NumGoroutine") = true) (x : HL s.prims)
  (hc:Ret P f (args.toArray++cap) w λvs w'=>vs=vs₀/\R w') (hx:z7s vs₀=s.mk x) (h:∀ w',R w'->S w'/\(k x).wp P S w' Q):(Prog.callv (.func (.func f) #[] cap) args s k).wp P S w Q:=by
 refine ⟨f,#[],cap,rfl,hok,?_⟩
 have e:(#[]:Array Value)++args.toArray++cap=args.toArray++cap:=by simp
 rw [e]
 refine Calls.mono hc λe w' ⟨vs,he,hv,hR⟩=>?_
 exact ⟨x,by rw [he,hv,hx],h w' hR⟩
end
section
variable {P:Program} {w:World} {l r:List HP} {Q:Post} {S:World->Prop} {b off:Nat} {T T':TypeId} {g:Prop}
theorem z02b {a:Addr} {vs:List Value} {fr:Nat × Nat} {ps:List Pr} (x:HL ps) {n:Nat} (hs:Sat w l) [ha:AddrIs a b off] [hb:FocB l b (.cells vs.toArray T' fr) r] [hT:Agg P T n] (hx:(vs.drop off).take n=HL.vals ps x) (hn:(HL.vals ps x).length=n) :
  (ld T a).run P w=.ok ((Sh.one (.agg ps)).mk x) w:=by
 rw [ha.ok]
 refine At.ldA (P:=P) (T:=T) (vs:=HL.vals ps x) ⟨b,off,vs.toArray,T',fr,rfl,(hs.focB b).get,λi hi=>?_⟩ hn
 rw [<- hx,List.getElem?_take,if_pos (by omega),List.getElem?_drop]
 simp
theorem zgg {a:Addr} {vs:List Value} {fr:Nat × Nat} {ps:List Pr} {k:HL ps->Prog} (hs:Sat w l) (x:HL ps) {n:Nat} [ha:AddrIs a b off] [hb:FocB l b (.cells vs.toArray T' fr) r] [hT:Agg P T n] {p:Prog} [hA:App k x p]
  (h:p.wp P S w Q) (hx:(vs.drop off).take n=HL.vals ps x:=by rfl) (hn:(HL.vals ps x).length=n:=by rfl):(Prog.read g (ld T a) (.one (.agg ps)) k).wp P S w Q :=
 ⟨x,λ_=>z02b (T:=T) x hs hx hn,by rw [hA.ok];exact h⟩
end
section
variable {P:Program} {w:World} {l r:List HP} {Q:Post} {S:World->Prop} {T:TypeId} {sz:Nat} {x:Sl}
theorem At.part {A:Addr} {vs:List Value} (h:At w A vs) (j q:Nat):At w (A.add j) ((vs.drop j).take q):=by
 obtain ⟨b,o,arr,T',fr,rfl,hb,hc⟩:=h
 refine ⟨b,o+j,arr,T',fr,z3s ..,hb,λi hi=>?_⟩
 rw [List.length_take,List.length_drop] at hi
 rw [List.getElem?_take,if_pos (by omega),List.getElem?_drop,Nat.add_assoc,hc (j+i) (by omega)]
end
structure TabA where
 most:Int
 next:Int
 rows:List RowA
def z5e (A:TabA) (pid:Int):Option RowA:=A.rows.find? λr=>decide (r.pid=pid)
def z045 (pid:Int):RowA:=⟨pid,-1,0,0,0,-1,0⟩
def z0s (A:TabA) (pid:Int):RowA:=(z5e A pid).getD (z045 pid)
def z8m (rs:List RowA):List RowA:=rs.filter λr=>decide (0<=r.frm)
structure okRw (r:RowA) (next:Int):Prop where
 pid:1<=r.pid/\r.pid<=1048576
 epoch:0<=r.epoch/\r.epoch<=32768
 time:0<=r.time/\r.time<=1099511627776
 count:0<=r.count/\r.count<=64
 seq:0<=r.seq
 base:0<=r.base
 frm : -1<=r.frm
 none_:r.count=0->r.seq=0/\r.base=0/\r.frm = -1
 some_:0<r.count->r.epoch<=32767/\r.seq+r.count<=2147483648/\r.base+r.count<=next/\r.frm<=r.base
structure okTb (A:TabA):Prop where
 most:1<=A.most/\A.most<=4096
 next:0<=A.next/\A.next<=1099511627777
 many:(A.rows.length:Int)<=A.most
 row:∀ r ∈ A.rows,okRw r A.next
 byPid:A.rows.Pairwise λa b=>a.pid<b.pid
 apart:(z8m A.rows).Pairwise λa b=>a.frm≠b.frm
instance:KeyT P T.a13 ekI:=zkd (by kernel_rfl)
instance:MapT P T.a18 T.a13 (.agg #[.int .i64 0,.int .i64 0,.int .i64 0,.int .i64 0,.int .i64 0,.int .i64 0,.int .i64 0]):=⟨T.a4,by kernel_rfl,by kernel_rfl⟩
def z3c (rs:List RowA):List (Int × RowA):=rs.map λr=>(r.pid,r)
def tb (t:Nat) (A:TabA):HP:=HP.ex λm:Nat=>HP.and (okTb A) (HP.star (pt t (.cells #[.int .i64 A.most,.int .i64 A.next,.map (some m)] T.a5)) (z1e ekI evW m (z3c A.rows)))
theorem okRw.seqs {r:RowA} {next:Int} (h:okRw r next):r.seq+r.count<=2147483648:=by
 have h1:=h.count;have h2:=h.seq
 rcases Int.lt_or_le 0 r.count with h3|h3
 ·exact (h.some_ h3).2.1
 ·have:=(h.none_ (by omega)).1;omega
theorem z2n {A:TabA} {pid:Int} {t:RowA} (h:z5e A pid=some t):t ∈ A.rows/\t.pid=pid:=⟨List.mem_of_find?_eq_some h,by simpa using List.find?_some h⟩
theorem zcx {A:TabA} {pid:Int} (h:z5e A pid=none):∀ t ∈ A.rows,t.pid≠pid:=λt ht=>by simpa using List.find?_eq_none.1 h t ht
theorem zim (A:TabA) (pid:Int):(∃ t,z5e A pid=some t/\(pid,t) ∈ z3c A.rows)\/(z5e A pid=none/\∀ t,(pid,t) ∉ z3c A.rows):=by
 cases h:z5e A pid with
 | some t=>exact .inl ⟨t,rfl,List.mem_map.2 ⟨t,(z2n h).1,by rw [(z2n h).2]⟩⟩
 | none=>exact .inr ⟨rfl,λt ht=>by
   obtain ⟨u,hu,e⟩:=List.mem_map.1 ht
   simp only [Prod.mk.injEq] at e
   exact zcx h u hu e.1⟩
theorem zh7 {A:TabA} (hok:okTb A) (pid:Int):0<=(z0s A pid).seq/\0<=(z0s A pid).count/\(z0s A pid).seq+(z0s A pid).count<=2147483648 /\ -1<=(z0s A pid).epoch/\(z0s A pid).epoch<=32768 /\ -1<=(z0s A pid).frm/\(z0s A pid).pid=pid:=by
 unfold z0s
 cases h:z5e A pid with
 | none=>simp [z045]
 | some t =>
  have h1:=hok.row t (z2n h).1
  have:=h1.seqs;have:=h1.seq;have:=h1.count;have:=h1.epoch;have:=h1.frm;have:=(z2n h).2
  simp only [Option.getD_some];omega
section
variable {w:World} {l r r1 r2 l':List HP} {t:Nat} {A:TabA}
theorem zav (hs:Sat w (tb t A::l)):∃ m:Nat,okTb A/\Sat w (pt t (.cells #[.int .i64 A.most,.int .i64 A.next,.map (some m)] T.a5)::z1e ekI evW m (z3c A.rows)::l):=by
 obtain ⟨m,hs⟩:=hs.ex
 obtain ⟨hok,hs⟩:=hs.and
 exact ⟨m,hok,hs.star⟩
theorem z075 (m:Nat) (hok:okTb A) (hs:Sat w (pt t (.cells #[.int .i64 A.most,.int .i64 A.next,.map (some m)] T.a5)::z1e ekI evW m (z3c A.rows)::l)):Sat w (tb t A::l):=.ex_mk m (.and_mk hok (.star_mk hs))
theorem z3g (m:Nat) (hok:okTb A) (hs:Sat w l) {es1:List (Int × RowA)} [h1:FocB l t (.cells [.int .i64 A.most,.int .i64 A.next,.map (some m)].toArray T.a5) r1] [h2:FoM r1 m ekI evW es1 r2] [h4:Sub r2 l']
  (hp1:es1.Perm (z3c A.rows):=by exact .refl _):Sat w (tb t A::l'):=by
 have hs:=hs.perm (h1.perm.trans (.cons _ h2.perm))
 have hs:=((hs.pick [1]).mapPerm hp1).pick [1]
 have hs:Sat w (tb t A::r2):=z075 m hok hs
 exact hs.sub
theorem zz5 (hs:Sat w (tb t A::l)):okTb A:=(zav hs).choose_spec.1
instance {r:RowA}:IsR (sG [.int .i64,.int .i64,.int .i64,.int .i64,.int .i64,.int .i64,.int .i64]) [.agg (z5t r).toArray] (r.pid,r.epoch,r.seq,r.count,r.base,r.frm,r.time,()):=⟨rfl⟩
instance {r:RowA} {b:Bool}:IsR (.tup [.agg [.int .i64,.int .i64,.int .i64,.int .i64,.int .i64,.int .i64,.int .i64],.one .bool]) [.agg (z5t r).toArray,.bool b] (r.pid,r.epoch,r.seq,r.count,r.base,r.frm,r.time,b,()):=⟨rfl⟩
def z06w (o:Option RowA):Int × Int × Int × Int × Int × Int × Int × Bool × Unit :=
 ((o.getD ⟨0,0,0,0,0,0,0⟩).pid,(o.getD ⟨0,0,0,0,0,0,0⟩).epoch,(o.getD ⟨0,0,0,0,0,0,0⟩).seq,(o.getD ⟨0,0,0,0,0,0,0⟩).count,(o.getD ⟨0,0,0,0,0,0,0⟩).base,(o.getD ⟨0,0,0,0,0,0,0⟩).frm,(o.getD ⟨0,0,0,0,0,0,0⟩).time,o.isSome,())
theorem z04c (most:Int) (hs:Sat w l):Ret P F.a6 #[.int .i64 most] w λvs w' =>
  (1<=most/\most<=4096/\∃ t,vs=[.pointer (some ⟨t,0,none⟩),.int .i64 0]/\Sat w' (tb t ⟨most,0,[]⟩::l))\/((most<1\/most>4096)/\vs=[.pointer none,.int .i64 2]/\Sat w' l) :=
 zwc most <| by
  delta zf7 AM AP Aa Ah Ai Aj
  refine ze (λh=>?_) λh=>?_
  ·exact ⟨rfl,.inr ⟨h,rfl,hs⟩⟩
  refine zbs ekI evW hs λm w' hs=>?_
  refine zt hs λt w' hs=>?_
  refine ⟨rfl,.inl ⟨by omega,by omega,t,rfl,?_⟩⟩
  exact z3g m (A:=⟨most,0,[]⟩) ⟨by show 1<=most/\most<=4096;omega,by show (0:Int)<=0/\(0:Int)<=_;omega,by show (0:Int)<=most;omega,by simp,by simp,by simp [z8m]⟩ hs
theorem zw3 (pid:Int) [hf:Fo l tb t A r] (hs:Sat w l):Ret P F.a13 #[.pointer (some ⟨t,0,none⟩),.int .i64 pid] w λvs w'=>vs=[.agg (z5t (z0s A pid)).toArray,.bool (z5e A pid).isSome]/\Sat w' (tb t A::r) :=
 zs5 _ _ <| by
  delta z04t AL Aa Ab Ac Ai Aj B0 Ba Bv By
  obtain ⟨m,hok,hs⟩:=zav (hs.perm hf.perm)
  refine zq hs λa0 w' hs=>?_
  refine zk ?_
  refine za hs ?_
  have ho:=zim A pid
  unfold z0s
  generalize z5e A pid=o at ho ⊢
  refine zyk hs o ho z06w ?_
  refine zdi _ _ _ _ _ _ _ _ ?_
  refine zq hs λa12 w' hs=>?_
  refine zr hs λw' hs=>?_
  refine wp_lt ?_
  cases o with
  | none =>
   refine z10 ?_ (by simp)
   refine zr hs λw' hs=>?_
   refine zj hs ?_
   exact ⟨rfl,rfl,z3g m hok hs⟩
  | some x =>
   refine z07 ?_ (by simp)
   refine zj hs ?_
   refine zr hs λw' hs=>?_
   refine zj hs ?_
   exact ⟨rfl,rfl,z3g m hok hs⟩
theorem zq3 (x:RowA) (h1:0<=x.seq+x.count/\x.seq+x.count<=2147483648) (hs:Sat w l):Ret P F.a7 #[.agg (z5t x).toArray] w λvs w'=>vs=[.int .i64 (x.seq+x.count)]/\Sat w' l :=
 zwd x.pid x.epoch x.seq x.count x.base x.frm x.time <| by
  delta zf8 AB AM Aa Af Aj Aq By
  refine zt hs λa0 w' hs=>?_
  refine za hs ?_
  refine za hs ?_
  refine z1b ?_
  exact ⟨rfl,rfl,hs.tail⟩
theorem zps (x:RowA) (hs:Sat w l):Ret P F.a8 #[.agg (z5t x).toArray] w λvs w'=>vs=[.bool (decide (0<=x.frm))]/\Sat w' l :=
 zwe x.pid x.epoch x.seq x.count x.base x.frm x.time <| by
  delta zf9 AL AM Aj Aq By
  refine zt hs λa0 w' hs=>?_
  refine za hs ?_
  refine wp_lt ?_
  exact ⟨rfl,rfl,hs.tail⟩
theorem zhb (b:BatM) (hs:Sat w l):Ret P F.a15 #[.agg (zn b).toArray] w λvs w'=>vs=[.bool (z00 b)]/\Sat w' l :=
 zs7 b.base b.pid b.epoch b.seq b.kind b.time b.x <| by
  delta z04v AL AM Aj Ao Aq Ar
  refine zt hs λa0 w' hs=>?_
  refine za hs ?_
  refine za hs ?_
  refine wp_lt ?_
  exact ⟨rfl,rfl,hs.tail⟩
end
structure VerA where
 again:Bool
 base:Int
def zff (v:VerA):List Value:=[.bool v.again,.int .i64 v.base]
def z83 (r:RowA) (b:BatM):VerA × Bool :=
 if b.epoch≠r.epoch\/b.seq+b.rs.length>r.seq+r.count then (⟨false,0⟩,false) else if b.seq=r.seq/\(b.rs.length:Int)=r.count then (⟨true,r.base⟩,true) else (⟨true,-1⟩,true)
def zam (A:TabA) (r:RowA) (there:Bool) (b:BatM):Int :=
 if 0<=r.frm/\(b.epoch>r.epoch\/b.kind=0) then 22
 else if z00 b=false/\b.seq≠(if b.epoch>r.epoch then 0 else r.seq+r.count) then 21
 else if there=false/\(A.rows.length:Int)>=A.most then 5 else 0
def z1s (A:TabA) (b:BatM):VerA × Int :=
 if z04 b≠0\/b.pid=0 then (⟨false,0⟩,z04 b)
 else if b.epoch<(z0s A b.pid).epoch then (if z00 b then (⟨true,-1⟩,0) else (⟨false,0⟩,20))
 else if z00 b=false/\(z83 (z0s A b.pid) b).2=true then ((z83 (z0s A b.pid) b).1,0)
 else (⟨false,0⟩,zam A (z0s A b.pid) (z5e A b.pid).isSome b)
instance {v:VerA} {b:Bool}:IsR (.tup [.agg [.bool,.int .i64],.one .bool]) [.agg (zff v).toArray,.bool b] (v.again,v.base,b,()):=⟨rfl⟩
instance {v:VerA} {n:Int}:IsR (.tup [.agg [.bool,.int .i64],.one (.int .i64)]) [.agg (zff v).toArray,.int .i64 n] (v.again,v.base,n,()):=⟨rfl⟩
section
variable {w:World} {l r r1 r2 l':List HP} {t:Nat} {A:TabA}
theorem zya (x:RowA) (b:BatM) [hb:FocR l b.x 4 (b.rs.flatMap zy)] (h1:0<=x.seq+x.count/\x.seq+x.count<=2147483648) (h2:0<=b.seq/\b.seq<=2147483647) (h3:b.rs.length<=64) (hs:Sat w l) :
  Ret P F.a14 #[.agg (z5t x).toArray,.agg (zn b).toArray] w λvs w'=>vs=[.agg (zff (z83 x b).1).toArray,.bool (z83 x b).2]/\Sat w' l :=
 zs6 x.pid x.epoch x.seq x.count x.base x.frm x.time b.base b.pid b.epoch b.seq b.kind b.time b.x <| by
  delta z04u AA AB AD AE AF AK AM Aa Ab Ac Ai Aj Am Ao Aq Ar Ay Bl Bx By Bz;unfold z83
  have hl:=hs.slen b.x (xs:=b.rs) (enc:=zy)
  refine zt hs λa0 w' hs=>?_
  refine zt hs λa1 w' hs=>?_
  refine zq hs λa2 w' hs=>?_
  have hs:Sat w' (pt a2 (.cells #[.bool false,.int .i64 0] T.a6)::pt a1 (.cells #[.int .i64 b.base,.int .i64 b.pid,.int .i64 b.epoch,.int .i64 b.seq,.int .i64 b.kind,.int .i64 b.time,.slice b.x.a b.x.len b.x.cap] T.a0) ::
   pt a0 (.cells #[.int .i64 x.pid,.int .i64 x.epoch,.int .i64 x.seq,.int .i64 x.count,.int .i64 x.base,.int .i64 x.frm,.int .i64 x.time] T.a4)::l):=hs
  refine zf (λv w'=>v=(decide (b.epoch≠x.epoch\/b.seq+b.rs.length>x.seq+x.count),())/\Sat w' (pt a2 (.cells #[.bool false,.int .i64 0] T.a6)::pt a1 (.cells #[.int .i64 b.base,.int .i64 b.pid,.int .i64 b.epoch,.int .i64 b.seq,.int .i64 b.kind,.int .i64 b.time,.slice b.x.a b.x.len b.x.cap] T.a0) ::
   pt a0 (.cells #[.int .i64 x.pid,.int .i64 x.epoch,.int .i64 x.seq,.int .i64 x.count,.int .i64 x.base,.int .i64 x.frm,.int .i64 x.time] T.a4)::l)) ?_ ?_
  ·refine z02 hs λw' hs=>?_
   refine za hs ?_
   refine za hs ?_
   refine z1d hs ?_
   refine z1d hs ?_
   refine zj hs ?_
   refine ze (λh=>?_) λh=>?_
   ·refine zd ?_
    exact zg ⟨by rw [decide_eq_true (.inl h)],hs⟩
   ·refine z8 (zq3 x h1 hs) λ_ w' hs=>?_
    obtain ⟨rfl,hs⟩:=hs
    refine zb ?_ ⟨⟨trivial,λ_=>z0a hs⟩,λ_=>z0a hs⟩
    refine zd ?_
    refine zg ⟨?_,hs⟩
    rw [w64 (by omega) (by omega),hl]
    have:(b.epoch≠x.epoch\/b.seq+b.rs.length>x.seq+x.count)↔b.seq+((b.rs.length:Nat):Int)>x.seq+x.count:=⟨λh'=>h'.resolve_left h,.inr⟩
    rw [decide_eq_decide.2 this]
  clear hs
  rintro _ w ⟨rfl,hs⟩
  refine zl ?_
  refine ze (λh=>?_) λh=>?_
  ·rw [if_pos h]
   refine zr hs λw' hs=>?_
   refine zj hs ?_
   exact ⟨rfl,rfl,hs.sub⟩
  rw [if_neg h]
  refine za hs ?_
  refine za hs ?_
  refine za hs ?_
  refine za hs ?_
  refine ze (λh=>?_) λh=>?_
  ·rw [if_pos (by rw [hl] at h;exact h)]
   refine za hs ?_
   refine zr hs λw' hs=>?_
   refine zj hs ?_
   exact ⟨rfl,rfl,hs.sub⟩
  ·rw [if_neg (by rw [hl] at h;exact h)]
   refine zr hs λw' hs=>?_
   refine zj hs ?_
   exact ⟨rfl,rfl,hs.sub⟩
theorem zyd (x:RowA) (there:Bool) (b:BatM) [hf:Fo l tb t A r] (h1:0<=x.seq+x.count/\x.seq+x.count<=2147483648) (hs:Sat w l) :
  Ret P F.a12 #[.pointer (some ⟨t,0,none⟩),.agg (z5t x).toArray,.bool there,.agg (zn b).toArray] w λvs w'=>vs=[.int .i64 (zam A x there b)]/\Sat w' (tb t A::r) :=
 zs4 _ x.pid x.epoch x.seq x.count x.base x.frm x.time there b.base b.pid b.epoch b.seq b.kind b.time b.x <| by
  delta z04s AA AF AG AJ AL AM AZ Aa Af Ai Aj Ao Aq Ar Aw Ay B0 B2 B4 Bd By;unfold zam
  obtain ⟨m,hok,hs⟩:=zav (hs.perm hf.perm)
  refine zt hs λa0 w' hs=>?_
  refine zt hs λa1 w' hs=>?_
  refine zj hs ?_
  refine z8 (zq3 x h1 hs) λ_ _ hs=>?_
  obtain ⟨rfl,hs⟩:=hs
  refine zb ?_
  refine wp_lt ?_
  refine za hs ?_
  refine za hs ?_
  have hs:Sat _ (pt a1 (.cells #[.int .i64 b.base,.int .i64 b.pid,.int .i64 b.epoch,.int .i64 b.seq,.int .i64 b.kind,.int .i64 b.time,.slice b.x.a b.x.len b.x.cap] T.a0) ::
   pt a0 (.cells #[.int .i64 x.pid,.int .i64 x.epoch,.int .i64 x.seq,.int .i64 x.count,.int .i64 x.base,.int .i64 x.frm,.int .i64 x.time] T.a4)::pt t (.cells #[.int .i64 A.most,.int .i64 A.next,.map (some m)] T.a5)::z1e ekI evW m (z3c A.rows)::r):=hs
  refine zf (λv w'=>v=((if b.epoch>x.epoch then 0 else x.seq+x.count),())/\Sat w' (pt a1 (.cells #[.int .i64 b.base,.int .i64 b.pid,.int .i64 b.epoch,.int .i64 b.seq,.int .i64 b.kind,.int .i64 b.time,.slice b.x.a b.x.len b.x.cap] T.a0) ::
   pt a0 (.cells #[.int .i64 x.pid,.int .i64 x.epoch,.int .i64 x.seq,.int .i64 x.count,.int .i64 x.base,.int .i64 x.frm,.int .i64 x.time] T.a4)::pt t (.cells #[.int .i64 A.most,.int .i64 A.next,.map (some m)] T.a5)::z1e ekI evW m (z3c A.rows)::r)) ?_ ?_
  ·refine ze (λh=>?_) λh=>?_
   ·exact zg ⟨by rw [if_pos h],hs⟩
   ·exact zg ⟨by rw [if_neg h],hs⟩
  clear hs
  rintro _ w ⟨rfl,hs⟩
  refine zl ?_
  refine zj hs ?_
  refine z8 (zps x hs) λ_ _ hs=>?_
  obtain ⟨rfl,hs⟩:=hs
  refine zb ?_
  refine za hs ?_
  refine za hs ?_
  refine za hs ?_
  refine wp_lt ?_
  refine ze (λh=>?_) λh=>?_
  ·rw [if_pos h]
   exact ⟨rfl,rfl,z3g m hok hs⟩
  rw [if_neg h]
  refine zj hs ?_
  refine z8 (zhb b hs) λ_ _ hs=>?_
  obtain ⟨rfl,hs⟩:=hs
  refine zb ?_
  refine za hs ?_
  refine wp_lt ?_
  refine ze (λh=>?_) λh=>?_
  ·rw [if_pos (by simpa using h)]
   exact ⟨rfl,rfl,z3g m hok hs⟩
  rw [if_neg (by simpa using h)]
  refine z02 hs λw' hs=>?_
  refine z0k ?_
  refine za hs ?_
  refine zdh hs ?_
  refine z0k ?_
  refine za hs ?_
  refine wp_lt ?_
  refine zd ?_
  have hlen:(z3c A.rows).length=A.rows.length:=by unfold z3c;rw [List.length_map]
  rw [hlen]
  refine ze (λh=>?_) λh=>?_
  ·rw [if_pos (by simpa using h)]
   exact ⟨rfl,rfl,z3g m hok hs⟩
  ·rw [if_neg (by simpa using h)]
   exact ⟨rfl,rfl,z3g m hok hs⟩
theorem zeu (b:BatM) [hf:Fo l tb t A r] [hb:FocR r b.x 4 (b.rs.flatMap zy)] (hs:Sat w l) :
  Ret P F.a9 #[.pointer (some ⟨t,0,none⟩),.agg (zn b).toArray] w λvs w'=>vs=[.agg (zff (z1s A b).1).toArray,.int .i64 (z1s A b).2]/\Sat w' (tb t A::r) :=
 zs2 _ b.base b.pid b.epoch b.seq b.kind b.time b.x <| by
  delta z04q AF AJ AL AM AZ Aa Ab Ac Af Ah Ai Aj Ao Aq Ar As Aw B0 Bl Bx By;unfold z1s
  have hs:Sat w (tb t A::r):=hs.perm hf.perm
  have hok:=zz5 hs
  refine zt hs λa0 w' hs=>?_
  refine zq hs λa1 w' hs=>?_
  refine z07 ?_ (by simp)
  refine zj hs ?_
  refine z8 (z8y b hs) λ_ _ hs=>?_
  obtain ⟨rfl,hs⟩:=hs
  refine zb ?_
  refine wp_lt ?_
  refine za hs ?_
  refine ze (λh=>?_) λh=>?_
  ·rw [if_pos h]
   refine zr hs λw' hs=>?_
   refine wp_lt ?_
   refine zj hs ?_
   exact ⟨rfl,rfl,hs.sub⟩
  rw [if_neg h]
  have hv:z04 b=0:=Decidable.not_not.1 λe=>h (.inl e)
  obtain ⟨hs1,hs2,hnum,hfit,hnx⟩:=z0z b hv
  have hl64:b.rs.length<=64:=by
   unfold zo at hs2
   split at hs2
   ·have:=hfit.2
    rename_i hm
    rw [if_pos hm] at this;omega
   ·omega
  refine za hs ?_
  refine z8 (zw3 b.pid hs) λ_ _ hs=>?_
  obtain ⟨rfl,hs⟩:=hs
  refine zb ?_
  obtain ⟨hr1,hr2,hr3,hr4,hr5,hr6,hr7⟩:=zh7 hok b.pid
  generalize z0s A b.pid=x at *
  refine zq hs λa26 w' hs=>?_
  refine zr hs λw' hs=>?_
  refine wp_lt ?_
  refine za hs ?_
  refine za hs ?_
  refine ze (λh=>?_) λh=>?_
  ·rw [if_pos h]
   refine zj hs ?_
   refine z8 (zhb b hs) λ_ _ hs=>?_
   obtain ⟨rfl,hs⟩:=hs
   refine zb ?_
   refine ze (λh=>?_) λh=>?_
   ·rw [if_pos h]
    refine zr hs λw' hs=>?_
    refine zj hs ?_
    exact ⟨rfl,rfl,hs.sub⟩
   ·rw [if_neg h]
    refine zr hs λw' hs=>?_
    refine zj hs ?_
    exact ⟨rfl,rfl,hs.sub⟩
  rw [if_neg h]
  refine zj hs ?_
  refine z8 (zhb b hs) λ_ _ hs=>?_
  obtain ⟨rfl,hs⟩:=hs
  refine zb ?_
  have hs:Sat _ (tb t A::pt a26 (.cells #[.int .i64 x.pid,.int .i64 x.epoch,.int .i64 x.seq,.int .i64 x.count,.int .i64 x.base,.int .i64 x.frm,.int .i64 x.time] T.a4)::pt a1 (.cells #[.bool false,.int .i64 0] T.a6) ::
   pt a0 (.cells #[.int .i64 b.base,.int .i64 b.pid,.int .i64 b.epoch,.int .i64 b.seq,.int .i64 b.kind,.int .i64 b.time,.slice b.x.a b.x.len b.x.cap] T.a0)::r):=hs.sub
  refine zf (λ_ w'=>¬ (z00 b=false/\(z83 x b).2=true)/\Sat w' (tb t A::pt a26 (.cells #[.int .i64 x.pid,.int .i64 x.epoch,.int .i64 x.seq,.int .i64 x.count,.int .i64 x.base,.int .i64 x.frm,.int .i64 x.time] T.a4)::pt a1 (.cells #[.bool false,.int .i64 0] T.a6) ::
   pt a0 (.cells #[.int .i64 b.base,.int .i64 b.pid,.int .i64 b.epoch,.int .i64 b.seq,.int .i64 b.kind,.int .i64 b.time,.slice b.x.a b.x.len b.x.cap] T.a0)::r)) ?_ ?_
  ·refine ze (λh=>?_) λh=>?_
   ·refine zj hs ?_
    refine zj hs ?_
    refine z8 (zya x b ⟨by omega,by omega⟩ hnum.2.2.2.2.1 hl64 hs) λ_ _ hs=>?_
    obtain ⟨rfl,hs⟩:=hs
    refine zb ?_
    refine zq hs λa67 w' hs=>?_
    refine zr hs λw' hs=>?_
    refine wp_lt ?_
    refine ze (λh2=>?_) λh2=>?_
    ·rw [if_pos ⟨by simpa using h,h2⟩]
     refine zj hs ?_
     refine zr hs λw' hs=>?_
     refine zj hs ?_
     refine zh ?_
     exact ⟨rfl,rfl,hs.sub⟩
    ·exact zg ⟨λe=>h2 e.2,hs.sub⟩
   ·exact zg ⟨λe=>h (by rw [e.1];simp),hs⟩
  clear hs
  rintro _ w ⟨hno,hs⟩
  refine zl ?_
  rw [if_neg hno]
  refine zj hs ?_
  refine zj hs ?_
  refine z8 (zyd x (z5e A b.pid).isSome b ⟨by omega,by omega⟩ hs) λ_ _ hs=>?_
  obtain ⟨rfl,hs⟩:=hs
  refine zb ?_
  refine zr hs λw' hs=>?_
  refine wp_lt ?_
  refine zj hs ?_
  exact ⟨rfl,rfl,hs.sub⟩
end
def z8k (A:TabA) (b:BatM):Int:=match z5e A b.pid with
 | none=>b.time
 | some r=>if r.time>b.time then r.time else b.time
def z6j (A:TabA) (b:BatM):Int:=if b.kind=1/\(z0s A b.pid).frm<0 then b.base else (z0s A b.pid).frm
def z44 (A:TabA) (b:BatM):RowA:=if z00 b then ⟨b.pid,b.epoch+1,0,0,0,-1,z8k A b⟩ else ⟨b.pid,b.epoch,b.seq,b.rs.length,b.base,z6j A b,z8k A b⟩
def z7d (pid:Int) (rs:List RowA):List RowA:=rs.filter λr=>!decide (r.pid=pid)
def z8f (x:RowA) (rs:List RowA):List RowA:=rs.filter (λr=>decide (r.pid<x.pid))++x::rs.filter (λr=>decide (x.pid<r.pid))
def z5b (A:TabA) (b:BatM):TabA:=⟨A.most,b.base+zo b,if b.pid=0 then A.rows else z8f (z44 A b) A.rows⟩
def zjd (A:TabA) (b:BatM):Int × TabA :=
 if (z1s A b).2≠0 then ((z1s A b).2,A) else if (z1s A b).1.again then (4,A) else if b.base<A.next then (8,A) else (0,z5b A b)
theorem zky (x:RowA) (rs:List RowA):(z8f x rs).Perm (x::z7d x.pid rs):=by
 unfold z8f z7d
 refine List.perm_middle.trans (.cons _ ?_)
 have h:=List.filter_append_perm (λr:RowA=>decide (r.pid<x.pid)) (rs.filter λr=>!decide (r.pid=x.pid))
 rw [List.filter_filter,List.filter_filter] at h
 have e1:rs.filter (λr=>decide (r.pid<x.pid))=rs.filter (λr=>decide (r.pid<x.pid) && !decide (r.pid=x.pid)):=List.filter_congr λr _=>by
  rw [Bool.eq_iff_iff];simp;omega
 have e2:rs.filter (λr=>decide (x.pid<r.pid))=rs.filter (λr=>!decide (r.pid<x.pid) && !decide (r.pid=x.pid)):=List.filter_congr λr _=>by
  rw [Bool.eq_iff_iff];simp;omega
 rw [e1,e2];exact h
theorem zrh {x:RowA} {rs:List RowA} (h:rs.Pairwise λa b=>a.pid<b.pid):(z8f x rs).Pairwise λa b=>a.pid<b.pid:=by
 unfold z8f
 rw [List.pairwise_append,List.pairwise_cons]
 refine ⟨h.filter _,⟨λr hr=>?_,h.filter _⟩,λa ha c hc=>?_⟩
 ·simpa using (List.mem_filter.1 hr).2
 ·have h1:a.pid<x.pid:=by simpa using (List.mem_filter.1 ha).2
  rcases List.mem_cons.1 hc with rfl|hc
  ·exact h1
  ·have h2:x.pid<c.pid:=by simpa using (List.mem_filter.1 hc).2
   omega
theorem zcw {pid:Int} {rs:List RowA} (h:∀ r ∈ rs,r.pid≠pid):z7d pid rs=rs:=List.filter_eq_self.2 λr hr=>by simp [h r hr]
theorem z9y {x:RowA}:∀ {rs:List RowA},x ∈ rs->(rs.Pairwise λa b=>a.pid<b.pid)->rs.Perm (x::z7d x.pid rs)
 | y::rs,hx,h=>by
  rw [List.pairwise_cons] at h
  unfold z7d
  rw [List.filter_cons]
  rcases List.mem_cons.1 hx with rfl|hx
  ·rw [if_neg (by simp)]
   have:=zcw (pid:=x.pid) (rs:=rs) (λr hr=>by have:=h.1 r hr;omega)
   unfold z7d at this
   rw [this]
  ·have h1:=h.1 x hx
   rw [if_pos (by simp;omega)]
   exact ((z9y hx h.2).cons y).trans (.swap _ _ _)
theorem zrb {a b:List RowA} (h:a.Perm b):(z8m a).Perm (z8m b):=h.filter _
theorem zez {a b:List RowA} (h:a.Perm b) (ha:(z8m a).Pairwise λx y=>x.frm≠y.frm):(z8m b).Pairwise λx y=>x.frm≠y.frm :=
 (List.Perm.pairwise_iff (λ{x y} h=>Ne.symm h) (zrb h)).1 ha
theorem zdu {A:TabA} {b:BatM} (h1:(z1s A b).2=0) (h2:(z1s A b).1.again=false):z04 b=0/\(b.pid≠0->(z0s A b.pid).epoch<=b.epoch/\¬ (z00 b=false/\(z83 (z0s A b.pid) b).2=true)/\zam A (z0s A b.pid) (z5e A b.pid).isSome b=0):=by
 unfold z1s at h1 h2
 split at h1
 ·rename_i h
  rw [if_pos h] at h2
  refine ⟨h1,λhp=>absurd h (λh=>h.elim (λh=>h h1) hp)⟩
 rename_i h
 rw [if_neg h] at h2
 have hv:z04 b=0:=Decidable.not_not.1 λe=>h (.inl e)
 refine ⟨hv,λhp=>?_⟩
 split at h1
 ·rename_i h3
  rw [if_pos h3] at h2
  split at h1
  ·rename_i h4;rw [if_pos h4] at h2;cases h2
  ·cases h1
 rename_i h3
 rw [if_neg h3] at h2
 split at h1
 ·rename_i h4
  rw [if_pos h4] at h2
  obtain ⟨-,h4⟩:=h4
  unfold z83 at h2 h4
  split at h4
  ·cases h4
  ·rename_i h5
   rw [if_neg h5] at h2
   split at h2 <;> cases h2
 ·rename_i h4
  exact ⟨by omega,h4,h1⟩
theorem zqx {A:TabA} {x:RowA} {there:Bool} {b:BatM} (h:zam A x there b=0):¬ (0<=x.frm/\(b.epoch>x.epoch\/b.kind=0))/\¬ (z00 b=false/\b.seq≠(if b.epoch>x.epoch then 0 else x.seq+x.count))/\(there=false->(A.rows.length:Int)<A.most):=by
 unfold zam at h
 by_cases h1:0<=x.frm/\(b.epoch>x.epoch\/b.kind=0)
 ·rw [if_pos h1] at h;cases h
 rw [if_neg h1] at h
 by_cases h2:z00 b=false/\b.seq≠(if b.epoch>x.epoch then 0 else x.seq+x.count)
 ·rw [if_pos h2] at h;cases h
 rw [if_neg h2] at h
 by_cases h3:there=false/\(A.rows.length:Int)>=A.most
 ·rw [if_pos h3] at h;cases h
 exact ⟨h1,h2,λe=>by rcases Int.lt_or_le (A.rows.length:Int) A.most with h|h;exact h;exact absurd ⟨e,h⟩ h3⟩
theorem zl4 (A:TabA) (b:BatM):(z44 A b).pid=b.pid:=by unfold z44;split <;> rfl
theorem z01m {A:TabA} (hok:okTb A) {b:BatM} (hb:0<=b.time/\b.time<=1099511627776):0<=z8k A b/\z8k A b<=1099511627776:=by
 unfold z8k
 split
 ·exact hb
 ·rename_i r hr
  have:=(hok.row r (z2n hr).1).time
  split <;> omega
theorem z01q {A:TabA} {b:BatM} (hok:okTb A) (h1:(z1s A b).2=0) (h2:(z1s A b).1.again=false) (h3:A.next<=b.base):okTb (z5b A b):=by
 obtain ⟨hv,hj⟩:=zdu h1 h2
 obtain ⟨hs1,hs2,hnum,hfit,hnx⟩:=z0z b hv
 have hn0:=hok.next
 by_cases hp0:b.pid=0
 ·have e:z5b A b=⟨A.most,b.base+zo b,A.rows⟩:=by unfold z5b;rw [if_pos hp0]
  rw [e]
  exact ⟨hok.most,⟨by show 0<=b.base+zo b;omega,by show b.base+zo b<=_;omega⟩,hok.many,λr hr=>by
   have h:=hok.row r hr
   exact ⟨h.pid,h.epoch,h.time,h.count,h.seq,h.base,h.frm,h.none_,λhc=>by have:=h.some_ hc;show _/\_/\_<=b.base+zo b/\_;omega⟩,hok.byPid,hok.apart⟩
 obtain ⟨hje,-,hfr⟩:=hj hp0
 obtain ⟨hf1,hf2,hf3⟩:=zqx hfr
 have e:z5b A b=⟨A.most,b.base+zo b,z8f (z44 A b) A.rows⟩:=by unfold z5b;rw [if_neg hp0]
 have hpp:=zky (z44 A b) A.rows
 rw [zl4] at hpp
 obtain ⟨hnk,hnb,hnp,hne,hns,hnt⟩:=hnum
 have hlate:=z01m hok hnt
 have hF:=zh7 hok b.pid
 have hfrm:(z0s A b.pid).frm<A.next:=by
  unfold z0s
  cases h:z5e A b.pid with
  | none=>show (-1:Int)<_;omega
  | some y =>
   have hy:=hok.row y (z2n h).1
   show y.frm<A.next
   rcases Int.lt_or_le 0 y.count with hc|hc
   ·have:=hy.some_ hc;omega
   ·have:=hy.none_ (by have:=hy.count;omega);omega
 have hokN:okRw (z44 A b) (b.base+zo b):=by
  unfold z44
  by_cases hm:z00 b=true
  ·rw [if_pos hm]
   exact ⟨by show 1<=b.pid/\b.pid<=_;omega,by show 0<=b.epoch+1/\b.epoch+1<=_;omega,hlate,by show (0:Int)<=0/\(0:Int)<=64;omega,Int.le_refl _,Int.le_refl _,Int.le_refl _,λ_=>⟨rfl,rfl,rfl⟩,λh=>absurd h (by show ¬ (0:Int)<0;omega)⟩
  ·rw [if_neg hm]
   have hm:z00 b=false:=by simpa using hm
   have hlen:zo b=b.rs.length:=by unfold zo;rw [hm];rfl
   have hseq:b.seq+b.rs.length<=2147483648:=by
    unfold z04 at hv
    split at hv
    ·cases hv
    split at hv
    ·cases hv
    split at hv
    ·rename_i h;exact absurd hv h
    split at hv
    ·cases hv
    ·rename_i h
     rcases Int.lt_or_le 2147483647 (b.seq+(zo b-1)) with h9|h9
     ·exact absurd (.inr ⟨by omega,hm,by omega⟩) h
     ·omega
   have hfrm2 : -1<=z6j A b/\z6j A b<=b.base:=by
    unfold z6j
    split
    ·omega
    ·omega
   exact ⟨by show 1<=b.pid/\b.pid<=_;omega,by show 0<=b.epoch/\b.epoch<=_;omega,hlate,by show (0:Int)<=b.rs.length/\(b.rs.length:Int)<=64;omega,hns.1,hnb.1,hfrm2.1,λh=>absurd h (by show ¬ (b.rs.length:Int)=0;omega),λ_=>by
    show b.epoch<=_/\b.seq+(b.rs.length:Int)<=_/\b.base+(b.rs.length:Int)<=b.base+zo b/\z6j A b<=b.base
    omega⟩
 have hrest:z7d b.pid A.rows ⊆ A.rows:=λr hr=>(List.mem_filter.1 hr).1
 rw [e]
 refine ⟨hok.most,⟨by show 0<=b.base+zo b;omega,by show b.base+zo b<=_;omega⟩,?_,λr hr=>?_,zrh hok.byPid,?_⟩
 ·show ((z8f (z44 A b) A.rows).length:Int)<=A.most
  rw [hpp.length_eq,List.length_cons]
  cases h:z5e A b.pid with
  | none =>
   have:=hf3 (by rw [h];rfl)
   rw [zcw (zcx h)];omega
  | some y =>
   have h4:=(z9y (z2n h).1 hok.byPid).length_eq
   rw [(z2n h).2,List.length_cons] at h4
   have:=hok.many
   omega
 ·have hr:r ∈ z8f (z44 A b) A.rows:=hr
  rcases List.mem_cons.1 (hpp.mem_iff.1 hr) with rfl|hr
  ·exact hokN
  ·have h:=hok.row r (hrest hr)
   exact ⟨h.pid,h.epoch,h.time,h.count,h.seq,h.base,h.frm,h.none_,λhc=>by have:=h.some_ hc;show _/\_/\_<=b.base+zo b/\_;omega⟩
 ·refine zez hpp.symm ?_
  have hsub:(z8m (z7d b.pid A.rows)).Pairwise λx y=>x.frm≠y.frm:=hok.apart.sublist ((List.filter_sublist).filter _)
  unfold z8m
  rw [List.filter_cons]
  split
  rotate_left
  ·exact hsub
  rename_i hop
  have hop:0<=(z44 A b).frm:=by simpa using hop
  rw [List.pairwise_cons]
  refine ⟨λy hy=>?_,hsub⟩
  have hy1:=List.mem_filter.1 hy
  have hy2:0<=y.frm:=by simpa using hy1.2
  have hyr:=hok.row y (hrest hy1.1)
  have hm:¬ z00 b=true:=λhm=>by unfold z44 at hop;rw [if_pos hm] at hop;exact absurd hop (by show ¬ (0:Int) <= -1;omega)
  unfold z44
  rw [if_neg hm]
  show z6j A b≠y.frm
  have hylt:y.frm<A.next:=by
   rcases Int.lt_or_le 0 y.count with hc|hc
   ·have:=hyr.some_ hc;omega
   ·have:=hyr.none_ (by have:=hyr.count;omega);omega
  unfold z6j
  split
  ·omega
  ·rename_i hk
   cases h:z5e A b.pid with
   | none =>
    have:(z0s A b.pid).frm = -1:=by unfold z0s;rw [h];rfl
    omega
   | some z =>
    have hz:z0s A b.pid=z:=by unfold z0s;rw [h];rfl
    rw [hz] at *
    by_cases hzo:0<=z.frm
    ·have h5:=zez (z9y (z2n h).1 hok.byPid) hok.apart
     rw [(z2n h).2] at h5
     unfold z8m at h5
     rw [List.filter_cons,if_pos (by simpa using hzo),List.pairwise_cons] at h5
     exact h5.1 y hy
    ·omega
theorem z03j {A:TabA} (hok:okTb A) (pid:Int):(∃ v0,(z3c A.rows).Perm ((pid,v0)::z3c (z7d pid A.rows)))\/((∀ v,(pid,v) ∉ z3c A.rows)/\z3c (z7d pid A.rows)=z3c A.rows):=by
 rcases zim A pid with ⟨y,hy,-⟩|⟨hn,hno⟩
 ·left
  refine ⟨y,?_⟩
  have h:=(z9y (z2n hy).1 hok.byPid).map λr:RowA=>(r.pid,r)
  rw [(z2n hy).2,List.map_cons,(z2n hy).2] at h
  exact h
 ·right
  exact ⟨hno,by rw [zcw (zcx hn)]⟩
theorem z01k (x:RowA) (rs:List RowA):((x.pid,x)::z3c (z7d x.pid rs)).Perm (z3c (z8f x rs)):=((zky x rs).map λr:RowA=>(r.pid,r)).symm
theorem zxb {A:TabA} {n:Int} (hok:okTb A) (h1:A.next<=n) (h2:n<=1099511627777):okTb ⟨A.most,n,A.rows⟩ :=
 ⟨hok.most,⟨by have:=hok.next;show 0<=n;omega,h2⟩,hok.many,λr hr=>by
  have h:=hok.row r hr
  exact ⟨h.pid,h.epoch,h.time,h.count,h.seq,h.base,h.frm,h.none_,λhc=>by have:=h.some_ hc;show _/\_/\_<=n/\_;omega⟩,hok.byPid,hok.apart⟩
section
variable {w:World} {l r r1 r2 l':List HP} {t:Nat} {A:TabA}
theorem z02k (b:BatM) [hf:Fo l tb t A r] [hb:FocR r b.x 4 (b.rs.flatMap zy)] (hs:Sat w l) :
  Ret P F.a11 #[.pointer (some ⟨t,0,none⟩),.agg (zn b).toArray] w λvs w'=>vs=[.int .i64 (zjd A b).1]/\Sat w' (tb t (zjd A b).2::r) :=
 zs3 _ b.base b.pid b.epoch b.seq b.kind b.time b.x <| by
  delta z04r AA AB AD AF AG AJ AL AM AS AT AZ Aa Ab Ac Af Ah Ai Aj Am Ao Aq As Au Aw Ay B0 B1 Ba Bk Bl Bv By;unfold zjd
  have hs:Sat w (tb t A::r):=hs.perm hf.perm
  have hok:=zz5 hs
  refine zt hs λa0 w' hs=>?_
  refine zj hs ?_
  refine z8 (zeu b hs) λ_ _ hs=>?_
  obtain ⟨rfl,hs⟩:=hs
  refine zb ?_
  have hnx:=z01q (b:=b) hok
  have hjf:=zdu (A:=A) (b:=b)
  generalize hje:z1s A b=j at *
  obtain ⟨v,e⟩:=j
  refine zq hs λa11 w' hs=>?_
  refine zr hs λw' hs=>?_
  refine wp_lt ?_
  refine wp_lt ?_
  refine ze (λh=>?_) λh=>?_
  ·rw [if_pos h]
   refine wp_lt ?_
   exact ⟨rfl,rfl,hs.sub⟩
  have he:e=0:=Decidable.not_not.1 h
  subst he
  rw [if_neg (by simp)]
  refine za hs ?_
  refine wp_lt ?_
  refine ze (λh=>?_) λh=>?_
  ·rw [if_pos h]
   exact ⟨rfl,rfl,hs.sub⟩
  rw [if_neg h]
  have hag:v.again=false:=by simpa using h
  refine z02 hs λw' hs=>?_
  refine za hs ?_
  refine zk ?_
  have hs:Sat w' (tb t A::pt a11 (.cells #[.bool v.again,.int .i64 v.base] T.a6)::pt a0 (.cells #[.int .i64 b.base,.int .i64 b.pid,.int .i64 b.epoch,.int .i64 b.seq,.int .i64 b.kind,.int .i64 b.time,.slice b.x.a b.x.len b.x.cap] T.a0)::r):=hs.sub
  obtain ⟨m,-,hs⟩:=zav hs
  refine za hs ?_
  refine wp_lt ?_
  refine zd ?_
  refine ze (λh=>?_) λh=>?_
  ·rw [if_pos h]
   exact ⟨rfl,rfl,z3g m hok hs⟩
  rw [if_neg h]
  have hok':=hnx rfl hag (by omega)
  obtain ⟨hv,hj⟩:=hjf rfl hag
  obtain ⟨hs1,hs2,hnum,hfit,hn2⟩:=z0z b hv
  have hne:=hnum.2.2.2.1
  refine zj hs ?_
  refine z8 (z8w b hs) λ_ _ hs=>?_
  obtain ⟨rfl,hs⟩:=hs
  refine zb ?_
  have hnb:z1k b=b.base+zo b:=by unfold z1k;rw [if_neg (by rw [hv];simp)]
  rw [hnb]
  refine zk ?_
  refine z08 hs λw' hs=>?_
  refine za hs ?_
  have hok1:okTb ⟨A.most,b.base+zo b,A.rows⟩:=zxb hok (by omega) hn2
  refine ze (λh0=>?_) λh0=>?_
  ·refine ⟨rfl,rfl,?_⟩
   have e:z5b A b=⟨A.most,b.base+zo b,A.rows⟩:=by unfold z5b;rw [if_pos h0]
   show Sat _ (tb t (z5b A b)::r)
   rw [e]
   exact z3g m hok1 hs
  have e:z5b A b=⟨A.most,b.base+zo b,z8f (z44 A b) A.rows⟩:=by unfold z5b;rw [if_neg h0]
  show _
  refine za hs ?_
  have hs:Sat _ (tb t ⟨A.most,b.base+zo b,A.rows⟩::pt a11 (.cells #[.bool v.again,.int .i64 v.base] T.a6)::pt a0 (.cells #[.int .i64 b.base,.int .i64 b.pid,.int .i64 b.epoch,.int .i64 b.seq,.int .i64 b.kind,.int .i64 b.time,.slice b.x.a b.x.len b.x.cap] T.a0)::r):=z3g m hok1 hs
  refine z8 (zw3 b.pid hs) λ_ _ hs=>?_
  obtain ⟨rfl,hs⟩:=hs
  refine zb ?_
  have eF:z0s ⟨A.most,b.base+zo b,A.rows⟩ b.pid=z0s A b.pid:=rfl
  have eO:z5e ⟨A.most,b.base+zo b,A.rows⟩ b.pid=z5e A b.pid:=rfl
  rw [eF,eO]
  have hFok:=zh7 hok b.pid
  have hkeys:=z03j hok b.pid
  have hkp:=z01k (z44 A b) A.rows
  rw [zl4] at hkp
  refine zq hs λa42 w' hs=>?_
  refine zr hs λw' hs=>?_
  refine wp_lt ?_
  refine za hs ?_
  refine wp_lt ?_
  have hs:Sat _ (tb t ⟨A.most,b.base+zo b,A.rows⟩::pt a42 (.cells #[.int .i64 (z0s A b.pid).pid,.int .i64 (z0s A b.pid).epoch,.int .i64 (z0s A b.pid).seq,.int .i64 (z0s A b.pid).count,.int .i64 (z0s A b.pid).base,.int .i64 (z0s A b.pid).frm,.int .i64 (z0s A b.pid).time] T.a4) ::
   pt a0 (.cells #[.int .i64 b.base,.int .i64 b.pid,.int .i64 b.epoch,.int .i64 b.seq,.int .i64 b.kind,.int .i64 b.time,.slice b.x.a b.x.len b.x.cap] T.a0)::r):=hs.sub
  refine zf (λv w'=>v=(z8k A b,())/\Sat w' (tb t ⟨A.most,b.base+zo b,A.rows⟩::pt a42 (.cells #[.int .i64 (z0s A b.pid).pid,.int .i64 (z0s A b.pid).epoch,.int .i64 (z0s A b.pid).seq,.int .i64 (z0s A b.pid).count,.int .i64 (z0s A b.pid).base,.int .i64 (z0s A b.pid).frm,.int .i64 (z0s A b.pid).time] T.a4) ::
   pt a0 (.cells #[.int .i64 b.base,.int .i64 b.pid,.int .i64 b.epoch,.int .i64 b.seq,.int .i64 b.kind,.int .i64 b.time,.slice b.x.a b.x.len b.x.cap] T.a0)::r)) ?_ ?_
  ·unfold z8k z0s at *
   cases ho:z5e A b.pid with
   | none =>
    rw [ho] at hs
    refine z07 ?_ (by simp)
    exact zg ⟨rfl,hs⟩
   | some y =>
    rw [ho] at hs
    refine z10 ?_ (by simp)
    refine za hs ?_
    refine wp_lt ?_
    exact zg ⟨rfl,hs⟩
  clear hs
  rintro _ w ⟨rfl,hs⟩
  refine zl ?_
  refine za hs ?_
  obtain ⟨m,-,hs⟩:=zav hs
  have hfin:∀ {w:World},Sat w (tb t (z5b A b)::r)->0=0/\([.int .i64 0]:List Value)=[.int .i64 0]/\Sat w (tb t (z5b A b)::r):=λh=>⟨rfl,rfl,h⟩
  refine zf (λ_ w'=>Sat w' (tb t (z5b A b)::r)) ?_ (by rintro _ w' hs;refine zl ?_;exact ⟨rfl,rfl,hs⟩)
  refine zf (λ_ w'=>z00 b=false/\Sat w' (pt t (.cells #[.int .i64 A.most,.int .i64 (b.base+zo b),.map (some m)] T.a5)::z1e ekI evW m (z3c A.rows)::pt a42 (.cells #[.int .i64 (z0s A b.pid).pid,.int .i64 (z0s A b.pid).epoch,.int .i64 (z0s A b.pid).seq,.int .i64 (z0s A b.pid).count,.int .i64 (z0s A b.pid).base,.int .i64 (z6j A b),.int .i64 (z0s A b.pid).time] T.a4) ::
   pt a0 (.cells #[.int .i64 b.base,.int .i64 b.pid,.int .i64 b.epoch,.int .i64 b.seq,.int .i64 b.kind,.int .i64 b.time,.slice b.x.a b.x.len b.x.cap] T.a0)::r)) ?_ ?_
  ·refine wp_lt ?_
   refine zf (λv w'=>v=(z00 b,())/\Sat w' (pt t (.cells #[.int .i64 A.most,.int .i64 (b.base+zo b),.map (some m)] T.a5)::z1e ekI evW m (z3c A.rows)::pt a42 (.cells #[.int .i64 (z0s A b.pid).pid,.int .i64 (z0s A b.pid).epoch,.int .i64 (z0s A b.pid).seq,.int .i64 (z0s A b.pid).count,.int .i64 (z0s A b.pid).base,.int .i64 (z0s A b.pid).frm,.int .i64 (z0s A b.pid).time] T.a4) ::
    pt a0 (.cells #[.int .i64 b.base,.int .i64 b.pid,.int .i64 b.epoch,.int .i64 b.seq,.int .i64 b.kind,.int .i64 b.time,.slice b.x.a b.x.len b.x.cap] T.a0)::r)) ?_ ?_
   ·refine ze (λh=>?_) λh=>?_
    ·exact zg ⟨by unfold z00;rw [show (b.kind == 2)=true by simpa using h,decide_eq_true (by simpa using h)];rfl,hs⟩
    ·refine wp_lt ?_
     exact zg ⟨by unfold z00;rw [decide_eq_false (p:=b.kind=2) (by simpa using h)];rfl,hs⟩
   clear hs
   rintro _ w ⟨rfl,hs⟩
   refine zl ?_
   refine ze (λhm=>?_) λhm=>?_
   ·refine z02 hs λw' hs=>?_
    refine zk ?_
    refine za hs ?_
    refine za hs ?_
    refine za hs ?_
    refine za hs ?_
    have eN:z44 A b=⟨b.pid,b.epoch+1,0,0,0,-1,z8k A b⟩:=by unfold z44;rw [if_pos hm]
    rw [w64 (x:=b.epoch+1) (by omega) (by omega)]
    refine zax hs _ hkeys (z44 A b) (λw' hs=>?_) (by rw [eN])
    refine zd ?_
    refine zh (zh ?_)
    exact ⟨rfl,rfl,by show Sat _ (tb t (z5b A b)::r);exact e ▸ z3g m (A:=⟨A.most,b.base+zo b,z8f (z44 A b) A.rows⟩) (e ▸ hok') hs hkp⟩
   have hm:z00 b=false:=by simpa using hm
   refine wp_lt ?_
   refine ze (λh=>?_) λh=>?_
   ·refine zj hs ?_
    refine z8 (zps (z0s A b.pid) hs) λ_ _ hs=>?_
    obtain ⟨rfl,hs⟩:=hs
    refine zb ?_
    refine zf (λ_ w'=>Sat w' (pt t (.cells #[.int .i64 A.most,.int .i64 (b.base+zo b),.map (some m)] T.a5)::z1e ekI evW m (z3c A.rows)::pt a42 (.cells #[.int .i64 (z0s A b.pid).pid,.int .i64 (z0s A b.pid).epoch,.int .i64 (z0s A b.pid).seq,.int .i64 (z0s A b.pid).count,.int .i64 (z0s A b.pid).base,.int .i64 (z6j A b),.int .i64 (z0s A b.pid).time] T.a4) ::
     pt a0 (.cells #[.int .i64 b.base,.int .i64 b.pid,.int .i64 b.epoch,.int .i64 b.seq,.int .i64 b.kind,.int .i64 b.time,.slice b.x.a b.x.len b.x.cap] T.a0)::r)) ?_ (by rintro _ w' hs;refine zl ?_;exact zg ⟨hm,hs⟩)
    refine ze (λh2=>?_) λh2=>?_
    ·refine za hs ?_
     refine z08 hs λw' hs=>?_
     refine zg ?_
     have:z6j A b=b.base:=by unfold z6j;rw [if_pos ⟨h,by simpa using h2⟩]
     rw [this];exact hs.sub
    ·refine zg ?_
     have:z6j A b=(z0s A b.pid).frm:=by unfold z6j;rw [if_neg (λh3=>h2 (by simpa using h3.2))]
     rw [this];exact hs
   ·refine zg ⟨hm,?_⟩
    have:z6j A b=(z0s A b.pid).frm:=by unfold z6j;rw [if_neg (λh3=>h h3.1)]
    rw [this];exact hs
  clear hs
  rintro _ w ⟨hm,hs⟩
  refine zl ?_
  have hl:=hs.slen b.x (xs:=b.rs) (enc:=zy)
  refine z02 hs λw' hs=>?_
  refine zk ?_
  refine za hs ?_
  refine za hs ?_
  refine za hs ?_
  refine za hs ?_
  refine za hs ?_
  refine za hs ?_
  refine za hs ?_
  refine za hs ?_
  have eN:z44 A b=⟨b.pid,b.epoch,b.seq,b.rs.length,b.base,z6j A b,z8k A b⟩:=by unfold z44;rw [if_neg (by rw [hm];simp)]
  refine zax hs _ hkeys (z44 A b) (λw' hs=>?_) (by rw [eN,hl])
  refine zd ?_
  refine zg ?_
  exact e ▸ z3g m (A:=⟨A.most,b.base+zo b,z8f (z44 A b) A.rows⟩) (e ▸ hok') hs hkp
end
abbrev ekK (k:Int × Int):Value:=.agg #[.int .i64 k.1,.int .i64 k.2]
theorem z015 (a b:Int × Int) (w:World):(Op.equal T.a16 (ekK a) (ekK b)).run P w=.ok (a.1 == b.1 && a.2 == b.2) w :=
 zjy 10000 (t:=T.a16) (x:=ekK a) (y:=ekK b) (by kernel_rfl) w
theorem zhm {P:Program} {t:TypeId} {q k:IntKind} (hu:P.underlying t=some (.int q)) (e:Bool) (n:Nat) (v:Int) (w:World):(Instr.checkKey e (n+1) t (.int k v)).run P w=.ok () w:=by
 simp [Instr.checkKey,run_underlying hu]
theorem zqg {P:Program} {t:TypeId} {f0 f1:Field} {q0 q1 k0 k1:IntKind} (hu:P.underlying t=some (.struct #[f0,f1])) (h0:P.underlying f0.type=some (.int q0)) (h1:P.underlying f1.type=some (.int q1)) (o0:f0.offset=0) (o1:f1.offset=1)
  (n0 : ¬ f0.name = "_") (n1 : ¬ f1.name = "_") (e : Bool) (n : Nat) (a b : Int) (w : World) : (Instr.checkKey e (n + 2) t (.agg #[.int k0 a, .int k1 b])).run P w = .ok () w := by
 have p0:(part f0.type #[Value.int k0 a,.int k1 b] f0.offset).run P w=.ok (.int k0 a) w:=run_part_plain w (by simp [Program.plainKey,h0]) (by rw [o0];rfl)
 have p1:(part f1.type #[Value.int k0 a,.int k1 b] f1.offset).run P w=.ok (.int k1 b) w:=run_part_plain w (by simp [Program.plainKey,h1]) (by rw [o1];rfl)
 have c0:=zhm (k:=k0) h0 e n a w
 have c1:=zhm (k:=k1) h1 e n b w
 rw [show n+2=(n+1)+1 from rfl,Instr.checkKey]
 simp only [Sem.run_bind,run_underlying hu,Result.andThen_ok]
 rw [<- Array.forIn_toList]
 simp only [List.forIn_cons,List.forIn_nil,Sem.run_bind,n0,n1,ne_eq,not_false_eq_true,if_true,Result.andThen_ok,p0,p1,c0,c1,Sem.run_pure]
theorem zu8 (e:Bool) (k:Int × Int) (w:World):(Instr.checkKey e 10000 T.a16 (ekK k)).run P w=.ok () w :=
 zqg (P:=P) (q0:=.i64) (q1:=.i64) Go.Proofs.Tryz.underlying207 (by kernel_rfl) (by kernel_rfl) rfl rfl (by decide) (by decide) e 9998 k.1 k.2 w
theorem zhw (k:Int × Int) (w:World):∀ (es:List MapEntry) (i:Nat),(∀ e ∈ es,∃ k',e.key=ekK k') ->
  (∃ (j:Nat) (e:MapEntry),es[j]? = some e/\e.key=ekK k/\(Instr.findAsking T.a16 (ekK k) es i).run P w=.ok (some (i+j,e.val)) w) \/
  ((∀ e ∈ es,e.key≠ekK k)/\(Instr.findAsking T.a16 (ekK k) es i).run P w=.ok none w)
 | [],i,_=>.inr ⟨by simp,by simp [Instr.findAsking,Sem.run_pure]⟩
 | e::es,i,h=>by
  obtain ⟨k',hk'⟩:=h e (List.mem_cons_self ..)
  have hrun:(Instr.findAsking T.a16 (ekK k) (e::es) i).run P w=(if (k.1 == k'.1 && k.2 == k'.2)=true then (pure (some (i,e.val)):Sem (Option (Nat × Value))) else Instr.findAsking T.a16 (ekK k) es (i+1)).run P w:=by
   rw [Instr.findAsking]
   simp only [Sem.run_bind,hk',z015,Result.andThen_ok]
  by_cases hk:k=k'
  ·subst hk
   refine .inl ⟨0,e,rfl,hk',?_⟩
   rw [hrun,if_pos (by simp)];rfl
  ·have hne:¬ (k.1 == k'.1 && k.2 == k'.2)=true:=λh2=>hk (by
    simp only [Bool.and_eq_true,beq_iff_eq] at h2
    exact Prod.ext h2.1 h2.2)
   rcases zhw k w es (i+1) (λe he=>h e (List.mem_cons_of_mem _ he)) with ⟨j,e',h1,h2,h3⟩|⟨h1,h2⟩
   ·exact .inl ⟨j+1,e',h1,h2,by rw [hrun,if_neg hne,h3,Nat.add_assoc,Nat.add_comm 1 j]⟩
   ·refine .inr ⟨λe' he'=>?_,by rw [hrun,if_neg hne,h2]⟩
    rcases List.mem_cons.1 he' with rfl|he'
    ·rw [hk']
     intro h4
     injection h4 with h4
     simp at h4
     exact hk (Prod.ext h4.1.symm h4.2.symm)
    ·exact h1 e' he'
instance:KeyT P T.a16 ekK where
 inj a b h:=by
  injection h with h4
  simp at h4
  exact Prod.ext h4.1 h4.2
 same a:=by
  show (_ && _)=true
  simp [Instr.sameBits]
 check:=zu8
 find es k w h:=by
  have e:=run_findKey_eq (P:=P) w (k:=T.a16) (by kernel_rfl) (ekK k) es
  rcases zhw k w es 0 h with ⟨j,e',h1,h2,h3⟩|⟨h1,h2⟩
  ·exact .inl ⟨j,e',h1,h2,by rw [e,h3,Nat.zero_add]⟩
  ·exact .inr ⟨h1,by rw [e,h2]⟩
instance:KeyT P T.a13 ekI:=zkd (by kernel_rfl)
instance IsK.key {a b:Int}:IsK ekK (.agg #[.int .i64 a,.int .i64 b]) (a,b):=⟨rfl⟩
instance:MapT P T.a19 T.a13 (.agg #[.int .i64 0,.int .i64 0,.int .i64 0,.int .i64 0]):=⟨T.a17,by kernel_rfl,by kernel_rfl⟩
instance:MapT P T.a20 T.a16 (.agg #[.int .i64 0,.int .i64 0,.int .i64 0,.int .i64 0]):=⟨T.a17,by kernel_rfl,by kernel_rfl⟩
end Go.Dec
