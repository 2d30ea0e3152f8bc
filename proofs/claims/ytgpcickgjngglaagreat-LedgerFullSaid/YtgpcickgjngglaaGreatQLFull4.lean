/- What the claim of this folder leans on: our own texts, joined, without what it does not use. -/
import Derived.Test.YtgpcickgjngglaaGreatRows
import Derived.WalkKit
import Derived.ProofKit
import Derived.OpenShut
import Derived.RowKit3
import Derived.OrdersHeld
import Derived.Scope
import Derived.KernelRfl
import Derived.Laws.Sem
import Derived.Laws.StructEq
import Derived.Deep.AppendSrc
import Derived.Laws.BytesArg
import Derived.Laws.RangeString
import Derived.Maps.RangeRun
import Derived.Lib.ConvBytes
import Derived.Lib.SlBytesConst
import Derived.ChangeSlices
import Derived.ChangeMaps5
import Derived.ChangeSame
import Derived.Deep.Slices
import Derived.Deep.Fields
import Derived.Test.YtgpcickgjngglaaGreatProg
import Derived.Laws.MakeOwn
import Derived.WideKeyRuns
import Derived.DeepKeys3
import Derived.Sort.MapsRangeIn
import Derived.Sort.KeysCollected
import Derived.RangeFuncNested
import Derived.RangeFuncBound
import Derived.RangeFuncCalls
import Derived.RangeFuncLeaves
import Derived.RangeFuncBox
import Derived.OwnWalkIn
import Derived.TacticsInMore
import Derived.RegionIn
import Derived.LoopNIn
import Derived.LoopIn
import Derived.Maps.AppendAt
import Derived.Shelf.Abstract
import Derived.Shelf.Sort.Plain
import Derived.Shelf.Slices.In.SortNone
import Derived.Lib.AppendZerosOnto
import Derived.Lib.Overlaps
import Derived.Test.YtgpcickgjngglaaGreatQLFull1
import Derived.Test.YtgpcickgjngglaaGreatQLFull2
import Derived.Test.YtgpcickgjngglaaGreatQLFull3
set_option linter.unusedVariables false
set_option linter.unusedSimpArgs false
namespace Go.Dec
def z08j (room:Int):Prog :=
Ag (decide (room<0) || decide (room>4194304)) (
Ai 0 [Al none,Aa 2])<|
.act (Instr.makeMap T.a23 none) sM (u1 λm0=>
Am T.a8 (.agg #[Aa (-1),.bool false,Aa room,Aa 0,.map m0]) λa1=>
Ai 0 [AB a1,Aa 0])
theorem zuh (room:Int):FnS (z08j room) F.a41 #[.int .i64 room]:=dV ⟨[],[],[],[]⟩ Go.Proofs.Tryz.func12 (by kernel_rfl)
def z08d (d:Option Addr) (name:ByteArray):Prog :=
.call F.a37 [Al d,.string name] (sG [.slc,.int .i64]) (u2 λl0 (n1:Int)=>
Ae (Ao l0) λn2=>
Ai 0 [Aa n2])
theorem zub (d:Option Addr) (name:ByteArray):FnS (z08d d name) F.a35 #[.pointer d,.string name]:=dV ⟨[],[],[],[]⟩ Go.Proofs.Tryz.func120 (by kernel_rfl)
def z08c (d:Option Addr) (name:ByteArray):Prog :=
Az F.a39 [Al d] λn0=>
Ae n0 λn1=>
Ag (n1 != 0) (
Ae n1 λn2=>
Ai 0 [Aa n2])<|
AQ d λa4=>
B7 T.a23 a4 4 λm5=>
BI (Instr.lookup T.a23 (.map m5) (.string name) false) λp6=>
Ag (Option.isNone p6) (
Ai 0 [Aa 3])<|
Bi F.a38 [Al d,.string name]<|
AQ d λa8=>
Bi F.a42 [BJ a8 0]<|
Ai 0 [Aa 0]
theorem zua (d:Option Addr) (name:ByteArray):FnS (z08c d name) F.a34 #[.pointer d,.string name]:=dV ⟨[],[],[],[]⟩ Go.Proofs.Tryz.func123 (by kernel_rfl)
def z00y (x:Int):Prog :=
Az F.a84 [.int .u64 x] λn0=>
Ae n0 λn1=>
Ai 0 [Aa n1]
theorem zhn (x:Int):FnS (z00y x) F.a83 #[.int .u64 x]:=dV ⟨[],[],[],[]⟩ Go.Proofs.Tryz.func166 (by kernel_rfl)
def z08a (d:Option Addr):Prog :=
Bl (Option.isNone d=false) d λa1=>
AZ (Option.isNone d=false) T.a3 (Addr.add a1 0) 1 λb2=>
Ay (Option.isNone d || b2) λb3=>
Ai 0 [.bool b3]
theorem zu8 (d:Option Addr):FnS (z08a d) F.a31 #[.pointer d]:=dV ⟨[],[],[],[]⟩ Go.Proofs.Tryz.func171 (by kernel_rfl)
def z08f (d:Option Addr) (name:ByteArray):Prog :=
Ab T.a9 λa0=>
Bl (Option.isNone d=false) d λa2=>
BF (Option.isNone d=false) T.a23 a2 4 λm3=>
.read (Option.isNone d=false) (Instr.lookup T.a23 (.map m3) (.string name) false) sP (u1 λp4=>
Ag (Option.isNone d || Option.isNone p4) (
Ac T.a9 a0 (.agg #[.slice none 0 0,Aa 0])<|
BK T.a9 a0 λl5 n6=>
Ai 0 [BL l5 n6])<|
AQ d λa8=>
B7 T.a23 a8 4 λm9=>
BI (Instr.lookup T.a23 (.map m9) (.string name) false) λp10=>
AQ p10 λa12=>
BK T.a9 a12 λl13 n14=>
Ac T.a9 a0 (BL l13 n14)<|
BK T.a9 a0 λl15 n16=>
Ai 0 [BL l15 n16])
theorem zud (d:Option Addr) (name:ByteArray):FnS (z08f d name) F.a37 #[.pointer d,.string name]:=dV ⟨[],[],[],[]⟩ Go.Proofs.Tryz.func177 (by kernel_rfl)
def z08b (d:Option Addr) (name:ByteArray):Prog :=
Ag (Option.isNone d) (
Ai 0 [.slice none 0 0,Aa 1])<|
AQ d λa1=>
B7 T.a23 a1 4 λm2=>
BI (Instr.lookup T.a23 (.map m2) (.string name) false) λp3=>
Ag (Option.isNone p3) (
Ai 0 [.slice none 0 0,Aa 3])<|
AQ p3 λa5=>
AJ T.a45 a5 0 λl6=>
AV F.a0 [l6.v] λl7=>
Ai 0 [l7.v,Aa 0]
theorem zu9 (d:Option Addr) (name:ByteArray):FnS (z08b d name) F.a33 #[.pointer d,.string name]:=dV ⟨[],[],[],[]⟩ Go.Proofs.Tryz.func178 (by kernel_rfl)
def z08h (d:Option Addr):Prog :=
AT (Option.isNone d) (
Ai 0 [Aa 1])<|
AQ d λa2=>
Bq T.a3 (Addr.add a2 0) 1 λb3=>
AT b3 (
Ai 0 [Aa 9])<|
Ai 0 [Aa 0]
theorem zuf (d:Option Addr):FnS (z08h d) F.a39 #[.pointer d]:=dV ⟨[],[],[],[]⟩ Go.Proofs.Tryz.func179 (by kernel_rfl)
def z08g (d:Option Addr) (name:ByteArray):Prog :=
AQ d λa1=>
B7 T.a23 a1 4 λm2=>
BI (Instr.lookup T.a23 (.map m2) (.string name) false) λp3=>
AC 1 (
Ag (not (Option.isNone p3)) (
AD<|
AQ d λa5=>
Ar T.a13 a5 3 λn6=>
AQ p3 λa8=>
AJ T.a45 a8 0 λl9=>
AQ d λa11=>
AI T.a13 a11 3 (Aa (Ah (n6-(Ao l9))))<|
AH<|
AQ d λa13=>
B7 T.a23 a13 4 λm14=>
BA (Builtin.delete_ #[T.a23,T.a50] T.a54 #[.map m14,.string name])<|
Ai 1 [])<|
Ai 1 [])<|
Ai 0 []
theorem zue (d:Option Addr) (name:ByteArray):FnS (z08g d name) F.a38 #[.pointer d,.string name]:=dV ⟨[(4398012956684,[])],[],[],[]⟩ Go.Proofs.Tryz.func180 (by kernel_rfl)
def z08k (p:Option Addr):Prog :=
AQ p λa1=>
Ar T.a13 a1 0 λn2=>
AC 1 (
Ag (decide (n2>0)) (
AQ p λa4=>
Ar T.a13 a4 0 λn5=>
AQ p λa7=>
AI T.a13 a7 0 (Aa (Ah (n5-1)))<|
AQ p λa9=>
Ar T.a13 a9 0 λn10=>
AQ p λa12=>
AI T.a3 a12 1 (.bool (n10 == 0))<|
Ai 1 [])<|
Ai 1 [])<|
Ai 0 []
theorem zui (p:Option Addr):FnS (z08k p) F.a42 #[.pointer p]:=dV ⟨[(17179344902,[])],[],[],[]⟩ Go.Proofs.Tryz.func181 (by kernel_rfl)
def z02v (n:Int) (f:Value):Prog :=
Ae n λn0=>
Af 1 (
Be 2 (0,(n0,())) λn1 n2=>
Ag (decide (n1<n2)) (
Ae (Ah (Int.fdiv (IntKind.wrap .u64 (Ah (n1+n2))) 2)) λn3=>
.callv (f) [Aa n3] sB (u1 λb4=>
AR 3 (
Ag (not b4) (
Ae (Ah (n3+1)) λn5=>
Ai 3 [Aa n5,Aa n2])<|
Ae n3 λn6=>
Ai 3 [Aa n1,Aa n6]) λn7 n8=>
Ai 2 [Aa n7,Aa n8]))<|
Ai 1 [Aa n1]) λn9=>
Ae n9 λn10=>
Ai 0 [Aa n10]
theorem zp7 (n:Int) (f:Value) {w:World} {R:List Value->World->Prop} (h:(z02v n f).wp P (λ_=>True) w λe vs w'=>e=0/\R vs w'):Ret P F.a180 #[.int .i64 n,f] w R:=dS (n:=26) (rv:=[.tmp 4]) { cnd:=[(120259477525,[(5,.one (.int .i64)),(6,.one (.int .i64))])],blk:=[(0,[(5,.one (.int .i64))])],reg:=[],lps:=[(0,[(5,.one (.int .i64)),(6,.one (.int .i64))])] } [.val (.int .i64 n),.any f] Go.Proofs.Tryz.func194 (by kernel_rfl) (by kernel_rfl) (by kernel_rfl) (by kernel_rfl) h
def z087 (d:Option Addr) (name:ByteArray) (parts:Sl):Prog :=
Az F.a39 [Al d] λn0=>
Ae n0 λn1=>
Ag (n1 != 0) (
Ae n1 λn2=>
Ai 0 [Aa n2])<|
Aw F.a40 [.string name] λb3=>
Ag (not b3) (
Ai 0 [Aa 2])<|
Af 1 (
Be 2 (0,(0,())) λn4 n5=>
Ag (decide (n5<(Ao parts))) (
.ex [.adr] (c1 λa6=>0<=n5/\n5<(Ao parts)/\parts.a=some a6) (u1 λa7=>
AJ T.a45 a7 (Int.toNat n5*1) λl8=>
Az F.a30 [Al d] λn9=>
Ag (decide ((Ao l8)>Ah (n9-n4))) (
Ai 0 [Aa 5])<|
Ae (Ah (n4+(Ao l8))) λn10=>
Ai 2 [Aa n10,Aa (Ah (n5+1))]))<|
Ai 1 [Aa n4]) λn11=>
AQ d λa13=>
B7 T.a23 a13 4 λm14=>
.read True (Instr.lookup T.a23 (.map m14) (.string name) true) (.tup [.one .ptr,.one .bool]) (u2 λp15 b16=>
Ay b16 λb17=>
An 1 (
Ag (not b17) (
AQ d λa19=>
B7 T.a23 a19 4 λm20=>
.read True (Builtin.len_ #[T.a23] T.a13 #[.map m20]) (sI .i64) (u1 λ(n21:Int)=>
Ag (decide (n21>=128)) (
Ai 0 [Aa 5])<|
Am T.a9 (.agg #[.slice none 0 0,Aa 0]) λa22=>
AQ d λa24=>
B7 T.a23 a24 4 λm25=>
B9 (Instr.mapUpdate T.a23 (.map m25) (.string name) (AB a22))<|
Ai 1 [AB a22]))<|
Ai 1 [Al p15]) λp26=>
AC 1 (
AU 2 (0,()) λn27=>
Ag (decide (n27<(Ao parts))) (
.ex [.adr] (c1 λa28=>0<=n27/\n27<(Ao parts)/\parts.a=some a28) (u1 λa29=>
AJ T.a45 a29 (Int.toNat n27*1) λl30=>
AQ p26 λa32=>
AJ T.a45 a32 0 λl33=>
AP (app T.a45 T.a45 T.a45 l33.v l30.v) λl34=>
AQ p26 λa36=>
AI T.a45 a36 0 l34.v<|
Ai 2 [Aa (Ah (n27+1))]))<|
Ai 1 [])<|
AQ d λa38=>
Ar T.a13 a38 3 λn39=>
AQ d λa41=>
AI T.a13 a41 3 (Aa (Ah (n39+n11)))<|
AQ d λa43=>
Bi F.a42 [BJ a43 0]<|
Ai 0 [Aa 0])
theorem zu5 (d:Option Addr) (name:ByteArray) (parts:Sl):FnS (z087 d name parts) F.a28 #[.pointer d,.string name,.slice parts.a parts.len parts.cap]:=dV ⟨[(604426016319167176900660,[(11,.one .ptr)])],[(0,[(8,.one (.int .i64))]),(2,[])],[],[(0,[(8,.one (.int .i64)),(26,.one (.int .i64))]),(2,[(69,.one (.int .i64))])]⟩ Go.Proofs.Tryz.func219 (by kernel_rfl)
def z08e (d:Option Addr) (names:Sl):Prog :=
Az F.a39 [Al d] λn0=>
Ae n0 λn1=>
Ag (n1 != 0) (
Ae n1 λn2=>
Ai 0 [Aa n2])<|
AC 1 (
AU 2 (0,()) λn3=>
Ag (decide (n3<(Ao names))) (
.ex [.adr] (c1 λa4=>0<=n3/\n3<(Ao names)/\names.a=some a4) (u1 λa5=>
AE T.a50 a5 (Int.toNat n3*1) λs6=>
AW s6 λs7=>
AQ d λa9=>
B7 T.a23 a9 4 λm10=>
BI (Instr.lookup T.a23 (.map m10) (.string s7) false) λp11=>
Ag (Option.isNone p11) (
Ai 0 [Aa 3])<|
Ai 2 [Aa (Ah (n3+1))]))<|
Ai 1 [])<|
AK 1 (
Ag ((Ao names) == 0) (
AV F.a32 [Al d,.string (ByteArray.mk #[])] λl12=>
Ai 1 [l12.v])<|
Ai 1 [names.v]) λl13=>
AC 1 (
AU 2 (0,()) λn14=>
Ag (decide (n14<(Ao l13))) (
.ex [.adr] (c1 λa15=>0<=n14/\n14<(Ao l13)/\l13.a=some a15) (u1 λa16=>
AE T.a50 a16 (Int.toNat n14*1) λs17=>
AW s17 λs18=>
AQ d λa20=>
B7 T.a23 a20 4 λm21=>
BI (Instr.lookup T.a23 (.map m21) (.string s18) false) λp22=>
AQ p22 λa24=>
AJ T.a45 a24 0 λl25=>
AQ p22 λa27=>
AI T.a13 a27 1 (Aa (Ao l25))<|
Ai 2 [Aa (Ah (n14+1))]))<|
Ai 1 [])<|
AQ d λa29=>
Bi F.a42 [BJ a29 0]<|
Ai 0 [Aa 0]
theorem zuc (d:Option Addr) (names:Sl):FnS (z08e d names) F.a36 #[.pointer d,.slice names.a names.len names.cap]:=dV ⟨[(105553116274720,[(1,.one .slc)])],[(0,[]),(2,[])],[],[(0,[(18,.one (.int .i64))]),(2,[(37,.one (.int .i64))])]⟩ Go.Proofs.Tryz.func220 (by kernel_rfl)
def z00z (x:Int):Prog :=
BM 1 (
Ag (decide (x>=4294967296)) (
Bv (Int.fdiv x 4294967296) λn0=>
Ai 1 [.int .u64 n0,Aa 32])<|
Ai 1 [.int .u64 x,Aa 0]) λn1 n2=>
BM 1 (
Ag (decide (n1>=65536)) (
Bv (Int.fdiv n1 65536) λn3=>
Ae (Ah (n2+16)) λn4=>
Ai 1 [.int .u64 n3,Aa n4])<|
Ai 1 [.int .u64 n1,Aa n2]) λn5 n6=>
BM 1 (
Ag (decide (n5>=256)) (
Bv (Int.fdiv n5 256) λn7=>
Ae (Ah (n6+8)) λn8=>
Ai 1 [.int .u64 n7,Aa n8])<|
Ai 1 [.int .u64 n5,Aa n6]) λn9 n10=>
.must (0<=IntKind.wrap .u8 n9/\IntKind.wrap .u8 n9<256) <|
Ae (Ah (n10+Ah (bt (ByteArray.mk #[0,1,2,2,3,3,3,3,4,4,4,4,4,4,4,4,5,5,5,5,5,5,5,5,5,5,5,5,5,5,5,5,6,6,6,6,6,6,6,6,6,6,6,6,6,6,6,6,6,6,6,6,6,6,6,6,6,6,6,6,6,6,6,6,7,7,7,7,7,7,7,7,7,7,7,7,7,7,7,7,7,7,7,7,7,7,7,7,7,7,7,7,7,7,7,7,7,7,7,7,7,7,7,7,7,7,7,7,7,7,7,7,7,7,7,7,7,7,7,7,7,7,7,7,7,7,7,7,8,8,8,8,8,8,8,8,8,8,8,8,8,8,8,8,8,8,8,8,8,8,8,8,8,8,8,8,8,8,8,8,8,8,8,8,8,8,8,8,8,8,8,8,8,8,8,8,8,8,8,8,8,8,8,8,8,8,8,8,8,8,8,8,8,8,8,8,8,8,8,8,8,8,8,8,8,8,8,8,8,8,8,8,8,8,8,8,8,8,8,8,8,8,8,8,8,8,8,8,8,8,8,8,8,8,8,8,8,8,8,8,8,8,8,8,8,8,8,8,8,8,8,8,8,8,8,8]) (IntKind.wrap .u8 n9)))) λn11=>
Ai 0 [Aa n11]
theorem zho (x:Int):FnS (z00z x) F.a84 #[.int .u64 x]:=dV ⟨[(413700,[(0,.one (.int .u64)),(2,.one (.int .i64))]),(31477768,[(0,.one (.int .u64)),(2,.one (.int .i64))]),(2013286414,[(0,.one (.int .u64)),(2,.one (.int .i64))])],[],[],[]⟩ Go.Proofs.Tryz.func239 (by kernel_rfl)
def z088 (d:Option Addr) (name:ByteArray) (n:Int):Prog :=
Az F.a39 [Al d] λn0=>
Ae n0 λn1=>
Ag (n1 != 0) (
Ae n1 λn2=>
Ai 0 [Aa n2])<|
AQ d λa4=>
B7 T.a23 a4 4 λm5=>
BI (Instr.lookup T.a23 (.map m5) (.string name) false) λp6=>
AT (Option.isNone p6) (
Ai 0 [Aa 3])<|
Bl (decide (n<0)=false) p6 λa9=>
B3 (decide (n<0)=false) T.a45 a9 0 λl10=>
AT (decide (n<0) || decide (n>(Ao l10))) (
Ai 0 [Aa 2])<|
AD<|
AQ d λa13=>
Ar T.a13 a13 3 λn14=>
AQ p6 λa16=>
AJ T.a45 a16 0 λl17=>
AQ d λa19=>
AI T.a13 a19 3 (Aa (Ah (n14-Ah ((Ao l17)-n))))<|
AH<|
AQ p6 λa21=>
AJ T.a45 a21 0 λl22=>
.must (0<=n/\n<=n/\n<=((l22.cap:Nat):Int)) <|
AQ p6 λa24=>
AI T.a45 a24 0 (.slice l22.a (Int.toNat n) (Int.toNat n))<|
AQ p6 λa26=>
Ar T.a13 a26 1 λn27=>
AQ p6 λa29=>
AI T.a13 a29 1 (Aa (if n<n27 then n else n27))<|
AQ d λa31=>
Bi F.a42 [BJ a31 0]<|
Ai 0 [Aa 0]
theorem zu6 (d:Option Addr) (name:ByteArray) (n:Int):FnS (z088 d name n) F.a29 #[.pointer d,.string name,.int .i64 n]:=dV ⟨[],[],[],[]⟩ Go.Proofs.Tryz.func251 (by kernel_rfl)
def z02s (x:Sl) (cmp:Value):Prog :=
Ae (Ao x) λn0=>
Az F.a83 [.int .u64 (IntKind.wrap .u64 n0)] λn1=>
Bi F.a171 [x.v,Aa 0,Aa n0,Aa n1,cmp]<|
Ai 0 []
theorem zp4 (x:Sl) (cmp:Value) {w:World} {R:List Value->World->Prop} (h:(z02s x cmp).wp P (λ_=>True) w λe vs w'=>e=0/\R vs w'):Ret P F.a148 #[.slice x.a x.len x.cap,cmp] w R:=dS (n:=14) (rv:=[]) { cnd:=[],blk:=[],reg:=[],lps:=[] } [.val (.slice x.a x.len x.cap),.any cmp] Go.Proofs.Tryz.func266 (by kernel_rfl) (by kernel_rfl) (by kernel_rfl) (by kernel_rfl) h
def zf1 (x:Int) (y:Int):Prog :=
Aw F.a3 [Aa x] λb0=>
Ay b0 λb1=>
Aw F.a3 [Aa y] λb2=>
Ay b2 λb3=>
Ag b1 (
Ag b3 (
Ai 0 [Aa 0])<|
Ai 0 [Aa (-1)])<|
Ag b3 (
Ai 0 [Aa 1])<|
Ag (decide (x<y)) (
Ai 0 [Aa (-1)])<|
Ag (decide (x>y)) (
Ai 0 [Aa 1])<|
Ai 0 [Aa 0]
theorem zy1 (x y:Int):FnS (zf1 x y) F.a1 #[.int .i64 x,.int .i64 y]:=dV ⟨[],[],[],[]⟩ Go.Proofs.Tryz.func268 (by kernel_rfl)
def z0b9 (s:Sl) (r:Int):Prog :=
Bi F.a175 [s.v,Aa (Ah ((Ao s)-r))]<|
Ai 0 []
def z08i (s:ByteArray):Prog :=
Ag (decide (((ByteArray.size s:Nat):Int)<1) || decide (((ByteArray.size s:Nat):Int)>24)) (
Ai 0 [.bool false])<|
AP (convert T.a50 T.a45 (.string s)) λl0=>
AC 1 (
AU 2 (0,()) λn1=>
Ag (decide (n1<(Ao l0))) (
.ex [.adr] (c1 λa2=>0<=n1/\n1<(Ao l0)/\l0.a=some a2) (u1 λa3=>
BN T.a53 a3 (Int.toNat n1*1) λn4=>
BO n4 λn5=>
Ay (decide (n5>=97) && decide (n5<=122)) λb6=>
Ay (decide (n5>=48) && decide (n5<=57)) λb7=>
Ag (not b6 && not b7 && n5 != 46 && n5 != 45) (
Ai 0 [.bool false])<|
Ai 2 [Aa (Ah (n1+1))]))<|
Ai 1 [])<|
Ai 0 [.bool true]
theorem zug (s:ByteArray):FnS (z08i s) F.a40 #[.string s]:=dV ⟨[],[(0,[])],[],[(0,[(18,.one (.int .i64))])]⟩ Go.Proofs.Tryz.func281 (by kernel_rfl)
def z089 (d:Option Addr):Prog :=
Ag (Option.isNone d) (
Ai 0 [Aa 0])<|
AD<|
AQ d λa1=>
Ar T.a13 a1 2 λn2=>
AQ d λa4=>
Ar T.a13 a4 3 λn5=>
Ae (if 0>Ah (n2-n5) then 0 else Ah (n2-n5)) λn6=>
AH<|
Ai 0 [Aa n6]
theorem zu7 (d:Option Addr):FnS (z089 d) F.a30 #[.pointer d]:=dV ⟨[],[],[],[]⟩ Go.Proofs.Tryz.func282 (by kernel_rfl)
def z0aw (length:Int):Prog :=
Az F.a83 [.int .u64 (IntKind.wrap .u64 length)] λn0=>
.must (0<=n0) <|
Bv (IntKind.wrap .u64 (1*2 ^ min (Int.toNat n0) 64)) λn1=>
Ai 0 [.int .u64 n1]
def z0bc (r:Option Addr):Prog :=
AD<|
AQ r λa1=>
BQ T.a49 a1 λn2=>
AQ r λa4=>
BQ T.a49 a4 λn5=>
AQ r λa7=>
Ac T.a49 a7 (.int .u64 (IntKind.wrap .u64 (((BitVec.toNat (BitVec.ofInt 64 n2 ^^^ BitVec.ofInt 64 (IntKind.wrap .u64 (n5*8192))):Nat):Int))))<|
AH<|
AD<|
AQ r λa9=>
BQ T.a49 a9 λn10=>
AQ r λa12=>
BQ T.a49 a12 λn13=>
AQ r λa15=>
Ac T.a49 a15 (.int .u64 (IntKind.wrap .u64 (((BitVec.toNat (BitVec.ofInt 64 n10 ^^^ BitVec.ofInt 64 (Int.fdiv n13 128)):Nat):Int))))<|
AH<|
AD<|
AQ r λa17=>
BQ T.a49 a17 λn18=>
AQ r λa20=>
BQ T.a49 a20 λn21=>
AQ r λa23=>
Ac T.a49 a23 (.int .u64 (IntKind.wrap .u64 (((BitVec.toNat (BitVec.ofInt 64 n18 ^^^ BitVec.ofInt 64 (IntKind.wrap .u64 (n21*131072))):Nat):Int))))<|
AH<|
AQ r λa25=>
BQ T.a49 a25 λn26=>
Bv n26 λn27=>
Ai 0 [.int .u64 n27]
def zf85 (m:Option Nat):Prog :=
Am T.a23 (.map m) λa0=>
Ai 0 [.func (Fn.func 324) #[] #[AB a0]]
theorem zf85_calls (m:Option Nat):FnS (zf85 m) F.a82 #[.map m]:=dV ⟨[],[],[],[]⟩ Go.Proofs.Tryz.func292 (by kernel_rfl)
def zf189 (s:ByteArray) (prefix_:ByteArray):Prog :=
Aw F.a56 [.string s,.string prefix_] λb0=>
Ay b0 λb1=>
Ai 0 [.bool b1]
theorem zf189_calls (s prefix_:ByteArray):FnS (zf189 s prefix_) F.a181 #[.string s,.string prefix_]:=dV ⟨[],[],[],[]⟩ Go.Proofs.Tryz.func293 (by kernel_rfl)
def z0ak (x:Sl):Prog :=
Ae (Ao x) λn0=>
Az F.a83 [.int .u64 (IntKind.wrap .u64 n0)] λn1=>
Bi F.a172 [x.v,Aa 0,Aa n0,Aa n1]<|
Ai 0 []
def z02u (data:Sl) (a b limit:Int) (cmp:Value):Prog :=
.loop 1 [.one (.int .i64),.one (.int .i64),.one (.int .i64),.one .bool,.one .bool] (a,(b,(limit,(true,(true,()))))) (u5 λ(n0 n1 n2:Int) b3 b4=>
.bind 2 [.one (.int .i64),.one (.int .i64),.one (.int .i64),.one .bool,.one .bool] (
Ae (Ah (n1-n0)) λn5=>
Ag (decide (n5<=12)) (
Bi F.a156 [data.v,Aa n0,Aa n1,cmp]<|
Ai 0 [])<|
Ag (n2 == 0) (
Bi F.a154 [data.v,Aa n0,Aa n1,cmp]<|
Ai 0 [])<|
Af 3 (
Ag (not b3) (
Bi F.a150 [data.v,Aa n0,Aa n1,cmp]<|
Ae (Ah (n2-1)) λn6=>
Ai 3 [Aa n6])<|
Ai 3 [Aa n2]) λn7=>
Av F.a152 [data.v,Aa n0,Aa n1,cmp] λn8 n9=>
Ae n8 λn10=>
Ae n9 λn11=>
AR 3 (
Ag (n11 == 2) (
Bi F.a173 [data.v,Aa n0,Aa n1,cmp]<|
Ae (Ah (Ah (n1-1)-Ah (n10-n0))) λn12=>
Ai 3 [Aa n12,Aa 1])<|
Ai 3 [Aa n10,Aa n11]) λn13 n14=>
AC 3 (
Ag (b3 && b4 && n14 == 1) (
Aw F.a165 [data.v,Aa n0,Aa n1,cmp] λb15=>
Ag b15 (
Ai 0 [])<|
Ai 3 [])<|
Ai 3 [])<|
Ax 3 (
AD<|
.ex [.adr] (c1 λa16=>decide (n0>0)=true->0<=Ah (n0-1)/\Ah (n0-1)<(Ao data)/\data.a=some a16) (u1 λa17=>
BR (decide (n0>0)=true) T.a15 a17 (Int.toNat (Ah (n0-1))*4) λn18 n19 n20 n21=>
.ex [.adr] (c1 λa22=>decide (n0>0)=true->0<=n13/\n13<(Ao data)/\data.a=some a22) (u1 λa23=>
BR (decide (n0>0)=true) T.a15 a23 (Int.toNat n13*4) λn24 n25 n26 n27=>
Ag (decide (n0>0)) (
BS cmp [Bz n18 n19 n20 n21,Bz n24 n25 n26 n27] λn28=>
AH<|
Ai 3 [.bool (not (decide (n28<0)))])<|
AH<|
Ai 3 [.bool false]))) λb29=>
Ag b29 (
Az F.a168 [data.v,Aa n0,Aa n1,Aa n13,cmp] λn30=>
Ae n30 λn31=>
Ae n31 λn32=>
Ai 2 [Aa n32,Aa n1,Aa n7,.bool b3,.bool b4])<|
Br F.a167 [data.v,Aa n0,Aa n1,Aa n13,cmp] λn33 b34=>
Ae n33 λn35=>
Ay b34 λb36=>
Ay b36 λb37=>
Ae (Ah (n35-n0)) λn38=>
Ae (Ah (n1-n35)) λn39=>
Ae (Ah (Int.tdiv n5 8)) λn40=>
.bind 3 [.one (.int .i64),.one (.int .i64),.one .bool] (
Ag (decide (n38<n39)) (
Ay (decide (n38>=n40)) λb41=>
Bi F.a171 [data.v,Aa n0,Aa n35,Aa n7,cmp]<|
Ae (Ah (n35+1)) λn42=>
Ai 3 [Aa n42,Aa n1,.bool b41])<|
Ay (decide (n39>=n40)) λb43=>
Bi F.a171 [data.v,Aa (Ah (n35+1)),Aa n1,Aa n7,cmp]<|
Ae n35 λn44=>
Ai 3 [Aa n0,Aa n44,.bool b43]) (u3 λ(n45 n46:Int) b47=>
Ai 2 [Aa n45,Aa n46,Aa n7,.bool b47,.bool b37])) (u5 λ(n48 n49 n50:Int) b51 b52=>
Ai 1 [Aa n48,Aa n49,Aa n50,.bool b51,.bool b52]))
theorem zp6 (data:Sl) (a b limit:Int) (cmp:Value) {w:World} {R:List Value->World->Prop} (h:(z02u data a b limit cmp).wp P (λ_=>True) w λe vs w'=>e=0/\R vs w'):Ret P F.a171 #[.slice data.a data.len data.cap,.int .i64 a,.int .i64 b,.int .i64 limit,cmp] w R:=dS (n:=148) (rv:=[]) { cnd:=[(571957152676085799,[(3,.one (.int .i64))]),(1208335523804270569717816,[(13,.one (.int .i64)),(14,.one (.int .i64))]),(9594035304461697130468212811,[]),(1461501288881759191162698246220685009525288231037,[(1,.one (.int .i64)),(2,.one (.int .i64)),(10,.one .bool)])],blk:=[(1,[(1,.one (.int .i64)),(2,.one (.int .i64)),(3,.one (.int .i64)),(10,.one .bool),(11,.one .bool)])],reg:=[(17,[(97,.one .bool)])],lps:=[(0,[(1,.one (.int .i64)),(2,.one (.int .i64)),(3,.one (.int .i64)),(10,.one .bool),(11,.one .bool)])] } [.val (.slice data.a data.len data.cap),.val (.int .i64 a),.val (.int .i64 b),.val (.int .i64 limit),.any cmp] Go.Proofs.Tryz.func312 (by kernel_rfl) (by kernel_rfl) (by kernel_rfl) (by kernel_rfl) h
def zf3 (x:Int):Prog :=
Ay (x != x) λb0=>
Ai 0 [.bool b0]
theorem zy2 (x:Int):FnS (zf3 x) F.a3 #[.int .i64 x]:=dV ⟨[],[],[],[]⟩ Go.Proofs.Tryz.func313 (by kernel_rfl)
def z0b8 (s:Sl) (r:Int):Prog :=
.must (0<=r/\r<=((s.cap:Nat):Int)) <|
Bi F.a147 [.slice s.a (Int.toNat r) s.cap]<|
.must (0<=r/\r<=(Ao s)) <|
Bi F.a147 [.slice (z0v s.a 5 (Int.toNat r) s.cap) (s.len-Int.toNat r) (s.cap-Int.toNat r)]<|
Bi F.a147 [s.v]<|
Ai 0 []
def zf57 (s:ByteArray) (prefix_:ByteArray):Prog :=
.must (decide (((ByteArray.size s:Nat):Int)>=((ByteArray.size prefix_:Nat):Int))=true->0<=((ByteArray.size prefix_:Nat):Int)/\((ByteArray.size prefix_:Nat):Int)<=((ByteArray.size s:Nat):Int)) <|
Ay (decide (((ByteArray.size s:Nat):Int)>=((ByteArray.size prefix_:Nat):Int)) && ByteArray.toList (ByteArray.extract s 0 (Int.toNat (((ByteArray.size prefix_:Nat):Int)))) == ByteArray.toList prefix_) λb0=>
Ai 0 [.bool b0]
theorem zf57_calls (s prefix_:ByteArray):FnS (zf57 s prefix_) F.a56 #[.string s,.string prefix_]:=dV ⟨[],[],[],[]⟩ Go.Proofs.Tryz.func325 (by kernel_rfl)
def z0b5 (data:Sl) (a b:Int) (limit:Int):Prog :=
.loop 1 [.one (.int .i64),.one (.int .i64),.one (.int .i64),.one .bool,.one .bool] (a,(b,(limit,(true,(true,()))))) (u5 λ(n0 n1 n2:Int) b3 b4=>
.bind 2 [.one (.int .i64),.one (.int .i64),.one (.int .i64),.one .bool,.one .bool] (
Ae (Ah (n1-n0)) λn5=>
Ag (decide (n5<=12)) (
Bi F.a157 [data.v,Aa n0,Aa n1]<|
Ai 0 [])<|
Ag (n2 == 0) (
Bi F.a155 [data.v,Aa n0,Aa n1]<|
Ai 0 [])<|
Af 3 (
Ag (not b3) (
Bi F.a151 [data.v,Aa n0,Aa n1]<|
Ae (Ah (n2-1)) λn6=>
Ai 3 [Aa n6])<|
Ai 3 [Aa n2]) λn7=>
Av F.a153 [data.v,Aa n0,Aa n1] λn8 n9=>
Ae n8 λn10=>
Ae n9 λn11=>
AR 3 (
Ag (n11 == 2) (
Bi F.a174 [data.v,Aa n0,Aa n1]<|
Ae (Ah (Ah (n1-1)-Ah (n10-n0))) λn12=>
Ai 3 [Aa n12,Aa 1])<|
Ai 3 [Aa n10,Aa n11]) λn13 n14=>
AC 3 (
Ag (b3 && b4 && n14 == 1) (
Aw F.a166 [data.v,Aa n0,Aa n1] λb15=>
Ag b15 (
Ai 0 [])<|
Ai 3 [])<|
Ai 3 [])<|
Ax 3 (
AD<|
.ex [.adr] (c1 λa16=>decide (n0>0)=true->0<=Ah (n0-1)/\Ah (n0-1)<(Ao data)/\data.a=some a16) (u1 λa17=>
AY (decide (n0>0)=true) T.a50 a17 (Int.toNat (Ah (n0-1))*1) λs18=>
.ex [.adr] (c1 λa19=>decide (n0>0)=true->0<=n13/\n13<(Ao data)/\data.a=some a19) (u1 λa20=>
AY (decide (n0>0)=true) T.a50 a20 (Int.toNat n13*1) λs21=>
Ag (decide (n0>0)) (
Aw F.a2 [.string s18,.string s21] λb22=>
AH<|
Ai 3 [.bool (not b22)])<|
AH<|
Ai 3 [.bool false]))) λb23=>
Ag b23 (
Az F.a169 [data.v,Aa n0,Aa n1,Aa n13] λn24=>
Ae n24 λn25=>
Ae n25 λn26=>
Ai 2 [Aa n26,Aa n1,Aa n7,.bool b3,.bool b4])<|
Br F.a170 [data.v,Aa n0,Aa n1,Aa n13] λn27 b28=>
Ae n27 λn29=>
Ay b28 λb30=>
Ay b30 λb31=>
Ae (Ah (n29-n0)) λn32=>
Ae (Ah (n1-n29)) λn33=>
Ae (Ah (Int.tdiv n5 8)) λn34=>
.bind 3 [.one (.int .i64),.one (.int .i64),.one .bool] (
Ag (decide (n32<n33)) (
Ay (decide (n32>=n34)) λb35=>
Bi F.a172 [data.v,Aa n0,Aa n29,Aa n7]<|
Ae (Ah (n29+1)) λn36=>
Ai 3 [Aa n36,Aa n1,.bool b35])<|
Ay (decide (n33>=n34)) λb37=>
Bi F.a172 [data.v,Aa (Ah (n29+1)),Aa n1,Aa n7]<|
Ae n29 λn38=>
Ai 3 [Aa n0,Aa n38,.bool b37]) (u3 λ(n39 n40:Int) b41=>
Ai 2 [Aa n39,Aa n40,Aa n7,.bool b41,.bool b31])) (u5 λ(n42 n43 n44:Int) b45 b46=>
Ai 1 [Aa n42,Aa n43,Aa n44,.bool b45,.bool b46]))
def z02t (data:Sl) (a b:Int) (cmp:Value):Prog :=
Ae (Ah (a+1)) λn0=>
AC 1 (
AU 2 (n0,()) λn1=>
Ag (decide (n1<b)) (
AC 3 (
Ae n1 λn2=>
AC 4 (
AU 5 (n2,()) λn3=>
Ax 6 (
AD<|
.ex [.adr] (c1 λa4=>decide (n3>a)=true->0<=n3/\n3<(Ao data)/\data.a=some a4) (u1 λa5=>
BR (decide (n3>a)=true) T.a15 a5 (Int.toNat n3*4) λn6 n7 n8 n9=>
.ex [.adr] (c1 λa10=>decide (n3>a)=true->0<=Ah (n3-1)/\Ah (n3-1)<(Ao data)/\data.a=some a10) (u1 λa11=>
BR (decide (n3>a)=true) T.a15 a11 (Int.toNat (Ah (n3-1))*4) λn12 n13 n14 n15=>
Ag (decide (n3>a)) (
BS cmp [Bz n6 n7 n8 n9,Bz n12 n13 n14 n15] λn16=>
AH<|
Ai 6 [.bool (decide (n16<0))])<|
AH<|
Ai 6 [.bool false]))) λb17=>
Ag b17 (
AC 6 (
AD<|
.ex [.adr] (c1 λa18=>0<=Ah (n3-1)/\Ah (n3-1)<(Ao data)/\data.a=some a18) (u1 λa19=>
BT T.a15 a19 (Int.toNat (Ah (n3-1))*4) λn20 n21 n22 n23=>
.ex [.adr] (c1 λa24=>0<=n3/\n3<(Ao data)/\data.a=some a24) (u1 λa25=>
BT T.a15 a25 (Int.toNat n3*4) λn26 n27 n28 n29=>
.ex [.adr] (c1 λa30=>0<=n3/\n3<(Ao data)/\data.a=some a30) (u1 λa31=>
AI T.a15 a31 (Int.toNat n3*4) (Bz n20 n21 n22 n23)<|
.ex [.adr] (c1 λa32=>0<=Ah (n3-1)/\Ah (n3-1)<(Ao data)/\data.a=some a32) (u1 λa33=>
AI T.a15 a33 (Int.toNat (Ah (n3-1))*4) (Bz n26 n27 n28 n29)<|
AH<|
Ai 6 [])))))<|
Ae (Ah (n3-1)) λn34=>
Ai 5 [Aa n34])<|
Ai 4 [])<|
Ai 3 [])<|
Ae (Ah (n1+1)) λn35=>
Ai 2 [Aa n35])<|
Ai 1 [])<|
Ai 0 []
theorem zp5 (data:Sl) (a b:Int) (cmp:Value) {w:World} {R:List Value->World->Prop} (h:(z02t data a b cmp).wp P (λ_=>True) w λe vs w'=>e=0/\R vs w'):Ret P F.a156 #[.slice data.a data.len data.cap,.int .i64 a,.int .i64 b,cmp] w R:=dS (n:=53) (rv:=[]) { cnd:=[],blk:=[(0,[]),(1,[]),(2,[])],reg:=[(4,[(34,.one .bool)]),(6,[])],lps:=[(0,[(8,.one (.int .i64))]),(2,[(9,.one (.int .i64))])] } [.val (.slice data.a data.len data.cap),.val (.int .i64 a),.val (.int .i64 b),.any cmp] Go.Proofs.Tryz.func329 (by kernel_rfl) (by kernel_rfl) (by kernel_rfl) (by kernel_rfl) h
def z0ap (data:Sl) (a b:Int) (cmp:Value):Prog :=
Ae a λn0=>
Ae (Ah (b-a)) λn1=>
Ae (Ah (Int.tdiv (Ah (n1-1)) 2)) λn2=>
AC 1 (
AU 2 (n2,()) λn3=>
Ag (decide (n3>=0)) (
Bi F.a177 [data.v,Aa n3,Aa n1,Aa n0,cmp]<|
Ae (Ah (n3-1)) λn4=>
Ai 2 [Aa n4])<|
Ai 1 [])<|
Ae (Ah (n1-1)) λn5=>
AC 1 (
AU 2 (n5,()) λn6=>
Ag (decide (n6>=0)) (
AC 3 (
AD<|
.ex [.adr] (c1 λa7=>0<=Ah (n0+n6)/\Ah (n0+n6)<(Ao data)/\data.a=some a7) (u1 λa8=>
BT T.a15 a8 (Int.toNat (Ah (n0+n6))*4) λn9 n10 n11 n12=>
.ex [.adr] (c1 λa13=>0<=n0/\n0<(Ao data)/\data.a=some a13) (u1 λa14=>
BT T.a15 a14 (Int.toNat n0*4) λn15 n16 n17 n18=>
.ex [.adr] (c1 λa19=>0<=n0/\n0<(Ao data)/\data.a=some a19) (u1 λa20=>
AI T.a15 a20 (Int.toNat n0*4) (Bz n9 n10 n11 n12)<|
.ex [.adr] (c1 λa21=>0<=Ah (n0+n6)/\Ah (n0+n6)<(Ao data)/\data.a=some a21) (u1 λa22=>
AI T.a15 a22 (Int.toNat (Ah (n0+n6))*4) (Bz n15 n16 n17 n18)<|
AH<|
Ai 3 [])))))<|
Bi F.a177 [data.v,Aa 0,Aa n6,Aa n0,cmp]<|
Ae (Ah (n6-1)) λn23=>
Ai 2 [Aa n23])<|
Ai 1 [])<|
Ai 0 []
def z0al (data:Sl) (a b:Int) (cmp:Value):Prog :=
Ae (Ah (b-a)) λn0=>
AC 1 (
Ag (decide (n0>=8)) (
Ab T.a49 λa1=>
Ac T.a49 a1 (.int .u64 (IntKind.wrap .u64 n0))<|
Bu F.a162 [Aa n0] λn2=>
Bv n2 λn3=>
Ae (Ah (Ah (a+Ah (Ah (Int.tdiv n0 4)*2))-1)) λn4=>
AC 2 (
AU 3 (n4,()) λn5=>
Ag (decide (n5<=Ah (Ah (a+Ah (Ah (Int.tdiv n0 4)*2))+1))) (
Bu F.a179 [AB a1] λn6=>
Ae (Ah (IntKind.wrap .u64 (((BitVec.toNat (BitVec.ofInt 64 n6 &&& BitVec.ofInt 64 (IntKind.wrap .u64 (n3-1))):Nat):Int)))) λn7=>
Af 4 (
Ag (decide (n7>=n0)) (
Ae (Ah (n7-n0)) λn8=>
Ai 4 [Aa n8])<|
Ai 4 [Aa n7]) λn9=>
AC 4 (
AD<|
.ex [.adr] (c1 λa10=>0<=Ah (a+n9)/\Ah (a+n9)<(Ao data)/\data.a=some a10) (u1 λa11=>
BT T.a15 a11 (Int.toNat (Ah (a+n9))*4) λn12 n13 n14 n15=>
.ex [.adr] (c1 λa16=>0<=n5/\n5<(Ao data)/\data.a=some a16) (u1 λa17=>
BT T.a15 a17 (Int.toNat n5*4) λn18 n19 n20 n21=>
.ex [.adr] (c1 λa22=>0<=n5/\n5<(Ao data)/\data.a=some a22) (u1 λa23=>
AI T.a15 a23 (Int.toNat n5*4) (Bz n12 n13 n14 n15)<|
.ex [.adr] (c1 λa24=>0<=Ah (a+n9)/\Ah (a+n9)<(Ao data)/\data.a=some a24) (u1 λa25=>
AI T.a15 a25 (Int.toNat (Ah (a+n9))*4) (Bz n18 n19 n20 n21)<|
AH<|
Ai 4 [])))))<|
Ae (Ah (n5+1)) λn26=>
Ai 3 [Aa n26])<|
Ai 2 [])<|
Ai 1 [])<|
Ai 1 [])<|
Ai 0 []
def z0an (data:Sl) (a b:Int) (cmp:Value):Prog :=
Ae (Ah (b-a)) λn0=>
Ab T.a13 λa1=>
Ae (Ah (a+Ah (Ah (Int.tdiv n0 4)*1))) λn2=>
Ae (Ah (a+Ah (Ah (Int.tdiv n0 4)*2))) λn3=>
Ae (Ah (a+Ah (Ah (Int.tdiv n0 4)*3))) λn4=>
Af 1 (
Ag (decide (n0>=8)) (
.bind 2 [.one (.int .i64),.one (.int .i64),.one (.int .i64)] (
Ag (decide (n0>=50)) (
Az F.a158 [data.v,Aa n2,AB a1,cmp] λn5=>
Ae n5 λn6=>
Az F.a158 [data.v,Aa n3,AB a1,cmp] λn7=>
Ae n7 λn8=>
Az F.a158 [data.v,Aa n4,AB a1,cmp] λn9=>
Ae n9 λn10=>
Ai 2 [Aa n6,Aa n8,Aa n10])<|
Ai 2 [Aa n2,Aa n3,Aa n4]) (u3 λ(n11 n12 n13:Int)=>
Az F.a160 [data.v,Aa n11,Aa n12,Aa n13,AB a1,cmp] λn14=>
Ae n14 λn15=>
Ai 1 [Aa n15]))<|
Ai 1 [Aa n3]) λn16=>
BU T.a13 a1 λn17=>
AT (n17 == 0) (
Ae n16 λn19=>
Ai 0 [Aa n19,Aa 1])<|
AT (n17 == 12) (
Ae n16 λn21=>
Ai 0 [Aa n21,Aa 2])<|
Ae n16 λn22=>
Ai 0 [Aa n22,Aa 0]
def z0b6 (data:Sl) (a b:Int) (cmp:Value):Prog :=
Ae a λn0=>
Ae (Ah (b-1)) λn1=>
AC 1 (
Be 2 (n0,(n1,())) λn2 n3=>
Ag (decide (n2<n3)) (
AC 3 (
AD<|
.ex [.adr] (c1 λa4=>0<=n3/\n3<(Ao data)/\data.a=some a4) (u1 λa5=>
BT T.a15 a5 (Int.toNat n3*4) λn6 n7 n8 n9=>
.ex [.adr] (c1 λa10=>0<=n2/\n2<(Ao data)/\data.a=some a10) (u1 λa11=>
BT T.a15 a11 (Int.toNat n2*4) λn12 n13 n14 n15=>
.ex [.adr] (c1 λa16=>0<=n2/\n2<(Ao data)/\data.a=some a16) (u1 λa17=>
AI T.a15 a17 (Int.toNat n2*4) (Bz n6 n7 n8 n9)<|
.ex [.adr] (c1 λa18=>0<=n3/\n3<(Ao data)/\data.a=some a18) (u1 λa19=>
AI T.a15 a19 (Int.toNat n3*4) (Bz n12 n13 n14 n15)<|
AH<|
Ai 3 [])))))<|
Ae (Ah (n2+1)) λn20=>
Ae (Ah (n3-1)) λn21=>
Ai 2 [Aa n20,Aa n21])<|
Ai 1 [])<|
Ai 0 []
def z0az (data:Sl) (a b:Int) (cmp:Value):Prog :=
Ae (Ah (a+1)) λn0=>
AC 1 (
Be 2 (n0,(0,())) λn1 n2=>
Ag (decide (n2<5)) (
Af 3 (
Af 4 (
AU 5 (n1,()) λn3=>
Ax 6 (
AD<|
.ex [.adr] (c1 λa4=>decide (n3<b)=true->0<=n3/\n3<(Ao data)/\data.a=some a4) (u1 λa5=>
BR (decide (n3<b)=true) T.a15 a5 (Int.toNat n3*4) λn6 n7 n8 n9=>
.ex [.adr] (c1 λa10=>decide (n3<b)=true->0<=Ah (n3-1)/\Ah (n3-1)<(Ao data)/\data.a=some a10) (u1 λa11=>
BR (decide (n3<b)=true) T.a15 a11 (Int.toNat (Ah (n3-1))*4) λn12 n13 n14 n15=>
Ag (decide (n3<b)) (
BS cmp [Bz n6 n7 n8 n9,Bz n12 n13 n14 n15] λn16=>
AH<|
Ai 6 [.bool (not (decide (n16<0)))])<|
AH<|
Ai 6 [.bool false]))) λb17=>
Ag b17 (
Ae (Ah (n3+1)) λn18=>
Ai 5 [Aa n18])<|
Ai 4 [Aa n3]) λn19=>
Ag (n19 == b) (
Ai 0 [.bool true])<|
Ag (decide (Ah (b-a)<50)) (
Ai 0 [.bool false])<|
AC 4 (
AD<|
.ex [.adr] (c1 λa20=>0<=Ah (n19-1)/\Ah (n19-1)<(Ao data)/\data.a=some a20) (u1 λa21=>
BT T.a15 a21 (Int.toNat (Ah (n19-1))*4) λn22 n23 n24 n25=>
.ex [.adr] (c1 λa26=>0<=n19/\n19<(Ao data)/\data.a=some a26) (u1 λa27=>
BT T.a15 a27 (Int.toNat n19*4) λn28 n29 n30 n31=>
.ex [.adr] (c1 λa32=>0<=n19/\n19<(Ao data)/\data.a=some a32) (u1 λa33=>
AI T.a15 a33 (Int.toNat n19*4) (Bz n22 n23 n24 n25)<|
.ex [.adr] (c1 λa34=>0<=Ah (n19-1)/\Ah (n19-1)<(Ao data)/\data.a=some a34) (u1 λa35=>
AI T.a15 a35 (Int.toNat (Ah (n19-1))*4) (Bz n28 n29 n30 n31)<|
AH<|
Ai 4 [])))))<|
AC 4 (
Ag (decide (Ah (n19-a)>=2)) (
Ae (Ah (n19-1)) λn36=>
AC 5 (
AU 6 (n36,()) λn37=>
Ag (decide (n37>=1)) (
AD<|
.ex [.adr] (c1 λa38=>0<=n37/\n37<(Ao data)/\data.a=some a38) (u1 λa39=>
BT T.a15 a39 (Int.toNat n37*4) λn40 n41 n42 n43=>
.ex [.adr] (c1 λa44=>0<=Ah (n37-1)/\Ah (n37-1)<(Ao data)/\data.a=some a44) (u1 λa45=>
BT T.a15 a45 (Int.toNat (Ah (n37-1))*4) λn46 n47 n48 n49=>
BS cmp [Bz n40 n41 n42 n43,Bz n46 n47 n48 n49] λn50=>
AH<|
Ag (not (decide (n50<0))) (
Ai 5 [])<|
AC 7 (
AD<|
.ex [.adr] (c1 λa51=>0<=Ah (n37-1)/\Ah (n37-1)<(Ao data)/\data.a=some a51) (u1 λa52=>
BT T.a15 a52 (Int.toNat (Ah (n37-1))*4) λn53 n54 n55 n56=>
.ex [.adr] (c1 λa57=>0<=n37/\n37<(Ao data)/\data.a=some a57) (u1 λa58=>
BT T.a15 a58 (Int.toNat n37*4) λn59 n60 n61 n62=>
.ex [.adr] (c1 λa63=>0<=n37/\n37<(Ao data)/\data.a=some a63) (u1 λa64=>
AI T.a15 a64 (Int.toNat n37*4) (Bz n53 n54 n55 n56)<|
.ex [.adr] (c1 λa65=>0<=Ah (n37-1)/\Ah (n37-1)<(Ao data)/\data.a=some a65) (u1 λa66=>
AI T.a15 a66 (Int.toNat (Ah (n37-1))*4) (Bz n59 n60 n61 n62)<|
AH<|
Ai 7 [])))))<|
Ae (Ah (n37-1)) λn67=>
Ai 6 [Aa n67])))<|
Ai 5 [])<|
Ai 4 [])<|
Ai 4 [])<|
AC 4 (
Ag (decide (Ah (b-n19)>=2)) (
Ae (Ah (n19+1)) λn68=>
AC 5 (
AU 6 (n68,()) λn69=>
Ag (decide (n69<b)) (
AD<|
.ex [.adr] (c1 λa70=>0<=n69/\n69<(Ao data)/\data.a=some a70) (u1 λa71=>
BT T.a15 a71 (Int.toNat n69*4) λn72 n73 n74 n75=>
.ex [.adr] (c1 λa76=>0<=Ah (n69-1)/\Ah (n69-1)<(Ao data)/\data.a=some a76) (u1 λa77=>
BT T.a15 a77 (Int.toNat (Ah (n69-1))*4) λn78 n79 n80 n81=>
BS cmp [Bz n72 n73 n74 n75,Bz n78 n79 n80 n81] λn82=>
AH<|
Ag (not (decide (n82<0))) (
Ai 5 [])<|
AC 7 (
AD<|
.ex [.adr] (c1 λa83=>0<=Ah (n69-1)/\Ah (n69-1)<(Ao data)/\data.a=some a83) (u1 λa84=>
BT T.a15 a84 (Int.toNat (Ah (n69-1))*4) λn85 n86 n87 n88=>
.ex [.adr] (c1 λa89=>0<=n69/\n69<(Ao data)/\data.a=some a89) (u1 λa90=>
BT T.a15 a90 (Int.toNat n69*4) λn91 n92 n93 n94=>
.ex [.adr] (c1 λa95=>0<=n69/\n69<(Ao data)/\data.a=some a95) (u1 λa96=>
AI T.a15 a96 (Int.toNat n69*4) (Bz n85 n86 n87 n88)<|
.ex [.adr] (c1 λa97=>0<=Ah (n69-1)/\Ah (n69-1)<(Ao data)/\data.a=some a97) (u1 λa98=>
AI T.a15 a98 (Int.toNat (Ah (n69-1))*4) (Bz n91 n92 n93 n94)<|
AH<|
Ai 7 [])))))<|
Ae (Ah (n69+1)) λn99=>
Ai 6 [Aa n99])))<|
Ai 5 [])<|
Ai 4 [])<|
Ai 4 [])<|
Ai 3 [Aa n19]) λn100=>
Ae (Ah (n2+1)) λn101=>
Ai 2 [Aa n100,Aa n101])<|
Ai 1 [])<|
Ai 0 [.bool false]
def z0b2 (data:Sl) (a b pivot:Int) (cmp:Value):Prog :=
AC 1 (
AD<|
.ex [.adr] (c1 λa0=>0<=pivot/\pivot<(Ao data)/\data.a=some a0) (u1 λa1=>
BT T.a15 a1 (Int.toNat pivot*4) λn2 n3 n4 n5=>
.ex [.adr] (c1 λa6=>0<=a/\a<(Ao data)/\data.a=some a6) (u1 λa7=>
BT T.a15 a7 (Int.toNat a*4) λn8 n9 n10 n11=>
.ex [.adr] (c1 λa12=>0<=a/\a<(Ao data)/\data.a=some a12) (u1 λa13=>
AI T.a15 a13 (Int.toNat a*4) (Bz n2 n3 n4 n5)<|
.ex [.adr] (c1 λa14=>0<=pivot/\pivot<(Ao data)/\data.a=some a14) (u1 λa15=>
AI T.a15 a15 (Int.toNat pivot*4) (Bz n8 n9 n10 n11)<|
AH<|
Ai 1 [])))))<|
Ae (Ah (a+1)) λn16=>
Ae (Ah (b-1)) λn17=>
Af 1 (
Be 2 (n16,(n17,())) λn18 n19=>
AR 3 (
Af 4 (
AU 5 (n18,()) λn20=>
Ax 6 (
AD<|
.ex [.adr] (c1 λa21=>decide (n20<=n19)=true->0<=a/\a<(Ao data)/\data.a=some a21) (u1 λa22=>
BR (decide (n20<=n19)=true) T.a15 a22 (Int.toNat a*4) λn23 n24 n25 n26=>
.ex [.adr] (c1 λa27=>decide (n20<=n19)=true->0<=n20/\n20<(Ao data)/\data.a=some a27) (u1 λa28=>
BR (decide (n20<=n19)=true) T.a15 a28 (Int.toNat n20*4) λn29 n30 n31 n32=>
Ag (decide (n20<=n19)) (
BS cmp [Bz n23 n24 n25 n26,Bz n29 n30 n31 n32] λn33=>
AH<|
Ai 6 [.bool (not (decide (n33<0)))])<|
AH<|
Ai 6 [.bool false]))) λb34=>
Ag b34 (
Ae (Ah (n20+1)) λn35=>
Ai 5 [Aa n35])<|
Ai 4 [Aa n20]) λn36=>
Af 4 (
AU 5 (n19,()) λn37=>
Ax 6 (
AD<|
.ex [.adr] (c1 λa38=>decide (n36<=n37)=true->0<=a/\a<(Ao data)/\data.a=some a38) (u1 λa39=>
BR (decide (n36<=n37)=true) T.a15 a39 (Int.toNat a*4) λn40 n41 n42 n43=>
.ex [.adr] (c1 λa44=>decide (n36<=n37)=true->0<=n37/\n37<(Ao data)/\data.a=some a44) (u1 λa45=>
BR (decide (n36<=n37)=true) T.a15 a45 (Int.toNat n37*4) λn46 n47 n48 n49=>
Ag (decide (n36<=n37)) (
BS cmp [Bz n40 n41 n42 n43,Bz n46 n47 n48 n49] λn50=>
AH<|
Ai 6 [.bool (decide (n50<0))])<|
AH<|
Ai 6 [.bool false]))) λb51=>
Ag b51 (
Ae (Ah (n37-1)) λn52=>
Ai 5 [Aa n52])<|
Ai 4 [Aa n37]) λn53=>
Ag (decide (n36>n53)) (
Ai 1 [Aa n36])<|
AC 4 (
AD<|
.ex [.adr] (c1 λa54=>0<=n53/\n53<(Ao data)/\data.a=some a54) (u1 λa55=>
BT T.a15 a55 (Int.toNat n53*4) λn56 n57 n58 n59=>
.ex [.adr] (c1 λa60=>0<=n36/\n36<(Ao data)/\data.a=some a60) (u1 λa61=>
BT T.a15 a61 (Int.toNat n36*4) λn62 n63 n64 n65=>
.ex [.adr] (c1 λa66=>0<=n36/\n36<(Ao data)/\data.a=some a66) (u1 λa67=>
AI T.a15 a67 (Int.toNat n36*4) (Bz n56 n57 n58 n59)<|
.ex [.adr] (c1 λa68=>0<=n53/\n53<(Ao data)/\data.a=some a68) (u1 λa69=>
AI T.a15 a69 (Int.toNat n53*4) (Bz n62 n63 n64 n65)<|
AH<|
Ai 4 [])))))<|
Ae (Ah (n36+1)) λn70=>
Ae (Ah (n53-1)) λn71=>
Ai 3 [Aa n70,Aa n71]) λn72 n73=>
Ai 2 [Aa n72,Aa n73]) λn74=>
Ae n74 λn75=>
Ai 0 [Aa n75]
def z0b1 (data:Sl) (a b pivot:Int) (cmp:Value):Prog :=
AC 1 (
AD<|
.ex [.adr] (c1 λa0=>0<=pivot/\pivot<(Ao data)/\data.a=some a0) (u1 λa1=>
BT T.a15 a1 (Int.toNat pivot*4) λn2 n3 n4 n5=>
.ex [.adr] (c1 λa6=>0<=a/\a<(Ao data)/\data.a=some a6) (u1 λa7=>
BT T.a15 a7 (Int.toNat a*4) λn8 n9 n10 n11=>
.ex [.adr] (c1 λa12=>0<=a/\a<(Ao data)/\data.a=some a12) (u1 λa13=>
AI T.a15 a13 (Int.toNat a*4) (Bz n2 n3 n4 n5)<|
.ex [.adr] (c1 λa14=>0<=pivot/\pivot<(Ao data)/\data.a=some a14) (u1 λa15=>
AI T.a15 a15 (Int.toNat pivot*4) (Bz n8 n9 n10 n11)<|
AH<|
Ai 1 [])))))<|
Ae (Ah (a+1)) λn16=>
Ae (Ah (b-1)) λn17=>
Af 1 (
AU 2 (n16,()) λn18=>
Ax 3 (
AD<|
.ex [.adr] (c1 λa19=>decide (n18<=n17)=true->0<=n18/\n18<(Ao data)/\data.a=some a19) (u1 λa20=>
BR (decide (n18<=n17)=true) T.a15 a20 (Int.toNat n18*4) λn21 n22 n23 n24=>
.ex [.adr] (c1 λa25=>decide (n18<=n17)=true->0<=a/\a<(Ao data)/\data.a=some a25) (u1 λa26=>
BR (decide (n18<=n17)=true) T.a15 a26 (Int.toNat a*4) λn27 n28 n29 n30=>
Ag (decide (n18<=n17)) (
BS cmp [Bz n21 n22 n23 n24,Bz n27 n28 n29 n30] λn31=>
AH<|
Ai 3 [.bool (decide (n31<0))])<|
AH<|
Ai 3 [.bool false]))) λb32=>
Ag b32 (
Ae (Ah (n18+1)) λn33=>
Ai 2 [Aa n33])<|
Ai 1 [Aa n18]) λn34=>
Af 1 (
AU 2 (n17,()) λn35=>
Ax 3 (
AD<|
.ex [.adr] (c1 λa36=>decide (n34<=n35)=true->0<=n35/\n35<(Ao data)/\data.a=some a36) (u1 λa37=>
BR (decide (n34<=n35)=true) T.a15 a37 (Int.toNat n35*4) λn38 n39 n40 n41=>
.ex [.adr] (c1 λa42=>decide (n34<=n35)=true->0<=a/\a<(Ao data)/\data.a=some a42) (u1 λa43=>
BR (decide (n34<=n35)=true) T.a15 a43 (Int.toNat a*4) λn44 n45 n46 n47=>
Ag (decide (n34<=n35)) (
BS cmp [Bz n38 n39 n40 n41,Bz n44 n45 n46 n47] λn48=>
AH<|
Ai 3 [.bool (not (decide (n48<0)))])<|
AH<|
Ai 3 [.bool false]))) λb49=>
Ag b49 (
Ae (Ah (n35-1)) λn50=>
Ai 2 [Aa n50])<|
Ai 1 [Aa n35]) λn51=>
Ag (decide (n34>n51)) (
AC 1 (
AD<|
.ex [.adr] (c1 λa52=>0<=a/\a<(Ao data)/\data.a=some a52) (u1 λa53=>
BT T.a15 a53 (Int.toNat a*4) λn54 n55 n56 n57=>
.ex [.adr] (c1 λa58=>0<=n51/\n51<(Ao data)/\data.a=some a58) (u1 λa59=>
BT T.a15 a59 (Int.toNat n51*4) λn60 n61 n62 n63=>
.ex [.adr] (c1 λa64=>0<=n51/\n51<(Ao data)/\data.a=some a64) (u1 λa65=>
AI T.a15 a65 (Int.toNat n51*4) (Bz n54 n55 n56 n57)<|
.ex [.adr] (c1 λa66=>0<=a/\a<(Ao data)/\data.a=some a66) (u1 λa67=>
AI T.a15 a67 (Int.toNat a*4) (Bz n60 n61 n62 n63)<|
AH<|
Ai 1 [])))))<|
Ae n51 λn68=>
Ai 0 [Aa n68,.bool true])<|
AC 1 (
AD<|
.ex [.adr] (c1 λa69=>0<=n51/\n51<(Ao data)/\data.a=some a69) (u1 λa70=>
BT T.a15 a70 (Int.toNat n51*4) λn71 n72 n73 n74=>
.ex [.adr] (c1 λa75=>0<=n34/\n34<(Ao data)/\data.a=some a75) (u1 λa76=>
BT T.a15 a76 (Int.toNat n34*4) λn77 n78 n79 n80=>
.ex [.adr] (c1 λa81=>0<=n34/\n34<(Ao data)/\data.a=some a81) (u1 λa82=>
AI T.a15 a82 (Int.toNat n34*4) (Bz n71 n72 n73 n74)<|
.ex [.adr] (c1 λa83=>0<=n51/\n51<(Ao data)/\data.a=some a83) (u1 λa84=>
AI T.a15 a84 (Int.toNat n51*4) (Bz n77 n78 n79 n80)<|
AH<|
Ai 1 [])))))<|
Ae (Ah (n34+1)) λn85=>
Ae (Ah (n51-1)) λn86=>
Af 1 (
Be 2 (n85,(n86,())) λn87 n88=>
AR 3 (
Af 4 (
AU 5 (n87,()) λn89=>
Ax 6 (
AD<|
.ex [.adr] (c1 λa90=>decide (n89<=n88)=true->0<=n89/\n89<(Ao data)/\data.a=some a90) (u1 λa91=>
BR (decide (n89<=n88)=true) T.a15 a91 (Int.toNat n89*4) λn92 n93 n94 n95=>
.ex [.adr] (c1 λa96=>decide (n89<=n88)=true->0<=a/\a<(Ao data)/\data.a=some a96) (u1 λa97=>
BR (decide (n89<=n88)=true) T.a15 a97 (Int.toNat a*4) λn98 n99 n100 n101=>
Ag (decide (n89<=n88)) (
BS cmp [Bz n92 n93 n94 n95,Bz n98 n99 n100 n101] λn102=>
AH<|
Ai 6 [.bool (decide (n102<0))])<|
AH<|
Ai 6 [.bool false]))) λb103=>
Ag b103 (
Ae (Ah (n89+1)) λn104=>
Ai 5 [Aa n104])<|
Ai 4 [Aa n89]) λn105=>
Af 4 (
AU 5 (n88,()) λn106=>
Ax 6 (
AD<|
.ex [.adr] (c1 λa107=>decide (n105<=n106)=true->0<=n106/\n106<(Ao data)/\data.a=some a107) (u1 λa108=>
BR (decide (n105<=n106)=true) T.a15 a108 (Int.toNat n106*4) λn109 n110 n111 n112=>
.ex [.adr] (c1 λa113=>decide (n105<=n106)=true->0<=a/\a<(Ao data)/\data.a=some a113) (u1 λa114=>
BR (decide (n105<=n106)=true) T.a15 a114 (Int.toNat a*4) λn115 n116 n117 n118=>
Ag (decide (n105<=n106)) (
BS cmp [Bz n109 n110 n111 n112,Bz n115 n116 n117 n118] λn119=>
AH<|
Ai 6 [.bool (not (decide (n119<0)))])<|
AH<|
Ai 6 [.bool false]))) λb120=>
Ag b120 (
Ae (Ah (n106-1)) λn121=>
Ai 5 [Aa n121])<|
Ai 4 [Aa n106]) λn122=>
Ag (decide (n105>n122)) (
Ai 1 [Aa n122])<|
AC 4 (
AD<|
.ex [.adr] (c1 λa123=>0<=n122/\n122<(Ao data)/\data.a=some a123) (u1 λa124=>
BT T.a15 a124 (Int.toNat n122*4) λn125 n126 n127 n128=>
.ex [.adr] (c1 λa129=>0<=n105/\n105<(Ao data)/\data.a=some a129) (u1 λa130=>
BT T.a15 a130 (Int.toNat n105*4) λn131 n132 n133 n134=>
.ex [.adr] (c1 λa135=>0<=n105/\n105<(Ao data)/\data.a=some a135) (u1 λa136=>
AI T.a15 a136 (Int.toNat n105*4) (Bz n125 n126 n127 n128)<|
.ex [.adr] (c1 λa137=>0<=n122/\n122<(Ao data)/\data.a=some a137) (u1 λa138=>
AI T.a15 a138 (Int.toNat n122*4) (Bz n131 n132 n133 n134)<|
AH<|
Ai 4 [])))))<|
Ae (Ah (n105+1)) λn139=>
Ae (Ah (n122-1)) λn140=>
Ai 3 [Aa n139,Aa n140]) λn141 n142=>
Ai 2 [Aa n141,Aa n142]) λn143=>
AC 1 (
AD<|
.ex [.adr] (c1 λa144=>0<=a/\a<(Ao data)/\data.a=some a144) (u1 λa145=>
BT T.a15 a145 (Int.toNat a*4) λn146 n147 n148 n149=>
.ex [.adr] (c1 λa150=>0<=n143/\n143<(Ao data)/\data.a=some a150) (u1 λa151=>
BT T.a15 a151 (Int.toNat n143*4) λn152 n153 n154 n155=>
.ex [.adr] (c1 λa156=>0<=n143/\n143<(Ao data)/\data.a=some a156) (u1 λa157=>
AI T.a15 a157 (Int.toNat n143*4) (Bz n146 n147 n148 n149)<|
.ex [.adr] (c1 λa158=>0<=a/\a<(Ao data)/\data.a=some a158) (u1 λa159=>
AI T.a15 a159 (Int.toNat a*4) (Bz n152 n153 n154 n155)<|
AH<|
Ai 1 [])))))<|
Ae n143 λn160=>
Ai 0 [Aa n160,.bool false]
def z0aj (s:Sl):Prog :=
Ae (Ah ((Ao s)-1)) λn0=>
AC 1 (
Be 2 (0,(n0,())) λn1 n2=>
Ag (decide (n1<n2)) (
AC 3 (
AD<|
.ex [.adr] (c1 λa3=>0<=n2/\n2<(Ao s)/\s.a=some a3) (u1 λa4=>
Bo T.a35 a4 (Int.toNat n2*5) λn5 s6 s7 b8 n9=>
.ex [.adr] (c1 λa10=>0<=n1/\n1<(Ao s)/\s.a=some a10) (u1 λa11=>
Bo T.a35 a11 (Int.toNat n1*5) λn12 s13 s14 b15 n16=>
.ex [.adr] (c1 λa17=>0<=n1/\n1<(Ao s)/\s.a=some a17) (u1 λa18=>
AI T.a35 a18 (Int.toNat n1*5) (Ba n5 s6 s7 b8 n9)<|
.ex [.adr] (c1 λa19=>0<=n2/\n2<(Ao s)/\s.a=some a19) (u1 λa20=>
AI T.a35 a20 (Int.toNat n2*5) (Ba n12 s13 s14 b15 n16)<|
AH<|
Ai 3 [])))))<|
Ae (Ah (n1+1)) λn21=>
Ae (Ah (n2-1)) λn22=>
Ai 2 [Aa n21,Aa n22])<|
Ai 1 [])<|
Ai 0 []
def z0ar (data:Sl) (a:Int) (b:Int):Prog :=
Ae (Ah (a+1)) λn0=>
AC 1 (
AU 2 (n0,()) λn1=>
Ag (decide (n1<b)) (
AC 3 (
Ae n1 λn2=>
AC 4 (
AU 5 (n2,()) λn3=>
Ax 6 (
AD<|
.ex [.adr] (c1 λa4=>decide (n3>a)=true->0<=n3/\n3<(Ao data)/\data.a=some a4) (u1 λa5=>
AY (decide (n3>a)=true) T.a50 a5 (Int.toNat n3*1) λs6=>
.ex [.adr] (c1 λa7=>decide (n3>a)=true->0<=Ah (n3-1)/\Ah (n3-1)<(Ao data)/\data.a=some a7) (u1 λa8=>
AY (decide (n3>a)=true) T.a50 a8 (Int.toNat (Ah (n3-1))*1) λs9=>
Ag (decide (n3>a)) (
Aw F.a2 [.string s6,.string s9] λb10=>
AH<|
Ai 6 [.bool b10])<|
AH<|
Ai 6 [.bool false]))) λb11=>
Ag b11 (
AC 6 (
AD<|
.ex [.adr] (c1 λa12=>0<=Ah (n3-1)/\Ah (n3-1)<(Ao data)/\data.a=some a12) (u1 λa13=>
AE T.a50 a13 (Int.toNat (Ah (n3-1))*1) λs14=>
.ex [.adr] (c1 λa15=>0<=n3/\n3<(Ao data)/\data.a=some a15) (u1 λa16=>
AE T.a50 a16 (Int.toNat n3*1) λs17=>
.ex [.adr] (c1 λa18=>0<=n3/\n3<(Ao data)/\data.a=some a18) (u1 λa19=>
AI T.a50 a19 (Int.toNat n3*1) (.string s14)<|
.ex [.adr] (c1 λa20=>0<=Ah (n3-1)/\Ah (n3-1)<(Ao data)/\data.a=some a20) (u1 λa21=>
AI T.a50 a21 (Int.toNat (Ah (n3-1))*1) (.string s17)<|
AH<|
Ai 6 [])))))<|
Ae (Ah (n3-1)) λn22=>
Ai 5 [Aa n22])<|
Ai 4 [])<|
Ai 3 [])<|
Ae (Ah (n1+1)) λn23=>
Ai 2 [Aa n23])<|
Ai 1 [])<|
Ai 0 []
def z0aq (data:Sl) (a:Int) (b:Int):Prog :=
Ae a λn0=>
Ae (Ah (b-a)) λn1=>
Ae (Ah (Int.tdiv (Ah (n1-1)) 2)) λn2=>
AC 1 (
AU 2 (n2,()) λn3=>
Ag (decide (n3>=0)) (
Bi F.a178 [data.v,Aa n3,Aa n1,Aa n0]<|
Ae (Ah (n3-1)) λn4=>
Ai 2 [Aa n4])<|
Ai 1 [])<|
Ae (Ah (n1-1)) λn5=>
AC 1 (
AU 2 (n5,()) λn6=>
Ag (decide (n6>=0)) (
AC 3 (
AD<|
.ex [.adr] (c1 λa7=>0<=Ah (n0+n6)/\Ah (n0+n6)<(Ao data)/\data.a=some a7) (u1 λa8=>
AE T.a50 a8 (Int.toNat (Ah (n0+n6))*1) λs9=>
.ex [.adr] (c1 λa10=>0<=n0/\n0<(Ao data)/\data.a=some a10) (u1 λa11=>
AE T.a50 a11 (Int.toNat n0*1) λs12=>
.ex [.adr] (c1 λa13=>0<=n0/\n0<(Ao data)/\data.a=some a13) (u1 λa14=>
AI T.a50 a14 (Int.toNat n0*1) (.string s9)<|
.ex [.adr] (c1 λa15=>0<=Ah (n0+n6)/\Ah (n0+n6)<(Ao data)/\data.a=some a15) (u1 λa16=>
AI T.a50 a16 (Int.toNat (Ah (n0+n6))*1) (.string s12)<|
AH<|
Ai 3 [])))))<|
Bi F.a178 [data.v,Aa 0,Aa n6,Aa n0]<|
Ae (Ah (n6-1)) λn17=>
Ai 2 [Aa n17])<|
Ai 1 [])<|
Ai 0 []
def z0am (data:Sl) (a:Int) (b:Int):Prog :=
Ae (Ah (b-a)) λn0=>
AC 1 (
Ag (decide (n0>=8)) (
Ab T.a49 λa1=>
Ac T.a49 a1 (.int .u64 (IntKind.wrap .u64 n0))<|
Bu F.a162 [Aa n0] λn2=>
Bv n2 λn3=>
Ae (Ah (Ah (a+Ah (Ah (Int.tdiv n0 4)*2))-1)) λn4=>
AC 2 (
AU 3 (n4,()) λn5=>
Ag (decide (n5<=Ah (Ah (a+Ah (Ah (Int.tdiv n0 4)*2))+1))) (
Bu F.a179 [AB a1] λn6=>
Ae (Ah (IntKind.wrap .u64 (((BitVec.toNat (BitVec.ofInt 64 n6 &&& BitVec.ofInt 64 (IntKind.wrap .u64 (n3-1))):Nat):Int)))) λn7=>
Af 4 (
Ag (decide (n7>=n0)) (
Ae (Ah (n7-n0)) λn8=>
Ai 4 [Aa n8])<|
Ai 4 [Aa n7]) λn9=>
AC 4 (
AD<|
.ex [.adr] (c1 λa10=>0<=Ah (a+n9)/\Ah (a+n9)<(Ao data)/\data.a=some a10) (u1 λa11=>
AE T.a50 a11 (Int.toNat (Ah (a+n9))*1) λs12=>
.ex [.adr] (c1 λa13=>0<=n5/\n5<(Ao data)/\data.a=some a13) (u1 λa14=>
AE T.a50 a14 (Int.toNat n5*1) λs15=>
.ex [.adr] (c1 λa16=>0<=n5/\n5<(Ao data)/\data.a=some a16) (u1 λa17=>
AI T.a50 a17 (Int.toNat n5*1) (.string s12)<|
.ex [.adr] (c1 λa18=>0<=Ah (a+n9)/\Ah (a+n9)<(Ao data)/\data.a=some a18) (u1 λa19=>
AI T.a50 a19 (Int.toNat (Ah (a+n9))*1) (.string s15)<|
AH<|
Ai 4 [])))))<|
Ae (Ah (n5+1)) λn20=>
Ai 3 [Aa n20])<|
Ai 2 [])<|
Ai 1 [])<|
Ai 1 [])<|
Ai 0 []
def z0ao (data:Sl) (a:Int) (b:Int):Prog :=
Ae (Ah (b-a)) λn0=>
Ab T.a13 λa1=>
Ae (Ah (a+Ah (Ah (Int.tdiv n0 4)*1))) λn2=>
Ae (Ah (a+Ah (Ah (Int.tdiv n0 4)*2))) λn3=>
Ae (Ah (a+Ah (Ah (Int.tdiv n0 4)*3))) λn4=>
Af 1 (
Ag (decide (n0>=8)) (
.bind 2 [.one (.int .i64),.one (.int .i64),.one (.int .i64)] (
Ag (decide (n0>=50)) (
Az F.a159 [data.v,Aa n2,AB a1] λn5=>
Ae n5 λn6=>
Az F.a159 [data.v,Aa n3,AB a1] λn7=>
Ae n7 λn8=>
Az F.a159 [data.v,Aa n4,AB a1] λn9=>
Ae n9 λn10=>
Ai 2 [Aa n6,Aa n8,Aa n10])<|
Ai 2 [Aa n2,Aa n3,Aa n4]) (u3 λ(n11 n12 n13:Int)=>
Az F.a161 [data.v,Aa n11,Aa n12,Aa n13,AB a1] λn14=>
Ae n14 λn15=>
Ai 1 [Aa n15]))<|
Ai 1 [Aa n3]) λn16=>
BU T.a13 a1 λn17=>
AT (n17 == 0) (
Ae n16 λn19=>
Ai 0 [Aa n19,Aa 1])<|
AT (n17 == 12) (
Ae n16 λn21=>
Ai 0 [Aa n21,Aa 2])<|
Ae n16 λn22=>
Ai 0 [Aa n22,Aa 0]
def z0b7 (data:Sl) (a:Int) (b:Int):Prog :=
Ae a λn0=>
Ae (Ah (b-1)) λn1=>
AC 1 (
Be 2 (n0,(n1,())) λn2 n3=>
Ag (decide (n2<n3)) (
AC 3 (
AD<|
.ex [.adr] (c1 λa4=>0<=n3/\n3<(Ao data)/\data.a=some a4) (u1 λa5=>
AE T.a50 a5 (Int.toNat n3*1) λs6=>
.ex [.adr] (c1 λa7=>0<=n2/\n2<(Ao data)/\data.a=some a7) (u1 λa8=>
AE T.a50 a8 (Int.toNat n2*1) λs9=>
.ex [.adr] (c1 λa10=>0<=n2/\n2<(Ao data)/\data.a=some a10) (u1 λa11=>
AI T.a50 a11 (Int.toNat n2*1) (.string s6)<|
.ex [.adr] (c1 λa12=>0<=n3/\n3<(Ao data)/\data.a=some a12) (u1 λa13=>
AI T.a50 a13 (Int.toNat n3*1) (.string s9)<|
AH<|
Ai 3 [])))))<|
Ae (Ah (n2+1)) λn14=>
Ae (Ah (n3-1)) λn15=>
Ai 2 [Aa n14,Aa n15])<|
Ai 1 [])<|
Ai 0 []
def z0b0 (data:Sl) (a:Int) (b:Int):Prog :=
Ae (Ah (a+1)) λn0=>
AC 1 (
Be 2 (n0,(0,())) λn1 n2=>
Ag (decide (n2<5)) (
Af 3 (
Af 4 (
AU 5 (n1,()) λn3=>
Ax 6 (
AD<|
.ex [.adr] (c1 λa4=>decide (n3<b)=true->0<=n3/\n3<(Ao data)/\data.a=some a4) (u1 λa5=>
AY (decide (n3<b)=true) T.a50 a5 (Int.toNat n3*1) λs6=>
.ex [.adr] (c1 λa7=>decide (n3<b)=true->0<=Ah (n3-1)/\Ah (n3-1)<(Ao data)/\data.a=some a7) (u1 λa8=>
AY (decide (n3<b)=true) T.a50 a8 (Int.toNat (Ah (n3-1))*1) λs9=>
Ag (decide (n3<b)) (
Aw F.a2 [.string s6,.string s9] λb10=>
AH<|
Ai 6 [.bool (not b10)])<|
AH<|
Ai 6 [.bool false]))) λb11=>
Ag b11 (
Ae (Ah (n3+1)) λn12=>
Ai 5 [Aa n12])<|
Ai 4 [Aa n3]) λn13=>
Ag (n13 == b) (
Ai 0 [.bool true])<|
Ag (decide (Ah (b-a)<50)) (
Ai 0 [.bool false])<|
AC 4 (
AD<|
.ex [.adr] (c1 λa14=>0<=Ah (n13-1)/\Ah (n13-1)<(Ao data)/\data.a=some a14) (u1 λa15=>
AE T.a50 a15 (Int.toNat (Ah (n13-1))*1) λs16=>
.ex [.adr] (c1 λa17=>0<=n13/\n13<(Ao data)/\data.a=some a17) (u1 λa18=>
AE T.a50 a18 (Int.toNat n13*1) λs19=>
.ex [.adr] (c1 λa20=>0<=n13/\n13<(Ao data)/\data.a=some a20) (u1 λa21=>
AI T.a50 a21 (Int.toNat n13*1) (.string s16)<|
.ex [.adr] (c1 λa22=>0<=Ah (n13-1)/\Ah (n13-1)<(Ao data)/\data.a=some a22) (u1 λa23=>
AI T.a50 a23 (Int.toNat (Ah (n13-1))*1) (.string s19)<|
AH<|
Ai 4 [])))))<|
AC 4 (
Ag (decide (Ah (n13-a)>=2)) (
Ae (Ah (n13-1)) λn24=>
AC 5 (
AU 6 (n24,()) λn25=>
Ag (decide (n25>=1)) (
AD<|
.ex [.adr] (c1 λa26=>0<=n25/\n25<(Ao data)/\data.a=some a26) (u1 λa27=>
AE T.a50 a27 (Int.toNat n25*1) λs28=>
.ex [.adr] (c1 λa29=>0<=Ah (n25-1)/\Ah (n25-1)<(Ao data)/\data.a=some a29) (u1 λa30=>
AE T.a50 a30 (Int.toNat (Ah (n25-1))*1) λs31=>
Aw F.a2 [.string s28,.string s31] λb32=>
AH<|
Ag (not b32) (
Ai 5 [])<|
AC 7 (
AD<|
.ex [.adr] (c1 λa33=>0<=Ah (n25-1)/\Ah (n25-1)<(Ao data)/\data.a=some a33) (u1 λa34=>
AE T.a50 a34 (Int.toNat (Ah (n25-1))*1) λs35=>
.ex [.adr] (c1 λa36=>0<=n25/\n25<(Ao data)/\data.a=some a36) (u1 λa37=>
AE T.a50 a37 (Int.toNat n25*1) λs38=>
.ex [.adr] (c1 λa39=>0<=n25/\n25<(Ao data)/\data.a=some a39) (u1 λa40=>
AI T.a50 a40 (Int.toNat n25*1) (.string s35)<|
.ex [.adr] (c1 λa41=>0<=Ah (n25-1)/\Ah (n25-1)<(Ao data)/\data.a=some a41) (u1 λa42=>
AI T.a50 a42 (Int.toNat (Ah (n25-1))*1) (.string s38)<|
AH<|
Ai 7 [])))))<|
Ae (Ah (n25-1)) λn43=>
Ai 6 [Aa n43])))<|
Ai 5 [])<|
Ai 4 [])<|
Ai 4 [])<|
AC 4 (
Ag (decide (Ah (b-n13)>=2)) (
Ae (Ah (n13+1)) λn44=>
AC 5 (
AU 6 (n44,()) λn45=>
Ag (decide (n45<b)) (
AD<|
.ex [.adr] (c1 λa46=>0<=n45/\n45<(Ao data)/\data.a=some a46) (u1 λa47=>
AE T.a50 a47 (Int.toNat n45*1) λs48=>
.ex [.adr] (c1 λa49=>0<=Ah (n45-1)/\Ah (n45-1)<(Ao data)/\data.a=some a49) (u1 λa50=>
AE T.a50 a50 (Int.toNat (Ah (n45-1))*1) λs51=>
Aw F.a2 [.string s48,.string s51] λb52=>
AH<|
Ag (not b52) (
Ai 5 [])<|
AC 7 (
AD<|
.ex [.adr] (c1 λa53=>0<=Ah (n45-1)/\Ah (n45-1)<(Ao data)/\data.a=some a53) (u1 λa54=>
AE T.a50 a54 (Int.toNat (Ah (n45-1))*1) λs55=>
.ex [.adr] (c1 λa56=>0<=n45/\n45<(Ao data)/\data.a=some a56) (u1 λa57=>
AE T.a50 a57 (Int.toNat n45*1) λs58=>
.ex [.adr] (c1 λa59=>0<=n45/\n45<(Ao data)/\data.a=some a59) (u1 λa60=>
AI T.a50 a60 (Int.toNat n45*1) (.string s55)<|
.ex [.adr] (c1 λa61=>0<=Ah (n45-1)/\Ah (n45-1)<(Ao data)/\data.a=some a61) (u1 λa62=>
AI T.a50 a62 (Int.toNat (Ah (n45-1))*1) (.string s58)<|
AH<|
Ai 7 [])))))<|
Ae (Ah (n45+1)) λn63=>
Ai 6 [Aa n63])))<|
Ai 5 [])<|
Ai 4 [])<|
Ai 4 [])<|
Ai 3 [Aa n13]) λn64=>
Ae (Ah (n2+1)) λn65=>
Ai 2 [Aa n64,Aa n65])<|
Ai 1 [])<|
Ai 0 [.bool false]
def zf2 (x:ByteArray) (y:ByteArray):Prog :=
Ax 1 (
Aw F.a4 [.string x] λb0=>
Ag b0 (
Aw F.a4 [.string y] λb1=>
Ay (not b1 || Op.bytesLess (ByteArray.toList x) (ByteArray.toList y)) λb2=>
Ai 1 [.bool b2])<|
Ay (Op.bytesLess (ByteArray.toList x) (ByteArray.toList y)) λb3=>
Ai 1 [.bool b3]) λb4=>
Ai 0 [.bool b4]
def z0b3 (data:Sl) (a b:Int) (pivot:Int):Prog :=
AC 1 (
AD<|
.ex [.adr] (c1 λa0=>0<=pivot/\pivot<(Ao data)/\data.a=some a0) (u1 λa1=>
AE T.a50 a1 (Int.toNat pivot*1) λs2=>
.ex [.adr] (c1 λa3=>0<=a/\a<(Ao data)/\data.a=some a3) (u1 λa4=>
AE T.a50 a4 (Int.toNat a*1) λs5=>
.ex [.adr] (c1 λa6=>0<=a/\a<(Ao data)/\data.a=some a6) (u1 λa7=>
AI T.a50 a7 (Int.toNat a*1) (.string s2)<|
.ex [.adr] (c1 λa8=>0<=pivot/\pivot<(Ao data)/\data.a=some a8) (u1 λa9=>
AI T.a50 a9 (Int.toNat pivot*1) (.string s5)<|
AH<|
Ai 1 [])))))<|
Ae (Ah (a+1)) λn10=>
Ae (Ah (b-1)) λn11=>
Af 1 (
Be 2 (n10,(n11,())) λn12 n13=>
AR 3 (
Af 4 (
AU 5 (n12,()) λn14=>
Ax 6 (
AD<|
.ex [.adr] (c1 λa15=>decide (n14<=n13)=true->0<=a/\a<(Ao data)/\data.a=some a15) (u1 λa16=>
AY (decide (n14<=n13)=true) T.a50 a16 (Int.toNat a*1) λs17=>
.ex [.adr] (c1 λa18=>decide (n14<=n13)=true->0<=n14/\n14<(Ao data)/\data.a=some a18) (u1 λa19=>
AY (decide (n14<=n13)=true) T.a50 a19 (Int.toNat n14*1) λs20=>
Ag (decide (n14<=n13)) (
Aw F.a2 [.string s17,.string s20] λb21=>
AH<|
Ai 6 [.bool (not b21)])<|
AH<|
Ai 6 [.bool false]))) λb22=>
Ag b22 (
Ae (Ah (n14+1)) λn23=>
Ai 5 [Aa n23])<|
Ai 4 [Aa n14]) λn24=>
Af 4 (
AU 5 (n13,()) λn25=>
Ax 6 (
AD<|
.ex [.adr] (c1 λa26=>decide (n24<=n25)=true->0<=a/\a<(Ao data)/\data.a=some a26) (u1 λa27=>
AY (decide (n24<=n25)=true) T.a50 a27 (Int.toNat a*1) λs28=>
.ex [.adr] (c1 λa29=>decide (n24<=n25)=true->0<=n25/\n25<(Ao data)/\data.a=some a29) (u1 λa30=>
AY (decide (n24<=n25)=true) T.a50 a30 (Int.toNat n25*1) λs31=>
Ag (decide (n24<=n25)) (
Aw F.a2 [.string s28,.string s31] λb32=>
AH<|
Ai 6 [.bool b32])<|
AH<|
Ai 6 [.bool false]))) λb33=>
Ag b33 (
Ae (Ah (n25-1)) λn34=>
Ai 5 [Aa n34])<|
Ai 4 [Aa n25]) λn35=>
Ag (decide (n24>n35)) (
Ai 1 [Aa n24])<|
AC 4 (
AD<|
.ex [.adr] (c1 λa36=>0<=n35/\n35<(Ao data)/\data.a=some a36) (u1 λa37=>
AE T.a50 a37 (Int.toNat n35*1) λs38=>
.ex [.adr] (c1 λa39=>0<=n24/\n24<(Ao data)/\data.a=some a39) (u1 λa40=>
AE T.a50 a40 (Int.toNat n24*1) λs41=>
.ex [.adr] (c1 λa42=>0<=n24/\n24<(Ao data)/\data.a=some a42) (u1 λa43=>
AI T.a50 a43 (Int.toNat n24*1) (.string s38)<|
.ex [.adr] (c1 λa44=>0<=n35/\n35<(Ao data)/\data.a=some a44) (u1 λa45=>
AI T.a50 a45 (Int.toNat n35*1) (.string s41)<|
AH<|
Ai 4 [])))))<|
Ae (Ah (n24+1)) λn46=>
Ae (Ah (n35-1)) λn47=>
Ai 3 [Aa n46,Aa n47]) λn48 n49=>
Ai 2 [Aa n48,Aa n49]) λn50=>
Ae n50 λn51=>
Ai 0 [Aa n51]
def z0b4 (data:Sl) (a b:Int) (pivot:Int):Prog :=
AC 1 (
AD<|
.ex [.adr] (c1 λa0=>0<=pivot/\pivot<(Ao data)/\data.a=some a0) (u1 λa1=>
AE T.a50 a1 (Int.toNat pivot*1) λs2=>
.ex [.adr] (c1 λa3=>0<=a/\a<(Ao data)/\data.a=some a3) (u1 λa4=>
AE T.a50 a4 (Int.toNat a*1) λs5=>
.ex [.adr] (c1 λa6=>0<=a/\a<(Ao data)/\data.a=some a6) (u1 λa7=>
AI T.a50 a7 (Int.toNat a*1) (.string s2)<|
.ex [.adr] (c1 λa8=>0<=pivot/\pivot<(Ao data)/\data.a=some a8) (u1 λa9=>
AI T.a50 a9 (Int.toNat pivot*1) (.string s5)<|
AH<|
Ai 1 [])))))<|
Ae (Ah (a+1)) λn10=>
Ae (Ah (b-1)) λn11=>
Af 1 (
AU 2 (n10,()) λn12=>
Ax 3 (
AD<|
.ex [.adr] (c1 λa13=>decide (n12<=n11)=true->0<=n12/\n12<(Ao data)/\data.a=some a13) (u1 λa14=>
AY (decide (n12<=n11)=true) T.a50 a14 (Int.toNat n12*1) λs15=>
.ex [.adr] (c1 λa16=>decide (n12<=n11)=true->0<=a/\a<(Ao data)/\data.a=some a16) (u1 λa17=>
AY (decide (n12<=n11)=true) T.a50 a17 (Int.toNat a*1) λs18=>
Ag (decide (n12<=n11)) (
Aw F.a2 [.string s15,.string s18] λb19=>
AH<|
Ai 3 [.bool b19])<|
AH<|
Ai 3 [.bool false]))) λb20=>
Ag b20 (
Ae (Ah (n12+1)) λn21=>
Ai 2 [Aa n21])<|
Ai 1 [Aa n12]) λn22=>
Af 1 (
AU 2 (n11,()) λn23=>
Ax 3 (
AD<|
.ex [.adr] (c1 λa24=>decide (n22<=n23)=true->0<=n23/\n23<(Ao data)/\data.a=some a24) (u1 λa25=>
AY (decide (n22<=n23)=true) T.a50 a25 (Int.toNat n23*1) λs26=>
.ex [.adr] (c1 λa27=>decide (n22<=n23)=true->0<=a/\a<(Ao data)/\data.a=some a27) (u1 λa28=>
AY (decide (n22<=n23)=true) T.a50 a28 (Int.toNat a*1) λs29=>
Ag (decide (n22<=n23)) (
Aw F.a2 [.string s26,.string s29] λb30=>
AH<|
Ai 3 [.bool (not b30)])<|
AH<|
Ai 3 [.bool false]))) λb31=>
Ag b31 (
Ae (Ah (n23-1)) λn32=>
Ai 2 [Aa n32])<|
Ai 1 [Aa n23]) λn33=>
Ag (decide (n22>n33)) (
AC 1 (
AD<|
.ex [.adr] (c1 λa34=>0<=a/\a<(Ao data)/\data.a=some a34) (u1 λa35=>
AE T.a50 a35 (Int.toNat a*1) λs36=>
.ex [.adr] (c1 λa37=>0<=n33/\n33<(Ao data)/\data.a=some a37) (u1 λa38=>
AE T.a50 a38 (Int.toNat n33*1) λs39=>
.ex [.adr] (c1 λa40=>0<=n33/\n33<(Ao data)/\data.a=some a40) (u1 λa41=>
AI T.a50 a41 (Int.toNat n33*1) (.string s36)<|
.ex [.adr] (c1 λa42=>0<=a/\a<(Ao data)/\data.a=some a42) (u1 λa43=>
AI T.a50 a43 (Int.toNat a*1) (.string s39)<|
AH<|
Ai 1 [])))))<|
Ae n33 λn44=>
Ai 0 [Aa n44,.bool true])<|
AC 1 (
AD<|
.ex [.adr] (c1 λa45=>0<=n33/\n33<(Ao data)/\data.a=some a45) (u1 λa46=>
AE T.a50 a46 (Int.toNat n33*1) λs47=>
.ex [.adr] (c1 λa48=>0<=n22/\n22<(Ao data)/\data.a=some a48) (u1 λa49=>
AE T.a50 a49 (Int.toNat n22*1) λs50=>
.ex [.adr] (c1 λa51=>0<=n22/\n22<(Ao data)/\data.a=some a51) (u1 λa52=>
AI T.a50 a52 (Int.toNat n22*1) (.string s47)<|
.ex [.adr] (c1 λa53=>0<=n33/\n33<(Ao data)/\data.a=some a53) (u1 λa54=>
AI T.a50 a54 (Int.toNat n33*1) (.string s50)<|
AH<|
Ai 1 [])))))<|
Ae (Ah (n22+1)) λn55=>
Ae (Ah (n33-1)) λn56=>
Af 1 (
Be 2 (n55,(n56,())) λn57 n58=>
AR 3 (
Af 4 (
AU 5 (n57,()) λn59=>
Ax 6 (
AD<|
.ex [.adr] (c1 λa60=>decide (n59<=n58)=true->0<=n59/\n59<(Ao data)/\data.a=some a60) (u1 λa61=>
AY (decide (n59<=n58)=true) T.a50 a61 (Int.toNat n59*1) λs62=>
.ex [.adr] (c1 λa63=>decide (n59<=n58)=true->0<=a/\a<(Ao data)/\data.a=some a63) (u1 λa64=>
AY (decide (n59<=n58)=true) T.a50 a64 (Int.toNat a*1) λs65=>
Ag (decide (n59<=n58)) (
Aw F.a2 [.string s62,.string s65] λb66=>
AH<|
Ai 6 [.bool b66])<|
AH<|
Ai 6 [.bool false]))) λb67=>
Ag b67 (
Ae (Ah (n59+1)) λn68=>
Ai 5 [Aa n68])<|
Ai 4 [Aa n59]) λn69=>
Af 4 (
AU 5 (n58,()) λn70=>
Ax 6 (
AD<|
.ex [.adr] (c1 λa71=>decide (n69<=n70)=true->0<=n70/\n70<(Ao data)/\data.a=some a71) (u1 λa72=>
AY (decide (n69<=n70)=true) T.a50 a72 (Int.toNat n70*1) λs73=>
.ex [.adr] (c1 λa74=>decide (n69<=n70)=true->0<=a/\a<(Ao data)/\data.a=some a74) (u1 λa75=>
AY (decide (n69<=n70)=true) T.a50 a75 (Int.toNat a*1) λs76=>
Ag (decide (n69<=n70)) (
Aw F.a2 [.string s73,.string s76] λb77=>
AH<|
Ai 6 [.bool (not b77)])<|
AH<|
Ai 6 [.bool false]))) λb78=>
Ag b78 (
Ae (Ah (n70-1)) λn79=>
Ai 5 [Aa n79])<|
Ai 4 [Aa n70]) λn80=>
Ag (decide (n69>n80)) (
Ai 1 [Aa n80])<|
AC 4 (
AD<|
.ex [.adr] (c1 λa81=>0<=n80/\n80<(Ao data)/\data.a=some a81) (u1 λa82=>
AE T.a50 a82 (Int.toNat n80*1) λs83=>
.ex [.adr] (c1 λa84=>0<=n69/\n69<(Ao data)/\data.a=some a84) (u1 λa85=>
AE T.a50 a85 (Int.toNat n69*1) λs86=>
.ex [.adr] (c1 λa87=>0<=n69/\n69<(Ao data)/\data.a=some a87) (u1 λa88=>
AI T.a50 a88 (Int.toNat n69*1) (.string s83)<|
.ex [.adr] (c1 λa89=>0<=n80/\n80<(Ao data)/\data.a=some a89) (u1 λa90=>
AI T.a50 a90 (Int.toNat n80*1) (.string s86)<|
AH<|
Ai 4 [])))))<|
Ae (Ah (n69+1)) λn91=>
Ae (Ah (n80-1)) λn92=>
Ai 3 [Aa n91,Aa n92]) λn93 n94=>
Ai 2 [Aa n93,Aa n94]) λn95=>
AC 1 (
AD<|
.ex [.adr] (c1 λa96=>0<=a/\a<(Ao data)/\data.a=some a96) (u1 λa97=>
AE T.a50 a97 (Int.toNat a*1) λs98=>
.ex [.adr] (c1 λa99=>0<=n95/\n95<(Ao data)/\data.a=some a99) (u1 λa100=>
AE T.a50 a100 (Int.toNat n95*1) λs101=>
.ex [.adr] (c1 λa102=>0<=n95/\n95<(Ao data)/\data.a=some a102) (u1 λa103=>
AI T.a50 a103 (Int.toNat n95*1) (.string s98)<|
.ex [.adr] (c1 λa104=>0<=a/\a<(Ao data)/\data.a=some a104) (u1 λa105=>
AI T.a50 a105 (Int.toNat a*1) (.string s101)<|
AH<|
Ai 1 [])))))<|
Ae n95 λn106=>
Ai 0 [Aa n106,.bool false]
def z0ba (data:Sl) (lo hi first:Int) (cmp:Value):Prog :=
Ae lo λn0=>
AC 1 (
AU 2 (n0,()) λn1=>
Ae (Ah (Ah (2*n1)+1)) λn2=>
Ag (decide (n2>=hi)) (
Ai 1 [])<|
Ax 3 (
AD<|
.ex [.adr] (c1 λa3=>decide (Ah (n2+1)<hi)=true->0<=Ah (first+n2)/\Ah (first+n2)<(Ao data)/\data.a=some a3) (u1 λa4=>
BR (decide (Ah (n2+1)<hi)=true) T.a15 a4 (Int.toNat (Ah (first+n2))*4) λn5 n6 n7 n8=>
.ex [.adr] (c1 λa9=>decide (Ah (n2+1)<hi)=true->0<=Ah (Ah (first+n2)+1)/\Ah (Ah (first+n2)+1)<(Ao data)/\data.a=some a9) (u1 λa10=>
BR (decide (Ah (n2+1)<hi)=true) T.a15 a10 (Int.toNat (Ah (Ah (first+n2)+1))*4) λn11 n12 n13 n14=>
Ag (decide (Ah (n2+1)<hi)) (
BS cmp [Bz n5 n6 n7 n8,Bz n11 n12 n13 n14] λn15=>
AH<|
Ai 3 [.bool (decide (n15<0))])<|
AH<|
Ai 3 [.bool false]))) λb16=>
Af 3 (
Ag b16 (
Ae (Ah (n2+1)) λn17=>
Ai 3 [Aa n17])<|
Ai 3 [Aa n2]) λn18=>
AD<|
.ex [.adr] (c1 λa19=>0<=Ah (first+n1)/\Ah (first+n1)<(Ao data)/\data.a=some a19) (u1 λa20=>
BT T.a15 a20 (Int.toNat (Ah (first+n1))*4) λn21 n22 n23 n24=>
.ex [.adr] (c1 λa25=>0<=Ah (first+n18)/\Ah (first+n18)<(Ao data)/\data.a=some a25) (u1 λa26=>
BT T.a15 a26 (Int.toNat (Ah (first+n18))*4) λn27 n28 n29 n30=>
BS cmp [Bz n21 n22 n23 n24,Bz n27 n28 n29 n30] λn31=>
AH<|
Ag (not (decide (n31<0))) (
Ai 0 [])<|
AC 3 (
AD<|
.ex [.adr] (c1 λa32=>0<=Ah (first+n18)/\Ah (first+n18)<(Ao data)/\data.a=some a32) (u1 λa33=>
BT T.a15 a33 (Int.toNat (Ah (first+n18))*4) λn34 n35 n36 n37=>
.ex [.adr] (c1 λa38=>0<=Ah (first+n1)/\Ah (first+n1)<(Ao data)/\data.a=some a38) (u1 λa39=>
BT T.a15 a39 (Int.toNat (Ah (first+n1))*4) λn40 n41 n42 n43=>
.ex [.adr] (c1 λa44=>0<=Ah (first+n1)/\Ah (first+n1)<(Ao data)/\data.a=some a44) (u1 λa45=>
AI T.a15 a45 (Int.toNat (Ah (first+n1))*4) (Bz n34 n35 n36 n37)<|
.ex [.adr] (c1 λa46=>0<=Ah (first+n18)/\Ah (first+n18)<(Ao data)/\data.a=some a46) (u1 λa47=>
AI T.a15 a47 (Int.toNat (Ah (first+n18))*4) (Bz n40 n41 n42 n43)<|
AH<|
Ai 3 [])))))<|
Ae n18 λn48=>
Ai 2 [Aa n48])))<|
Ai 0 []
def z0as (data:Sl) (a:Int) (swaps:Option Addr) (cmp:Value):Prog :=
Az F.a160 [data.v,Aa (Ah (a-1)),Aa a,Aa (Ah (a+1)),Al swaps,cmp] λn0=>
Ae n0 λn1=>
Ai 0 [Aa n1]
def z0au (data:Sl) (a b c:Int) (swaps:Option Addr) (cmp:Value):Prog :=
Av F.a163 [data.v,Aa a,Aa b,Al swaps,cmp] λn0 n1=>
Ae n0 λn2=>
Ae n1 λn3=>
Av F.a163 [data.v,Aa n3,Aa c,Al swaps,cmp] λn4 n5=>
Ae n4 λn6=>
Ae n5 λn7=>
Av F.a163 [data.v,Aa n2,Aa n6,Al swaps,cmp] λn8 n9=>
Ae n8 λn10=>
Ae n9 λn11=>
Ae n11 λn12=>
Ai 0 [Aa n12]
def z0bb (data:Sl) (lo hi:Int) (first:Int):Prog :=
Ae lo λn0=>
AC 1 (
AU 2 (n0,()) λn1=>
Ae (Ah (Ah (2*n1)+1)) λn2=>
Ag (decide (n2>=hi)) (
Ai 1 [])<|
Ax 3 (
AD<|
.ex [.adr] (c1 λa3=>decide (Ah (n2+1)<hi)=true->0<=Ah (first+n2)/\Ah (first+n2)<(Ao data)/\data.a=some a3) (u1 λa4=>
AY (decide (Ah (n2+1)<hi)=true) T.a50 a4 (Int.toNat (Ah (first+n2))*1) λs5=>
.ex [.adr] (c1 λa6=>decide (Ah (n2+1)<hi)=true->0<=Ah (Ah (first+n2)+1)/\Ah (Ah (first+n2)+1)<(Ao data)/\data.a=some a6) (u1 λa7=>
AY (decide (Ah (n2+1)<hi)=true) T.a50 a7 (Int.toNat (Ah (Ah (first+n2)+1))*1) λs8=>
Ag (decide (Ah (n2+1)<hi)) (
Aw F.a2 [.string s5,.string s8] λb9=>
AH<|
Ai 3 [.bool b9])<|
AH<|
Ai 3 [.bool false]))) λb10=>
Af 3 (
Ag b10 (
Ae (Ah (n2+1)) λn11=>
Ai 3 [Aa n11])<|
Ai 3 [Aa n2]) λn12=>
AD<|
.ex [.adr] (c1 λa13=>0<=Ah (first+n1)/\Ah (first+n1)<(Ao data)/\data.a=some a13) (u1 λa14=>
AE T.a50 a14 (Int.toNat (Ah (first+n1))*1) λs15=>
.ex [.adr] (c1 λa16=>0<=Ah (first+n12)/\Ah (first+n12)<(Ao data)/\data.a=some a16) (u1 λa17=>
AE T.a50 a17 (Int.toNat (Ah (first+n12))*1) λs18=>
Aw F.a2 [.string s15,.string s18] λb19=>
AH<|
Ag (not b19) (
Ai 0 [])<|
AC 3 (
AD<|
.ex [.adr] (c1 λa20=>0<=Ah (first+n12)/\Ah (first+n12)<(Ao data)/\data.a=some a20) (u1 λa21=>
AE T.a50 a21 (Int.toNat (Ah (first+n12))*1) λs22=>
.ex [.adr] (c1 λa23=>0<=Ah (first+n1)/\Ah (first+n1)<(Ao data)/\data.a=some a23) (u1 λa24=>
AE T.a50 a24 (Int.toNat (Ah (first+n1))*1) λs25=>
.ex [.adr] (c1 λa26=>0<=Ah (first+n1)/\Ah (first+n1)<(Ao data)/\data.a=some a26) (u1 λa27=>
AI T.a50 a27 (Int.toNat (Ah (first+n1))*1) (.string s22)<|
.ex [.adr] (c1 λa28=>0<=Ah (first+n12)/\Ah (first+n12)<(Ao data)/\data.a=some a28) (u1 λa29=>
AI T.a50 a29 (Int.toNat (Ah (first+n12))*1) (.string s25)<|
AH<|
Ai 3 [])))))<|
Ae n12 λn30=>
Ai 2 [Aa n30])))<|
Ai 0 []
def z0at (data:Sl) (a:Int) (swaps:Option Addr):Prog :=
Az F.a161 [data.v,Aa (Ah (a-1)),Aa a,Aa (Ah (a+1)),Al swaps] λn0=>
Ae n0 λn1=>
Ai 0 [Aa n1]
def z0av (data:Sl) (a b c:Int) (swaps:Option Addr):Prog :=
Av F.a164 [data.v,Aa a,Aa b,Al swaps] λn0 n1=>
Ae n0 λn2=>
Ae n1 λn3=>
Av F.a164 [data.v,Aa n3,Aa c,Al swaps] λn4 n5=>
Ae n4 λn6=>
Ae n5 λn7=>
Av F.a164 [data.v,Aa n2,Aa n6,Al swaps] λn8 n9=>
Ae n8 λn10=>
Ae n9 λn11=>
Ae n11 λn12=>
Ai 0 [Aa n12]
def zf4 (x:ByteArray):Prog :=
Ay (not (ByteArray.toList x == ByteArray.toList x)) λb0=>
Ai 0 [.bool b0]
def z0ax (data:Sl) (a b:Int) (swaps:Option Addr) (cmp:Value):Prog :=
AD<|
.ex [.adr] (c1 λa0=>0<=b/\b<(Ao data)/\data.a=some a0) (u1 λa1=>
BT T.a15 a1 (Int.toNat b*4) λn2 n3 n4 n5=>
.ex [.adr] (c1 λa6=>0<=a/\a<(Ao data)/\data.a=some a6) (u1 λa7=>
BT T.a15 a7 (Int.toNat a*4) λn8 n9 n10 n11=>
BS cmp [Bz n2 n3 n4 n5,Bz n8 n9 n10 n11] λn12=>
AH<|
Ag (decide (n12<0)) (
AQ swaps λa14=>
BU T.a13 a14 λn15=>
AQ swaps λa17=>
Ac T.a13 a17 (Aa (Ah (n15+1)))<|
Ae b λn18=>
Ae a λn19=>
Ai 0 [Aa n18,Aa n19])<|
Ae a λn20=>
Ae b λn21=>
Ai 0 [Aa n20,Aa n21]))
def z0ay (data:Sl) (a b:Int) (swaps:Option Addr):Prog :=
AD<|
.ex [.adr] (c1 λa0=>0<=b/\b<(Ao data)/\data.a=some a0) (u1 λa1=>
AE T.a50 a1 (Int.toNat b*1) λs2=>
.ex [.adr] (c1 λa3=>0<=a/\a<(Ao data)/\data.a=some a3) (u1 λa4=>
AE T.a50 a4 (Int.toNat a*1) λs5=>
Aw F.a2 [.string s2,.string s5] λb6=>
AH<|
Ag b6 (
AQ swaps λa8=>
BU T.a13 a8 λn9=>
AQ swaps λa11=>
Ac T.a13 a11 (Aa (Ah (n9+1)))<|
Ae b λn12=>
Ae a λn13=>
Ai 0 [Aa n12,Aa n13])<|
Ae a λn14=>
Ae b λn15=>
Ai 0 [Aa n14,Aa n15]))
end Go.Dec
