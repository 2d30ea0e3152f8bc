/- What the claim of this folder leans on: our own texts, joined, without what it does not use. -/
import Derived.Test.YtlmaipahgknahaaGreatRows
import Derived.WalkKit
import Derived.ProofKit
import Derived.OpenShut
import Derived.RowKit3
import Derived.OrdersHeld
import Derived.Scope
import Derived.KernelRfl
import Derived.Laws.Sem
import Derived.Laws.StructEq
import Derived.Deep.AppendSrc
import Derived.Laws.BytesArg
import Derived.Laws.RangeString
import Derived.Maps.RangeRun
import Derived.Lib.ConvBytes
import Derived.Lib.SlBytesConst
import Derived.ChangeSlices
import Derived.ChangeMaps5
import Derived.ChangeSame
import Derived.Deep.Slices
import Derived.Deep.Fields
import Derived.Test.YtlmaipahgknahaaGreatProg
import Derived.WideKeyRuns
import Derived.DeepKeys3
import Derived.Laws.MakeOwn
import Derived.Sort.MapsRangeIn
import Derived.Sort.KeysCollected
import Derived.RangeFuncNested
import Derived.RangeFuncBound
import Derived.RangeFuncCalls
import Derived.RangeFuncLeaves
import Derived.RangeFuncBox
import Derived.OwnWalkIn
import Derived.TacticsInMore
import Derived.RegionIn
import Derived.LoopNIn
import Derived.LoopIn
import Derived.Maps.AppendAt
import Derived.Shelf.Abstract
import Derived.Shelf.Sort.Plain
import Derived.Shelf.Slices.In.SortNone
import Derived.Test.YtlmaipahgknahaaGreatQNil1
import Derived.Test.YtlmaipahgknahaaGreatQNil2
import Derived.Test.YtlmaipahgknahaaGreatQNil3
set_option linter.unusedVariables false
set_option linter.unusedSimpArgs false
namespace Go.Dec
def z04n (room:Int):Prog :=
Ak (decide (room<0) || decide (room>4194304)) (
Ap 0 [Ad none,Ah 2])<|
B3 (Instr.makeMap T.a22 none) λm0=>
Ab T.a7 (.agg #[Ah (-1),.bool false,Ah room,Ah 0,.map m0]) λa1=>
Ap 0 [Ax a1,Ah 0]
theorem zsa (room:Int):FnS (z04n room) F.a42 #[.int .i64 room]:=dV ⟨[],[],[],[]⟩ Go.Proofs.Tryz.func11 (by kernel_rfl)
def z04b (d:Option Addr) (name:ByteArray) (parts:Sl):Prog :=
Am F.a40 [Ad d] λn0=>
Af n0 λn1=>
Ak (n1 != 0) (
Af n1 λn2=>
Ap 0 [Ah n2])<|
Ao F.a41 [.string name] λb3=>
Ak (not b3) (
Ap 0 [Ah 2])<|
Bg 1 (
Br 2 (0,(0,())) λn4 n5=>
Ak (decide (n5<(Al parts))) (
.ex [.adr] (c1 λa6=>0<=n5/\n5<(Al parts)/\parts.a=some a6) (u1 λa7=>
AS T.a42 a7 (Int.toNat n5*1) λl8=>
Am F.a30 [Ad d] λn9=>
Ak (decide ((Al l8)>AF (n9-n4))) (
Ap 0 [Ah 5])<|
Af (AF (n4+(Al l8))) λn10=>
Ap 2 [Ah n10,Ah (AF (n5+1))]))<|
Ap 1 [Ah n4]) λn11=>
AI d λa13=>
Bn T.a22 a13 4 λm14=>
.read True (Instr.lookup T.a22 (.map m14) (.string name) true) (.tup [.one .ptr,.one .bool]) (u2 λp15 b16=>
Ag b16 λb17=>
Bz 1 (
Ak (not b17) (
AI d λa19=>
Bn T.a22 a19 4 λm20=>
Bv (Builtin.len_ #[T.a22] T.a12 #[.map m20]) λn21=>
Ak (decide (n21>=128)) (
Ap 0 [Ah 5])<|
Ab T.a8 (.agg #[.slice none 0 0,Ah 0]) λa22=>
AI d λa24=>
Bn T.a22 a24 4 λm25=>
B5 (Instr.mapUpdate T.a22 (.map m25) (.string name) (Ax a22))<|
Ap 1 [Ax a22])<|
Ap 1 [Ad p15]) λp26=>
Az 1 (
AA 2 (0,()) λn27=>
Ak (decide (n27<(Al parts))) (
.ex [.adr] (c1 λa28=>0<=n27/\n27<(Al parts)/\parts.a=some a28) (u1 λa29=>
AS T.a42 a29 (Int.toNat n27*1) λl30=>
AI p26 λa32=>
AS T.a42 a32 0 λl33=>
AR (app T.a42 T.a42 T.a42 l33.v l30.v) λl34=>
AI p26 λa36=>
AT T.a42 a36 0 l34.v<|
Ap 2 [Ah (AF (n27+1))]))<|
Ap 1 [])<|
AI d λa38=>
Ar T.a12 a38 3 λn39=>
AI d λa41=>
AT T.a12 a41 3 (Ah (AF (n39+n11)))<|
AI d λa43=>
AE F.a43 [BC a43 0]<|
Ap 0 [Ah 0])
theorem zry (d:Option Addr) (name:ByteArray) (parts:Sl):FnS (z04b d name parts) F.a28 #[.pointer d,.string name,.slice parts.a parts.len parts.cap]:=dV ⟨[(604426016319167176900660,[(11,.one .ptr)])],[(0,[(8,.one (.int .i64))]),(2,[])],[],[(0,[(8,.one (.int .i64)),(26,.one (.int .i64))]),(2,[(69,.one (.int .i64))])]⟩ Go.Proofs.Tryz.func25 (by kernel_rfl)
def z04h (d:Option Addr) (name:ByteArray):Prog :=
.call F.a38 [Ad d,.string name] (sG [.slc,.int .i64]) (u2 λl0 (n1:Int)=>
Af (Al l0) λn2=>
Ap 0 [Ah n2])
theorem zs4 (d:Option Addr) (name:ByteArray):FnS (z04h d name) F.a36 #[.pointer d,.string name]:=dV ⟨[],[],[],[]⟩ Go.Proofs.Tryz.func27 (by kernel_rfl)
def z04g (d:Option Addr) (name:ByteArray):Prog :=
Am F.a40 [Ad d] λn0=>
Af n0 λn1=>
Ak (n1 != 0) (
Af n1 λn2=>
Ap 0 [Ah n2])<|
AI d λa4=>
Bn T.a22 a4 4 λm5=>
BD (Instr.lookup T.a22 (.map m5) (.string name) false) λp6=>
Ak (Option.isNone p6) (
Ap 0 [Ah 3])<|
AE F.a39 [Ad d,.string name]<|
AI d λa8=>
AE F.a43 [BC a8 0]<|
Ap 0 [Ah 0]
theorem zs3 (d:Option Addr) (name:ByteArray):FnS (z04g d name) F.a34 #[.pointer d,.string name]:=dV ⟨[],[],[],[]⟩ Go.Proofs.Tryz.func44 (by kernel_rfl)
def z04l (d:Option Addr):Prog :=
AH (Option.isNone d) (
Ap 0 [Ah 1])<|
AI d λa2=>
AW T.a3 (Addr.add a2 0) 1 λb3=>
AH b3 (
Ap 0 [Ah 9])<|
Ap 0 [Ah 0]
theorem zs8 (d:Option Addr):FnS (z04l d) F.a40 #[.pointer d]:=dV ⟨[],[],[],[]⟩ Go.Proofs.Tryz.func68 (by kernel_rfl)
def z04m (s:ByteArray):Prog :=
Ak (decide (((ByteArray.size s:Nat):Int)<1) || decide (((ByteArray.size s:Nat):Int)>24)) (
Ap 0 [.bool false])<|
AR (convert T.a47 T.a42 (.string s)) λl0=>
Az 1 (
AA 2 (0,()) λn1=>
Ak (decide (n1<(Al l0))) (
.ex [.adr] (c1 λa2=>0<=n1/\n1<(Al l0)/\l0.a=some a2) (u1 λa3=>
BE T.a48 a3 (Int.toNat n1*1) λn4=>
BF n4 λn5=>
Ag (decide (n5>=97) && decide (n5<=122)) λb6=>
Ag (decide (n5>=48) && decide (n5<=57)) λb7=>
Ak (not b6 && not b7 && n5 != 46 && n5 != 45) (
Ap 0 [.bool false])<|
Ap 2 [Ah (AF (n1+1))]))<|
Ap 1 [])<|
Ap 0 [.bool true]
theorem zs9 (s:ByteArray):FnS (z04m s) F.a41 #[.string s]:=dV ⟨[],[(0,[])],[],[(0,[(18,.one (.int .i64))])]⟩ Go.Proofs.Tryz.func69 (by kernel_rfl)
def z04d (d:Option Addr):Prog :=
Ak (Option.isNone d) (
Ap 0 [Ah 0])<|
AL<|
AI d λa1=>
Ar T.a12 a1 2 λn2=>
AI d λa4=>
Ar T.a12 a4 3 λn5=>
Af (if 0>AF (n2-n5) then 0 else AF (n2-n5)) λn6=>
AN<|
Ap 0 [Ah n6]
theorem zs0 (d:Option Addr):FnS (z04d d) F.a30 #[.pointer d]:=dV ⟨[],[],[],[]⟩ Go.Proofs.Tryz.func70 (by kernel_rfl)
def z04o (p:Option Addr):Prog :=
AI p λa1=>
Ar T.a12 a1 0 λn2=>
Az 1 (
Ak (decide (n2>0)) (
AI p λa4=>
Ar T.a12 a4 0 λn5=>
AI p λa7=>
AT T.a12 a7 0 (Ah (AF (n5-1)))<|
AI p λa9=>
Ar T.a12 a9 0 λn10=>
AI p λa12=>
AT T.a3 a12 1 (.bool (n10 == 0))<|
Ap 1 [])<|
Ap 1 [])<|
Ap 0 []
theorem zsb (p:Option Addr):FnS (z04o p) F.a43 #[.pointer p]:=dV ⟨[(17179344902,[])],[],[],[]⟩ Go.Proofs.Tryz.func71 (by kernel_rfl)
def zf83 (m:Option Nat):Prog :=
Ab T.a22 (.map m) λa0=>
Ap 0 [.func (Fn.func 148) #[] #[Ax a0]]
theorem zf83_calls (m:Option Nat):FnS (zf83 m) F.a80 #[.map m]:=dV ⟨[],[],[],[]⟩ Go.Proofs.Tryz.func72 (by kernel_rfl)
def zf223 (s:ByteArray) (prefix_:ByteArray):Prog :=
Ao F.a57 [.string s,.string prefix_] λb0=>
Ag b0 λb1=>
Ap 0 [.bool b1]
theorem zf223_calls (s prefix_:ByteArray):FnS (zf223 s prefix_) F.a216 #[.string s,.string prefix_]:=dV ⟨[],[],[],[]⟩ Go.Proofs.Tryz.func73 (by kernel_rfl)
def z06v (x:Sl):Prog :=
Af (Al x) λn0=>
Am F.a82 [.int .u64 (IntKind.wrap .u64 n0)] λn1=>
AE F.a205 [x.v,Ah 0,Ah n0,Ah n1]<|
Ap 0 []
def z04j (d:Option Addr) (name:ByteArray):Prog :=
AC T.a8 λa0=>
AO (Option.isNone d=false) d λa2=>
B8 (Option.isNone d=false) T.a22 a2 4 λm3=>
.read (Option.isNone d=false) (Instr.lookup T.a22 (.map m3) (.string name) false) sP (u1 λp4=>
Ak (Option.isNone d || Option.isNone p4) (
AD T.a8 a0 (.agg #[.slice none 0 0,Ah 0])<|
BG T.a8 a0 λl5 n6=>
Ap 0 [BH l5 n6])<|
AI d λa8=>
Bn T.a22 a8 4 λm9=>
BD (Instr.lookup T.a22 (.map m9) (.string name) false) λp10=>
AI p10 λa12=>
BG T.a8 a12 λl13 n14=>
AD T.a8 a0 (BH l13 n14)<|
BG T.a8 a0 λl15 n16=>
Ap 0 [BH l15 n16])
theorem zs6 (d:Option Addr) (name:ByteArray):FnS (z04j d name) F.a38 #[.pointer d,.string name]:=dV ⟨[],[],[],[]⟩ Go.Proofs.Tryz.func75 (by kernel_rfl)
def z04e (d:Option Addr):Prog :=
AO (Option.isNone d=false) d λa1=>
Be (Option.isNone d=false) T.a3 (Addr.add a1 0) 1 λb2=>
Ag (Option.isNone d || b2) λb3=>
Ap 0 [.bool b3]
theorem zs1 (d:Option Addr):FnS (z04e d) F.a31 #[.pointer d]:=dV ⟨[],[],[],[]⟩ Go.Proofs.Tryz.func97 (by kernel_rfl)
def z04f (d:Option Addr) (name:ByteArray):Prog :=
Ak (Option.isNone d) (
Ap 0 [.slice none 0 0,Ah 1])<|
AI d λa1=>
Bn T.a22 a1 4 λm2=>
BD (Instr.lookup T.a22 (.map m2) (.string name) false) λp3=>
Ak (Option.isNone p3) (
Ap 0 [.slice none 0 0,Ah 3])<|
AI p3 λa5=>
AS T.a42 a5 0 λl6=>
An F.a0 [l6.v] λl7=>
Ap 0 [l7.v,Ah 0]
theorem zs2 (d:Option Addr) (name:ByteArray):FnS (z04f d name) F.a33 #[.pointer d,.string name]:=dV ⟨[],[],[],[]⟩ Go.Proofs.Tryz.func102 (by kernel_rfl)
def z04k (d:Option Addr) (name:ByteArray):Prog :=
AI d λa1=>
Bn T.a22 a1 4 λm2=>
BD (Instr.lookup T.a22 (.map m2) (.string name) false) λp3=>
Az 1 (
Ak (not (Option.isNone p3)) (
AL<|
AI d λa5=>
Ar T.a12 a5 3 λn6=>
AI p3 λa8=>
AS T.a42 a8 0 λl9=>
AI d λa11=>
AT T.a12 a11 3 (Ah (AF (n6-(Al l9))))<|
AN<|
AI d λa13=>
Bn T.a22 a13 4 λm14=>
B2 (Builtin.delete_ #[T.a22,T.a47] T.a49 #[.map m14,.string name])<|
Ap 1 [])<|
Ap 1 [])<|
Ap 0 []
theorem zs7 (d:Option Addr) (name:ByteArray):FnS (z04k d name) F.a39 #[.pointer d,.string name]:=dV ⟨[(4398012956684,[])],[],[],[]⟩ Go.Proofs.Tryz.func103 (by kernel_rfl)
def zzr (n:Int) (f:Value):Prog :=
Af n λn0=>
Bg 1 (
Br 2 (0,(n0,())) λn1 n2=>
Ak (decide (n1<n2)) (
Af (AF (Int.fdiv (IntKind.wrap .u64 (AF (n1+n2))) 2)) λn3=>
BI f [Ah n3] λb4=>
Bf 3 (
Ak (not b4) (
Af (AF (n3+1)) λn5=>
Ap 3 [Ah n5,Ah n2])<|
Af n3 λn6=>
Ap 3 [Ah n1,Ah n6]) λn7 n8=>
Ap 2 [Ah n7,Ah n8])<|
Ap 1 [Ah n1]) λn9=>
Af n9 λn10=>
Ap 0 [Ah n10]
theorem znq (n:Int) (f:Value) {w:World} {R:List Value->World->Prop} (h:(zzr n f).wp P (λ_=>True) w λe vs w'=>e=0/\R vs w'):Ret P F.a215 #[.int .i64 n,f] w R:=dS (n:=26) (rv:=[.tmp 4]) { cnd:=[(120259477525,[(5,.one (.int .i64)),(6,.one (.int .i64))])],blk:=[(0,[(5,.one (.int .i64))])],reg:=[],lps:=[(0,[(5,.one (.int .i64)),(6,.one (.int .i64))])] } [.val (.int .i64 n),.any f] Go.Proofs.Tryz.func121 (by kernel_rfl) (by kernel_rfl) (by kernel_rfl) (by kernel_rfl) h
def zzo (x:Sl) (cmp:Value):Prog :=
Af (Al x) λn0=>
Am F.a82 [.int .u64 (IntKind.wrap .u64 n0)] λn1=>
AE F.a203 [x.v,Ah 0,Ah n0,Ah n1,cmp]<|
Ap 0 []
theorem zna (x:Sl) (cmp:Value) {w:World} {R:List Value->World->Prop} (h:(zzo x cmp).wp P (λ_=>True) w λe vs w'=>e=0/\R vs w'):Ret P F.a158 #[.slice x.a x.len x.cap,cmp] w R:=dS (n:=14) (rv:=[]) { cnd:=[],blk:=[],reg:=[],lps:=[] } [.val (.slice x.a x.len x.cap),.any cmp] Go.Proofs.Tryz.func132 (by kernel_rfl) (by kernel_rfl) (by kernel_rfl) (by kernel_rfl) h
def zf1 (x:Int) (y:Int):Prog :=
Ao F.a4 [Ah x] λb0=>
Ag b0 λb1=>
Ao F.a4 [Ah y] λb2=>
Ag b2 λb3=>
Ak b1 (
Ak b3 (
Ap 0 [Ah 0])<|
Ap 0 [Ah (-1)])<|
Ak b3 (
Ap 0 [Ah 1])<|
Ak (decide (x<y)) (
Ap 0 [Ah (-1)])<|
Ak (decide (x>y)) (
Ap 0 [Ah 1])<|
Ap 0 [Ah 0]
theorem zv8 (x y:Int):FnS (zf1 x y) F.a1 #[.int .i64 x,.int .i64 y]:=dV ⟨[],[],[],[]⟩ Go.Proofs.Tryz.func134 (by kernel_rfl)
def zf59 (s:ByteArray) (prefix_:ByteArray):Prog :=
.must (decide (((ByteArray.size s:Nat):Int)>=((ByteArray.size prefix_:Nat):Int))=true->0<=((ByteArray.size prefix_:Nat):Int)/\((ByteArray.size prefix_:Nat):Int)<=((ByteArray.size s:Nat):Int)) <|
Ag (decide (((ByteArray.size s:Nat):Int)>=((ByteArray.size prefix_:Nat):Int)) && ByteArray.toList (ByteArray.extract s 0 (Int.toNat (((ByteArray.size prefix_:Nat):Int)))) == ByteArray.toList prefix_) λb0=>
Ap 0 [.bool b0]
theorem zf59_calls (s prefix_:ByteArray):FnS (zf59 s prefix_) F.a57 #[.string s,.string prefix_]:=dV ⟨[],[],[],[]⟩ Go.Proofs.Tryz.func149 (by kernel_rfl)
def z07s (data:Sl) (a b:Int) (limit:Int):Prog :=
BJ 1 (a,(b,(limit,(true,(true,()))))) λn0 n1 n2 b3 b4=>
BK 2 (
Af (AF (n1-n0)) λn5=>
Ak (decide (n5<=12)) (
AE F.a176 [data.v,Ah n0,Ah n1]<|
Ap 0 [])<|
Ak (n2 == 0) (
AE F.a172 [data.v,Ah n0,Ah n1]<|
Ap 0 [])<|
Bg 3 (
Ak (not b3) (
AE F.a164 [data.v,Ah n0,Ah n1]<|
Af (AF (n2-1)) λn6=>
Ap 3 [Ah n6])<|
Ap 3 [Ah n2]) λn7=>
Ai F.a168 [data.v,Ah n0,Ah n1] λn8 n9=>
Af n8 λn10=>
Af n9 λn11=>
Bf 3 (
Ak (n11 == 2) (
AE F.a209 [data.v,Ah n0,Ah n1]<|
Af (AF (AF (n1-1)-AF (n10-n0))) λn12=>
Ap 3 [Ah n12,Ah 1])<|
Ap 3 [Ah n10,Ah n11]) λn13 n14=>
Az 3 (
Ak (b3 && b4 && n14 == 1) (
Ao F.a193 [data.v,Ah n0,Ah n1] λb15=>
Ak b15 (
Ap 0 [])<|
Ap 3 [])<|
Ap 3 [])<|
Aj 3 (
AL<|
.ex [.adr] (c1 λa16=>decide (n0>0)=true->0<=AF (n0-1)/\AF (n0-1)<(Al data)/\data.a=some a16) (u1 λa17=>
BL (decide (n0>0)=true) T.a47 a17 (Int.toNat (AF (n0-1))*1) λs18=>
.ex [.adr] (c1 λa19=>decide (n0>0)=true->0<=n13/\n13<(Al data)/\data.a=some a19) (u1 λa20=>
BL (decide (n0>0)=true) T.a47 a20 (Int.toNat n13*1) λs21=>
Ak (decide (n0>0)) (
Ao F.a3 [.string s18,.string s21] λb22=>
AN<|
Ap 3 [.bool (not b22)])<|
AN<|
Ap 3 [.bool false]))) λb23=>
Ak b23 (
Am F.a199 [data.v,Ah n0,Ah n1,Ah n13] λn24=>
Af n24 λn25=>
Af n25 λn26=>
Ap 2 [Ah n26,Ah n1,Ah n7,.bool b3,.bool b4])<|
BM F.a201 [data.v,Ah n0,Ah n1,Ah n13] λn27 b28=>
Af n27 λn29=>
Ag b28 λb30=>
Ag b30 λb31=>
Af (AF (n29-n0)) λn32=>
Af (AF (n1-n29)) λn33=>
Af (AF (Int.tdiv n5 8)) λn34=>
BN 3 (
Ak (decide (n32<n33)) (
Ag (decide (n32>=n34)) λb35=>
AE F.a205 [data.v,Ah n0,Ah n29,Ah n7]<|
Af (AF (n29+1)) λn36=>
Ap 3 [Ah n36,Ah n1,.bool b35])<|
Ag (decide (n33>=n34)) λb37=>
AE F.a205 [data.v,Ah (AF (n29+1)),Ah n1,Ah n7]<|
Af n29 λn38=>
Ap 3 [Ah n0,Ah n38,.bool b37]) λn39 n40 b41=>
Ap 2 [Ah n39,Ah n40,Ah n7,.bool b41,.bool b31]) λn42 n43 n44 b45 b46=>
Ap 1 [Ah n42,Ah n43,Ah n44,.bool b45,.bool b46]
def zxk (x:Int):Prog :=
Am F.a83 [.int .u64 x] λn0=>
Af n0 λn1=>
Ap 0 [Ah n1]
theorem zfs (x:Int):FnS (zxk x) F.a82 #[.int .u64 x]:=dV ⟨[],[],[],[]⟩ Go.Proofs.Tryz.func151 (by kernel_rfl)
def z04i (d:Option Addr) (names:Sl):Prog :=
Am F.a40 [Ad d] λn0=>
Af n0 λn1=>
Ak (n1 != 0) (
Af n1 λn2=>
Ap 0 [Ah n2])<|
Az 1 (
AA 2 (0,()) λn3=>
Ak (decide (n3<(Al names))) (
.ex [.adr] (c1 λa4=>0<=n3/\n3<(Al names)/\names.a=some a4) (u1 λa5=>
AY T.a47 a5 (Int.toNat n3*1) λs6=>
AZ s6 λs7=>
AI d λa9=>
Bn T.a22 a9 4 λm10=>
BD (Instr.lookup T.a22 (.map m10) (.string s7) false) λp11=>
Ak (Option.isNone p11) (
Ap 0 [Ah 3])<|
Ap 2 [Ah (AF (n3+1))]))<|
Ap 1 [])<|
AQ 1 (
Ak ((Al names) == 0) (
An F.a32 [Ad d,.string (ByteArray.mk #[])] λl12=>
Ap 1 [l12.v])<|
Ap 1 [names.v]) λl13=>
Az 1 (
AA 2 (0,()) λn14=>
Ak (decide (n14<(Al l13))) (
.ex [.adr] (c1 λa15=>0<=n14/\n14<(Al l13)/\l13.a=some a15) (u1 λa16=>
AY T.a47 a16 (Int.toNat n14*1) λs17=>
AZ s17 λs18=>
AI d λa20=>
Bn T.a22 a20 4 λm21=>
BD (Instr.lookup T.a22 (.map m21) (.string s18) false) λp22=>
AI p22 λa24=>
AS T.a42 a24 0 λl25=>
AI p22 λa27=>
AT T.a12 a27 1 (Ah (Al l25))<|
Ap 2 [Ah (AF (n14+1))]))<|
Ap 1 [])<|
AI d λa29=>
AE F.a43 [BC a29 0]<|
Ap 0 [Ah 0]
theorem zs5 (d:Option Addr) (names:Sl):FnS (z04i d names) F.a37 #[.pointer d,.slice names.a names.len names.cap]:=dV ⟨[(105553116274720,[(1,.one .slc)])],[(0,[]),(2,[])],[],[(0,[(18,.one (.int .i64))]),(2,[(37,.one (.int .i64))])]⟩ Go.Proofs.Tryz.func159 (by kernel_rfl)
def z088 (d:Option Addr) (from_:ByteArray) (to_:ByteArray):Prog :=
Am F.a40 [Ad d] λn0=>
Af n0 λn1=>
Ak (n1 != 0) (
Af n1 λn2=>
Ap 0 [Ah n2])<|
AI d λa4=>
Bn T.a22 a4 4 λm5=>
BD (Instr.lookup T.a22 (.map m5) (.string from_) false) λp6=>
AH (Option.isNone p6) (
Ap 0 [Ah 3])<|
Ao F.a41 [.string to_] λb8=>
AH (not b8) (
Ap 0 [Ah 2])<|
Az 1 (
Ak (not (ByteArray.toList from_ == ByteArray.toList to_)) (
AE F.a39 [Ad d,.string to_]<|
AI d λa11=>
Bn T.a22 a11 4 λm12=>
B2 (Builtin.delete_ #[T.a22,T.a47] T.a49 #[.map m12,.string from_])<|
AI d λa14=>
Bn T.a22 a14 4 λm15=>
B5 (Instr.mapUpdate T.a22 (.map m15) (.string to_) (Ad p6))<|
Ap 1 [])<|
Ap 1 [])<|
AI d λa17=>
AE F.a43 [BC a17 0]<|
Ap 0 [Ah 0]
def z08i (m:Option Nat) (del:Value):Prog :=
Bo (Instr.range T.a20 (.map m)) λa0=>
Az 1 (
.loop 2 [] () (u0 <|
.next (Instr.next (Ax a0) false T.a49) ([.agg [.int .i64,.int .i64],.agg [.int .i64,.int .i64,.int .i64,.int .i64]]) (u6 λ(n1 n2 n3 n4 n5 n6:Int)=>
.act (Instr.entry (Ax a0)) (.tup [.agg [.int .i64,.int .i64],.agg [.int .i64,.int .i64,.int .i64,.int .i64]]) (u6 λ(n7 n8 n9 n10 n11 n12:Int)=>
AC T.a16 λa13=>
AC T.a17 λa14=>
AD T.a16 a13 (Av n7 n8)<|
AD T.a17 a14 (Bl n9 n10 n11 n12)<|
BO T.a16 a13 λn15 n16=>
Bq T.a17 a14 λn17 n18 n19 n20=>
BI del [Av n15 n16,Bl n17 n18 n19 n20] λb21=>
Az 3 (
Ak b21 (
BO T.a16 a13 λn22 n23=>
B2 (Builtin.delete_ #[T.a20,T.a16] T.a49 #[.map m,Av n22 n23])<|
Ap 3 [])<|
Ap 3 [])<|
Ap 2 [])) <|
Ap 1 []))<|
Ap 0 []
def z06u (x:Sl):Prog :=
Af (Al x) λn0=>
Am F.a82 [.int .u64 (IntKind.wrap .u64 n0)] λn1=>
AE F.a204 [x.v,Ah 0,Ah n0,Ah n1]<|
Ap 0 []
def z04c (d:Option Addr) (name:ByteArray) (n:Int):Prog :=
Am F.a40 [Ad d] λn0=>
Af n0 λn1=>
Ak (n1 != 0) (
Af n1 λn2=>
Ap 0 [Ah n2])<|
AI d λa4=>
Bn T.a22 a4 4 λm5=>
BD (Instr.lookup T.a22 (.map m5) (.string name) false) λp6=>
AH (Option.isNone p6) (
Ap 0 [Ah 3])<|
AO (decide (n<0)=false) p6 λa9=>
BA (decide (n<0)=false) T.a42 a9 0 λl10=>
AH (decide (n<0) || decide (n>(Al l10))) (
Ap 0 [Ah 2])<|
AL<|
AI d λa13=>
Ar T.a12 a13 3 λn14=>
AI p6 λa16=>
AS T.a42 a16 0 λl17=>
AI d λa19=>
AT T.a12 a19 3 (Ah (AF (n14-AF ((Al l17)-n))))<|
AN<|
AI p6 λa21=>
AS T.a42 a21 0 λl22=>
.must (0<=n/\n<=n/\n<=((l22.cap:Nat):Int)) <|
AI p6 λa24=>
AT T.a42 a24 0 (.slice l22.a (Int.toNat n) (Int.toNat n))<|
AI p6 λa26=>
Ar T.a12 a26 1 λn27=>
AI p6 λa29=>
AT T.a12 a29 1 (Ah (if n<n27 then n else n27))<|
AI d λa31=>
AE F.a43 [BC a31 0]<|
Ap 0 [Ah 0]
theorem zrz (d:Option Addr) (name:ByteArray) (n:Int):FnS (z04c d name n) F.a29 #[.pointer d,.string name,.int .i64 n]:=dV ⟨[],[],[],[]⟩ Go.Proofs.Tryz.func189 (by kernel_rfl)
def z06a (data:Sl) (a b limit:Int) (cmp:Value):Prog :=
BJ 1 (a,(b,(limit,(true,(true,()))))) λn0 n1 n2 b3 b4=>
BK 2 (
Af (AF (n1-n0)) λn5=>
Ak (decide (n5<=12)) (
AE F.a174 [data.v,Ah n0,Ah n1,cmp]<|
Ap 0 [])<|
Ak (n2 == 0) (
AE F.a170 [data.v,Ah n0,Ah n1,cmp]<|
Ap 0 [])<|
Bg 3 (
Ak (not b3) (
AE F.a162 [data.v,Ah n0,Ah n1,cmp]<|
Af (AF (n2-1)) λn6=>
Ap 3 [Ah n6])<|
Ap 3 [Ah n2]) λn7=>
Ai F.a166 [data.v,Ah n0,Ah n1,cmp] λn8 n9=>
Af n8 λn10=>
Af n9 λn11=>
Bf 3 (
Ak (n11 == 2) (
AE F.a207 [data.v,Ah n0,Ah n1,cmp]<|
Af (AF (AF (n1-1)-AF (n10-n0))) λn12=>
Ap 3 [Ah n12,Ah 1])<|
Ap 3 [Ah n10,Ah n11]) λn13 n14=>
Az 3 (
Ak (b3 && b4 && n14 == 1) (
Ao F.a191 [data.v,Ah n0,Ah n1,cmp] λb15=>
Ak b15 (
Ap 0 [])<|
Ap 3 [])<|
Ap 3 [])<|
Aj 3 (
AL<|
.ex [.adr] (c1 λa16=>decide (n0>0)=true->0<=AF (n0-1)/\AF (n0-1)<(Al data)/\data.a=some a16) (u1 λa17=>
BQ (decide (n0>0)=true) T.a14 a17 (Int.toNat (AF (n0-1))*4) λn18 n19 n20 n21=>
.ex [.adr] (c1 λa22=>decide (n0>0)=true->0<=n13/\n13<(Al data)/\data.a=some a22) (u1 λa23=>
BQ (decide (n0>0)=true) T.a14 a23 (Int.toNat n13*4) λn24 n25 n26 n27=>
Ak (decide (n0>0)) (
BR cmp [Bl n18 n19 n20 n21,Bl n24 n25 n26 n27] λn28=>
AN<|
Ap 3 [.bool (not (decide (n28<0)))])<|
AN<|
Ap 3 [.bool false]))) λb29=>
Ak b29 (
Am F.a197 [data.v,Ah n0,Ah n1,Ah n13,cmp] λn30=>
Af n30 λn31=>
Af n31 λn32=>
Ap 2 [Ah n32,Ah n1,Ah n7,.bool b3,.bool b4])<|
BM F.a195 [data.v,Ah n0,Ah n1,Ah n13,cmp] λn33 b34=>
Af n33 λn35=>
Ag b34 λb36=>
Ag b36 λb37=>
Af (AF (n35-n0)) λn38=>
Af (AF (n1-n35)) λn39=>
Af (AF (Int.tdiv n5 8)) λn40=>
BN 3 (
Ak (decide (n38<n39)) (
Ag (decide (n38>=n40)) λb41=>
AE F.a203 [data.v,Ah n0,Ah n35,Ah n7,cmp]<|
Af (AF (n35+1)) λn42=>
Ap 3 [Ah n42,Ah n1,.bool b41])<|
Ag (decide (n39>=n40)) λb43=>
AE F.a203 [data.v,Ah (AF (n35+1)),Ah n1,Ah n7,cmp]<|
Af n35 λn44=>
Ap 3 [Ah n0,Ah n44,.bool b43]) λn45 n46 b47=>
Ap 2 [Ah n45,Ah n46,Ah n7,.bool b47,.bool b37]) λn48 n49 n50 b51 b52=>
Ap 1 [Ah n48,Ah n49,Ah n50,.bool b51,.bool b52]
theorem znm (data:Sl) (a b limit:Int) (cmp:Value) {w:World} {R:List Value->World->Prop} (h:(z06a data a b limit cmp).wp P (λ_=>True) w λe vs w'=>e=0/\R vs w'):Ret P F.a203 #[.slice data.a data.len data.cap,.int .i64 a,.int .i64 b,.int .i64 limit,cmp] w R:=dS (n:=148) (rv:=[]) { cnd:=[(571957152676085799,[(3,.one (.int .i64))]),(1208335523804270569717816,[(13,.one (.int .i64)),(14,.one (.int .i64))]),(9594035304461697130468212811,[]),(1461501288881759191162698246220685009525288231037,[(1,.one (.int .i64)),(2,.one (.int .i64)),(10,.one .bool)])],blk:=[(1,[(1,.one (.int .i64)),(2,.one (.int .i64)),(3,.one (.int .i64)),(10,.one .bool),(11,.one .bool)])],reg:=[(17,[(97,.one .bool)])],lps:=[(0,[(1,.one (.int .i64)),(2,.one (.int .i64)),(3,.one (.int .i64)),(10,.one .bool),(11,.one .bool)])] } [.val (.slice data.a data.len data.cap),.val (.int .i64 a),.val (.int .i64 b),.val (.int .i64 limit),.any cmp] Go.Proofs.Tryz.func211 (by kernel_rfl) (by kernel_rfl) (by kernel_rfl) (by kernel_rfl) h
def zf4 (x:Int):Prog :=
Ag (x != x) λb0=>
Ap 0 [.bool b0]
theorem zv9 (x:Int):FnS (zf4 x) F.a4 #[.int .i64 x]:=dV ⟨[],[],[],[]⟩ Go.Proofs.Tryz.func212 (by kernel_rfl)
def z077 (data:Sl) (a:Int) (b:Int):Prog :=
Af (AF (a+1)) λn0=>
Az 1 (
AA 2 (n0,()) λn1=>
Ak (decide (n1<b)) (
Az 3 (
Af n1 λn2=>
Az 4 (
AA 5 (n2,()) λn3=>
Aj 6 (
AL<|
.ex [.adr] (c1 λa4=>decide (n3>a)=true->0<=n3/\n3<(Al data)/\data.a=some a4) (u1 λa5=>
BL (decide (n3>a)=true) T.a47 a5 (Int.toNat n3*1) λs6=>
.ex [.adr] (c1 λa7=>decide (n3>a)=true->0<=AF (n3-1)/\AF (n3-1)<(Al data)/\data.a=some a7) (u1 λa8=>
BL (decide (n3>a)=true) T.a47 a8 (Int.toNat (AF (n3-1))*1) λs9=>
Ak (decide (n3>a)) (
Ao F.a3 [.string s6,.string s9] λb10=>
AN<|
Ap 6 [.bool b10])<|
AN<|
Ap 6 [.bool false]))) λb11=>
Ak b11 (
Az 6 (
AL<|
.ex [.adr] (c1 λa12=>0<=AF (n3-1)/\AF (n3-1)<(Al data)/\data.a=some a12) (u1 λa13=>
AY T.a47 a13 (Int.toNat (AF (n3-1))*1) λs14=>
.ex [.adr] (c1 λa15=>0<=n3/\n3<(Al data)/\data.a=some a15) (u1 λa16=>
AY T.a47 a16 (Int.toNat n3*1) λs17=>
.ex [.adr] (c1 λa18=>0<=n3/\n3<(Al data)/\data.a=some a18) (u1 λa19=>
AT T.a47 a19 (Int.toNat n3*1) (.string s14)<|
.ex [.adr] (c1 λa20=>0<=AF (n3-1)/\AF (n3-1)<(Al data)/\data.a=some a20) (u1 λa21=>
AT T.a47 a21 (Int.toNat (AF (n3-1))*1) (.string s17)<|
AN<|
Ap 6 [])))))<|
Af (AF (n3-1)) λn22=>
Ap 5 [Ah n22])<|
Ap 4 [])<|
Ap 3 [])<|
Af (AF (n1+1)) λn23=>
Ap 2 [Ah n23])<|
Ap 1 [])<|
Ap 0 []
def z074 (data:Sl) (a:Int) (b:Int):Prog :=
Af a λn0=>
Af (AF (b-a)) λn1=>
Af (AF (Int.tdiv (AF (n1-1)) 2)) λn2=>
Az 1 (
AA 2 (n2,()) λn3=>
Ak (decide (n3>=0)) (
AE F.a213 [data.v,Ah n3,Ah n1,Ah n0]<|
Af (AF (n3-1)) λn4=>
Ap 2 [Ah n4])<|
Ap 1 [])<|
Af (AF (n1-1)) λn5=>
Az 1 (
AA 2 (n5,()) λn6=>
Ak (decide (n6>=0)) (
Az 3 (
AL<|
.ex [.adr] (c1 λa7=>0<=AF (n0+n6)/\AF (n0+n6)<(Al data)/\data.a=some a7) (u1 λa8=>
AY T.a47 a8 (Int.toNat (AF (n0+n6))*1) λs9=>
.ex [.adr] (c1 λa10=>0<=n0/\n0<(Al data)/\data.a=some a10) (u1 λa11=>
AY T.a47 a11 (Int.toNat n0*1) λs12=>
.ex [.adr] (c1 λa13=>0<=n0/\n0<(Al data)/\data.a=some a13) (u1 λa14=>
AT T.a47 a14 (Int.toNat n0*1) (.string s9)<|
.ex [.adr] (c1 λa15=>0<=AF (n0+n6)/\AF (n0+n6)<(Al data)/\data.a=some a15) (u1 λa16=>
AT T.a47 a16 (Int.toNat (AF (n0+n6))*1) (.string s12)<|
AN<|
Ap 3 [])))))<|
AE F.a213 [data.v,Ah 0,Ah n6,Ah n0]<|
Af (AF (n6-1)) λn17=>
Ap 2 [Ah n17])<|
Ap 1 [])<|
Ap 0 []
def z06y (data:Sl) (a:Int) (b:Int):Prog :=
Af (AF (b-a)) λn0=>
Az 1 (
Ak (decide (n0>=8)) (
AC T.a46 λa1=>
AD T.a46 a1 (.int .u64 (IntKind.wrap .u64 n0))<|
Bc F.a185 [Ah n0] λn2=>
Bd n2 λn3=>
Af (AF (AF (a+AF (AF (Int.tdiv n0 4)*2))-1)) λn4=>
Az 2 (
AA 3 (n4,()) λn5=>
Ak (decide (n5<=AF (AF (a+AF (AF (Int.tdiv n0 4)*2))+1))) (
Bc F.a214 [Ax a1] λn6=>
Af (AF (IntKind.wrap .u64 (((BitVec.toNat (BitVec.ofInt 64 n6 &&& BitVec.ofInt 64 (IntKind.wrap .u64 (n3-1))):Nat):Int)))) λn7=>
Bg 4 (
Ak (decide (n7>=n0)) (
Af (AF (n7-n0)) λn8=>
Ap 4 [Ah n8])<|
Ap 4 [Ah n7]) λn9=>
Az 4 (
AL<|
.ex [.adr] (c1 λa10=>0<=AF (a+n9)/\AF (a+n9)<(Al data)/\data.a=some a10) (u1 λa11=>
AY T.a47 a11 (Int.toNat (AF (a+n9))*1) λs12=>
.ex [.adr] (c1 λa13=>0<=n5/\n5<(Al data)/\data.a=some a13) (u1 λa14=>
AY T.a47 a14 (Int.toNat n5*1) λs15=>
.ex [.adr] (c1 λa16=>0<=n5/\n5<(Al data)/\data.a=some a16) (u1 λa17=>
AT T.a47 a17 (Int.toNat n5*1) (.string s12)<|
.ex [.adr] (c1 λa18=>0<=AF (a+n9)/\AF (a+n9)<(Al data)/\data.a=some a18) (u1 λa19=>
AT T.a47 a19 (Int.toNat (AF (a+n9))*1) (.string s15)<|
AN<|
Ap 4 [])))))<|
Af (AF (n5+1)) λn20=>
Ap 3 [Ah n20])<|
Ap 2 [])<|
Ap 1 [])<|
Ap 1 [])<|
Ap 0 []
def z071 (data:Sl) (a:Int) (b:Int):Prog :=
Af (AF (b-a)) λn0=>
AC T.a12 λa1=>
Af (AF (a+AF (AF (Int.tdiv n0 4)*1))) λn2=>
Af (AF (a+AF (AF (Int.tdiv n0 4)*2))) λn3=>
Af (AF (a+AF (AF (Int.tdiv n0 4)*3))) λn4=>
Bg 1 (
Ak (decide (n0>=8)) (
BS 2 (
Ak (decide (n0>=50)) (
Am F.a180 [data.v,Ah n2,Ax a1] λn5=>
Af n5 λn6=>
Am F.a180 [data.v,Ah n3,Ax a1] λn7=>
Af n7 λn8=>
Am F.a180 [data.v,Ah n4,Ax a1] λn9=>
Af n9 λn10=>
Ap 2 [Ah n6,Ah n8,Ah n10])<|
Ap 2 [Ah n2,Ah n3,Ah n4]) λn11 n12 n13=>
Am F.a184 [data.v,Ah n11,Ah n12,Ah n13,Ax a1] λn14=>
Af n14 λn15=>
Ap 1 [Ah n15])<|
Ap 1 [Ah n3]) λn16=>
BT T.a12 a1 λn17=>
AH (n17 == 0) (
Af n16 λn19=>
Ap 0 [Ah n19,Ah 1])<|
AH (n17 == 12) (
Af n16 λn21=>
Ap 0 [Ah n21,Ah 2])<|
Af n16 λn22=>
Ap 0 [Ah n22,Ah 0]
def z07v (data:Sl) (a:Int) (b:Int):Prog :=
Af a λn0=>
Af (AF (b-1)) λn1=>
Az 1 (
Br 2 (n0,(n1,())) λn2 n3=>
Ak (decide (n2<n3)) (
Az 3 (
AL<|
.ex [.adr] (c1 λa4=>0<=n3/\n3<(Al data)/\data.a=some a4) (u1 λa5=>
AY T.a47 a5 (Int.toNat n3*1) λs6=>
.ex [.adr] (c1 λa7=>0<=n2/\n2<(Al data)/\data.a=some a7) (u1 λa8=>
AY T.a47 a8 (Int.toNat n2*1) λs9=>
.ex [.adr] (c1 λa10=>0<=n2/\n2<(Al data)/\data.a=some a10) (u1 λa11=>
AT T.a47 a11 (Int.toNat n2*1) (.string s6)<|
.ex [.adr] (c1 λa12=>0<=n3/\n3<(Al data)/\data.a=some a12) (u1 λa13=>
AT T.a47 a13 (Int.toNat n3*1) (.string s9)<|
AN<|
Ap 3 [])))))<|
Af (AF (n2+1)) λn14=>
Af (AF (n3-1)) λn15=>
Ap 2 [Ah n14,Ah n15])<|
Ap 1 [])<|
Ap 0 []
def z07j (data:Sl) (a:Int) (b:Int):Prog :=
Af (AF (a+1)) λn0=>
Az 1 (
Br 2 (n0,(0,())) λn1 n2=>
Ak (decide (n2<5)) (
Bg 3 (
Bg 4 (
AA 5 (n1,()) λn3=>
Aj 6 (
AL<|
.ex [.adr] (c1 λa4=>decide (n3<b)=true->0<=n3/\n3<(Al data)/\data.a=some a4) (u1 λa5=>
BL (decide (n3<b)=true) T.a47 a5 (Int.toNat n3*1) λs6=>
.ex [.adr] (c1 λa7=>decide (n3<b)=true->0<=AF (n3-1)/\AF (n3-1)<(Al data)/\data.a=some a7) (u1 λa8=>
BL (decide (n3<b)=true) T.a47 a8 (Int.toNat (AF (n3-1))*1) λs9=>
Ak (decide (n3<b)) (
Ao F.a3 [.string s6,.string s9] λb10=>
AN<|
Ap 6 [.bool (not b10)])<|
AN<|
Ap 6 [.bool false]))) λb11=>
Ak b11 (
Af (AF (n3+1)) λn12=>
Ap 5 [Ah n12])<|
Ap 4 [Ah n3]) λn13=>
Ak (n13 == b) (
Ap 0 [.bool true])<|
Ak (decide (AF (b-a)<50)) (
Ap 0 [.bool false])<|
Az 4 (
AL<|
.ex [.adr] (c1 λa14=>0<=AF (n13-1)/\AF (n13-1)<(Al data)/\data.a=some a14) (u1 λa15=>
AY T.a47 a15 (Int.toNat (AF (n13-1))*1) λs16=>
.ex [.adr] (c1 λa17=>0<=n13/\n13<(Al data)/\data.a=some a17) (u1 λa18=>
AY T.a47 a18 (Int.toNat n13*1) λs19=>
.ex [.adr] (c1 λa20=>0<=n13/\n13<(Al data)/\data.a=some a20) (u1 λa21=>
AT T.a47 a21 (Int.toNat n13*1) (.string s16)<|
.ex [.adr] (c1 λa22=>0<=AF (n13-1)/\AF (n13-1)<(Al data)/\data.a=some a22) (u1 λa23=>
AT T.a47 a23 (Int.toNat (AF (n13-1))*1) (.string s19)<|
AN<|
Ap 4 [])))))<|
Az 4 (
Ak (decide (AF (n13-a)>=2)) (
Af (AF (n13-1)) λn24=>
Az 5 (
AA 6 (n24,()) λn25=>
Ak (decide (n25>=1)) (
AL<|
.ex [.adr] (c1 λa26=>0<=n25/\n25<(Al data)/\data.a=some a26) (u1 λa27=>
AY T.a47 a27 (Int.toNat n25*1) λs28=>
.ex [.adr] (c1 λa29=>0<=AF (n25-1)/\AF (n25-1)<(Al data)/\data.a=some a29) (u1 λa30=>
AY T.a47 a30 (Int.toNat (AF (n25-1))*1) λs31=>
Ao F.a3 [.string s28,.string s31] λb32=>
AN<|
Ak (not b32) (
Ap 5 [])<|
Az 7 (
AL<|
.ex [.adr] (c1 λa33=>0<=AF (n25-1)/\AF (n25-1)<(Al data)/\data.a=some a33) (u1 λa34=>
AY T.a47 a34 (Int.toNat (AF (n25-1))*1) λs35=>
.ex [.adr] (c1 λa36=>0<=n25/\n25<(Al data)/\data.a=some a36) (u1 λa37=>
AY T.a47 a37 (Int.toNat n25*1) λs38=>
.ex [.adr] (c1 λa39=>0<=n25/\n25<(Al data)/\data.a=some a39) (u1 λa40=>
AT T.a47 a40 (Int.toNat n25*1) (.string s35)<|
.ex [.adr] (c1 λa41=>0<=AF (n25-1)/\AF (n25-1)<(Al data)/\data.a=some a41) (u1 λa42=>
AT T.a47 a42 (Int.toNat (AF (n25-1))*1) (.string s38)<|
AN<|
Ap 7 [])))))<|
Af (AF (n25-1)) λn43=>
Ap 6 [Ah n43])))<|
Ap 5 [])<|
Ap 4 [])<|
Ap 4 [])<|
Az 4 (
Ak (decide (AF (b-n13)>=2)) (
Af (AF (n13+1)) λn44=>
Az 5 (
AA 6 (n44,()) λn45=>
Ak (decide (n45<b)) (
AL<|
.ex [.adr] (c1 λa46=>0<=n45/\n45<(Al data)/\data.a=some a46) (u1 λa47=>
AY T.a47 a47 (Int.toNat n45*1) λs48=>
.ex [.adr] (c1 λa49=>0<=AF (n45-1)/\AF (n45-1)<(Al data)/\data.a=some a49) (u1 λa50=>
AY T.a47 a50 (Int.toNat (AF (n45-1))*1) λs51=>
Ao F.a3 [.string s48,.string s51] λb52=>
AN<|
Ak (not b52) (
Ap 5 [])<|
Az 7 (
AL<|
.ex [.adr] (c1 λa53=>0<=AF (n45-1)/\AF (n45-1)<(Al data)/\data.a=some a53) (u1 λa54=>
AY T.a47 a54 (Int.toNat (AF (n45-1))*1) λs55=>
.ex [.adr] (c1 λa56=>0<=n45/\n45<(Al data)/\data.a=some a56) (u1 λa57=>
AY T.a47 a57 (Int.toNat n45*1) λs58=>
.ex [.adr] (c1 λa59=>0<=n45/\n45<(Al data)/\data.a=some a59) (u1 λa60=>
AT T.a47 a60 (Int.toNat n45*1) (.string s55)<|
.ex [.adr] (c1 λa61=>0<=AF (n45-1)/\AF (n45-1)<(Al data)/\data.a=some a61) (u1 λa62=>
AT T.a47 a62 (Int.toNat (AF (n45-1))*1) (.string s58)<|
AN<|
Ap 7 [])))))<|
Af (AF (n45+1)) λn63=>
Ap 6 [Ah n63])))<|
Ap 5 [])<|
Ap 4 [])<|
Ap 4 [])<|
Ap 3 [Ah n13]) λn64=>
Af (AF (n2+1)) λn65=>
Ap 2 [Ah n64,Ah n65])<|
Ap 1 [])<|
Ap 0 [.bool false]
def zf3 (x:ByteArray) (y:ByteArray):Prog :=
Aj 1 (
Ao F.a5 [.string x] λb0=>
Ak b0 (
Ao F.a5 [.string y] λb1=>
Ag (not b1 || Op.bytesLess (ByteArray.toList x) (ByteArray.toList y)) λb2=>
Ap 1 [.bool b2])<|
Ag (Op.bytesLess (ByteArray.toList x) (ByteArray.toList y)) λb3=>
Ap 1 [.bool b3]) λb4=>
Ap 0 [.bool b4]
def z07n (data:Sl) (a b:Int) (pivot:Int):Prog :=
Az 1 (
AL<|
.ex [.adr] (c1 λa0=>0<=pivot/\pivot<(Al data)/\data.a=some a0) (u1 λa1=>
AY T.a47 a1 (Int.toNat pivot*1) λs2=>
.ex [.adr] (c1 λa3=>0<=a/\a<(Al data)/\data.a=some a3) (u1 λa4=>
AY T.a47 a4 (Int.toNat a*1) λs5=>
.ex [.adr] (c1 λa6=>0<=a/\a<(Al data)/\data.a=some a6) (u1 λa7=>
AT T.a47 a7 (Int.toNat a*1) (.string s2)<|
.ex [.adr] (c1 λa8=>0<=pivot/\pivot<(Al data)/\data.a=some a8) (u1 λa9=>
AT T.a47 a9 (Int.toNat pivot*1) (.string s5)<|
AN<|
Ap 1 [])))))<|
Af (AF (a+1)) λn10=>
Af (AF (b-1)) λn11=>
Bg 1 (
Br 2 (n10,(n11,())) λn12 n13=>
Bf 3 (
Bg 4 (
AA 5 (n12,()) λn14=>
Aj 6 (
AL<|
.ex [.adr] (c1 λa15=>decide (n14<=n13)=true->0<=a/\a<(Al data)/\data.a=some a15) (u1 λa16=>
BL (decide (n14<=n13)=true) T.a47 a16 (Int.toNat a*1) λs17=>
.ex [.adr] (c1 λa18=>decide (n14<=n13)=true->0<=n14/\n14<(Al data)/\data.a=some a18) (u1 λa19=>
BL (decide (n14<=n13)=true) T.a47 a19 (Int.toNat n14*1) λs20=>
Ak (decide (n14<=n13)) (
Ao F.a3 [.string s17,.string s20] λb21=>
AN<|
Ap 6 [.bool (not b21)])<|
AN<|
Ap 6 [.bool false]))) λb22=>
Ak b22 (
Af (AF (n14+1)) λn23=>
Ap 5 [Ah n23])<|
Ap 4 [Ah n14]) λn24=>
Bg 4 (
AA 5 (n13,()) λn25=>
Aj 6 (
AL<|
.ex [.adr] (c1 λa26=>decide (n24<=n25)=true->0<=a/\a<(Al data)/\data.a=some a26) (u1 λa27=>
BL (decide (n24<=n25)=true) T.a47 a27 (Int.toNat a*1) λs28=>
.ex [.adr] (c1 λa29=>decide (n24<=n25)=true->0<=n25/\n25<(Al data)/\data.a=some a29) (u1 λa30=>
BL (decide (n24<=n25)=true) T.a47 a30 (Int.toNat n25*1) λs31=>
Ak (decide (n24<=n25)) (
Ao F.a3 [.string s28,.string s31] λb32=>
AN<|
Ap 6 [.bool b32])<|
AN<|
Ap 6 [.bool false]))) λb33=>
Ak b33 (
Af (AF (n25-1)) λn34=>
Ap 5 [Ah n34])<|
Ap 4 [Ah n25]) λn35=>
Ak (decide (n24>n35)) (
Ap 1 [Ah n24])<|
Az 4 (
AL<|
.ex [.adr] (c1 λa36=>0<=n35/\n35<(Al data)/\data.a=some a36) (u1 λa37=>
AY T.a47 a37 (Int.toNat n35*1) λs38=>
.ex [.adr] (c1 λa39=>0<=n24/\n24<(Al data)/\data.a=some a39) (u1 λa40=>
AY T.a47 a40 (Int.toNat n24*1) λs41=>
.ex [.adr] (c1 λa42=>0<=n24/\n24<(Al data)/\data.a=some a42) (u1 λa43=>
AT T.a47 a43 (Int.toNat n24*1) (.string s38)<|
.ex [.adr] (c1 λa44=>0<=n35/\n35<(Al data)/\data.a=some a44) (u1 λa45=>
AT T.a47 a45 (Int.toNat n35*1) (.string s41)<|
AN<|
Ap 4 [])))))<|
Af (AF (n24+1)) λn46=>
Af (AF (n35-1)) λn47=>
Ap 3 [Ah n46,Ah n47]) λn48 n49=>
Ap 2 [Ah n48,Ah n49]) λn50=>
Af n50 λn51=>
Ap 0 [Ah n51]
def z07p (data:Sl) (a b:Int) (pivot:Int):Prog :=
Az 1 (
AL<|
.ex [.adr] (c1 λa0=>0<=pivot/\pivot<(Al data)/\data.a=some a0) (u1 λa1=>
AY T.a47 a1 (Int.toNat pivot*1) λs2=>
.ex [.adr] (c1 λa3=>0<=a/\a<(Al data)/\data.a=some a3) (u1 λa4=>
AY T.a47 a4 (Int.toNat a*1) λs5=>
.ex [.adr] (c1 λa6=>0<=a/\a<(Al data)/\data.a=some a6) (u1 λa7=>
AT T.a47 a7 (Int.toNat a*1) (.string s2)<|
.ex [.adr] (c1 λa8=>0<=pivot/\pivot<(Al data)/\data.a=some a8) (u1 λa9=>
AT T.a47 a9 (Int.toNat pivot*1) (.string s5)<|
AN<|
Ap 1 [])))))<|
Af (AF (a+1)) λn10=>
Af (AF (b-1)) λn11=>
Bg 1 (
AA 2 (n10,()) λn12=>
Aj 3 (
AL<|
.ex [.adr] (c1 λa13=>decide (n12<=n11)=true->0<=n12/\n12<(Al data)/\data.a=some a13) (u1 λa14=>
BL (decide (n12<=n11)=true) T.a47 a14 (Int.toNat n12*1) λs15=>
.ex [.adr] (c1 λa16=>decide (n12<=n11)=true->0<=a/\a<(Al data)/\data.a=some a16) (u1 λa17=>
BL (decide (n12<=n11)=true) T.a47 a17 (Int.toNat a*1) λs18=>
Ak (decide (n12<=n11)) (
Ao F.a3 [.string s15,.string s18] λb19=>
AN<|
Ap 3 [.bool b19])<|
AN<|
Ap 3 [.bool false]))) λb20=>
Ak b20 (
Af (AF (n12+1)) λn21=>
Ap 2 [Ah n21])<|
Ap 1 [Ah n12]) λn22=>
Bg 1 (
AA 2 (n11,()) λn23=>
Aj 3 (
AL<|
.ex [.adr] (c1 λa24=>decide (n22<=n23)=true->0<=n23/\n23<(Al data)/\data.a=some a24) (u1 λa25=>
BL (decide (n22<=n23)=true) T.a47 a25 (Int.toNat n23*1) λs26=>
.ex [.adr] (c1 λa27=>decide (n22<=n23)=true->0<=a/\a<(Al data)/\data.a=some a27) (u1 λa28=>
BL (decide (n22<=n23)=true) T.a47 a28 (Int.toNat a*1) λs29=>
Ak (decide (n22<=n23)) (
Ao F.a3 [.string s26,.string s29] λb30=>
AN<|
Ap 3 [.bool (not b30)])<|
AN<|
Ap 3 [.bool false]))) λb31=>
Ak b31 (
Af (AF (n23-1)) λn32=>
Ap 2 [Ah n32])<|
Ap 1 [Ah n23]) λn33=>
Ak (decide (n22>n33)) (
Az 1 (
AL<|
.ex [.adr] (c1 λa34=>0<=a/\a<(Al data)/\data.a=some a34) (u1 λa35=>
AY T.a47 a35 (Int.toNat a*1) λs36=>
.ex [.adr] (c1 λa37=>0<=n33/\n33<(Al data)/\data.a=some a37) (u1 λa38=>
AY T.a47 a38 (Int.toNat n33*1) λs39=>
.ex [.adr] (c1 λa40=>0<=n33/\n33<(Al data)/\data.a=some a40) (u1 λa41=>
AT T.a47 a41 (Int.toNat n33*1) (.string s36)<|
.ex [.adr] (c1 λa42=>0<=a/\a<(Al data)/\data.a=some a42) (u1 λa43=>
AT T.a47 a43 (Int.toNat a*1) (.string s39)<|
AN<|
Ap 1 [])))))<|
Af n33 λn44=>
Ap 0 [Ah n44,.bool true])<|
Az 1 (
AL<|
.ex [.adr] (c1 λa45=>0<=n33/\n33<(Al data)/\data.a=some a45) (u1 λa46=>
AY T.a47 a46 (Int.toNat n33*1) λs47=>
.ex [.adr] (c1 λa48=>0<=n22/\n22<(Al data)/\data.a=some a48) (u1 λa49=>
AY T.a47 a49 (Int.toNat n22*1) λs50=>
.ex [.adr] (c1 λa51=>0<=n22/\n22<(Al data)/\data.a=some a51) (u1 λa52=>
AT T.a47 a52 (Int.toNat n22*1) (.string s47)<|
.ex [.adr] (c1 λa53=>0<=n33/\n33<(Al data)/\data.a=some a53) (u1 λa54=>
AT T.a47 a54 (Int.toNat n33*1) (.string s50)<|
AN<|
Ap 1 [])))))<|
Af (AF (n22+1)) λn55=>
Af (AF (n33-1)) λn56=>
Bg 1 (
Br 2 (n55,(n56,())) λn57 n58=>
Bf 3 (
Bg 4 (
AA 5 (n57,()) λn59=>
Aj 6 (
AL<|
.ex [.adr] (c1 λa60=>decide (n59<=n58)=true->0<=n59/\n59<(Al data)/\data.a=some a60) (u1 λa61=>
BL (decide (n59<=n58)=true) T.a47 a61 (Int.toNat n59*1) λs62=>
.ex [.adr] (c1 λa63=>decide (n59<=n58)=true->0<=a/\a<(Al data)/\data.a=some a63) (u1 λa64=>
BL (decide (n59<=n58)=true) T.a47 a64 (Int.toNat a*1) λs65=>
Ak (decide (n59<=n58)) (
Ao F.a3 [.string s62,.string s65] λb66=>
AN<|
Ap 6 [.bool b66])<|
AN<|
Ap 6 [.bool false]))) λb67=>
Ak b67 (
Af (AF (n59+1)) λn68=>
Ap 5 [Ah n68])<|
Ap 4 [Ah n59]) λn69=>
Bg 4 (
AA 5 (n58,()) λn70=>
Aj 6 (
AL<|
.ex [.adr] (c1 λa71=>decide (n69<=n70)=true->0<=n70/\n70<(Al data)/\data.a=some a71) (u1 λa72=>
BL (decide (n69<=n70)=true) T.a47 a72 (Int.toNat n70*1) λs73=>
.ex [.adr] (c1 λa74=>decide (n69<=n70)=true->0<=a/\a<(Al data)/\data.a=some a74) (u1 λa75=>
BL (decide (n69<=n70)=true) T.a47 a75 (Int.toNat a*1) λs76=>
Ak (decide (n69<=n70)) (
Ao F.a3 [.string s73,.string s76] λb77=>
AN<|
Ap 6 [.bool (not b77)])<|
AN<|
Ap 6 [.bool false]))) λb78=>
Ak b78 (
Af (AF (n70-1)) λn79=>
Ap 5 [Ah n79])<|
Ap 4 [Ah n70]) λn80=>
Ak (decide (n69>n80)) (
Ap 1 [Ah n80])<|
Az 4 (
AL<|
.ex [.adr] (c1 λa81=>0<=n80/\n80<(Al data)/\data.a=some a81) (u1 λa82=>
AY T.a47 a82 (Int.toNat n80*1) λs83=>
.ex [.adr] (c1 λa84=>0<=n69/\n69<(Al data)/\data.a=some a84) (u1 λa85=>
AY T.a47 a85 (Int.toNat n69*1) λs86=>
.ex [.adr] (c1 λa87=>0<=n69/\n69<(Al data)/\data.a=some a87) (u1 λa88=>
AT T.a47 a88 (Int.toNat n69*1) (.string s83)<|
.ex [.adr] (c1 λa89=>0<=n80/\n80<(Al data)/\data.a=some a89) (u1 λa90=>
AT T.a47 a90 (Int.toNat n80*1) (.string s86)<|
AN<|
Ap 4 [])))))<|
Af (AF (n69+1)) λn91=>
Af (AF (n80-1)) λn92=>
Ap 3 [Ah n91,Ah n92]) λn93 n94=>
Ap 2 [Ah n93,Ah n94]) λn95=>
Az 1 (
AL<|
.ex [.adr] (c1 λa96=>0<=a/\a<(Al data)/\data.a=some a96) (u1 λa97=>
AY T.a47 a97 (Int.toNat a*1) λs98=>
.ex [.adr] (c1 λa99=>0<=n95/\n95<(Al data)/\data.a=some a99) (u1 λa100=>
AY T.a47 a100 (Int.toNat n95*1) λs101=>
.ex [.adr] (c1 λa102=>0<=n95/\n95<(Al data)/\data.a=some a102) (u1 λa103=>
AT T.a47 a103 (Int.toNat n95*1) (.string s98)<|
.ex [.adr] (c1 λa104=>0<=a/\a<(Al data)/\data.a=some a104) (u1 λa105=>
AT T.a47 a105 (Int.toNat a*1) (.string s101)<|
AN<|
Ap 1 [])))))<|
Af n95 λn106=>
Ap 0 [Ah n106,.bool false]
def zxl (x:Int):Prog :=
BU 1 (
Ak (decide (x>=4294967296)) (
Bd (Int.fdiv x 4294967296) λn0=>
Ap 1 [.int .u64 n0,Ah 32])<|
Ap 1 [.int .u64 x,Ah 0]) λn1 n2=>
BU 1 (
Ak (decide (n1>=65536)) (
Bd (Int.fdiv n1 65536) λn3=>
Af (AF (n2+16)) λn4=>
Ap 1 [.int .u64 n3,Ah n4])<|
Ap 1 [.int .u64 n1,Ah n2]) λn5 n6=>
BU 1 (
Ak (decide (n5>=256)) (
Bd (Int.fdiv n5 256) λn7=>
Af (AF (n6+8)) λn8=>
Ap 1 [.int .u64 n7,Ah n8])<|
Ap 1 [.int .u64 n5,Ah n6]) λn9 n10=>
.must (0<=IntKind.wrap .u8 n9/\IntKind.wrap .u8 n9<256) <|
Af (AF (n10+AF (bt (ByteArray.mk #[0,1,2,2,3,3,3,3,4,4,4,4,4,4,4,4,5,5,5,5,5,5,5,5,5,5,5,5,5,5,5,5,6,6,6,6,6,6,6,6,6,6,6,6,6,6,6,6,6,6,6,6,6,6,6,6,6,6,6,6,6,6,6,6,7,7,7,7,7,7,7,7,7,7,7,7,7,7,7,7,7,7,7,7,7,7,7,7,7,7,7,7,7,7,7,7,7,7,7,7,7,7,7,7,7,7,7,7,7,7,7,7,7,7,7,7,7,7,7,7,7,7,7,7,7,7,7,7,8,8,8,8,8,8,8,8,8,8,8,8,8,8,8,8,8,8,8,8,8,8,8,8,8,8,8,8,8,8,8,8,8,8,8,8,8,8,8,8,8,8,8,8,8,8,8,8,8,8,8,8,8,8,8,8,8,8,8,8,8,8,8,8,8,8,8,8,8,8,8,8,8,8,8,8,8,8,8,8,8,8,8,8,8,8,8,8,8,8,8,8,8,8,8,8,8,8,8,8,8,8,8,8,8,8,8,8,8,8,8,8,8,8,8,8,8,8,8,8,8,8,8,8,8,8,8,8]) (IntKind.wrap .u8 n9)))) λn11=>
Ap 0 [Ah n11]
theorem zft (x:Int):FnS (zxl x) F.a83 #[.int .u64 x]:=dV ⟨[(413700,[(0,.one (.int .u64)),(2,.one (.int .i64))]),(31477768,[(0,.one (.int .u64)),(2,.one (.int .i64))]),(2013286414,[(0,.one (.int .u64)),(2,.one (.int .i64))])],[],[],[]⟩ Go.Proofs.Tryz.func230 (by kernel_rfl)
def z07r (data:Sl) (a b:Int) (limit:Int):Prog :=
BJ 1 (a,(b,(limit,(true,(true,()))))) λn0 n1 n2 b3 b4=>
BK 2 (
Af (AF (n1-n0)) λn5=>
Ak (decide (n5<=12)) (
AE F.a175 [data.v,Ah n0,Ah n1]<|
Ap 0 [])<|
Ak (n2 == 0) (
AE F.a171 [data.v,Ah n0,Ah n1]<|
Ap 0 [])<|
Bg 3 (
Ak (not b3) (
AE F.a163 [data.v,Ah n0,Ah n1]<|
Af (AF (n2-1)) λn6=>
Ap 3 [Ah n6])<|
Ap 3 [Ah n2]) λn7=>
Ai F.a167 [data.v,Ah n0,Ah n1] λn8 n9=>
Af n8 λn10=>
Af n9 λn11=>
Bf 3 (
Ak (n11 == 2) (
AE F.a208 [data.v,Ah n0,Ah n1]<|
Af (AF (AF (n1-1)-AF (n10-n0))) λn12=>
Ap 3 [Ah n12,Ah 1])<|
Ap 3 [Ah n10,Ah n11]) λn13 n14=>
Az 3 (
Ak (b3 && b4 && n14 == 1) (
Ao F.a192 [data.v,Ah n0,Ah n1] λb15=>
Ak b15 (
Ap 0 [])<|
Ap 3 [])<|
Ap 3 [])<|
Aj 3 (
AL<|
.ex [.adr] (c1 λa16=>decide (n0>0)=true->0<=AF (n0-1)/\AF (n0-1)<(Al data)/\data.a=some a16) (u1 λa17=>
As (decide (n0>0)=true) T.a13 a17 (Int.toNat (AF (n0-1))*1) λn18=>
.ex [.adr] (c1 λa19=>decide (n0>0)=true->0<=n13/\n13<(Al data)/\data.a=some a19) (u1 λa20=>
As (decide (n0>0)=true) T.a13 a20 (Int.toNat n13*1) λn21=>
Ak (decide (n0>0)) (
Ao F.a2 [Ah n18,Ah n21] λb22=>
AN<|
Ap 3 [.bool (not b22)])<|
AN<|
Ap 3 [.bool false]))) λb23=>
Ak b23 (
Am F.a198 [data.v,Ah n0,Ah n1,Ah n13] λn24=>
Af n24 λn25=>
Af n25 λn26=>
Ap 2 [Ah n26,Ah n1,Ah n7,.bool b3,.bool b4])<|
BM F.a200 [data.v,Ah n0,Ah n1,Ah n13] λn27 b28=>
Af n27 λn29=>
Ag b28 λb30=>
Ag b30 λb31=>
Af (AF (n29-n0)) λn32=>
Af (AF (n1-n29)) λn33=>
Af (AF (Int.tdiv n5 8)) λn34=>
BN 3 (
Ak (decide (n32<n33)) (
Ag (decide (n32>=n34)) λb35=>
AE F.a204 [data.v,Ah n0,Ah n29,Ah n7]<|
Af (AF (n29+1)) λn36=>
Ap 3 [Ah n36,Ah n1,.bool b35])<|
Ag (decide (n33>=n34)) λb37=>
AE F.a204 [data.v,Ah (AF (n29+1)),Ah n1,Ah n7]<|
Af n29 λn38=>
Ap 3 [Ah n0,Ah n38,.bool b37]) λn39 n40 b41=>
Ap 2 [Ah n39,Ah n40,Ah n7,.bool b41,.bool b31]) λn42 n43 n44 b45 b46=>
Ap 1 [Ah n42,Ah n43,Ah n44,.bool b45,.bool b46]
def z063 (data:Sl) (a b:Int) (cmp:Value):Prog :=
Af (AF (a+1)) λn0=>
Az 1 (
AA 2 (n0,()) λn1=>
Ak (decide (n1<b)) (
Az 3 (
Af n1 λn2=>
Az 4 (
AA 5 (n2,()) λn3=>
Aj 6 (
AL<|
.ex [.adr] (c1 λa4=>decide (n3>a)=true->0<=n3/\n3<(Al data)/\data.a=some a4) (u1 λa5=>
BQ (decide (n3>a)=true) T.a14 a5 (Int.toNat n3*4) λn6 n7 n8 n9=>
.ex [.adr] (c1 λa10=>decide (n3>a)=true->0<=AF (n3-1)/\AF (n3-1)<(Al data)/\data.a=some a10) (u1 λa11=>
BQ (decide (n3>a)=true) T.a14 a11 (Int.toNat (AF (n3-1))*4) λn12 n13 n14 n15=>
Ak (decide (n3>a)) (
BR cmp [Bl n6 n7 n8 n9,Bl n12 n13 n14 n15] λn16=>
AN<|
Ap 6 [.bool (decide (n16<0))])<|
AN<|
Ap 6 [.bool false]))) λb17=>
Ak b17 (
Az 6 (
AL<|
.ex [.adr] (c1 λa18=>0<=AF (n3-1)/\AF (n3-1)<(Al data)/\data.a=some a18) (u1 λa19=>
B7 T.a14 a19 (Int.toNat (AF (n3-1))*4) λn20 n21 n22 n23=>
.ex [.adr] (c1 λa24=>0<=n3/\n3<(Al data)/\data.a=some a24) (u1 λa25=>
B7 T.a14 a25 (Int.toNat n3*4) λn26 n27 n28 n29=>
.ex [.adr] (c1 λa30=>0<=n3/\n3<(Al data)/\data.a=some a30) (u1 λa31=>
AT T.a14 a31 (Int.toNat n3*4) (Bl n20 n21 n22 n23)<|
.ex [.adr] (c1 λa32=>0<=AF (n3-1)/\AF (n3-1)<(Al data)/\data.a=some a32) (u1 λa33=>
AT T.a14 a33 (Int.toNat (AF (n3-1))*4) (Bl n26 n27 n28 n29)<|
AN<|
Ap 6 [])))))<|
Af (AF (n3-1)) λn34=>
Ap 5 [Ah n34])<|
Ap 4 [])<|
Ap 3 [])<|
Af (AF (n1+1)) λn35=>
Ap 2 [Ah n35])<|
Ap 1 [])<|
Ap 0 []
theorem zne (data:Sl) (a b:Int) (cmp:Value) {w:World} {R:List Value->World->Prop} (h:(z063 data a b cmp).wp P (λ_=>True) w λe vs w'=>e=0/\R vs w'):Ret P F.a174 #[.slice data.a data.len data.cap,.int .i64 a,.int .i64 b,cmp] w R:=dS (n:=53) (rv:=[]) { cnd:=[],blk:=[(0,[]),(1,[]),(2,[])],reg:=[(4,[(34,.one .bool)]),(6,[])],lps:=[(0,[(8,.one (.int .i64))]),(2,[(9,.one (.int .i64))])] } [.val (.slice data.a data.len data.cap),.val (.int .i64 a),.val (.int .i64 b),.any cmp] Go.Proofs.Tryz.func258 (by kernel_rfl) (by kernel_rfl) (by kernel_rfl) (by kernel_rfl) h
def z062 (data:Sl) (a b:Int) (cmp:Value):Prog :=
Af a λn0=>
Af (AF (b-a)) λn1=>
Af (AF (Int.tdiv (AF (n1-1)) 2)) λn2=>
Az 1 (
AA 2 (n2,()) λn3=>
Ak (decide (n3>=0)) (
AE F.a211 [data.v,Ah n3,Ah n1,Ah n0,cmp]<|
Af (AF (n3-1)) λn4=>
Ap 2 [Ah n4])<|
Ap 1 [])<|
Af (AF (n1-1)) λn5=>
Az 1 (
AA 2 (n5,()) λn6=>
Ak (decide (n6>=0)) (
Az 3 (
AL<|
.ex [.adr] (c1 λa7=>0<=AF (n0+n6)/\AF (n0+n6)<(Al data)/\data.a=some a7) (u1 λa8=>
B7 T.a14 a8 (Int.toNat (AF (n0+n6))*4) λn9 n10 n11 n12=>
.ex [.adr] (c1 λa13=>0<=n0/\n0<(Al data)/\data.a=some a13) (u1 λa14=>
B7 T.a14 a14 (Int.toNat n0*4) λn15 n16 n17 n18=>
.ex [.adr] (c1 λa19=>0<=n0/\n0<(Al data)/\data.a=some a19) (u1 λa20=>
AT T.a14 a20 (Int.toNat n0*4) (Bl n9 n10 n11 n12)<|
.ex [.adr] (c1 λa21=>0<=AF (n0+n6)/\AF (n0+n6)<(Al data)/\data.a=some a21) (u1 λa22=>
AT T.a14 a22 (Int.toNat (AF (n0+n6))*4) (Bl n15 n16 n17 n18)<|
AN<|
Ap 3 [])))))<|
AE F.a211 [data.v,Ah 0,Ah n6,Ah n0,cmp]<|
Af (AF (n6-1)) λn23=>
Ap 2 [Ah n23])<|
Ap 1 [])<|
Ap 0 []
theorem znd (data:Sl) (a b:Int) (cmp:Value) {w:World} {R:List Value->World->Prop} (h:(z062 data a b cmp).wp P (λ_=>True) w λe vs w'=>e=0/\R vs w'):Ret P F.a170 #[.slice data.a data.len data.cap,.int .i64 a,.int .i64 b,cmp] w R:=dS (n:=60) (rv:=[]) { cnd:=[],blk:=[(0,[]),(2,[])],reg:=[(10,[])],lps:=[(0,[(11,.one (.int .i64))]),(2,[(12,.one (.int .i64))])] } [.val (.slice data.a data.len data.cap),.val (.int .i64 a),.val (.int .i64 b),.any cmp] Go.Proofs.Tryz.func259 (by kernel_rfl) (by kernel_rfl) (by kernel_rfl) (by kernel_rfl) h
def z060 (data:Sl) (a b:Int) (cmp:Value):Prog :=
Af (AF (b-a)) λn0=>
Az 1 (
Ak (decide (n0>=8)) (
AC T.a46 λa1=>
AD T.a46 a1 (.int .u64 (IntKind.wrap .u64 n0))<|
Bc F.a185 [Ah n0] λn2=>
Bd n2 λn3=>
Af (AF (AF (a+AF (AF (Int.tdiv n0 4)*2))-1)) λn4=>
Az 2 (
AA 3 (n4,()) λn5=>
Ak (decide (n5<=AF (AF (a+AF (AF (Int.tdiv n0 4)*2))+1))) (
Bc F.a214 [Ax a1] λn6=>
Af (AF (IntKind.wrap .u64 (((BitVec.toNat (BitVec.ofInt 64 n6 &&& BitVec.ofInt 64 (IntKind.wrap .u64 (n3-1))):Nat):Int)))) λn7=>
Bg 4 (
Ak (decide (n7>=n0)) (
Af (AF (n7-n0)) λn8=>
Ap 4 [Ah n8])<|
Ap 4 [Ah n7]) λn9=>
Az 4 (
AL<|
.ex [.adr] (c1 λa10=>0<=AF (a+n9)/\AF (a+n9)<(Al data)/\data.a=some a10) (u1 λa11=>
B7 T.a14 a11 (Int.toNat (AF (a+n9))*4) λn12 n13 n14 n15=>
.ex [.adr] (c1 λa16=>0<=n5/\n5<(Al data)/\data.a=some a16) (u1 λa17=>
B7 T.a14 a17 (Int.toNat n5*4) λn18 n19 n20 n21=>
.ex [.adr] (c1 λa22=>0<=n5/\n5<(Al data)/\data.a=some a22) (u1 λa23=>
AT T.a14 a23 (Int.toNat n5*4) (Bl n12 n13 n14 n15)<|
.ex [.adr] (c1 λa24=>0<=AF (a+n9)/\AF (a+n9)<(Al data)/\data.a=some a24) (u1 λa25=>
AT T.a14 a25 (Int.toNat (AF (a+n9))*4) (Bl n18 n19 n20 n21)<|
AN<|
Ap 4 [])))))<|
Af (AF (n5+1)) λn26=>
Ap 3 [Ah n26])<|
Ap 2 [])<|
Ap 1 [])<|
Ap 1 [])<|
Ap 0 []
theorem znb (data:Sl) (a b:Int) (cmp:Value) {w:World} {R:List Value->World->Prop} (h:(z060 data a b cmp).wp P (λ_=>True) w λe vs w'=>e=0/\R vs w'):Ret P F.a162 #[.slice data.a data.len data.cap,.int .i64 a,.int .i64 b,cmp] w R:=dS (n:=67) (rv:=[]) { cnd:=[(2017612633078759469,[(12,.one (.int .i64))]),(604462909807313545068561,[])],blk:=[(0,[])],reg:=[(10,[])],lps:=[(0,[(11,.one (.int .i64))])] } [.val (.slice data.a data.len data.cap),.val (.int .i64 a),.val (.int .i64 b),.any cmp] Go.Proofs.Tryz.func260 (by kernel_rfl) (by kernel_rfl) (by kernel_rfl) (by kernel_rfl) h
def z061 (data:Sl) (a b:Int) (cmp:Value):Prog :=
Af (AF (b-a)) λn0=>
AC T.a12 λa1=>
Af (AF (a+AF (AF (Int.tdiv n0 4)*1))) λn2=>
Af (AF (a+AF (AF (Int.tdiv n0 4)*2))) λn3=>
Af (AF (a+AF (AF (Int.tdiv n0 4)*3))) λn4=>
Bg 1 (
Ak (decide (n0>=8)) (
BS 2 (
Ak (decide (n0>=50)) (
Am F.a178 [data.v,Ah n2,Ax a1,cmp] λn5=>
Af n5 λn6=>
Am F.a178 [data.v,Ah n3,Ax a1,cmp] λn7=>
Af n7 λn8=>
Am F.a178 [data.v,Ah n4,Ax a1,cmp] λn9=>
Af n9 λn10=>
Ap 2 [Ah n6,Ah n8,Ah n10])<|
Ap 2 [Ah n2,Ah n3,Ah n4]) λn11 n12 n13=>
Am F.a182 [data.v,Ah n11,Ah n12,Ah n13,Ax a1,cmp] λn14=>
Af n14 λn15=>
Ap 1 [Ah n15])<|
Ap 1 [Ah n3]) λn16=>
BT T.a12 a1 λn17=>
AH (n17 == 0) (
Af n16 λn19=>
Ap 0 [Ah n19,Ah 1])<|
AH (n17 == 12) (
Af n16 λn21=>
Ap 0 [Ah n21,Ah 2])<|
Af n16 λn22=>
Ap 0 [Ah n22,Ah 0]
theorem znc (data:Sl) (a b:Int) (cmp:Value) {w:World} {R:List Value->World->Prop} (h:(z061 data a b cmp).wp P (λ_=>True) w λe vs w'=>e=0/\R vs w'):Ret P F.a166 #[.slice data.a data.len data.cap,.int .i64 a,.int .i64 b,cmp] w R:=dS (n:=63) (rv:=[.tmp 8,.tmp 9]) { cnd:=[(2305280059377713188,[(12,.one (.int .i64)),(13,.one (.int .i64)),(14,.one (.int .i64))]),(147573811852305498146,[(13,.one (.int .i64))])],blk:=[],reg:=[],lps:=[] } [.val (.slice data.a data.len data.cap),.val (.int .i64 a),.val (.int .i64 b),.any cmp] Go.Proofs.Tryz.func261 (by kernel_rfl) (by kernel_rfl) (by kernel_rfl) (by kernel_rfl) h
def z06b (data:Sl) (a b:Int) (cmp:Value):Prog :=
Af a λn0=>
Af (AF (b-1)) λn1=>
Az 1 (
Br 2 (n0,(n1,())) λn2 n3=>
Ak (decide (n2<n3)) (
Az 3 (
AL<|
.ex [.adr] (c1 λa4=>0<=n3/\n3<(Al data)/\data.a=some a4) (u1 λa5=>
B7 T.a14 a5 (Int.toNat n3*4) λn6 n7 n8 n9=>
.ex [.adr] (c1 λa10=>0<=n2/\n2<(Al data)/\data.a=some a10) (u1 λa11=>
B7 T.a14 a11 (Int.toNat n2*4) λn12 n13 n14 n15=>
.ex [.adr] (c1 λa16=>0<=n2/\n2<(Al data)/\data.a=some a16) (u1 λa17=>
AT T.a14 a17 (Int.toNat n2*4) (Bl n6 n7 n8 n9)<|
.ex [.adr] (c1 λa18=>0<=n3/\n3<(Al data)/\data.a=some a18) (u1 λa19=>
AT T.a14 a19 (Int.toNat n3*4) (Bl n12 n13 n14 n15)<|
AN<|
Ap 3 [])))))<|
Af (AF (n2+1)) λn20=>
Af (AF (n3-1)) λn21=>
Ap 2 [Ah n20,Ah n21])<|
Ap 1 [])<|
Ap 0 []
theorem znn (data:Sl) (a b:Int) (cmp:Value) {w:World} {R:List Value->World->Prop} (h:(z06b data a b cmp).wp P (λ_=>True) w λe vs w'=>e=0/\R vs w'):Ret P F.a207 #[.slice data.a data.len data.cap,.int .i64 a,.int .i64 b,cmp] w R:=dS (n:=34) (rv:=[]) { cnd:=[],blk:=[(0,[])],reg:=[(3,[])],lps:=[(0,[(8,.one (.int .i64)),(9,.one (.int .i64))])] } [.val (.slice data.a data.len data.cap),.val (.int .i64 a),.val (.int .i64 b),.any cmp] Go.Proofs.Tryz.func262 (by kernel_rfl) (by kernel_rfl) (by kernel_rfl) (by kernel_rfl) h
def z067 (data:Sl) (a b:Int) (cmp:Value):Prog :=
Af (AF (a+1)) λn0=>
Az 1 (
Br 2 (n0,(0,())) λn1 n2=>
Ak (decide (n2<5)) (
Bg 3 (
Bg 4 (
AA 5 (n1,()) λn3=>
Aj 6 (
AL<|
.ex [.adr] (c1 λa4=>decide (n3<b)=true->0<=n3/\n3<(Al data)/\data.a=some a4) (u1 λa5=>
BQ (decide (n3<b)=true) T.a14 a5 (Int.toNat n3*4) λn6 n7 n8 n9=>
.ex [.adr] (c1 λa10=>decide (n3<b)=true->0<=AF (n3-1)/\AF (n3-1)<(Al data)/\data.a=some a10) (u1 λa11=>
BQ (decide (n3<b)=true) T.a14 a11 (Int.toNat (AF (n3-1))*4) λn12 n13 n14 n15=>
Ak (decide (n3<b)) (
BR cmp [Bl n6 n7 n8 n9,Bl n12 n13 n14 n15] λn16=>
AN<|
Ap 6 [.bool (not (decide (n16<0)))])<|
AN<|
Ap 6 [.bool false]))) λb17=>
Ak b17 (
Af (AF (n3+1)) λn18=>
Ap 5 [Ah n18])<|
Ap 4 [Ah n3]) λn19=>
Ak (n19 == b) (
Ap 0 [.bool true])<|
Ak (decide (AF (b-a)<50)) (
Ap 0 [.bool false])<|
Az 4 (
AL<|
.ex [.adr] (c1 λa20=>0<=AF (n19-1)/\AF (n19-1)<(Al data)/\data.a=some a20) (u1 λa21=>
B7 T.a14 a21 (Int.toNat (AF (n19-1))*4) λn22 n23 n24 n25=>
.ex [.adr] (c1 λa26=>0<=n19/\n19<(Al data)/\data.a=some a26) (u1 λa27=>
B7 T.a14 a27 (Int.toNat n19*4) λn28 n29 n30 n31=>
.ex [.adr] (c1 λa32=>0<=n19/\n19<(Al data)/\data.a=some a32) (u1 λa33=>
AT T.a14 a33 (Int.toNat n19*4) (Bl n22 n23 n24 n25)<|
.ex [.adr] (c1 λa34=>0<=AF (n19-1)/\AF (n19-1)<(Al data)/\data.a=some a34) (u1 λa35=>
AT T.a14 a35 (Int.toNat (AF (n19-1))*4) (Bl n28 n29 n30 n31)<|
AN<|
Ap 4 [])))))<|
Az 4 (
Ak (decide (AF (n19-a)>=2)) (
Af (AF (n19-1)) λn36=>
Az 5 (
AA 6 (n36,()) λn37=>
Ak (decide (n37>=1)) (
AL<|
.ex [.adr] (c1 λa38=>0<=n37/\n37<(Al data)/\data.a=some a38) (u1 λa39=>
B7 T.a14 a39 (Int.toNat n37*4) λn40 n41 n42 n43=>
.ex [.adr] (c1 λa44=>0<=AF (n37-1)/\AF (n37-1)<(Al data)/\data.a=some a44) (u1 λa45=>
B7 T.a14 a45 (Int.toNat (AF (n37-1))*4) λn46 n47 n48 n49=>
BR cmp [Bl n40 n41 n42 n43,Bl n46 n47 n48 n49] λn50=>
AN<|
Ak (not (decide (n50<0))) (
Ap 5 [])<|
Az 7 (
AL<|
.ex [.adr] (c1 λa51=>0<=AF (n37-1)/\AF (n37-1)<(Al data)/\data.a=some a51) (u1 λa52=>
B7 T.a14 a52 (Int.toNat (AF (n37-1))*4) λn53 n54 n55 n56=>
.ex [.adr] (c1 λa57=>0<=n37/\n37<(Al data)/\data.a=some a57) (u1 λa58=>
B7 T.a14 a58 (Int.toNat n37*4) λn59 n60 n61 n62=>
.ex [.adr] (c1 λa63=>0<=n37/\n37<(Al data)/\data.a=some a63) (u1 λa64=>
AT T.a14 a64 (Int.toNat n37*4) (Bl n53 n54 n55 n56)<|
.ex [.adr] (c1 λa65=>0<=AF (n37-1)/\AF (n37-1)<(Al data)/\data.a=some a65) (u1 λa66=>
AT T.a14 a66 (Int.toNat (AF (n37-1))*4) (Bl n59 n60 n61 n62)<|
AN<|
Ap 7 [])))))<|
Af (AF (n37-1)) λn67=>
Ap 6 [Ah n67])))<|
Ap 5 [])<|
Ap 4 [])<|
Ap 4 [])<|
Az 4 (
Ak (decide (AF (b-n19)>=2)) (
Af (AF (n19+1)) λn68=>
Az 5 (
AA 6 (n68,()) λn69=>
Ak (decide (n69<b)) (
AL<|
.ex [.adr] (c1 λa70=>0<=n69/\n69<(Al data)/\data.a=some a70) (u1 λa71=>
B7 T.a14 a71 (Int.toNat n69*4) λn72 n73 n74 n75=>
.ex [.adr] (c1 λa76=>0<=AF (n69-1)/\AF (n69-1)<(Al data)/\data.a=some a76) (u1 λa77=>
B7 T.a14 a77 (Int.toNat (AF (n69-1))*4) λn78 n79 n80 n81=>
BR cmp [Bl n72 n73 n74 n75,Bl n78 n79 n80 n81] λn82=>
AN<|
Ak (not (decide (n82<0))) (
Ap 5 [])<|
Az 7 (
AL<|
.ex [.adr] (c1 λa83=>0<=AF (n69-1)/\AF (n69-1)<(Al data)/\data.a=some a83) (u1 λa84=>
B7 T.a14 a84 (Int.toNat (AF (n69-1))*4) λn85 n86 n87 n88=>
.ex [.adr] (c1 λa89=>0<=n69/\n69<(Al data)/\data.a=some a89) (u1 λa90=>
B7 T.a14 a90 (Int.toNat n69*4) λn91 n92 n93 n94=>
.ex [.adr] (c1 λa95=>0<=n69/\n69<(Al data)/\data.a=some a95) (u1 λa96=>
AT T.a14 a96 (Int.toNat n69*4) (Bl n85 n86 n87 n88)<|
.ex [.adr] (c1 λa97=>0<=AF (n69-1)/\AF (n69-1)<(Al data)/\data.a=some a97) (u1 λa98=>
AT T.a14 a98 (Int.toNat (AF (n69-1))*4) (Bl n91 n92 n93 n94)<|
AN<|
Ap 7 [])))))<|
Af (AF (n69+1)) λn99=>
Ap 6 [Ah n99])))<|
Ap 5 [])<|
Ap 4 [])<|
Ap 4 [])<|
Ap 3 [Ah n19]) λn100=>
Af (AF (n2+1)) λn101=>
Ap 2 [Ah n100,Ah n101])<|
Ap 1 [])<|
Ap 0 [.bool false]
theorem znj (data:Sl) (a b:Int) (cmp:Value) {w:World} {R:List Value->World->Prop} (h:(z067 data a b cmp).wp P (λ_=>True) w λe vs w'=>e=0/\R vs w'):Ret P F.a191 #[.slice data.a data.len data.cap,.int .i64 a,.int .i64 b,cmp] w R:=dS (n:=141) (rv:=[.tmp 8]) { cnd:=[(10384593716767423802157335373152321,[]),(11417981541481525548993173271482985208543707240,[])],blk:=[(0,[]),(1,[(9,.one (.int .i64))]),(2,[(9,.one (.int .i64))]),(4,[]),(6,[])],reg:=[(5,[(36,.one .bool)]),(11,[]),(17,[]),(23,[])],lps:=[(0,[(9,.one (.int .i64)),(10,.one (.int .i64))]),(2,[(9,.one (.int .i64))]),(4,[(11,.one (.int .i64))]),(6,[(12,.one (.int .i64))])] } [.val (.slice data.a data.len data.cap),.val (.int .i64 a),.val (.int .i64 b),.any cmp] Go.Proofs.Tryz.func263 (by kernel_rfl) (by kernel_rfl) (by kernel_rfl) (by kernel_rfl) h
def z069 (data:Sl) (a b pivot:Int) (cmp:Value):Prog :=
Az 1 (
AL<|
.ex [.adr] (c1 λa0=>0<=pivot/\pivot<(Al data)/\data.a=some a0) (u1 λa1=>
B7 T.a14 a1 (Int.toNat pivot*4) λn2 n3 n4 n5=>
.ex [.adr] (c1 λa6=>0<=a/\a<(Al data)/\data.a=some a6) (u1 λa7=>
B7 T.a14 a7 (Int.toNat a*4) λn8 n9 n10 n11=>
.ex [.adr] (c1 λa12=>0<=a/\a<(Al data)/\data.a=some a12) (u1 λa13=>
AT T.a14 a13 (Int.toNat a*4) (Bl n2 n3 n4 n5)<|
.ex [.adr] (c1 λa14=>0<=pivot/\pivot<(Al data)/\data.a=some a14) (u1 λa15=>
AT T.a14 a15 (Int.toNat pivot*4) (Bl n8 n9 n10 n11)<|
AN<|
Ap 1 [])))))<|
Af (AF (a+1)) λn16=>
Af (AF (b-1)) λn17=>
Bg 1 (
Br 2 (n16,(n17,())) λn18 n19=>
Bf 3 (
Bg 4 (
AA 5 (n18,()) λn20=>
Aj 6 (
AL<|
.ex [.adr] (c1 λa21=>decide (n20<=n19)=true->0<=a/\a<(Al data)/\data.a=some a21) (u1 λa22=>
BQ (decide (n20<=n19)=true) T.a14 a22 (Int.toNat a*4) λn23 n24 n25 n26=>
.ex [.adr] (c1 λa27=>decide (n20<=n19)=true->0<=n20/\n20<(Al data)/\data.a=some a27) (u1 λa28=>
BQ (decide (n20<=n19)=true) T.a14 a28 (Int.toNat n20*4) λn29 n30 n31 n32=>
Ak (decide (n20<=n19)) (
BR cmp [Bl n23 n24 n25 n26,Bl n29 n30 n31 n32] λn33=>
AN<|
Ap 6 [.bool (not (decide (n33<0)))])<|
AN<|
Ap 6 [.bool false]))) λb34=>
Ak b34 (
Af (AF (n20+1)) λn35=>
Ap 5 [Ah n35])<|
Ap 4 [Ah n20]) λn36=>
Bg 4 (
AA 5 (n19,()) λn37=>
Aj 6 (
AL<|
.ex [.adr] (c1 λa38=>decide (n36<=n37)=true->0<=a/\a<(Al data)/\data.a=some a38) (u1 λa39=>
BQ (decide (n36<=n37)=true) T.a14 a39 (Int.toNat a*4) λn40 n41 n42 n43=>
.ex [.adr] (c1 λa44=>decide (n36<=n37)=true->0<=n37/\n37<(Al data)/\data.a=some a44) (u1 λa45=>
BQ (decide (n36<=n37)=true) T.a14 a45 (Int.toNat n37*4) λn46 n47 n48 n49=>
Ak (decide (n36<=n37)) (
BR cmp [Bl n40 n41 n42 n43,Bl n46 n47 n48 n49] λn50=>
AN<|
Ap 6 [.bool (decide (n50<0))])<|
AN<|
Ap 6 [.bool false]))) λb51=>
Ak b51 (
Af (AF (n37-1)) λn52=>
Ap 5 [Ah n52])<|
Ap 4 [Ah n37]) λn53=>
Ak (decide (n36>n53)) (
Ap 1 [Ah n36])<|
Az 4 (
AL<|
.ex [.adr] (c1 λa54=>0<=n53/\n53<(Al data)/\data.a=some a54) (u1 λa55=>
B7 T.a14 a55 (Int.toNat n53*4) λn56 n57 n58 n59=>
.ex [.adr] (c1 λa60=>0<=n36/\n36<(Al data)/\data.a=some a60) (u1 λa61=>
B7 T.a14 a61 (Int.toNat n36*4) λn62 n63 n64 n65=>
.ex [.adr] (c1 λa66=>0<=n36/\n36<(Al data)/\data.a=some a66) (u1 λa67=>
AT T.a14 a67 (Int.toNat n36*4) (Bl n56 n57 n58 n59)<|
.ex [.adr] (c1 λa68=>0<=n53/\n53<(Al data)/\data.a=some a68) (u1 λa69=>
AT T.a14 a69 (Int.toNat n53*4) (Bl n62 n63 n64 n65)<|
AN<|
Ap 4 [])))))<|
Af (AF (n36+1)) λn70=>
Af (AF (n53-1)) λn71=>
Ap 3 [Ah n70,Ah n71]) λn72 n73=>
Ap 2 [Ah n72,Ah n73]) λn74=>
Af n74 λn75=>
Ap 0 [Ah n75]
theorem znl (data:Sl) (a b pivot:Int) (cmp:Value) {w:World} {R:List Value->World->Prop} (h:(z069 data a b pivot cmp).wp P (λ_=>True) w λe vs w'=>e=0/\R vs w'):Ret P F.a197 #[.slice data.a data.len data.cap,.int .i64 a,.int .i64 b,.int .i64 pivot,cmp] w R:=dS (n:=90) (rv:=[.tmp 10]) { cnd:=[],blk:=[(0,[(11,.one (.int .i64))]),(1,[(11,.one (.int .i64)),(12,.one (.int .i64))]),(2,[(11,.one (.int .i64))]),(4,[(12,.one (.int .i64))])],reg:=[(1,[]),(3,[(47,.one .bool)]),(5,[(65,.one .bool)]),(8,[])],lps:=[(0,[(11,.one (.int .i64)),(12,.one (.int .i64))]),(2,[(11,.one (.int .i64))]),(4,[(12,.one (.int .i64))])] } [.val (.slice data.a data.len data.cap),.val (.int .i64 a),.val (.int .i64 b),.val (.int .i64 pivot),.any cmp] Go.Proofs.Tryz.func264 (by kernel_rfl) (by kernel_rfl) (by kernel_rfl) (by kernel_rfl) h
def z068 (data:Sl) (a b pivot:Int) (cmp:Value):Prog :=
Az 1 (
AL<|
.ex [.adr] (c1 λa0=>0<=pivot/\pivot<(Al data)/\data.a=some a0) (u1 λa1=>
B7 T.a14 a1 (Int.toNat pivot*4) λn2 n3 n4 n5=>
.ex [.adr] (c1 λa6=>0<=a/\a<(Al data)/\data.a=some a6) (u1 λa7=>
B7 T.a14 a7 (Int.toNat a*4) λn8 n9 n10 n11=>
.ex [.adr] (c1 λa12=>0<=a/\a<(Al data)/\data.a=some a12) (u1 λa13=>
AT T.a14 a13 (Int.toNat a*4) (Bl n2 n3 n4 n5)<|
.ex [.adr] (c1 λa14=>0<=pivot/\pivot<(Al data)/\data.a=some a14) (u1 λa15=>
AT T.a14 a15 (Int.toNat pivot*4) (Bl n8 n9 n10 n11)<|
AN<|
Ap 1 [])))))<|
Af (AF (a+1)) λn16=>
Af (AF (b-1)) λn17=>
Bg 1 (
AA 2 (n16,()) λn18=>
Aj 3 (
AL<|
.ex [.adr] (c1 λa19=>decide (n18<=n17)=true->0<=n18/\n18<(Al data)/\data.a=some a19) (u1 λa20=>
BQ (decide (n18<=n17)=true) T.a14 a20 (Int.toNat n18*4) λn21 n22 n23 n24=>
.ex [.adr] (c1 λa25=>decide (n18<=n17)=true->0<=a/\a<(Al data)/\data.a=some a25) (u1 λa26=>
BQ (decide (n18<=n17)=true) T.a14 a26 (Int.toNat a*4) λn27 n28 n29 n30=>
Ak (decide (n18<=n17)) (
BR cmp [Bl n21 n22 n23 n24,Bl n27 n28 n29 n30] λn31=>
AN<|
Ap 3 [.bool (decide (n31<0))])<|
AN<|
Ap 3 [.bool false]))) λb32=>
Ak b32 (
Af (AF (n18+1)) λn33=>
Ap 2 [Ah n33])<|
Ap 1 [Ah n18]) λn34=>
Bg 1 (
AA 2 (n17,()) λn35=>
Aj 3 (
AL<|
.ex [.adr] (c1 λa36=>decide (n34<=n35)=true->0<=n35/\n35<(Al data)/\data.a=some a36) (u1 λa37=>
BQ (decide (n34<=n35)=true) T.a14 a37 (Int.toNat n35*4) λn38 n39 n40 n41=>
.ex [.adr] (c1 λa42=>decide (n34<=n35)=true->0<=a/\a<(Al data)/\data.a=some a42) (u1 λa43=>
BQ (decide (n34<=n35)=true) T.a14 a43 (Int.toNat a*4) λn44 n45 n46 n47=>
Ak (decide (n34<=n35)) (
BR cmp [Bl n38 n39 n40 n41,Bl n44 n45 n46 n47] λn48=>
AN<|
Ap 3 [.bool (not (decide (n48<0)))])<|
AN<|
Ap 3 [.bool false]))) λb49=>
Ak b49 (
Af (AF (n35-1)) λn50=>
Ap 2 [Ah n50])<|
Ap 1 [Ah n35]) λn51=>
Ak (decide (n34>n51)) (
Az 1 (
AL<|
.ex [.adr] (c1 λa52=>0<=a/\a<(Al data)/\data.a=some a52) (u1 λa53=>
B7 T.a14 a53 (Int.toNat a*4) λn54 n55 n56 n57=>
.ex [.adr] (c1 λa58=>0<=n51/\n51<(Al data)/\data.a=some a58) (u1 λa59=>
B7 T.a14 a59 (Int.toNat n51*4) λn60 n61 n62 n63=>
.ex [.adr] (c1 λa64=>0<=n51/\n51<(Al data)/\data.a=some a64) (u1 λa65=>
AT T.a14 a65 (Int.toNat n51*4) (Bl n54 n55 n56 n57)<|
.ex [.adr] (c1 λa66=>0<=a/\a<(Al data)/\data.a=some a66) (u1 λa67=>
AT T.a14 a67 (Int.toNat a*4) (Bl n60 n61 n62 n63)<|
AN<|
Ap 1 [])))))<|
Af n51 λn68=>
Ap 0 [Ah n68,.bool true])<|
Az 1 (
AL<|
.ex [.adr] (c1 λa69=>0<=n51/\n51<(Al data)/\data.a=some a69) (u1 λa70=>
B7 T.a14 a70 (Int.toNat n51*4) λn71 n72 n73 n74=>
.ex [.adr] (c1 λa75=>0<=n34/\n34<(Al data)/\data.a=some a75) (u1 λa76=>
B7 T.a14 a76 (Int.toNat n34*4) λn77 n78 n79 n80=>
.ex [.adr] (c1 λa81=>0<=n34/\n34<(Al data)/\data.a=some a81) (u1 λa82=>
AT T.a14 a82 (Int.toNat n34*4) (Bl n71 n72 n73 n74)<|
.ex [.adr] (c1 λa83=>0<=n51/\n51<(Al data)/\data.a=some a83) (u1 λa84=>
AT T.a14 a84 (Int.toNat n51*4) (Bl n77 n78 n79 n80)<|
AN<|
Ap 1 [])))))<|
Af (AF (n34+1)) λn85=>
Af (AF (n51-1)) λn86=>
Bg 1 (
Br 2 (n85,(n86,())) λn87 n88=>
Bf 3 (
Bg 4 (
AA 5 (n87,()) λn89=>
Aj 6 (
AL<|
.ex [.adr] (c1 λa90=>decide (n89<=n88)=true->0<=n89/\n89<(Al data)/\data.a=some a90) (u1 λa91=>
BQ (decide (n89<=n88)=true) T.a14 a91 (Int.toNat n89*4) λn92 n93 n94 n95=>
.ex [.adr] (c1 λa96=>decide (n89<=n88)=true->0<=a/\a<(Al data)/\data.a=some a96) (u1 λa97=>
BQ (decide (n89<=n88)=true) T.a14 a97 (Int.toNat a*4) λn98 n99 n100 n101=>
Ak (decide (n89<=n88)) (
BR cmp [Bl n92 n93 n94 n95,Bl n98 n99 n100 n101] λn102=>
AN<|
Ap 6 [.bool (decide (n102<0))])<|
AN<|
Ap 6 [.bool false]))) λb103=>
Ak b103 (
Af (AF (n89+1)) λn104=>
Ap 5 [Ah n104])<|
Ap 4 [Ah n89]) λn105=>
Bg 4 (
AA 5 (n88,()) λn106=>
Aj 6 (
AL<|
.ex [.adr] (c1 λa107=>decide (n105<=n106)=true->0<=n106/\n106<(Al data)/\data.a=some a107) (u1 λa108=>
BQ (decide (n105<=n106)=true) T.a14 a108 (Int.toNat n106*4) λn109 n110 n111 n112=>
.ex [.adr] (c1 λa113=>decide (n105<=n106)=true->0<=a/\a<(Al data)/\data.a=some a113) (u1 λa114=>
BQ (decide (n105<=n106)=true) T.a14 a114 (Int.toNat a*4) λn115 n116 n117 n118=>
Ak (decide (n105<=n106)) (
BR cmp [Bl n109 n110 n111 n112,Bl n115 n116 n117 n118] λn119=>
AN<|
Ap 6 [.bool (not (decide (n119<0)))])<|
AN<|
Ap 6 [.bool false]))) λb120=>
Ak b120 (
Af (AF (n106-1)) λn121=>
Ap 5 [Ah n121])<|
Ap 4 [Ah n106]) λn122=>
Ak (decide (n105>n122)) (
Ap 1 [Ah n122])<|
Az 4 (
AL<|
.ex [.adr] (c1 λa123=>0<=n122/\n122<(Al data)/\data.a=some a123) (u1 λa124=>
B7 T.a14 a124 (Int.toNat n122*4) λn125 n126 n127 n128=>
.ex [.adr] (c1 λa129=>0<=n105/\n105<(Al data)/\data.a=some a129) (u1 λa130=>
B7 T.a14 a130 (Int.toNat n105*4) λn131 n132 n133 n134=>
.ex [.adr] (c1 λa135=>0<=n105/\n105<(Al data)/\data.a=some a135) (u1 λa136=>
AT T.a14 a136 (Int.toNat n105*4) (Bl n125 n126 n127 n128)<|
.ex [.adr] (c1 λa137=>0<=n122/\n122<(Al data)/\data.a=some a137) (u1 λa138=>
AT T.a14 a138 (Int.toNat n122*4) (Bl n131 n132 n133 n134)<|
AN<|
Ap 4 [])))))<|
Af (AF (n105+1)) λn139=>
Af (AF (n122-1)) λn140=>
Ap 3 [Ah n139,Ah n140]) λn141 n142=>
Ap 2 [Ah n141,Ah n142]) λn143=>
Az 1 (
AL<|
.ex [.adr] (c1 λa144=>0<=a/\a<(Al data)/\data.a=some a144) (u1 λa145=>
B7 T.a14 a145 (Int.toNat a*4) λn146 n147 n148 n149=>
.ex [.adr] (c1 λa150=>0<=n143/\n143<(Al data)/\data.a=some a150) (u1 λa151=>
B7 T.a14 a151 (Int.toNat n143*4) λn152 n153 n154 n155=>
.ex [.adr] (c1 λa156=>0<=n143/\n143<(Al data)/\data.a=some a156) (u1 λa157=>
AT T.a14 a157 (Int.toNat n143*4) (Bl n146 n147 n148 n149)<|
.ex [.adr] (c1 λa158=>0<=a/\a<(Al data)/\data.a=some a158) (u1 λa159=>
AT T.a14 a159 (Int.toNat a*4) (Bl n152 n153 n154 n155)<|
AN<|
Ap 1 [])))))<|
Af n143 λn160=>
Ap 0 [Ah n160,.bool false]
theorem znk (data:Sl) (a b pivot:Int) (cmp:Value) {w:World} {R:List Value->World->Prop} (h:(z068 data a b pivot cmp).wp P (λ_=>True) w λe vs w'=>e=0/\R vs w'):Ret P F.a195 #[.slice data.a data.len data.cap,.int .i64 a,.int .i64 b,.int .i64 pivot,cmp] w R:=dS (n:=178) (rv:=[.tmp 10,.tmp 11]) { cnd:=[],blk:=[(0,[(12,.one (.int .i64))]),(2,[(13,.one (.int .i64))]),(4,[(13,.one (.int .i64))]),(5,[(12,.one (.int .i64)),(13,.one (.int .i64))]),(6,[(12,.one (.int .i64))]),(8,[(13,.one (.int .i64))])],reg:=[(1,[]),(3,[(47,.one .bool)]),(5,[(66,.one .bool)]),(8,[]),(10,[]),(13,[(120,.one .bool)]),(15,[(139,.one .bool)]),(18,[]),(21,[])],lps:=[(0,[(12,.one (.int .i64))]),(2,[(13,.one (.int .i64))]),(4,[(12,.one (.int .i64)),(13,.one (.int .i64))]),(6,[(12,.one (.int .i64))]),(8,[(13,.one (.int .i64))])] } [.val (.slice data.a data.len data.cap),.val (.int .i64 a),.val (.int .i64 b),.val (.int .i64 pivot),.any cmp] Go.Proofs.Tryz.func265 (by kernel_rfl) (by kernel_rfl) (by kernel_rfl) (by kernel_rfl) h
def z07y (data:Sl) (lo hi:Int) (first:Int):Prog :=
Af lo λn0=>
Az 1 (
AA 2 (n0,()) λn1=>
Af (AF (AF (2*n1)+1)) λn2=>
Ak (decide (n2>=hi)) (
Ap 1 [])<|
Aj 3 (
AL<|
.ex [.adr] (c1 λa3=>decide (AF (n2+1)<hi)=true->0<=AF (first+n2)/\AF (first+n2)<(Al data)/\data.a=some a3) (u1 λa4=>
BL (decide (AF (n2+1)<hi)=true) T.a47 a4 (Int.toNat (AF (first+n2))*1) λs5=>
.ex [.adr] (c1 λa6=>decide (AF (n2+1)<hi)=true->0<=AF (AF (first+n2)+1)/\AF (AF (first+n2)+1)<(Al data)/\data.a=some a6) (u1 λa7=>
BL (decide (AF (n2+1)<hi)=true) T.a47 a7 (Int.toNat (AF (AF (first+n2)+1))*1) λs8=>
Ak (decide (AF (n2+1)<hi)) (
Ao F.a3 [.string s5,.string s8] λb9=>
AN<|
Ap 3 [.bool b9])<|
AN<|
Ap 3 [.bool false]))) λb10=>
Bg 3 (
Ak b10 (
Af (AF (n2+1)) λn11=>
Ap 3 [Ah n11])<|
Ap 3 [Ah n2]) λn12=>
AL<|
.ex [.adr] (c1 λa13=>0<=AF (first+n1)/\AF (first+n1)<(Al data)/\data.a=some a13) (u1 λa14=>
AY T.a47 a14 (Int.toNat (AF (first+n1))*1) λs15=>
.ex [.adr] (c1 λa16=>0<=AF (first+n12)/\AF (first+n12)<(Al data)/\data.a=some a16) (u1 λa17=>
AY T.a47 a17 (Int.toNat (AF (first+n12))*1) λs18=>
Ao F.a3 [.string s15,.string s18] λb19=>
AN<|
Ak (not b19) (
Ap 0 [])<|
Az 3 (
AL<|
.ex [.adr] (c1 λa20=>0<=AF (first+n12)/\AF (first+n12)<(Al data)/\data.a=some a20) (u1 λa21=>
AY T.a47 a21 (Int.toNat (AF (first+n12))*1) λs22=>
.ex [.adr] (c1 λa23=>0<=AF (first+n1)/\AF (first+n1)<(Al data)/\data.a=some a23) (u1 λa24=>
AY T.a47 a24 (Int.toNat (AF (first+n1))*1) λs25=>
.ex [.adr] (c1 λa26=>0<=AF (first+n1)/\AF (first+n1)<(Al data)/\data.a=some a26) (u1 λa27=>
AT T.a47 a27 (Int.toNat (AF (first+n1))*1) (.string s22)<|
.ex [.adr] (c1 λa28=>0<=AF (first+n12)/\AF (first+n12)<(Al data)/\data.a=some a28) (u1 λa29=>
AT T.a47 a29 (Int.toNat (AF (first+n12))*1) (.string s25)<|
AN<|
Ap 3 [])))))<|
Af n12 λn30=>
Ap 2 [Ah n30])))<|
Ap 0 []
def zzp (length:Int):Prog :=
Am F.a82 [.int .u64 (IntKind.wrap .u64 length)] λn0=>
.must (0<=n0) <|
Bd (IntKind.wrap .u64 (1*2 ^ min (Int.toNat n0) 64)) λn1=>
Ap 0 [.int .u64 n1]
theorem znh (length:Int):FnS (zzp length) F.a185 #[.int .i64 length]:=dV ⟨[],[],[],[]⟩ Go.Proofs.Tryz.func270 (by kernel_rfl)
def zzq (r:Option Addr):Prog :=
AL<|
AI r λa1=>
BV T.a46 a1 λn2=>
AI r λa4=>
BV T.a46 a4 λn5=>
AI r λa7=>
AD T.a46 a7 (.int .u64 (IntKind.wrap .u64 (((BitVec.toNat (BitVec.ofInt 64 n2 ^^^ BitVec.ofInt 64 (IntKind.wrap .u64 (n5*8192))):Nat):Int))))<|
AN<|
AL<|
AI r λa9=>
BV T.a46 a9 λn10=>
AI r λa12=>
BV T.a46 a12 λn13=>
AI r λa15=>
AD T.a46 a15 (.int .u64 (IntKind.wrap .u64 (((BitVec.toNat (BitVec.ofInt 64 n10 ^^^ BitVec.ofInt 64 (Int.fdiv n13 128)):Nat):Int))))<|
AN<|
AL<|
AI r λa17=>
BV T.a46 a17 λn18=>
AI r λa20=>
BV T.a46 a20 λn21=>
AI r λa23=>
AD T.a46 a23 (.int .u64 (IntKind.wrap .u64 (((BitVec.toNat (BitVec.ofInt 64 n18 ^^^ BitVec.ofInt 64 (IntKind.wrap .u64 (n21*131072))):Nat):Int))))<|
AN<|
AI r λa25=>
BV T.a46 a25 λn26=>
Bd n26 λn27=>
Ap 0 [.int .u64 n27]
theorem znp (r:Option Addr):FnS (zzq r) F.a214 #[.pointer r]:=dV ⟨[],[],[],[]⟩ Go.Proofs.Tryz.func271 (by kernel_rfl)
def z07a (data:Sl) (a:Int) (swaps:Option Addr):Prog :=
Am F.a184 [data.v,Ah (AF (a-1)),Ah a,Ah (AF (a+1)),Ad swaps] λn0=>
Af n0 λn1=>
Ap 0 [Ah n1]
def z07d (data:Sl) (a b c:Int) (swaps:Option Addr):Prog :=
Ai F.a189 [data.v,Ah a,Ah b,Ad swaps] λn0 n1=>
Af n0 λn2=>
Af n1 λn3=>
Ai F.a189 [data.v,Ah n3,Ah c,Ad swaps] λn4 n5=>
Af n4 λn6=>
Af n5 λn7=>
Ai F.a189 [data.v,Ah n2,Ah n6,Ad swaps] λn8 n9=>
Af n8 λn10=>
Af n9 λn11=>
Af n11 λn12=>
Ap 0 [Ah n12]
def zf5 (x:ByteArray):Prog :=
Ag (not (ByteArray.toList x == ByteArray.toList x)) λb0=>
Ap 0 [.bool b0]
def z076 (data:Sl) (a:Int) (b:Int):Prog :=
Af (AF (a+1)) λn0=>
Az 1 (
AA 2 (n0,()) λn1=>
Ak (decide (n1<b)) (
Az 3 (
Af n1 λn2=>
Az 4 (
AA 5 (n2,()) λn3=>
Aj 6 (
AL<|
.ex [.adr] (c1 λa4=>decide (n3>a)=true->0<=n3/\n3<(Al data)/\data.a=some a4) (u1 λa5=>
As (decide (n3>a)=true) T.a13 a5 (Int.toNat n3*1) λn6=>
.ex [.adr] (c1 λa7=>decide (n3>a)=true->0<=AF (n3-1)/\AF (n3-1)<(Al data)/\data.a=some a7) (u1 λa8=>
As (decide (n3>a)=true) T.a13 a8 (Int.toNat (AF (n3-1))*1) λn9=>
Ak (decide (n3>a)) (
Ao F.a2 [Ah n6,Ah n9] λb10=>
AN<|
Ap 6 [.bool b10])<|
AN<|
Ap 6 [.bool false]))) λb11=>
Ak b11 (
Az 6 (
AL<|
.ex [.adr] (c1 λa12=>0<=AF (n3-1)/\AF (n3-1)<(Al data)/\data.a=some a12) (u1 λa13=>
Ar T.a13 a13 (Int.toNat (AF (n3-1))*1) λn14=>
.ex [.adr] (c1 λa15=>0<=n3/\n3<(Al data)/\data.a=some a15) (u1 λa16=>
Ar T.a13 a16 (Int.toNat n3*1) λn17=>
.ex [.adr] (c1 λa18=>0<=n3/\n3<(Al data)/\data.a=some a18) (u1 λa19=>
AT T.a13 a19 (Int.toNat n3*1) (Ah n14)<|
.ex [.adr] (c1 λa20=>0<=AF (n3-1)/\AF (n3-1)<(Al data)/\data.a=some a20) (u1 λa21=>
AT T.a13 a21 (Int.toNat (AF (n3-1))*1) (Ah n17)<|
AN<|
Ap 6 [])))))<|
Af (AF (n3-1)) λn22=>
Ap 5 [Ah n22])<|
Ap 4 [])<|
Ap 3 [])<|
Af (AF (n1+1)) λn23=>
Ap 2 [Ah n23])<|
Ap 1 [])<|
Ap 0 []
def z073 (data:Sl) (a:Int) (b:Int):Prog :=
Af a λn0=>
Af (AF (b-a)) λn1=>
Af (AF (Int.tdiv (AF (n1-1)) 2)) λn2=>
Az 1 (
AA 2 (n2,()) λn3=>
Ak (decide (n3>=0)) (
AE F.a212 [data.v,Ah n3,Ah n1,Ah n0]<|
Af (AF (n3-1)) λn4=>
Ap 2 [Ah n4])<|
Ap 1 [])<|
Af (AF (n1-1)) λn5=>
Az 1 (
AA 2 (n5,()) λn6=>
Ak (decide (n6>=0)) (
Az 3 (
AL<|
.ex [.adr] (c1 λa7=>0<=AF (n0+n6)/\AF (n0+n6)<(Al data)/\data.a=some a7) (u1 λa8=>
Ar T.a13 a8 (Int.toNat (AF (n0+n6))*1) λn9=>
.ex [.adr] (c1 λa10=>0<=n0/\n0<(Al data)/\data.a=some a10) (u1 λa11=>
Ar T.a13 a11 (Int.toNat n0*1) λn12=>
.ex [.adr] (c1 λa13=>0<=n0/\n0<(Al data)/\data.a=some a13) (u1 λa14=>
AT T.a13 a14 (Int.toNat n0*1) (Ah n9)<|
.ex [.adr] (c1 λa15=>0<=AF (n0+n6)/\AF (n0+n6)<(Al data)/\data.a=some a15) (u1 λa16=>
AT T.a13 a16 (Int.toNat (AF (n0+n6))*1) (Ah n12)<|
AN<|
Ap 3 [])))))<|
AE F.a212 [data.v,Ah 0,Ah n6,Ah n0]<|
Af (AF (n6-1)) λn17=>
Ap 2 [Ah n17])<|
Ap 1 [])<|
Ap 0 []
def z06x (data:Sl) (a:Int) (b:Int):Prog :=
Af (AF (b-a)) λn0=>
Az 1 (
Ak (decide (n0>=8)) (
AC T.a46 λa1=>
AD T.a46 a1 (.int .u64 (IntKind.wrap .u64 n0))<|
Bc F.a185 [Ah n0] λn2=>
Bd n2 λn3=>
Af (AF (AF (a+AF (AF (Int.tdiv n0 4)*2))-1)) λn4=>
Az 2 (
AA 3 (n4,()) λn5=>
Ak (decide (n5<=AF (AF (a+AF (AF (Int.tdiv n0 4)*2))+1))) (
Bc F.a214 [Ax a1] λn6=>
Af (AF (IntKind.wrap .u64 (((BitVec.toNat (BitVec.ofInt 64 n6 &&& BitVec.ofInt 64 (IntKind.wrap .u64 (n3-1))):Nat):Int)))) λn7=>
Bg 4 (
Ak (decide (n7>=n0)) (
Af (AF (n7-n0)) λn8=>
Ap 4 [Ah n8])<|
Ap 4 [Ah n7]) λn9=>
Az 4 (
AL<|
.ex [.adr] (c1 λa10=>0<=AF (a+n9)/\AF (a+n9)<(Al data)/\data.a=some a10) (u1 λa11=>
Ar T.a13 a11 (Int.toNat (AF (a+n9))*1) λn12=>
.ex [.adr] (c1 λa13=>0<=n5/\n5<(Al data)/\data.a=some a13) (u1 λa14=>
Ar T.a13 a14 (Int.toNat n5*1) λn15=>
.ex [.adr] (c1 λa16=>0<=n5/\n5<(Al data)/\data.a=some a16) (u1 λa17=>
AT T.a13 a17 (Int.toNat n5*1) (Ah n12)<|
.ex [.adr] (c1 λa18=>0<=AF (a+n9)/\AF (a+n9)<(Al data)/\data.a=some a18) (u1 λa19=>
AT T.a13 a19 (Int.toNat (AF (a+n9))*1) (Ah n15)<|
AN<|
Ap 4 [])))))<|
Af (AF (n5+1)) λn20=>
Ap 3 [Ah n20])<|
Ap 2 [])<|
Ap 1 [])<|
Ap 1 [])<|
Ap 0 []
def z070 (data:Sl) (a:Int) (b:Int):Prog :=
Af (AF (b-a)) λn0=>
AC T.a12 λa1=>
Af (AF (a+AF (AF (Int.tdiv n0 4)*1))) λn2=>
Af (AF (a+AF (AF (Int.tdiv n0 4)*2))) λn3=>
Af (AF (a+AF (AF (Int.tdiv n0 4)*3))) λn4=>
Bg 1 (
Ak (decide (n0>=8)) (
BS 2 (
Ak (decide (n0>=50)) (
Am F.a179 [data.v,Ah n2,Ax a1] λn5=>
Af n5 λn6=>
Am F.a179 [data.v,Ah n3,Ax a1] λn7=>
Af n7 λn8=>
Am F.a179 [data.v,Ah n4,Ax a1] λn9=>
Af n9 λn10=>
Ap 2 [Ah n6,Ah n8,Ah n10])<|
Ap 2 [Ah n2,Ah n3,Ah n4]) λn11 n12 n13=>
Am F.a183 [data.v,Ah n11,Ah n12,Ah n13,Ax a1] λn14=>
Af n14 λn15=>
Ap 1 [Ah n15])<|
Ap 1 [Ah n3]) λn16=>
BT T.a12 a1 λn17=>
AH (n17 == 0) (
Af n16 λn19=>
Ap 0 [Ah n19,Ah 1])<|
AH (n17 == 12) (
Af n16 λn21=>
Ap 0 [Ah n21,Ah 2])<|
Af n16 λn22=>
Ap 0 [Ah n22,Ah 0]
def z07u (data:Sl) (a:Int) (b:Int):Prog :=
Af a λn0=>
Af (AF (b-1)) λn1=>
Az 1 (
Br 2 (n0,(n1,())) λn2 n3=>
Ak (decide (n2<n3)) (
Az 3 (
AL<|
.ex [.adr] (c1 λa4=>0<=n3/\n3<(Al data)/\data.a=some a4) (u1 λa5=>
Ar T.a13 a5 (Int.toNat n3*1) λn6=>
.ex [.adr] (c1 λa7=>0<=n2/\n2<(Al data)/\data.a=some a7) (u1 λa8=>
Ar T.a13 a8 (Int.toNat n2*1) λn9=>
.ex [.adr] (c1 λa10=>0<=n2/\n2<(Al data)/\data.a=some a10) (u1 λa11=>
AT T.a13 a11 (Int.toNat n2*1) (Ah n6)<|
.ex [.adr] (c1 λa12=>0<=n3/\n3<(Al data)/\data.a=some a12) (u1 λa13=>
AT T.a13 a13 (Int.toNat n3*1) (Ah n9)<|
AN<|
Ap 3 [])))))<|
Af (AF (n2+1)) λn14=>
Af (AF (n3-1)) λn15=>
Ap 2 [Ah n14,Ah n15])<|
Ap 1 [])<|
Ap 0 []
def z07i (data:Sl) (a:Int) (b:Int):Prog :=
Af (AF (a+1)) λn0=>
Az 1 (
Br 2 (n0,(0,())) λn1 n2=>
Ak (decide (n2<5)) (
Bg 3 (
Bg 4 (
AA 5 (n1,()) λn3=>
Aj 6 (
AL<|
.ex [.adr] (c1 λa4=>decide (n3<b)=true->0<=n3/\n3<(Al data)/\data.a=some a4) (u1 λa5=>
As (decide (n3<b)=true) T.a13 a5 (Int.toNat n3*1) λn6=>
.ex [.adr] (c1 λa7=>decide (n3<b)=true->0<=AF (n3-1)/\AF (n3-1)<(Al data)/\data.a=some a7) (u1 λa8=>
As (decide (n3<b)=true) T.a13 a8 (Int.toNat (AF (n3-1))*1) λn9=>
Ak (decide (n3<b)) (
Ao F.a2 [Ah n6,Ah n9] λb10=>
AN<|
Ap 6 [.bool (not b10)])<|
AN<|
Ap 6 [.bool false]))) λb11=>
Ak b11 (
Af (AF (n3+1)) λn12=>
Ap 5 [Ah n12])<|
Ap 4 [Ah n3]) λn13=>
Ak (n13 == b) (
Ap 0 [.bool true])<|
Ak (decide (AF (b-a)<50)) (
Ap 0 [.bool false])<|
Az 4 (
AL<|
.ex [.adr] (c1 λa14=>0<=AF (n13-1)/\AF (n13-1)<(Al data)/\data.a=some a14) (u1 λa15=>
Ar T.a13 a15 (Int.toNat (AF (n13-1))*1) λn16=>
.ex [.adr] (c1 λa17=>0<=n13/\n13<(Al data)/\data.a=some a17) (u1 λa18=>
Ar T.a13 a18 (Int.toNat n13*1) λn19=>
.ex [.adr] (c1 λa20=>0<=n13/\n13<(Al data)/\data.a=some a20) (u1 λa21=>
AT T.a13 a21 (Int.toNat n13*1) (Ah n16)<|
.ex [.adr] (c1 λa22=>0<=AF (n13-1)/\AF (n13-1)<(Al data)/\data.a=some a22) (u1 λa23=>
AT T.a13 a23 (Int.toNat (AF (n13-1))*1) (Ah n19)<|
AN<|
Ap 4 [])))))<|
Az 4 (
Ak (decide (AF (n13-a)>=2)) (
Af (AF (n13-1)) λn24=>
Az 5 (
AA 6 (n24,()) λn25=>
Ak (decide (n25>=1)) (
AL<|
.ex [.adr] (c1 λa26=>0<=n25/\n25<(Al data)/\data.a=some a26) (u1 λa27=>
Ar T.a13 a27 (Int.toNat n25*1) λn28=>
.ex [.adr] (c1 λa29=>0<=AF (n25-1)/\AF (n25-1)<(Al data)/\data.a=some a29) (u1 λa30=>
Ar T.a13 a30 (Int.toNat (AF (n25-1))*1) λn31=>
Ao F.a2 [Ah n28,Ah n31] λb32=>
AN<|
Ak (not b32) (
Ap 5 [])<|
Az 7 (
AL<|
.ex [.adr] (c1 λa33=>0<=AF (n25-1)/\AF (n25-1)<(Al data)/\data.a=some a33) (u1 λa34=>
Ar T.a13 a34 (Int.toNat (AF (n25-1))*1) λn35=>
.ex [.adr] (c1 λa36=>0<=n25/\n25<(Al data)/\data.a=some a36) (u1 λa37=>
Ar T.a13 a37 (Int.toNat n25*1) λn38=>
.ex [.adr] (c1 λa39=>0<=n25/\n25<(Al data)/\data.a=some a39) (u1 λa40=>
AT T.a13 a40 (Int.toNat n25*1) (Ah n35)<|
.ex [.adr] (c1 λa41=>0<=AF (n25-1)/\AF (n25-1)<(Al data)/\data.a=some a41) (u1 λa42=>
AT T.a13 a42 (Int.toNat (AF (n25-1))*1) (Ah n38)<|
AN<|
Ap 7 [])))))<|
Af (AF (n25-1)) λn43=>
Ap 6 [Ah n43])))<|
Ap 5 [])<|
Ap 4 [])<|
Ap 4 [])<|
Az 4 (
Ak (decide (AF (b-n13)>=2)) (
Af (AF (n13+1)) λn44=>
Az 5 (
AA 6 (n44,()) λn45=>
Ak (decide (n45<b)) (
AL<|
.ex [.adr] (c1 λa46=>0<=n45/\n45<(Al data)/\data.a=some a46) (u1 λa47=>
Ar T.a13 a47 (Int.toNat n45*1) λn48=>
.ex [.adr] (c1 λa49=>0<=AF (n45-1)/\AF (n45-1)<(Al data)/\data.a=some a49) (u1 λa50=>
Ar T.a13 a50 (Int.toNat (AF (n45-1))*1) λn51=>
Ao F.a2 [Ah n48,Ah n51] λb52=>
AN<|
Ak (not b52) (
Ap 5 [])<|
Az 7 (
AL<|
.ex [.adr] (c1 λa53=>0<=AF (n45-1)/\AF (n45-1)<(Al data)/\data.a=some a53) (u1 λa54=>
Ar T.a13 a54 (Int.toNat (AF (n45-1))*1) λn55=>
.ex [.adr] (c1 λa56=>0<=n45/\n45<(Al data)/\data.a=some a56) (u1 λa57=>
Ar T.a13 a57 (Int.toNat n45*1) λn58=>
.ex [.adr] (c1 λa59=>0<=n45/\n45<(Al data)/\data.a=some a59) (u1 λa60=>
AT T.a13 a60 (Int.toNat n45*1) (Ah n55)<|
.ex [.adr] (c1 λa61=>0<=AF (n45-1)/\AF (n45-1)<(Al data)/\data.a=some a61) (u1 λa62=>
AT T.a13 a62 (Int.toNat (AF (n45-1))*1) (Ah n58)<|
AN<|
Ap 7 [])))))<|
Af (AF (n45+1)) λn63=>
Ap 6 [Ah n63])))<|
Ap 5 [])<|
Ap 4 [])<|
Ap 4 [])<|
Ap 3 [Ah n13]) λn64=>
Af (AF (n2+1)) λn65=>
Ap 2 [Ah n64,Ah n65])<|
Ap 1 [])<|
Ap 0 [.bool false]
def zf2 (x:Int) (y:Int):Prog :=
Aj 1 (
Ao F.a4 [Ah x] λb0=>
Ak b0 (
Ao F.a4 [Ah y] λb1=>
Ag (not b1 || decide (x<y)) λb2=>
Ap 1 [.bool b2])<|
Ag (decide (x<y)) λb3=>
Ap 1 [.bool b3]) λb4=>
Ap 0 [.bool b4]
def z07m (data:Sl) (a b:Int) (pivot:Int):Prog :=
Az 1 (
AL<|
.ex [.adr] (c1 λa0=>0<=pivot/\pivot<(Al data)/\data.a=some a0) (u1 λa1=>
Ar T.a13 a1 (Int.toNat pivot*1) λn2=>
.ex [.adr] (c1 λa3=>0<=a/\a<(Al data)/\data.a=some a3) (u1 λa4=>
Ar T.a13 a4 (Int.toNat a*1) λn5=>
.ex [.adr] (c1 λa6=>0<=a/\a<(Al data)/\data.a=some a6) (u1 λa7=>
AT T.a13 a7 (Int.toNat a*1) (Ah n2)<|
.ex [.adr] (c1 λa8=>0<=pivot/\pivot<(Al data)/\data.a=some a8) (u1 λa9=>
AT T.a13 a9 (Int.toNat pivot*1) (Ah n5)<|
AN<|
Ap 1 [])))))<|
Af (AF (a+1)) λn10=>
Af (AF (b-1)) λn11=>
Bg 1 (
Br 2 (n10,(n11,())) λn12 n13=>
Bf 3 (
Bg 4 (
AA 5 (n12,()) λn14=>
Aj 6 (
AL<|
.ex [.adr] (c1 λa15=>decide (n14<=n13)=true->0<=a/\a<(Al data)/\data.a=some a15) (u1 λa16=>
As (decide (n14<=n13)=true) T.a13 a16 (Int.toNat a*1) λn17=>
.ex [.adr] (c1 λa18=>decide (n14<=n13)=true->0<=n14/\n14<(Al data)/\data.a=some a18) (u1 λa19=>
As (decide (n14<=n13)=true) T.a13 a19 (Int.toNat n14*1) λn20=>
Ak (decide (n14<=n13)) (
Ao F.a2 [Ah n17,Ah n20] λb21=>
AN<|
Ap 6 [.bool (not b21)])<|
AN<|
Ap 6 [.bool false]))) λb22=>
Ak b22 (
Af (AF (n14+1)) λn23=>
Ap 5 [Ah n23])<|
Ap 4 [Ah n14]) λn24=>
Bg 4 (
AA 5 (n13,()) λn25=>
Aj 6 (
AL<|
.ex [.adr] (c1 λa26=>decide (n24<=n25)=true->0<=a/\a<(Al data)/\data.a=some a26) (u1 λa27=>
As (decide (n24<=n25)=true) T.a13 a27 (Int.toNat a*1) λn28=>
.ex [.adr] (c1 λa29=>decide (n24<=n25)=true->0<=n25/\n25<(Al data)/\data.a=some a29) (u1 λa30=>
As (decide (n24<=n25)=true) T.a13 a30 (Int.toNat n25*1) λn31=>
Ak (decide (n24<=n25)) (
Ao F.a2 [Ah n28,Ah n31] λb32=>
AN<|
Ap 6 [.bool b32])<|
AN<|
Ap 6 [.bool false]))) λb33=>
Ak b33 (
Af (AF (n25-1)) λn34=>
Ap 5 [Ah n34])<|
Ap 4 [Ah n25]) λn35=>
Ak (decide (n24>n35)) (
Ap 1 [Ah n24])<|
Az 4 (
AL<|
.ex [.adr] (c1 λa36=>0<=n35/\n35<(Al data)/\data.a=some a36) (u1 λa37=>
Ar T.a13 a37 (Int.toNat n35*1) λn38=>
.ex [.adr] (c1 λa39=>0<=n24/\n24<(Al data)/\data.a=some a39) (u1 λa40=>
Ar T.a13 a40 (Int.toNat n24*1) λn41=>
.ex [.adr] (c1 λa42=>0<=n24/\n24<(Al data)/\data.a=some a42) (u1 λa43=>
AT T.a13 a43 (Int.toNat n24*1) (Ah n38)<|
.ex [.adr] (c1 λa44=>0<=n35/\n35<(Al data)/\data.a=some a44) (u1 λa45=>
AT T.a13 a45 (Int.toNat n35*1) (Ah n41)<|
AN<|
Ap 4 [])))))<|
Af (AF (n24+1)) λn46=>
Af (AF (n35-1)) λn47=>
Ap 3 [Ah n46,Ah n47]) λn48 n49=>
Ap 2 [Ah n48,Ah n49]) λn50=>
Af n50 λn51=>
Ap 0 [Ah n51]
def z07o (data:Sl) (a b:Int) (pivot:Int):Prog :=
Az 1 (
AL<|
.ex [.adr] (c1 λa0=>0<=pivot/\pivot<(Al data)/\data.a=some a0) (u1 λa1=>
Ar T.a13 a1 (Int.toNat pivot*1) λn2=>
.ex [.adr] (c1 λa3=>0<=a/\a<(Al data)/\data.a=some a3) (u1 λa4=>
Ar T.a13 a4 (Int.toNat a*1) λn5=>
.ex [.adr] (c1 λa6=>0<=a/\a<(Al data)/\data.a=some a6) (u1 λa7=>
AT T.a13 a7 (Int.toNat a*1) (Ah n2)<|
.ex [.adr] (c1 λa8=>0<=pivot/\pivot<(Al data)/\data.a=some a8) (u1 λa9=>
AT T.a13 a9 (Int.toNat pivot*1) (Ah n5)<|
AN<|
Ap 1 [])))))<|
Af (AF (a+1)) λn10=>
Af (AF (b-1)) λn11=>
Bg 1 (
AA 2 (n10,()) λn12=>
Aj 3 (
AL<|
.ex [.adr] (c1 λa13=>decide (n12<=n11)=true->0<=n12/\n12<(Al data)/\data.a=some a13) (u1 λa14=>
As (decide (n12<=n11)=true) T.a13 a14 (Int.toNat n12*1) λn15=>
.ex [.adr] (c1 λa16=>decide (n12<=n11)=true->0<=a/\a<(Al data)/\data.a=some a16) (u1 λa17=>
As (decide (n12<=n11)=true) T.a13 a17 (Int.toNat a*1) λn18=>
Ak (decide (n12<=n11)) (
Ao F.a2 [Ah n15,Ah n18] λb19=>
AN<|
Ap 3 [.bool b19])<|
AN<|
Ap 3 [.bool false]))) λb20=>
Ak b20 (
Af (AF (n12+1)) λn21=>
Ap 2 [Ah n21])<|
Ap 1 [Ah n12]) λn22=>
Bg 1 (
AA 2 (n11,()) λn23=>
Aj 3 (
AL<|
.ex [.adr] (c1 λa24=>decide (n22<=n23)=true->0<=n23/\n23<(Al data)/\data.a=some a24) (u1 λa25=>
As (decide (n22<=n23)=true) T.a13 a25 (Int.toNat n23*1) λn26=>
.ex [.adr] (c1 λa27=>decide (n22<=n23)=true->0<=a/\a<(Al data)/\data.a=some a27) (u1 λa28=>
As (decide (n22<=n23)=true) T.a13 a28 (Int.toNat a*1) λn29=>
Ak (decide (n22<=n23)) (
Ao F.a2 [Ah n26,Ah n29] λb30=>
AN<|
Ap 3 [.bool (not b30)])<|
AN<|
Ap 3 [.bool false]))) λb31=>
Ak b31 (
Af (AF (n23-1)) λn32=>
Ap 2 [Ah n32])<|
Ap 1 [Ah n23]) λn33=>
Ak (decide (n22>n33)) (
Az 1 (
AL<|
.ex [.adr] (c1 λa34=>0<=a/\a<(Al data)/\data.a=some a34) (u1 λa35=>
Ar T.a13 a35 (Int.toNat a*1) λn36=>
.ex [.adr] (c1 λa37=>0<=n33/\n33<(Al data)/\data.a=some a37) (u1 λa38=>
Ar T.a13 a38 (Int.toNat n33*1) λn39=>
.ex [.adr] (c1 λa40=>0<=n33/\n33<(Al data)/\data.a=some a40) (u1 λa41=>
AT T.a13 a41 (Int.toNat n33*1) (Ah n36)<|
.ex [.adr] (c1 λa42=>0<=a/\a<(Al data)/\data.a=some a42) (u1 λa43=>
AT T.a13 a43 (Int.toNat a*1) (Ah n39)<|
AN<|
Ap 1 [])))))<|
Af n33 λn44=>
Ap 0 [Ah n44,.bool true])<|
Az 1 (
AL<|
.ex [.adr] (c1 λa45=>0<=n33/\n33<(Al data)/\data.a=some a45) (u1 λa46=>
Ar T.a13 a46 (Int.toNat n33*1) λn47=>
.ex [.adr] (c1 λa48=>0<=n22/\n22<(Al data)/\data.a=some a48) (u1 λa49=>
Ar T.a13 a49 (Int.toNat n22*1) λn50=>
.ex [.adr] (c1 λa51=>0<=n22/\n22<(Al data)/\data.a=some a51) (u1 λa52=>
AT T.a13 a52 (Int.toNat n22*1) (Ah n47)<|
.ex [.adr] (c1 λa53=>0<=n33/\n33<(Al data)/\data.a=some a53) (u1 λa54=>
AT T.a13 a54 (Int.toNat n33*1) (Ah n50)<|
AN<|
Ap 1 [])))))<|
Af (AF (n22+1)) λn55=>
Af (AF (n33-1)) λn56=>
Bg 1 (
Br 2 (n55,(n56,())) λn57 n58=>
Bf 3 (
Bg 4 (
AA 5 (n57,()) λn59=>
Aj 6 (
AL<|
.ex [.adr] (c1 λa60=>decide (n59<=n58)=true->0<=n59/\n59<(Al data)/\data.a=some a60) (u1 λa61=>
As (decide (n59<=n58)=true) T.a13 a61 (Int.toNat n59*1) λn62=>
.ex [.adr] (c1 λa63=>decide (n59<=n58)=true->0<=a/\a<(Al data)/\data.a=some a63) (u1 λa64=>
As (decide (n59<=n58)=true) T.a13 a64 (Int.toNat a*1) λn65=>
Ak (decide (n59<=n58)) (
Ao F.a2 [Ah n62,Ah n65] λb66=>
AN<|
Ap 6 [.bool b66])<|
AN<|
Ap 6 [.bool false]))) λb67=>
Ak b67 (
Af (AF (n59+1)) λn68=>
Ap 5 [Ah n68])<|
Ap 4 [Ah n59]) λn69=>
Bg 4 (
AA 5 (n58,()) λn70=>
Aj 6 (
AL<|
.ex [.adr] (c1 λa71=>decide (n69<=n70)=true->0<=n70/\n70<(Al data)/\data.a=some a71) (u1 λa72=>
As (decide (n69<=n70)=true) T.a13 a72 (Int.toNat n70*1) λn73=>
.ex [.adr] (c1 λa74=>decide (n69<=n70)=true->0<=a/\a<(Al data)/\data.a=some a74) (u1 λa75=>
As (decide (n69<=n70)=true) T.a13 a75 (Int.toNat a*1) λn76=>
Ak (decide (n69<=n70)) (
Ao F.a2 [Ah n73,Ah n76] λb77=>
AN<|
Ap 6 [.bool (not b77)])<|
AN<|
Ap 6 [.bool false]))) λb78=>
Ak b78 (
Af (AF (n70-1)) λn79=>
Ap 5 [Ah n79])<|
Ap 4 [Ah n70]) λn80=>
Ak (decide (n69>n80)) (
Ap 1 [Ah n80])<|
Az 4 (
AL<|
.ex [.adr] (c1 λa81=>0<=n80/\n80<(Al data)/\data.a=some a81) (u1 λa82=>
Ar T.a13 a82 (Int.toNat n80*1) λn83=>
.ex [.adr] (c1 λa84=>0<=n69/\n69<(Al data)/\data.a=some a84) (u1 λa85=>
Ar T.a13 a85 (Int.toNat n69*1) λn86=>
.ex [.adr] (c1 λa87=>0<=n69/\n69<(Al data)/\data.a=some a87) (u1 λa88=>
AT T.a13 a88 (Int.toNat n69*1) (Ah n83)<|
.ex [.adr] (c1 λa89=>0<=n80/\n80<(Al data)/\data.a=some a89) (u1 λa90=>
AT T.a13 a90 (Int.toNat n80*1) (Ah n86)<|
AN<|
Ap 4 [])))))<|
Af (AF (n69+1)) λn91=>
Af (AF (n80-1)) λn92=>
Ap 3 [Ah n91,Ah n92]) λn93 n94=>
Ap 2 [Ah n93,Ah n94]) λn95=>
Az 1 (
AL<|
.ex [.adr] (c1 λa96=>0<=a/\a<(Al data)/\data.a=some a96) (u1 λa97=>
Ar T.a13 a97 (Int.toNat a*1) λn98=>
.ex [.adr] (c1 λa99=>0<=n95/\n95<(Al data)/\data.a=some a99) (u1 λa100=>
Ar T.a13 a100 (Int.toNat n95*1) λn101=>
.ex [.adr] (c1 λa102=>0<=n95/\n95<(Al data)/\data.a=some a102) (u1 λa103=>
AT T.a13 a103 (Int.toNat n95*1) (Ah n98)<|
.ex [.adr] (c1 λa104=>0<=a/\a<(Al data)/\data.a=some a104) (u1 λa105=>
AT T.a13 a105 (Int.toNat a*1) (Ah n101)<|
AN<|
Ap 1 [])))))<|
Af n95 λn106=>
Ap 0 [Ah n106,.bool false]
def z06s (seq:Value):Prog :=
An F.a155 [.slice none 0 0,seq] λl0=>
Ap 0 [l0.v]
def z08j (m:Option Nat):Prog :=
Ab T.a18 (.map m) λa0=>
Ap 0 [.func (Fn.func 307) #[] #[Ax a0]]
def z06t (x:Sl) (cmp:Value):Prog :=
Af (Al x) λn0=>
Am F.a82 [.int .u64 (IntKind.wrap .u64 n0)] λn1=>
AE F.a202 [x.v,Ah 0,Ah n0,Ah n1,cmp]<|
Ap 0 []
def z06c (data:Sl) (lo hi first:Int) (cmp:Value):Prog :=
Af lo λn0=>
Az 1 (
AA 2 (n0,()) λn1=>
Af (AF (AF (2*n1)+1)) λn2=>
Ak (decide (n2>=hi)) (
Ap 1 [])<|
Aj 3 (
AL<|
.ex [.adr] (c1 λa3=>decide (AF (n2+1)<hi)=true->0<=AF (first+n2)/\AF (first+n2)<(Al data)/\data.a=some a3) (u1 λa4=>
BQ (decide (AF (n2+1)<hi)=true) T.a14 a4 (Int.toNat (AF (first+n2))*4) λn5 n6 n7 n8=>
.ex [.adr] (c1 λa9=>decide (AF (n2+1)<hi)=true->0<=AF (AF (first+n2)+1)/\AF (AF (first+n2)+1)<(Al data)/\data.a=some a9) (u1 λa10=>
BQ (decide (AF (n2+1)<hi)=true) T.a14 a10 (Int.toNat (AF (AF (first+n2)+1))*4) λn11 n12 n13 n14=>
Ak (decide (AF (n2+1)<hi)) (
BR cmp [Bl n5 n6 n7 n8,Bl n11 n12 n13 n14] λn15=>
AN<|
Ap 3 [.bool (decide (n15<0))])<|
AN<|
Ap 3 [.bool false]))) λb16=>
Bg 3 (
Ak b16 (
Af (AF (n2+1)) λn17=>
Ap 3 [Ah n17])<|
Ap 3 [Ah n2]) λn18=>
AL<|
.ex [.adr] (c1 λa19=>0<=AF (first+n1)/\AF (first+n1)<(Al data)/\data.a=some a19) (u1 λa20=>
B7 T.a14 a20 (Int.toNat (AF (first+n1))*4) λn21 n22 n23 n24=>
.ex [.adr] (c1 λa25=>0<=AF (first+n18)/\AF (first+n18)<(Al data)/\data.a=some a25) (u1 λa26=>
B7 T.a14 a26 (Int.toNat (AF (first+n18))*4) λn27 n28 n29 n30=>
BR cmp [Bl n21 n22 n23 n24,Bl n27 n28 n29 n30] λn31=>
AN<|
Ak (not (decide (n31<0))) (
Ap 0 [])<|
Az 3 (
AL<|
.ex [.adr] (c1 λa32=>0<=AF (first+n18)/\AF (first+n18)<(Al data)/\data.a=some a32) (u1 λa33=>
B7 T.a14 a33 (Int.toNat (AF (first+n18))*4) λn34 n35 n36 n37=>
.ex [.adr] (c1 λa38=>0<=AF (first+n1)/\AF (first+n1)<(Al data)/\data.a=some a38) (u1 λa39=>
B7 T.a14 a39 (Int.toNat (AF (first+n1))*4) λn40 n41 n42 n43=>
.ex [.adr] (c1 λa44=>0<=AF (first+n1)/\AF (first+n1)<(Al data)/\data.a=some a44) (u1 λa45=>
AT T.a14 a45 (Int.toNat (AF (first+n1))*4) (Bl n34 n35 n36 n37)<|
.ex [.adr] (c1 λa46=>0<=AF (first+n18)/\AF (first+n18)<(Al data)/\data.a=some a46) (u1 λa47=>
AT T.a14 a47 (Int.toNat (AF (first+n18))*4) (Bl n40 n41 n42 n43)<|
AN<|
Ap 3 [])))))<|
Af n18 λn48=>
Ap 2 [Ah n48])))<|
Ap 0 []
theorem zno (data:Sl) (lo hi first:Int) (cmp:Value) {w:World} {R:List Value->World->Prop} (h:(z06c data lo hi first cmp).wp P (λ_=>True) w λe vs w'=>e=0/\R vs w'):Ret P F.a211 #[.slice data.a data.len data.cap,.int .i64 lo,.int .i64 hi,.int .i64 first,cmp] w R:=dS (n:=82) (rv:=[]) { cnd:=[(27021597772611624,[(11,.one (.int .i64))])],blk:=[(0,[])],reg:=[(3,[(40,.one .bool)]),(6,[])],lps:=[(0,[(10,.one (.int .i64))])] } [.val (.slice data.a data.len data.cap),.val (.int .i64 lo),.val (.int .i64 hi),.val (.int .i64 first),.any cmp] Go.Proofs.Tryz.func294 (by kernel_rfl) (by kernel_rfl) (by kernel_rfl) (by kernel_rfl) h
def z064 (data:Sl) (a:Int) (swaps:Option Addr) (cmp:Value):Prog :=
Am F.a182 [data.v,Ah (AF (a-1)),Ah a,Ah (AF (a+1)),Ad swaps,cmp] λn0=>
Af n0 λn1=>
Ap 0 [Ah n1]
theorem znf (data:Sl) (a:Int) (swaps:Option Addr) (cmp:Value) {w:World} {R:List Value->World->Prop} (h:(z064 data a swaps cmp).wp P (λ_=>True) w λe vs w'=>e=0/\R vs w'):Ret P F.a178 #[.slice data.a data.len data.cap,.int .i64 a,.pointer swaps,cmp] w R:=dS (n:=18) (rv:=[.tmp 8]) { cnd:=[],blk:=[],reg:=[],lps:=[] } [.val (.slice data.a data.len data.cap),.val (.int .i64 a),.val (.pointer swaps),.any cmp] Go.Proofs.Tryz.func295 (by kernel_rfl) (by kernel_rfl) (by kernel_rfl) (by kernel_rfl) h
def z065 (data:Sl) (a b c:Int) (swaps:Option Addr) (cmp:Value):Prog :=
Ai F.a187 [data.v,Ah a,Ah b,Ad swaps,cmp] λn0 n1=>
Af n0 λn2=>
Af n1 λn3=>
Ai F.a187 [data.v,Ah n3,Ah c,Ad swaps,cmp] λn4 n5=>
Af n4 λn6=>
Af n5 λn7=>
Ai F.a187 [data.v,Ah n2,Ah n6,Ad swaps,cmp] λn8 n9=>
Af n8 λn10=>
Af n9 λn11=>
Af n11 λn12=>
Ap 0 [Ah n12]
theorem zng (data:Sl) (a b c:Int) (swaps:Option Addr) (cmp:Value) {w:World} {R:List Value->World->Prop} (h:(z065 data a b c swaps cmp).wp P (λ_=>True) w λe vs w'=>e=0/\R vs w'):Ret P F.a182 #[.slice data.a data.len data.cap,.int .i64 a,.int .i64 b,.int .i64 c,.pointer swaps,cmp] w R:=dS (n:=41) (rv:=[.tmp 12]) { cnd:=[],blk:=[],reg:=[],lps:=[] } [.val (.slice data.a data.len data.cap),.val (.int .i64 a),.val (.int .i64 b),.val (.int .i64 c),.val (.pointer swaps),.any cmp] Go.Proofs.Tryz.func296 (by kernel_rfl) (by kernel_rfl) (by kernel_rfl) (by kernel_rfl) h
def z07g (data:Sl) (a b:Int) (swaps:Option Addr):Prog :=
AL<|
.ex [.adr] (c1 λa0=>0<=b/\b<(Al data)/\data.a=some a0) (u1 λa1=>
AY T.a47 a1 (Int.toNat b*1) λs2=>
.ex [.adr] (c1 λa3=>0<=a/\a<(Al data)/\data.a=some a3) (u1 λa4=>
AY T.a47 a4 (Int.toNat a*1) λs5=>
Ao F.a3 [.string s2,.string s5] λb6=>
AN<|
Ak b6 (
AI swaps λa8=>
BT T.a12 a8 λn9=>
AI swaps λa11=>
AD T.a12 a11 (Ah (AF (n9+1)))<|
Af b λn12=>
Af a λn13=>
Ap 0 [Ah n12,Ah n13])<|
Af a λn14=>
Af b λn15=>
Ap 0 [Ah n14,Ah n15]))
def z07x (data:Sl) (lo hi:Int) (first:Int):Prog :=
Af lo λn0=>
Az 1 (
AA 2 (n0,()) λn1=>
Af (AF (AF (2*n1)+1)) λn2=>
Ak (decide (n2>=hi)) (
Ap 1 [])<|
Aj 3 (
AL<|
.ex [.adr] (c1 λa3=>decide (AF (n2+1)<hi)=true->0<=AF (first+n2)/\AF (first+n2)<(Al data)/\data.a=some a3) (u1 λa4=>
As (decide (AF (n2+1)<hi)=true) T.a13 a4 (Int.toNat (AF (first+n2))*1) λn5=>
.ex [.adr] (c1 λa6=>decide (AF (n2+1)<hi)=true->0<=AF (AF (first+n2)+1)/\AF (AF (first+n2)+1)<(Al data)/\data.a=some a6) (u1 λa7=>
As (decide (AF (n2+1)<hi)=true) T.a13 a7 (Int.toNat (AF (AF (first+n2)+1))*1) λn8=>
Ak (decide (AF (n2+1)<hi)) (
Ao F.a2 [Ah n5,Ah n8] λb9=>
AN<|
Ap 3 [.bool b9])<|
AN<|
Ap 3 [.bool false]))) λb10=>
Bg 3 (
Ak b10 (
Af (AF (n2+1)) λn11=>
Ap 3 [Ah n11])<|
Ap 3 [Ah n2]) λn12=>
AL<|
.ex [.adr] (c1 λa13=>0<=AF (first+n1)/\AF (first+n1)<(Al data)/\data.a=some a13) (u1 λa14=>
Ar T.a13 a14 (Int.toNat (AF (first+n1))*1) λn15=>
.ex [.adr] (c1 λa16=>0<=AF (first+n12)/\AF (first+n12)<(Al data)/\data.a=some a16) (u1 λa17=>
Ar T.a13 a17 (Int.toNat (AF (first+n12))*1) λn18=>
Ao F.a2 [Ah n15,Ah n18] λb19=>
AN<|
Ak (not b19) (
Ap 0 [])<|
Az 3 (
AL<|
.ex [.adr] (c1 λa20=>0<=AF (first+n12)/\AF (first+n12)<(Al data)/\data.a=some a20) (u1 λa21=>
Ar T.a13 a21 (Int.toNat (AF (first+n12))*1) λn22=>
.ex [.adr] (c1 λa23=>0<=AF (first+n1)/\AF (first+n1)<(Al data)/\data.a=some a23) (u1 λa24=>
Ar T.a13 a24 (Int.toNat (AF (first+n1))*1) λn25=>
.ex [.adr] (c1 λa26=>0<=AF (first+n1)/\AF (first+n1)<(Al data)/\data.a=some a26) (u1 λa27=>
AT T.a13 a27 (Int.toNat (AF (first+n1))*1) (Ah n22)<|
.ex [.adr] (c1 λa28=>0<=AF (first+n12)/\AF (first+n12)<(Al data)/\data.a=some a28) (u1 λa29=>
AT T.a13 a29 (Int.toNat (AF (first+n12))*1) (Ah n25)<|
AN<|
Ap 3 [])))))<|
Af n12 λn30=>
Ap 2 [Ah n30])))<|
Ap 0 []
def z079 (data:Sl) (a:Int) (swaps:Option Addr):Prog :=
Am F.a183 [data.v,Ah (AF (a-1)),Ah a,Ah (AF (a+1)),Ad swaps] λn0=>
Af n0 λn1=>
Ap 0 [Ah n1]
def z07c (data:Sl) (a b c:Int) (swaps:Option Addr):Prog :=
Ai F.a188 [data.v,Ah a,Ah b,Ad swaps] λn0 n1=>
Af n0 λn2=>
Af n1 λn3=>
Ai F.a188 [data.v,Ah n3,Ah c,Ad swaps] λn4 n5=>
Af n4 λn6=>
Af n5 λn7=>
Ai F.a188 [data.v,Ah n2,Ah n6,Ad swaps] λn8 n9=>
Af n8 λn10=>
Af n9 λn11=>
Af n11 λn12=>
Ap 0 [Ah n12]
def z07q (data:Sl) (a b limit:Int) (cmp:Value):Prog :=
BJ 1 (a,(b,(limit,(true,(true,()))))) λn0 n1 n2 b3 b4=>
BK 2 (
Af (AF (n1-n0)) λn5=>
Ak (decide (n5<=12)) (
AE F.a173 [data.v,Ah n0,Ah n1,cmp]<|
Ap 0 [])<|
Ak (n2 == 0) (
AE F.a169 [data.v,Ah n0,Ah n1,cmp]<|
Ap 0 [])<|
Bg 3 (
Ak (not b3) (
AE F.a161 [data.v,Ah n0,Ah n1,cmp]<|
Af (AF (n2-1)) λn6=>
Ap 3 [Ah n6])<|
Ap 3 [Ah n2]) λn7=>
Ai F.a165 [data.v,Ah n0,Ah n1,cmp] λn8 n9=>
Af n8 λn10=>
Af n9 λn11=>
Bf 3 (
Ak (n11 == 2) (
AE F.a206 [data.v,Ah n0,Ah n1,cmp]<|
Af (AF (AF (n1-1)-AF (n10-n0))) λn12=>
Ap 3 [Ah n12,Ah 1])<|
Ap 3 [Ah n10,Ah n11]) λn13 n14=>
Az 3 (
Ak (b3 && b4 && n14 == 1) (
Ao F.a190 [data.v,Ah n0,Ah n1,cmp] λb15=>
Ak b15 (
Ap 0 [])<|
Ap 3 [])<|
Ap 3 [])<|
Aj 3 (
AL<|
.ex [.adr] (c1 λa16=>decide (n0>0)=true->0<=AF (n0-1)/\AF (n0-1)<(Al data)/\data.a=some a16) (u1 λa17=>
BW (decide (n0>0)=true) T.a4 a17 (Int.toNat (AF (n0-1))*7) λn18 n19 n20 n21 n22 n23 n24=>
.ex [.adr] (c1 λa25=>decide (n0>0)=true->0<=n13/\n13<(Al data)/\data.a=some a25) (u1 λa26=>
BW (decide (n0>0)=true) T.a4 a26 (Int.toNat n13*7) λn27 n28 n29 n30 n31 n32 n33=>
Ak (decide (n0>0)) (
BR cmp [B0 n18 n19 n20 n21 n22 n23 n24,B0 n27 n28 n29 n30 n31 n32 n33] λn34=>
AN<|
Ap 3 [.bool (not (decide (n34<0)))])<|
AN<|
Ap 3 [.bool false]))) λb35=>
Ak b35 (
Am F.a196 [data.v,Ah n0,Ah n1,Ah n13,cmp] λn36=>
Af n36 λn37=>
Af n37 λn38=>
Ap 2 [Ah n38,Ah n1,Ah n7,.bool b3,.bool b4])<|
BM F.a194 [data.v,Ah n0,Ah n1,Ah n13,cmp] λn39 b40=>
Af n39 λn41=>
Ag b40 λb42=>
Ag b42 λb43=>
Af (AF (n41-n0)) λn44=>
Af (AF (n1-n41)) λn45=>
Af (AF (Int.tdiv n5 8)) λn46=>
BN 3 (
Ak (decide (n44<n45)) (
Ag (decide (n44>=n46)) λb47=>
AE F.a202 [data.v,Ah n0,Ah n41,Ah n7,cmp]<|
Af (AF (n41+1)) λn48=>
Ap 3 [Ah n48,Ah n1,.bool b47])<|
Ag (decide (n45>=n46)) λb49=>
AE F.a202 [data.v,Ah (AF (n41+1)),Ah n1,Ah n7,cmp]<|
Af n41 λn50=>
Ap 3 [Ah n0,Ah n50,.bool b49]) λn51 n52 b53=>
Ap 2 [Ah n51,Ah n52,Ah n7,.bool b53,.bool b43]) λn54 n55 n56 b57 b58=>
Ap 1 [Ah n54,Ah n55,Ah n56,.bool b57,.bool b58]
def z066 (data:Sl) (a b:Int) (swaps:Option Addr) (cmp:Value):Prog :=
AL<|
.ex [.adr] (c1 λa0=>0<=b/\b<(Al data)/\data.a=some a0) (u1 λa1=>
B7 T.a14 a1 (Int.toNat b*4) λn2 n3 n4 n5=>
.ex [.adr] (c1 λa6=>0<=a/\a<(Al data)/\data.a=some a6) (u1 λa7=>
B7 T.a14 a7 (Int.toNat a*4) λn8 n9 n10 n11=>
BR cmp [Bl n2 n3 n4 n5,Bl n8 n9 n10 n11] λn12=>
AN<|
Ak (decide (n12<0)) (
AI swaps λa14=>
BT T.a12 a14 λn15=>
AI swaps λa17=>
AD T.a12 a17 (Ah (AF (n15+1)))<|
Af b λn18=>
Af a λn19=>
Ap 0 [Ah n18,Ah n19])<|
Af a λn20=>
Af b λn21=>
Ap 0 [Ah n20,Ah n21]))
theorem zni (data:Sl) (a b:Int) (swaps:Option Addr) (cmp:Value) {w:World} {R:List Value->World->Prop} (h:(z066 data a b swaps cmp).wp P (λ_=>True) w λe vs w'=>e=0/\R vs w'):Ret P F.a187 #[.slice data.a data.len data.cap,.int .i64 a,.int .i64 b,.pointer swaps,cmp] w R:=dS (n:=32) (rv:=[.tmp 10,.tmp 11]) { cnd:=[],blk:=[],reg:=[],lps:=[] } [.val (.slice data.a data.len data.cap),.val (.int .i64 a),.val (.int .i64 b),.val (.pointer swaps),.any cmp] Go.Proofs.Tryz.func309 (by kernel_rfl) (by kernel_rfl) (by kernel_rfl) (by kernel_rfl) h
def z07f (data:Sl) (a b:Int) (swaps:Option Addr):Prog :=
AL<|
.ex [.adr] (c1 λa0=>0<=b/\b<(Al data)/\data.a=some a0) (u1 λa1=>
Ar T.a13 a1 (Int.toNat b*1) λn2=>
.ex [.adr] (c1 λa3=>0<=a/\a<(Al data)/\data.a=some a3) (u1 λa4=>
Ar T.a13 a4 (Int.toNat a*1) λn5=>
Ao F.a2 [Ah n2,Ah n5] λb6=>
AN<|
Ak b6 (
AI swaps λa8=>
BT T.a12 a8 λn9=>
AI swaps λa11=>
AD T.a12 a11 (Ah (AF (n9+1)))<|
Af b λn12=>
Af a λn13=>
Ap 0 [Ah n12,Ah n13])<|
Af a λn14=>
Af b λn15=>
Ap 0 [Ah n14,Ah n15]))
def z075 (data:Sl) (a b:Int) (cmp:Value):Prog :=
Af (AF (a+1)) λn0=>
Az 1 (
AA 2 (n0,()) λn1=>
Ak (decide (n1<b)) (
Az 3 (
Af n1 λn2=>
Az 4 (
AA 5 (n2,()) λn3=>
Aj 6 (
AL<|
.ex [.adr] (c1 λa4=>decide (n3>a)=true->0<=n3/\n3<(Al data)/\data.a=some a4) (u1 λa5=>
BW (decide (n3>a)=true) T.a4 a5 (Int.toNat n3*7) λn6 n7 n8 n9 n10 n11 n12=>
.ex [.adr] (c1 λa13=>decide (n3>a)=true->0<=AF (n3-1)/\AF (n3-1)<(Al data)/\data.a=some a13) (u1 λa14=>
BW (decide (n3>a)=true) T.a4 a14 (Int.toNat (AF (n3-1))*7) λn15 n16 n17 n18 n19 n20 n21=>
Ak (decide (n3>a)) (
BR cmp [B0 n6 n7 n8 n9 n10 n11 n12,B0 n15 n16 n17 n18 n19 n20 n21] λn22=>
AN<|
Ap 6 [.bool (decide (n22<0))])<|
AN<|
Ap 6 [.bool false]))) λb23=>
Ak b23 (
Az 6 (
AL<|
.ex [.adr] (c1 λa24=>0<=AF (n3-1)/\AF (n3-1)<(Al data)/\data.a=some a24) (u1 λa25=>
B6 T.a4 a25 (Int.toNat (AF (n3-1))*7) λn26 n27 n28 n29 n30 n31 n32=>
.ex [.adr] (c1 λa33=>0<=n3/\n3<(Al data)/\data.a=some a33) (u1 λa34=>
B6 T.a4 a34 (Int.toNat n3*7) λn35 n36 n37 n38 n39 n40 n41=>
.ex [.adr] (c1 λa42=>0<=n3/\n3<(Al data)/\data.a=some a42) (u1 λa43=>
AT T.a4 a43 (Int.toNat n3*7) (B0 n26 n27 n28 n29 n30 n31 n32)<|
.ex [.adr] (c1 λa44=>0<=AF (n3-1)/\AF (n3-1)<(Al data)/\data.a=some a44) (u1 λa45=>
AT T.a4 a45 (Int.toNat (AF (n3-1))*7) (B0 n35 n36 n37 n38 n39 n40 n41)<|
AN<|
Ap 6 [])))))<|
Af (AF (n3-1)) λn46=>
Ap 5 [Ah n46])<|
Ap 4 [])<|
Ap 3 [])<|
Af (AF (n1+1)) λn47=>
Ap 2 [Ah n47])<|
Ap 1 [])<|
Ap 0 []
def z072 (data:Sl) (a b:Int) (cmp:Value):Prog :=
Af a λn0=>
Af (AF (b-a)) λn1=>
Af (AF (Int.tdiv (AF (n1-1)) 2)) λn2=>
Az 1 (
AA 2 (n2,()) λn3=>
Ak (decide (n3>=0)) (
AE F.a210 [data.v,Ah n3,Ah n1,Ah n0,cmp]<|
Af (AF (n3-1)) λn4=>
Ap 2 [Ah n4])<|
Ap 1 [])<|
Af (AF (n1-1)) λn5=>
Az 1 (
AA 2 (n5,()) λn6=>
Ak (decide (n6>=0)) (
Az 3 (
AL<|
.ex [.adr] (c1 λa7=>0<=AF (n0+n6)/\AF (n0+n6)<(Al data)/\data.a=some a7) (u1 λa8=>
B6 T.a4 a8 (Int.toNat (AF (n0+n6))*7) λn9 n10 n11 n12 n13 n14 n15=>
.ex [.adr] (c1 λa16=>0<=n0/\n0<(Al data)/\data.a=some a16) (u1 λa17=>
B6 T.a4 a17 (Int.toNat n0*7) λn18 n19 n20 n21 n22 n23 n24=>
.ex [.adr] (c1 λa25=>0<=n0/\n0<(Al data)/\data.a=some a25) (u1 λa26=>
AT T.a4 a26 (Int.toNat n0*7) (B0 n9 n10 n11 n12 n13 n14 n15)<|
.ex [.adr] (c1 λa27=>0<=AF (n0+n6)/\AF (n0+n6)<(Al data)/\data.a=some a27) (u1 λa28=>
AT T.a4 a28 (Int.toNat (AF (n0+n6))*7) (B0 n18 n19 n20 n21 n22 n23 n24)<|
AN<|
Ap 3 [])))))<|
AE F.a210 [data.v,Ah 0,Ah n6,Ah n0,cmp]<|
Af (AF (n6-1)) λn29=>
Ap 2 [Ah n29])<|
Ap 1 [])<|
Ap 0 []
def z06w (data:Sl) (a b:Int) (cmp:Value):Prog :=
Af (AF (b-a)) λn0=>
Az 1 (
Ak (decide (n0>=8)) (
AC T.a46 λa1=>
AD T.a46 a1 (.int .u64 (IntKind.wrap .u64 n0))<|
Bc F.a185 [Ah n0] λn2=>
Bd n2 λn3=>
Af (AF (AF (a+AF (AF (Int.tdiv n0 4)*2))-1)) λn4=>
Az 2 (
AA 3 (n4,()) λn5=>
Ak (decide (n5<=AF (AF (a+AF (AF (Int.tdiv n0 4)*2))+1))) (
Bc F.a214 [Ax a1] λn6=>
Af (AF (IntKind.wrap .u64 (((BitVec.toNat (BitVec.ofInt 64 n6 &&& BitVec.ofInt 64 (IntKind.wrap .u64 (n3-1))):Nat):Int)))) λn7=>
Bg 4 (
Ak (decide (n7>=n0)) (
Af (AF (n7-n0)) λn8=>
Ap 4 [Ah n8])<|
Ap 4 [Ah n7]) λn9=>
Az 4 (
AL<|
.ex [.adr] (c1 λa10=>0<=AF (a+n9)/\AF (a+n9)<(Al data)/\data.a=some a10) (u1 λa11=>
B6 T.a4 a11 (Int.toNat (AF (a+n9))*7) λn12 n13 n14 n15 n16 n17 n18=>
.ex [.adr] (c1 λa19=>0<=n5/\n5<(Al data)/\data.a=some a19) (u1 λa20=>
B6 T.a4 a20 (Int.toNat n5*7) λn21 n22 n23 n24 n25 n26 n27=>
.ex [.adr] (c1 λa28=>0<=n5/\n5<(Al data)/\data.a=some a28) (u1 λa29=>
AT T.a4 a29 (Int.toNat n5*7) (B0 n12 n13 n14 n15 n16 n17 n18)<|
.ex [.adr] (c1 λa30=>0<=AF (a+n9)/\AF (a+n9)<(Al data)/\data.a=some a30) (u1 λa31=>
AT T.a4 a31 (Int.toNat (AF (a+n9))*7) (B0 n21 n22 n23 n24 n25 n26 n27)<|
AN<|
Ap 4 [])))))<|
Af (AF (n5+1)) λn32=>
Ap 3 [Ah n32])<|
Ap 2 [])<|
Ap 1 [])<|
Ap 1 [])<|
Ap 0 []
def z06z (data:Sl) (a b:Int) (cmp:Value):Prog :=
Af (AF (b-a)) λn0=>
AC T.a12 λa1=>
Af (AF (a+AF (AF (Int.tdiv n0 4)*1))) λn2=>
Af (AF (a+AF (AF (Int.tdiv n0 4)*2))) λn3=>
Af (AF (a+AF (AF (Int.tdiv n0 4)*3))) λn4=>
Bg 1 (
Ak (decide (n0>=8)) (
BS 2 (
Ak (decide (n0>=50)) (
Am F.a177 [data.v,Ah n2,Ax a1,cmp] λn5=>
Af n5 λn6=>
Am F.a177 [data.v,Ah n3,Ax a1,cmp] λn7=>
Af n7 λn8=>
Am F.a177 [data.v,Ah n4,Ax a1,cmp] λn9=>
Af n9 λn10=>
Ap 2 [Ah n6,Ah n8,Ah n10])<|
Ap 2 [Ah n2,Ah n3,Ah n4]) λn11 n12 n13=>
Am F.a181 [data.v,Ah n11,Ah n12,Ah n13,Ax a1,cmp] λn14=>
Af n14 λn15=>
Ap 1 [Ah n15])<|
Ap 1 [Ah n3]) λn16=>
BT T.a12 a1 λn17=>
AH (n17 == 0) (
Af n16 λn19=>
Ap 0 [Ah n19,Ah 1])<|
AH (n17 == 12) (
Af n16 λn21=>
Ap 0 [Ah n21,Ah 2])<|
Af n16 λn22=>
Ap 0 [Ah n22,Ah 0]
def z07t (data:Sl) (a b:Int) (cmp:Value):Prog :=
Af a λn0=>
Af (AF (b-1)) λn1=>
Az 1 (
Br 2 (n0,(n1,())) λn2 n3=>
Ak (decide (n2<n3)) (
Az 3 (
AL<|
.ex [.adr] (c1 λa4=>0<=n3/\n3<(Al data)/\data.a=some a4) (u1 λa5=>
B6 T.a4 a5 (Int.toNat n3*7) λn6 n7 n8 n9 n10 n11 n12=>
.ex [.adr] (c1 λa13=>0<=n2/\n2<(Al data)/\data.a=some a13) (u1 λa14=>
B6 T.a4 a14 (Int.toNat n2*7) λn15 n16 n17 n18 n19 n20 n21=>
.ex [.adr] (c1 λa22=>0<=n2/\n2<(Al data)/\data.a=some a22) (u1 λa23=>
AT T.a4 a23 (Int.toNat n2*7) (B0 n6 n7 n8 n9 n10 n11 n12)<|
.ex [.adr] (c1 λa24=>0<=n3/\n3<(Al data)/\data.a=some a24) (u1 λa25=>
AT T.a4 a25 (Int.toNat n3*7) (B0 n15 n16 n17 n18 n19 n20 n21)<|
AN<|
Ap 3 [])))))<|
Af (AF (n2+1)) λn26=>
Af (AF (n3-1)) λn27=>
Ap 2 [Ah n26,Ah n27])<|
Ap 1 [])<|
Ap 0 []
def z07h (data:Sl) (a b:Int) (cmp:Value):Prog :=
Af (AF (a+1)) λn0=>
Az 1 (
Br 2 (n0,(0,())) λn1 n2=>
Ak (decide (n2<5)) (
Bg 3 (
Bg 4 (
AA 5 (n1,()) λn3=>
Aj 6 (
AL<|
.ex [.adr] (c1 λa4=>decide (n3<b)=true->0<=n3/\n3<(Al data)/\data.a=some a4) (u1 λa5=>
BW (decide (n3<b)=true) T.a4 a5 (Int.toNat n3*7) λn6 n7 n8 n9 n10 n11 n12=>
.ex [.adr] (c1 λa13=>decide (n3<b)=true->0<=AF (n3-1)/\AF (n3-1)<(Al data)/\data.a=some a13) (u1 λa14=>
BW (decide (n3<b)=true) T.a4 a14 (Int.toNat (AF (n3-1))*7) λn15 n16 n17 n18 n19 n20 n21=>
Ak (decide (n3<b)) (
BR cmp [B0 n6 n7 n8 n9 n10 n11 n12,B0 n15 n16 n17 n18 n19 n20 n21] λn22=>
AN<|
Ap 6 [.bool (not (decide (n22<0)))])<|
AN<|
Ap 6 [.bool false]))) λb23=>
Ak b23 (
Af (AF (n3+1)) λn24=>
Ap 5 [Ah n24])<|
Ap 4 [Ah n3]) λn25=>
Ak (n25 == b) (
Ap 0 [.bool true])<|
Ak (decide (AF (b-a)<50)) (
Ap 0 [.bool false])<|
Az 4 (
AL<|
.ex [.adr] (c1 λa26=>0<=AF (n25-1)/\AF (n25-1)<(Al data)/\data.a=some a26) (u1 λa27=>
B6 T.a4 a27 (Int.toNat (AF (n25-1))*7) λn28 n29 n30 n31 n32 n33 n34=>
.ex [.adr] (c1 λa35=>0<=n25/\n25<(Al data)/\data.a=some a35) (u1 λa36=>
B6 T.a4 a36 (Int.toNat n25*7) λn37 n38 n39 n40 n41 n42 n43=>
.ex [.adr] (c1 λa44=>0<=n25/\n25<(Al data)/\data.a=some a44) (u1 λa45=>
AT T.a4 a45 (Int.toNat n25*7) (B0 n28 n29 n30 n31 n32 n33 n34)<|
.ex [.adr] (c1 λa46=>0<=AF (n25-1)/\AF (n25-1)<(Al data)/\data.a=some a46) (u1 λa47=>
AT T.a4 a47 (Int.toNat (AF (n25-1))*7) (B0 n37 n38 n39 n40 n41 n42 n43)<|
AN<|
Ap 4 [])))))<|
Az 4 (
Ak (decide (AF (n25-a)>=2)) (
Af (AF (n25-1)) λn48=>
Az 5 (
AA 6 (n48,()) λn49=>
Ak (decide (n49>=1)) (
AL<|
.ex [.adr] (c1 λa50=>0<=n49/\n49<(Al data)/\data.a=some a50) (u1 λa51=>
B6 T.a4 a51 (Int.toNat n49*7) λn52 n53 n54 n55 n56 n57 n58=>
.ex [.adr] (c1 λa59=>0<=AF (n49-1)/\AF (n49-1)<(Al data)/\data.a=some a59) (u1 λa60=>
B6 T.a4 a60 (Int.toNat (AF (n49-1))*7) λn61 n62 n63 n64 n65 n66 n67=>
BR cmp [B0 n52 n53 n54 n55 n56 n57 n58,B0 n61 n62 n63 n64 n65 n66 n67] λn68=>
AN<|
Ak (not (decide (n68<0))) (
Ap 5 [])<|
Az 7 (
AL<|
.ex [.adr] (c1 λa69=>0<=AF (n49-1)/\AF (n49-1)<(Al data)/\data.a=some a69) (u1 λa70=>
B6 T.a4 a70 (Int.toNat (AF (n49-1))*7) λn71 n72 n73 n74 n75 n76 n77=>
.ex [.adr] (c1 λa78=>0<=n49/\n49<(Al data)/\data.a=some a78) (u1 λa79=>
B6 T.a4 a79 (Int.toNat n49*7) λn80 n81 n82 n83 n84 n85 n86=>
.ex [.adr] (c1 λa87=>0<=n49/\n49<(Al data)/\data.a=some a87) (u1 λa88=>
AT T.a4 a88 (Int.toNat n49*7) (B0 n71 n72 n73 n74 n75 n76 n77)<|
.ex [.adr] (c1 λa89=>0<=AF (n49-1)/\AF (n49-1)<(Al data)/\data.a=some a89) (u1 λa90=>
AT T.a4 a90 (Int.toNat (AF (n49-1))*7) (B0 n80 n81 n82 n83 n84 n85 n86)<|
AN<|
Ap 7 [])))))<|
Af (AF (n49-1)) λn91=>
Ap 6 [Ah n91])))<|
Ap 5 [])<|
Ap 4 [])<|
Ap 4 [])<|
Az 4 (
Ak (decide (AF (b-n25)>=2)) (
Af (AF (n25+1)) λn92=>
Az 5 (
AA 6 (n92,()) λn93=>
Ak (decide (n93<b)) (
AL<|
.ex [.adr] (c1 λa94=>0<=n93/\n93<(Al data)/\data.a=some a94) (u1 λa95=>
B6 T.a4 a95 (Int.toNat n93*7) λn96 n97 n98 n99 n100 n101 n102=>
.ex [.adr] (c1 λa103=>0<=AF (n93-1)/\AF (n93-1)<(Al data)/\data.a=some a103) (u1 λa104=>
B6 T.a4 a104 (Int.toNat (AF (n93-1))*7) λn105 n106 n107 n108 n109 n110 n111=>
BR cmp [B0 n96 n97 n98 n99 n100 n101 n102,B0 n105 n106 n107 n108 n109 n110 n111] λn112=>
AN<|
Ak (not (decide (n112<0))) (
Ap 5 [])<|
Az 7 (
AL<|
.ex [.adr] (c1 λa113=>0<=AF (n93-1)/\AF (n93-1)<(Al data)/\data.a=some a113) (u1 λa114=>
B6 T.a4 a114 (Int.toNat (AF (n93-1))*7) λn115 n116 n117 n118 n119 n120 n121=>
.ex [.adr] (c1 λa122=>0<=n93/\n93<(Al data)/\data.a=some a122) (u1 λa123=>
B6 T.a4 a123 (Int.toNat n93*7) λn124 n125 n126 n127 n128 n129 n130=>
.ex [.adr] (c1 λa131=>0<=n93/\n93<(Al data)/\data.a=some a131) (u1 λa132=>
AT T.a4 a132 (Int.toNat n93*7) (B0 n115 n116 n117 n118 n119 n120 n121)<|
.ex [.adr] (c1 λa133=>0<=AF (n93-1)/\AF (n93-1)<(Al data)/\data.a=some a133) (u1 λa134=>
AT T.a4 a134 (Int.toNat (AF (n93-1))*7) (B0 n124 n125 n126 n127 n128 n129 n130)<|
AN<|
Ap 7 [])))))<|
Af (AF (n93+1)) λn135=>
Ap 6 [Ah n135])))<|
Ap 5 [])<|
Ap 4 [])<|
Ap 4 [])<|
Ap 3 [Ah n25]) λn136=>
Af (AF (n2+1)) λn137=>
Ap 2 [Ah n136,Ah n137])<|
Ap 1 [])<|
Ap 0 [.bool false]
def z07l (data:Sl) (a b pivot:Int) (cmp:Value):Prog :=
Az 1 (
AL<|
.ex [.adr] (c1 λa0=>0<=pivot/\pivot<(Al data)/\data.a=some a0) (u1 λa1=>
B6 T.a4 a1 (Int.toNat pivot*7) λn2 n3 n4 n5 n6 n7 n8=>
.ex [.adr] (c1 λa9=>0<=a/\a<(Al data)/\data.a=some a9) (u1 λa10=>
B6 T.a4 a10 (Int.toNat a*7) λn11 n12 n13 n14 n15 n16 n17=>
.ex [.adr] (c1 λa18=>0<=a/\a<(Al data)/\data.a=some a18) (u1 λa19=>
AT T.a4 a19 (Int.toNat a*7) (B0 n2 n3 n4 n5 n6 n7 n8)<|
.ex [.adr] (c1 λa20=>0<=pivot/\pivot<(Al data)/\data.a=some a20) (u1 λa21=>
AT T.a4 a21 (Int.toNat pivot*7) (B0 n11 n12 n13 n14 n15 n16 n17)<|
AN<|
Ap 1 [])))))<|
Af (AF (a+1)) λn22=>
Af (AF (b-1)) λn23=>
Bg 1 (
Br 2 (n22,(n23,())) λn24 n25=>
Bf 3 (
Bg 4 (
AA 5 (n24,()) λn26=>
Aj 6 (
AL<|
.ex [.adr] (c1 λa27=>decide (n26<=n25)=true->0<=a/\a<(Al data)/\data.a=some a27) (u1 λa28=>
BW (decide (n26<=n25)=true) T.a4 a28 (Int.toNat a*7) λn29 n30 n31 n32 n33 n34 n35=>
.ex [.adr] (c1 λa36=>decide (n26<=n25)=true->0<=n26/\n26<(Al data)/\data.a=some a36) (u1 λa37=>
BW (decide (n26<=n25)=true) T.a4 a37 (Int.toNat n26*7) λn38 n39 n40 n41 n42 n43 n44=>
Ak (decide (n26<=n25)) (
BR cmp [B0 n29 n30 n31 n32 n33 n34 n35,B0 n38 n39 n40 n41 n42 n43 n44] λn45=>
AN<|
Ap 6 [.bool (not (decide (n45<0)))])<|
AN<|
Ap 6 [.bool false]))) λb46=>
Ak b46 (
Af (AF (n26+1)) λn47=>
Ap 5 [Ah n47])<|
Ap 4 [Ah n26]) λn48=>
Bg 4 (
AA 5 (n25,()) λn49=>
Aj 6 (
AL<|
.ex [.adr] (c1 λa50=>decide (n48<=n49)=true->0<=a/\a<(Al data)/\data.a=some a50) (u1 λa51=>
BW (decide (n48<=n49)=true) T.a4 a51 (Int.toNat a*7) λn52 n53 n54 n55 n56 n57 n58=>
.ex [.adr] (c1 λa59=>decide (n48<=n49)=true->0<=n49/\n49<(Al data)/\data.a=some a59) (u1 λa60=>
BW (decide (n48<=n49)=true) T.a4 a60 (Int.toNat n49*7) λn61 n62 n63 n64 n65 n66 n67=>
Ak (decide (n48<=n49)) (
BR cmp [B0 n52 n53 n54 n55 n56 n57 n58,B0 n61 n62 n63 n64 n65 n66 n67] λn68=>
AN<|
Ap 6 [.bool (decide (n68<0))])<|
AN<|
Ap 6 [.bool false]))) λb69=>
Ak b69 (
Af (AF (n49-1)) λn70=>
Ap 5 [Ah n70])<|
Ap 4 [Ah n49]) λn71=>
Ak (decide (n48>n71)) (
Ap 1 [Ah n48])<|
Az 4 (
AL<|
.ex [.adr] (c1 λa72=>0<=n71/\n71<(Al data)/\data.a=some a72) (u1 λa73=>
B6 T.a4 a73 (Int.toNat n71*7) λn74 n75 n76 n77 n78 n79 n80=>
.ex [.adr] (c1 λa81=>0<=n48/\n48<(Al data)/\data.a=some a81) (u1 λa82=>
B6 T.a4 a82 (Int.toNat n48*7) λn83 n84 n85 n86 n87 n88 n89=>
.ex [.adr] (c1 λa90=>0<=n48/\n48<(Al data)/\data.a=some a90) (u1 λa91=>
AT T.a4 a91 (Int.toNat n48*7) (B0 n74 n75 n76 n77 n78 n79 n80)<|
.ex [.adr] (c1 λa92=>0<=n71/\n71<(Al data)/\data.a=some a92) (u1 λa93=>
AT T.a4 a93 (Int.toNat n71*7) (B0 n83 n84 n85 n86 n87 n88 n89)<|
AN<|
Ap 4 [])))))<|
Af (AF (n48+1)) λn94=>
Af (AF (n71-1)) λn95=>
Ap 3 [Ah n94,Ah n95]) λn96 n97=>
Ap 2 [Ah n96,Ah n97]) λn98=>
Af n98 λn99=>
Ap 0 [Ah n99]
def z07k (data:Sl) (a b pivot:Int) (cmp:Value):Prog :=
Az 1 (
AL<|
.ex [.adr] (c1 λa0=>0<=pivot/\pivot<(Al data)/\data.a=some a0) (u1 λa1=>
B6 T.a4 a1 (Int.toNat pivot*7) λn2 n3 n4 n5 n6 n7 n8=>
.ex [.adr] (c1 λa9=>0<=a/\a<(Al data)/\data.a=some a9) (u1 λa10=>
B6 T.a4 a10 (Int.toNat a*7) λn11 n12 n13 n14 n15 n16 n17=>
.ex [.adr] (c1 λa18=>0<=a/\a<(Al data)/\data.a=some a18) (u1 λa19=>
AT T.a4 a19 (Int.toNat a*7) (B0 n2 n3 n4 n5 n6 n7 n8)<|
.ex [.adr] (c1 λa20=>0<=pivot/\pivot<(Al data)/\data.a=some a20) (u1 λa21=>
AT T.a4 a21 (Int.toNat pivot*7) (B0 n11 n12 n13 n14 n15 n16 n17)<|
AN<|
Ap 1 [])))))<|
Af (AF (a+1)) λn22=>
Af (AF (b-1)) λn23=>
Bg 1 (
AA 2 (n22,()) λn24=>
Aj 3 (
AL<|
.ex [.adr] (c1 λa25=>decide (n24<=n23)=true->0<=n24/\n24<(Al data)/\data.a=some a25) (u1 λa26=>
BW (decide (n24<=n23)=true) T.a4 a26 (Int.toNat n24*7) λn27 n28 n29 n30 n31 n32 n33=>
.ex [.adr] (c1 λa34=>decide (n24<=n23)=true->0<=a/\a<(Al data)/\data.a=some a34) (u1 λa35=>
BW (decide (n24<=n23)=true) T.a4 a35 (Int.toNat a*7) λn36 n37 n38 n39 n40 n41 n42=>
Ak (decide (n24<=n23)) (
BR cmp [B0 n27 n28 n29 n30 n31 n32 n33,B0 n36 n37 n38 n39 n40 n41 n42] λn43=>
AN<|
Ap 3 [.bool (decide (n43<0))])<|
AN<|
Ap 3 [.bool false]))) λb44=>
Ak b44 (
Af (AF (n24+1)) λn45=>
Ap 2 [Ah n45])<|
Ap 1 [Ah n24]) λn46=>
Bg 1 (
AA 2 (n23,()) λn47=>
Aj 3 (
AL<|
.ex [.adr] (c1 λa48=>decide (n46<=n47)=true->0<=n47/\n47<(Al data)/\data.a=some a48) (u1 λa49=>
BW (decide (n46<=n47)=true) T.a4 a49 (Int.toNat n47*7) λn50 n51 n52 n53 n54 n55 n56=>
.ex [.adr] (c1 λa57=>decide (n46<=n47)=true->0<=a/\a<(Al data)/\data.a=some a57) (u1 λa58=>
BW (decide (n46<=n47)=true) T.a4 a58 (Int.toNat a*7) λn59 n60 n61 n62 n63 n64 n65=>
Ak (decide (n46<=n47)) (
BR cmp [B0 n50 n51 n52 n53 n54 n55 n56,B0 n59 n60 n61 n62 n63 n64 n65] λn66=>
AN<|
Ap 3 [.bool (not (decide (n66<0)))])<|
AN<|
Ap 3 [.bool false]))) λb67=>
Ak b67 (
Af (AF (n47-1)) λn68=>
Ap 2 [Ah n68])<|
Ap 1 [Ah n47]) λn69=>
Ak (decide (n46>n69)) (
Az 1 (
AL<|
.ex [.adr] (c1 λa70=>0<=a/\a<(Al data)/\data.a=some a70) (u1 λa71=>
B6 T.a4 a71 (Int.toNat a*7) λn72 n73 n74 n75 n76 n77 n78=>
.ex [.adr] (c1 λa79=>0<=n69/\n69<(Al data)/\data.a=some a79) (u1 λa80=>
B6 T.a4 a80 (Int.toNat n69*7) λn81 n82 n83 n84 n85 n86 n87=>
.ex [.adr] (c1 λa88=>0<=n69/\n69<(Al data)/\data.a=some a88) (u1 λa89=>
AT T.a4 a89 (Int.toNat n69*7) (B0 n72 n73 n74 n75 n76 n77 n78)<|
.ex [.adr] (c1 λa90=>0<=a/\a<(Al data)/\data.a=some a90) (u1 λa91=>
AT T.a4 a91 (Int.toNat a*7) (B0 n81 n82 n83 n84 n85 n86 n87)<|
AN<|
Ap 1 [])))))<|
Af n69 λn92=>
Ap 0 [Ah n92,.bool true])<|
Az 1 (
AL<|
.ex [.adr] (c1 λa93=>0<=n69/\n69<(Al data)/\data.a=some a93) (u1 λa94=>
B6 T.a4 a94 (Int.toNat n69*7) λn95 n96 n97 n98 n99 n100 n101=>
.ex [.adr] (c1 λa102=>0<=n46/\n46<(Al data)/\data.a=some a102) (u1 λa103=>
B6 T.a4 a103 (Int.toNat n46*7) λn104 n105 n106 n107 n108 n109 n110=>
.ex [.adr] (c1 λa111=>0<=n46/\n46<(Al data)/\data.a=some a111) (u1 λa112=>
AT T.a4 a112 (Int.toNat n46*7) (B0 n95 n96 n97 n98 n99 n100 n101)<|
.ex [.adr] (c1 λa113=>0<=n69/\n69<(Al data)/\data.a=some a113) (u1 λa114=>
AT T.a4 a114 (Int.toNat n69*7) (B0 n104 n105 n106 n107 n108 n109 n110)<|
AN<|
Ap 1 [])))))<|
Af (AF (n46+1)) λn115=>
Af (AF (n69-1)) λn116=>
Bg 1 (
Br 2 (n115,(n116,())) λn117 n118=>
Bf 3 (
Bg 4 (
AA 5 (n117,()) λn119=>
Aj 6 (
AL<|
.ex [.adr] (c1 λa120=>decide (n119<=n118)=true->0<=n119/\n119<(Al data)/\data.a=some a120) (u1 λa121=>
BW (decide (n119<=n118)=true) T.a4 a121 (Int.toNat n119*7) λn122 n123 n124 n125 n126 n127 n128=>
.ex [.adr] (c1 λa129=>decide (n119<=n118)=true->0<=a/\a<(Al data)/\data.a=some a129) (u1 λa130=>
BW (decide (n119<=n118)=true) T.a4 a130 (Int.toNat a*7) λn131 n132 n133 n134 n135 n136 n137=>
Ak (decide (n119<=n118)) (
BR cmp [B0 n122 n123 n124 n125 n126 n127 n128,B0 n131 n132 n133 n134 n135 n136 n137] λn138=>
AN<|
Ap 6 [.bool (decide (n138<0))])<|
AN<|
Ap 6 [.bool false]))) λb139=>
Ak b139 (
Af (AF (n119+1)) λn140=>
Ap 5 [Ah n140])<|
Ap 4 [Ah n119]) λn141=>
Bg 4 (
AA 5 (n118,()) λn142=>
Aj 6 (
AL<|
.ex [.adr] (c1 λa143=>decide (n141<=n142)=true->0<=n142/\n142<(Al data)/\data.a=some a143) (u1 λa144=>
BW (decide (n141<=n142)=true) T.a4 a144 (Int.toNat n142*7) λn145 n146 n147 n148 n149 n150 n151=>
.ex [.adr] (c1 λa152=>decide (n141<=n142)=true->0<=a/\a<(Al data)/\data.a=some a152) (u1 λa153=>
BW (decide (n141<=n142)=true) T.a4 a153 (Int.toNat a*7) λn154 n155 n156 n157 n158 n159 n160=>
Ak (decide (n141<=n142)) (
BR cmp [B0 n145 n146 n147 n148 n149 n150 n151,B0 n154 n155 n156 n157 n158 n159 n160] λn161=>
AN<|
Ap 6 [.bool (not (decide (n161<0)))])<|
AN<|
Ap 6 [.bool false]))) λb162=>
Ak b162 (
Af (AF (n142-1)) λn163=>
Ap 5 [Ah n163])<|
Ap 4 [Ah n142]) λn164=>
Ak (decide (n141>n164)) (
Ap 1 [Ah n164])<|
Az 4 (
AL<|
.ex [.adr] (c1 λa165=>0<=n164/\n164<(Al data)/\data.a=some a165) (u1 λa166=>
B6 T.a4 a166 (Int.toNat n164*7) λn167 n168 n169 n170 n171 n172 n173=>
.ex [.adr] (c1 λa174=>0<=n141/\n141<(Al data)/\data.a=some a174) (u1 λa175=>
B6 T.a4 a175 (Int.toNat n141*7) λn176 n177 n178 n179 n180 n181 n182=>
.ex [.adr] (c1 λa183=>0<=n141/\n141<(Al data)/\data.a=some a183) (u1 λa184=>
AT T.a4 a184 (Int.toNat n141*7) (B0 n167 n168 n169 n170 n171 n172 n173)<|
.ex [.adr] (c1 λa185=>0<=n164/\n164<(Al data)/\data.a=some a185) (u1 λa186=>
AT T.a4 a186 (Int.toNat n164*7) (B0 n176 n177 n178 n179 n180 n181 n182)<|
AN<|
Ap 4 [])))))<|
Af (AF (n141+1)) λn187=>
Af (AF (n164-1)) λn188=>
Ap 3 [Ah n187,Ah n188]) λn189 n190=>
Ap 2 [Ah n189,Ah n190]) λn191=>
Az 1 (
AL<|
.ex [.adr] (c1 λa192=>0<=a/\a<(Al data)/\data.a=some a192) (u1 λa193=>
B6 T.a4 a193 (Int.toNat a*7) λn194 n195 n196 n197 n198 n199 n200=>
.ex [.adr] (c1 λa201=>0<=n191/\n191<(Al data)/\data.a=some a201) (u1 λa202=>
B6 T.a4 a202 (Int.toNat n191*7) λn203 n204 n205 n206 n207 n208 n209=>
.ex [.adr] (c1 λa210=>0<=n191/\n191<(Al data)/\data.a=some a210) (u1 λa211=>
AT T.a4 a211 (Int.toNat n191*7) (B0 n194 n195 n196 n197 n198 n199 n200)<|
.ex [.adr] (c1 λa212=>0<=a/\a<(Al data)/\data.a=some a212) (u1 λa213=>
AT T.a4 a213 (Int.toNat a*7) (B0 n203 n204 n205 n206 n207 n208 n209)<|
AN<|
Ap 1 [])))))<|
Af n191 λn214=>
Ap 0 [Ah n214,.bool false]
def z07w (data:Sl) (lo hi first:Int) (cmp:Value):Prog :=
Af lo λn0=>
Az 1 (
AA 2 (n0,()) λn1=>
Af (AF (AF (2*n1)+1)) λn2=>
Ak (decide (n2>=hi)) (
Ap 1 [])<|
Aj 3 (
AL<|
.ex [.adr] (c1 λa3=>decide (AF (n2+1)<hi)=true->0<=AF (first+n2)/\AF (first+n2)<(Al data)/\data.a=some a3) (u1 λa4=>
BW (decide (AF (n2+1)<hi)=true) T.a4 a4 (Int.toNat (AF (first+n2))*7) λn5 n6 n7 n8 n9 n10 n11=>
.ex [.adr] (c1 λa12=>decide (AF (n2+1)<hi)=true->0<=AF (AF (first+n2)+1)/\AF (AF (first+n2)+1)<(Al data)/\data.a=some a12) (u1 λa13=>
BW (decide (AF (n2+1)<hi)=true) T.a4 a13 (Int.toNat (AF (AF (first+n2)+1))*7) λn14 n15 n16 n17 n18 n19 n20=>
Ak (decide (AF (n2+1)<hi)) (
BR cmp [B0 n5 n6 n7 n8 n9 n10 n11,B0 n14 n15 n16 n17 n18 n19 n20] λn21=>
AN<|
Ap 3 [.bool (decide (n21<0))])<|
AN<|
Ap 3 [.bool false]))) λb22=>
Bg 3 (
Ak b22 (
Af (AF (n2+1)) λn23=>
Ap 3 [Ah n23])<|
Ap 3 [Ah n2]) λn24=>
AL<|
.ex [.adr] (c1 λa25=>0<=AF (first+n1)/\AF (first+n1)<(Al data)/\data.a=some a25) (u1 λa26=>
B6 T.a4 a26 (Int.toNat (AF (first+n1))*7) λn27 n28 n29 n30 n31 n32 n33=>
.ex [.adr] (c1 λa34=>0<=AF (first+n24)/\AF (first+n24)<(Al data)/\data.a=some a34) (u1 λa35=>
B6 T.a4 a35 (Int.toNat (AF (first+n24))*7) λn36 n37 n38 n39 n40 n41 n42=>
BR cmp [B0 n27 n28 n29 n30 n31 n32 n33,B0 n36 n37 n38 n39 n40 n41 n42] λn43=>
AN<|
Ak (not (decide (n43<0))) (
Ap 0 [])<|
Az 3 (
AL<|
.ex [.adr] (c1 λa44=>0<=AF (first+n24)/\AF (first+n24)<(Al data)/\data.a=some a44) (u1 λa45=>
B6 T.a4 a45 (Int.toNat (AF (first+n24))*7) λn46 n47 n48 n49 n50 n51 n52=>
.ex [.adr] (c1 λa53=>0<=AF (first+n1)/\AF (first+n1)<(Al data)/\data.a=some a53) (u1 λa54=>
B6 T.a4 a54 (Int.toNat (AF (first+n1))*7) λn55 n56 n57 n58 n59 n60 n61=>
.ex [.adr] (c1 λa62=>0<=AF (first+n1)/\AF (first+n1)<(Al data)/\data.a=some a62) (u1 λa63=>
AT T.a4 a63 (Int.toNat (AF (first+n1))*7) (B0 n46 n47 n48 n49 n50 n51 n52)<|
.ex [.adr] (c1 λa64=>0<=AF (first+n24)/\AF (first+n24)<(Al data)/\data.a=some a64) (u1 λa65=>
AT T.a4 a65 (Int.toNat (AF (first+n24))*7) (B0 n55 n56 n57 n58 n59 n60 n61)<|
AN<|
Ap 3 [])))))<|
Af n24 λn66=>
Ap 2 [Ah n66])))<|
Ap 0 []
def z078 (data:Sl) (a:Int) (swaps:Option Addr) (cmp:Value):Prog :=
Am F.a181 [data.v,Ah (AF (a-1)),Ah a,Ah (AF (a+1)),Ad swaps,cmp] λn0=>
Af n0 λn1=>
Ap 0 [Ah n1]
def z07b (data:Sl) (a b c:Int) (swaps:Option Addr) (cmp:Value):Prog :=
Ai F.a186 [data.v,Ah a,Ah b,Ad swaps,cmp] λn0 n1=>
Af n0 λn2=>
Af n1 λn3=>
Ai F.a186 [data.v,Ah n3,Ah c,Ad swaps,cmp] λn4 n5=>
Af n4 λn6=>
Af n5 λn7=>
Ai F.a186 [data.v,Ah n2,Ah n6,Ad swaps,cmp] λn8 n9=>
Af n8 λn10=>
Af n9 λn11=>
Af n11 λn12=>
Ap 0 [Ah n12]
def z07e (data:Sl) (a b:Int) (swaps:Option Addr) (cmp:Value):Prog :=
AL<|
.ex [.adr] (c1 λa0=>0<=b/\b<(Al data)/\data.a=some a0) (u1 λa1=>
B6 T.a4 a1 (Int.toNat b*7) λn2 n3 n4 n5 n6 n7 n8=>
.ex [.adr] (c1 λa9=>0<=a/\a<(Al data)/\data.a=some a9) (u1 λa10=>
B6 T.a4 a10 (Int.toNat a*7) λn11 n12 n13 n14 n15 n16 n17=>
BR cmp [B0 n2 n3 n4 n5 n6 n7 n8,B0 n11 n12 n13 n14 n15 n16 n17] λn18=>
AN<|
Ak (decide (n18<0)) (
AI swaps λa20=>
BT T.a12 a20 λn21=>
AI swaps λa23=>
AD T.a12 a23 (Ah (AF (n21+1)))<|
Af b λn24=>
Af a λn25=>
Ap 0 [Ah n24,Ah n25])<|
Af a λn26=>
Af b λn27=>
Ap 0 [Ah n26,Ah n27]))
end Go.Dec
