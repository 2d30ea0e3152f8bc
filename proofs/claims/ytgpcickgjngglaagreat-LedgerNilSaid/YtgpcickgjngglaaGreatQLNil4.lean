/- What the claim of this folder leans on: our own texts, joined, without what it does not use. -/
import Derived.Test.YtgpcickgjngglaaGreatRows
import Derived.WalkKit
import Derived.ProofKit
import Derived.OpenShut
import Derived.RowKit3
import Derived.OrdersHeld
import Derived.Scope
import Derived.KernelRfl
import Derived.Laws.Sem
import Derived.Laws.StructEq
import Derived.Deep.AppendSrc
import Derived.Laws.BytesArg
import Derived.Laws.RangeString
import Derived.Maps.RangeRun
import Derived.Lib.ConvBytes
import Derived.Lib.SlBytesConst
import Derived.ChangeSlices
import Derived.ChangeMaps5
import Derived.ChangeSame
import Derived.Deep.Slices
import Derived.Deep.Fields
import Derived.Test.YtgpcickgjngglaaGreatProg
import Derived.WideKeyRuns
import Derived.DeepKeys3
import Derived.Laws.MakeOwn
import Derived.Sort.MapsRangeIn
import Derived.Sort.KeysCollected
import Derived.RangeFuncNested
import Derived.RangeFuncBound
import Derived.RangeFuncCalls
import Derived.RangeFuncLeaves
import Derived.RangeFuncBox
import Derived.OwnWalkIn
import Derived.TacticsInMore
import Derived.RegionIn
import Derived.LoopNIn
import Derived.LoopIn
import Derived.Maps.AppendAt
import Derived.Shelf.Abstract
import Derived.Shelf.Sort.Plain
import Derived.Shelf.Slices.In.SortNone
import Derived.Test.YtgpcickgjngglaaGreatQLNil1
import Derived.Test.YtgpcickgjngglaaGreatQLNil2
import Derived.Test.YtgpcickgjngglaaGreatQLNil3
set_option linter.unusedVariables false
set_option linter.unusedSimpArgs false
namespace Go.Dec
def z07a (room:Int):Prog :=
Ai (decide (room<0) || decide (room>4194304)) (
An 0 [Ad none,Ac 2])<|
B1 (Instr.makeMap T.a24 none) λm0=>
Av T.a8 (.agg #[Ac (-1),.bool false,Ac room,Ac 0,.map m0]) λa1=>
An 0 [Az a1,Ac 0]
theorem ztx (room:Int):FnS (z07a room) F.a48 #[.int .i64 room]:=dV ⟨[],[],[],[]⟩ Go.Proofs.Tryz.func12 (by kernel_rfl)
def z074 (d:Option Addr) (name:ByteArray):Prog :=
.call F.a44 [Ad d,.string name] (sG [.slc,.int .i64]) (u2 λl0 (n1:Int)=>
Af (Al l0) λn2=>
An 0 [Ac n2])
theorem ztr (d:Option Addr) (name:ByteArray):FnS (z074 d name) F.a42 #[.pointer d,.string name]:=dV ⟨[],[],[],[]⟩ Go.Proofs.Tryz.func120 (by kernel_rfl)
def z073 (d:Option Addr) (name:ByteArray):Prog :=
Aj F.a46 [Ad d] λn0=>
Af n0 λn1=>
Ai (n1 != 0) (
Af n1 λn2=>
An 0 [Ac n2])<|
AA d λa4=>
Bz T.a24 a4 4 λm5=>
BG (Instr.lookup T.a24 (.map m5) (.string name) false) λp6=>
Ai (Option.isNone p6) (
An 0 [Ac 3])<|
AU F.a45 [Ad d,.string name]<|
AA d λa8=>
AU F.a49 [BH a8 0]<|
An 0 [Ac 0]
theorem ztq (d:Option Addr) (name:ByteArray):FnS (z073 d name) F.a40 #[.pointer d,.string name]:=dV ⟨[],[],[],[]⟩ Go.Proofs.Tryz.func123 (by kernel_rfl)
def zzq (x:Int):Prog :=
Aj F.a97 [.int .u64 x] λn0=>
Af n0 λn1=>
An 0 [Ac n1]
theorem zgu (x:Int):FnS (zzq x) F.a96 #[.int .u64 x]:=dV ⟨[],[],[],[]⟩ Go.Proofs.Tryz.func166 (by kernel_rfl)
def z071 (d:Option Addr):Prog :=
AX (Option.isNone d=false) d λa1=>
Bq (Option.isNone d=false) T.a3 (Addr.add a1 0) 1 λb2=>
Ag (Option.isNone d || b2) λb3=>
An 0 [.bool b3]
theorem zto (d:Option Addr):FnS (z071 d) F.a37 #[.pointer d]:=dV ⟨[],[],[],[]⟩ Go.Proofs.Tryz.func171 (by kernel_rfl)
def z076 (d:Option Addr) (name:ByteArray):Prog :=
Ao T.a9 λa0=>
AX (Option.isNone d=false) d λa2=>
BB (Option.isNone d=false) T.a24 a2 4 λm3=>
.read (Option.isNone d=false) (Instr.lookup T.a24 (.map m3) (.string name) false) sP (u1 λp4=>
Ai (Option.isNone d || Option.isNone p4) (
Ar T.a9 a0 (.agg #[.slice none 0 0,Ac 0])<|
BI T.a9 a0 λl5 n6=>
An 0 [BJ l5 n6])<|
AA d λa8=>
Bz T.a24 a8 4 λm9=>
BG (Instr.lookup T.a24 (.map m9) (.string name) false) λp10=>
AA p10 λa12=>
BI T.a9 a12 λl13 n14=>
Ar T.a9 a0 (BJ l13 n14)<|
BI T.a9 a0 λl15 n16=>
An 0 [BJ l15 n16])
theorem ztt (d:Option Addr) (name:ByteArray):FnS (z076 d name) F.a44 #[.pointer d,.string name]:=dV ⟨[],[],[],[]⟩ Go.Proofs.Tryz.func177 (by kernel_rfl)
def z072 (d:Option Addr) (name:ByteArray):Prog :=
Ai (Option.isNone d) (
An 0 [.slice none 0 0,Ac 1])<|
AA d λa1=>
Bz T.a24 a1 4 λm2=>
BG (Instr.lookup T.a24 (.map m2) (.string name) false) λp3=>
Ai (Option.isNone p3) (
An 0 [.slice none 0 0,Ac 3])<|
AA p3 λa5=>
AO T.a46 a5 0 λl6=>
Ak F.a0 [l6.v] λl7=>
An 0 [l7.v,Ac 0]
theorem ztp (d:Option Addr) (name:ByteArray):FnS (z072 d name) F.a39 #[.pointer d,.string name]:=dV ⟨[],[],[],[]⟩ Go.Proofs.Tryz.func178 (by kernel_rfl)
def z078 (d:Option Addr):Prog :=
Ba (Option.isNone d) (
An 0 [Ac 1])<|
AA d λa2=>
Br T.a3 (Addr.add a2 0) 1 λb3=>
Ba b3 (
An 0 [Ac 9])<|
An 0 [Ac 0]
theorem ztv (d:Option Addr):FnS (z078 d) F.a46 #[.pointer d]:=dV ⟨[],[],[],[]⟩ Go.Proofs.Tryz.func179 (by kernel_rfl)
def z077 (d:Option Addr) (name:ByteArray):Prog :=
AA d λa1=>
Bz T.a24 a1 4 λm2=>
BG (Instr.lookup T.a24 (.map m2) (.string name) false) λp3=>
AK 1 (
Ai (not (Option.isNone p3)) (
AG<|
AA d λa5=>
AP T.a13 a5 3 λn6=>
AA p3 λa8=>
AO T.a46 a8 0 λl9=>
AA d λa11=>
AJ T.a13 a11 3 (Ac (Aq (n6-(Al l9))))<|
AI<|
AA d λa13=>
Bz T.a24 a13 4 λm14=>
B6 (Builtin.delete_ #[T.a24,T.a51] T.a53 #[.map m14,.string name])<|
An 1 [])<|
An 1 [])<|
An 0 []
theorem ztu (d:Option Addr) (name:ByteArray):FnS (z077 d name) F.a45 #[.pointer d,.string name]:=dV ⟨[(4398012956684,[])],[],[],[]⟩ Go.Proofs.Tryz.func180 (by kernel_rfl)
def z07b (p:Option Addr):Prog :=
AA p λa1=>
AP T.a13 a1 0 λn2=>
AK 1 (
Ai (decide (n2>0)) (
AA p λa4=>
AP T.a13 a4 0 λn5=>
AA p λa7=>
AJ T.a13 a7 0 (Ac (Aq (n5-1)))<|
AA p λa9=>
AP T.a13 a9 0 λn10=>
AA p λa12=>
AJ T.a3 a12 1 (.bool (n10 == 0))<|
An 1 [])<|
An 1 [])<|
An 0 []
theorem zty (p:Option Addr):FnS (z07b p) F.a49 #[.pointer p]:=dV ⟨[(17179344902,[])],[],[],[]⟩ Go.Proofs.Tryz.func181 (by kernel_rfl)
def z01z (n:Int) (f:Value):Prog :=
Af n λn0=>
Ap 1 (
AM 2 (0,(n0,())) λn1 n2=>
Ai (decide (n1<n2)) (
Af (Aq (Int.fdiv (IntKind.wrap .u64 (Aq (n1+n2))) 2)) λn3=>
BK f [Ac n3] λb4=>
Bu 3 (
Ai (not b4) (
Af (Aq (n3+1)) λn5=>
An 3 [Ac n5,Ac n2])<|
Af n3 λn6=>
An 3 [Ac n1,Ac n6]) λn7 n8=>
An 2 [Ac n7,Ac n8])<|
An 1 [Ac n1]) λn9=>
Af n9 λn10=>
An 0 [Ac n10]
theorem zoz (n:Int) (f:Value) {w:World} {R:List Value->World->Prop} (h:(z01z n f).wp P (λ_=>True) w λe vs w'=>e=0/\R vs w'):Ret P F.a213 #[.int .i64 n,f] w R:=dS (n:=26) (rv:=[.tmp 4]) { cnd:=[(120259477525,[(5,.one (.int .i64)),(6,.one (.int .i64))])],blk:=[(0,[(5,.one (.int .i64))])],reg:=[],lps:=[(0,[(5,.one (.int .i64)),(6,.one (.int .i64))])] } [.val (.int .i64 n),.any f] Go.Proofs.Tryz.func194 (by kernel_rfl) (by kernel_rfl) (by kernel_rfl) (by kernel_rfl) h
def z06y (d:Option Addr) (name:ByteArray) (parts:Sl):Prog :=
Aj F.a46 [Ad d] λn0=>
Af n0 λn1=>
Ai (n1 != 0) (
Af n1 λn2=>
An 0 [Ac n2])<|
Am F.a47 [.string name] λb3=>
Ai (not b3) (
An 0 [Ac 2])<|
Ap 1 (
AM 2 (0,(0,())) λn4 n5=>
Ai (decide (n5<(Al parts))) (
.ex [.adr] (c1 λa6=>0<=n5/\n5<(Al parts)/\parts.a=some a6) (u1 λa7=>
AO T.a46 a7 (Int.toNat n5*1) λl8=>
Aj F.a36 [Ad d] λn9=>
Ai (decide ((Al l8)>Aq (n9-n4))) (
An 0 [Ac 5])<|
Af (Aq (n4+(Al l8))) λn10=>
An 2 [Ac n10,Ac (Aq (n5+1))]))<|
An 1 [Ac n4]) λn11=>
AA d λa13=>
Bz T.a24 a13 4 λm14=>
.read True (Instr.lookup T.a24 (.map m14) (.string name) true) (.tup [.one .ptr,.one .bool]) (u2 λp15 b16=>
Ag b16 λb17=>
.bind 1 [.one .ptr] (
Ai (not b17) (
AA d λa19=>
Bz T.a24 a19 4 λm20=>
Bx (Builtin.len_ #[T.a24] T.a13 #[.map m20]) λn21=>
Ai (decide (n21>=128)) (
An 0 [Ac 5])<|
Av T.a9 (.agg #[.slice none 0 0,Ac 0]) λa22=>
AA d λa24=>
Bz T.a24 a24 4 λm25=>
B5 (Instr.mapUpdate T.a24 (.map m25) (.string name) (Az a22))<|
An 1 [Az a22])<|
An 1 [Ad p15]) (u1 λp26=>
AK 1 (
AT 2 (0,()) λn27=>
Ai (decide (n27<(Al parts))) (
.ex [.adr] (c1 λa28=>0<=n27/\n27<(Al parts)/\parts.a=some a28) (u1 λa29=>
AO T.a46 a29 (Int.toNat n27*1) λl30=>
AA p26 λa32=>
AO T.a46 a32 0 λl33=>
AE (app T.a46 T.a46 T.a46 l33.v l30.v) λl34=>
AA p26 λa36=>
AJ T.a46 a36 0 l34.v<|
An 2 [Ac (Aq (n27+1))]))<|
An 1 [])<|
AA d λa38=>
AP T.a13 a38 3 λn39=>
AA d λa41=>
AJ T.a13 a41 3 (Ac (Aq (n39+n11)))<|
AA d λa43=>
AU F.a49 [BH a43 0]<|
An 0 [Ac 0]))
theorem ztl (d:Option Addr) (name:ByteArray) (parts:Sl):FnS (z06y d name parts) F.a34 #[.pointer d,.string name,.slice parts.a parts.len parts.cap]:=dV ⟨[(604426016319167176900660,[(11,.one .ptr)])],[(0,[(8,.one (.int .i64))]),(2,[])],[],[(0,[(8,.one (.int .i64)),(26,.one (.int .i64))]),(2,[(69,.one (.int .i64))])]⟩ Go.Proofs.Tryz.func219 (by kernel_rfl)
def z075 (d:Option Addr) (names:Sl):Prog :=
Aj F.a46 [Ad d] λn0=>
Af n0 λn1=>
Ai (n1 != 0) (
Af n1 λn2=>
An 0 [Ac n2])<|
AK 1 (
AT 2 (0,()) λn3=>
Ai (decide (n3<(Al names))) (
.ex [.adr] (c1 λa4=>0<=n3/\n3<(Al names)/\names.a=some a4) (u1 λa5=>
AC T.a51 a5 (Int.toNat n3*1) λs6=>
Ab s6 λs7=>
AA d λa9=>
Bz T.a24 a9 4 λm10=>
BG (Instr.lookup T.a24 (.map m10) (.string s7) false) λp11=>
Ai (Option.isNone p11) (
An 0 [Ac 3])<|
An 2 [Ac (Aq (n3+1))]))<|
An 1 [])<|
AZ 1 (
Ai ((Al names) == 0) (
Ak F.a38 [Ad d,.string (ByteArray.mk #[])] λl12=>
An 1 [l12.v])<|
An 1 [names.v]) λl13=>
AK 1 (
AT 2 (0,()) λn14=>
Ai (decide (n14<(Al l13))) (
.ex [.adr] (c1 λa15=>0<=n14/\n14<(Al l13)/\l13.a=some a15) (u1 λa16=>
AC T.a51 a16 (Int.toNat n14*1) λs17=>
Ab s17 λs18=>
AA d λa20=>
Bz T.a24 a20 4 λm21=>
BG (Instr.lookup T.a24 (.map m21) (.string s18) false) λp22=>
AA p22 λa24=>
AO T.a46 a24 0 λl25=>
AA p22 λa27=>
AJ T.a13 a27 1 (Ac (Al l25))<|
An 2 [Ac (Aq (n14+1))]))<|
An 1 [])<|
AA d λa29=>
AU F.a49 [BH a29 0]<|
An 0 [Ac 0]
theorem zts (d:Option Addr) (names:Sl):FnS (z075 d names) F.a43 #[.pointer d,.slice names.a names.len names.cap]:=dV ⟨[(105553116274720,[(1,.one .slc)])],[(0,[]),(2,[])],[],[(0,[(18,.one (.int .i64))]),(2,[(37,.one (.int .i64))])]⟩ Go.Proofs.Tryz.func220 (by kernel_rfl)
def z0ag (d:Option Addr) (from_:ByteArray) (to_:ByteArray):Prog :=
Aj F.a46 [Ad d] λn0=>
Af n0 λn1=>
Ai (n1 != 0) (
Af n1 λn2=>
An 0 [Ac n2])<|
AA d λa4=>
Bz T.a24 a4 4 λm5=>
BG (Instr.lookup T.a24 (.map m5) (.string from_) false) λp6=>
Ba (Option.isNone p6) (
An 0 [Ac 3])<|
Am F.a47 [.string to_] λb8=>
Ba (not b8) (
An 0 [Ac 2])<|
AK 1 (
Ai (not (ByteArray.toList from_ == ByteArray.toList to_)) (
AU F.a45 [Ad d,.string to_]<|
AA d λa11=>
Bz T.a24 a11 4 λm12=>
B6 (Builtin.delete_ #[T.a24,T.a51] T.a53 #[.map m12,.string from_])<|
AA d λa14=>
Bz T.a24 a14 4 λm15=>
B5 (Instr.mapUpdate T.a24 (.map m15) (.string to_) (Ad p6))<|
An 1 [])<|
An 1 [])<|
AA d λa17=>
AU F.a49 [BH a17 0]<|
An 0 [Ac 0]
def z0aq (m:Option Nat) (del:Value):Prog :=
B8 (Instr.range T.a22 (.map m)) λa0=>
AK 1 (
.loop 2 [] () (u0 <|
.next (Instr.next (Az a0) false T.a53) ([.agg [.int .i64,.int .i64],.agg [.int .i64,.int .i64,.int .i64,.int .i64]]) (u6 λ(n1 n2 n3 n4 n5 n6:Int)=>
.act (Instr.entry (Az a0)) (.tup [.agg [.int .i64,.int .i64],.agg [.int .i64,.int .i64,.int .i64,.int .i64]]) (u6 λ(n7 n8 n9 n10 n11 n12:Int)=>
Ao T.a17 λa13=>
Ao T.a18 λa14=>
Ar T.a17 a13 (AS n7 n8)<|
Ar T.a18 a14 (Bp n9 n10 n11 n12)<|
BL T.a17 a13 λn15 n16=>
B7 T.a18 a14 λn17 n18 n19 n20=>
BK del [AS n15 n16,Bp n17 n18 n19 n20] λb21=>
AK 3 (
Ai b21 (
BL T.a17 a13 λn22 n23=>
B6 (Builtin.delete_ #[T.a22,T.a17] T.a53 #[.map m,AS n22 n23])<|
An 3 [])<|
An 3 [])<|
An 2 [])) <|
An 1 []))<|
An 0 []
def zt5 (x:Int):Prog :=
BM 1 (
Ai (decide (x>=4294967296)) (
Bj (Int.fdiv x 4294967296) λn0=>
An 1 [.int .u64 n0,Ac 32])<|
An 1 [.int .u64 x,Ac 0]) λn1 n2=>
BM 1 (
Ai (decide (n1>=65536)) (
Bj (Int.fdiv n1 65536) λn3=>
Af (Aq (n2+16)) λn4=>
An 1 [.int .u64 n3,Ac n4])<|
An 1 [.int .u64 n1,Ac n2]) λn5 n6=>
BM 1 (
Ai (decide (n5>=256)) (
Bj (Int.fdiv n5 256) λn7=>
Af (Aq (n6+8)) λn8=>
An 1 [.int .u64 n7,Ac n8])<|
An 1 [.int .u64 n5,Ac n6]) λn9 n10=>
.must (0<=IntKind.wrap .u8 n9/\IntKind.wrap .u8 n9<256) <|
Af (Aq (n10+Aq (bt (ByteArray.mk #[0,1,2,2,3,3,3,3,4,4,4,4,4,4,4,4,5,5,5,5,5,5,5,5,5,5,5,5,5,5,5,5,6,6,6,6,6,6,6,6,6,6,6,6,6,6,6,6,6,6,6,6,6,6,6,6,6,6,6,6,6,6,6,6,7,7,7,7,7,7,7,7,7,7,7,7,7,7,7,7,7,7,7,7,7,7,7,7,7,7,7,7,7,7,7,7,7,7,7,7,7,7,7,7,7,7,7,7,7,7,7,7,7,7,7,7,7,7,7,7,7,7,7,7,7,7,7,7,8,8,8,8,8,8,8,8,8,8,8,8,8,8,8,8,8,8,8,8,8,8,8,8,8,8,8,8,8,8,8,8,8,8,8,8,8,8,8,8,8,8,8,8,8,8,8,8,8,8,8,8,8,8,8,8,8,8,8,8,8,8,8,8,8,8,8,8,8,8,8,8,8,8,8,8,8,8,8,8,8,8,8,8,8,8,8,8,8,8,8,8,8,8,8,8,8,8,8,8,8,8,8,8,8,8,8,8,8,8,8,8,8,8,8,8,8,8,8,8,8,8,8,8,8,8,8,8]) (IntKind.wrap .u8 n9)))) λn11=>
An 0 [Ac n11]
theorem zeb (x:Int):FnS (zt5 x) F.a97 #[.int .u64 x]:=dV ⟨[(413700,[(0,.one (.int .u64)),(2,.one (.int .i64))]),(31477768,[(0,.one (.int .u64)),(2,.one (.int .i64))]),(2013286414,[(0,.one (.int .u64)),(2,.one (.int .i64))])],[],[],[]⟩ Go.Proofs.Tryz.func239 (by kernel_rfl)
def z06z (d:Option Addr) (name:ByteArray) (n:Int):Prog :=
Aj F.a46 [Ad d] λn0=>
Af n0 λn1=>
Ai (n1 != 0) (
Af n1 λn2=>
An 0 [Ac n2])<|
AA d λa4=>
Bz T.a24 a4 4 λm5=>
BG (Instr.lookup T.a24 (.map m5) (.string name) false) λp6=>
Ba (Option.isNone p6) (
An 0 [Ac 3])<|
AX (decide (n<0)=false) p6 λa9=>
Bw (decide (n<0)=false) T.a46 a9 0 λl10=>
Ba (decide (n<0) || decide (n>(Al l10))) (
An 0 [Ac 2])<|
AG<|
AA d λa13=>
AP T.a13 a13 3 λn14=>
AA p6 λa16=>
AO T.a46 a16 0 λl17=>
AA d λa19=>
AJ T.a13 a19 3 (Ac (Aq (n14-Aq ((Al l17)-n))))<|
AI<|
AA p6 λa21=>
AO T.a46 a21 0 λl22=>
.must (0<=n/\n<=n/\n<=((l22.cap:Nat):Int)) <|
AA p6 λa24=>
AJ T.a46 a24 0 (.slice l22.a (Int.toNat n) (Int.toNat n))<|
AA p6 λa26=>
AP T.a13 a26 1 λn27=>
AA p6 λa29=>
AJ T.a13 a29 1 (Ac (if n<n27 then n else n27))<|
AA d λa31=>
AU F.a49 [BH a31 0]<|
An 0 [Ac 0]
theorem ztm (d:Option Addr) (name:ByteArray) (n:Int):FnS (z06z d name n) F.a35 #[.pointer d,.string name,.int .i64 n]:=dV ⟨[],[],[],[]⟩ Go.Proofs.Tryz.func251 (by kernel_rfl)
def z01w (x:Sl) (cmp:Value):Prog :=
Af (Al x) λn0=>
Aj F.a96 [.int .u64 (IntKind.wrap .u64 n0)] λn1=>
AU F.a204 [x.v,Ac 0,Ac n0,Ac n1,cmp]<|
An 0 []
theorem zoj (x:Sl) (cmp:Value) {w:World} {R:List Value->World->Prop} (h:(z01w x cmp).wp P (λ_=>True) w λe vs w'=>e=0/\R vs w'):Ret P F.a170 #[.slice x.a x.len x.cap,cmp] w R:=dS (n:=14) (rv:=[]) { cnd:=[],blk:=[],reg:=[],lps:=[] } [.val (.slice x.a x.len x.cap),.any cmp] Go.Proofs.Tryz.func266 (by kernel_rfl) (by kernel_rfl) (by kernel_rfl) (by kernel_rfl) h
def zf1 (x:Int) (y:Int):Prog :=
Am F.a3 [Ac x] λb0=>
Ag b0 λb1=>
Am F.a3 [Ac y] λb2=>
Ag b2 λb3=>
Ai b1 (
Ai b3 (
An 0 [Ac 0])<|
An 0 [Ac (-1)])<|
Ai b3 (
An 0 [Ac 1])<|
Ai (decide (x<y)) (
An 0 [Ac (-1)])<|
Ai (decide (x>y)) (
An 0 [Ac 1])<|
An 0 [Ac 0]
theorem zx1 (x y:Int):FnS (zf1 x y) F.a1 #[.int .i64 x,.int .i64 y]:=dV ⟨[],[],[],[]⟩ Go.Proofs.Tryz.func268 (by kernel_rfl)
def z079 (s:ByteArray):Prog :=
Ai (decide (((ByteArray.size s:Nat):Int)<1) || decide (((ByteArray.size s:Nat):Int)>24)) (
An 0 [.bool false])<|
AE (convert T.a51 T.a46 (.string s)) λl0=>
AK 1 (
AT 2 (0,()) λn1=>
Ai (decide (n1<(Al l0))) (
.ex [.adr] (c1 λa2=>0<=n1/\n1<(Al l0)/\l0.a=some a2) (u1 λa3=>
BN T.a52 a3 (Int.toNat n1*1) λn4=>
BO n4 λn5=>
Ag (decide (n5>=97) && decide (n5<=122)) λb6=>
Ag (decide (n5>=48) && decide (n5<=57)) λb7=>
Ai (not b6 && not b7 && n5 != 46 && n5 != 45) (
An 0 [.bool false])<|
An 2 [Ac (Aq (n1+1))]))<|
An 1 [])<|
An 0 [.bool true]
theorem ztw (s:ByteArray):FnS (z079 s) F.a47 #[.string s]:=dV ⟨[],[(0,[])],[],[(0,[(18,.one (.int .i64))])]⟩ Go.Proofs.Tryz.func281 (by kernel_rfl)
def z070 (d:Option Addr):Prog :=
Ai (Option.isNone d) (
An 0 [Ac 0])<|
AG<|
AA d λa1=>
AP T.a13 a1 2 λn2=>
AA d λa4=>
AP T.a13 a4 3 λn5=>
Af (if 0>Aq (n2-n5) then 0 else Aq (n2-n5)) λn6=>
AI<|
An 0 [Ac n6]
theorem ztn (d:Option Addr):FnS (z070 d) F.a36 #[.pointer d]:=dV ⟨[],[],[],[]⟩ Go.Proofs.Tryz.func282 (by kernel_rfl)
def z01x (length:Int):Prog :=
Aj F.a96 [.int .u64 (IntKind.wrap .u64 length)] λn0=>
.must (0<=n0) <|
Bj (IntKind.wrap .u64 (1*2 ^ min (Int.toNat n0) 64)) λn1=>
An 0 [.int .u64 n1]
theorem zoq (length:Int):FnS (z01x length) F.a190 #[.int .i64 length]:=dV ⟨[],[],[],[]⟩ Go.Proofs.Tryz.func287 (by kernel_rfl)
def z01y (r:Option Addr):Prog :=
AG<|
AA r λa1=>
BQ T.a50 a1 λn2=>
AA r λa4=>
BQ T.a50 a4 λn5=>
AA r λa7=>
Ar T.a50 a7 (.int .u64 (IntKind.wrap .u64 (((BitVec.toNat (BitVec.ofInt 64 n2 ^^^ BitVec.ofInt 64 (IntKind.wrap .u64 (n5*8192))):Nat):Int))))<|
AI<|
AG<|
AA r λa9=>
BQ T.a50 a9 λn10=>
AA r λa12=>
BQ T.a50 a12 λn13=>
AA r λa15=>
Ar T.a50 a15 (.int .u64 (IntKind.wrap .u64 (((BitVec.toNat (BitVec.ofInt 64 n10 ^^^ BitVec.ofInt 64 (Int.fdiv n13 128)):Nat):Int))))<|
AI<|
AG<|
AA r λa17=>
BQ T.a50 a17 λn18=>
AA r λa20=>
BQ T.a50 a20 λn21=>
AA r λa23=>
Ar T.a50 a23 (.int .u64 (IntKind.wrap .u64 (((BitVec.toNat (BitVec.ofInt 64 n18 ^^^ BitVec.ofInt 64 (IntKind.wrap .u64 (n21*131072))):Nat):Int))))<|
AI<|
AA r λa25=>
BQ T.a50 a25 λn26=>
Bj n26 λn27=>
An 0 [.int .u64 n27]
theorem zoy (r:Option Addr):FnS (z01y r) F.a212 #[.pointer r]:=dV ⟨[],[],[],[]⟩ Go.Proofs.Tryz.func288 (by kernel_rfl)
def zf97 (m:Option Nat):Prog :=
Av T.a24 (.map m) λa0=>
An 0 [.func (Fn.func 324) #[] #[Az a0]]
theorem zf97_calls (m:Option Nat):FnS (zf97 m) F.a94 #[.map m]:=dV ⟨[],[],[],[]⟩ Go.Proofs.Tryz.func292 (by kernel_rfl)
def zf221 (s:ByteArray) (prefix_:ByteArray):Prog :=
Am F.a63 [.string s,.string prefix_] λb0=>
Ag b0 λb1=>
An 0 [.bool b1]
theorem zf221_calls (s prefix_:ByteArray):FnS (zf221 s prefix_) F.a214 #[.string s,.string prefix_]:=dV ⟨[],[],[],[]⟩ Go.Proofs.Tryz.func293 (by kernel_rfl)
def z09g (x:Sl):Prog :=
Af (Al x) λn0=>
Aj F.a96 [.int .u64 (IntKind.wrap .u64 n0)] λn1=>
AU F.a205 [x.v,Ac 0,Ac n0,Ac n1]<|
An 0 []
def z08v (data:Sl) (a b limit:Int) (cmp:Value):Prog :=
BR 1 (a,(b,(limit,(true,(true,()))))) λn0 n1 n2 b3 b4=>
BS 2 (
Af (Aq (n1-n0)) λn5=>
Ai (decide (n5<=12)) (
AU F.a182 [data.v,Ac n0,Ac n1,cmp]<|
An 0 [])<|
Ai (n2 == 0) (
AU F.a179 [data.v,Ac n0,Ac n1,cmp]<|
An 0 [])<|
Ap 3 (
Ai (not b3) (
AU F.a173 [data.v,Ac n0,Ac n1,cmp]<|
Af (Aq (n2-1)) λn6=>
An 3 [Ac n6])<|
An 3 [Ac n2]) λn7=>
Ae F.a176 [data.v,Ac n0,Ac n1,cmp] λn8 n9=>
Af n8 λn10=>
Af n9 λn11=>
Bu 3 (
Ai (n11 == 2) (
AU F.a207 [data.v,Ac n0,Ac n1,cmp]<|
Af (Aq (Aq (n1-1)-Aq (n10-n0))) λn12=>
An 3 [Ac n12,Ac 1])<|
An 3 [Ac n10,Ac n11]) λn13 n14=>
AK 3 (
Ai (b3 && b4 && n14 == 1) (
Am F.a195 [data.v,Ac n0,Ac n1,cmp] λb15=>
Ai b15 (
An 0 [])<|
An 3 [])<|
An 3 [])<|
Ah 3 (
AG<|
.ex [.adr] (c1 λa16=>decide (n0>0)=true->0<=Aq (n0-1)/\Aq (n0-1)<(Al data)/\data.a=some a16) (u1 λa17=>
BT (decide (n0>0)=true) T.a15 a17 (Int.toNat (Aq (n0-1))*4) λn18 n19 n20 n21=>
.ex [.adr] (c1 λa22=>decide (n0>0)=true->0<=n13/\n13<(Al data)/\data.a=some a22) (u1 λa23=>
BT (decide (n0>0)=true) T.a15 a23 (Int.toNat n13*4) λn24 n25 n26 n27=>
Ai (decide (n0>0)) (
BU cmp [Bp n18 n19 n20 n21,Bp n24 n25 n26 n27] λn28=>
AI<|
An 3 [.bool (not (decide (n28<0)))])<|
AI<|
An 3 [.bool false]))) λb29=>
Ai b29 (
Aj F.a200 [data.v,Ac n0,Ac n1,Ac n13,cmp] λn30=>
Af n30 λn31=>
Af n31 λn32=>
An 2 [Ac n32,Ac n1,Ac n7,.bool b3,.bool b4])<|
Bd F.a198 [data.v,Ac n0,Ac n1,Ac n13,cmp] λn33 b34=>
Af n33 λn35=>
Ag b34 λb36=>
Ag b36 λb37=>
Af (Aq (n35-n0)) λn38=>
Af (Aq (n1-n35)) λn39=>
Af (Aq (Int.tdiv n5 8)) λn40=>
BV 3 (
Ai (decide (n38<n39)) (
Ag (decide (n38>=n40)) λb41=>
AU F.a204 [data.v,Ac n0,Ac n35,Ac n7,cmp]<|
Af (Aq (n35+1)) λn42=>
An 3 [Ac n42,Ac n1,.bool b41])<|
Ag (decide (n39>=n40)) λb43=>
AU F.a204 [data.v,Ac (Aq (n35+1)),Ac n1,Ac n7,cmp]<|
Af n35 λn44=>
An 3 [Ac n0,Ac n44,.bool b43]) λn45 n46 b47=>
An 2 [Ac n45,Ac n46,Ac n7,.bool b47,.bool b37]) λn48 n49 n50 b51 b52=>
An 1 [Ac n48,Ac n49,Ac n50,.bool b51,.bool b52]
theorem zov (data:Sl) (a b limit:Int) (cmp:Value) {w:World} {R:List Value->World->Prop} (h:(z08v data a b limit cmp).wp P (λ_=>True) w λe vs w'=>e=0/\R vs w'):Ret P F.a204 #[.slice data.a data.len data.cap,.int .i64 a,.int .i64 b,.int .i64 limit,cmp] w R:=dS (n:=148) (rv:=[]) { cnd:=[(571957152676085799,[(3,.one (.int .i64))]),(1208335523804270569717816,[(13,.one (.int .i64)),(14,.one (.int .i64))]),(9594035304461697130468212811,[]),(1461501288881759191162698246220685009525288231037,[(1,.one (.int .i64)),(2,.one (.int .i64)),(10,.one .bool)])],blk:=[(1,[(1,.one (.int .i64)),(2,.one (.int .i64)),(3,.one (.int .i64)),(10,.one .bool),(11,.one .bool)])],reg:=[(17,[(97,.one .bool)])],lps:=[(0,[(1,.one (.int .i64)),(2,.one (.int .i64)),(3,.one (.int .i64)),(10,.one .bool),(11,.one .bool)])] } [.val (.slice data.a data.len data.cap),.val (.int .i64 a),.val (.int .i64 b),.val (.int .i64 limit),.any cmp] Go.Proofs.Tryz.func312 (by kernel_rfl) (by kernel_rfl) (by kernel_rfl) (by kernel_rfl) h
def zf3 (x:Int):Prog :=
Ag (x != x) λb0=>
An 0 [.bool b0]
theorem zx2 (x:Int):FnS (zf3 x) F.a3 #[.int .i64 x]:=dV ⟨[],[],[],[]⟩ Go.Proofs.Tryz.func313 (by kernel_rfl)
def zf64 (s:ByteArray) (prefix_:ByteArray):Prog :=
.must (decide (((ByteArray.size s:Nat):Int)>=((ByteArray.size prefix_:Nat):Int))=true->0<=((ByteArray.size prefix_:Nat):Int)/\((ByteArray.size prefix_:Nat):Int)<=((ByteArray.size s:Nat):Int)) <|
Ag (decide (((ByteArray.size s:Nat):Int)>=((ByteArray.size prefix_:Nat):Int)) && ByteArray.toList (ByteArray.extract s 0 (Int.toNat (((ByteArray.size prefix_:Nat):Int)))) == ByteArray.toList prefix_) λb0=>
An 0 [.bool b0]
theorem zf64_calls (s prefix_:ByteArray):FnS (zf64 s prefix_) F.a63 #[.string s,.string prefix_]:=dV ⟨[],[],[],[]⟩ Go.Proofs.Tryz.func325 (by kernel_rfl)
def z0a2 (data:Sl) (a b:Int) (limit:Int):Prog :=
BR 1 (a,(b,(limit,(true,(true,()))))) λn0 n1 n2 b3 b4=>
BS 2 (
Af (Aq (n1-n0)) λn5=>
Ai (decide (n5<=12)) (
AU F.a183 [data.v,Ac n0,Ac n1]<|
An 0 [])<|
Ai (n2 == 0) (
AU F.a180 [data.v,Ac n0,Ac n1]<|
An 0 [])<|
Ap 3 (
Ai (not b3) (
AU F.a174 [data.v,Ac n0,Ac n1]<|
Af (Aq (n2-1)) λn6=>
An 3 [Ac n6])<|
An 3 [Ac n2]) λn7=>
Ae F.a177 [data.v,Ac n0,Ac n1] λn8 n9=>
Af n8 λn10=>
Af n9 λn11=>
Bu 3 (
Ai (n11 == 2) (
AU F.a208 [data.v,Ac n0,Ac n1]<|
Af (Aq (Aq (n1-1)-Aq (n10-n0))) λn12=>
An 3 [Ac n12,Ac 1])<|
An 3 [Ac n10,Ac n11]) λn13 n14=>
AK 3 (
Ai (b3 && b4 && n14 == 1) (
Am F.a196 [data.v,Ac n0,Ac n1] λb15=>
Ai b15 (
An 0 [])<|
An 3 [])<|
An 3 [])<|
Ah 3 (
AG<|
.ex [.adr] (c1 λa16=>decide (n0>0)=true->0<=Aq (n0-1)/\Aq (n0-1)<(Al data)/\data.a=some a16) (u1 λa17=>
Bg (decide (n0>0)=true) T.a51 a17 (Int.toNat (Aq (n0-1))*1) λs18=>
.ex [.adr] (c1 λa19=>decide (n0>0)=true->0<=n13/\n13<(Al data)/\data.a=some a19) (u1 λa20=>
Bg (decide (n0>0)=true) T.a51 a20 (Int.toNat n13*1) λs21=>
Ai (decide (n0>0)) (
Am F.a2 [.string s18,.string s21] λb22=>
AI<|
An 3 [.bool (not b22)])<|
AI<|
An 3 [.bool false]))) λb23=>
Ai b23 (
Aj F.a201 [data.v,Ac n0,Ac n1,Ac n13] λn24=>
Af n24 λn25=>
Af n25 λn26=>
An 2 [Ac n26,Ac n1,Ac n7,.bool b3,.bool b4])<|
Bd F.a202 [data.v,Ac n0,Ac n1,Ac n13] λn27 b28=>
Af n27 λn29=>
Ag b28 λb30=>
Ag b30 λb31=>
Af (Aq (n29-n0)) λn32=>
Af (Aq (n1-n29)) λn33=>
Af (Aq (Int.tdiv n5 8)) λn34=>
BV 3 (
Ai (decide (n32<n33)) (
Ag (decide (n32>=n34)) λb35=>
AU F.a205 [data.v,Ac n0,Ac n29,Ac n7]<|
Af (Aq (n29+1)) λn36=>
An 3 [Ac n36,Ac n1,.bool b35])<|
Ag (decide (n33>=n34)) λb37=>
AU F.a205 [data.v,Ac (Aq (n29+1)),Ac n1,Ac n7]<|
Af n29 λn38=>
An 3 [Ac n0,Ac n38,.bool b37]) λn39 n40 b41=>
An 2 [Ac n39,Ac n40,Ac n7,.bool b41,.bool b31]) λn42 n43 n44 b45 b46=>
An 1 [Ac n42,Ac n43,Ac n44,.bool b45,.bool b46]
def z08o (data:Sl) (a b:Int) (cmp:Value):Prog :=
Af (Aq (a+1)) λn0=>
AK 1 (
AT 2 (n0,()) λn1=>
Ai (decide (n1<b)) (
AK 3 (
Af n1 λn2=>
AK 4 (
AT 5 (n2,()) λn3=>
Ah 6 (
AG<|
.ex [.adr] (c1 λa4=>decide (n3>a)=true->0<=n3/\n3<(Al data)/\data.a=some a4) (u1 λa5=>
BT (decide (n3>a)=true) T.a15 a5 (Int.toNat n3*4) λn6 n7 n8 n9=>
.ex [.adr] (c1 λa10=>decide (n3>a)=true->0<=Aq (n3-1)/\Aq (n3-1)<(Al data)/\data.a=some a10) (u1 λa11=>
BT (decide (n3>a)=true) T.a15 a11 (Int.toNat (Aq (n3-1))*4) λn12 n13 n14 n15=>
Ai (decide (n3>a)) (
BU cmp [Bp n6 n7 n8 n9,Bp n12 n13 n14 n15] λn16=>
AI<|
An 6 [.bool (decide (n16<0))])<|
AI<|
An 6 [.bool false]))) λb17=>
Ai b17 (
AK 6 (
AG<|
.ex [.adr] (c1 λa18=>0<=Aq (n3-1)/\Aq (n3-1)<(Al data)/\data.a=some a18) (u1 λa19=>
BE T.a15 a19 (Int.toNat (Aq (n3-1))*4) λn20 n21 n22 n23=>
.ex [.adr] (c1 λa24=>0<=n3/\n3<(Al data)/\data.a=some a24) (u1 λa25=>
BE T.a15 a25 (Int.toNat n3*4) λn26 n27 n28 n29=>
.ex [.adr] (c1 λa30=>0<=n3/\n3<(Al data)/\data.a=some a30) (u1 λa31=>
AJ T.a15 a31 (Int.toNat n3*4) (Bp n20 n21 n22 n23)<|
.ex [.adr] (c1 λa32=>0<=Aq (n3-1)/\Aq (n3-1)<(Al data)/\data.a=some a32) (u1 λa33=>
AJ T.a15 a33 (Int.toNat (Aq (n3-1))*4) (Bp n26 n27 n28 n29)<|
AI<|
An 6 [])))))<|
Af (Aq (n3-1)) λn34=>
An 5 [Ac n34])<|
An 4 [])<|
An 3 [])<|
Af (Aq (n1+1)) λn35=>
An 2 [Ac n35])<|
An 1 [])<|
An 0 []
theorem zon (data:Sl) (a b:Int) (cmp:Value) {w:World} {R:List Value->World->Prop} (h:(z08o data a b cmp).wp P (λ_=>True) w λe vs w'=>e=0/\R vs w'):Ret P F.a182 #[.slice data.a data.len data.cap,.int .i64 a,.int .i64 b,cmp] w R:=dS (n:=53) (rv:=[]) { cnd:=[],blk:=[(0,[]),(1,[]),(2,[])],reg:=[(4,[(34,.one .bool)]),(6,[])],lps:=[(0,[(8,.one (.int .i64))]),(2,[(9,.one (.int .i64))])] } [.val (.slice data.a data.len data.cap),.val (.int .i64 a),.val (.int .i64 b),.any cmp] Go.Proofs.Tryz.func329 (by kernel_rfl) (by kernel_rfl) (by kernel_rfl) (by kernel_rfl) h
def z08n (data:Sl) (a b:Int) (cmp:Value):Prog :=
Af a λn0=>
Af (Aq (b-a)) λn1=>
Af (Aq (Int.tdiv (Aq (n1-1)) 2)) λn2=>
AK 1 (
AT 2 (n2,()) λn3=>
Ai (decide (n3>=0)) (
AU F.a210 [data.v,Ac n3,Ac n1,Ac n0,cmp]<|
Af (Aq (n3-1)) λn4=>
An 2 [Ac n4])<|
An 1 [])<|
Af (Aq (n1-1)) λn5=>
AK 1 (
AT 2 (n5,()) λn6=>
Ai (decide (n6>=0)) (
AK 3 (
AG<|
.ex [.adr] (c1 λa7=>0<=Aq (n0+n6)/\Aq (n0+n6)<(Al data)/\data.a=some a7) (u1 λa8=>
BE T.a15 a8 (Int.toNat (Aq (n0+n6))*4) λn9 n10 n11 n12=>
.ex [.adr] (c1 λa13=>0<=n0/\n0<(Al data)/\data.a=some a13) (u1 λa14=>
BE T.a15 a14 (Int.toNat n0*4) λn15 n16 n17 n18=>
.ex [.adr] (c1 λa19=>0<=n0/\n0<(Al data)/\data.a=some a19) (u1 λa20=>
AJ T.a15 a20 (Int.toNat n0*4) (Bp n9 n10 n11 n12)<|
.ex [.adr] (c1 λa21=>0<=Aq (n0+n6)/\Aq (n0+n6)<(Al data)/\data.a=some a21) (u1 λa22=>
AJ T.a15 a22 (Int.toNat (Aq (n0+n6))*4) (Bp n15 n16 n17 n18)<|
AI<|
An 3 [])))))<|
AU F.a210 [data.v,Ac 0,Ac n6,Ac n0,cmp]<|
Af (Aq (n6-1)) λn23=>
An 2 [Ac n23])<|
An 1 [])<|
An 0 []
theorem zom (data:Sl) (a b:Int) (cmp:Value) {w:World} {R:List Value->World->Prop} (h:(z08n data a b cmp).wp P (λ_=>True) w λe vs w'=>e=0/\R vs w'):Ret P F.a179 #[.slice data.a data.len data.cap,.int .i64 a,.int .i64 b,cmp] w R:=dS (n:=60) (rv:=[]) { cnd:=[],blk:=[(0,[]),(2,[])],reg:=[(10,[])],lps:=[(0,[(11,.one (.int .i64))]),(2,[(12,.one (.int .i64))])] } [.val (.slice data.a data.len data.cap),.val (.int .i64 a),.val (.int .i64 b),.any cmp] Go.Proofs.Tryz.func330 (by kernel_rfl) (by kernel_rfl) (by kernel_rfl) (by kernel_rfl) h
def z08l (data:Sl) (a b:Int) (cmp:Value):Prog :=
Af (Aq (b-a)) λn0=>
AK 1 (
Ai (decide (n0>=8)) (
Ao T.a50 λa1=>
Ar T.a50 a1 (.int .u64 (IntKind.wrap .u64 n0))<|
Bi F.a190 [Ac n0] λn2=>
Bj n2 λn3=>
Af (Aq (Aq (a+Aq (Aq (Int.tdiv n0 4)*2))-1)) λn4=>
AK 2 (
AT 3 (n4,()) λn5=>
Ai (decide (n5<=Aq (Aq (a+Aq (Aq (Int.tdiv n0 4)*2))+1))) (
Bi F.a212 [Az a1] λn6=>
Af (Aq (IntKind.wrap .u64 (((BitVec.toNat (BitVec.ofInt 64 n6 &&& BitVec.ofInt 64 (IntKind.wrap .u64 (n3-1))):Nat):Int)))) λn7=>
Ap 4 (
Ai (decide (n7>=n0)) (
Af (Aq (n7-n0)) λn8=>
An 4 [Ac n8])<|
An 4 [Ac n7]) λn9=>
AK 4 (
AG<|
.ex [.adr] (c1 λa10=>0<=Aq (a+n9)/\Aq (a+n9)<(Al data)/\data.a=some a10) (u1 λa11=>
BE T.a15 a11 (Int.toNat (Aq (a+n9))*4) λn12 n13 n14 n15=>
.ex [.adr] (c1 λa16=>0<=n5/\n5<(Al data)/\data.a=some a16) (u1 λa17=>
BE T.a15 a17 (Int.toNat n5*4) λn18 n19 n20 n21=>
.ex [.adr] (c1 λa22=>0<=n5/\n5<(Al data)/\data.a=some a22) (u1 λa23=>
AJ T.a15 a23 (Int.toNat n5*4) (Bp n12 n13 n14 n15)<|
.ex [.adr] (c1 λa24=>0<=Aq (a+n9)/\Aq (a+n9)<(Al data)/\data.a=some a24) (u1 λa25=>
AJ T.a15 a25 (Int.toNat (Aq (a+n9))*4) (Bp n18 n19 n20 n21)<|
AI<|
An 4 [])))))<|
Af (Aq (n5+1)) λn26=>
An 3 [Ac n26])<|
An 2 [])<|
An 1 [])<|
An 1 [])<|
An 0 []
theorem zok (data:Sl) (a b:Int) (cmp:Value) {w:World} {R:List Value->World->Prop} (h:(z08l data a b cmp).wp P (λ_=>True) w λe vs w'=>e=0/\R vs w'):Ret P F.a173 #[.slice data.a data.len data.cap,.int .i64 a,.int .i64 b,cmp] w R:=dS (n:=67) (rv:=[]) { cnd:=[(2017612633078759469,[(12,.one (.int .i64))]),(604462909807313545068561,[])],blk:=[(0,[])],reg:=[(10,[])],lps:=[(0,[(11,.one (.int .i64))])] } [.val (.slice data.a data.len data.cap),.val (.int .i64 a),.val (.int .i64 b),.any cmp] Go.Proofs.Tryz.func331 (by kernel_rfl) (by kernel_rfl) (by kernel_rfl) (by kernel_rfl) h
def z08m (data:Sl) (a b:Int) (cmp:Value):Prog :=
Af (Aq (b-a)) λn0=>
Ao T.a13 λa1=>
Af (Aq (a+Aq (Aq (Int.tdiv n0 4)*1))) λn2=>
Af (Aq (a+Aq (Aq (Int.tdiv n0 4)*2))) λn3=>
Af (Aq (a+Aq (Aq (Int.tdiv n0 4)*3))) λn4=>
Ap 1 (
Ai (decide (n0>=8)) (
BW 2 (
Ai (decide (n0>=50)) (
Aj F.a185 [data.v,Ac n2,Az a1,cmp] λn5=>
Af n5 λn6=>
Aj F.a185 [data.v,Ac n3,Az a1,cmp] λn7=>
Af n7 λn8=>
Aj F.a185 [data.v,Ac n4,Az a1,cmp] λn9=>
Af n9 λn10=>
An 2 [Ac n6,Ac n8,Ac n10])<|
An 2 [Ac n2,Ac n3,Ac n4]) λn11 n12 n13=>
Aj F.a188 [data.v,Ac n11,Ac n12,Ac n13,Az a1,cmp] λn14=>
Af n14 λn15=>
An 1 [Ac n15])<|
An 1 [Ac n3]) λn16=>
BX T.a13 a1 λn17=>
Ba (n17 == 0) (
Af n16 λn19=>
An 0 [Ac n19,Ac 1])<|
Ba (n17 == 12) (
Af n16 λn21=>
An 0 [Ac n21,Ac 2])<|
Af n16 λn22=>
An 0 [Ac n22,Ac 0]
theorem zol (data:Sl) (a b:Int) (cmp:Value) {w:World} {R:List Value->World->Prop} (h:(z08m data a b cmp).wp P (λ_=>True) w λe vs w'=>e=0/\R vs w'):Ret P F.a176 #[.slice data.a data.len data.cap,.int .i64 a,.int .i64 b,cmp] w R:=dS (n:=63) (rv:=[.tmp 8,.tmp 9]) { cnd:=[(2305280059377713188,[(12,.one (.int .i64)),(13,.one (.int .i64)),(14,.one (.int .i64))]),(147573811852305498146,[(13,.one (.int .i64))])],blk:=[],reg:=[],lps:=[] } [.val (.slice data.a data.len data.cap),.val (.int .i64 a),.val (.int .i64 b),.any cmp] Go.Proofs.Tryz.func332 (by kernel_rfl) (by kernel_rfl) (by kernel_rfl) (by kernel_rfl) h
def z08w (data:Sl) (a b:Int) (cmp:Value):Prog :=
Af a λn0=>
Af (Aq (b-1)) λn1=>
AK 1 (
AM 2 (n0,(n1,())) λn2 n3=>
Ai (decide (n2<n3)) (
AK 3 (
AG<|
.ex [.adr] (c1 λa4=>0<=n3/\n3<(Al data)/\data.a=some a4) (u1 λa5=>
BE T.a15 a5 (Int.toNat n3*4) λn6 n7 n8 n9=>
.ex [.adr] (c1 λa10=>0<=n2/\n2<(Al data)/\data.a=some a10) (u1 λa11=>
BE T.a15 a11 (Int.toNat n2*4) λn12 n13 n14 n15=>
.ex [.adr] (c1 λa16=>0<=n2/\n2<(Al data)/\data.a=some a16) (u1 λa17=>
AJ T.a15 a17 (Int.toNat n2*4) (Bp n6 n7 n8 n9)<|
.ex [.adr] (c1 λa18=>0<=n3/\n3<(Al data)/\data.a=some a18) (u1 λa19=>
AJ T.a15 a19 (Int.toNat n3*4) (Bp n12 n13 n14 n15)<|
AI<|
An 3 [])))))<|
Af (Aq (n2+1)) λn20=>
Af (Aq (n3-1)) λn21=>
An 2 [Ac n20,Ac n21])<|
An 1 [])<|
An 0 []
theorem zow (data:Sl) (a b:Int) (cmp:Value) {w:World} {R:List Value->World->Prop} (h:(z08w data a b cmp).wp P (λ_=>True) w λe vs w'=>e=0/\R vs w'):Ret P F.a207 #[.slice data.a data.len data.cap,.int .i64 a,.int .i64 b,cmp] w R:=dS (n:=34) (rv:=[]) { cnd:=[],blk:=[(0,[])],reg:=[(3,[])],lps:=[(0,[(8,.one (.int .i64)),(9,.one (.int .i64))])] } [.val (.slice data.a data.len data.cap),.val (.int .i64 a),.val (.int .i64 b),.any cmp] Go.Proofs.Tryz.func333 (by kernel_rfl) (by kernel_rfl) (by kernel_rfl) (by kernel_rfl) h
def z08s (data:Sl) (a b:Int) (cmp:Value):Prog :=
Af (Aq (a+1)) λn0=>
AK 1 (
AM 2 (n0,(0,())) λn1 n2=>
Ai (decide (n2<5)) (
Ap 3 (
Ap 4 (
AT 5 (n1,()) λn3=>
Ah 6 (
AG<|
.ex [.adr] (c1 λa4=>decide (n3<b)=true->0<=n3/\n3<(Al data)/\data.a=some a4) (u1 λa5=>
BT (decide (n3<b)=true) T.a15 a5 (Int.toNat n3*4) λn6 n7 n8 n9=>
.ex [.adr] (c1 λa10=>decide (n3<b)=true->0<=Aq (n3-1)/\Aq (n3-1)<(Al data)/\data.a=some a10) (u1 λa11=>
BT (decide (n3<b)=true) T.a15 a11 (Int.toNat (Aq (n3-1))*4) λn12 n13 n14 n15=>
Ai (decide (n3<b)) (
BU cmp [Bp n6 n7 n8 n9,Bp n12 n13 n14 n15] λn16=>
AI<|
An 6 [.bool (not (decide (n16<0)))])<|
AI<|
An 6 [.bool false]))) λb17=>
Ai b17 (
Af (Aq (n3+1)) λn18=>
An 5 [Ac n18])<|
An 4 [Ac n3]) λn19=>
Ai (n19 == b) (
An 0 [.bool true])<|
Ai (decide (Aq (b-a)<50)) (
An 0 [.bool false])<|
AK 4 (
AG<|
.ex [.adr] (c1 λa20=>0<=Aq (n19-1)/\Aq (n19-1)<(Al data)/\data.a=some a20) (u1 λa21=>
BE T.a15 a21 (Int.toNat (Aq (n19-1))*4) λn22 n23 n24 n25=>
.ex [.adr] (c1 λa26=>0<=n19/\n19<(Al data)/\data.a=some a26) (u1 λa27=>
BE T.a15 a27 (Int.toNat n19*4) λn28 n29 n30 n31=>
.ex [.adr] (c1 λa32=>0<=n19/\n19<(Al data)/\data.a=some a32) (u1 λa33=>
AJ T.a15 a33 (Int.toNat n19*4) (Bp n22 n23 n24 n25)<|
.ex [.adr] (c1 λa34=>0<=Aq (n19-1)/\Aq (n19-1)<(Al data)/\data.a=some a34) (u1 λa35=>
AJ T.a15 a35 (Int.toNat (Aq (n19-1))*4) (Bp n28 n29 n30 n31)<|
AI<|
An 4 [])))))<|
AK 4 (
Ai (decide (Aq (n19-a)>=2)) (
Af (Aq (n19-1)) λn36=>
AK 5 (
AT 6 (n36,()) λn37=>
Ai (decide (n37>=1)) (
AG<|
.ex [.adr] (c1 λa38=>0<=n37/\n37<(Al data)/\data.a=some a38) (u1 λa39=>
BE T.a15 a39 (Int.toNat n37*4) λn40 n41 n42 n43=>
.ex [.adr] (c1 λa44=>0<=Aq (n37-1)/\Aq (n37-1)<(Al data)/\data.a=some a44) (u1 λa45=>
BE T.a15 a45 (Int.toNat (Aq (n37-1))*4) λn46 n47 n48 n49=>
BU cmp [Bp n40 n41 n42 n43,Bp n46 n47 n48 n49] λn50=>
AI<|
Ai (not (decide (n50<0))) (
An 5 [])<|
AK 7 (
AG<|
.ex [.adr] (c1 λa51=>0<=Aq (n37-1)/\Aq (n37-1)<(Al data)/\data.a=some a51) (u1 λa52=>
BE T.a15 a52 (Int.toNat (Aq (n37-1))*4) λn53 n54 n55 n56=>
.ex [.adr] (c1 λa57=>0<=n37/\n37<(Al data)/\data.a=some a57) (u1 λa58=>
BE T.a15 a58 (Int.toNat n37*4) λn59 n60 n61 n62=>
.ex [.adr] (c1 λa63=>0<=n37/\n37<(Al data)/\data.a=some a63) (u1 λa64=>
AJ T.a15 a64 (Int.toNat n37*4) (Bp n53 n54 n55 n56)<|
.ex [.adr] (c1 λa65=>0<=Aq (n37-1)/\Aq (n37-1)<(Al data)/\data.a=some a65) (u1 λa66=>
AJ T.a15 a66 (Int.toNat (Aq (n37-1))*4) (Bp n59 n60 n61 n62)<|
AI<|
An 7 [])))))<|
Af (Aq (n37-1)) λn67=>
An 6 [Ac n67])))<|
An 5 [])<|
An 4 [])<|
An 4 [])<|
AK 4 (
Ai (decide (Aq (b-n19)>=2)) (
Af (Aq (n19+1)) λn68=>
AK 5 (
AT 6 (n68,()) λn69=>
Ai (decide (n69<b)) (
AG<|
.ex [.adr] (c1 λa70=>0<=n69/\n69<(Al data)/\data.a=some a70) (u1 λa71=>
BE T.a15 a71 (Int.toNat n69*4) λn72 n73 n74 n75=>
.ex [.adr] (c1 λa76=>0<=Aq (n69-1)/\Aq (n69-1)<(Al data)/\data.a=some a76) (u1 λa77=>
BE T.a15 a77 (Int.toNat (Aq (n69-1))*4) λn78 n79 n80 n81=>
BU cmp [Bp n72 n73 n74 n75,Bp n78 n79 n80 n81] λn82=>
AI<|
Ai (not (decide (n82<0))) (
An 5 [])<|
AK 7 (
AG<|
.ex [.adr] (c1 λa83=>0<=Aq (n69-1)/\Aq (n69-1)<(Al data)/\data.a=some a83) (u1 λa84=>
BE T.a15 a84 (Int.toNat (Aq (n69-1))*4) λn85 n86 n87 n88=>
.ex [.adr] (c1 λa89=>0<=n69/\n69<(Al data)/\data.a=some a89) (u1 λa90=>
BE T.a15 a90 (Int.toNat n69*4) λn91 n92 n93 n94=>
.ex [.adr] (c1 λa95=>0<=n69/\n69<(Al data)/\data.a=some a95) (u1 λa96=>
AJ T.a15 a96 (Int.toNat n69*4) (Bp n85 n86 n87 n88)<|
.ex [.adr] (c1 λa97=>0<=Aq (n69-1)/\Aq (n69-1)<(Al data)/\data.a=some a97) (u1 λa98=>
AJ T.a15 a98 (Int.toNat (Aq (n69-1))*4) (Bp n91 n92 n93 n94)<|
AI<|
An 7 [])))))<|
Af (Aq (n69+1)) λn99=>
An 6 [Ac n99])))<|
An 5 [])<|
An 4 [])<|
An 4 [])<|
An 3 [Ac n19]) λn100=>
Af (Aq (n2+1)) λn101=>
An 2 [Ac n100,Ac n101])<|
An 1 [])<|
An 0 [.bool false]
theorem zos (data:Sl) (a b:Int) (cmp:Value) {w:World} {R:List Value->World->Prop} (h:(z08s data a b cmp).wp P (λ_=>True) w λe vs w'=>e=0/\R vs w'):Ret P F.a195 #[.slice data.a data.len data.cap,.int .i64 a,.int .i64 b,cmp] w R:=dS (n:=141) (rv:=[.tmp 8]) { cnd:=[(10384593716767423802157335373152321,[]),(11417981541481525548993173271482985208543707240,[])],blk:=[(0,[]),(1,[(9,.one (.int .i64))]),(2,[(9,.one (.int .i64))]),(4,[]),(6,[])],reg:=[(5,[(36,.one .bool)]),(11,[]),(17,[]),(23,[])],lps:=[(0,[(9,.one (.int .i64)),(10,.one (.int .i64))]),(2,[(9,.one (.int .i64))]),(4,[(11,.one (.int .i64))]),(6,[(12,.one (.int .i64))])] } [.val (.slice data.a data.len data.cap),.val (.int .i64 a),.val (.int .i64 b),.any cmp] Go.Proofs.Tryz.func334 (by kernel_rfl) (by kernel_rfl) (by kernel_rfl) (by kernel_rfl) h
def z08u (data:Sl) (a b pivot:Int) (cmp:Value):Prog :=
AK 1 (
AG<|
.ex [.adr] (c1 λa0=>0<=pivot/\pivot<(Al data)/\data.a=some a0) (u1 λa1=>
BE T.a15 a1 (Int.toNat pivot*4) λn2 n3 n4 n5=>
.ex [.adr] (c1 λa6=>0<=a/\a<(Al data)/\data.a=some a6) (u1 λa7=>
BE T.a15 a7 (Int.toNat a*4) λn8 n9 n10 n11=>
.ex [.adr] (c1 λa12=>0<=a/\a<(Al data)/\data.a=some a12) (u1 λa13=>
AJ T.a15 a13 (Int.toNat a*4) (Bp n2 n3 n4 n5)<|
.ex [.adr] (c1 λa14=>0<=pivot/\pivot<(Al data)/\data.a=some a14) (u1 λa15=>
AJ T.a15 a15 (Int.toNat pivot*4) (Bp n8 n9 n10 n11)<|
AI<|
An 1 [])))))<|
Af (Aq (a+1)) λn16=>
Af (Aq (b-1)) λn17=>
Ap 1 (
AM 2 (n16,(n17,())) λn18 n19=>
Bu 3 (
Ap 4 (
AT 5 (n18,()) λn20=>
Ah 6 (
AG<|
.ex [.adr] (c1 λa21=>decide (n20<=n19)=true->0<=a/\a<(Al data)/\data.a=some a21) (u1 λa22=>
BT (decide (n20<=n19)=true) T.a15 a22 (Int.toNat a*4) λn23 n24 n25 n26=>
.ex [.adr] (c1 λa27=>decide (n20<=n19)=true->0<=n20/\n20<(Al data)/\data.a=some a27) (u1 λa28=>
BT (decide (n20<=n19)=true) T.a15 a28 (Int.toNat n20*4) λn29 n30 n31 n32=>
Ai (decide (n20<=n19)) (
BU cmp [Bp n23 n24 n25 n26,Bp n29 n30 n31 n32] λn33=>
AI<|
An 6 [.bool (not (decide (n33<0)))])<|
AI<|
An 6 [.bool false]))) λb34=>
Ai b34 (
Af (Aq (n20+1)) λn35=>
An 5 [Ac n35])<|
An 4 [Ac n20]) λn36=>
Ap 4 (
AT 5 (n19,()) λn37=>
Ah 6 (
AG<|
.ex [.adr] (c1 λa38=>decide (n36<=n37)=true->0<=a/\a<(Al data)/\data.a=some a38) (u1 λa39=>
BT (decide (n36<=n37)=true) T.a15 a39 (Int.toNat a*4) λn40 n41 n42 n43=>
.ex [.adr] (c1 λa44=>decide (n36<=n37)=true->0<=n37/\n37<(Al data)/\data.a=some a44) (u1 λa45=>
BT (decide (n36<=n37)=true) T.a15 a45 (Int.toNat n37*4) λn46 n47 n48 n49=>
Ai (decide (n36<=n37)) (
BU cmp [Bp n40 n41 n42 n43,Bp n46 n47 n48 n49] λn50=>
AI<|
An 6 [.bool (decide (n50<0))])<|
AI<|
An 6 [.bool false]))) λb51=>
Ai b51 (
Af (Aq (n37-1)) λn52=>
An 5 [Ac n52])<|
An 4 [Ac n37]) λn53=>
Ai (decide (n36>n53)) (
An 1 [Ac n36])<|
AK 4 (
AG<|
.ex [.adr] (c1 λa54=>0<=n53/\n53<(Al data)/\data.a=some a54) (u1 λa55=>
BE T.a15 a55 (Int.toNat n53*4) λn56 n57 n58 n59=>
.ex [.adr] (c1 λa60=>0<=n36/\n36<(Al data)/\data.a=some a60) (u1 λa61=>
BE T.a15 a61 (Int.toNat n36*4) λn62 n63 n64 n65=>
.ex [.adr] (c1 λa66=>0<=n36/\n36<(Al data)/\data.a=some a66) (u1 λa67=>
AJ T.a15 a67 (Int.toNat n36*4) (Bp n56 n57 n58 n59)<|
.ex [.adr] (c1 λa68=>0<=n53/\n53<(Al data)/\data.a=some a68) (u1 λa69=>
AJ T.a15 a69 (Int.toNat n53*4) (Bp n62 n63 n64 n65)<|
AI<|
An 4 [])))))<|
Af (Aq (n36+1)) λn70=>
Af (Aq (n53-1)) λn71=>
An 3 [Ac n70,Ac n71]) λn72 n73=>
An 2 [Ac n72,Ac n73]) λn74=>
Af n74 λn75=>
An 0 [Ac n75]
theorem zou (data:Sl) (a b pivot:Int) (cmp:Value) {w:World} {R:List Value->World->Prop} (h:(z08u data a b pivot cmp).wp P (λ_=>True) w λe vs w'=>e=0/\R vs w'):Ret P F.a200 #[.slice data.a data.len data.cap,.int .i64 a,.int .i64 b,.int .i64 pivot,cmp] w R:=dS (n:=90) (rv:=[.tmp 10]) { cnd:=[],blk:=[(0,[(11,.one (.int .i64))]),(1,[(11,.one (.int .i64)),(12,.one (.int .i64))]),(2,[(11,.one (.int .i64))]),(4,[(12,.one (.int .i64))])],reg:=[(1,[]),(3,[(47,.one .bool)]),(5,[(65,.one .bool)]),(8,[])],lps:=[(0,[(11,.one (.int .i64)),(12,.one (.int .i64))]),(2,[(11,.one (.int .i64))]),(4,[(12,.one (.int .i64))])] } [.val (.slice data.a data.len data.cap),.val (.int .i64 a),.val (.int .i64 b),.val (.int .i64 pivot),.any cmp] Go.Proofs.Tryz.func335 (by kernel_rfl) (by kernel_rfl) (by kernel_rfl) (by kernel_rfl) h
def z08t (data:Sl) (a b pivot:Int) (cmp:Value):Prog :=
AK 1 (
AG<|
.ex [.adr] (c1 λa0=>0<=pivot/\pivot<(Al data)/\data.a=some a0) (u1 λa1=>
BE T.a15 a1 (Int.toNat pivot*4) λn2 n3 n4 n5=>
.ex [.adr] (c1 λa6=>0<=a/\a<(Al data)/\data.a=some a6) (u1 λa7=>
BE T.a15 a7 (Int.toNat a*4) λn8 n9 n10 n11=>
.ex [.adr] (c1 λa12=>0<=a/\a<(Al data)/\data.a=some a12) (u1 λa13=>
AJ T.a15 a13 (Int.toNat a*4) (Bp n2 n3 n4 n5)<|
.ex [.adr] (c1 λa14=>0<=pivot/\pivot<(Al data)/\data.a=some a14) (u1 λa15=>
AJ T.a15 a15 (Int.toNat pivot*4) (Bp n8 n9 n10 n11)<|
AI<|
An 1 [])))))<|
Af (Aq (a+1)) λn16=>
Af (Aq (b-1)) λn17=>
Ap 1 (
AT 2 (n16,()) λn18=>
Ah 3 (
AG<|
.ex [.adr] (c1 λa19=>decide (n18<=n17)=true->0<=n18/\n18<(Al data)/\data.a=some a19) (u1 λa20=>
BT (decide (n18<=n17)=true) T.a15 a20 (Int.toNat n18*4) λn21 n22 n23 n24=>
.ex [.adr] (c1 λa25=>decide (n18<=n17)=true->0<=a/\a<(Al data)/\data.a=some a25) (u1 λa26=>
BT (decide (n18<=n17)=true) T.a15 a26 (Int.toNat a*4) λn27 n28 n29 n30=>
Ai (decide (n18<=n17)) (
BU cmp [Bp n21 n22 n23 n24,Bp n27 n28 n29 n30] λn31=>
AI<|
An 3 [.bool (decide (n31<0))])<|
AI<|
An 3 [.bool false]))) λb32=>
Ai b32 (
Af (Aq (n18+1)) λn33=>
An 2 [Ac n33])<|
An 1 [Ac n18]) λn34=>
Ap 1 (
AT 2 (n17,()) λn35=>
Ah 3 (
AG<|
.ex [.adr] (c1 λa36=>decide (n34<=n35)=true->0<=n35/\n35<(Al data)/\data.a=some a36) (u1 λa37=>
BT (decide (n34<=n35)=true) T.a15 a37 (Int.toNat n35*4) λn38 n39 n40 n41=>
.ex [.adr] (c1 λa42=>decide (n34<=n35)=true->0<=a/\a<(Al data)/\data.a=some a42) (u1 λa43=>
BT (decide (n34<=n35)=true) T.a15 a43 (Int.toNat a*4) λn44 n45 n46 n47=>
Ai (decide (n34<=n35)) (
BU cmp [Bp n38 n39 n40 n41,Bp n44 n45 n46 n47] λn48=>
AI<|
An 3 [.bool (not (decide (n48<0)))])<|
AI<|
An 3 [.bool false]))) λb49=>
Ai b49 (
Af (Aq (n35-1)) λn50=>
An 2 [Ac n50])<|
An 1 [Ac n35]) λn51=>
Ai (decide (n34>n51)) (
AK 1 (
AG<|
.ex [.adr] (c1 λa52=>0<=a/\a<(Al data)/\data.a=some a52) (u1 λa53=>
BE T.a15 a53 (Int.toNat a*4) λn54 n55 n56 n57=>
.ex [.adr] (c1 λa58=>0<=n51/\n51<(Al data)/\data.a=some a58) (u1 λa59=>
BE T.a15 a59 (Int.toNat n51*4) λn60 n61 n62 n63=>
.ex [.adr] (c1 λa64=>0<=n51/\n51<(Al data)/\data.a=some a64) (u1 λa65=>
AJ T.a15 a65 (Int.toNat n51*4) (Bp n54 n55 n56 n57)<|
.ex [.adr] (c1 λa66=>0<=a/\a<(Al data)/\data.a=some a66) (u1 λa67=>
AJ T.a15 a67 (Int.toNat a*4) (Bp n60 n61 n62 n63)<|
AI<|
An 1 [])))))<|
Af n51 λn68=>
An 0 [Ac n68,.bool true])<|
AK 1 (
AG<|
.ex [.adr] (c1 λa69=>0<=n51/\n51<(Al data)/\data.a=some a69) (u1 λa70=>
BE T.a15 a70 (Int.toNat n51*4) λn71 n72 n73 n74=>
.ex [.adr] (c1 λa75=>0<=n34/\n34<(Al data)/\data.a=some a75) (u1 λa76=>
BE T.a15 a76 (Int.toNat n34*4) λn77 n78 n79 n80=>
.ex [.adr] (c1 λa81=>0<=n34/\n34<(Al data)/\data.a=some a81) (u1 λa82=>
AJ T.a15 a82 (Int.toNat n34*4) (Bp n71 n72 n73 n74)<|
.ex [.adr] (c1 λa83=>0<=n51/\n51<(Al data)/\data.a=some a83) (u1 λa84=>
AJ T.a15 a84 (Int.toNat n51*4) (Bp n77 n78 n79 n80)<|
AI<|
An 1 [])))))<|
Af (Aq (n34+1)) λn85=>
Af (Aq (n51-1)) λn86=>
Ap 1 (
AM 2 (n85,(n86,())) λn87 n88=>
Bu 3 (
Ap 4 (
AT 5 (n87,()) λn89=>
Ah 6 (
AG<|
.ex [.adr] (c1 λa90=>decide (n89<=n88)=true->0<=n89/\n89<(Al data)/\data.a=some a90) (u1 λa91=>
BT (decide (n89<=n88)=true) T.a15 a91 (Int.toNat n89*4) λn92 n93 n94 n95=>
.ex [.adr] (c1 λa96=>decide (n89<=n88)=true->0<=a/\a<(Al data)/\data.a=some a96) (u1 λa97=>
BT (decide (n89<=n88)=true) T.a15 a97 (Int.toNat a*4) λn98 n99 n100 n101=>
Ai (decide (n89<=n88)) (
BU cmp [Bp n92 n93 n94 n95,Bp n98 n99 n100 n101] λn102=>
AI<|
An 6 [.bool (decide (n102<0))])<|
AI<|
An 6 [.bool false]))) λb103=>
Ai b103 (
Af (Aq (n89+1)) λn104=>
An 5 [Ac n104])<|
An 4 [Ac n89]) λn105=>
Ap 4 (
AT 5 (n88,()) λn106=>
Ah 6 (
AG<|
.ex [.adr] (c1 λa107=>decide (n105<=n106)=true->0<=n106/\n106<(Al data)/\data.a=some a107) (u1 λa108=>
BT (decide (n105<=n106)=true) T.a15 a108 (Int.toNat n106*4) λn109 n110 n111 n112=>
.ex [.adr] (c1 λa113=>decide (n105<=n106)=true->0<=a/\a<(Al data)/\data.a=some a113) (u1 λa114=>
BT (decide (n105<=n106)=true) T.a15 a114 (Int.toNat a*4) λn115 n116 n117 n118=>
Ai (decide (n105<=n106)) (
BU cmp [Bp n109 n110 n111 n112,Bp n115 n116 n117 n118] λn119=>
AI<|
An 6 [.bool (not (decide (n119<0)))])<|
AI<|
An 6 [.bool false]))) λb120=>
Ai b120 (
Af (Aq (n106-1)) λn121=>
An 5 [Ac n121])<|
An 4 [Ac n106]) λn122=>
Ai (decide (n105>n122)) (
An 1 [Ac n122])<|
AK 4 (
AG<|
.ex [.adr] (c1 λa123=>0<=n122/\n122<(Al data)/\data.a=some a123) (u1 λa124=>
BE T.a15 a124 (Int.toNat n122*4) λn125 n126 n127 n128=>
.ex [.adr] (c1 λa129=>0<=n105/\n105<(Al data)/\data.a=some a129) (u1 λa130=>
BE T.a15 a130 (Int.toNat n105*4) λn131 n132 n133 n134=>
.ex [.adr] (c1 λa135=>0<=n105/\n105<(Al data)/\data.a=some a135) (u1 λa136=>
AJ T.a15 a136 (Int.toNat n105*4) (Bp n125 n126 n127 n128)<|
.ex [.adr] (c1 λa137=>0<=n122/\n122<(Al data)/\data.a=some a137) (u1 λa138=>
AJ T.a15 a138 (Int.toNat n122*4) (Bp n131 n132 n133 n134)<|
AI<|
An 4 [])))))<|
Af (Aq (n105+1)) λn139=>
Af (Aq (n122-1)) λn140=>
An 3 [Ac n139,Ac n140]) λn141 n142=>
An 2 [Ac n141,Ac n142]) λn143=>
AK 1 (
AG<|
.ex [.adr] (c1 λa144=>0<=a/\a<(Al data)/\data.a=some a144) (u1 λa145=>
BE T.a15 a145 (Int.toNat a*4) λn146 n147 n148 n149=>
.ex [.adr] (c1 λa150=>0<=n143/\n143<(Al data)/\data.a=some a150) (u1 λa151=>
BE T.a15 a151 (Int.toNat n143*4) λn152 n153 n154 n155=>
.ex [.adr] (c1 λa156=>0<=n143/\n143<(Al data)/\data.a=some a156) (u1 λa157=>
AJ T.a15 a157 (Int.toNat n143*4) (Bp n146 n147 n148 n149)<|
.ex [.adr] (c1 λa158=>0<=a/\a<(Al data)/\data.a=some a158) (u1 λa159=>
AJ T.a15 a159 (Int.toNat a*4) (Bp n152 n153 n154 n155)<|
AI<|
An 1 [])))))<|
Af n143 λn160=>
An 0 [Ac n160,.bool false]
theorem zot (data:Sl) (a b pivot:Int) (cmp:Value) {w:World} {R:List Value->World->Prop} (h:(z08t data a b pivot cmp).wp P (λ_=>True) w λe vs w'=>e=0/\R vs w'):Ret P F.a198 #[.slice data.a data.len data.cap,.int .i64 a,.int .i64 b,.int .i64 pivot,cmp] w R:=dS (n:=178) (rv:=[.tmp 10,.tmp 11]) { cnd:=[],blk:=[(0,[(12,.one (.int .i64))]),(2,[(13,.one (.int .i64))]),(4,[(13,.one (.int .i64))]),(5,[(12,.one (.int .i64)),(13,.one (.int .i64))]),(6,[(12,.one (.int .i64))]),(8,[(13,.one (.int .i64))])],reg:=[(1,[]),(3,[(47,.one .bool)]),(5,[(66,.one .bool)]),(8,[]),(10,[]),(13,[(120,.one .bool)]),(15,[(139,.one .bool)]),(18,[]),(21,[])],lps:=[(0,[(12,.one (.int .i64))]),(2,[(13,.one (.int .i64))]),(4,[(12,.one (.int .i64)),(13,.one (.int .i64))]),(6,[(12,.one (.int .i64))]),(8,[(13,.one (.int .i64))])] } [.val (.slice data.a data.len data.cap),.val (.int .i64 a),.val (.int .i64 b),.val (.int .i64 pivot),.any cmp] Go.Proofs.Tryz.func336 (by kernel_rfl) (by kernel_rfl) (by kernel_rfl) (by kernel_rfl) h
def z09e (seq:Value):Prog :=
Ak F.a165 [.slice none 0 0,seq] λl0=>
An 0 [l0.v]
def z0ar (m:Option Nat):Prog :=
Av T.a20 (.map m) λa0=>
An 0 [.func (Fn.func 365) #[] #[Az a0]]
def z09f (x:Sl) (cmp:Value):Prog :=
Af (Al x) λn0=>
Aj F.a96 [.int .u64 (IntKind.wrap .u64 n0)] λn1=>
AU F.a203 [x.v,Ac 0,Ac n0,Ac n1,cmp]<|
An 0 []
def z09o (data:Sl) (a:Int) (b:Int):Prog :=
Af (Aq (a+1)) λn0=>
AK 1 (
AT 2 (n0,()) λn1=>
Ai (decide (n1<b)) (
AK 3 (
Af n1 λn2=>
AK 4 (
AT 5 (n2,()) λn3=>
Ah 6 (
AG<|
.ex [.adr] (c1 λa4=>decide (n3>a)=true->0<=n3/\n3<(Al data)/\data.a=some a4) (u1 λa5=>
Bg (decide (n3>a)=true) T.a51 a5 (Int.toNat n3*1) λs6=>
.ex [.adr] (c1 λa7=>decide (n3>a)=true->0<=Aq (n3-1)/\Aq (n3-1)<(Al data)/\data.a=some a7) (u1 λa8=>
Bg (decide (n3>a)=true) T.a51 a8 (Int.toNat (Aq (n3-1))*1) λs9=>
Ai (decide (n3>a)) (
Am F.a2 [.string s6,.string s9] λb10=>
AI<|
An 6 [.bool b10])<|
AI<|
An 6 [.bool false]))) λb11=>
Ai b11 (
AK 6 (
AG<|
.ex [.adr] (c1 λa12=>0<=Aq (n3-1)/\Aq (n3-1)<(Al data)/\data.a=some a12) (u1 λa13=>
AC T.a51 a13 (Int.toNat (Aq (n3-1))*1) λs14=>
.ex [.adr] (c1 λa15=>0<=n3/\n3<(Al data)/\data.a=some a15) (u1 λa16=>
AC T.a51 a16 (Int.toNat n3*1) λs17=>
.ex [.adr] (c1 λa18=>0<=n3/\n3<(Al data)/\data.a=some a18) (u1 λa19=>
AJ T.a51 a19 (Int.toNat n3*1) (.string s14)<|
.ex [.adr] (c1 λa20=>0<=Aq (n3-1)/\Aq (n3-1)<(Al data)/\data.a=some a20) (u1 λa21=>
AJ T.a51 a21 (Int.toNat (Aq (n3-1))*1) (.string s17)<|
AI<|
An 6 [])))))<|
Af (Aq (n3-1)) λn22=>
An 5 [Ac n22])<|
An 4 [])<|
An 3 [])<|
Af (Aq (n1+1)) λn23=>
An 2 [Ac n23])<|
An 1 [])<|
An 0 []
def z09m (data:Sl) (a:Int) (b:Int):Prog :=
Af a λn0=>
Af (Aq (b-a)) λn1=>
Af (Aq (Int.tdiv (Aq (n1-1)) 2)) λn2=>
AK 1 (
AT 2 (n2,()) λn3=>
Ai (decide (n3>=0)) (
AU F.a211 [data.v,Ac n3,Ac n1,Ac n0]<|
Af (Aq (n3-1)) λn4=>
An 2 [Ac n4])<|
An 1 [])<|
Af (Aq (n1-1)) λn5=>
AK 1 (
AT 2 (n5,()) λn6=>
Ai (decide (n6>=0)) (
AK 3 (
AG<|
.ex [.adr] (c1 λa7=>0<=Aq (n0+n6)/\Aq (n0+n6)<(Al data)/\data.a=some a7) (u1 λa8=>
AC T.a51 a8 (Int.toNat (Aq (n0+n6))*1) λs9=>
.ex [.adr] (c1 λa10=>0<=n0/\n0<(Al data)/\data.a=some a10) (u1 λa11=>
AC T.a51 a11 (Int.toNat n0*1) λs12=>
.ex [.adr] (c1 λa13=>0<=n0/\n0<(Al data)/\data.a=some a13) (u1 λa14=>
AJ T.a51 a14 (Int.toNat n0*1) (.string s9)<|
.ex [.adr] (c1 λa15=>0<=Aq (n0+n6)/\Aq (n0+n6)<(Al data)/\data.a=some a15) (u1 λa16=>
AJ T.a51 a16 (Int.toNat (Aq (n0+n6))*1) (.string s12)<|
AI<|
An 3 [])))))<|
AU F.a211 [data.v,Ac 0,Ac n6,Ac n0]<|
Af (Aq (n6-1)) λn17=>
An 2 [Ac n17])<|
An 1 [])<|
An 0 []
def z09i (data:Sl) (a:Int) (b:Int):Prog :=
Af (Aq (b-a)) λn0=>
AK 1 (
Ai (decide (n0>=8)) (
Ao T.a50 λa1=>
Ar T.a50 a1 (.int .u64 (IntKind.wrap .u64 n0))<|
Bi F.a190 [Ac n0] λn2=>
Bj n2 λn3=>
Af (Aq (Aq (a+Aq (Aq (Int.tdiv n0 4)*2))-1)) λn4=>
AK 2 (
AT 3 (n4,()) λn5=>
Ai (decide (n5<=Aq (Aq (a+Aq (Aq (Int.tdiv n0 4)*2))+1))) (
Bi F.a212 [Az a1] λn6=>
Af (Aq (IntKind.wrap .u64 (((BitVec.toNat (BitVec.ofInt 64 n6 &&& BitVec.ofInt 64 (IntKind.wrap .u64 (n3-1))):Nat):Int)))) λn7=>
Ap 4 (
Ai (decide (n7>=n0)) (
Af (Aq (n7-n0)) λn8=>
An 4 [Ac n8])<|
An 4 [Ac n7]) λn9=>
AK 4 (
AG<|
.ex [.adr] (c1 λa10=>0<=Aq (a+n9)/\Aq (a+n9)<(Al data)/\data.a=some a10) (u1 λa11=>
AC T.a51 a11 (Int.toNat (Aq (a+n9))*1) λs12=>
.ex [.adr] (c1 λa13=>0<=n5/\n5<(Al data)/\data.a=some a13) (u1 λa14=>
AC T.a51 a14 (Int.toNat n5*1) λs15=>
.ex [.adr] (c1 λa16=>0<=n5/\n5<(Al data)/\data.a=some a16) (u1 λa17=>
AJ T.a51 a17 (Int.toNat n5*1) (.string s12)<|
.ex [.adr] (c1 λa18=>0<=Aq (a+n9)/\Aq (a+n9)<(Al data)/\data.a=some a18) (u1 λa19=>
AJ T.a51 a19 (Int.toNat (Aq (a+n9))*1) (.string s15)<|
AI<|
An 4 [])))))<|
Af (Aq (n5+1)) λn20=>
An 3 [Ac n20])<|
An 2 [])<|
An 1 [])<|
An 1 [])<|
An 0 []
def z09k (data:Sl) (a:Int) (b:Int):Prog :=
Af (Aq (b-a)) λn0=>
Ao T.a13 λa1=>
Af (Aq (a+Aq (Aq (Int.tdiv n0 4)*1))) λn2=>
Af (Aq (a+Aq (Aq (Int.tdiv n0 4)*2))) λn3=>
Af (Aq (a+Aq (Aq (Int.tdiv n0 4)*3))) λn4=>
Ap 1 (
Ai (decide (n0>=8)) (
BW 2 (
Ai (decide (n0>=50)) (
Aj F.a186 [data.v,Ac n2,Az a1] λn5=>
Af n5 λn6=>
Aj F.a186 [data.v,Ac n3,Az a1] λn7=>
Af n7 λn8=>
Aj F.a186 [data.v,Ac n4,Az a1] λn9=>
Af n9 λn10=>
An 2 [Ac n6,Ac n8,Ac n10])<|
An 2 [Ac n2,Ac n3,Ac n4]) λn11 n12 n13=>
Aj F.a189 [data.v,Ac n11,Ac n12,Ac n13,Az a1] λn14=>
Af n14 λn15=>
An 1 [Ac n15])<|
An 1 [Ac n3]) λn16=>
BX T.a13 a1 λn17=>
Ba (n17 == 0) (
Af n16 λn19=>
An 0 [Ac n19,Ac 1])<|
Ba (n17 == 12) (
Af n16 λn21=>
An 0 [Ac n21,Ac 2])<|
Af n16 λn22=>
An 0 [Ac n22,Ac 0]
def z0a4 (data:Sl) (a:Int) (b:Int):Prog :=
Af a λn0=>
Af (Aq (b-1)) λn1=>
AK 1 (
AM 2 (n0,(n1,())) λn2 n3=>
Ai (decide (n2<n3)) (
AK 3 (
AG<|
.ex [.adr] (c1 λa4=>0<=n3/\n3<(Al data)/\data.a=some a4) (u1 λa5=>
AC T.a51 a5 (Int.toNat n3*1) λs6=>
.ex [.adr] (c1 λa7=>0<=n2/\n2<(Al data)/\data.a=some a7) (u1 λa8=>
AC T.a51 a8 (Int.toNat n2*1) λs9=>
.ex [.adr] (c1 λa10=>0<=n2/\n2<(Al data)/\data.a=some a10) (u1 λa11=>
AJ T.a51 a11 (Int.toNat n2*1) (.string s6)<|
.ex [.adr] (c1 λa12=>0<=n3/\n3<(Al data)/\data.a=some a12) (u1 λa13=>
AJ T.a51 a13 (Int.toNat n3*1) (.string s9)<|
AI<|
An 3 [])))))<|
Af (Aq (n2+1)) λn14=>
Af (Aq (n3-1)) λn15=>
An 2 [Ac n14,Ac n15])<|
An 1 [])<|
An 0 []
def z09w (data:Sl) (a:Int) (b:Int):Prog :=
Af (Aq (a+1)) λn0=>
AK 1 (
AM 2 (n0,(0,())) λn1 n2=>
Ai (decide (n2<5)) (
Ap 3 (
Ap 4 (
AT 5 (n1,()) λn3=>
Ah 6 (
AG<|
.ex [.adr] (c1 λa4=>decide (n3<b)=true->0<=n3/\n3<(Al data)/\data.a=some a4) (u1 λa5=>
Bg (decide (n3<b)=true) T.a51 a5 (Int.toNat n3*1) λs6=>
.ex [.adr] (c1 λa7=>decide (n3<b)=true->0<=Aq (n3-1)/\Aq (n3-1)<(Al data)/\data.a=some a7) (u1 λa8=>
Bg (decide (n3<b)=true) T.a51 a8 (Int.toNat (Aq (n3-1))*1) λs9=>
Ai (decide (n3<b)) (
Am F.a2 [.string s6,.string s9] λb10=>
AI<|
An 6 [.bool (not b10)])<|
AI<|
An 6 [.bool false]))) λb11=>
Ai b11 (
Af (Aq (n3+1)) λn12=>
An 5 [Ac n12])<|
An 4 [Ac n3]) λn13=>
Ai (n13 == b) (
An 0 [.bool true])<|
Ai (decide (Aq (b-a)<50)) (
An 0 [.bool false])<|
AK 4 (
AG<|
.ex [.adr] (c1 λa14=>0<=Aq (n13-1)/\Aq (n13-1)<(Al data)/\data.a=some a14) (u1 λa15=>
AC T.a51 a15 (Int.toNat (Aq (n13-1))*1) λs16=>
.ex [.adr] (c1 λa17=>0<=n13/\n13<(Al data)/\data.a=some a17) (u1 λa18=>
AC T.a51 a18 (Int.toNat n13*1) λs19=>
.ex [.adr] (c1 λa20=>0<=n13/\n13<(Al data)/\data.a=some a20) (u1 λa21=>
AJ T.a51 a21 (Int.toNat n13*1) (.string s16)<|
.ex [.adr] (c1 λa22=>0<=Aq (n13-1)/\Aq (n13-1)<(Al data)/\data.a=some a22) (u1 λa23=>
AJ T.a51 a23 (Int.toNat (Aq (n13-1))*1) (.string s19)<|
AI<|
An 4 [])))))<|
AK 4 (
Ai (decide (Aq (n13-a)>=2)) (
Af (Aq (n13-1)) λn24=>
AK 5 (
AT 6 (n24,()) λn25=>
Ai (decide (n25>=1)) (
AG<|
.ex [.adr] (c1 λa26=>0<=n25/\n25<(Al data)/\data.a=some a26) (u1 λa27=>
AC T.a51 a27 (Int.toNat n25*1) λs28=>
.ex [.adr] (c1 λa29=>0<=Aq (n25-1)/\Aq (n25-1)<(Al data)/\data.a=some a29) (u1 λa30=>
AC T.a51 a30 (Int.toNat (Aq (n25-1))*1) λs31=>
Am F.a2 [.string s28,.string s31] λb32=>
AI<|
Ai (not b32) (
An 5 [])<|
AK 7 (
AG<|
.ex [.adr] (c1 λa33=>0<=Aq (n25-1)/\Aq (n25-1)<(Al data)/\data.a=some a33) (u1 λa34=>
AC T.a51 a34 (Int.toNat (Aq (n25-1))*1) λs35=>
.ex [.adr] (c1 λa36=>0<=n25/\n25<(Al data)/\data.a=some a36) (u1 λa37=>
AC T.a51 a37 (Int.toNat n25*1) λs38=>
.ex [.adr] (c1 λa39=>0<=n25/\n25<(Al data)/\data.a=some a39) (u1 λa40=>
AJ T.a51 a40 (Int.toNat n25*1) (.string s35)<|
.ex [.adr] (c1 λa41=>0<=Aq (n25-1)/\Aq (n25-1)<(Al data)/\data.a=some a41) (u1 λa42=>
AJ T.a51 a42 (Int.toNat (Aq (n25-1))*1) (.string s38)<|
AI<|
An 7 [])))))<|
Af (Aq (n25-1)) λn43=>
An 6 [Ac n43])))<|
An 5 [])<|
An 4 [])<|
An 4 [])<|
AK 4 (
Ai (decide (Aq (b-n13)>=2)) (
Af (Aq (n13+1)) λn44=>
AK 5 (
AT 6 (n44,()) λn45=>
Ai (decide (n45<b)) (
AG<|
.ex [.adr] (c1 λa46=>0<=n45/\n45<(Al data)/\data.a=some a46) (u1 λa47=>
AC T.a51 a47 (Int.toNat n45*1) λs48=>
.ex [.adr] (c1 λa49=>0<=Aq (n45-1)/\Aq (n45-1)<(Al data)/\data.a=some a49) (u1 λa50=>
AC T.a51 a50 (Int.toNat (Aq (n45-1))*1) λs51=>
Am F.a2 [.string s48,.string s51] λb52=>
AI<|
Ai (not b52) (
An 5 [])<|
AK 7 (
AG<|
.ex [.adr] (c1 λa53=>0<=Aq (n45-1)/\Aq (n45-1)<(Al data)/\data.a=some a53) (u1 λa54=>
AC T.a51 a54 (Int.toNat (Aq (n45-1))*1) λs55=>
.ex [.adr] (c1 λa56=>0<=n45/\n45<(Al data)/\data.a=some a56) (u1 λa57=>
AC T.a51 a57 (Int.toNat n45*1) λs58=>
.ex [.adr] (c1 λa59=>0<=n45/\n45<(Al data)/\data.a=some a59) (u1 λa60=>
AJ T.a51 a60 (Int.toNat n45*1) (.string s55)<|
.ex [.adr] (c1 λa61=>0<=Aq (n45-1)/\Aq (n45-1)<(Al data)/\data.a=some a61) (u1 λa62=>
AJ T.a51 a62 (Int.toNat (Aq (n45-1))*1) (.string s58)<|
AI<|
An 7 [])))))<|
Af (Aq (n45+1)) λn63=>
An 6 [Ac n63])))<|
An 5 [])<|
An 4 [])<|
An 4 [])<|
An 3 [Ac n13]) λn64=>
Af (Aq (n2+1)) λn65=>
An 2 [Ac n64,Ac n65])<|
An 1 [])<|
An 0 [.bool false]
def zf2 (x:ByteArray) (y:ByteArray):Prog :=
Ah 1 (
Am F.a4 [.string x] λb0=>
Ai b0 (
Am F.a4 [.string y] λb1=>
Ag (not b1 || Op.bytesLess (ByteArray.toList x) (ByteArray.toList y)) λb2=>
An 1 [.bool b2])<|
Ag (Op.bytesLess (ByteArray.toList x) (ByteArray.toList y)) λb3=>
An 1 [.bool b3]) λb4=>
An 0 [.bool b4]
def z09z (data:Sl) (a b:Int) (pivot:Int):Prog :=
AK 1 (
AG<|
.ex [.adr] (c1 λa0=>0<=pivot/\pivot<(Al data)/\data.a=some a0) (u1 λa1=>
AC T.a51 a1 (Int.toNat pivot*1) λs2=>
.ex [.adr] (c1 λa3=>0<=a/\a<(Al data)/\data.a=some a3) (u1 λa4=>
AC T.a51 a4 (Int.toNat a*1) λs5=>
.ex [.adr] (c1 λa6=>0<=a/\a<(Al data)/\data.a=some a6) (u1 λa7=>
AJ T.a51 a7 (Int.toNat a*1) (.string s2)<|
.ex [.adr] (c1 λa8=>0<=pivot/\pivot<(Al data)/\data.a=some a8) (u1 λa9=>
AJ T.a51 a9 (Int.toNat pivot*1) (.string s5)<|
AI<|
An 1 [])))))<|
Af (Aq (a+1)) λn10=>
Af (Aq (b-1)) λn11=>
Ap 1 (
AM 2 (n10,(n11,())) λn12 n13=>
Bu 3 (
Ap 4 (
AT 5 (n12,()) λn14=>
Ah 6 (
AG<|
.ex [.adr] (c1 λa15=>decide (n14<=n13)=true->0<=a/\a<(Al data)/\data.a=some a15) (u1 λa16=>
Bg (decide (n14<=n13)=true) T.a51 a16 (Int.toNat a*1) λs17=>
.ex [.adr] (c1 λa18=>decide (n14<=n13)=true->0<=n14/\n14<(Al data)/\data.a=some a18) (u1 λa19=>
Bg (decide (n14<=n13)=true) T.a51 a19 (Int.toNat n14*1) λs20=>
Ai (decide (n14<=n13)) (
Am F.a2 [.string s17,.string s20] λb21=>
AI<|
An 6 [.bool (not b21)])<|
AI<|
An 6 [.bool false]))) λb22=>
Ai b22 (
Af (Aq (n14+1)) λn23=>
An 5 [Ac n23])<|
An 4 [Ac n14]) λn24=>
Ap 4 (
AT 5 (n13,()) λn25=>
Ah 6 (
AG<|
.ex [.adr] (c1 λa26=>decide (n24<=n25)=true->0<=a/\a<(Al data)/\data.a=some a26) (u1 λa27=>
Bg (decide (n24<=n25)=true) T.a51 a27 (Int.toNat a*1) λs28=>
.ex [.adr] (c1 λa29=>decide (n24<=n25)=true->0<=n25/\n25<(Al data)/\data.a=some a29) (u1 λa30=>
Bg (decide (n24<=n25)=true) T.a51 a30 (Int.toNat n25*1) λs31=>
Ai (decide (n24<=n25)) (
Am F.a2 [.string s28,.string s31] λb32=>
AI<|
An 6 [.bool b32])<|
AI<|
An 6 [.bool false]))) λb33=>
Ai b33 (
Af (Aq (n25-1)) λn34=>
An 5 [Ac n34])<|
An 4 [Ac n25]) λn35=>
Ai (decide (n24>n35)) (
An 1 [Ac n24])<|
AK 4 (
AG<|
.ex [.adr] (c1 λa36=>0<=n35/\n35<(Al data)/\data.a=some a36) (u1 λa37=>
AC T.a51 a37 (Int.toNat n35*1) λs38=>
.ex [.adr] (c1 λa39=>0<=n24/\n24<(Al data)/\data.a=some a39) (u1 λa40=>
AC T.a51 a40 (Int.toNat n24*1) λs41=>
.ex [.adr] (c1 λa42=>0<=n24/\n24<(Al data)/\data.a=some a42) (u1 λa43=>
AJ T.a51 a43 (Int.toNat n24*1) (.string s38)<|
.ex [.adr] (c1 λa44=>0<=n35/\n35<(Al data)/\data.a=some a44) (u1 λa45=>
AJ T.a51 a45 (Int.toNat n35*1) (.string s41)<|
AI<|
An 4 [])))))<|
Af (Aq (n24+1)) λn46=>
Af (Aq (n35-1)) λn47=>
An 3 [Ac n46,Ac n47]) λn48 n49=>
An 2 [Ac n48,Ac n49]) λn50=>
Af n50 λn51=>
An 0 [Ac n51]
def z0a0 (data:Sl) (a b:Int) (pivot:Int):Prog :=
AK 1 (
AG<|
.ex [.adr] (c1 λa0=>0<=pivot/\pivot<(Al data)/\data.a=some a0) (u1 λa1=>
AC T.a51 a1 (Int.toNat pivot*1) λs2=>
.ex [.adr] (c1 λa3=>0<=a/\a<(Al data)/\data.a=some a3) (u1 λa4=>
AC T.a51 a4 (Int.toNat a*1) λs5=>
.ex [.adr] (c1 λa6=>0<=a/\a<(Al data)/\data.a=some a6) (u1 λa7=>
AJ T.a51 a7 (Int.toNat a*1) (.string s2)<|
.ex [.adr] (c1 λa8=>0<=pivot/\pivot<(Al data)/\data.a=some a8) (u1 λa9=>
AJ T.a51 a9 (Int.toNat pivot*1) (.string s5)<|
AI<|
An 1 [])))))<|
Af (Aq (a+1)) λn10=>
Af (Aq (b-1)) λn11=>
Ap 1 (
AT 2 (n10,()) λn12=>
Ah 3 (
AG<|
.ex [.adr] (c1 λa13=>decide (n12<=n11)=true->0<=n12/\n12<(Al data)/\data.a=some a13) (u1 λa14=>
Bg (decide (n12<=n11)=true) T.a51 a14 (Int.toNat n12*1) λs15=>
.ex [.adr] (c1 λa16=>decide (n12<=n11)=true->0<=a/\a<(Al data)/\data.a=some a16) (u1 λa17=>
Bg (decide (n12<=n11)=true) T.a51 a17 (Int.toNat a*1) λs18=>
Ai (decide (n12<=n11)) (
Am F.a2 [.string s15,.string s18] λb19=>
AI<|
An 3 [.bool b19])<|
AI<|
An 3 [.bool false]))) λb20=>
Ai b20 (
Af (Aq (n12+1)) λn21=>
An 2 [Ac n21])<|
An 1 [Ac n12]) λn22=>
Ap 1 (
AT 2 (n11,()) λn23=>
Ah 3 (
AG<|
.ex [.adr] (c1 λa24=>decide (n22<=n23)=true->0<=n23/\n23<(Al data)/\data.a=some a24) (u1 λa25=>
Bg (decide (n22<=n23)=true) T.a51 a25 (Int.toNat n23*1) λs26=>
.ex [.adr] (c1 λa27=>decide (n22<=n23)=true->0<=a/\a<(Al data)/\data.a=some a27) (u1 λa28=>
Bg (decide (n22<=n23)=true) T.a51 a28 (Int.toNat a*1) λs29=>
Ai (decide (n22<=n23)) (
Am F.a2 [.string s26,.string s29] λb30=>
AI<|
An 3 [.bool (not b30)])<|
AI<|
An 3 [.bool false]))) λb31=>
Ai b31 (
Af (Aq (n23-1)) λn32=>
An 2 [Ac n32])<|
An 1 [Ac n23]) λn33=>
Ai (decide (n22>n33)) (
AK 1 (
AG<|
.ex [.adr] (c1 λa34=>0<=a/\a<(Al data)/\data.a=some a34) (u1 λa35=>
AC T.a51 a35 (Int.toNat a*1) λs36=>
.ex [.adr] (c1 λa37=>0<=n33/\n33<(Al data)/\data.a=some a37) (u1 λa38=>
AC T.a51 a38 (Int.toNat n33*1) λs39=>
.ex [.adr] (c1 λa40=>0<=n33/\n33<(Al data)/\data.a=some a40) (u1 λa41=>
AJ T.a51 a41 (Int.toNat n33*1) (.string s36)<|
.ex [.adr] (c1 λa42=>0<=a/\a<(Al data)/\data.a=some a42) (u1 λa43=>
AJ T.a51 a43 (Int.toNat a*1) (.string s39)<|
AI<|
An 1 [])))))<|
Af n33 λn44=>
An 0 [Ac n44,.bool true])<|
AK 1 (
AG<|
.ex [.adr] (c1 λa45=>0<=n33/\n33<(Al data)/\data.a=some a45) (u1 λa46=>
AC T.a51 a46 (Int.toNat n33*1) λs47=>
.ex [.adr] (c1 λa48=>0<=n22/\n22<(Al data)/\data.a=some a48) (u1 λa49=>
AC T.a51 a49 (Int.toNat n22*1) λs50=>
.ex [.adr] (c1 λa51=>0<=n22/\n22<(Al data)/\data.a=some a51) (u1 λa52=>
AJ T.a51 a52 (Int.toNat n22*1) (.string s47)<|
.ex [.adr] (c1 λa53=>0<=n33/\n33<(Al data)/\data.a=some a53) (u1 λa54=>
AJ T.a51 a54 (Int.toNat n33*1) (.string s50)<|
AI<|
An 1 [])))))<|
Af (Aq (n22+1)) λn55=>
Af (Aq (n33-1)) λn56=>
Ap 1 (
AM 2 (n55,(n56,())) λn57 n58=>
Bu 3 (
Ap 4 (
AT 5 (n57,()) λn59=>
Ah 6 (
AG<|
.ex [.adr] (c1 λa60=>decide (n59<=n58)=true->0<=n59/\n59<(Al data)/\data.a=some a60) (u1 λa61=>
Bg (decide (n59<=n58)=true) T.a51 a61 (Int.toNat n59*1) λs62=>
.ex [.adr] (c1 λa63=>decide (n59<=n58)=true->0<=a/\a<(Al data)/\data.a=some a63) (u1 λa64=>
Bg (decide (n59<=n58)=true) T.a51 a64 (Int.toNat a*1) λs65=>
Ai (decide (n59<=n58)) (
Am F.a2 [.string s62,.string s65] λb66=>
AI<|
An 6 [.bool b66])<|
AI<|
An 6 [.bool false]))) λb67=>
Ai b67 (
Af (Aq (n59+1)) λn68=>
An 5 [Ac n68])<|
An 4 [Ac n59]) λn69=>
Ap 4 (
AT 5 (n58,()) λn70=>
Ah 6 (
AG<|
.ex [.adr] (c1 λa71=>decide (n69<=n70)=true->0<=n70/\n70<(Al data)/\data.a=some a71) (u1 λa72=>
Bg (decide (n69<=n70)=true) T.a51 a72 (Int.toNat n70*1) λs73=>
.ex [.adr] (c1 λa74=>decide (n69<=n70)=true->0<=a/\a<(Al data)/\data.a=some a74) (u1 λa75=>
Bg (decide (n69<=n70)=true) T.a51 a75 (Int.toNat a*1) λs76=>
Ai (decide (n69<=n70)) (
Am F.a2 [.string s73,.string s76] λb77=>
AI<|
An 6 [.bool (not b77)])<|
AI<|
An 6 [.bool false]))) λb78=>
Ai b78 (
Af (Aq (n70-1)) λn79=>
An 5 [Ac n79])<|
An 4 [Ac n70]) λn80=>
Ai (decide (n69>n80)) (
An 1 [Ac n80])<|
AK 4 (
AG<|
.ex [.adr] (c1 λa81=>0<=n80/\n80<(Al data)/\data.a=some a81) (u1 λa82=>
AC T.a51 a82 (Int.toNat n80*1) λs83=>
.ex [.adr] (c1 λa84=>0<=n69/\n69<(Al data)/\data.a=some a84) (u1 λa85=>
AC T.a51 a85 (Int.toNat n69*1) λs86=>
.ex [.adr] (c1 λa87=>0<=n69/\n69<(Al data)/\data.a=some a87) (u1 λa88=>
AJ T.a51 a88 (Int.toNat n69*1) (.string s83)<|
.ex [.adr] (c1 λa89=>0<=n80/\n80<(Al data)/\data.a=some a89) (u1 λa90=>
AJ T.a51 a90 (Int.toNat n80*1) (.string s86)<|
AI<|
An 4 [])))))<|
Af (Aq (n69+1)) λn91=>
Af (Aq (n80-1)) λn92=>
An 3 [Ac n91,Ac n92]) λn93 n94=>
An 2 [Ac n93,Ac n94]) λn95=>
AK 1 (
AG<|
.ex [.adr] (c1 λa96=>0<=a/\a<(Al data)/\data.a=some a96) (u1 λa97=>
AC T.a51 a97 (Int.toNat a*1) λs98=>
.ex [.adr] (c1 λa99=>0<=n95/\n95<(Al data)/\data.a=some a99) (u1 λa100=>
AC T.a51 a100 (Int.toNat n95*1) λs101=>
.ex [.adr] (c1 λa102=>0<=n95/\n95<(Al data)/\data.a=some a102) (u1 λa103=>
AJ T.a51 a103 (Int.toNat n95*1) (.string s98)<|
.ex [.adr] (c1 λa104=>0<=a/\a<(Al data)/\data.a=some a104) (u1 λa105=>
AJ T.a51 a105 (Int.toNat a*1) (.string s101)<|
AI<|
An 1 [])))))<|
Af n95 λn106=>
An 0 [Ac n106,.bool false]
def z08x (data:Sl) (lo hi first:Int) (cmp:Value):Prog :=
Af lo λn0=>
AK 1 (
AT 2 (n0,()) λn1=>
Af (Aq (Aq (2*n1)+1)) λn2=>
Ai (decide (n2>=hi)) (
An 1 [])<|
Ah 3 (
AG<|
.ex [.adr] (c1 λa3=>decide (Aq (n2+1)<hi)=true->0<=Aq (first+n2)/\Aq (first+n2)<(Al data)/\data.a=some a3) (u1 λa4=>
BT (decide (Aq (n2+1)<hi)=true) T.a15 a4 (Int.toNat (Aq (first+n2))*4) λn5 n6 n7 n8=>
.ex [.adr] (c1 λa9=>decide (Aq (n2+1)<hi)=true->0<=Aq (Aq (first+n2)+1)/\Aq (Aq (first+n2)+1)<(Al data)/\data.a=some a9) (u1 λa10=>
BT (decide (Aq (n2+1)<hi)=true) T.a15 a10 (Int.toNat (Aq (Aq (first+n2)+1))*4) λn11 n12 n13 n14=>
Ai (decide (Aq (n2+1)<hi)) (
BU cmp [Bp n5 n6 n7 n8,Bp n11 n12 n13 n14] λn15=>
AI<|
An 3 [.bool (decide (n15<0))])<|
AI<|
An 3 [.bool false]))) λb16=>
Ap 3 (
Ai b16 (
Af (Aq (n2+1)) λn17=>
An 3 [Ac n17])<|
An 3 [Ac n2]) λn18=>
AG<|
.ex [.adr] (c1 λa19=>0<=Aq (first+n1)/\Aq (first+n1)<(Al data)/\data.a=some a19) (u1 λa20=>
BE T.a15 a20 (Int.toNat (Aq (first+n1))*4) λn21 n22 n23 n24=>
.ex [.adr] (c1 λa25=>0<=Aq (first+n18)/\Aq (first+n18)<(Al data)/\data.a=some a25) (u1 λa26=>
BE T.a15 a26 (Int.toNat (Aq (first+n18))*4) λn27 n28 n29 n30=>
BU cmp [Bp n21 n22 n23 n24,Bp n27 n28 n29 n30] λn31=>
AI<|
Ai (not (decide (n31<0))) (
An 0 [])<|
AK 3 (
AG<|
.ex [.adr] (c1 λa32=>0<=Aq (first+n18)/\Aq (first+n18)<(Al data)/\data.a=some a32) (u1 λa33=>
BE T.a15 a33 (Int.toNat (Aq (first+n18))*4) λn34 n35 n36 n37=>
.ex [.adr] (c1 λa38=>0<=Aq (first+n1)/\Aq (first+n1)<(Al data)/\data.a=some a38) (u1 λa39=>
BE T.a15 a39 (Int.toNat (Aq (first+n1))*4) λn40 n41 n42 n43=>
.ex [.adr] (c1 λa44=>0<=Aq (first+n1)/\Aq (first+n1)<(Al data)/\data.a=some a44) (u1 λa45=>
AJ T.a15 a45 (Int.toNat (Aq (first+n1))*4) (Bp n34 n35 n36 n37)<|
.ex [.adr] (c1 λa46=>0<=Aq (first+n18)/\Aq (first+n18)<(Al data)/\data.a=some a46) (u1 λa47=>
AJ T.a15 a47 (Int.toNat (Aq (first+n18))*4) (Bp n40 n41 n42 n43)<|
AI<|
An 3 [])))))<|
Af n18 λn48=>
An 2 [Ac n48])))<|
An 0 []
theorem zox (data:Sl) (lo hi first:Int) (cmp:Value) {w:World} {R:List Value->World->Prop} (h:(z08x data lo hi first cmp).wp P (λ_=>True) w λe vs w'=>e=0/\R vs w'):Ret P F.a210 #[.slice data.a data.len data.cap,.int .i64 lo,.int .i64 hi,.int .i64 first,cmp] w R:=dS (n:=82) (rv:=[]) { cnd:=[(27021597772611624,[(11,.one (.int .i64))])],blk:=[(0,[])],reg:=[(3,[(40,.one .bool)]),(6,[])],lps:=[(0,[(10,.one (.int .i64))])] } [.val (.slice data.a data.len data.cap),.val (.int .i64 lo),.val (.int .i64 hi),.val (.int .i64 first),.any cmp] Go.Proofs.Tryz.func361 (by kernel_rfl) (by kernel_rfl) (by kernel_rfl) (by kernel_rfl) h
def z08p (data:Sl) (a:Int) (swaps:Option Addr) (cmp:Value):Prog :=
Aj F.a188 [data.v,Ac (Aq (a-1)),Ac a,Ac (Aq (a+1)),Ad swaps,cmp] λn0=>
Af n0 λn1=>
An 0 [Ac n1]
theorem zoo (data:Sl) (a:Int) (swaps:Option Addr) (cmp:Value) {w:World} {R:List Value->World->Prop} (h:(z08p data a swaps cmp).wp P (λ_=>True) w λe vs w'=>e=0/\R vs w'):Ret P F.a185 #[.slice data.a data.len data.cap,.int .i64 a,.pointer swaps,cmp] w R:=dS (n:=18) (rv:=[.tmp 8]) { cnd:=[],blk:=[],reg:=[],lps:=[] } [.val (.slice data.a data.len data.cap),.val (.int .i64 a),.val (.pointer swaps),.any cmp] Go.Proofs.Tryz.func362 (by kernel_rfl) (by kernel_rfl) (by kernel_rfl) (by kernel_rfl) h
def z08q (data:Sl) (a b c:Int) (swaps:Option Addr) (cmp:Value):Prog :=
Ae F.a192 [data.v,Ac a,Ac b,Ad swaps,cmp] λn0 n1=>
Af n0 λn2=>
Af n1 λn3=>
Ae F.a192 [data.v,Ac n3,Ac c,Ad swaps,cmp] λn4 n5=>
Af n4 λn6=>
Af n5 λn7=>
Ae F.a192 [data.v,Ac n2,Ac n6,Ad swaps,cmp] λn8 n9=>
Af n8 λn10=>
Af n9 λn11=>
Af n11 λn12=>
An 0 [Ac n12]
theorem zop (data:Sl) (a b c:Int) (swaps:Option Addr) (cmp:Value) {w:World} {R:List Value->World->Prop} (h:(z08q data a b c swaps cmp).wp P (λ_=>True) w λe vs w'=>e=0/\R vs w'):Ret P F.a188 #[.slice data.a data.len data.cap,.int .i64 a,.int .i64 b,.int .i64 c,.pointer swaps,cmp] w R:=dS (n:=41) (rv:=[.tmp 12]) { cnd:=[],blk:=[],reg:=[],lps:=[] } [.val (.slice data.a data.len data.cap),.val (.int .i64 a),.val (.int .i64 b),.val (.int .i64 c),.val (.pointer swaps),.any cmp] Go.Proofs.Tryz.func363 (by kernel_rfl) (by kernel_rfl) (by kernel_rfl) (by kernel_rfl) h
def z0a1 (data:Sl) (a b limit:Int) (cmp:Value):Prog :=
BR 1 (a,(b,(limit,(true,(true,()))))) λn0 n1 n2 b3 b4=>
BS 2 (
Af (Aq (n1-n0)) λn5=>
Ai (decide (n5<=12)) (
AU F.a181 [data.v,Ac n0,Ac n1,cmp]<|
An 0 [])<|
Ai (n2 == 0) (
AU F.a178 [data.v,Ac n0,Ac n1,cmp]<|
An 0 [])<|
Ap 3 (
Ai (not b3) (
AU F.a172 [data.v,Ac n0,Ac n1,cmp]<|
Af (Aq (n2-1)) λn6=>
An 3 [Ac n6])<|
An 3 [Ac n2]) λn7=>
Ae F.a175 [data.v,Ac n0,Ac n1,cmp] λn8 n9=>
Af n8 λn10=>
Af n9 λn11=>
Bu 3 (
Ai (n11 == 2) (
AU F.a206 [data.v,Ac n0,Ac n1,cmp]<|
Af (Aq (Aq (n1-1)-Aq (n10-n0))) λn12=>
An 3 [Ac n12,Ac 1])<|
An 3 [Ac n10,Ac n11]) λn13 n14=>
AK 3 (
Ai (b3 && b4 && n14 == 1) (
Am F.a194 [data.v,Ac n0,Ac n1,cmp] λb15=>
Ai b15 (
An 0 [])<|
An 3 [])<|
An 3 [])<|
Ah 3 (
AG<|
.ex [.adr] (c1 λa16=>decide (n0>0)=true->0<=Aq (n0-1)/\Aq (n0-1)<(Al data)/\data.a=some a16) (u1 λa17=>
BY (decide (n0>0)=true) T.a5 a17 (Int.toNat (Aq (n0-1))*7) λn18 n19 n20 n21 n22 n23 n24=>
.ex [.adr] (c1 λa25=>decide (n0>0)=true->0<=n13/\n13<(Al data)/\data.a=some a25) (u1 λa26=>
BY (decide (n0>0)=true) T.a5 a26 (Int.toNat n13*7) λn27 n28 n29 n30 n31 n32 n33=>
Ai (decide (n0>0)) (
BU cmp [B2 n18 n19 n20 n21 n22 n23 n24,B2 n27 n28 n29 n30 n31 n32 n33] λn34=>
AI<|
An 3 [.bool (not (decide (n34<0)))])<|
AI<|
An 3 [.bool false]))) λb35=>
Ai b35 (
Aj F.a199 [data.v,Ac n0,Ac n1,Ac n13,cmp] λn36=>
Af n36 λn37=>
Af n37 λn38=>
An 2 [Ac n38,Ac n1,Ac n7,.bool b3,.bool b4])<|
Bd F.a197 [data.v,Ac n0,Ac n1,Ac n13,cmp] λn39 b40=>
Af n39 λn41=>
Ag b40 λb42=>
Ag b42 λb43=>
Af (Aq (n41-n0)) λn44=>
Af (Aq (n1-n41)) λn45=>
Af (Aq (Int.tdiv n5 8)) λn46=>
BV 3 (
Ai (decide (n44<n45)) (
Ag (decide (n44>=n46)) λb47=>
AU F.a203 [data.v,Ac n0,Ac n41,Ac n7,cmp]<|
Af (Aq (n41+1)) λn48=>
An 3 [Ac n48,Ac n1,.bool b47])<|
Ag (decide (n45>=n46)) λb49=>
AU F.a203 [data.v,Ac (Aq (n41+1)),Ac n1,Ac n7,cmp]<|
Af n41 λn50=>
An 3 [Ac n0,Ac n50,.bool b49]) λn51 n52 b53=>
An 2 [Ac n51,Ac n52,Ac n7,.bool b53,.bool b43]) λn54 n55 n56 b57 b58=>
An 1 [Ac n54,Ac n55,Ac n56,.bool b57,.bool b58]
def z0a6 (data:Sl) (lo hi:Int) (first:Int):Prog :=
Af lo λn0=>
AK 1 (
AT 2 (n0,()) λn1=>
Af (Aq (Aq (2*n1)+1)) λn2=>
Ai (decide (n2>=hi)) (
An 1 [])<|
Ah 3 (
AG<|
.ex [.adr] (c1 λa3=>decide (Aq (n2+1)<hi)=true->0<=Aq (first+n2)/\Aq (first+n2)<(Al data)/\data.a=some a3) (u1 λa4=>
Bg (decide (Aq (n2+1)<hi)=true) T.a51 a4 (Int.toNat (Aq (first+n2))*1) λs5=>
.ex [.adr] (c1 λa6=>decide (Aq (n2+1)<hi)=true->0<=Aq (Aq (first+n2)+1)/\Aq (Aq (first+n2)+1)<(Al data)/\data.a=some a6) (u1 λa7=>
Bg (decide (Aq (n2+1)<hi)=true) T.a51 a7 (Int.toNat (Aq (Aq (first+n2)+1))*1) λs8=>
Ai (decide (Aq (n2+1)<hi)) (
Am F.a2 [.string s5,.string s8] λb9=>
AI<|
An 3 [.bool b9])<|
AI<|
An 3 [.bool false]))) λb10=>
Ap 3 (
Ai b10 (
Af (Aq (n2+1)) λn11=>
An 3 [Ac n11])<|
An 3 [Ac n2]) λn12=>
AG<|
.ex [.adr] (c1 λa13=>0<=Aq (first+n1)/\Aq (first+n1)<(Al data)/\data.a=some a13) (u1 λa14=>
AC T.a51 a14 (Int.toNat (Aq (first+n1))*1) λs15=>
.ex [.adr] (c1 λa16=>0<=Aq (first+n12)/\Aq (first+n12)<(Al data)/\data.a=some a16) (u1 λa17=>
AC T.a51 a17 (Int.toNat (Aq (first+n12))*1) λs18=>
Am F.a2 [.string s15,.string s18] λb19=>
AI<|
Ai (not b19) (
An 0 [])<|
AK 3 (
AG<|
.ex [.adr] (c1 λa20=>0<=Aq (first+n12)/\Aq (first+n12)<(Al data)/\data.a=some a20) (u1 λa21=>
AC T.a51 a21 (Int.toNat (Aq (first+n12))*1) λs22=>
.ex [.adr] (c1 λa23=>0<=Aq (first+n1)/\Aq (first+n1)<(Al data)/\data.a=some a23) (u1 λa24=>
AC T.a51 a24 (Int.toNat (Aq (first+n1))*1) λs25=>
.ex [.adr] (c1 λa26=>0<=Aq (first+n1)/\Aq (first+n1)<(Al data)/\data.a=some a26) (u1 λa27=>
AJ T.a51 a27 (Int.toNat (Aq (first+n1))*1) (.string s22)<|
.ex [.adr] (c1 λa28=>0<=Aq (first+n12)/\Aq (first+n12)<(Al data)/\data.a=some a28) (u1 λa29=>
AJ T.a51 a29 (Int.toNat (Aq (first+n12))*1) (.string s25)<|
AI<|
An 3 [])))))<|
Af n12 λn30=>
An 2 [Ac n30])))<|
An 0 []
def z09q (data:Sl) (a:Int) (swaps:Option Addr):Prog :=
Aj F.a189 [data.v,Ac (Aq (a-1)),Ac a,Ac (Aq (a+1)),Ad swaps] λn0=>
Af n0 λn1=>
An 0 [Ac n1]
def z09s (data:Sl) (a b c:Int) (swaps:Option Addr):Prog :=
Ae F.a193 [data.v,Ac a,Ac b,Ad swaps] λn0 n1=>
Af n0 λn2=>
Af n1 λn3=>
Ae F.a193 [data.v,Ac n3,Ac c,Ad swaps] λn4 n5=>
Af n4 λn6=>
Af n5 λn7=>
Ae F.a193 [data.v,Ac n2,Ac n6,Ad swaps] λn8 n9=>
Af n8 λn10=>
Af n9 λn11=>
Af n11 λn12=>
An 0 [Ac n12]
def zf4 (x:ByteArray):Prog :=
Ag (not (ByteArray.toList x == ByteArray.toList x)) λb0=>
An 0 [.bool b0]
def z08r (data:Sl) (a b:Int) (swaps:Option Addr) (cmp:Value):Prog :=
AG<|
.ex [.adr] (c1 λa0=>0<=b/\b<(Al data)/\data.a=some a0) (u1 λa1=>
BE T.a15 a1 (Int.toNat b*4) λn2 n3 n4 n5=>
.ex [.adr] (c1 λa6=>0<=a/\a<(Al data)/\data.a=some a6) (u1 λa7=>
BE T.a15 a7 (Int.toNat a*4) λn8 n9 n10 n11=>
BU cmp [Bp n2 n3 n4 n5,Bp n8 n9 n10 n11] λn12=>
AI<|
Ai (decide (n12<0)) (
AA swaps λa14=>
BX T.a13 a14 λn15=>
AA swaps λa17=>
Ar T.a13 a17 (Ac (Aq (n15+1)))<|
Af b λn18=>
Af a λn19=>
An 0 [Ac n18,Ac n19])<|
Af a λn20=>
Af b λn21=>
An 0 [Ac n20,Ac n21]))
theorem zor (data:Sl) (a b:Int) (swaps:Option Addr) (cmp:Value) {w:World} {R:List Value->World->Prop} (h:(z08r data a b swaps cmp).wp P (λ_=>True) w λe vs w'=>e=0/\R vs w'):Ret P F.a192 #[.slice data.a data.len data.cap,.int .i64 a,.int .i64 b,.pointer swaps,cmp] w R:=dS (n:=32) (rv:=[.tmp 10,.tmp 11]) { cnd:=[],blk:=[],reg:=[],lps:=[] } [.val (.slice data.a data.len data.cap),.val (.int .i64 a),.val (.int .i64 b),.val (.pointer swaps),.any cmp] Go.Proofs.Tryz.func374 (by kernel_rfl) (by kernel_rfl) (by kernel_rfl) (by kernel_rfl) h
def z09n (data:Sl) (a b:Int) (cmp:Value):Prog :=
Af (Aq (a+1)) λn0=>
AK 1 (
AT 2 (n0,()) λn1=>
Ai (decide (n1<b)) (
AK 3 (
Af n1 λn2=>
AK 4 (
AT 5 (n2,()) λn3=>
Ah 6 (
AG<|
.ex [.adr] (c1 λa4=>decide (n3>a)=true->0<=n3/\n3<(Al data)/\data.a=some a4) (u1 λa5=>
BY (decide (n3>a)=true) T.a5 a5 (Int.toNat n3*7) λn6 n7 n8 n9 n10 n11 n12=>
.ex [.adr] (c1 λa13=>decide (n3>a)=true->0<=Aq (n3-1)/\Aq (n3-1)<(Al data)/\data.a=some a13) (u1 λa14=>
BY (decide (n3>a)=true) T.a5 a14 (Int.toNat (Aq (n3-1))*7) λn15 n16 n17 n18 n19 n20 n21=>
Ai (decide (n3>a)) (
BU cmp [B2 n6 n7 n8 n9 n10 n11 n12,B2 n15 n16 n17 n18 n19 n20 n21] λn22=>
AI<|
An 6 [.bool (decide (n22<0))])<|
AI<|
An 6 [.bool false]))) λb23=>
Ai b23 (
AK 6 (
AG<|
.ex [.adr] (c1 λa24=>0<=Aq (n3-1)/\Aq (n3-1)<(Al data)/\data.a=some a24) (u1 λa25=>
BD T.a5 a25 (Int.toNat (Aq (n3-1))*7) λn26 n27 n28 n29 n30 n31 n32=>
.ex [.adr] (c1 λa33=>0<=n3/\n3<(Al data)/\data.a=some a33) (u1 λa34=>
BD T.a5 a34 (Int.toNat n3*7) λn35 n36 n37 n38 n39 n40 n41=>
.ex [.adr] (c1 λa42=>0<=n3/\n3<(Al data)/\data.a=some a42) (u1 λa43=>
AJ T.a5 a43 (Int.toNat n3*7) (B2 n26 n27 n28 n29 n30 n31 n32)<|
.ex [.adr] (c1 λa44=>0<=Aq (n3-1)/\Aq (n3-1)<(Al data)/\data.a=some a44) (u1 λa45=>
AJ T.a5 a45 (Int.toNat (Aq (n3-1))*7) (B2 n35 n36 n37 n38 n39 n40 n41)<|
AI<|
An 6 [])))))<|
Af (Aq (n3-1)) λn46=>
An 5 [Ac n46])<|
An 4 [])<|
An 3 [])<|
Af (Aq (n1+1)) λn47=>
An 2 [Ac n47])<|
An 1 [])<|
An 0 []
def z09l (data:Sl) (a b:Int) (cmp:Value):Prog :=
Af a λn0=>
Af (Aq (b-a)) λn1=>
Af (Aq (Int.tdiv (Aq (n1-1)) 2)) λn2=>
AK 1 (
AT 2 (n2,()) λn3=>
Ai (decide (n3>=0)) (
AU F.a209 [data.v,Ac n3,Ac n1,Ac n0,cmp]<|
Af (Aq (n3-1)) λn4=>
An 2 [Ac n4])<|
An 1 [])<|
Af (Aq (n1-1)) λn5=>
AK 1 (
AT 2 (n5,()) λn6=>
Ai (decide (n6>=0)) (
AK 3 (
AG<|
.ex [.adr] (c1 λa7=>0<=Aq (n0+n6)/\Aq (n0+n6)<(Al data)/\data.a=some a7) (u1 λa8=>
BD T.a5 a8 (Int.toNat (Aq (n0+n6))*7) λn9 n10 n11 n12 n13 n14 n15=>
.ex [.adr] (c1 λa16=>0<=n0/\n0<(Al data)/\data.a=some a16) (u1 λa17=>
BD T.a5 a17 (Int.toNat n0*7) λn18 n19 n20 n21 n22 n23 n24=>
.ex [.adr] (c1 λa25=>0<=n0/\n0<(Al data)/\data.a=some a25) (u1 λa26=>
AJ T.a5 a26 (Int.toNat n0*7) (B2 n9 n10 n11 n12 n13 n14 n15)<|
.ex [.adr] (c1 λa27=>0<=Aq (n0+n6)/\Aq (n0+n6)<(Al data)/\data.a=some a27) (u1 λa28=>
AJ T.a5 a28 (Int.toNat (Aq (n0+n6))*7) (B2 n18 n19 n20 n21 n22 n23 n24)<|
AI<|
An 3 [])))))<|
AU F.a209 [data.v,Ac 0,Ac n6,Ac n0,cmp]<|
Af (Aq (n6-1)) λn29=>
An 2 [Ac n29])<|
An 1 [])<|
An 0 []
def z09h (data:Sl) (a b:Int) (cmp:Value):Prog :=
Af (Aq (b-a)) λn0=>
AK 1 (
Ai (decide (n0>=8)) (
Ao T.a50 λa1=>
Ar T.a50 a1 (.int .u64 (IntKind.wrap .u64 n0))<|
Bi F.a190 [Ac n0] λn2=>
Bj n2 λn3=>
Af (Aq (Aq (a+Aq (Aq (Int.tdiv n0 4)*2))-1)) λn4=>
AK 2 (
AT 3 (n4,()) λn5=>
Ai (decide (n5<=Aq (Aq (a+Aq (Aq (Int.tdiv n0 4)*2))+1))) (
Bi F.a212 [Az a1] λn6=>
Af (Aq (IntKind.wrap .u64 (((BitVec.toNat (BitVec.ofInt 64 n6 &&& BitVec.ofInt 64 (IntKind.wrap .u64 (n3-1))):Nat):Int)))) λn7=>
Ap 4 (
Ai (decide (n7>=n0)) (
Af (Aq (n7-n0)) λn8=>
An 4 [Ac n8])<|
An 4 [Ac n7]) λn9=>
AK 4 (
AG<|
.ex [.adr] (c1 λa10=>0<=Aq (a+n9)/\Aq (a+n9)<(Al data)/\data.a=some a10) (u1 λa11=>
BD T.a5 a11 (Int.toNat (Aq (a+n9))*7) λn12 n13 n14 n15 n16 n17 n18=>
.ex [.adr] (c1 λa19=>0<=n5/\n5<(Al data)/\data.a=some a19) (u1 λa20=>
BD T.a5 a20 (Int.toNat n5*7) λn21 n22 n23 n24 n25 n26 n27=>
.ex [.adr] (c1 λa28=>0<=n5/\n5<(Al data)/\data.a=some a28) (u1 λa29=>
AJ T.a5 a29 (Int.toNat n5*7) (B2 n12 n13 n14 n15 n16 n17 n18)<|
.ex [.adr] (c1 λa30=>0<=Aq (a+n9)/\Aq (a+n9)<(Al data)/\data.a=some a30) (u1 λa31=>
AJ T.a5 a31 (Int.toNat (Aq (a+n9))*7) (B2 n21 n22 n23 n24 n25 n26 n27)<|
AI<|
An 4 [])))))<|
Af (Aq (n5+1)) λn32=>
An 3 [Ac n32])<|
An 2 [])<|
An 1 [])<|
An 1 [])<|
An 0 []
def z09j (data:Sl) (a b:Int) (cmp:Value):Prog :=
Af (Aq (b-a)) λn0=>
Ao T.a13 λa1=>
Af (Aq (a+Aq (Aq (Int.tdiv n0 4)*1))) λn2=>
Af (Aq (a+Aq (Aq (Int.tdiv n0 4)*2))) λn3=>
Af (Aq (a+Aq (Aq (Int.tdiv n0 4)*3))) λn4=>
Ap 1 (
Ai (decide (n0>=8)) (
BW 2 (
Ai (decide (n0>=50)) (
Aj F.a184 [data.v,Ac n2,Az a1,cmp] λn5=>
Af n5 λn6=>
Aj F.a184 [data.v,Ac n3,Az a1,cmp] λn7=>
Af n7 λn8=>
Aj F.a184 [data.v,Ac n4,Az a1,cmp] λn9=>
Af n9 λn10=>
An 2 [Ac n6,Ac n8,Ac n10])<|
An 2 [Ac n2,Ac n3,Ac n4]) λn11 n12 n13=>
Aj F.a187 [data.v,Ac n11,Ac n12,Ac n13,Az a1,cmp] λn14=>
Af n14 λn15=>
An 1 [Ac n15])<|
An 1 [Ac n3]) λn16=>
BX T.a13 a1 λn17=>
Ba (n17 == 0) (
Af n16 λn19=>
An 0 [Ac n19,Ac 1])<|
Ba (n17 == 12) (
Af n16 λn21=>
An 0 [Ac n21,Ac 2])<|
Af n16 λn22=>
An 0 [Ac n22,Ac 0]
def z0a3 (data:Sl) (a b:Int) (cmp:Value):Prog :=
Af a λn0=>
Af (Aq (b-1)) λn1=>
AK 1 (
AM 2 (n0,(n1,())) λn2 n3=>
Ai (decide (n2<n3)) (
AK 3 (
AG<|
.ex [.adr] (c1 λa4=>0<=n3/\n3<(Al data)/\data.a=some a4) (u1 λa5=>
BD T.a5 a5 (Int.toNat n3*7) λn6 n7 n8 n9 n10 n11 n12=>
.ex [.adr] (c1 λa13=>0<=n2/\n2<(Al data)/\data.a=some a13) (u1 λa14=>
BD T.a5 a14 (Int.toNat n2*7) λn15 n16 n17 n18 n19 n20 n21=>
.ex [.adr] (c1 λa22=>0<=n2/\n2<(Al data)/\data.a=some a22) (u1 λa23=>
AJ T.a5 a23 (Int.toNat n2*7) (B2 n6 n7 n8 n9 n10 n11 n12)<|
.ex [.adr] (c1 λa24=>0<=n3/\n3<(Al data)/\data.a=some a24) (u1 λa25=>
AJ T.a5 a25 (Int.toNat n3*7) (B2 n15 n16 n17 n18 n19 n20 n21)<|
AI<|
An 3 [])))))<|
Af (Aq (n2+1)) λn26=>
Af (Aq (n3-1)) λn27=>
An 2 [Ac n26,Ac n27])<|
An 1 [])<|
An 0 []
def z09v (data:Sl) (a b:Int) (cmp:Value):Prog :=
Af (Aq (a+1)) λn0=>
AK 1 (
AM 2 (n0,(0,())) λn1 n2=>
Ai (decide (n2<5)) (
Ap 3 (
Ap 4 (
AT 5 (n1,()) λn3=>
Ah 6 (
AG<|
.ex [.adr] (c1 λa4=>decide (n3<b)=true->0<=n3/\n3<(Al data)/\data.a=some a4) (u1 λa5=>
BY (decide (n3<b)=true) T.a5 a5 (Int.toNat n3*7) λn6 n7 n8 n9 n10 n11 n12=>
.ex [.adr] (c1 λa13=>decide (n3<b)=true->0<=Aq (n3-1)/\Aq (n3-1)<(Al data)/\data.a=some a13) (u1 λa14=>
BY (decide (n3<b)=true) T.a5 a14 (Int.toNat (Aq (n3-1))*7) λn15 n16 n17 n18 n19 n20 n21=>
Ai (decide (n3<b)) (
BU cmp [B2 n6 n7 n8 n9 n10 n11 n12,B2 n15 n16 n17 n18 n19 n20 n21] λn22=>
AI<|
An 6 [.bool (not (decide (n22<0)))])<|
AI<|
An 6 [.bool false]))) λb23=>
Ai b23 (
Af (Aq (n3+1)) λn24=>
An 5 [Ac n24])<|
An 4 [Ac n3]) λn25=>
Ai (n25 == b) (
An 0 [.bool true])<|
Ai (decide (Aq (b-a)<50)) (
An 0 [.bool false])<|
AK 4 (
AG<|
.ex [.adr] (c1 λa26=>0<=Aq (n25-1)/\Aq (n25-1)<(Al data)/\data.a=some a26) (u1 λa27=>
BD T.a5 a27 (Int.toNat (Aq (n25-1))*7) λn28 n29 n30 n31 n32 n33 n34=>
.ex [.adr] (c1 λa35=>0<=n25/\n25<(Al data)/\data.a=some a35) (u1 λa36=>
BD T.a5 a36 (Int.toNat n25*7) λn37 n38 n39 n40 n41 n42 n43=>
.ex [.adr] (c1 λa44=>0<=n25/\n25<(Al data)/\data.a=some a44) (u1 λa45=>
AJ T.a5 a45 (Int.toNat n25*7) (B2 n28 n29 n30 n31 n32 n33 n34)<|
.ex [.adr] (c1 λa46=>0<=Aq (n25-1)/\Aq (n25-1)<(Al data)/\data.a=some a46) (u1 λa47=>
AJ T.a5 a47 (Int.toNat (Aq (n25-1))*7) (B2 n37 n38 n39 n40 n41 n42 n43)<|
AI<|
An 4 [])))))<|
AK 4 (
Ai (decide (Aq (n25-a)>=2)) (
Af (Aq (n25-1)) λn48=>
AK 5 (
AT 6 (n48,()) λn49=>
Ai (decide (n49>=1)) (
AG<|
.ex [.adr] (c1 λa50=>0<=n49/\n49<(Al data)/\data.a=some a50) (u1 λa51=>
BD T.a5 a51 (Int.toNat n49*7) λn52 n53 n54 n55 n56 n57 n58=>
.ex [.adr] (c1 λa59=>0<=Aq (n49-1)/\Aq (n49-1)<(Al data)/\data.a=some a59) (u1 λa60=>
BD T.a5 a60 (Int.toNat (Aq (n49-1))*7) λn61 n62 n63 n64 n65 n66 n67=>
BU cmp [B2 n52 n53 n54 n55 n56 n57 n58,B2 n61 n62 n63 n64 n65 n66 n67] λn68=>
AI<|
Ai (not (decide (n68<0))) (
An 5 [])<|
AK 7 (
AG<|
.ex [.adr] (c1 λa69=>0<=Aq (n49-1)/\Aq (n49-1)<(Al data)/\data.a=some a69) (u1 λa70=>
BD T.a5 a70 (Int.toNat (Aq (n49-1))*7) λn71 n72 n73 n74 n75 n76 n77=>
.ex [.adr] (c1 λa78=>0<=n49/\n49<(Al data)/\data.a=some a78) (u1 λa79=>
BD T.a5 a79 (Int.toNat n49*7) λn80 n81 n82 n83 n84 n85 n86=>
.ex [.adr] (c1 λa87=>0<=n49/\n49<(Al data)/\data.a=some a87) (u1 λa88=>
AJ T.a5 a88 (Int.toNat n49*7) (B2 n71 n72 n73 n74 n75 n76 n77)<|
.ex [.adr] (c1 λa89=>0<=Aq (n49-1)/\Aq (n49-1)<(Al data)/\data.a=some a89) (u1 λa90=>
AJ T.a5 a90 (Int.toNat (Aq (n49-1))*7) (B2 n80 n81 n82 n83 n84 n85 n86)<|
AI<|
An 7 [])))))<|
Af (Aq (n49-1)) λn91=>
An 6 [Ac n91])))<|
An 5 [])<|
An 4 [])<|
An 4 [])<|
AK 4 (
Ai (decide (Aq (b-n25)>=2)) (
Af (Aq (n25+1)) λn92=>
AK 5 (
AT 6 (n92,()) λn93=>
Ai (decide (n93<b)) (
AG<|
.ex [.adr] (c1 λa94=>0<=n93/\n93<(Al data)/\data.a=some a94) (u1 λa95=>
BD T.a5 a95 (Int.toNat n93*7) λn96 n97 n98 n99 n100 n101 n102=>
.ex [.adr] (c1 λa103=>0<=Aq (n93-1)/\Aq (n93-1)<(Al data)/\data.a=some a103) (u1 λa104=>
BD T.a5 a104 (Int.toNat (Aq (n93-1))*7) λn105 n106 n107 n108 n109 n110 n111=>
BU cmp [B2 n96 n97 n98 n99 n100 n101 n102,B2 n105 n106 n107 n108 n109 n110 n111] λn112=>
AI<|
Ai (not (decide (n112<0))) (
An 5 [])<|
AK 7 (
AG<|
.ex [.adr] (c1 λa113=>0<=Aq (n93-1)/\Aq (n93-1)<(Al data)/\data.a=some a113) (u1 λa114=>
BD T.a5 a114 (Int.toNat (Aq (n93-1))*7) λn115 n116 n117 n118 n119 n120 n121=>
.ex [.adr] (c1 λa122=>0<=n93/\n93<(Al data)/\data.a=some a122) (u1 λa123=>
BD T.a5 a123 (Int.toNat n93*7) λn124 n125 n126 n127 n128 n129 n130=>
.ex [.adr] (c1 λa131=>0<=n93/\n93<(Al data)/\data.a=some a131) (u1 λa132=>
AJ T.a5 a132 (Int.toNat n93*7) (B2 n115 n116 n117 n118 n119 n120 n121)<|
.ex [.adr] (c1 λa133=>0<=Aq (n93-1)/\Aq (n93-1)<(Al data)/\data.a=some a133) (u1 λa134=>
AJ T.a5 a134 (Int.toNat (Aq (n93-1))*7) (B2 n124 n125 n126 n127 n128 n129 n130)<|
AI<|
An 7 [])))))<|
Af (Aq (n93+1)) λn135=>
An 6 [Ac n135])))<|
An 5 [])<|
An 4 [])<|
An 4 [])<|
An 3 [Ac n25]) λn136=>
Af (Aq (n2+1)) λn137=>
An 2 [Ac n136,Ac n137])<|
An 1 [])<|
An 0 [.bool false]
def z09y (data:Sl) (a b pivot:Int) (cmp:Value):Prog :=
AK 1 (
AG<|
.ex [.adr] (c1 λa0=>0<=pivot/\pivot<(Al data)/\data.a=some a0) (u1 λa1=>
BD T.a5 a1 (Int.toNat pivot*7) λn2 n3 n4 n5 n6 n7 n8=>
.ex [.adr] (c1 λa9=>0<=a/\a<(Al data)/\data.a=some a9) (u1 λa10=>
BD T.a5 a10 (Int.toNat a*7) λn11 n12 n13 n14 n15 n16 n17=>
.ex [.adr] (c1 λa18=>0<=a/\a<(Al data)/\data.a=some a18) (u1 λa19=>
AJ T.a5 a19 (Int.toNat a*7) (B2 n2 n3 n4 n5 n6 n7 n8)<|
.ex [.adr] (c1 λa20=>0<=pivot/\pivot<(Al data)/\data.a=some a20) (u1 λa21=>
AJ T.a5 a21 (Int.toNat pivot*7) (B2 n11 n12 n13 n14 n15 n16 n17)<|
AI<|
An 1 [])))))<|
Af (Aq (a+1)) λn22=>
Af (Aq (b-1)) λn23=>
Ap 1 (
AM 2 (n22,(n23,())) λn24 n25=>
Bu 3 (
Ap 4 (
AT 5 (n24,()) λn26=>
Ah 6 (
AG<|
.ex [.adr] (c1 λa27=>decide (n26<=n25)=true->0<=a/\a<(Al data)/\data.a=some a27) (u1 λa28=>
BY (decide (n26<=n25)=true) T.a5 a28 (Int.toNat a*7) λn29 n30 n31 n32 n33 n34 n35=>
.ex [.adr] (c1 λa36=>decide (n26<=n25)=true->0<=n26/\n26<(Al data)/\data.a=some a36) (u1 λa37=>
BY (decide (n26<=n25)=true) T.a5 a37 (Int.toNat n26*7) λn38 n39 n40 n41 n42 n43 n44=>
Ai (decide (n26<=n25)) (
BU cmp [B2 n29 n30 n31 n32 n33 n34 n35,B2 n38 n39 n40 n41 n42 n43 n44] λn45=>
AI<|
An 6 [.bool (not (decide (n45<0)))])<|
AI<|
An 6 [.bool false]))) λb46=>
Ai b46 (
Af (Aq (n26+1)) λn47=>
An 5 [Ac n47])<|
An 4 [Ac n26]) λn48=>
Ap 4 (
AT 5 (n25,()) λn49=>
Ah 6 (
AG<|
.ex [.adr] (c1 λa50=>decide (n48<=n49)=true->0<=a/\a<(Al data)/\data.a=some a50) (u1 λa51=>
BY (decide (n48<=n49)=true) T.a5 a51 (Int.toNat a*7) λn52 n53 n54 n55 n56 n57 n58=>
.ex [.adr] (c1 λa59=>decide (n48<=n49)=true->0<=n49/\n49<(Al data)/\data.a=some a59) (u1 λa60=>
BY (decide (n48<=n49)=true) T.a5 a60 (Int.toNat n49*7) λn61 n62 n63 n64 n65 n66 n67=>
Ai (decide (n48<=n49)) (
BU cmp [B2 n52 n53 n54 n55 n56 n57 n58,B2 n61 n62 n63 n64 n65 n66 n67] λn68=>
AI<|
An 6 [.bool (decide (n68<0))])<|
AI<|
An 6 [.bool false]))) λb69=>
Ai b69 (
Af (Aq (n49-1)) λn70=>
An 5 [Ac n70])<|
An 4 [Ac n49]) λn71=>
Ai (decide (n48>n71)) (
An 1 [Ac n48])<|
AK 4 (
AG<|
.ex [.adr] (c1 λa72=>0<=n71/\n71<(Al data)/\data.a=some a72) (u1 λa73=>
BD T.a5 a73 (Int.toNat n71*7) λn74 n75 n76 n77 n78 n79 n80=>
.ex [.adr] (c1 λa81=>0<=n48/\n48<(Al data)/\data.a=some a81) (u1 λa82=>
BD T.a5 a82 (Int.toNat n48*7) λn83 n84 n85 n86 n87 n88 n89=>
.ex [.adr] (c1 λa90=>0<=n48/\n48<(Al data)/\data.a=some a90) (u1 λa91=>
AJ T.a5 a91 (Int.toNat n48*7) (B2 n74 n75 n76 n77 n78 n79 n80)<|
.ex [.adr] (c1 λa92=>0<=n71/\n71<(Al data)/\data.a=some a92) (u1 λa93=>
AJ T.a5 a93 (Int.toNat n71*7) (B2 n83 n84 n85 n86 n87 n88 n89)<|
AI<|
An 4 [])))))<|
Af (Aq (n48+1)) λn94=>
Af (Aq (n71-1)) λn95=>
An 3 [Ac n94,Ac n95]) λn96 n97=>
An 2 [Ac n96,Ac n97]) λn98=>
Af n98 λn99=>
An 0 [Ac n99]
def z09x (data:Sl) (a b pivot:Int) (cmp:Value):Prog :=
AK 1 (
AG<|
.ex [.adr] (c1 λa0=>0<=pivot/\pivot<(Al data)/\data.a=some a0) (u1 λa1=>
BD T.a5 a1 (Int.toNat pivot*7) λn2 n3 n4 n5 n6 n7 n8=>
.ex [.adr] (c1 λa9=>0<=a/\a<(Al data)/\data.a=some a9) (u1 λa10=>
BD T.a5 a10 (Int.toNat a*7) λn11 n12 n13 n14 n15 n16 n17=>
.ex [.adr] (c1 λa18=>0<=a/\a<(Al data)/\data.a=some a18) (u1 λa19=>
AJ T.a5 a19 (Int.toNat a*7) (B2 n2 n3 n4 n5 n6 n7 n8)<|
.ex [.adr] (c1 λa20=>0<=pivot/\pivot<(Al data)/\data.a=some a20) (u1 λa21=>
AJ T.a5 a21 (Int.toNat pivot*7) (B2 n11 n12 n13 n14 n15 n16 n17)<|
AI<|
An 1 [])))))<|
Af (Aq (a+1)) λn22=>
Af (Aq (b-1)) λn23=>
Ap 1 (
AT 2 (n22,()) λn24=>
Ah 3 (
AG<|
.ex [.adr] (c1 λa25=>decide (n24<=n23)=true->0<=n24/\n24<(Al data)/\data.a=some a25) (u1 λa26=>
BY (decide (n24<=n23)=true) T.a5 a26 (Int.toNat n24*7) λn27 n28 n29 n30 n31 n32 n33=>
.ex [.adr] (c1 λa34=>decide (n24<=n23)=true->0<=a/\a<(Al data)/\data.a=some a34) (u1 λa35=>
BY (decide (n24<=n23)=true) T.a5 a35 (Int.toNat a*7) λn36 n37 n38 n39 n40 n41 n42=>
Ai (decide (n24<=n23)) (
BU cmp [B2 n27 n28 n29 n30 n31 n32 n33,B2 n36 n37 n38 n39 n40 n41 n42] λn43=>
AI<|
An 3 [.bool (decide (n43<0))])<|
AI<|
An 3 [.bool false]))) λb44=>
Ai b44 (
Af (Aq (n24+1)) λn45=>
An 2 [Ac n45])<|
An 1 [Ac n24]) λn46=>
Ap 1 (
AT 2 (n23,()) λn47=>
Ah 3 (
AG<|
.ex [.adr] (c1 λa48=>decide (n46<=n47)=true->0<=n47/\n47<(Al data)/\data.a=some a48) (u1 λa49=>
BY (decide (n46<=n47)=true) T.a5 a49 (Int.toNat n47*7) λn50 n51 n52 n53 n54 n55 n56=>
.ex [.adr] (c1 λa57=>decide (n46<=n47)=true->0<=a/\a<(Al data)/\data.a=some a57) (u1 λa58=>
BY (decide (n46<=n47)=true) T.a5 a58 (Int.toNat a*7) λn59 n60 n61 n62 n63 n64 n65=>
Ai (decide (n46<=n47)) (
BU cmp [B2 n50 n51 n52 n53 n54 n55 n56,B2 n59 n60 n61 n62 n63 n64 n65] λn66=>
AI<|
An 3 [.bool (not (decide (n66<0)))])<|
AI<|
An 3 [.bool false]))) λb67=>
Ai b67 (
Af (Aq (n47-1)) λn68=>
An 2 [Ac n68])<|
An 1 [Ac n47]) λn69=>
Ai (decide (n46>n69)) (
AK 1 (
AG<|
.ex [.adr] (c1 λa70=>0<=a/\a<(Al data)/\data.a=some a70) (u1 λa71=>
BD T.a5 a71 (Int.toNat a*7) λn72 n73 n74 n75 n76 n77 n78=>
.ex [.adr] (c1 λa79=>0<=n69/\n69<(Al data)/\data.a=some a79) (u1 λa80=>
BD T.a5 a80 (Int.toNat n69*7) λn81 n82 n83 n84 n85 n86 n87=>
.ex [.adr] (c1 λa88=>0<=n69/\n69<(Al data)/\data.a=some a88) (u1 λa89=>
AJ T.a5 a89 (Int.toNat n69*7) (B2 n72 n73 n74 n75 n76 n77 n78)<|
.ex [.adr] (c1 λa90=>0<=a/\a<(Al data)/\data.a=some a90) (u1 λa91=>
AJ T.a5 a91 (Int.toNat a*7) (B2 n81 n82 n83 n84 n85 n86 n87)<|
AI<|
An 1 [])))))<|
Af n69 λn92=>
An 0 [Ac n92,.bool true])<|
AK 1 (
AG<|
.ex [.adr] (c1 λa93=>0<=n69/\n69<(Al data)/\data.a=some a93) (u1 λa94=>
BD T.a5 a94 (Int.toNat n69*7) λn95 n96 n97 n98 n99 n100 n101=>
.ex [.adr] (c1 λa102=>0<=n46/\n46<(Al data)/\data.a=some a102) (u1 λa103=>
BD T.a5 a103 (Int.toNat n46*7) λn104 n105 n106 n107 n108 n109 n110=>
.ex [.adr] (c1 λa111=>0<=n46/\n46<(Al data)/\data.a=some a111) (u1 λa112=>
AJ T.a5 a112 (Int.toNat n46*7) (B2 n95 n96 n97 n98 n99 n100 n101)<|
.ex [.adr] (c1 λa113=>0<=n69/\n69<(Al data)/\data.a=some a113) (u1 λa114=>
AJ T.a5 a114 (Int.toNat n69*7) (B2 n104 n105 n106 n107 n108 n109 n110)<|
AI<|
An 1 [])))))<|
Af (Aq (n46+1)) λn115=>
Af (Aq (n69-1)) λn116=>
Ap 1 (
AM 2 (n115,(n116,())) λn117 n118=>
Bu 3 (
Ap 4 (
AT 5 (n117,()) λn119=>
Ah 6 (
AG<|
.ex [.adr] (c1 λa120=>decide (n119<=n118)=true->0<=n119/\n119<(Al data)/\data.a=some a120) (u1 λa121=>
BY (decide (n119<=n118)=true) T.a5 a121 (Int.toNat n119*7) λn122 n123 n124 n125 n126 n127 n128=>
.ex [.adr] (c1 λa129=>decide (n119<=n118)=true->0<=a/\a<(Al data)/\data.a=some a129) (u1 λa130=>
BY (decide (n119<=n118)=true) T.a5 a130 (Int.toNat a*7) λn131 n132 n133 n134 n135 n136 n137=>
Ai (decide (n119<=n118)) (
BU cmp [B2 n122 n123 n124 n125 n126 n127 n128,B2 n131 n132 n133 n134 n135 n136 n137] λn138=>
AI<|
An 6 [.bool (decide (n138<0))])<|
AI<|
An 6 [.bool false]))) λb139=>
Ai b139 (
Af (Aq (n119+1)) λn140=>
An 5 [Ac n140])<|
An 4 [Ac n119]) λn141=>
Ap 4 (
AT 5 (n118,()) λn142=>
Ah 6 (
AG<|
.ex [.adr] (c1 λa143=>decide (n141<=n142)=true->0<=n142/\n142<(Al data)/\data.a=some a143) (u1 λa144=>
BY (decide (n141<=n142)=true) T.a5 a144 (Int.toNat n142*7) λn145 n146 n147 n148 n149 n150 n151=>
.ex [.adr] (c1 λa152=>decide (n141<=n142)=true->0<=a/\a<(Al data)/\data.a=some a152) (u1 λa153=>
BY (decide (n141<=n142)=true) T.a5 a153 (Int.toNat a*7) λn154 n155 n156 n157 n158 n159 n160=>
Ai (decide (n141<=n142)) (
BU cmp [B2 n145 n146 n147 n148 n149 n150 n151,B2 n154 n155 n156 n157 n158 n159 n160] λn161=>
AI<|
An 6 [.bool (not (decide (n161<0)))])<|
AI<|
An 6 [.bool false]))) λb162=>
Ai b162 (
Af (Aq (n142-1)) λn163=>
An 5 [Ac n163])<|
An 4 [Ac n142]) λn164=>
Ai (decide (n141>n164)) (
An 1 [Ac n164])<|
AK 4 (
AG<|
.ex [.adr] (c1 λa165=>0<=n164/\n164<(Al data)/\data.a=some a165) (u1 λa166=>
BD T.a5 a166 (Int.toNat n164*7) λn167 n168 n169 n170 n171 n172 n173=>
.ex [.adr] (c1 λa174=>0<=n141/\n141<(Al data)/\data.a=some a174) (u1 λa175=>
BD T.a5 a175 (Int.toNat n141*7) λn176 n177 n178 n179 n180 n181 n182=>
.ex [.adr] (c1 λa183=>0<=n141/\n141<(Al data)/\data.a=some a183) (u1 λa184=>
AJ T.a5 a184 (Int.toNat n141*7) (B2 n167 n168 n169 n170 n171 n172 n173)<|
.ex [.adr] (c1 λa185=>0<=n164/\n164<(Al data)/\data.a=some a185) (u1 λa186=>
AJ T.a5 a186 (Int.toNat n164*7) (B2 n176 n177 n178 n179 n180 n181 n182)<|
AI<|
An 4 [])))))<|
Af (Aq (n141+1)) λn187=>
Af (Aq (n164-1)) λn188=>
An 3 [Ac n187,Ac n188]) λn189 n190=>
An 2 [Ac n189,Ac n190]) λn191=>
AK 1 (
AG<|
.ex [.adr] (c1 λa192=>0<=a/\a<(Al data)/\data.a=some a192) (u1 λa193=>
BD T.a5 a193 (Int.toNat a*7) λn194 n195 n196 n197 n198 n199 n200=>
.ex [.adr] (c1 λa201=>0<=n191/\n191<(Al data)/\data.a=some a201) (u1 λa202=>
BD T.a5 a202 (Int.toNat n191*7) λn203 n204 n205 n206 n207 n208 n209=>
.ex [.adr] (c1 λa210=>0<=n191/\n191<(Al data)/\data.a=some a210) (u1 λa211=>
AJ T.a5 a211 (Int.toNat n191*7) (B2 n194 n195 n196 n197 n198 n199 n200)<|
.ex [.adr] (c1 λa212=>0<=a/\a<(Al data)/\data.a=some a212) (u1 λa213=>
AJ T.a5 a213 (Int.toNat a*7) (B2 n203 n204 n205 n206 n207 n208 n209)<|
AI<|
An 1 [])))))<|
Af n191 λn214=>
An 0 [Ac n214,.bool false]
def z09u (data:Sl) (a b:Int) (swaps:Option Addr):Prog :=
AG<|
.ex [.adr] (c1 λa0=>0<=b/\b<(Al data)/\data.a=some a0) (u1 λa1=>
AC T.a51 a1 (Int.toNat b*1) λs2=>
.ex [.adr] (c1 λa3=>0<=a/\a<(Al data)/\data.a=some a3) (u1 λa4=>
AC T.a51 a4 (Int.toNat a*1) λs5=>
Am F.a2 [.string s2,.string s5] λb6=>
AI<|
Ai b6 (
AA swaps λa8=>
BX T.a13 a8 λn9=>
AA swaps λa11=>
Ar T.a13 a11 (Ac (Aq (n9+1)))<|
Af b λn12=>
Af a λn13=>
An 0 [Ac n12,Ac n13])<|
Af a λn14=>
Af b λn15=>
An 0 [Ac n14,Ac n15]))
def z0a5 (data:Sl) (lo hi first:Int) (cmp:Value):Prog :=
Af lo λn0=>
AK 1 (
AT 2 (n0,()) λn1=>
Af (Aq (Aq (2*n1)+1)) λn2=>
Ai (decide (n2>=hi)) (
An 1 [])<|
Ah 3 (
AG<|
.ex [.adr] (c1 λa3=>decide (Aq (n2+1)<hi)=true->0<=Aq (first+n2)/\Aq (first+n2)<(Al data)/\data.a=some a3) (u1 λa4=>
BY (decide (Aq (n2+1)<hi)=true) T.a5 a4 (Int.toNat (Aq (first+n2))*7) λn5 n6 n7 n8 n9 n10 n11=>
.ex [.adr] (c1 λa12=>decide (Aq (n2+1)<hi)=true->0<=Aq (Aq (first+n2)+1)/\Aq (Aq (first+n2)+1)<(Al data)/\data.a=some a12) (u1 λa13=>
BY (decide (Aq (n2+1)<hi)=true) T.a5 a13 (Int.toNat (Aq (Aq (first+n2)+1))*7) λn14 n15 n16 n17 n18 n19 n20=>
Ai (decide (Aq (n2+1)<hi)) (
BU cmp [B2 n5 n6 n7 n8 n9 n10 n11,B2 n14 n15 n16 n17 n18 n19 n20] λn21=>
AI<|
An 3 [.bool (decide (n21<0))])<|
AI<|
An 3 [.bool false]))) λb22=>
Ap 3 (
Ai b22 (
Af (Aq (n2+1)) λn23=>
An 3 [Ac n23])<|
An 3 [Ac n2]) λn24=>
AG<|
.ex [.adr] (c1 λa25=>0<=Aq (first+n1)/\Aq (first+n1)<(Al data)/\data.a=some a25) (u1 λa26=>
BD T.a5 a26 (Int.toNat (Aq (first+n1))*7) λn27 n28 n29 n30 n31 n32 n33=>
.ex [.adr] (c1 λa34=>0<=Aq (first+n24)/\Aq (first+n24)<(Al data)/\data.a=some a34) (u1 λa35=>
BD T.a5 a35 (Int.toNat (Aq (first+n24))*7) λn36 n37 n38 n39 n40 n41 n42=>
BU cmp [B2 n27 n28 n29 n30 n31 n32 n33,B2 n36 n37 n38 n39 n40 n41 n42] λn43=>
AI<|
Ai (not (decide (n43<0))) (
An 0 [])<|
AK 3 (
AG<|
.ex [.adr] (c1 λa44=>0<=Aq (first+n24)/\Aq (first+n24)<(Al data)/\data.a=some a44) (u1 λa45=>
BD T.a5 a45 (Int.toNat (Aq (first+n24))*7) λn46 n47 n48 n49 n50 n51 n52=>
.ex [.adr] (c1 λa53=>0<=Aq (first+n1)/\Aq (first+n1)<(Al data)/\data.a=some a53) (u1 λa54=>
BD T.a5 a54 (Int.toNat (Aq (first+n1))*7) λn55 n56 n57 n58 n59 n60 n61=>
.ex [.adr] (c1 λa62=>0<=Aq (first+n1)/\Aq (first+n1)<(Al data)/\data.a=some a62) (u1 λa63=>
AJ T.a5 a63 (Int.toNat (Aq (first+n1))*7) (B2 n46 n47 n48 n49 n50 n51 n52)<|
.ex [.adr] (c1 λa64=>0<=Aq (first+n24)/\Aq (first+n24)<(Al data)/\data.a=some a64) (u1 λa65=>
AJ T.a5 a65 (Int.toNat (Aq (first+n24))*7) (B2 n55 n56 n57 n58 n59 n60 n61)<|
AI<|
An 3 [])))))<|
Af n24 λn66=>
An 2 [Ac n66])))<|
An 0 []
def z09p (data:Sl) (a:Int) (swaps:Option Addr) (cmp:Value):Prog :=
Aj F.a187 [data.v,Ac (Aq (a-1)),Ac a,Ac (Aq (a+1)),Ad swaps,cmp] λn0=>
Af n0 λn1=>
An 0 [Ac n1]
def z09r (data:Sl) (a b c:Int) (swaps:Option Addr) (cmp:Value):Prog :=
Ae F.a191 [data.v,Ac a,Ac b,Ad swaps,cmp] λn0 n1=>
Af n0 λn2=>
Af n1 λn3=>
Ae F.a191 [data.v,Ac n3,Ac c,Ad swaps,cmp] λn4 n5=>
Af n4 λn6=>
Af n5 λn7=>
Ae F.a191 [data.v,Ac n2,Ac n6,Ad swaps,cmp] λn8 n9=>
Af n8 λn10=>
Af n9 λn11=>
Af n11 λn12=>
An 0 [Ac n12]
def z09t (data:Sl) (a b:Int) (swaps:Option Addr) (cmp:Value):Prog :=
AG<|
.ex [.adr] (c1 λa0=>0<=b/\b<(Al data)/\data.a=some a0) (u1 λa1=>
BD T.a5 a1 (Int.toNat b*7) λn2 n3 n4 n5 n6 n7 n8=>
.ex [.adr] (c1 λa9=>0<=a/\a<(Al data)/\data.a=some a9) (u1 λa10=>
BD T.a5 a10 (Int.toNat a*7) λn11 n12 n13 n14 n15 n16 n17=>
BU cmp [B2 n2 n3 n4 n5 n6 n7 n8,B2 n11 n12 n13 n14 n15 n16 n17] λn18=>
AI<|
Ai (decide (n18<0)) (
AA swaps λa20=>
BX T.a13 a20 λn21=>
AA swaps λa23=>
Ar T.a13 a23 (Ac (Aq (n21+1)))<|
Af b λn24=>
Af a λn25=>
An 0 [Ac n24,Ac n25])<|
Af a λn26=>
Af b λn27=>
An 0 [Ac n26,Ac n27]))
end Go.Dec
