/- What the claim of this folder leans on: our own texts, joined, without what it does not use. -/
import Derived.Test.YtgpcickgjngglaaGreatRows
import Derived.WalkKit
import Derived.ProofKit
import Derived.OpenShut
import Derived.RowKit3
import Derived.OrdersHeld
import Derived.Scope
import Derived.KernelRfl
import Derived.Laws.Sem
import Derived.Laws.StructEq
import Derived.Deep.AppendSrc
import Derived.Laws.BytesArg
import Derived.Laws.RangeString
import Derived.Maps.RangeRun
import Derived.Lib.ConvBytes
import Derived.Lib.SlBytesConst
import Derived.ChangeSlices
import Derived.ChangeMaps5
import Derived.ChangeSame
import Derived.Deep.Slices
import Derived.Deep.Fields
import Derived.Test.YtgpcickgjngglaaGreatProg
import Derived.Laws.MakeOwn
import Derived.WideKeyRuns
import Derived.DeepKeys3
import Derived.Sort.MapsRangeIn
import Derived.Sort.KeysCollected
import Derived.RangeFuncNested
import Derived.RangeFuncBound
import Derived.RangeFuncCalls
import Derived.RangeFuncLeaves
import Derived.RangeFuncBox
import Derived.OwnWalkIn
import Derived.TacticsInMore
import Derived.RegionIn
import Derived.LoopNIn
import Derived.LoopIn
import Derived.Maps.AppendAt
import Derived.Shelf.Abstract
import Derived.Shelf.Sort.Plain
import Derived.Shelf.Slices.In.SortNone
import Derived.Test.YtgpcickgjngglaaGreatQONil1
import Derived.Test.YtgpcickgjngglaaGreatQONil2
import Derived.Test.YtgpcickgjngglaaGreatQONil3
set_option linter.unusedVariables false
set_option linter.unusedSimpArgs false
namespace Go.Dec
def z07b (room:Int):Prog :=
Ac (decide (room<0) || decide (room>4194304)) (
Ah 0 [Aq none,Ai 2])<|
B4 (Instr.makeMap T.a23 none) λm0=>
Ao T.a8 (.agg #[Ai (-1),.bool false,Ai room,Ai 0,.map m0]) λa1=>
Ah 0 [Ap a1,Ai 0]
theorem zts (room:Int):FnS (z07b room) F.a47 #[.int .i64 room]:=dV ⟨[],[],[],[]⟩ Go.Proofs.Tryz.func12 (by kernel_rfl)
def z075 (d:Option Addr) (name:ByteArray):Prog :=
.call F.a43 [Aq d,.string name] (sG [.slc,.int .i64]) (u2 λl0 (n1:Int)=>
Ag (Ad l0) λn2=>
Ah 0 [Ai n2])
theorem ztm (d:Option Addr) (name:ByteArray):FnS (z075 d name) F.a41 #[.pointer d,.string name]:=dV ⟨[],[],[],[]⟩ Go.Proofs.Tryz.func120 (by kernel_rfl)
def z074 (d:Option Addr) (name:ByteArray):Prog :=
Aw F.a45 [Aq d] λn0=>
Ag n0 λn1=>
Ac (n1 != 0) (
Ag n1 λn2=>
Ah 0 [Ai n2])<|
As d λa4=>
B5 T.a23 a4 4 λm5=>
B6 (Instr.lookup T.a23 (.map m5) (.string name) false) λp6=>
Ac (Option.isNone p6) (
Ah 0 [Ai 3])<|
Ay F.a44 [Aq d,.string name]<|
As d λa8=>
Ay F.a48 [Au a8 0]<|
Ah 0 [Ai 0]
theorem ztl (d:Option Addr) (name:ByteArray):FnS (z074 d name) F.a39 #[.pointer d,.string name]:=dV ⟨[],[],[],[]⟩ Go.Proofs.Tryz.func123 (by kernel_rfl)
def z08y (s:Sl):Prog :=
Ac (Option.isNone s.a) (
Ah 0 [.slice none 0 0])<|
Aj (Instr.buildSlice T.a47 0 #[]) λl0=>
Aj (app T.a47 T.a47 T.a47 l0.v s.v) λl1=>
Ah 0 [l1.v]
def zzg (x:Int):Prog :=
Aw F.a87 [.int .u64 x] λn0=>
Ag n0 λn1=>
Ah 0 [Ai n1]
theorem zgt (x:Int):FnS (zzg x) F.a86 #[.int .u64 x]:=dV ⟨[],[],[],[]⟩ Go.Proofs.Tryz.func166 (by kernel_rfl)
def z01v (s:Sl) (f:Value):Prog :=
Aw F.a177 [s.v,f] λn0=>
AM (decide (n0>=0)) λb1=>
Ah 0 [.bool b1]
theorem zol (s:Sl) (f:Value) {w:World} {R:List Value->World->Prop} (h:(z01v s f).wp P (λ_=>True) w λe vs w'=>e=0/\R vs w'):Ret P F.a175 #[.slice s.a s.len s.cap,f] w R:=dS (n:=9) (rv:=[.tmp 4]) { cnd:=[],blk:=[],reg:=[],lps:=[] } [.val (.slice s.a s.len s.cap),.any f] Go.Proofs.Tryz.func167 (by kernel_rfl) (by kernel_rfl) (by kernel_rfl) (by kernel_rfl) h
def z072 (d:Option Addr):Prog :=
AZ (Option.isNone d=false) d λa1=>
Bz (Option.isNone d=false) T.a3 (Addr.add a1 0) 1 λb2=>
AM (Option.isNone d || b2) λb3=>
Ah 0 [.bool b3]
theorem ztj (d:Option Addr):FnS (z072 d) F.a36 #[.pointer d]:=dV ⟨[],[],[],[]⟩ Go.Proofs.Tryz.func171 (by kernel_rfl)
def z077 (d:Option Addr) (name:ByteArray):Prog :=
AB T.a9 λa0=>
AZ (Option.isNone d=false) d λa2=>
B7 (Option.isNone d=false) T.a23 a2 4 λm3=>
.read (Option.isNone d=false) (Instr.lookup T.a23 (.map m3) (.string name) false) sP (u1 λp4=>
Ac (Option.isNone d || Option.isNone p4) (
AC T.a9 a0 (.agg #[.slice none 0 0,Ai 0])<|
B8 T.a9 a0 λl5 n6=>
Ah 0 [B9 l5 n6])<|
As d λa8=>
B5 T.a23 a8 4 λm9=>
B6 (Instr.lookup T.a23 (.map m9) (.string name) false) λp10=>
As p10 λa12=>
B8 T.a9 a12 λl13 n14=>
AC T.a9 a0 (B9 l13 n14)<|
B8 T.a9 a0 λl15 n16=>
Ah 0 [B9 l15 n16])
theorem zto (d:Option Addr) (name:ByteArray):FnS (z077 d name) F.a43 #[.pointer d,.string name]:=dV ⟨[],[],[],[]⟩ Go.Proofs.Tryz.func177 (by kernel_rfl)
def z073 (d:Option Addr) (name:ByteArray):Prog :=
Ac (Option.isNone d) (
Ah 0 [.slice none 0 0,Ai 1])<|
As d λa1=>
B5 T.a23 a1 4 λm2=>
B6 (Instr.lookup T.a23 (.map m2) (.string name) false) λp3=>
Ac (Option.isNone p3) (
Ah 0 [.slice none 0 0,Ai 3])<|
As p3 λa5=>
Ae T.a50 a5 0 λl6=>
An F.a0 [l6.v] λl7=>
Ah 0 [l7.v,Ai 0]
theorem ztk (d:Option Addr) (name:ByteArray):FnS (z073 d name) F.a38 #[.pointer d,.string name]:=dV ⟨[],[],[],[]⟩ Go.Proofs.Tryz.func178 (by kernel_rfl)
def z079 (d:Option Addr):Prog :=
AJ (Option.isNone d) (
Ah 0 [Ai 1])<|
As d λa2=>
B1 T.a3 (Addr.add a2 0) 1 λb3=>
AJ b3 (
Ah 0 [Ai 9])<|
Ah 0 [Ai 0]
theorem ztq (d:Option Addr):FnS (z079 d) F.a45 #[.pointer d]:=dV ⟨[],[],[],[]⟩ Go.Proofs.Tryz.func179 (by kernel_rfl)
def z078 (d:Option Addr) (name:ByteArray):Prog :=
As d λa1=>
B5 T.a23 a1 4 λm2=>
B6 (Instr.lookup T.a23 (.map m2) (.string name) false) λp3=>
Ax 1 (
Ac (not (Option.isNone p3)) (
AT<|
As d λa5=>
Az T.a13 a5 3 λn6=>
As p3 λa8=>
Ae T.a50 a8 0 λl9=>
As d λa11=>
Be T.a13 a11 3 (Ai (Af (n6-(Ad l9))))<|
AU<|
As d λa13=>
B5 T.a23 a13 4 λm14=>
BA (Builtin.delete_ #[T.a23,T.a55] T.a57 #[.map m14,.string name])<|
Ah 1 [])<|
Ah 1 [])<|
Ah 0 []
theorem ztp (d:Option Addr) (name:ByteArray):FnS (z078 d name) F.a44 #[.pointer d,.string name]:=dV ⟨[(4398012956684,[])],[],[],[]⟩ Go.Proofs.Tryz.func180 (by kernel_rfl)
def z07c (p:Option Addr):Prog :=
As p λa1=>
Az T.a13 a1 0 λn2=>
Ax 1 (
Ac (decide (n2>0)) (
As p λa4=>
Az T.a13 a4 0 λn5=>
As p λa7=>
Be T.a13 a7 0 (Ai (Af (n5-1)))<|
As p λa9=>
Az T.a13 a9 0 λn10=>
As p λa12=>
Be T.a3 a12 1 (.bool (n10 == 0))<|
Ah 1 [])<|
Ah 1 [])<|
Ah 0 []
theorem ztt (p:Option Addr):FnS (z07c p) F.a48 #[.pointer p]:=dV ⟨[(17179344902,[])],[],[],[]⟩ Go.Proofs.Tryz.func181 (by kernel_rfl)
def z022 (n:Int) (f:Value):Prog :=
Ag n λn0=>
Aa 1 (
Ab 2 (0,(n0,())) λn1 n2=>
Ac (decide (n1<n2)) (
Ag (Af (Int.fdiv (IntKind.wrap .u64 (Af (n1+n2))) 2)) λn3=>
Bq f [Ai n3] λb4=>
BB 3 (
Ac (not b4) (
Ag (Af (n3+1)) λn5=>
Ah 3 [Ai n5,Ai n2])<|
Ag n3 λn6=>
Ah 3 [Ai n1,Ai n6]) λn7 n8=>
Ah 2 [Ai n7,Ai n8])<|
Ah 1 [Ai n1]) λn9=>
Ag n9 λn10=>
Ah 0 [Ai n10]
theorem zos (n:Int) (f:Value) {w:World} {R:List Value->World->Prop} (h:(z022 n f).wp P (λ_=>True) w λe vs w'=>e=0/\R vs w'):Ret P F.a223 #[.int .i64 n,f] w R:=dS (n:=26) (rv:=[.tmp 4]) { cnd:=[(120259477525,[(5,.one (.int .i64)),(6,.one (.int .i64))])],blk:=[(0,[(5,.one (.int .i64))])],reg:=[],lps:=[(0,[(5,.one (.int .i64)),(6,.one (.int .i64))])] } [.val (.int .i64 n),.any f] Go.Proofs.Tryz.func194 (by kernel_rfl) (by kernel_rfl) (by kernel_rfl) (by kernel_rfl) h
def z06z (d:Option Addr) (name:ByteArray) (parts:Sl):Prog :=
Aw F.a45 [Aq d] λn0=>
Ag n0 λn1=>
Ac (n1 != 0) (
Ag n1 λn2=>
Ah 0 [Ai n2])<|
Ar F.a46 [.string name] λb3=>
Ac (not b3) (
Ah 0 [Ai 2])<|
Aa 1 (
Ab 2 (0,(0,())) λn4 n5=>
Ac (decide (n5<(Ad parts))) (
.ex [.adr] (c1 λa6=>0<=n5/\n5<(Ad parts)/\parts.a=some a6) (u1 λa7=>
Ae T.a50 a7 (Int.toNat n5*1) λl8=>
Aw F.a35 [Aq d] λn9=>
Ac (decide ((Ad l8)>Af (n9-n4))) (
Ah 0 [Ai 5])<|
Ag (Af (n4+(Ad l8))) λn10=>
Ah 2 [Ai n10,Ai (Af (n5+1))]))<|
Ah 1 [Ai n4]) λn11=>
As d λa13=>
B5 T.a23 a13 4 λm14=>
.read True (Instr.lookup T.a23 (.map m14) (.string name) true) (.tup [.one .ptr,.one .bool]) (u2 λp15 b16=>
AM b16 λb17=>
.bind 1 [.one .ptr] (
Ac (not b17) (
As d λa19=>
B5 T.a23 a19 4 λm20=>
BC (Builtin.len_ #[T.a23] T.a13 #[.map m20]) λn21=>
Ac (decide (n21>=128)) (
Ah 0 [Ai 5])<|
Ao T.a9 (.agg #[.slice none 0 0,Ai 0]) λa22=>
As d λa24=>
B5 T.a23 a24 4 λm25=>
Bs (Instr.mapUpdate T.a23 (.map m25) (.string name) (Ap a22))<|
Ah 1 [Ap a22])<|
Ah 1 [Aq p15]) (u1 λp26=>
Ax 1 (
AV 2 (0,()) λn27=>
Ac (decide (n27<(Ad parts))) (
.ex [.adr] (c1 λa28=>0<=n27/\n27<(Ad parts)/\parts.a=some a28) (u1 λa29=>
Ae T.a50 a29 (Int.toNat n27*1) λl30=>
As p26 λa32=>
Ae T.a50 a32 0 λl33=>
Aj (app T.a50 T.a50 T.a50 l33.v l30.v) λl34=>
As p26 λa36=>
Be T.a50 a36 0 l34.v<|
Ah 2 [Ai (Af (n27+1))]))<|
Ah 1 [])<|
As d λa38=>
Az T.a13 a38 3 λn39=>
As d λa41=>
Be T.a13 a41 3 (Ai (Af (n39+n11)))<|
As d λa43=>
Ay F.a48 [Au a43 0]<|
Ah 0 [Ai 0]))
theorem ztg (d:Option Addr) (name:ByteArray) (parts:Sl):FnS (z06z d name parts) F.a33 #[.pointer d,.string name,.slice parts.a parts.len parts.cap]:=dV ⟨[(604426016319167176900660,[(11,.one .ptr)])],[(0,[(8,.one (.int .i64))]),(2,[])],[],[(0,[(8,.one (.int .i64)),(26,.one (.int .i64))]),(2,[(69,.one (.int .i64))])]⟩ Go.Proofs.Tryz.func219 (by kernel_rfl)
def z076 (d:Option Addr) (names:Sl):Prog :=
Aw F.a45 [Aq d] λn0=>
Ag n0 λn1=>
Ac (n1 != 0) (
Ag n1 λn2=>
Ah 0 [Ai n2])<|
Ax 1 (
AV 2 (0,()) λn3=>
Ac (decide (n3<(Ad names))) (
.ex [.adr] (c1 λa4=>0<=n3/\n3<(Ad names)/\names.a=some a4) (u1 λa5=>
Bh T.a55 a5 (Int.toNat n3*1) λs6=>
Bf s6 λs7=>
As d λa9=>
B5 T.a23 a9 4 λm10=>
B6 (Instr.lookup T.a23 (.map m10) (.string s7) false) λp11=>
Ac (Option.isNone p11) (
Ah 0 [Ai 3])<|
Ah 2 [Ai (Af (n3+1))]))<|
Ah 1 [])<|
Ak 1 (
Ac ((Ad names) == 0) (
An F.a37 [Aq d,.string (ByteArray.mk #[])] λl12=>
Ah 1 [l12.v])<|
Ah 1 [names.v]) λl13=>
Ax 1 (
AV 2 (0,()) λn14=>
Ac (decide (n14<(Ad l13))) (
.ex [.adr] (c1 λa15=>0<=n14/\n14<(Ad l13)/\l13.a=some a15) (u1 λa16=>
Bh T.a55 a16 (Int.toNat n14*1) λs17=>
Bf s17 λs18=>
As d λa20=>
B5 T.a23 a20 4 λm21=>
B6 (Instr.lookup T.a23 (.map m21) (.string s18) false) λp22=>
As p22 λa24=>
Ae T.a50 a24 0 λl25=>
As p22 λa27=>
Be T.a13 a27 1 (Ai (Ad l25))<|
Ah 2 [Ai (Af (n14+1))]))<|
Ah 1 [])<|
As d λa29=>
Ay F.a48 [Au a29 0]<|
Ah 0 [Ai 0]
theorem ztn (d:Option Addr) (names:Sl):FnS (z076 d names) F.a42 #[.pointer d,.slice names.a names.len names.cap]:=dV ⟨[(105553116274720,[(1,.one .slc)])],[(0,[]),(2,[])],[],[(0,[(18,.one (.int .i64))]),(2,[(37,.one (.int .i64))])]⟩ Go.Proofs.Tryz.func220 (by kernel_rfl)
def z0ad (d:Option Addr) (from_:ByteArray) (to_:ByteArray):Prog :=
Aw F.a45 [Aq d] λn0=>
Ag n0 λn1=>
Ac (n1 != 0) (
Ag n1 λn2=>
Ah 0 [Ai n2])<|
As d λa4=>
B5 T.a23 a4 4 λm5=>
B6 (Instr.lookup T.a23 (.map m5) (.string from_) false) λp6=>
AJ (Option.isNone p6) (
Ah 0 [Ai 3])<|
Ar F.a46 [.string to_] λb8=>
AJ (not b8) (
Ah 0 [Ai 2])<|
Ax 1 (
Ac (not (ByteArray.toList from_ == ByteArray.toList to_)) (
Ay F.a44 [Aq d,.string to_]<|
As d λa11=>
B5 T.a23 a11 4 λm12=>
BA (Builtin.delete_ #[T.a23,T.a55] T.a57 #[.map m12,.string from_])<|
As d λa14=>
B5 T.a23 a14 4 λm15=>
Bs (Instr.mapUpdate T.a23 (.map m15) (.string to_) (Aq p6))<|
Ah 1 [])<|
Ah 1 [])<|
As d λa17=>
Ay F.a48 [Au a17 0]<|
Ah 0 [Ai 0]
def z0an (m:Option Nat) (del:Value):Prog :=
BD (Instr.range T.a21 (.map m)) λa0=>
Ax 1 (
.loop 2 [] () (u0 <|
.next (Instr.next (Ap a0) false T.a57) ([.agg [.int .i64,.int .i64],.agg [.int .i64,.int .i64,.int .i64,.int .i64]]) (u6 λ(n1 n2 n3 n4 n5 n6:Int)=>
.act (Instr.entry (Ap a0)) (.tup [.agg [.int .i64,.int .i64],.agg [.int .i64,.int .i64,.int .i64,.int .i64]]) (u6 λ(n7 n8 n9 n10 n11 n12:Int)=>
AB T.a17 λa13=>
AB T.a18 λa14=>
AC T.a17 a13 (AI n7 n8)<|
AC T.a18 a14 (BE n9 n10 n11 n12)<|
AN T.a17 a13 λn15 n16=>
BF T.a18 a14 λn17 n18 n19 n20=>
Bq del [AI n15 n16,BE n17 n18 n19 n20] λb21=>
Ax 3 (
Ac b21 (
AN T.a17 a13 λn22 n23=>
BA (Builtin.delete_ #[T.a21,T.a17] T.a57 #[.map m,AI n22 n23])<|
Ah 3 [])<|
Ah 3 [])<|
Ah 2 [])) <|
Ah 1 []))<|
Ah 0 []
def zzh (x:Int):Prog :=
BG 1 (
Ac (decide (x>=4294967296)) (
Am (Int.fdiv x 4294967296) λn0=>
Ah 1 [.int .u64 n0,Ai 32])<|
Ah 1 [.int .u64 x,Ai 0]) λn1 n2=>
BG 1 (
Ac (decide (n1>=65536)) (
Am (Int.fdiv n1 65536) λn3=>
Ag (Af (n2+16)) λn4=>
Ah 1 [.int .u64 n3,Ai n4])<|
Ah 1 [.int .u64 n1,Ai n2]) λn5 n6=>
BG 1 (
Ac (decide (n5>=256)) (
Am (Int.fdiv n5 256) λn7=>
Ag (Af (n6+8)) λn8=>
Ah 1 [.int .u64 n7,Ai n8])<|
Ah 1 [.int .u64 n5,Ai n6]) λn9 n10=>
.must (0<=IntKind.wrap .u8 n9/\IntKind.wrap .u8 n9<256) <|
Ag (Af (n10+Af (bt (ByteArray.mk #[0,1,2,2,3,3,3,3,4,4,4,4,4,4,4,4,5,5,5,5,5,5,5,5,5,5,5,5,5,5,5,5,6,6,6,6,6,6,6,6,6,6,6,6,6,6,6,6,6,6,6,6,6,6,6,6,6,6,6,6,6,6,6,6,7,7,7,7,7,7,7,7,7,7,7,7,7,7,7,7,7,7,7,7,7,7,7,7,7,7,7,7,7,7,7,7,7,7,7,7,7,7,7,7,7,7,7,7,7,7,7,7,7,7,7,7,7,7,7,7,7,7,7,7,7,7,7,7,8,8,8,8,8,8,8,8,8,8,8,8,8,8,8,8,8,8,8,8,8,8,8,8,8,8,8,8,8,8,8,8,8,8,8,8,8,8,8,8,8,8,8,8,8,8,8,8,8,8,8,8,8,8,8,8,8,8,8,8,8,8,8,8,8,8,8,8,8,8,8,8,8,8,8,8,8,8,8,8,8,8,8,8,8,8,8,8,8,8,8,8,8,8,8,8,8,8,8,8,8,8,8,8,8,8,8,8,8,8,8,8,8,8,8,8,8,8,8,8,8,8,8,8,8,8,8,8]) (IntKind.wrap .u8 n9)))) λn11=>
Ah 0 [Ai n11]
theorem zgu (x:Int):FnS (zzh x) F.a87 #[.int .u64 x]:=dV ⟨[(413700,[(0,.one (.int .u64)),(2,.one (.int .i64))]),(31477768,[(0,.one (.int .u64)),(2,.one (.int .i64))]),(2013286414,[(0,.one (.int .u64)),(2,.one (.int .i64))])],[],[],[]⟩ Go.Proofs.Tryz.func239 (by kernel_rfl)
def z01x (s:Sl) (f:Value):Prog :=
Ax 1 (
AV 2 (0,()) λn0=>
Ac (decide (n0<(Ad s))) (
Ag n0 λn1=>
.ex [.adr] (c1 λa2=>0<=n1/\n1<(Ad s)/\s.a=some a2) (u1 λa3=>
AA T.a0 a3 (Int.toNat n1*7) λn4 n5 n6 n7 n8 n9 l10=>
Bq f [AD n4 n5 n6 n7 n8 n9 l10] λb11=>
Ac b11 (
Ag n1 λn12=>
Ah 0 [Ai n12])<|
Ah 2 [Ai (Af (n0+1))]))<|
Ah 1 [])<|
Ah 0 [Ai (-1)]
theorem zon (s:Sl) (f:Value) {w:World} {R:List Value->World->Prop} (h:(z01x s f).wp P (λ_=>True) w λe vs w'=>e=0/\R vs w'):Ret P F.a177 #[.slice s.a s.len s.cap,f] w R:=dS (n:=19) (rv:=[.tmp 4]) { cnd:=[],blk:=[(0,[])],reg:=[],lps:=[(0,[(8,.one (.int .i64))])] } [.val (.slice s.a s.len s.cap),.any f] Go.Proofs.Tryz.func240 (by kernel_rfl) (by kernel_rfl) (by kernel_rfl) (by kernel_rfl) h
def z070 (d:Option Addr) (name:ByteArray) (n:Int):Prog :=
Aw F.a45 [Aq d] λn0=>
Ag n0 λn1=>
Ac (n1 != 0) (
Ag n1 λn2=>
Ah 0 [Ai n2])<|
As d λa4=>
B5 T.a23 a4 4 λm5=>
B6 (Instr.lookup T.a23 (.map m5) (.string name) false) λp6=>
AJ (Option.isNone p6) (
Ah 0 [Ai 3])<|
AZ (decide (n<0)=false) p6 λa9=>
Ba (decide (n<0)=false) T.a50 a9 0 λl10=>
AJ (decide (n<0) || decide (n>(Ad l10))) (
Ah 0 [Ai 2])<|
AT<|
As d λa13=>
Az T.a13 a13 3 λn14=>
As p6 λa16=>
Ae T.a50 a16 0 λl17=>
As d λa19=>
Be T.a13 a19 3 (Ai (Af (n14-Af ((Ad l17)-n))))<|
AU<|
As p6 λa21=>
Ae T.a50 a21 0 λl22=>
.must (0<=n/\n<=n/\n<=((l22.cap:Nat):Int)) <|
As p6 λa24=>
Be T.a50 a24 0 (.slice l22.a (Int.toNat n) (Int.toNat n))<|
As p6 λa26=>
Az T.a13 a26 1 λn27=>
As p6 λa29=>
Be T.a13 a29 1 (Ai (if n<n27 then n else n27))<|
As d λa31=>
Ay F.a48 [Au a31 0]<|
Ah 0 [Ai 0]
theorem zth (d:Option Addr) (name:ByteArray) (n:Int):FnS (z070 d name n) F.a34 #[.pointer d,.string name,.int .i64 n]:=dV ⟨[],[],[],[]⟩ Go.Proofs.Tryz.func251 (by kernel_rfl)
def z01z (x:Sl) (cmp:Value):Prog :=
Ag (Ad x) λn0=>
Aw F.a86 [.int .u64 (IntKind.wrap .u64 n0)] λn1=>
Ay F.a214 [x.v,Ai 0,Ai n0,Ai n1,cmp]<|
Ah 0 []
theorem zop (x:Sl) (cmp:Value) {w:World} {R:List Value->World->Prop} (h:(z01z x cmp).wp P (λ_=>True) w λe vs w'=>e=0/\R vs w'):Ret P F.a180 #[.slice x.a x.len x.cap,cmp] w R:=dS (n:=14) (rv:=[]) { cnd:=[],blk:=[],reg:=[],lps:=[] } [.val (.slice x.a x.len x.cap),.any cmp] Go.Proofs.Tryz.func266 (by kernel_rfl) (by kernel_rfl) (by kernel_rfl) (by kernel_rfl) h
def zf1 (x:Int) (y:Int):Prog :=
Ar F.a3 [Ai x] λb0=>
AM b0 λb1=>
Ar F.a3 [Ai y] λb2=>
AM b2 λb3=>
Ac b1 (
Ac b3 (
Ah 0 [Ai 0])<|
Ah 0 [Ai (-1)])<|
Ac b3 (
Ah 0 [Ai 1])<|
Ac (decide (x<y)) (
Ah 0 [Ai (-1)])<|
Ac (decide (x>y)) (
Ah 0 [Ai 1])<|
Ah 0 [Ai 0]
theorem zwu (x y:Int):FnS (zf1 x y) F.a1 #[.int .i64 x,.int .i64 y]:=dV ⟨[],[],[],[]⟩ Go.Proofs.Tryz.func268 (by kernel_rfl)
def z07a (s:ByteArray):Prog :=
Ac (decide (((ByteArray.size s:Nat):Int)<1) || decide (((ByteArray.size s:Nat):Int)>24)) (
Ah 0 [.bool false])<|
Aj (convert T.a55 T.a50 (.string s)) λl0=>
Ax 1 (
AV 2 (0,()) λn1=>
Ac (decide (n1<(Ad l0))) (
.ex [.adr] (c1 λa2=>0<=n1/\n1<(Ad l0)/\l0.a=some a2) (u1 λa3=>
Bc T.a56 a3 (Int.toNat n1*1) λn4=>
Bd n4 λn5=>
AM (decide (n5>=97) && decide (n5<=122)) λb6=>
AM (decide (n5>=48) && decide (n5<=57)) λb7=>
Ac (not b6 && not b7 && n5 != 46 && n5 != 45) (
Ah 0 [.bool false])<|
Ah 2 [Ai (Af (n1+1))]))<|
Ah 1 [])<|
Ah 0 [.bool true]
theorem ztr (s:ByteArray):FnS (z07a s) F.a46 #[.string s]:=dV ⟨[],[(0,[])],[],[(0,[(18,.one (.int .i64))])]⟩ Go.Proofs.Tryz.func281 (by kernel_rfl)
def z071 (d:Option Addr):Prog :=
Ac (Option.isNone d) (
Ah 0 [Ai 0])<|
AT<|
As d λa1=>
Az T.a13 a1 2 λn2=>
As d λa4=>
Az T.a13 a4 3 λn5=>
Ag (if 0>Af (n2-n5) then 0 else Af (n2-n5)) λn6=>
AU<|
Ah 0 [Ai n6]
theorem zti (d:Option Addr):FnS (z071 d) F.a35 #[.pointer d]:=dV ⟨[],[],[],[]⟩ Go.Proofs.Tryz.func282 (by kernel_rfl)
def z09j (length:Int):Prog :=
Aw F.a86 [.int .u64 (IntKind.wrap .u64 length)] λn0=>
.must (0<=n0) <|
Am (IntKind.wrap .u64 (1*2 ^ min (Int.toNat n0) 64)) λn1=>
Ah 0 [.int .u64 n1]
def z0a4 (r:Option Addr):Prog :=
AT<|
As r λa1=>
BH T.a54 a1 λn2=>
As r λa4=>
BH T.a54 a4 λn5=>
As r λa7=>
AC T.a54 a7 (.int .u64 (IntKind.wrap .u64 (((BitVec.toNat (BitVec.ofInt 64 n2 ^^^ BitVec.ofInt 64 (IntKind.wrap .u64 (n5*8192))):Nat):Int))))<|
AU<|
AT<|
As r λa9=>
BH T.a54 a9 λn10=>
As r λa12=>
BH T.a54 a12 λn13=>
As r λa15=>
AC T.a54 a15 (.int .u64 (IntKind.wrap .u64 (((BitVec.toNat (BitVec.ofInt 64 n10 ^^^ BitVec.ofInt 64 (Int.fdiv n13 128)):Nat):Int))))<|
AU<|
AT<|
As r λa17=>
BH T.a54 a17 λn18=>
As r λa20=>
BH T.a54 a20 λn21=>
As r λa23=>
AC T.a54 a23 (.int .u64 (IntKind.wrap .u64 (((BitVec.toNat (BitVec.ofInt 64 n18 ^^^ BitVec.ofInt 64 (IntKind.wrap .u64 (n21*131072))):Nat):Int))))<|
AU<|
As r λa25=>
BH T.a54 a25 λn26=>
Am n26 λn27=>
Ah 0 [.int .u64 n27]
def zf87 (m:Option Nat):Prog :=
Ao T.a23 (.map m) λa0=>
Ah 0 [.func (Fn.func 324) #[] #[Ap a0]]
theorem zf87_calls (m:Option Nat):FnS (zf87 m) F.a84 #[.map m]:=dV ⟨[],[],[],[]⟩ Go.Proofs.Tryz.func292 (by kernel_rfl)
def zf231 (s:ByteArray) (prefix_:ByteArray):Prog :=
Ar F.a62 [.string s,.string prefix_] λb0=>
AM b0 λb1=>
Ah 0 [.bool b1]
theorem zf231_calls (s prefix_:ByteArray):FnS (zf231 s prefix_) F.a224 #[.string s,.string prefix_]:=dV ⟨[],[],[],[]⟩ Go.Proofs.Tryz.func293 (by kernel_rfl)
def z091 (x:Sl):Prog :=
Ag (Ad x) λn0=>
Aw F.a86 [.int .u64 (IntKind.wrap .u64 n0)] λn1=>
Ay F.a215 [x.v,Ai 0,Ai n0,Ai n1]<|
Ah 0 []
def z021 (data:Sl) (a b limit:Int) (cmp:Value):Prog :=
BI 1 (a,(b,(limit,(true,(true,()))))) λn0 n1 n2 b3 b4=>
BJ 2 (
Ag (Af (n1-n0)) λn5=>
Ac (decide (n5<=12)) (
Ay F.a192 [data.v,Ai n0,Ai n1,cmp]<|
Ah 0 [])<|
Ac (n2 == 0) (
Ay F.a189 [data.v,Ai n0,Ai n1,cmp]<|
Ah 0 [])<|
Aa 3 (
Ac (not b3) (
Ay F.a183 [data.v,Ai n0,Ai n1,cmp]<|
Ag (Af (n2-1)) λn6=>
Ah 3 [Ai n6])<|
Ah 3 [Ai n2]) λn7=>
BK F.a186 [data.v,Ai n0,Ai n1,cmp] λn8 n9=>
Ag n8 λn10=>
Ag n9 λn11=>
BB 3 (
Ac (n11 == 2) (
Ay F.a217 [data.v,Ai n0,Ai n1,cmp]<|
Ag (Af (Af (n1-1)-Af (n10-n0))) λn12=>
Ah 3 [Ai n12,Ai 1])<|
Ah 3 [Ai n10,Ai n11]) λn13 n14=>
Ax 3 (
Ac (b3 && b4 && n14 == 1) (
Ar F.a205 [data.v,Ai n0,Ai n1,cmp] λb15=>
Ac b15 (
Ah 0 [])<|
Ah 3 [])<|
Ah 3 [])<|
AK 3 (
AT<|
.ex [.adr] (c1 λa16=>decide (n0>0)=true->0<=Af (n0-1)/\Af (n0-1)<(Ad data)/\data.a=some a16) (u1 λa17=>
BL (decide (n0>0)=true) T.a15 a17 (Int.toNat (Af (n0-1))*4) λn18 n19 n20 n21=>
.ex [.adr] (c1 λa22=>decide (n0>0)=true->0<=n13/\n13<(Ad data)/\data.a=some a22) (u1 λa23=>
BL (decide (n0>0)=true) T.a15 a23 (Int.toNat n13*4) λn24 n25 n26 n27=>
Ac (decide (n0>0)) (
BM cmp [BE n18 n19 n20 n21,BE n24 n25 n26 n27] λn28=>
AU<|
Ah 3 [.bool (not (decide (n28<0)))])<|
AU<|
Ah 3 [.bool false]))) λb29=>
Ac b29 (
Aw F.a210 [data.v,Ai n0,Ai n1,Ai n13,cmp] λn30=>
Ag n30 λn31=>
Ag n31 λn32=>
Ah 2 [Ai n32,Ai n1,Ai n7,.bool b3,.bool b4])<|
Bi F.a208 [data.v,Ai n0,Ai n1,Ai n13,cmp] λn33 b34=>
Ag n33 λn35=>
AM b34 λb36=>
AM b36 λb37=>
Ag (Af (n35-n0)) λn38=>
Ag (Af (n1-n35)) λn39=>
Ag (Af (Int.tdiv n5 8)) λn40=>
BN 3 (
Ac (decide (n38<n39)) (
AM (decide (n38>=n40)) λb41=>
Ay F.a214 [data.v,Ai n0,Ai n35,Ai n7,cmp]<|
Ag (Af (n35+1)) λn42=>
Ah 3 [Ai n42,Ai n1,.bool b41])<|
AM (decide (n39>=n40)) λb43=>
Ay F.a214 [data.v,Ai (Af (n35+1)),Ai n1,Ai n7,cmp]<|
Ag n35 λn44=>
Ah 3 [Ai n0,Ai n44,.bool b43]) λn45 n46 b47=>
Ah 2 [Ai n45,Ai n46,Ai n7,.bool b47,.bool b37]) λn48 n49 n50 b51 b52=>
Ah 1 [Ai n48,Ai n49,Ai n50,.bool b51,.bool b52]
theorem zor (data:Sl) (a b limit:Int) (cmp:Value) {w:World} {R:List Value->World->Prop} (h:(z021 data a b limit cmp).wp P (λ_=>True) w λe vs w'=>e=0/\R vs w'):Ret P F.a214 #[.slice data.a data.len data.cap,.int .i64 a,.int .i64 b,.int .i64 limit,cmp] w R:=dS (n:=148) (rv:=[]) { cnd:=[(571957152676085799,[(3,.one (.int .i64))]),(1208335523804270569717816,[(13,.one (.int .i64)),(14,.one (.int .i64))]),(9594035304461697130468212811,[]),(1461501288881759191162698246220685009525288231037,[(1,.one (.int .i64)),(2,.one (.int .i64)),(10,.one .bool)])],blk:=[(1,[(1,.one (.int .i64)),(2,.one (.int .i64)),(3,.one (.int .i64)),(10,.one .bool),(11,.one .bool)])],reg:=[(17,[(97,.one .bool)])],lps:=[(0,[(1,.one (.int .i64)),(2,.one (.int .i64)),(3,.one (.int .i64)),(10,.one .bool),(11,.one .bool)])] } [.val (.slice data.a data.len data.cap),.val (.int .i64 a),.val (.int .i64 b),.val (.int .i64 limit),.any cmp] Go.Proofs.Tryz.func312 (by kernel_rfl) (by kernel_rfl) (by kernel_rfl) (by kernel_rfl) h
def zf3 (x:Int):Prog :=
AM (x != x) λb0=>
Ah 0 [.bool b0]
theorem zwv (x:Int):FnS (zf3 x) F.a3 #[.int .i64 x]:=dV ⟨[],[],[],[]⟩ Go.Proofs.Tryz.func313 (by kernel_rfl)
def zf63 (s:ByteArray) (prefix_:ByteArray):Prog :=
.must (decide (((ByteArray.size s:Nat):Int)>=((ByteArray.size prefix_:Nat):Int))=true->0<=((ByteArray.size prefix_:Nat):Int)/\((ByteArray.size prefix_:Nat):Int)<=((ByteArray.size s:Nat):Int)) <|
AM (decide (((ByteArray.size s:Nat):Int)>=((ByteArray.size prefix_:Nat):Int)) && ByteArray.toList (ByteArray.extract s 0 (Int.toNat (((ByteArray.size prefix_:Nat):Int)))) == ByteArray.toList prefix_) λb0=>
Ah 0 [.bool b0]
theorem zf63_calls (s prefix_:ByteArray):FnS (zf63 s prefix_) F.a62 #[.string s,.string prefix_]:=dV ⟨[],[],[],[]⟩ Go.Proofs.Tryz.func325 (by kernel_rfl)
def z09x (data:Sl) (a b:Int) (limit:Int):Prog :=
BI 1 (a,(b,(limit,(true,(true,()))))) λn0 n1 n2 b3 b4=>
BJ 2 (
Ag (Af (n1-n0)) λn5=>
Ac (decide (n5<=12)) (
Ay F.a193 [data.v,Ai n0,Ai n1]<|
Ah 0 [])<|
Ac (n2 == 0) (
Ay F.a190 [data.v,Ai n0,Ai n1]<|
Ah 0 [])<|
Aa 3 (
Ac (not b3) (
Ay F.a184 [data.v,Ai n0,Ai n1]<|
Ag (Af (n2-1)) λn6=>
Ah 3 [Ai n6])<|
Ah 3 [Ai n2]) λn7=>
BK F.a187 [data.v,Ai n0,Ai n1] λn8 n9=>
Ag n8 λn10=>
Ag n9 λn11=>
BB 3 (
Ac (n11 == 2) (
Ay F.a218 [data.v,Ai n0,Ai n1]<|
Ag (Af (Af (n1-1)-Af (n10-n0))) λn12=>
Ah 3 [Ai n12,Ai 1])<|
Ah 3 [Ai n10,Ai n11]) λn13 n14=>
Ax 3 (
Ac (b3 && b4 && n14 == 1) (
Ar F.a206 [data.v,Ai n0,Ai n1] λb15=>
Ac b15 (
Ah 0 [])<|
Ah 3 [])<|
Ah 3 [])<|
AK 3 (
AT<|
.ex [.adr] (c1 λa16=>decide (n0>0)=true->0<=Af (n0-1)/\Af (n0-1)<(Ad data)/\data.a=some a16) (u1 λa17=>
By (decide (n0>0)=true) T.a55 a17 (Int.toNat (Af (n0-1))*1) λs18=>
.ex [.adr] (c1 λa19=>decide (n0>0)=true->0<=n13/\n13<(Ad data)/\data.a=some a19) (u1 λa20=>
By (decide (n0>0)=true) T.a55 a20 (Int.toNat n13*1) λs21=>
Ac (decide (n0>0)) (
Ar F.a2 [.string s18,.string s21] λb22=>
AU<|
Ah 3 [.bool (not b22)])<|
AU<|
Ah 3 [.bool false]))) λb23=>
Ac b23 (
Aw F.a211 [data.v,Ai n0,Ai n1,Ai n13] λn24=>
Ag n24 λn25=>
Ag n25 λn26=>
Ah 2 [Ai n26,Ai n1,Ai n7,.bool b3,.bool b4])<|
Bi F.a212 [data.v,Ai n0,Ai n1,Ai n13] λn27 b28=>
Ag n27 λn29=>
AM b28 λb30=>
AM b30 λb31=>
Ag (Af (n29-n0)) λn32=>
Ag (Af (n1-n29)) λn33=>
Ag (Af (Int.tdiv n5 8)) λn34=>
BN 3 (
Ac (decide (n32<n33)) (
AM (decide (n32>=n34)) λb35=>
Ay F.a215 [data.v,Ai n0,Ai n29,Ai n7]<|
Ag (Af (n29+1)) λn36=>
Ah 3 [Ai n36,Ai n1,.bool b35])<|
AM (decide (n33>=n34)) λb37=>
Ay F.a215 [data.v,Ai (Af (n29+1)),Ai n1,Ai n7]<|
Ag n29 λn38=>
Ah 3 [Ai n0,Ai n38,.bool b37]) λn39 n40 b41=>
Ah 2 [Ai n39,Ai n40,Ai n7,.bool b41,.bool b31]) λn42 n43 n44 b45 b46=>
Ah 1 [Ai n42,Ai n43,Ai n44,.bool b45,.bool b46]
def z020 (data:Sl) (a b:Int) (cmp:Value):Prog :=
Ag (Af (a+1)) λn0=>
Ax 1 (
AV 2 (n0,()) λn1=>
Ac (decide (n1<b)) (
Ax 3 (
Ag n1 λn2=>
Ax 4 (
AV 5 (n2,()) λn3=>
AK 6 (
AT<|
.ex [.adr] (c1 λa4=>decide (n3>a)=true->0<=n3/\n3<(Ad data)/\data.a=some a4) (u1 λa5=>
BL (decide (n3>a)=true) T.a15 a5 (Int.toNat n3*4) λn6 n7 n8 n9=>
.ex [.adr] (c1 λa10=>decide (n3>a)=true->0<=Af (n3-1)/\Af (n3-1)<(Ad data)/\data.a=some a10) (u1 λa11=>
BL (decide (n3>a)=true) T.a15 a11 (Int.toNat (Af (n3-1))*4) λn12 n13 n14 n15=>
Ac (decide (n3>a)) (
BM cmp [BE n6 n7 n8 n9,BE n12 n13 n14 n15] λn16=>
AU<|
Ah 6 [.bool (decide (n16<0))])<|
AU<|
Ah 6 [.bool false]))) λb17=>
Ac b17 (
Ax 6 (
AT<|
.ex [.adr] (c1 λa18=>0<=Af (n3-1)/\Af (n3-1)<(Ad data)/\data.a=some a18) (u1 λa19=>
BO T.a15 a19 (Int.toNat (Af (n3-1))*4) λn20 n21 n22 n23=>
.ex [.adr] (c1 λa24=>0<=n3/\n3<(Ad data)/\data.a=some a24) (u1 λa25=>
BO T.a15 a25 (Int.toNat n3*4) λn26 n27 n28 n29=>
.ex [.adr] (c1 λa30=>0<=n3/\n3<(Ad data)/\data.a=some a30) (u1 λa31=>
Be T.a15 a31 (Int.toNat n3*4) (BE n20 n21 n22 n23)<|
.ex [.adr] (c1 λa32=>0<=Af (n3-1)/\Af (n3-1)<(Ad data)/\data.a=some a32) (u1 λa33=>
Be T.a15 a33 (Int.toNat (Af (n3-1))*4) (BE n26 n27 n28 n29)<|
AU<|
Ah 6 [])))))<|
Ag (Af (n3-1)) λn34=>
Ah 5 [Ai n34])<|
Ah 4 [])<|
Ah 3 [])<|
Ag (Af (n1+1)) λn35=>
Ah 2 [Ai n35])<|
Ah 1 [])<|
Ah 0 []
theorem zoq (data:Sl) (a b:Int) (cmp:Value) {w:World} {R:List Value->World->Prop} (h:(z020 data a b cmp).wp P (λ_=>True) w λe vs w'=>e=0/\R vs w'):Ret P F.a192 #[.slice data.a data.len data.cap,.int .i64 a,.int .i64 b,cmp] w R:=dS (n:=53) (rv:=[]) { cnd:=[],blk:=[(0,[]),(1,[]),(2,[])],reg:=[(4,[(34,.one .bool)]),(6,[])],lps:=[(0,[(8,.one (.int .i64))]),(2,[(9,.one (.int .i64))])] } [.val (.slice data.a data.len data.cap),.val (.int .i64 a),.val (.int .i64 b),.any cmp] Go.Proofs.Tryz.func329 (by kernel_rfl) (by kernel_rfl) (by kernel_rfl) (by kernel_rfl) h
def z099 (data:Sl) (a b:Int) (cmp:Value):Prog :=
Ag a λn0=>
Ag (Af (b-a)) λn1=>
Ag (Af (Int.tdiv (Af (n1-1)) 2)) λn2=>
Ax 1 (
AV 2 (n2,()) λn3=>
Ac (decide (n3>=0)) (
Ay F.a220 [data.v,Ai n3,Ai n1,Ai n0,cmp]<|
Ag (Af (n3-1)) λn4=>
Ah 2 [Ai n4])<|
Ah 1 [])<|
Ag (Af (n1-1)) λn5=>
Ax 1 (
AV 2 (n5,()) λn6=>
Ac (decide (n6>=0)) (
Ax 3 (
AT<|
.ex [.adr] (c1 λa7=>0<=Af (n0+n6)/\Af (n0+n6)<(Ad data)/\data.a=some a7) (u1 λa8=>
BO T.a15 a8 (Int.toNat (Af (n0+n6))*4) λn9 n10 n11 n12=>
.ex [.adr] (c1 λa13=>0<=n0/\n0<(Ad data)/\data.a=some a13) (u1 λa14=>
BO T.a15 a14 (Int.toNat n0*4) λn15 n16 n17 n18=>
.ex [.adr] (c1 λa19=>0<=n0/\n0<(Ad data)/\data.a=some a19) (u1 λa20=>
Be T.a15 a20 (Int.toNat n0*4) (BE n9 n10 n11 n12)<|
.ex [.adr] (c1 λa21=>0<=Af (n0+n6)/\Af (n0+n6)<(Ad data)/\data.a=some a21) (u1 λa22=>
Be T.a15 a22 (Int.toNat (Af (n0+n6))*4) (BE n15 n16 n17 n18)<|
AU<|
Ah 3 [])))))<|
Ay F.a220 [data.v,Ai 0,Ai n6,Ai n0,cmp]<|
Ag (Af (n6-1)) λn23=>
Ah 2 [Ai n23])<|
Ah 1 [])<|
Ah 0 []
def z093 (data:Sl) (a b:Int) (cmp:Value):Prog :=
Ag (Af (b-a)) λn0=>
Ax 1 (
Ac (decide (n0>=8)) (
AB T.a54 λa1=>
AC T.a54 a1 (.int .u64 (IntKind.wrap .u64 n0))<|
Av F.a200 [Ai n0] λn2=>
Am n2 λn3=>
Ag (Af (Af (a+Af (Af (Int.tdiv n0 4)*2))-1)) λn4=>
Ax 2 (
AV 3 (n4,()) λn5=>
Ac (decide (n5<=Af (Af (a+Af (Af (Int.tdiv n0 4)*2))+1))) (
Av F.a222 [Ap a1] λn6=>
Ag (Af (IntKind.wrap .u64 (((BitVec.toNat (BitVec.ofInt 64 n6 &&& BitVec.ofInt 64 (IntKind.wrap .u64 (n3-1))):Nat):Int)))) λn7=>
Aa 4 (
Ac (decide (n7>=n0)) (
Ag (Af (n7-n0)) λn8=>
Ah 4 [Ai n8])<|
Ah 4 [Ai n7]) λn9=>
Ax 4 (
AT<|
.ex [.adr] (c1 λa10=>0<=Af (a+n9)/\Af (a+n9)<(Ad data)/\data.a=some a10) (u1 λa11=>
BO T.a15 a11 (Int.toNat (Af (a+n9))*4) λn12 n13 n14 n15=>
.ex [.adr] (c1 λa16=>0<=n5/\n5<(Ad data)/\data.a=some a16) (u1 λa17=>
BO T.a15 a17 (Int.toNat n5*4) λn18 n19 n20 n21=>
.ex [.adr] (c1 λa22=>0<=n5/\n5<(Ad data)/\data.a=some a22) (u1 λa23=>
Be T.a15 a23 (Int.toNat n5*4) (BE n12 n13 n14 n15)<|
.ex [.adr] (c1 λa24=>0<=Af (a+n9)/\Af (a+n9)<(Ad data)/\data.a=some a24) (u1 λa25=>
Be T.a15 a25 (Int.toNat (Af (a+n9))*4) (BE n18 n19 n20 n21)<|
AU<|
Ah 4 [])))))<|
Ag (Af (n5+1)) λn26=>
Ah 3 [Ai n26])<|
Ah 2 [])<|
Ah 1 [])<|
Ah 1 [])<|
Ah 0 []
def z096 (data:Sl) (a b:Int) (cmp:Value):Prog :=
Ag (Af (b-a)) λn0=>
AB T.a13 λa1=>
Ag (Af (a+Af (Af (Int.tdiv n0 4)*1))) λn2=>
Ag (Af (a+Af (Af (Int.tdiv n0 4)*2))) λn3=>
Ag (Af (a+Af (Af (Int.tdiv n0 4)*3))) λn4=>
Aa 1 (
Ac (decide (n0>=8)) (
BQ 2 (
Ac (decide (n0>=50)) (
Aw F.a195 [data.v,Ai n2,Ap a1,cmp] λn5=>
Ag n5 λn6=>
Aw F.a195 [data.v,Ai n3,Ap a1,cmp] λn7=>
Ag n7 λn8=>
Aw F.a195 [data.v,Ai n4,Ap a1,cmp] λn9=>
Ag n9 λn10=>
Ah 2 [Ai n6,Ai n8,Ai n10])<|
Ah 2 [Ai n2,Ai n3,Ai n4]) λn11 n12 n13=>
Aw F.a198 [data.v,Ai n11,Ai n12,Ai n13,Ap a1,cmp] λn14=>
Ag n14 λn15=>
Ah 1 [Ai n15])<|
Ah 1 [Ai n3]) λn16=>
AS T.a13 a1 λn17=>
AJ (n17 == 0) (
Ag n16 λn19=>
Ah 0 [Ai n19,Ai 1])<|
AJ (n17 == 12) (
Ag n16 λn21=>
Ah 0 [Ai n21,Ai 2])<|
Ag n16 λn22=>
Ah 0 [Ai n22,Ai 0]
def z09z (data:Sl) (a b:Int) (cmp:Value):Prog :=
Ag a λn0=>
Ag (Af (b-1)) λn1=>
Ax 1 (
Ab 2 (n0,(n1,())) λn2 n3=>
Ac (decide (n2<n3)) (
Ax 3 (
AT<|
.ex [.adr] (c1 λa4=>0<=n3/\n3<(Ad data)/\data.a=some a4) (u1 λa5=>
BO T.a15 a5 (Int.toNat n3*4) λn6 n7 n8 n9=>
.ex [.adr] (c1 λa10=>0<=n2/\n2<(Ad data)/\data.a=some a10) (u1 λa11=>
BO T.a15 a11 (Int.toNat n2*4) λn12 n13 n14 n15=>
.ex [.adr] (c1 λa16=>0<=n2/\n2<(Ad data)/\data.a=some a16) (u1 λa17=>
Be T.a15 a17 (Int.toNat n2*4) (BE n6 n7 n8 n9)<|
.ex [.adr] (c1 λa18=>0<=n3/\n3<(Ad data)/\data.a=some a18) (u1 λa19=>
Be T.a15 a19 (Int.toNat n3*4) (BE n12 n13 n14 n15)<|
AU<|
Ah 3 [])))))<|
Ag (Af (n2+1)) λn20=>
Ag (Af (n3-1)) λn21=>
Ah 2 [Ai n20,Ai n21])<|
Ah 1 [])<|
Ah 0 []
def z09o (data:Sl) (a b:Int) (cmp:Value):Prog :=
Ag (Af (a+1)) λn0=>
Ax 1 (
Ab 2 (n0,(0,())) λn1 n2=>
Ac (decide (n2<5)) (
Aa 3 (
Aa 4 (
AV 5 (n1,()) λn3=>
AK 6 (
AT<|
.ex [.adr] (c1 λa4=>decide (n3<b)=true->0<=n3/\n3<(Ad data)/\data.a=some a4) (u1 λa5=>
BL (decide (n3<b)=true) T.a15 a5 (Int.toNat n3*4) λn6 n7 n8 n9=>
.ex [.adr] (c1 λa10=>decide (n3<b)=true->0<=Af (n3-1)/\Af (n3-1)<(Ad data)/\data.a=some a10) (u1 λa11=>
BL (decide (n3<b)=true) T.a15 a11 (Int.toNat (Af (n3-1))*4) λn12 n13 n14 n15=>
Ac (decide (n3<b)) (
BM cmp [BE n6 n7 n8 n9,BE n12 n13 n14 n15] λn16=>
AU<|
Ah 6 [.bool (not (decide (n16<0)))])<|
AU<|
Ah 6 [.bool false]))) λb17=>
Ac b17 (
Ag (Af (n3+1)) λn18=>
Ah 5 [Ai n18])<|
Ah 4 [Ai n3]) λn19=>
Ac (n19 == b) (
Ah 0 [.bool true])<|
Ac (decide (Af (b-a)<50)) (
Ah 0 [.bool false])<|
Ax 4 (
AT<|
.ex [.adr] (c1 λa20=>0<=Af (n19-1)/\Af (n19-1)<(Ad data)/\data.a=some a20) (u1 λa21=>
BO T.a15 a21 (Int.toNat (Af (n19-1))*4) λn22 n23 n24 n25=>
.ex [.adr] (c1 λa26=>0<=n19/\n19<(Ad data)/\data.a=some a26) (u1 λa27=>
BO T.a15 a27 (Int.toNat n19*4) λn28 n29 n30 n31=>
.ex [.adr] (c1 λa32=>0<=n19/\n19<(Ad data)/\data.a=some a32) (u1 λa33=>
Be T.a15 a33 (Int.toNat n19*4) (BE n22 n23 n24 n25)<|
.ex [.adr] (c1 λa34=>0<=Af (n19-1)/\Af (n19-1)<(Ad data)/\data.a=some a34) (u1 λa35=>
Be T.a15 a35 (Int.toNat (Af (n19-1))*4) (BE n28 n29 n30 n31)<|
AU<|
Ah 4 [])))))<|
Ax 4 (
Ac (decide (Af (n19-a)>=2)) (
Ag (Af (n19-1)) λn36=>
Ax 5 (
AV 6 (n36,()) λn37=>
Ac (decide (n37>=1)) (
AT<|
.ex [.adr] (c1 λa38=>0<=n37/\n37<(Ad data)/\data.a=some a38) (u1 λa39=>
BO T.a15 a39 (Int.toNat n37*4) λn40 n41 n42 n43=>
.ex [.adr] (c1 λa44=>0<=Af (n37-1)/\Af (n37-1)<(Ad data)/\data.a=some a44) (u1 λa45=>
BO T.a15 a45 (Int.toNat (Af (n37-1))*4) λn46 n47 n48 n49=>
BM cmp [BE n40 n41 n42 n43,BE n46 n47 n48 n49] λn50=>
AU<|
Ac (not (decide (n50<0))) (
Ah 5 [])<|
Ax 7 (
AT<|
.ex [.adr] (c1 λa51=>0<=Af (n37-1)/\Af (n37-1)<(Ad data)/\data.a=some a51) (u1 λa52=>
BO T.a15 a52 (Int.toNat (Af (n37-1))*4) λn53 n54 n55 n56=>
.ex [.adr] (c1 λa57=>0<=n37/\n37<(Ad data)/\data.a=some a57) (u1 λa58=>
BO T.a15 a58 (Int.toNat n37*4) λn59 n60 n61 n62=>
.ex [.adr] (c1 λa63=>0<=n37/\n37<(Ad data)/\data.a=some a63) (u1 λa64=>
Be T.a15 a64 (Int.toNat n37*4) (BE n53 n54 n55 n56)<|
.ex [.adr] (c1 λa65=>0<=Af (n37-1)/\Af (n37-1)<(Ad data)/\data.a=some a65) (u1 λa66=>
Be T.a15 a66 (Int.toNat (Af (n37-1))*4) (BE n59 n60 n61 n62)<|
AU<|
Ah 7 [])))))<|
Ag (Af (n37-1)) λn67=>
Ah 6 [Ai n67])))<|
Ah 5 [])<|
Ah 4 [])<|
Ah 4 [])<|
Ax 4 (
Ac (decide (Af (b-n19)>=2)) (
Ag (Af (n19+1)) λn68=>
Ax 5 (
AV 6 (n68,()) λn69=>
Ac (decide (n69<b)) (
AT<|
.ex [.adr] (c1 λa70=>0<=n69/\n69<(Ad data)/\data.a=some a70) (u1 λa71=>
BO T.a15 a71 (Int.toNat n69*4) λn72 n73 n74 n75=>
.ex [.adr] (c1 λa76=>0<=Af (n69-1)/\Af (n69-1)<(Ad data)/\data.a=some a76) (u1 λa77=>
BO T.a15 a77 (Int.toNat (Af (n69-1))*4) λn78 n79 n80 n81=>
BM cmp [BE n72 n73 n74 n75,BE n78 n79 n80 n81] λn82=>
AU<|
Ac (not (decide (n82<0))) (
Ah 5 [])<|
Ax 7 (
AT<|
.ex [.adr] (c1 λa83=>0<=Af (n69-1)/\Af (n69-1)<(Ad data)/\data.a=some a83) (u1 λa84=>
BO T.a15 a84 (Int.toNat (Af (n69-1))*4) λn85 n86 n87 n88=>
.ex [.adr] (c1 λa89=>0<=n69/\n69<(Ad data)/\data.a=some a89) (u1 λa90=>
BO T.a15 a90 (Int.toNat n69*4) λn91 n92 n93 n94=>
.ex [.adr] (c1 λa95=>0<=n69/\n69<(Ad data)/\data.a=some a95) (u1 λa96=>
Be T.a15 a96 (Int.toNat n69*4) (BE n85 n86 n87 n88)<|
.ex [.adr] (c1 λa97=>0<=Af (n69-1)/\Af (n69-1)<(Ad data)/\data.a=some a97) (u1 λa98=>
Be T.a15 a98 (Int.toNat (Af (n69-1))*4) (BE n91 n92 n93 n94)<|
AU<|
Ah 7 [])))))<|
Ag (Af (n69+1)) λn99=>
Ah 6 [Ai n99])))<|
Ah 5 [])<|
Ah 4 [])<|
Ah 4 [])<|
Ah 3 [Ai n19]) λn100=>
Ag (Af (n2+1)) λn101=>
Ah 2 [Ai n100,Ai n101])<|
Ah 1 [])<|
Ah 0 [.bool false]
def z09t (data:Sl) (a b pivot:Int) (cmp:Value):Prog :=
Ax 1 (
AT<|
.ex [.adr] (c1 λa0=>0<=pivot/\pivot<(Ad data)/\data.a=some a0) (u1 λa1=>
BO T.a15 a1 (Int.toNat pivot*4) λn2 n3 n4 n5=>
.ex [.adr] (c1 λa6=>0<=a/\a<(Ad data)/\data.a=some a6) (u1 λa7=>
BO T.a15 a7 (Int.toNat a*4) λn8 n9 n10 n11=>
.ex [.adr] (c1 λa12=>0<=a/\a<(Ad data)/\data.a=some a12) (u1 λa13=>
Be T.a15 a13 (Int.toNat a*4) (BE n2 n3 n4 n5)<|
.ex [.adr] (c1 λa14=>0<=pivot/\pivot<(Ad data)/\data.a=some a14) (u1 λa15=>
Be T.a15 a15 (Int.toNat pivot*4) (BE n8 n9 n10 n11)<|
AU<|
Ah 1 [])))))<|
Ag (Af (a+1)) λn16=>
Ag (Af (b-1)) λn17=>
Aa 1 (
Ab 2 (n16,(n17,())) λn18 n19=>
BB 3 (
Aa 4 (
AV 5 (n18,()) λn20=>
AK 6 (
AT<|
.ex [.adr] (c1 λa21=>decide (n20<=n19)=true->0<=a/\a<(Ad data)/\data.a=some a21) (u1 λa22=>
BL (decide (n20<=n19)=true) T.a15 a22 (Int.toNat a*4) λn23 n24 n25 n26=>
.ex [.adr] (c1 λa27=>decide (n20<=n19)=true->0<=n20/\n20<(Ad data)/\data.a=some a27) (u1 λa28=>
BL (decide (n20<=n19)=true) T.a15 a28 (Int.toNat n20*4) λn29 n30 n31 n32=>
Ac (decide (n20<=n19)) (
BM cmp [BE n23 n24 n25 n26,BE n29 n30 n31 n32] λn33=>
AU<|
Ah 6 [.bool (not (decide (n33<0)))])<|
AU<|
Ah 6 [.bool false]))) λb34=>
Ac b34 (
Ag (Af (n20+1)) λn35=>
Ah 5 [Ai n35])<|
Ah 4 [Ai n20]) λn36=>
Aa 4 (
AV 5 (n19,()) λn37=>
AK 6 (
AT<|
.ex [.adr] (c1 λa38=>decide (n36<=n37)=true->0<=a/\a<(Ad data)/\data.a=some a38) (u1 λa39=>
BL (decide (n36<=n37)=true) T.a15 a39 (Int.toNat a*4) λn40 n41 n42 n43=>
.ex [.adr] (c1 λa44=>decide (n36<=n37)=true->0<=n37/\n37<(Ad data)/\data.a=some a44) (u1 λa45=>
BL (decide (n36<=n37)=true) T.a15 a45 (Int.toNat n37*4) λn46 n47 n48 n49=>
Ac (decide (n36<=n37)) (
BM cmp [BE n40 n41 n42 n43,BE n46 n47 n48 n49] λn50=>
AU<|
Ah 6 [.bool (decide (n50<0))])<|
AU<|
Ah 6 [.bool false]))) λb51=>
Ac b51 (
Ag (Af (n37-1)) λn52=>
Ah 5 [Ai n52])<|
Ah 4 [Ai n37]) λn53=>
Ac (decide (n36>n53)) (
Ah 1 [Ai n36])<|
Ax 4 (
AT<|
.ex [.adr] (c1 λa54=>0<=n53/\n53<(Ad data)/\data.a=some a54) (u1 λa55=>
BO T.a15 a55 (Int.toNat n53*4) λn56 n57 n58 n59=>
.ex [.adr] (c1 λa60=>0<=n36/\n36<(Ad data)/\data.a=some a60) (u1 λa61=>
BO T.a15 a61 (Int.toNat n36*4) λn62 n63 n64 n65=>
.ex [.adr] (c1 λa66=>0<=n36/\n36<(Ad data)/\data.a=some a66) (u1 λa67=>
Be T.a15 a67 (Int.toNat n36*4) (BE n56 n57 n58 n59)<|
.ex [.adr] (c1 λa68=>0<=n53/\n53<(Ad data)/\data.a=some a68) (u1 λa69=>
Be T.a15 a69 (Int.toNat n53*4) (BE n62 n63 n64 n65)<|
AU<|
Ah 4 [])))))<|
Ag (Af (n36+1)) λn70=>
Ag (Af (n53-1)) λn71=>
Ah 3 [Ai n70,Ai n71]) λn72 n73=>
Ah 2 [Ai n72,Ai n73]) λn74=>
Ag n74 λn75=>
Ah 0 [Ai n75]
def z09r (data:Sl) (a b pivot:Int) (cmp:Value):Prog :=
Ax 1 (
AT<|
.ex [.adr] (c1 λa0=>0<=pivot/\pivot<(Ad data)/\data.a=some a0) (u1 λa1=>
BO T.a15 a1 (Int.toNat pivot*4) λn2 n3 n4 n5=>
.ex [.adr] (c1 λa6=>0<=a/\a<(Ad data)/\data.a=some a6) (u1 λa7=>
BO T.a15 a7 (Int.toNat a*4) λn8 n9 n10 n11=>
.ex [.adr] (c1 λa12=>0<=a/\a<(Ad data)/\data.a=some a12) (u1 λa13=>
Be T.a15 a13 (Int.toNat a*4) (BE n2 n3 n4 n5)<|
.ex [.adr] (c1 λa14=>0<=pivot/\pivot<(Ad data)/\data.a=some a14) (u1 λa15=>
Be T.a15 a15 (Int.toNat pivot*4) (BE n8 n9 n10 n11)<|
AU<|
Ah 1 [])))))<|
Ag (Af (a+1)) λn16=>
Ag (Af (b-1)) λn17=>
Aa 1 (
AV 2 (n16,()) λn18=>
AK 3 (
AT<|
.ex [.adr] (c1 λa19=>decide (n18<=n17)=true->0<=n18/\n18<(Ad data)/\data.a=some a19) (u1 λa20=>
BL (decide (n18<=n17)=true) T.a15 a20 (Int.toNat n18*4) λn21 n22 n23 n24=>
.ex [.adr] (c1 λa25=>decide (n18<=n17)=true->0<=a/\a<(Ad data)/\data.a=some a25) (u1 λa26=>
BL (decide (n18<=n17)=true) T.a15 a26 (Int.toNat a*4) λn27 n28 n29 n30=>
Ac (decide (n18<=n17)) (
BM cmp [BE n21 n22 n23 n24,BE n27 n28 n29 n30] λn31=>
AU<|
Ah 3 [.bool (decide (n31<0))])<|
AU<|
Ah 3 [.bool false]))) λb32=>
Ac b32 (
Ag (Af (n18+1)) λn33=>
Ah 2 [Ai n33])<|
Ah 1 [Ai n18]) λn34=>
Aa 1 (
AV 2 (n17,()) λn35=>
AK 3 (
AT<|
.ex [.adr] (c1 λa36=>decide (n34<=n35)=true->0<=n35/\n35<(Ad data)/\data.a=some a36) (u1 λa37=>
BL (decide (n34<=n35)=true) T.a15 a37 (Int.toNat n35*4) λn38 n39 n40 n41=>
.ex [.adr] (c1 λa42=>decide (n34<=n35)=true->0<=a/\a<(Ad data)/\data.a=some a42) (u1 λa43=>
BL (decide (n34<=n35)=true) T.a15 a43 (Int.toNat a*4) λn44 n45 n46 n47=>
Ac (decide (n34<=n35)) (
BM cmp [BE n38 n39 n40 n41,BE n44 n45 n46 n47] λn48=>
AU<|
Ah 3 [.bool (not (decide (n48<0)))])<|
AU<|
Ah 3 [.bool false]))) λb49=>
Ac b49 (
Ag (Af (n35-1)) λn50=>
Ah 2 [Ai n50])<|
Ah 1 [Ai n35]) λn51=>
Ac (decide (n34>n51)) (
Ax 1 (
AT<|
.ex [.adr] (c1 λa52=>0<=a/\a<(Ad data)/\data.a=some a52) (u1 λa53=>
BO T.a15 a53 (Int.toNat a*4) λn54 n55 n56 n57=>
.ex [.adr] (c1 λa58=>0<=n51/\n51<(Ad data)/\data.a=some a58) (u1 λa59=>
BO T.a15 a59 (Int.toNat n51*4) λn60 n61 n62 n63=>
.ex [.adr] (c1 λa64=>0<=n51/\n51<(Ad data)/\data.a=some a64) (u1 λa65=>
Be T.a15 a65 (Int.toNat n51*4) (BE n54 n55 n56 n57)<|
.ex [.adr] (c1 λa66=>0<=a/\a<(Ad data)/\data.a=some a66) (u1 λa67=>
Be T.a15 a67 (Int.toNat a*4) (BE n60 n61 n62 n63)<|
AU<|
Ah 1 [])))))<|
Ag n51 λn68=>
Ah 0 [Ai n68,.bool true])<|
Ax 1 (
AT<|
.ex [.adr] (c1 λa69=>0<=n51/\n51<(Ad data)/\data.a=some a69) (u1 λa70=>
BO T.a15 a70 (Int.toNat n51*4) λn71 n72 n73 n74=>
.ex [.adr] (c1 λa75=>0<=n34/\n34<(Ad data)/\data.a=some a75) (u1 λa76=>
BO T.a15 a76 (Int.toNat n34*4) λn77 n78 n79 n80=>
.ex [.adr] (c1 λa81=>0<=n34/\n34<(Ad data)/\data.a=some a81) (u1 λa82=>
Be T.a15 a82 (Int.toNat n34*4) (BE n71 n72 n73 n74)<|
.ex [.adr] (c1 λa83=>0<=n51/\n51<(Ad data)/\data.a=some a83) (u1 λa84=>
Be T.a15 a84 (Int.toNat n51*4) (BE n77 n78 n79 n80)<|
AU<|
Ah 1 [])))))<|
Ag (Af (n34+1)) λn85=>
Ag (Af (n51-1)) λn86=>
Aa 1 (
Ab 2 (n85,(n86,())) λn87 n88=>
BB 3 (
Aa 4 (
AV 5 (n87,()) λn89=>
AK 6 (
AT<|
.ex [.adr] (c1 λa90=>decide (n89<=n88)=true->0<=n89/\n89<(Ad data)/\data.a=some a90) (u1 λa91=>
BL (decide (n89<=n88)=true) T.a15 a91 (Int.toNat n89*4) λn92 n93 n94 n95=>
.ex [.adr] (c1 λa96=>decide (n89<=n88)=true->0<=a/\a<(Ad data)/\data.a=some a96) (u1 λa97=>
BL (decide (n89<=n88)=true) T.a15 a97 (Int.toNat a*4) λn98 n99 n100 n101=>
Ac (decide (n89<=n88)) (
BM cmp [BE n92 n93 n94 n95,BE n98 n99 n100 n101] λn102=>
AU<|
Ah 6 [.bool (decide (n102<0))])<|
AU<|
Ah 6 [.bool false]))) λb103=>
Ac b103 (
Ag (Af (n89+1)) λn104=>
Ah 5 [Ai n104])<|
Ah 4 [Ai n89]) λn105=>
Aa 4 (
AV 5 (n88,()) λn106=>
AK 6 (
AT<|
.ex [.adr] (c1 λa107=>decide (n105<=n106)=true->0<=n106/\n106<(Ad data)/\data.a=some a107) (u1 λa108=>
BL (decide (n105<=n106)=true) T.a15 a108 (Int.toNat n106*4) λn109 n110 n111 n112=>
.ex [.adr] (c1 λa113=>decide (n105<=n106)=true->0<=a/\a<(Ad data)/\data.a=some a113) (u1 λa114=>
BL (decide (n105<=n106)=true) T.a15 a114 (Int.toNat a*4) λn115 n116 n117 n118=>
Ac (decide (n105<=n106)) (
BM cmp [BE n109 n110 n111 n112,BE n115 n116 n117 n118] λn119=>
AU<|
Ah 6 [.bool (not (decide (n119<0)))])<|
AU<|
Ah 6 [.bool false]))) λb120=>
Ac b120 (
Ag (Af (n106-1)) λn121=>
Ah 5 [Ai n121])<|
Ah 4 [Ai n106]) λn122=>
Ac (decide (n105>n122)) (
Ah 1 [Ai n122])<|
Ax 4 (
AT<|
.ex [.adr] (c1 λa123=>0<=n122/\n122<(Ad data)/\data.a=some a123) (u1 λa124=>
BO T.a15 a124 (Int.toNat n122*4) λn125 n126 n127 n128=>
.ex [.adr] (c1 λa129=>0<=n105/\n105<(Ad data)/\data.a=some a129) (u1 λa130=>
BO T.a15 a130 (Int.toNat n105*4) λn131 n132 n133 n134=>
.ex [.adr] (c1 λa135=>0<=n105/\n105<(Ad data)/\data.a=some a135) (u1 λa136=>
Be T.a15 a136 (Int.toNat n105*4) (BE n125 n126 n127 n128)<|
.ex [.adr] (c1 λa137=>0<=n122/\n122<(Ad data)/\data.a=some a137) (u1 λa138=>
Be T.a15 a138 (Int.toNat n122*4) (BE n131 n132 n133 n134)<|
AU<|
Ah 4 [])))))<|
Ag (Af (n105+1)) λn139=>
Ag (Af (n122-1)) λn140=>
Ah 3 [Ai n139,Ai n140]) λn141 n142=>
Ah 2 [Ai n141,Ai n142]) λn143=>
Ax 1 (
AT<|
.ex [.adr] (c1 λa144=>0<=a/\a<(Ad data)/\data.a=some a144) (u1 λa145=>
BO T.a15 a145 (Int.toNat a*4) λn146 n147 n148 n149=>
.ex [.adr] (c1 λa150=>0<=n143/\n143<(Ad data)/\data.a=some a150) (u1 λa151=>
BO T.a15 a151 (Int.toNat n143*4) λn152 n153 n154 n155=>
.ex [.adr] (c1 λa156=>0<=n143/\n143<(Ad data)/\data.a=some a156) (u1 λa157=>
Be T.a15 a157 (Int.toNat n143*4) (BE n146 n147 n148 n149)<|
.ex [.adr] (c1 λa158=>0<=a/\a<(Ad data)/\data.a=some a158) (u1 λa159=>
Be T.a15 a159 (Int.toNat a*4) (BE n152 n153 n154 n155)<|
AU<|
Ah 1 [])))))<|
Ag n143 λn160=>
Ah 0 [Ai n160,.bool false]
def z08z (seq:Value):Prog :=
An F.a172 [.slice none 0 0,seq] λl0=>
Ah 0 [l0.v]
def z0ao (m:Option Nat):Prog :=
Ao T.a19 (.map m) λa0=>
Ah 0 [.func (Fn.func 365) #[] #[Ap a0]]
def z090 (x:Sl) (cmp:Value):Prog :=
Ag (Ad x) λn0=>
Aw F.a86 [.int .u64 (IntKind.wrap .u64 n0)] λn1=>
Ay F.a213 [x.v,Ai 0,Ai n0,Ai n1,cmp]<|
Ah 0 []
def z09c (data:Sl) (a:Int) (b:Int):Prog :=
Ag (Af (a+1)) λn0=>
Ax 1 (
AV 2 (n0,()) λn1=>
Ac (decide (n1<b)) (
Ax 3 (
Ag n1 λn2=>
Ax 4 (
AV 5 (n2,()) λn3=>
AK 6 (
AT<|
.ex [.adr] (c1 λa4=>decide (n3>a)=true->0<=n3/\n3<(Ad data)/\data.a=some a4) (u1 λa5=>
By (decide (n3>a)=true) T.a55 a5 (Int.toNat n3*1) λs6=>
.ex [.adr] (c1 λa7=>decide (n3>a)=true->0<=Af (n3-1)/\Af (n3-1)<(Ad data)/\data.a=some a7) (u1 λa8=>
By (decide (n3>a)=true) T.a55 a8 (Int.toNat (Af (n3-1))*1) λs9=>
Ac (decide (n3>a)) (
Ar F.a2 [.string s6,.string s9] λb10=>
AU<|
Ah 6 [.bool b10])<|
AU<|
Ah 6 [.bool false]))) λb11=>
Ac b11 (
Ax 6 (
AT<|
.ex [.adr] (c1 λa12=>0<=Af (n3-1)/\Af (n3-1)<(Ad data)/\data.a=some a12) (u1 λa13=>
Bh T.a55 a13 (Int.toNat (Af (n3-1))*1) λs14=>
.ex [.adr] (c1 λa15=>0<=n3/\n3<(Ad data)/\data.a=some a15) (u1 λa16=>
Bh T.a55 a16 (Int.toNat n3*1) λs17=>
.ex [.adr] (c1 λa18=>0<=n3/\n3<(Ad data)/\data.a=some a18) (u1 λa19=>
Be T.a55 a19 (Int.toNat n3*1) (.string s14)<|
.ex [.adr] (c1 λa20=>0<=Af (n3-1)/\Af (n3-1)<(Ad data)/\data.a=some a20) (u1 λa21=>
Be T.a55 a21 (Int.toNat (Af (n3-1))*1) (.string s17)<|
AU<|
Ah 6 [])))))<|
Ag (Af (n3-1)) λn22=>
Ah 5 [Ai n22])<|
Ah 4 [])<|
Ah 3 [])<|
Ag (Af (n1+1)) λn23=>
Ah 2 [Ai n23])<|
Ah 1 [])<|
Ah 0 []
def z09a (data:Sl) (a:Int) (b:Int):Prog :=
Ag a λn0=>
Ag (Af (b-a)) λn1=>
Ag (Af (Int.tdiv (Af (n1-1)) 2)) λn2=>
Ax 1 (
AV 2 (n2,()) λn3=>
Ac (decide (n3>=0)) (
Ay F.a221 [data.v,Ai n3,Ai n1,Ai n0]<|
Ag (Af (n3-1)) λn4=>
Ah 2 [Ai n4])<|
Ah 1 [])<|
Ag (Af (n1-1)) λn5=>
Ax 1 (
AV 2 (n5,()) λn6=>
Ac (decide (n6>=0)) (
Ax 3 (
AT<|
.ex [.adr] (c1 λa7=>0<=Af (n0+n6)/\Af (n0+n6)<(Ad data)/\data.a=some a7) (u1 λa8=>
Bh T.a55 a8 (Int.toNat (Af (n0+n6))*1) λs9=>
.ex [.adr] (c1 λa10=>0<=n0/\n0<(Ad data)/\data.a=some a10) (u1 λa11=>
Bh T.a55 a11 (Int.toNat n0*1) λs12=>
.ex [.adr] (c1 λa13=>0<=n0/\n0<(Ad data)/\data.a=some a13) (u1 λa14=>
Be T.a55 a14 (Int.toNat n0*1) (.string s9)<|
.ex [.adr] (c1 λa15=>0<=Af (n0+n6)/\Af (n0+n6)<(Ad data)/\data.a=some a15) (u1 λa16=>
Be T.a55 a16 (Int.toNat (Af (n0+n6))*1) (.string s12)<|
AU<|
Ah 3 [])))))<|
Ay F.a221 [data.v,Ai 0,Ai n6,Ai n0]<|
Ag (Af (n6-1)) λn17=>
Ah 2 [Ai n17])<|
Ah 1 [])<|
Ah 0 []
def z094 (data:Sl) (a:Int) (b:Int):Prog :=
Ag (Af (b-a)) λn0=>
Ax 1 (
Ac (decide (n0>=8)) (
AB T.a54 λa1=>
AC T.a54 a1 (.int .u64 (IntKind.wrap .u64 n0))<|
Av F.a200 [Ai n0] λn2=>
Am n2 λn3=>
Ag (Af (Af (a+Af (Af (Int.tdiv n0 4)*2))-1)) λn4=>
Ax 2 (
AV 3 (n4,()) λn5=>
Ac (decide (n5<=Af (Af (a+Af (Af (Int.tdiv n0 4)*2))+1))) (
Av F.a222 [Ap a1] λn6=>
Ag (Af (IntKind.wrap .u64 (((BitVec.toNat (BitVec.ofInt 64 n6 &&& BitVec.ofInt 64 (IntKind.wrap .u64 (n3-1))):Nat):Int)))) λn7=>
Aa 4 (
Ac (decide (n7>=n0)) (
Ag (Af (n7-n0)) λn8=>
Ah 4 [Ai n8])<|
Ah 4 [Ai n7]) λn9=>
Ax 4 (
AT<|
.ex [.adr] (c1 λa10=>0<=Af (a+n9)/\Af (a+n9)<(Ad data)/\data.a=some a10) (u1 λa11=>
Bh T.a55 a11 (Int.toNat (Af (a+n9))*1) λs12=>
.ex [.adr] (c1 λa13=>0<=n5/\n5<(Ad data)/\data.a=some a13) (u1 λa14=>
Bh T.a55 a14 (Int.toNat n5*1) λs15=>
.ex [.adr] (c1 λa16=>0<=n5/\n5<(Ad data)/\data.a=some a16) (u1 λa17=>
Be T.a55 a17 (Int.toNat n5*1) (.string s12)<|
.ex [.adr] (c1 λa18=>0<=Af (a+n9)/\Af (a+n9)<(Ad data)/\data.a=some a18) (u1 λa19=>
Be T.a55 a19 (Int.toNat (Af (a+n9))*1) (.string s15)<|
AU<|
Ah 4 [])))))<|
Ag (Af (n5+1)) λn20=>
Ah 3 [Ai n20])<|
Ah 2 [])<|
Ah 1 [])<|
Ah 1 [])<|
Ah 0 []
def z097 (data:Sl) (a:Int) (b:Int):Prog :=
Ag (Af (b-a)) λn0=>
AB T.a13 λa1=>
Ag (Af (a+Af (Af (Int.tdiv n0 4)*1))) λn2=>
Ag (Af (a+Af (Af (Int.tdiv n0 4)*2))) λn3=>
Ag (Af (a+Af (Af (Int.tdiv n0 4)*3))) λn4=>
Aa 1 (
Ac (decide (n0>=8)) (
BQ 2 (
Ac (decide (n0>=50)) (
Aw F.a196 [data.v,Ai n2,Ap a1] λn5=>
Ag n5 λn6=>
Aw F.a196 [data.v,Ai n3,Ap a1] λn7=>
Ag n7 λn8=>
Aw F.a196 [data.v,Ai n4,Ap a1] λn9=>
Ag n9 λn10=>
Ah 2 [Ai n6,Ai n8,Ai n10])<|
Ah 2 [Ai n2,Ai n3,Ai n4]) λn11 n12 n13=>
Aw F.a199 [data.v,Ai n11,Ai n12,Ai n13,Ap a1] λn14=>
Ag n14 λn15=>
Ah 1 [Ai n15])<|
Ah 1 [Ai n3]) λn16=>
AS T.a13 a1 λn17=>
AJ (n17 == 0) (
Ag n16 λn19=>
Ah 0 [Ai n19,Ai 1])<|
AJ (n17 == 12) (
Ag n16 λn21=>
Ah 0 [Ai n21,Ai 2])<|
Ag n16 λn22=>
Ah 0 [Ai n22,Ai 0]
def z0a0 (data:Sl) (a:Int) (b:Int):Prog :=
Ag a λn0=>
Ag (Af (b-1)) λn1=>
Ax 1 (
Ab 2 (n0,(n1,())) λn2 n3=>
Ac (decide (n2<n3)) (
Ax 3 (
AT<|
.ex [.adr] (c1 λa4=>0<=n3/\n3<(Ad data)/\data.a=some a4) (u1 λa5=>
Bh T.a55 a5 (Int.toNat n3*1) λs6=>
.ex [.adr] (c1 λa7=>0<=n2/\n2<(Ad data)/\data.a=some a7) (u1 λa8=>
Bh T.a55 a8 (Int.toNat n2*1) λs9=>
.ex [.adr] (c1 λa10=>0<=n2/\n2<(Ad data)/\data.a=some a10) (u1 λa11=>
Be T.a55 a11 (Int.toNat n2*1) (.string s6)<|
.ex [.adr] (c1 λa12=>0<=n3/\n3<(Ad data)/\data.a=some a12) (u1 λa13=>
Be T.a55 a13 (Int.toNat n3*1) (.string s9)<|
AU<|
Ah 3 [])))))<|
Ag (Af (n2+1)) λn14=>
Ag (Af (n3-1)) λn15=>
Ah 2 [Ai n14,Ai n15])<|
Ah 1 [])<|
Ah 0 []
def z09p (data:Sl) (a:Int) (b:Int):Prog :=
Ag (Af (a+1)) λn0=>
Ax 1 (
Ab 2 (n0,(0,())) λn1 n2=>
Ac (decide (n2<5)) (
Aa 3 (
Aa 4 (
AV 5 (n1,()) λn3=>
AK 6 (
AT<|
.ex [.adr] (c1 λa4=>decide (n3<b)=true->0<=n3/\n3<(Ad data)/\data.a=some a4) (u1 λa5=>
By (decide (n3<b)=true) T.a55 a5 (Int.toNat n3*1) λs6=>
.ex [.adr] (c1 λa7=>decide (n3<b)=true->0<=Af (n3-1)/\Af (n3-1)<(Ad data)/\data.a=some a7) (u1 λa8=>
By (decide (n3<b)=true) T.a55 a8 (Int.toNat (Af (n3-1))*1) λs9=>
Ac (decide (n3<b)) (
Ar F.a2 [.string s6,.string s9] λb10=>
AU<|
Ah 6 [.bool (not b10)])<|
AU<|
Ah 6 [.bool false]))) λb11=>
Ac b11 (
Ag (Af (n3+1)) λn12=>
Ah 5 [Ai n12])<|
Ah 4 [Ai n3]) λn13=>
Ac (n13 == b) (
Ah 0 [.bool true])<|
Ac (decide (Af (b-a)<50)) (
Ah 0 [.bool false])<|
Ax 4 (
AT<|
.ex [.adr] (c1 λa14=>0<=Af (n13-1)/\Af (n13-1)<(Ad data)/\data.a=some a14) (u1 λa15=>
Bh T.a55 a15 (Int.toNat (Af (n13-1))*1) λs16=>
.ex [.adr] (c1 λa17=>0<=n13/\n13<(Ad data)/\data.a=some a17) (u1 λa18=>
Bh T.a55 a18 (Int.toNat n13*1) λs19=>
.ex [.adr] (c1 λa20=>0<=n13/\n13<(Ad data)/\data.a=some a20) (u1 λa21=>
Be T.a55 a21 (Int.toNat n13*1) (.string s16)<|
.ex [.adr] (c1 λa22=>0<=Af (n13-1)/\Af (n13-1)<(Ad data)/\data.a=some a22) (u1 λa23=>
Be T.a55 a23 (Int.toNat (Af (n13-1))*1) (.string s19)<|
AU<|
Ah 4 [])))))<|
Ax 4 (
Ac (decide (Af (n13-a)>=2)) (
Ag (Af (n13-1)) λn24=>
Ax 5 (
AV 6 (n24,()) λn25=>
Ac (decide (n25>=1)) (
AT<|
.ex [.adr] (c1 λa26=>0<=n25/\n25<(Ad data)/\data.a=some a26) (u1 λa27=>
Bh T.a55 a27 (Int.toNat n25*1) λs28=>
.ex [.adr] (c1 λa29=>0<=Af (n25-1)/\Af (n25-1)<(Ad data)/\data.a=some a29) (u1 λa30=>
Bh T.a55 a30 (Int.toNat (Af (n25-1))*1) λs31=>
Ar F.a2 [.string s28,.string s31] λb32=>
AU<|
Ac (not b32) (
Ah 5 [])<|
Ax 7 (
AT<|
.ex [.adr] (c1 λa33=>0<=Af (n25-1)/\Af (n25-1)<(Ad data)/\data.a=some a33) (u1 λa34=>
Bh T.a55 a34 (Int.toNat (Af (n25-1))*1) λs35=>
.ex [.adr] (c1 λa36=>0<=n25/\n25<(Ad data)/\data.a=some a36) (u1 λa37=>
Bh T.a55 a37 (Int.toNat n25*1) λs38=>
.ex [.adr] (c1 λa39=>0<=n25/\n25<(Ad data)/\data.a=some a39) (u1 λa40=>
Be T.a55 a40 (Int.toNat n25*1) (.string s35)<|
.ex [.adr] (c1 λa41=>0<=Af (n25-1)/\Af (n25-1)<(Ad data)/\data.a=some a41) (u1 λa42=>
Be T.a55 a42 (Int.toNat (Af (n25-1))*1) (.string s38)<|
AU<|
Ah 7 [])))))<|
Ag (Af (n25-1)) λn43=>
Ah 6 [Ai n43])))<|
Ah 5 [])<|
Ah 4 [])<|
Ah 4 [])<|
Ax 4 (
Ac (decide (Af (b-n13)>=2)) (
Ag (Af (n13+1)) λn44=>
Ax 5 (
AV 6 (n44,()) λn45=>
Ac (decide (n45<b)) (
AT<|
.ex [.adr] (c1 λa46=>0<=n45/\n45<(Ad data)/\data.a=some a46) (u1 λa47=>
Bh T.a55 a47 (Int.toNat n45*1) λs48=>
.ex [.adr] (c1 λa49=>0<=Af (n45-1)/\Af (n45-1)<(Ad data)/\data.a=some a49) (u1 λa50=>
Bh T.a55 a50 (Int.toNat (Af (n45-1))*1) λs51=>
Ar F.a2 [.string s48,.string s51] λb52=>
AU<|
Ac (not b52) (
Ah 5 [])<|
Ax 7 (
AT<|
.ex [.adr] (c1 λa53=>0<=Af (n45-1)/\Af (n45-1)<(Ad data)/\data.a=some a53) (u1 λa54=>
Bh T.a55 a54 (Int.toNat (Af (n45-1))*1) λs55=>
.ex [.adr] (c1 λa56=>0<=n45/\n45<(Ad data)/\data.a=some a56) (u1 λa57=>
Bh T.a55 a57 (Int.toNat n45*1) λs58=>
.ex [.adr] (c1 λa59=>0<=n45/\n45<(Ad data)/\data.a=some a59) (u1 λa60=>
Be T.a55 a60 (Int.toNat n45*1) (.string s55)<|
.ex [.adr] (c1 λa61=>0<=Af (n45-1)/\Af (n45-1)<(Ad data)/\data.a=some a61) (u1 λa62=>
Be T.a55 a62 (Int.toNat (Af (n45-1))*1) (.string s58)<|
AU<|
Ah 7 [])))))<|
Ag (Af (n45+1)) λn63=>
Ah 6 [Ai n63])))<|
Ah 5 [])<|
Ah 4 [])<|
Ah 4 [])<|
Ah 3 [Ai n13]) λn64=>
Ag (Af (n2+1)) λn65=>
Ah 2 [Ai n64,Ai n65])<|
Ah 1 [])<|
Ah 0 [.bool false]
def zf2 (x:ByteArray) (y:ByteArray):Prog :=
AK 1 (
Ar F.a4 [.string x] λb0=>
Ac b0 (
Ar F.a4 [.string y] λb1=>
AM (not b1 || Op.bytesLess (ByteArray.toList x) (ByteArray.toList y)) λb2=>
Ah 1 [.bool b2])<|
AM (Op.bytesLess (ByteArray.toList x) (ByteArray.toList y)) λb3=>
Ah 1 [.bool b3]) λb4=>
Ah 0 [.bool b4]
def z09u (data:Sl) (a b:Int) (pivot:Int):Prog :=
Ax 1 (
AT<|
.ex [.adr] (c1 λa0=>0<=pivot/\pivot<(Ad data)/\data.a=some a0) (u1 λa1=>
Bh T.a55 a1 (Int.toNat pivot*1) λs2=>
.ex [.adr] (c1 λa3=>0<=a/\a<(Ad data)/\data.a=some a3) (u1 λa4=>
Bh T.a55 a4 (Int.toNat a*1) λs5=>
.ex [.adr] (c1 λa6=>0<=a/\a<(Ad data)/\data.a=some a6) (u1 λa7=>
Be T.a55 a7 (Int.toNat a*1) (.string s2)<|
.ex [.adr] (c1 λa8=>0<=pivot/\pivot<(Ad data)/\data.a=some a8) (u1 λa9=>
Be T.a55 a9 (Int.toNat pivot*1) (.string s5)<|
AU<|
Ah 1 [])))))<|
Ag (Af (a+1)) λn10=>
Ag (Af (b-1)) λn11=>
Aa 1 (
Ab 2 (n10,(n11,())) λn12 n13=>
BB 3 (
Aa 4 (
AV 5 (n12,()) λn14=>
AK 6 (
AT<|
.ex [.adr] (c1 λa15=>decide (n14<=n13)=true->0<=a/\a<(Ad data)/\data.a=some a15) (u1 λa16=>
By (decide (n14<=n13)=true) T.a55 a16 (Int.toNat a*1) λs17=>
.ex [.adr] (c1 λa18=>decide (n14<=n13)=true->0<=n14/\n14<(Ad data)/\data.a=some a18) (u1 λa19=>
By (decide (n14<=n13)=true) T.a55 a19 (Int.toNat n14*1) λs20=>
Ac (decide (n14<=n13)) (
Ar F.a2 [.string s17,.string s20] λb21=>
AU<|
Ah 6 [.bool (not b21)])<|
AU<|
Ah 6 [.bool false]))) λb22=>
Ac b22 (
Ag (Af (n14+1)) λn23=>
Ah 5 [Ai n23])<|
Ah 4 [Ai n14]) λn24=>
Aa 4 (
AV 5 (n13,()) λn25=>
AK 6 (
AT<|
.ex [.adr] (c1 λa26=>decide (n24<=n25)=true->0<=a/\a<(Ad data)/\data.a=some a26) (u1 λa27=>
By (decide (n24<=n25)=true) T.a55 a27 (Int.toNat a*1) λs28=>
.ex [.adr] (c1 λa29=>decide (n24<=n25)=true->0<=n25/\n25<(Ad data)/\data.a=some a29) (u1 λa30=>
By (decide (n24<=n25)=true) T.a55 a30 (Int.toNat n25*1) λs31=>
Ac (decide (n24<=n25)) (
Ar F.a2 [.string s28,.string s31] λb32=>
AU<|
Ah 6 [.bool b32])<|
AU<|
Ah 6 [.bool false]))) λb33=>
Ac b33 (
Ag (Af (n25-1)) λn34=>
Ah 5 [Ai n34])<|
Ah 4 [Ai n25]) λn35=>
Ac (decide (n24>n35)) (
Ah 1 [Ai n24])<|
Ax 4 (
AT<|
.ex [.adr] (c1 λa36=>0<=n35/\n35<(Ad data)/\data.a=some a36) (u1 λa37=>
Bh T.a55 a37 (Int.toNat n35*1) λs38=>
.ex [.adr] (c1 λa39=>0<=n24/\n24<(Ad data)/\data.a=some a39) (u1 λa40=>
Bh T.a55 a40 (Int.toNat n24*1) λs41=>
.ex [.adr] (c1 λa42=>0<=n24/\n24<(Ad data)/\data.a=some a42) (u1 λa43=>
Be T.a55 a43 (Int.toNat n24*1) (.string s38)<|
.ex [.adr] (c1 λa44=>0<=n35/\n35<(Ad data)/\data.a=some a44) (u1 λa45=>
Be T.a55 a45 (Int.toNat n35*1) (.string s41)<|
AU<|
Ah 4 [])))))<|
Ag (Af (n24+1)) λn46=>
Ag (Af (n35-1)) λn47=>
Ah 3 [Ai n46,Ai n47]) λn48 n49=>
Ah 2 [Ai n48,Ai n49]) λn50=>
Ag n50 λn51=>
Ah 0 [Ai n51]
def z09v (data:Sl) (a b:Int) (pivot:Int):Prog :=
Ax 1 (
AT<|
.ex [.adr] (c1 λa0=>0<=pivot/\pivot<(Ad data)/\data.a=some a0) (u1 λa1=>
Bh T.a55 a1 (Int.toNat pivot*1) λs2=>
.ex [.adr] (c1 λa3=>0<=a/\a<(Ad data)/\data.a=some a3) (u1 λa4=>
Bh T.a55 a4 (Int.toNat a*1) λs5=>
.ex [.adr] (c1 λa6=>0<=a/\a<(Ad data)/\data.a=some a6) (u1 λa7=>
Be T.a55 a7 (Int.toNat a*1) (.string s2)<|
.ex [.adr] (c1 λa8=>0<=pivot/\pivot<(Ad data)/\data.a=some a8) (u1 λa9=>
Be T.a55 a9 (Int.toNat pivot*1) (.string s5)<|
AU<|
Ah 1 [])))))<|
Ag (Af (a+1)) λn10=>
Ag (Af (b-1)) λn11=>
Aa 1 (
AV 2 (n10,()) λn12=>
AK 3 (
AT<|
.ex [.adr] (c1 λa13=>decide (n12<=n11)=true->0<=n12/\n12<(Ad data)/\data.a=some a13) (u1 λa14=>
By (decide (n12<=n11)=true) T.a55 a14 (Int.toNat n12*1) λs15=>
.ex [.adr] (c1 λa16=>decide (n12<=n11)=true->0<=a/\a<(Ad data)/\data.a=some a16) (u1 λa17=>
By (decide (n12<=n11)=true) T.a55 a17 (Int.toNat a*1) λs18=>
Ac (decide (n12<=n11)) (
Ar F.a2 [.string s15,.string s18] λb19=>
AU<|
Ah 3 [.bool b19])<|
AU<|
Ah 3 [.bool false]))) λb20=>
Ac b20 (
Ag (Af (n12+1)) λn21=>
Ah 2 [Ai n21])<|
Ah 1 [Ai n12]) λn22=>
Aa 1 (
AV 2 (n11,()) λn23=>
AK 3 (
AT<|
.ex [.adr] (c1 λa24=>decide (n22<=n23)=true->0<=n23/\n23<(Ad data)/\data.a=some a24) (u1 λa25=>
By (decide (n22<=n23)=true) T.a55 a25 (Int.toNat n23*1) λs26=>
.ex [.adr] (c1 λa27=>decide (n22<=n23)=true->0<=a/\a<(Ad data)/\data.a=some a27) (u1 λa28=>
By (decide (n22<=n23)=true) T.a55 a28 (Int.toNat a*1) λs29=>
Ac (decide (n22<=n23)) (
Ar F.a2 [.string s26,.string s29] λb30=>
AU<|
Ah 3 [.bool (not b30)])<|
AU<|
Ah 3 [.bool false]))) λb31=>
Ac b31 (
Ag (Af (n23-1)) λn32=>
Ah 2 [Ai n32])<|
Ah 1 [Ai n23]) λn33=>
Ac (decide (n22>n33)) (
Ax 1 (
AT<|
.ex [.adr] (c1 λa34=>0<=a/\a<(Ad data)/\data.a=some a34) (u1 λa35=>
Bh T.a55 a35 (Int.toNat a*1) λs36=>
.ex [.adr] (c1 λa37=>0<=n33/\n33<(Ad data)/\data.a=some a37) (u1 λa38=>
Bh T.a55 a38 (Int.toNat n33*1) λs39=>
.ex [.adr] (c1 λa40=>0<=n33/\n33<(Ad data)/\data.a=some a40) (u1 λa41=>
Be T.a55 a41 (Int.toNat n33*1) (.string s36)<|
.ex [.adr] (c1 λa42=>0<=a/\a<(Ad data)/\data.a=some a42) (u1 λa43=>
Be T.a55 a43 (Int.toNat a*1) (.string s39)<|
AU<|
Ah 1 [])))))<|
Ag n33 λn44=>
Ah 0 [Ai n44,.bool true])<|
Ax 1 (
AT<|
.ex [.adr] (c1 λa45=>0<=n33/\n33<(Ad data)/\data.a=some a45) (u1 λa46=>
Bh T.a55 a46 (Int.toNat n33*1) λs47=>
.ex [.adr] (c1 λa48=>0<=n22/\n22<(Ad data)/\data.a=some a48) (u1 λa49=>
Bh T.a55 a49 (Int.toNat n22*1) λs50=>
.ex [.adr] (c1 λa51=>0<=n22/\n22<(Ad data)/\data.a=some a51) (u1 λa52=>
Be T.a55 a52 (Int.toNat n22*1) (.string s47)<|
.ex [.adr] (c1 λa53=>0<=n33/\n33<(Ad data)/\data.a=some a53) (u1 λa54=>
Be T.a55 a54 (Int.toNat n33*1) (.string s50)<|
AU<|
Ah 1 [])))))<|
Ag (Af (n22+1)) λn55=>
Ag (Af (n33-1)) λn56=>
Aa 1 (
Ab 2 (n55,(n56,())) λn57 n58=>
BB 3 (
Aa 4 (
AV 5 (n57,()) λn59=>
AK 6 (
AT<|
.ex [.adr] (c1 λa60=>decide (n59<=n58)=true->0<=n59/\n59<(Ad data)/\data.a=some a60) (u1 λa61=>
By (decide (n59<=n58)=true) T.a55 a61 (Int.toNat n59*1) λs62=>
.ex [.adr] (c1 λa63=>decide (n59<=n58)=true->0<=a/\a<(Ad data)/\data.a=some a63) (u1 λa64=>
By (decide (n59<=n58)=true) T.a55 a64 (Int.toNat a*1) λs65=>
Ac (decide (n59<=n58)) (
Ar F.a2 [.string s62,.string s65] λb66=>
AU<|
Ah 6 [.bool b66])<|
AU<|
Ah 6 [.bool false]))) λb67=>
Ac b67 (
Ag (Af (n59+1)) λn68=>
Ah 5 [Ai n68])<|
Ah 4 [Ai n59]) λn69=>
Aa 4 (
AV 5 (n58,()) λn70=>
AK 6 (
AT<|
.ex [.adr] (c1 λa71=>decide (n69<=n70)=true->0<=n70/\n70<(Ad data)/\data.a=some a71) (u1 λa72=>
By (decide (n69<=n70)=true) T.a55 a72 (Int.toNat n70*1) λs73=>
.ex [.adr] (c1 λa74=>decide (n69<=n70)=true->0<=a/\a<(Ad data)/\data.a=some a74) (u1 λa75=>
By (decide (n69<=n70)=true) T.a55 a75 (Int.toNat a*1) λs76=>
Ac (decide (n69<=n70)) (
Ar F.a2 [.string s73,.string s76] λb77=>
AU<|
Ah 6 [.bool (not b77)])<|
AU<|
Ah 6 [.bool false]))) λb78=>
Ac b78 (
Ag (Af (n70-1)) λn79=>
Ah 5 [Ai n79])<|
Ah 4 [Ai n70]) λn80=>
Ac (decide (n69>n80)) (
Ah 1 [Ai n80])<|
Ax 4 (
AT<|
.ex [.adr] (c1 λa81=>0<=n80/\n80<(Ad data)/\data.a=some a81) (u1 λa82=>
Bh T.a55 a82 (Int.toNat n80*1) λs83=>
.ex [.adr] (c1 λa84=>0<=n69/\n69<(Ad data)/\data.a=some a84) (u1 λa85=>
Bh T.a55 a85 (Int.toNat n69*1) λs86=>
.ex [.adr] (c1 λa87=>0<=n69/\n69<(Ad data)/\data.a=some a87) (u1 λa88=>
Be T.a55 a88 (Int.toNat n69*1) (.string s83)<|
.ex [.adr] (c1 λa89=>0<=n80/\n80<(Ad data)/\data.a=some a89) (u1 λa90=>
Be T.a55 a90 (Int.toNat n80*1) (.string s86)<|
AU<|
Ah 4 [])))))<|
Ag (Af (n69+1)) λn91=>
Ag (Af (n80-1)) λn92=>
Ah 3 [Ai n91,Ai n92]) λn93 n94=>
Ah 2 [Ai n93,Ai n94]) λn95=>
Ax 1 (
AT<|
.ex [.adr] (c1 λa96=>0<=a/\a<(Ad data)/\data.a=some a96) (u1 λa97=>
Bh T.a55 a97 (Int.toNat a*1) λs98=>
.ex [.adr] (c1 λa99=>0<=n95/\n95<(Ad data)/\data.a=some a99) (u1 λa100=>
Bh T.a55 a100 (Int.toNat n95*1) λs101=>
.ex [.adr] (c1 λa102=>0<=n95/\n95<(Ad data)/\data.a=some a102) (u1 λa103=>
Be T.a55 a103 (Int.toNat n95*1) (.string s98)<|
.ex [.adr] (c1 λa104=>0<=a/\a<(Ad data)/\data.a=some a104) (u1 λa105=>
Be T.a55 a105 (Int.toNat a*1) (.string s101)<|
AU<|
Ah 1 [])))))<|
Ag n95 λn106=>
Ah 0 [Ai n106,.bool false]
def z0a2 (data:Sl) (lo hi first:Int) (cmp:Value):Prog :=
Ag lo λn0=>
Ax 1 (
AV 2 (n0,()) λn1=>
Ag (Af (Af (2*n1)+1)) λn2=>
Ac (decide (n2>=hi)) (
Ah 1 [])<|
AK 3 (
AT<|
.ex [.adr] (c1 λa3=>decide (Af (n2+1)<hi)=true->0<=Af (first+n2)/\Af (first+n2)<(Ad data)/\data.a=some a3) (u1 λa4=>
BL (decide (Af (n2+1)<hi)=true) T.a15 a4 (Int.toNat (Af (first+n2))*4) λn5 n6 n7 n8=>
.ex [.adr] (c1 λa9=>decide (Af (n2+1)<hi)=true->0<=Af (Af (first+n2)+1)/\Af (Af (first+n2)+1)<(Ad data)/\data.a=some a9) (u1 λa10=>
BL (decide (Af (n2+1)<hi)=true) T.a15 a10 (Int.toNat (Af (Af (first+n2)+1))*4) λn11 n12 n13 n14=>
Ac (decide (Af (n2+1)<hi)) (
BM cmp [BE n5 n6 n7 n8,BE n11 n12 n13 n14] λn15=>
AU<|
Ah 3 [.bool (decide (n15<0))])<|
AU<|
Ah 3 [.bool false]))) λb16=>
Aa 3 (
Ac b16 (
Ag (Af (n2+1)) λn17=>
Ah 3 [Ai n17])<|
Ah 3 [Ai n2]) λn18=>
AT<|
.ex [.adr] (c1 λa19=>0<=Af (first+n1)/\Af (first+n1)<(Ad data)/\data.a=some a19) (u1 λa20=>
BO T.a15 a20 (Int.toNat (Af (first+n1))*4) λn21 n22 n23 n24=>
.ex [.adr] (c1 λa25=>0<=Af (first+n18)/\Af (first+n18)<(Ad data)/\data.a=some a25) (u1 λa26=>
BO T.a15 a26 (Int.toNat (Af (first+n18))*4) λn27 n28 n29 n30=>
BM cmp [BE n21 n22 n23 n24,BE n27 n28 n29 n30] λn31=>
AU<|
Ac (not (decide (n31<0))) (
Ah 0 [])<|
Ax 3 (
AT<|
.ex [.adr] (c1 λa32=>0<=Af (first+n18)/\Af (first+n18)<(Ad data)/\data.a=some a32) (u1 λa33=>
BO T.a15 a33 (Int.toNat (Af (first+n18))*4) λn34 n35 n36 n37=>
.ex [.adr] (c1 λa38=>0<=Af (first+n1)/\Af (first+n1)<(Ad data)/\data.a=some a38) (u1 λa39=>
BO T.a15 a39 (Int.toNat (Af (first+n1))*4) λn40 n41 n42 n43=>
.ex [.adr] (c1 λa44=>0<=Af (first+n1)/\Af (first+n1)<(Ad data)/\data.a=some a44) (u1 λa45=>
Be T.a15 a45 (Int.toNat (Af (first+n1))*4) (BE n34 n35 n36 n37)<|
.ex [.adr] (c1 λa46=>0<=Af (first+n18)/\Af (first+n18)<(Ad data)/\data.a=some a46) (u1 λa47=>
Be T.a15 a47 (Int.toNat (Af (first+n18))*4) (BE n40 n41 n42 n43)<|
AU<|
Ah 3 [])))))<|
Ag n18 λn48=>
Ah 2 [Ai n48])))<|
Ah 0 []
def z09e (data:Sl) (a:Int) (swaps:Option Addr) (cmp:Value):Prog :=
Aw F.a198 [data.v,Ai (Af (a-1)),Ai a,Ai (Af (a+1)),Aq swaps,cmp] λn0=>
Ag n0 λn1=>
Ah 0 [Ai n1]
def z09h (data:Sl) (a b c:Int) (swaps:Option Addr) (cmp:Value):Prog :=
BK F.a202 [data.v,Ai a,Ai b,Aq swaps,cmp] λn0 n1=>
Ag n0 λn2=>
Ag n1 λn3=>
BK F.a202 [data.v,Ai n3,Ai c,Aq swaps,cmp] λn4 n5=>
Ag n4 λn6=>
Ag n5 λn7=>
BK F.a202 [data.v,Ai n2,Ai n6,Aq swaps,cmp] λn8 n9=>
Ag n8 λn10=>
Ag n9 λn11=>
Ag n11 λn12=>
Ah 0 [Ai n12]
def z09w (data:Sl) (a b limit:Int) (cmp:Value):Prog :=
BI 1 (a,(b,(limit,(true,(true,()))))) λn0 n1 n2 b3 b4=>
BJ 2 (
Ag (Af (n1-n0)) λn5=>
Ac (decide (n5<=12)) (
Ay F.a191 [data.v,Ai n0,Ai n1,cmp]<|
Ah 0 [])<|
Ac (n2 == 0) (
Ay F.a188 [data.v,Ai n0,Ai n1,cmp]<|
Ah 0 [])<|
Aa 3 (
Ac (not b3) (
Ay F.a182 [data.v,Ai n0,Ai n1,cmp]<|
Ag (Af (n2-1)) λn6=>
Ah 3 [Ai n6])<|
Ah 3 [Ai n2]) λn7=>
BK F.a185 [data.v,Ai n0,Ai n1,cmp] λn8 n9=>
Ag n8 λn10=>
Ag n9 λn11=>
BB 3 (
Ac (n11 == 2) (
Ay F.a216 [data.v,Ai n0,Ai n1,cmp]<|
Ag (Af (Af (n1-1)-Af (n10-n0))) λn12=>
Ah 3 [Ai n12,Ai 1])<|
Ah 3 [Ai n10,Ai n11]) λn13 n14=>
Ax 3 (
Ac (b3 && b4 && n14 == 1) (
Ar F.a204 [data.v,Ai n0,Ai n1,cmp] λb15=>
Ac b15 (
Ah 0 [])<|
Ah 3 [])<|
Ah 3 [])<|
AK 3 (
AT<|
.ex [.adr] (c1 λa16=>decide (n0>0)=true->0<=Af (n0-1)/\Af (n0-1)<(Ad data)/\data.a=some a16) (u1 λa17=>
BR (decide (n0>0)=true) T.a5 a17 (Int.toNat (Af (n0-1))*7) λn18 n19 n20 n21 n22 n23 n24=>
.ex [.adr] (c1 λa25=>decide (n0>0)=true->0<=n13/\n13<(Ad data)/\data.a=some a25) (u1 λa26=>
BR (decide (n0>0)=true) T.a5 a26 (Int.toNat n13*7) λn27 n28 n29 n30 n31 n32 n33=>
Ac (decide (n0>0)) (
BM cmp [BS n18 n19 n20 n21 n22 n23 n24,BS n27 n28 n29 n30 n31 n32 n33] λn34=>
AU<|
Ah 3 [.bool (not (decide (n34<0)))])<|
AU<|
Ah 3 [.bool false]))) λb35=>
Ac b35 (
Aw F.a209 [data.v,Ai n0,Ai n1,Ai n13,cmp] λn36=>
Ag n36 λn37=>
Ag n37 λn38=>
Ah 2 [Ai n38,Ai n1,Ai n7,.bool b3,.bool b4])<|
Bi F.a207 [data.v,Ai n0,Ai n1,Ai n13,cmp] λn39 b40=>
Ag n39 λn41=>
AM b40 λb42=>
AM b42 λb43=>
Ag (Af (n41-n0)) λn44=>
Ag (Af (n1-n41)) λn45=>
Ag (Af (Int.tdiv n5 8)) λn46=>
BN 3 (
Ac (decide (n44<n45)) (
AM (decide (n44>=n46)) λb47=>
Ay F.a213 [data.v,Ai n0,Ai n41,Ai n7,cmp]<|
Ag (Af (n41+1)) λn48=>
Ah 3 [Ai n48,Ai n1,.bool b47])<|
AM (decide (n45>=n46)) λb49=>
Ay F.a213 [data.v,Ai (Af (n41+1)),Ai n1,Ai n7,cmp]<|
Ag n41 λn50=>
Ah 3 [Ai n0,Ai n50,.bool b49]) λn51 n52 b53=>
Ah 2 [Ai n51,Ai n52,Ai n7,.bool b53,.bool b43]) λn54 n55 n56 b57 b58=>
Ah 1 [Ai n54,Ai n55,Ai n56,.bool b57,.bool b58]
def z0a3 (data:Sl) (lo hi:Int) (first:Int):Prog :=
Ag lo λn0=>
Ax 1 (
AV 2 (n0,()) λn1=>
Ag (Af (Af (2*n1)+1)) λn2=>
Ac (decide (n2>=hi)) (
Ah 1 [])<|
AK 3 (
AT<|
.ex [.adr] (c1 λa3=>decide (Af (n2+1)<hi)=true->0<=Af (first+n2)/\Af (first+n2)<(Ad data)/\data.a=some a3) (u1 λa4=>
By (decide (Af (n2+1)<hi)=true) T.a55 a4 (Int.toNat (Af (first+n2))*1) λs5=>
.ex [.adr] (c1 λa6=>decide (Af (n2+1)<hi)=true->0<=Af (Af (first+n2)+1)/\Af (Af (first+n2)+1)<(Ad data)/\data.a=some a6) (u1 λa7=>
By (decide (Af (n2+1)<hi)=true) T.a55 a7 (Int.toNat (Af (Af (first+n2)+1))*1) λs8=>
Ac (decide (Af (n2+1)<hi)) (
Ar F.a2 [.string s5,.string s8] λb9=>
AU<|
Ah 3 [.bool b9])<|
AU<|
Ah 3 [.bool false]))) λb10=>
Aa 3 (
Ac b10 (
Ag (Af (n2+1)) λn11=>
Ah 3 [Ai n11])<|
Ah 3 [Ai n2]) λn12=>
AT<|
.ex [.adr] (c1 λa13=>0<=Af (first+n1)/\Af (first+n1)<(Ad data)/\data.a=some a13) (u1 λa14=>
Bh T.a55 a14 (Int.toNat (Af (first+n1))*1) λs15=>
.ex [.adr] (c1 λa16=>0<=Af (first+n12)/\Af (first+n12)<(Ad data)/\data.a=some a16) (u1 λa17=>
Bh T.a55 a17 (Int.toNat (Af (first+n12))*1) λs18=>
Ar F.a2 [.string s15,.string s18] λb19=>
AU<|
Ac (not b19) (
Ah 0 [])<|
Ax 3 (
AT<|
.ex [.adr] (c1 λa20=>0<=Af (first+n12)/\Af (first+n12)<(Ad data)/\data.a=some a20) (u1 λa21=>
Bh T.a55 a21 (Int.toNat (Af (first+n12))*1) λs22=>
.ex [.adr] (c1 λa23=>0<=Af (first+n1)/\Af (first+n1)<(Ad data)/\data.a=some a23) (u1 λa24=>
Bh T.a55 a24 (Int.toNat (Af (first+n1))*1) λs25=>
.ex [.adr] (c1 λa26=>0<=Af (first+n1)/\Af (first+n1)<(Ad data)/\data.a=some a26) (u1 λa27=>
Be T.a55 a27 (Int.toNat (Af (first+n1))*1) (.string s22)<|
.ex [.adr] (c1 λa28=>0<=Af (first+n12)/\Af (first+n12)<(Ad data)/\data.a=some a28) (u1 λa29=>
Be T.a55 a29 (Int.toNat (Af (first+n12))*1) (.string s25)<|
AU<|
Ah 3 [])))))<|
Ag n12 λn30=>
Ah 2 [Ai n30])))<|
Ah 0 []
def z09f (data:Sl) (a:Int) (swaps:Option Addr):Prog :=
Aw F.a199 [data.v,Ai (Af (a-1)),Ai a,Ai (Af (a+1)),Aq swaps] λn0=>
Ag n0 λn1=>
Ah 0 [Ai n1]
def z09i (data:Sl) (a b c:Int) (swaps:Option Addr):Prog :=
BK F.a203 [data.v,Ai a,Ai b,Aq swaps] λn0 n1=>
Ag n0 λn2=>
Ag n1 λn3=>
BK F.a203 [data.v,Ai n3,Ai c,Aq swaps] λn4 n5=>
Ag n4 λn6=>
Ag n5 λn7=>
BK F.a203 [data.v,Ai n2,Ai n6,Aq swaps] λn8 n9=>
Ag n8 λn10=>
Ag n9 λn11=>
Ag n11 λn12=>
Ah 0 [Ai n12]
def zf4 (x:ByteArray):Prog :=
AM (not (ByteArray.toList x == ByteArray.toList x)) λb0=>
Ah 0 [.bool b0]
def z09l (data:Sl) (a b:Int) (swaps:Option Addr) (cmp:Value):Prog :=
AT<|
.ex [.adr] (c1 λa0=>0<=b/\b<(Ad data)/\data.a=some a0) (u1 λa1=>
BO T.a15 a1 (Int.toNat b*4) λn2 n3 n4 n5=>
.ex [.adr] (c1 λa6=>0<=a/\a<(Ad data)/\data.a=some a6) (u1 λa7=>
BO T.a15 a7 (Int.toNat a*4) λn8 n9 n10 n11=>
BM cmp [BE n2 n3 n4 n5,BE n8 n9 n10 n11] λn12=>
AU<|
Ac (decide (n12<0)) (
As swaps λa14=>
AS T.a13 a14 λn15=>
As swaps λa17=>
AC T.a13 a17 (Ai (Af (n15+1)))<|
Ag b λn18=>
Ag a λn19=>
Ah 0 [Ai n18,Ai n19])<|
Ag a λn20=>
Ag b λn21=>
Ah 0 [Ai n20,Ai n21]))
def z09b (data:Sl) (a b:Int) (cmp:Value):Prog :=
Ag (Af (a+1)) λn0=>
Ax 1 (
AV 2 (n0,()) λn1=>
Ac (decide (n1<b)) (
Ax 3 (
Ag n1 λn2=>
Ax 4 (
AV 5 (n2,()) λn3=>
AK 6 (
AT<|
.ex [.adr] (c1 λa4=>decide (n3>a)=true->0<=n3/\n3<(Ad data)/\data.a=some a4) (u1 λa5=>
BR (decide (n3>a)=true) T.a5 a5 (Int.toNat n3*7) λn6 n7 n8 n9 n10 n11 n12=>
.ex [.adr] (c1 λa13=>decide (n3>a)=true->0<=Af (n3-1)/\Af (n3-1)<(Ad data)/\data.a=some a13) (u1 λa14=>
BR (decide (n3>a)=true) T.a5 a14 (Int.toNat (Af (n3-1))*7) λn15 n16 n17 n18 n19 n20 n21=>
Ac (decide (n3>a)) (
BM cmp [BS n6 n7 n8 n9 n10 n11 n12,BS n15 n16 n17 n18 n19 n20 n21] λn22=>
AU<|
Ah 6 [.bool (decide (n22<0))])<|
AU<|
Ah 6 [.bool false]))) λb23=>
Ac b23 (
Ax 6 (
AT<|
.ex [.adr] (c1 λa24=>0<=Af (n3-1)/\Af (n3-1)<(Ad data)/\data.a=some a24) (u1 λa25=>
BT T.a5 a25 (Int.toNat (Af (n3-1))*7) λn26 n27 n28 n29 n30 n31 n32=>
.ex [.adr] (c1 λa33=>0<=n3/\n3<(Ad data)/\data.a=some a33) (u1 λa34=>
BT T.a5 a34 (Int.toNat n3*7) λn35 n36 n37 n38 n39 n40 n41=>
.ex [.adr] (c1 λa42=>0<=n3/\n3<(Ad data)/\data.a=some a42) (u1 λa43=>
Be T.a5 a43 (Int.toNat n3*7) (BS n26 n27 n28 n29 n30 n31 n32)<|
.ex [.adr] (c1 λa44=>0<=Af (n3-1)/\Af (n3-1)<(Ad data)/\data.a=some a44) (u1 λa45=>
Be T.a5 a45 (Int.toNat (Af (n3-1))*7) (BS n35 n36 n37 n38 n39 n40 n41)<|
AU<|
Ah 6 [])))))<|
Ag (Af (n3-1)) λn46=>
Ah 5 [Ai n46])<|
Ah 4 [])<|
Ah 3 [])<|
Ag (Af (n1+1)) λn47=>
Ah 2 [Ai n47])<|
Ah 1 [])<|
Ah 0 []
def z098 (data:Sl) (a b:Int) (cmp:Value):Prog :=
Ag a λn0=>
Ag (Af (b-a)) λn1=>
Ag (Af (Int.tdiv (Af (n1-1)) 2)) λn2=>
Ax 1 (
AV 2 (n2,()) λn3=>
Ac (decide (n3>=0)) (
Ay F.a219 [data.v,Ai n3,Ai n1,Ai n0,cmp]<|
Ag (Af (n3-1)) λn4=>
Ah 2 [Ai n4])<|
Ah 1 [])<|
Ag (Af (n1-1)) λn5=>
Ax 1 (
AV 2 (n5,()) λn6=>
Ac (decide (n6>=0)) (
Ax 3 (
AT<|
.ex [.adr] (c1 λa7=>0<=Af (n0+n6)/\Af (n0+n6)<(Ad data)/\data.a=some a7) (u1 λa8=>
BT T.a5 a8 (Int.toNat (Af (n0+n6))*7) λn9 n10 n11 n12 n13 n14 n15=>
.ex [.adr] (c1 λa16=>0<=n0/\n0<(Ad data)/\data.a=some a16) (u1 λa17=>
BT T.a5 a17 (Int.toNat n0*7) λn18 n19 n20 n21 n22 n23 n24=>
.ex [.adr] (c1 λa25=>0<=n0/\n0<(Ad data)/\data.a=some a25) (u1 λa26=>
Be T.a5 a26 (Int.toNat n0*7) (BS n9 n10 n11 n12 n13 n14 n15)<|
.ex [.adr] (c1 λa27=>0<=Af (n0+n6)/\Af (n0+n6)<(Ad data)/\data.a=some a27) (u1 λa28=>
Be T.a5 a28 (Int.toNat (Af (n0+n6))*7) (BS n18 n19 n20 n21 n22 n23 n24)<|
AU<|
Ah 3 [])))))<|
Ay F.a219 [data.v,Ai 0,Ai n6,Ai n0,cmp]<|
Ag (Af (n6-1)) λn29=>
Ah 2 [Ai n29])<|
Ah 1 [])<|
Ah 0 []
def z092 (data:Sl) (a b:Int) (cmp:Value):Prog :=
Ag (Af (b-a)) λn0=>
Ax 1 (
Ac (decide (n0>=8)) (
AB T.a54 λa1=>
AC T.a54 a1 (.int .u64 (IntKind.wrap .u64 n0))<|
Av F.a200 [Ai n0] λn2=>
Am n2 λn3=>
Ag (Af (Af (a+Af (Af (Int.tdiv n0 4)*2))-1)) λn4=>
Ax 2 (
AV 3 (n4,()) λn5=>
Ac (decide (n5<=Af (Af (a+Af (Af (Int.tdiv n0 4)*2))+1))) (
Av F.a222 [Ap a1] λn6=>
Ag (Af (IntKind.wrap .u64 (((BitVec.toNat (BitVec.ofInt 64 n6 &&& BitVec.ofInt 64 (IntKind.wrap .u64 (n3-1))):Nat):Int)))) λn7=>
Aa 4 (
Ac (decide (n7>=n0)) (
Ag (Af (n7-n0)) λn8=>
Ah 4 [Ai n8])<|
Ah 4 [Ai n7]) λn9=>
Ax 4 (
AT<|
.ex [.adr] (c1 λa10=>0<=Af (a+n9)/\Af (a+n9)<(Ad data)/\data.a=some a10) (u1 λa11=>
BT T.a5 a11 (Int.toNat (Af (a+n9))*7) λn12 n13 n14 n15 n16 n17 n18=>
.ex [.adr] (c1 λa19=>0<=n5/\n5<(Ad data)/\data.a=some a19) (u1 λa20=>
BT T.a5 a20 (Int.toNat n5*7) λn21 n22 n23 n24 n25 n26 n27=>
.ex [.adr] (c1 λa28=>0<=n5/\n5<(Ad data)/\data.a=some a28) (u1 λa29=>
Be T.a5 a29 (Int.toNat n5*7) (BS n12 n13 n14 n15 n16 n17 n18)<|
.ex [.adr] (c1 λa30=>0<=Af (a+n9)/\Af (a+n9)<(Ad data)/\data.a=some a30) (u1 λa31=>
Be T.a5 a31 (Int.toNat (Af (a+n9))*7) (BS n21 n22 n23 n24 n25 n26 n27)<|
AU<|
Ah 4 [])))))<|
Ag (Af (n5+1)) λn32=>
Ah 3 [Ai n32])<|
Ah 2 [])<|
Ah 1 [])<|
Ah 1 [])<|
Ah 0 []
def z095 (data:Sl) (a b:Int) (cmp:Value):Prog :=
Ag (Af (b-a)) λn0=>
AB T.a13 λa1=>
Ag (Af (a+Af (Af (Int.tdiv n0 4)*1))) λn2=>
Ag (Af (a+Af (Af (Int.tdiv n0 4)*2))) λn3=>
Ag (Af (a+Af (Af (Int.tdiv n0 4)*3))) λn4=>
Aa 1 (
Ac (decide (n0>=8)) (
BQ 2 (
Ac (decide (n0>=50)) (
Aw F.a194 [data.v,Ai n2,Ap a1,cmp] λn5=>
Ag n5 λn6=>
Aw F.a194 [data.v,Ai n3,Ap a1,cmp] λn7=>
Ag n7 λn8=>
Aw F.a194 [data.v,Ai n4,Ap a1,cmp] λn9=>
Ag n9 λn10=>
Ah 2 [Ai n6,Ai n8,Ai n10])<|
Ah 2 [Ai n2,Ai n3,Ai n4]) λn11 n12 n13=>
Aw F.a197 [data.v,Ai n11,Ai n12,Ai n13,Ap a1,cmp] λn14=>
Ag n14 λn15=>
Ah 1 [Ai n15])<|
Ah 1 [Ai n3]) λn16=>
AS T.a13 a1 λn17=>
AJ (n17 == 0) (
Ag n16 λn19=>
Ah 0 [Ai n19,Ai 1])<|
AJ (n17 == 12) (
Ag n16 λn21=>
Ah 0 [Ai n21,Ai 2])<|
Ag n16 λn22=>
Ah 0 [Ai n22,Ai 0]
def z09y (data:Sl) (a b:Int) (cmp:Value):Prog :=
Ag a λn0=>
Ag (Af (b-1)) λn1=>
Ax 1 (
Ab 2 (n0,(n1,())) λn2 n3=>
Ac (decide (n2<n3)) (
Ax 3 (
AT<|
.ex [.adr] (c1 λa4=>0<=n3/\n3<(Ad data)/\data.a=some a4) (u1 λa5=>
BT T.a5 a5 (Int.toNat n3*7) λn6 n7 n8 n9 n10 n11 n12=>
.ex [.adr] (c1 λa13=>0<=n2/\n2<(Ad data)/\data.a=some a13) (u1 λa14=>
BT T.a5 a14 (Int.toNat n2*7) λn15 n16 n17 n18 n19 n20 n21=>
.ex [.adr] (c1 λa22=>0<=n2/\n2<(Ad data)/\data.a=some a22) (u1 λa23=>
Be T.a5 a23 (Int.toNat n2*7) (BS n6 n7 n8 n9 n10 n11 n12)<|
.ex [.adr] (c1 λa24=>0<=n3/\n3<(Ad data)/\data.a=some a24) (u1 λa25=>
Be T.a5 a25 (Int.toNat n3*7) (BS n15 n16 n17 n18 n19 n20 n21)<|
AU<|
Ah 3 [])))))<|
Ag (Af (n2+1)) λn26=>
Ag (Af (n3-1)) λn27=>
Ah 2 [Ai n26,Ai n27])<|
Ah 1 [])<|
Ah 0 []
def z09n (data:Sl) (a b:Int) (cmp:Value):Prog :=
Ag (Af (a+1)) λn0=>
Ax 1 (
Ab 2 (n0,(0,())) λn1 n2=>
Ac (decide (n2<5)) (
Aa 3 (
Aa 4 (
AV 5 (n1,()) λn3=>
AK 6 (
AT<|
.ex [.adr] (c1 λa4=>decide (n3<b)=true->0<=n3/\n3<(Ad data)/\data.a=some a4) (u1 λa5=>
BR (decide (n3<b)=true) T.a5 a5 (Int.toNat n3*7) λn6 n7 n8 n9 n10 n11 n12=>
.ex [.adr] (c1 λa13=>decide (n3<b)=true->0<=Af (n3-1)/\Af (n3-1)<(Ad data)/\data.a=some a13) (u1 λa14=>
BR (decide (n3<b)=true) T.a5 a14 (Int.toNat (Af (n3-1))*7) λn15 n16 n17 n18 n19 n20 n21=>
Ac (decide (n3<b)) (
BM cmp [BS n6 n7 n8 n9 n10 n11 n12,BS n15 n16 n17 n18 n19 n20 n21] λn22=>
AU<|
Ah 6 [.bool (not (decide (n22<0)))])<|
AU<|
Ah 6 [.bool false]))) λb23=>
Ac b23 (
Ag (Af (n3+1)) λn24=>
Ah 5 [Ai n24])<|
Ah 4 [Ai n3]) λn25=>
Ac (n25 == b) (
Ah 0 [.bool true])<|
Ac (decide (Af (b-a)<50)) (
Ah 0 [.bool false])<|
Ax 4 (
AT<|
.ex [.adr] (c1 λa26=>0<=Af (n25-1)/\Af (n25-1)<(Ad data)/\data.a=some a26) (u1 λa27=>
BT T.a5 a27 (Int.toNat (Af (n25-1))*7) λn28 n29 n30 n31 n32 n33 n34=>
.ex [.adr] (c1 λa35=>0<=n25/\n25<(Ad data)/\data.a=some a35) (u1 λa36=>
BT T.a5 a36 (Int.toNat n25*7) λn37 n38 n39 n40 n41 n42 n43=>
.ex [.adr] (c1 λa44=>0<=n25/\n25<(Ad data)/\data.a=some a44) (u1 λa45=>
Be T.a5 a45 (Int.toNat n25*7) (BS n28 n29 n30 n31 n32 n33 n34)<|
.ex [.adr] (c1 λa46=>0<=Af (n25-1)/\Af (n25-1)<(Ad data)/\data.a=some a46) (u1 λa47=>
Be T.a5 a47 (Int.toNat (Af (n25-1))*7) (BS n37 n38 n39 n40 n41 n42 n43)<|
AU<|
Ah 4 [])))))<|
Ax 4 (
Ac (decide (Af (n25-a)>=2)) (
Ag (Af (n25-1)) λn48=>
Ax 5 (
AV 6 (n48,()) λn49=>
Ac (decide (n49>=1)) (
AT<|
.ex [.adr] (c1 λa50=>0<=n49/\n49<(Ad data)/\data.a=some a50) (u1 λa51=>
BT T.a5 a51 (Int.toNat n49*7) λn52 n53 n54 n55 n56 n57 n58=>
.ex [.adr] (c1 λa59=>0<=Af (n49-1)/\Af (n49-1)<(Ad data)/\data.a=some a59) (u1 λa60=>
BT T.a5 a60 (Int.toNat (Af (n49-1))*7) λn61 n62 n63 n64 n65 n66 n67=>
BM cmp [BS n52 n53 n54 n55 n56 n57 n58,BS n61 n62 n63 n64 n65 n66 n67] λn68=>
AU<|
Ac (not (decide (n68<0))) (
Ah 5 [])<|
Ax 7 (
AT<|
.ex [.adr] (c1 λa69=>0<=Af (n49-1)/\Af (n49-1)<(Ad data)/\data.a=some a69) (u1 λa70=>
BT T.a5 a70 (Int.toNat (Af (n49-1))*7) λn71 n72 n73 n74 n75 n76 n77=>
.ex [.adr] (c1 λa78=>0<=n49/\n49<(Ad data)/\data.a=some a78) (u1 λa79=>
BT T.a5 a79 (Int.toNat n49*7) λn80 n81 n82 n83 n84 n85 n86=>
.ex [.adr] (c1 λa87=>0<=n49/\n49<(Ad data)/\data.a=some a87) (u1 λa88=>
Be T.a5 a88 (Int.toNat n49*7) (BS n71 n72 n73 n74 n75 n76 n77)<|
.ex [.adr] (c1 λa89=>0<=Af (n49-1)/\Af (n49-1)<(Ad data)/\data.a=some a89) (u1 λa90=>
Be T.a5 a90 (Int.toNat (Af (n49-1))*7) (BS n80 n81 n82 n83 n84 n85 n86)<|
AU<|
Ah 7 [])))))<|
Ag (Af (n49-1)) λn91=>
Ah 6 [Ai n91])))<|
Ah 5 [])<|
Ah 4 [])<|
Ah 4 [])<|
Ax 4 (
Ac (decide (Af (b-n25)>=2)) (
Ag (Af (n25+1)) λn92=>
Ax 5 (
AV 6 (n92,()) λn93=>
Ac (decide (n93<b)) (
AT<|
.ex [.adr] (c1 λa94=>0<=n93/\n93<(Ad data)/\data.a=some a94) (u1 λa95=>
BT T.a5 a95 (Int.toNat n93*7) λn96 n97 n98 n99 n100 n101 n102=>
.ex [.adr] (c1 λa103=>0<=Af (n93-1)/\Af (n93-1)<(Ad data)/\data.a=some a103) (u1 λa104=>
BT T.a5 a104 (Int.toNat (Af (n93-1))*7) λn105 n106 n107 n108 n109 n110 n111=>
BM cmp [BS n96 n97 n98 n99 n100 n101 n102,BS n105 n106 n107 n108 n109 n110 n111] λn112=>
AU<|
Ac (not (decide (n112<0))) (
Ah 5 [])<|
Ax 7 (
AT<|
.ex [.adr] (c1 λa113=>0<=Af (n93-1)/\Af (n93-1)<(Ad data)/\data.a=some a113) (u1 λa114=>
BT T.a5 a114 (Int.toNat (Af (n93-1))*7) λn115 n116 n117 n118 n119 n120 n121=>
.ex [.adr] (c1 λa122=>0<=n93/\n93<(Ad data)/\data.a=some a122) (u1 λa123=>
BT T.a5 a123 (Int.toNat n93*7) λn124 n125 n126 n127 n128 n129 n130=>
.ex [.adr] (c1 λa131=>0<=n93/\n93<(Ad data)/\data.a=some a131) (u1 λa132=>
Be T.a5 a132 (Int.toNat n93*7) (BS n115 n116 n117 n118 n119 n120 n121)<|
.ex [.adr] (c1 λa133=>0<=Af (n93-1)/\Af (n93-1)<(Ad data)/\data.a=some a133) (u1 λa134=>
Be T.a5 a134 (Int.toNat (Af (n93-1))*7) (BS n124 n125 n126 n127 n128 n129 n130)<|
AU<|
Ah 7 [])))))<|
Ag (Af (n93+1)) λn135=>
Ah 6 [Ai n135])))<|
Ah 5 [])<|
Ah 4 [])<|
Ah 4 [])<|
Ah 3 [Ai n25]) λn136=>
Ag (Af (n2+1)) λn137=>
Ah 2 [Ai n136,Ai n137])<|
Ah 1 [])<|
Ah 0 [.bool false]
def z09s (data:Sl) (a b pivot:Int) (cmp:Value):Prog :=
Ax 1 (
AT<|
.ex [.adr] (c1 λa0=>0<=pivot/\pivot<(Ad data)/\data.a=some a0) (u1 λa1=>
BT T.a5 a1 (Int.toNat pivot*7) λn2 n3 n4 n5 n6 n7 n8=>
.ex [.adr] (c1 λa9=>0<=a/\a<(Ad data)/\data.a=some a9) (u1 λa10=>
BT T.a5 a10 (Int.toNat a*7) λn11 n12 n13 n14 n15 n16 n17=>
.ex [.adr] (c1 λa18=>0<=a/\a<(Ad data)/\data.a=some a18) (u1 λa19=>
Be T.a5 a19 (Int.toNat a*7) (BS n2 n3 n4 n5 n6 n7 n8)<|
.ex [.adr] (c1 λa20=>0<=pivot/\pivot<(Ad data)/\data.a=some a20) (u1 λa21=>
Be T.a5 a21 (Int.toNat pivot*7) (BS n11 n12 n13 n14 n15 n16 n17)<|
AU<|
Ah 1 [])))))<|
Ag (Af (a+1)) λn22=>
Ag (Af (b-1)) λn23=>
Aa 1 (
Ab 2 (n22,(n23,())) λn24 n25=>
BB 3 (
Aa 4 (
AV 5 (n24,()) λn26=>
AK 6 (
AT<|
.ex [.adr] (c1 λa27=>decide (n26<=n25)=true->0<=a/\a<(Ad data)/\data.a=some a27) (u1 λa28=>
BR (decide (n26<=n25)=true) T.a5 a28 (Int.toNat a*7) λn29 n30 n31 n32 n33 n34 n35=>
.ex [.adr] (c1 λa36=>decide (n26<=n25)=true->0<=n26/\n26<(Ad data)/\data.a=some a36) (u1 λa37=>
BR (decide (n26<=n25)=true) T.a5 a37 (Int.toNat n26*7) λn38 n39 n40 n41 n42 n43 n44=>
Ac (decide (n26<=n25)) (
BM cmp [BS n29 n30 n31 n32 n33 n34 n35,BS n38 n39 n40 n41 n42 n43 n44] λn45=>
AU<|
Ah 6 [.bool (not (decide (n45<0)))])<|
AU<|
Ah 6 [.bool false]))) λb46=>
Ac b46 (
Ag (Af (n26+1)) λn47=>
Ah 5 [Ai n47])<|
Ah 4 [Ai n26]) λn48=>
Aa 4 (
AV 5 (n25,()) λn49=>
AK 6 (
AT<|
.ex [.adr] (c1 λa50=>decide (n48<=n49)=true->0<=a/\a<(Ad data)/\data.a=some a50) (u1 λa51=>
BR (decide (n48<=n49)=true) T.a5 a51 (Int.toNat a*7) λn52 n53 n54 n55 n56 n57 n58=>
.ex [.adr] (c1 λa59=>decide (n48<=n49)=true->0<=n49/\n49<(Ad data)/\data.a=some a59) (u1 λa60=>
BR (decide (n48<=n49)=true) T.a5 a60 (Int.toNat n49*7) λn61 n62 n63 n64 n65 n66 n67=>
Ac (decide (n48<=n49)) (
BM cmp [BS n52 n53 n54 n55 n56 n57 n58,BS n61 n62 n63 n64 n65 n66 n67] λn68=>
AU<|
Ah 6 [.bool (decide (n68<0))])<|
AU<|
Ah 6 [.bool false]))) λb69=>
Ac b69 (
Ag (Af (n49-1)) λn70=>
Ah 5 [Ai n70])<|
Ah 4 [Ai n49]) λn71=>
Ac (decide (n48>n71)) (
Ah 1 [Ai n48])<|
Ax 4 (
AT<|
.ex [.adr] (c1 λa72=>0<=n71/\n71<(Ad data)/\data.a=some a72) (u1 λa73=>
BT T.a5 a73 (Int.toNat n71*7) λn74 n75 n76 n77 n78 n79 n80=>
.ex [.adr] (c1 λa81=>0<=n48/\n48<(Ad data)/\data.a=some a81) (u1 λa82=>
BT T.a5 a82 (Int.toNat n48*7) λn83 n84 n85 n86 n87 n88 n89=>
.ex [.adr] (c1 λa90=>0<=n48/\n48<(Ad data)/\data.a=some a90) (u1 λa91=>
Be T.a5 a91 (Int.toNat n48*7) (BS n74 n75 n76 n77 n78 n79 n80)<|
.ex [.adr] (c1 λa92=>0<=n71/\n71<(Ad data)/\data.a=some a92) (u1 λa93=>
Be T.a5 a93 (Int.toNat n71*7) (BS n83 n84 n85 n86 n87 n88 n89)<|
AU<|
Ah 4 [])))))<|
Ag (Af (n48+1)) λn94=>
Ag (Af (n71-1)) λn95=>
Ah 3 [Ai n94,Ai n95]) λn96 n97=>
Ah 2 [Ai n96,Ai n97]) λn98=>
Ag n98 λn99=>
Ah 0 [Ai n99]
def z09q (data:Sl) (a b pivot:Int) (cmp:Value):Prog :=
Ax 1 (
AT<|
.ex [.adr] (c1 λa0=>0<=pivot/\pivot<(Ad data)/\data.a=some a0) (u1 λa1=>
BT T.a5 a1 (Int.toNat pivot*7) λn2 n3 n4 n5 n6 n7 n8=>
.ex [.adr] (c1 λa9=>0<=a/\a<(Ad data)/\data.a=some a9) (u1 λa10=>
BT T.a5 a10 (Int.toNat a*7) λn11 n12 n13 n14 n15 n16 n17=>
.ex [.adr] (c1 λa18=>0<=a/\a<(Ad data)/\data.a=some a18) (u1 λa19=>
Be T.a5 a19 (Int.toNat a*7) (BS n2 n3 n4 n5 n6 n7 n8)<|
.ex [.adr] (c1 λa20=>0<=pivot/\pivot<(Ad data)/\data.a=some a20) (u1 λa21=>
Be T.a5 a21 (Int.toNat pivot*7) (BS n11 n12 n13 n14 n15 n16 n17)<|
AU<|
Ah 1 [])))))<|
Ag (Af (a+1)) λn22=>
Ag (Af (b-1)) λn23=>
Aa 1 (
AV 2 (n22,()) λn24=>
AK 3 (
AT<|
.ex [.adr] (c1 λa25=>decide (n24<=n23)=true->0<=n24/\n24<(Ad data)/\data.a=some a25) (u1 λa26=>
BR (decide (n24<=n23)=true) T.a5 a26 (Int.toNat n24*7) λn27 n28 n29 n30 n31 n32 n33=>
.ex [.adr] (c1 λa34=>decide (n24<=n23)=true->0<=a/\a<(Ad data)/\data.a=some a34) (u1 λa35=>
BR (decide (n24<=n23)=true) T.a5 a35 (Int.toNat a*7) λn36 n37 n38 n39 n40 n41 n42=>
Ac (decide (n24<=n23)) (
BM cmp [BS n27 n28 n29 n30 n31 n32 n33,BS n36 n37 n38 n39 n40 n41 n42] λn43=>
AU<|
Ah 3 [.bool (decide (n43<0))])<|
AU<|
Ah 3 [.bool false]))) λb44=>
Ac b44 (
Ag (Af (n24+1)) λn45=>
Ah 2 [Ai n45])<|
Ah 1 [Ai n24]) λn46=>
Aa 1 (
AV 2 (n23,()) λn47=>
AK 3 (
AT<|
.ex [.adr] (c1 λa48=>decide (n46<=n47)=true->0<=n47/\n47<(Ad data)/\data.a=some a48) (u1 λa49=>
BR (decide (n46<=n47)=true) T.a5 a49 (Int.toNat n47*7) λn50 n51 n52 n53 n54 n55 n56=>
.ex [.adr] (c1 λa57=>decide (n46<=n47)=true->0<=a/\a<(Ad data)/\data.a=some a57) (u1 λa58=>
BR (decide (n46<=n47)=true) T.a5 a58 (Int.toNat a*7) λn59 n60 n61 n62 n63 n64 n65=>
Ac (decide (n46<=n47)) (
BM cmp [BS n50 n51 n52 n53 n54 n55 n56,BS n59 n60 n61 n62 n63 n64 n65] λn66=>
AU<|
Ah 3 [.bool (not (decide (n66<0)))])<|
AU<|
Ah 3 [.bool false]))) λb67=>
Ac b67 (
Ag (Af (n47-1)) λn68=>
Ah 2 [Ai n68])<|
Ah 1 [Ai n47]) λn69=>
Ac (decide (n46>n69)) (
Ax 1 (
AT<|
.ex [.adr] (c1 λa70=>0<=a/\a<(Ad data)/\data.a=some a70) (u1 λa71=>
BT T.a5 a71 (Int.toNat a*7) λn72 n73 n74 n75 n76 n77 n78=>
.ex [.adr] (c1 λa79=>0<=n69/\n69<(Ad data)/\data.a=some a79) (u1 λa80=>
BT T.a5 a80 (Int.toNat n69*7) λn81 n82 n83 n84 n85 n86 n87=>
.ex [.adr] (c1 λa88=>0<=n69/\n69<(Ad data)/\data.a=some a88) (u1 λa89=>
Be T.a5 a89 (Int.toNat n69*7) (BS n72 n73 n74 n75 n76 n77 n78)<|
.ex [.adr] (c1 λa90=>0<=a/\a<(Ad data)/\data.a=some a90) (u1 λa91=>
Be T.a5 a91 (Int.toNat a*7) (BS n81 n82 n83 n84 n85 n86 n87)<|
AU<|
Ah 1 [])))))<|
Ag n69 λn92=>
Ah 0 [Ai n92,.bool true])<|
Ax 1 (
AT<|
.ex [.adr] (c1 λa93=>0<=n69/\n69<(Ad data)/\data.a=some a93) (u1 λa94=>
BT T.a5 a94 (Int.toNat n69*7) λn95 n96 n97 n98 n99 n100 n101=>
.ex [.adr] (c1 λa102=>0<=n46/\n46<(Ad data)/\data.a=some a102) (u1 λa103=>
BT T.a5 a103 (Int.toNat n46*7) λn104 n105 n106 n107 n108 n109 n110=>
.ex [.adr] (c1 λa111=>0<=n46/\n46<(Ad data)/\data.a=some a111) (u1 λa112=>
Be T.a5 a112 (Int.toNat n46*7) (BS n95 n96 n97 n98 n99 n100 n101)<|
.ex [.adr] (c1 λa113=>0<=n69/\n69<(Ad data)/\data.a=some a113) (u1 λa114=>
Be T.a5 a114 (Int.toNat n69*7) (BS n104 n105 n106 n107 n108 n109 n110)<|
AU<|
Ah 1 [])))))<|
Ag (Af (n46+1)) λn115=>
Ag (Af (n69-1)) λn116=>
Aa 1 (
Ab 2 (n115,(n116,())) λn117 n118=>
BB 3 (
Aa 4 (
AV 5 (n117,()) λn119=>
AK 6 (
AT<|
.ex [.adr] (c1 λa120=>decide (n119<=n118)=true->0<=n119/\n119<(Ad data)/\data.a=some a120) (u1 λa121=>
BR (decide (n119<=n118)=true) T.a5 a121 (Int.toNat n119*7) λn122 n123 n124 n125 n126 n127 n128=>
.ex [.adr] (c1 λa129=>decide (n119<=n118)=true->0<=a/\a<(Ad data)/\data.a=some a129) (u1 λa130=>
BR (decide (n119<=n118)=true) T.a5 a130 (Int.toNat a*7) λn131 n132 n133 n134 n135 n136 n137=>
Ac (decide (n119<=n118)) (
BM cmp [BS n122 n123 n124 n125 n126 n127 n128,BS n131 n132 n133 n134 n135 n136 n137] λn138=>
AU<|
Ah 6 [.bool (decide (n138<0))])<|
AU<|
Ah 6 [.bool false]))) λb139=>
Ac b139 (
Ag (Af (n119+1)) λn140=>
Ah 5 [Ai n140])<|
Ah 4 [Ai n119]) λn141=>
Aa 4 (
AV 5 (n118,()) λn142=>
AK 6 (
AT<|
.ex [.adr] (c1 λa143=>decide (n141<=n142)=true->0<=n142/\n142<(Ad data)/\data.a=some a143) (u1 λa144=>
BR (decide (n141<=n142)=true) T.a5 a144 (Int.toNat n142*7) λn145 n146 n147 n148 n149 n150 n151=>
.ex [.adr] (c1 λa152=>decide (n141<=n142)=true->0<=a/\a<(Ad data)/\data.a=some a152) (u1 λa153=>
BR (decide (n141<=n142)=true) T.a5 a153 (Int.toNat a*7) λn154 n155 n156 n157 n158 n159 n160=>
Ac (decide (n141<=n142)) (
BM cmp [BS n145 n146 n147 n148 n149 n150 n151,BS n154 n155 n156 n157 n158 n159 n160] λn161=>
AU<|
Ah 6 [.bool (not (decide (n161<0)))])<|
AU<|
Ah 6 [.bool false]))) λb162=>
Ac b162 (
Ag (Af (n142-1)) λn163=>
Ah 5 [Ai n163])<|
Ah 4 [Ai n142]) λn164=>
Ac (decide (n141>n164)) (
Ah 1 [Ai n164])<|
Ax 4 (
AT<|
.ex [.adr] (c1 λa165=>0<=n164/\n164<(Ad data)/\data.a=some a165) (u1 λa166=>
BT T.a5 a166 (Int.toNat n164*7) λn167 n168 n169 n170 n171 n172 n173=>
.ex [.adr] (c1 λa174=>0<=n141/\n141<(Ad data)/\data.a=some a174) (u1 λa175=>
BT T.a5 a175 (Int.toNat n141*7) λn176 n177 n178 n179 n180 n181 n182=>
.ex [.adr] (c1 λa183=>0<=n141/\n141<(Ad data)/\data.a=some a183) (u1 λa184=>
Be T.a5 a184 (Int.toNat n141*7) (BS n167 n168 n169 n170 n171 n172 n173)<|
.ex [.adr] (c1 λa185=>0<=n164/\n164<(Ad data)/\data.a=some a185) (u1 λa186=>
Be T.a5 a186 (Int.toNat n164*7) (BS n176 n177 n178 n179 n180 n181 n182)<|
AU<|
Ah 4 [])))))<|
Ag (Af (n141+1)) λn187=>
Ag (Af (n164-1)) λn188=>
Ah 3 [Ai n187,Ai n188]) λn189 n190=>
Ah 2 [Ai n189,Ai n190]) λn191=>
Ax 1 (
AT<|
.ex [.adr] (c1 λa192=>0<=a/\a<(Ad data)/\data.a=some a192) (u1 λa193=>
BT T.a5 a193 (Int.toNat a*7) λn194 n195 n196 n197 n198 n199 n200=>
.ex [.adr] (c1 λa201=>0<=n191/\n191<(Ad data)/\data.a=some a201) (u1 λa202=>
BT T.a5 a202 (Int.toNat n191*7) λn203 n204 n205 n206 n207 n208 n209=>
.ex [.adr] (c1 λa210=>0<=n191/\n191<(Ad data)/\data.a=some a210) (u1 λa211=>
Be T.a5 a211 (Int.toNat n191*7) (BS n194 n195 n196 n197 n198 n199 n200)<|
.ex [.adr] (c1 λa212=>0<=a/\a<(Ad data)/\data.a=some a212) (u1 λa213=>
Be T.a5 a213 (Int.toNat a*7) (BS n203 n204 n205 n206 n207 n208 n209)<|
AU<|
Ah 1 [])))))<|
Ag n191 λn214=>
Ah 0 [Ai n214,.bool false]
def z09m (data:Sl) (a b:Int) (swaps:Option Addr):Prog :=
AT<|
.ex [.adr] (c1 λa0=>0<=b/\b<(Ad data)/\data.a=some a0) (u1 λa1=>
Bh T.a55 a1 (Int.toNat b*1) λs2=>
.ex [.adr] (c1 λa3=>0<=a/\a<(Ad data)/\data.a=some a3) (u1 λa4=>
Bh T.a55 a4 (Int.toNat a*1) λs5=>
Ar F.a2 [.string s2,.string s5] λb6=>
AU<|
Ac b6 (
As swaps λa8=>
AS T.a13 a8 λn9=>
As swaps λa11=>
AC T.a13 a11 (Ai (Af (n9+1)))<|
Ag b λn12=>
Ag a λn13=>
Ah 0 [Ai n12,Ai n13])<|
Ag a λn14=>
Ag b λn15=>
Ah 0 [Ai n14,Ai n15]))
def z0a1 (data:Sl) (lo hi first:Int) (cmp:Value):Prog :=
Ag lo λn0=>
Ax 1 (
AV 2 (n0,()) λn1=>
Ag (Af (Af (2*n1)+1)) λn2=>
Ac (decide (n2>=hi)) (
Ah 1 [])<|
AK 3 (
AT<|
.ex [.adr] (c1 λa3=>decide (Af (n2+1)<hi)=true->0<=Af (first+n2)/\Af (first+n2)<(Ad data)/\data.a=some a3) (u1 λa4=>
BR (decide (Af (n2+1)<hi)=true) T.a5 a4 (Int.toNat (Af (first+n2))*7) λn5 n6 n7 n8 n9 n10 n11=>
.ex [.adr] (c1 λa12=>decide (Af (n2+1)<hi)=true->0<=Af (Af (first+n2)+1)/\Af (Af (first+n2)+1)<(Ad data)/\data.a=some a12) (u1 λa13=>
BR (decide (Af (n2+1)<hi)=true) T.a5 a13 (Int.toNat (Af (Af (first+n2)+1))*7) λn14 n15 n16 n17 n18 n19 n20=>
Ac (decide (Af (n2+1)<hi)) (
BM cmp [BS n5 n6 n7 n8 n9 n10 n11,BS n14 n15 n16 n17 n18 n19 n20] λn21=>
AU<|
Ah 3 [.bool (decide (n21<0))])<|
AU<|
Ah 3 [.bool false]))) λb22=>
Aa 3 (
Ac b22 (
Ag (Af (n2+1)) λn23=>
Ah 3 [Ai n23])<|
Ah 3 [Ai n2]) λn24=>
AT<|
.ex [.adr] (c1 λa25=>0<=Af (first+n1)/\Af (first+n1)<(Ad data)/\data.a=some a25) (u1 λa26=>
BT T.a5 a26 (Int.toNat (Af (first+n1))*7) λn27 n28 n29 n30 n31 n32 n33=>
.ex [.adr] (c1 λa34=>0<=Af (first+n24)/\Af (first+n24)<(Ad data)/\data.a=some a34) (u1 λa35=>
BT T.a5 a35 (Int.toNat (Af (first+n24))*7) λn36 n37 n38 n39 n40 n41 n42=>
BM cmp [BS n27 n28 n29 n30 n31 n32 n33,BS n36 n37 n38 n39 n40 n41 n42] λn43=>
AU<|
Ac (not (decide (n43<0))) (
Ah 0 [])<|
Ax 3 (
AT<|
.ex [.adr] (c1 λa44=>0<=Af (first+n24)/\Af (first+n24)<(Ad data)/\data.a=some a44) (u1 λa45=>
BT T.a5 a45 (Int.toNat (Af (first+n24))*7) λn46 n47 n48 n49 n50 n51 n52=>
.ex [.adr] (c1 λa53=>0<=Af (first+n1)/\Af (first+n1)<(Ad data)/\data.a=some a53) (u1 λa54=>
BT T.a5 a54 (Int.toNat (Af (first+n1))*7) λn55 n56 n57 n58 n59 n60 n61=>
.ex [.adr] (c1 λa62=>0<=Af (first+n1)/\Af (first+n1)<(Ad data)/\data.a=some a62) (u1 λa63=>
Be T.a5 a63 (Int.toNat (Af (first+n1))*7) (BS n46 n47 n48 n49 n50 n51 n52)<|
.ex [.adr] (c1 λa64=>0<=Af (first+n24)/\Af (first+n24)<(Ad data)/\data.a=some a64) (u1 λa65=>
Be T.a5 a65 (Int.toNat (Af (first+n24))*7) (BS n55 n56 n57 n58 n59 n60 n61)<|
AU<|
Ah 3 [])))))<|
Ag n24 λn66=>
Ah 2 [Ai n66])))<|
Ah 0 []
def z09d (data:Sl) (a:Int) (swaps:Option Addr) (cmp:Value):Prog :=
Aw F.a197 [data.v,Ai (Af (a-1)),Ai a,Ai (Af (a+1)),Aq swaps,cmp] λn0=>
Ag n0 λn1=>
Ah 0 [Ai n1]
def z09g (data:Sl) (a b c:Int) (swaps:Option Addr) (cmp:Value):Prog :=
BK F.a201 [data.v,Ai a,Ai b,Aq swaps,cmp] λn0 n1=>
Ag n0 λn2=>
Ag n1 λn3=>
BK F.a201 [data.v,Ai n3,Ai c,Aq swaps,cmp] λn4 n5=>
Ag n4 λn6=>
Ag n5 λn7=>
BK F.a201 [data.v,Ai n2,Ai n6,Aq swaps,cmp] λn8 n9=>
Ag n8 λn10=>
Ag n9 λn11=>
Ag n11 λn12=>
Ah 0 [Ai n12]
def z09k (data:Sl) (a b:Int) (swaps:Option Addr) (cmp:Value):Prog :=
AT<|
.ex [.adr] (c1 λa0=>0<=b/\b<(Ad data)/\data.a=some a0) (u1 λa1=>
BT T.a5 a1 (Int.toNat b*7) λn2 n3 n4 n5 n6 n7 n8=>
.ex [.adr] (c1 λa9=>0<=a/\a<(Ad data)/\data.a=some a9) (u1 λa10=>
BT T.a5 a10 (Int.toNat a*7) λn11 n12 n13 n14 n15 n16 n17=>
BM cmp [BS n2 n3 n4 n5 n6 n7 n8,BS n11 n12 n13 n14 n15 n16 n17] λn18=>
AU<|
Ac (decide (n18<0)) (
As swaps λa20=>
AS T.a13 a20 λn21=>
As swaps λa23=>
AC T.a13 a23 (Ai (Af (n21+1)))<|
Ag b λn24=>
Ag a λn25=>
Ah 0 [Ai n24,Ai n25])<|
Ag a λn26=>
Ag b λn27=>
Ah 0 [Ai n26,Ai n27]))
structure RecM where
 key:ByteArray
 value:ByteArray
 gone:Bool
 time:Int
def z01 (r:RecM):List Value:=[.string r.key,.string r.value,.bool r.gone,.int .i64 r.time]
instance:EncA z01 [.str,.str,.bool,.int .i64] (λr=>(r.key,r.value,r.gone,r.time,())):=⟨λ_=>rfl⟩
instance:EncN z01 4:=⟨λ_=>rfl,by decide,by simp [z01,Value.oneCell']⟩
structure BatM where
 base:Int
 pid:Int
 epoch:Int
 seq:Int
 kind:Int
 time:Int
 x:Sl
 rs:List RecM
def zr (b:BatM):List Value:=[.int .i64 b.base,.int .i64 b.pid,.int .i64 b.epoch,.int .i64 b.seq,.int .i64 b.kind,.int .i64 b.time,.slice b.x.a b.x.len b.x.cap]
instance:EncA zr [.int .i64,.int .i64,.int .i64,.int .i64,.int .i64,.int .i64,.slc] (λb=>(b.base,b.pid,b.epoch,b.seq,b.kind,b.time,b.x,())):=⟨λ_=>rfl⟩
instance:EncN zr 7:=⟨λ_=>rfl,by decide,by simp [zr,Value.oneCell']⟩
def z0i (b:BatM):Bool:=decide (b.kind=2) || decide (b.kind=3)
def z6e (b:BatM):Prop:=(0<=b.kind/\b.kind<=3)/\(0<=b.base/\b.base<=1099511627776)/\(0<=b.pid/\b.pid<=1048576)/\(0<=b.epoch/\b.epoch<=32767)/\(0<=b.seq/\b.seq<=2147483647)/\(0<=b.time/\b.time<=1099511627776)
instance (b:BatM):Decidable (z6e b):=by unfold z6e;infer_instance
def z55 (b:BatM):Prop:=¬ (b.pid=0/\(b.kind≠0\/b.epoch≠0\/b.seq≠0))/\if z0i b then b.seq=0/\b.rs.length=0 else 0<b.rs.length
instance (b:BatM):Decidable (z55 b):=by unfold z55;infer_instance
def z1u (r:RecM):Int:=if r.key.size>1024\/r.value.size>1024 then 7 else if ¬ (0<=r.time/\r.time<=1099511627776)\/(r.gone=true/\r.value.size>0) then 2 else 0
def z5q:List RecM->Int
 | []=>0
 | r::rs=>if z1u r≠0 then z1u r else z5q rs
def zq (b:BatM):Int:=if z0i b then 1 else (b.rs.length:Nat)
def z04 (b:BatM):Int:=if ¬ z6e b\/¬ z55 b then 2 else if b.rs.length>64 then 7 else if z5q b.rs≠0 then z5q b.rs else
 if b.base>1099511627776-(zq b-1)\/(b.pid>0/\z0i b=false/\b.seq>2147483647-(zq b-1)) then 24 else 0
def z1o (b:BatM):Int:=if z04 b≠0 then 0 else b.base+zq b
theorem zhx:∀ (rs:List RecM) (i:Nat) (hi:i<rs.length),z5q (rs.take i)=0->z1u rs[i]≠0->z5q rs=z1u rs[i]
 | r::rs,0,_,_,h=>by
  have h:z1u r≠0:=h
  show (if z1u r≠0 then z1u r else z5q rs)=z1u r
  rw [if_pos h]
 | r::rs,i+1,hi,h1,h2=>by
  have h1:(if z1u r≠0 then z1u r else z5q (rs.take i))=0:=h1
  by_cases h:z1u r≠0
  ·rw [if_pos h] at h1;exact absurd h1 h
  ·rw [if_neg h] at h1
   show (if z1u r≠0 then z1u r else z5q rs)=_
   rw [if_neg h]
   exact zhx rs i (by simpa using hi) h1 h2
theorem zhw:∀ (rs:List RecM) (i:Nat) (hi:i<rs.length),z5q (rs.take i)=0->z1u rs[i]=0->z5q (rs.take (i+1))=0
 | r::rs,0,_,_,h=>by
  have h:z1u r=0:=h
  show (if z1u r≠0 then z1u r else z5q (rs.take 0))=0
  rw [if_neg (by rw [h];simp)];rfl
 | r::rs,i+1,hi,h1,h2=>by
  have h1:(if z1u r≠0 then z1u r else z5q (rs.take i))=0:=h1
  by_cases h:z1u r≠0
  ·rw [if_pos h] at h1;exact absurd h1 h
  ·rw [if_neg h] at h1
   show (if z1u r≠0 then z1u r else z5q (rs.take (i+1)))=0
   rw [if_neg h]
   exact zhw rs i (by simpa using hi) h1 h2
theorem zlu {s:ByteArray}:s.size>0↔s≠ByteArray.mk #[]:=by
 constructor
 ·rintro h rfl;exact absurd h (Nat.lt_irrefl 0)
 ·intro h
  rcases Nat.eq_zero_or_pos s.size with h0|h0
  ·exfalso
   apply h
   obtain ⟨⟨l⟩⟩:=s
   have h0:l.length=0:=h0
   rw [List.length_eq_zero_iff.1 h0]
  ·exact h0
section
variable {w:World} {l r:List HP} {b:BatM}
theorem z6h (b:BatM) (hs:Sat w l):Ret P F.a134 #[.agg (zr b).toArray] w λvs w'=>vs=[.bool (z0i b)]/\Sat w' l :=
 znn b.base b.pid b.epoch b.seq b.kind b.time b.x <| by
  delta z00x AD AM Ah Ao Az Bb
  refine zp hs λa0 w' hs=>?_
  refine za hs ?_
  refine za hs ?_
  refine wp_lt ?_
  exact ⟨rfl,rfl,hs.tail⟩
theorem zby (n lo hi:Int) (hs:Sat w l):Ret P F.a140 #[.int .i64 n,.int .i64 lo,.int .i64 hi] w λvs w'=>vs=[.bool (decide (lo<=n/\n<=hi))]/\Sat w' l :=
 znt n lo hi <| by
  delta z013 AM Ah
  refine wp_lt ?_
  exact ⟨rfl,by rw [Bool.decide_and],hs⟩
theorem zwf (b:BatM) [hb:FocR l b.x 4 (b.rs.flatMap z01)] (hs:Sat w l):Ret P F.a130 #[.agg (zr b).toArray] w λvs w'=>vs=[.int .i64 (zq b)]/\Sat w' l :=
 znj b.base b.pid b.epoch b.seq b.kind b.time b.x <| by
  delta z00t AD AE Ac Ad Ae Ag Ah Ai Ao Ar;unfold zq
  have hl:=hs.slen b.x (xs:=b.rs) (enc:=z01)
  refine zp hs λa0 w' hs=>?_
  refine ze hs ?_
  refine z8 (z6h b hs) λ_ _ hs=>?_
  obtain ⟨rfl,hs⟩:=hs
  refine zb ?_
  refine zg (λh=>?_) λh=>?_
  ·rw [if_pos h];exact ⟨rfl,rfl,hs.tail⟩
  ·rw [if_neg h]
   refine za hs ?_
   refine wp_lt ?_
   rw [hl]
   exact ⟨rfl,rfl,hs.tail⟩
theorem zys (r:RecM) (hs:Sat w l):Ret P F.a138 #[.agg (z01 r).toArray] w λvs w'=>vs=[.int .i64 (z1u r)]/\Sat w' l :=
 znr r.key r.value r.gone r.time <| by
  delta z011 AG AJ Ah Ai Ao Ar Az Bh By Bz;unfold z1u
  refine zp hs λa0 w' hs=>?_
  refine za hs ?_
  refine za hs ?_
  refine wp_lt ?_
  refine zg (λh=>?_) λh=>?_
  ·rw [if_pos (by omega)];exact ⟨rfl,rfl,hs.tail⟩
  rw [if_neg (by omega)]
  refine za hs ?_
  refine z8 (zby r.time 0 1099511627776 hs) λ_ _ hs=>?_
  obtain ⟨rfl,hs⟩:=hs
  refine zb ?_
  refine za hs ?_
  refine za hs ?_
  refine wp_lt ?_
  have e:(¬ (0<=r.time/\r.time<=1099511627776)\/(r.gone=true/\r.value.size>0))↔(¬ (0<=r.time/\r.time<=1099511627776)\/(r.gone=true/\¬ r.value=ByteArray.mk #[])):=by rw [zlu]
  refine zg (λh=>?_) λh=>?_
  ·rw [if_pos (e.2 h)];exact ⟨rfl,rfl,hs.tail⟩
  ·rw [if_neg (λh2=>h (e.1 h2))];exact ⟨rfl,rfl,hs.tail⟩
theorem zvu (b:BatM) (hs:Sat w l):Ret P F.a135 #[.agg (zr b).toArray] w λvs w'=>vs=[.bool (decide (z6e b))]/\Sat w' l :=
 zno b.base b.pid b.epoch b.seq b.kind b.time b.x <| by
  delta z00y AD AK AM Ac Ah Ai Ao Ar Az Bb
  refine zp hs λa0 w' hs=>?_
  refine zk (λv w'=>v=(decide (z6e b),())/\Sat w' l) ?_ (by rintro _ w' ⟨rfl,hs⟩;refine zj ?_;exact ⟨rfl,rfl,hs⟩)
  have hno:∀ {w'},¬ z6e b->Sat w' (pt a0 (.cells #[.int .i64 b.base,.int .i64 b.pid,.int .i64 b.epoch,.int .i64 b.seq,.int .i64 b.kind,.int .i64 b.time,.slice b.x.a b.x.len b.x.cap] T.a0)::l)->((false,()):Bool × Unit)=(decide (z6e b),())/\Sat w' l:=λh hs=>⟨by rw [decide_eq_false h],hs.tail⟩
  refine za hs ?_
  refine za hs ?_
  refine za hs ?_
  refine zg (λh1=>?_) λh1=>?_
  rotate_left
  ·exact zf (hno (λh=>h1 h.1) hs)
  refine z8 (zby b.base 0 1099511627776 hs) λ_ _ hs=>?_
  obtain ⟨rfl,hs⟩:=hs
  refine zb ?_
  refine za hs ?_
  refine zg (λh2=>?_) λh2=>?_
  rotate_left
  ·exact zf (hno (λh=>h2 h.2.1) hs)
  refine z8 (zby b.pid 0 1048576 hs) λ_ _ hs=>?_
  obtain ⟨rfl,hs⟩:=hs
  refine zb ?_
  refine za hs ?_
  refine za hs ?_
  refine za hs ?_
  refine za hs ?_
  refine za hs ?_
  refine zg (λh3=>?_) λh3=>?_
  rotate_left
  ·exact zf (hno (λh=>h3 ⟨⟨⟨⟨h.2.2.1,h.2.2.2.1.1⟩,h.2.2.2.1.2⟩,h.2.2.2.2.1.1⟩,h.2.2.2.2.1.2⟩) hs)
  refine z8 (zby b.time 0 1099511627776 hs) λ_ _ hs=>?_
  obtain ⟨rfl,hs⟩:=hs
  refine zb ?_
  refine wp_lt ?_
  refine zf ⟨?_,hs.tail⟩
  have:(z6e b)↔(0<=b.time/\b.time<=1099511627776):=⟨λh=>h.2.2.2.2.2,λh=>⟨h1,h2,h3.1.1.1.1,⟨h3.1.1.1.2,h3.1.1.2⟩,⟨h3.1.2,h3.2⟩,h⟩⟩
  rw [decide_eq_decide.2 this]
theorem z056 (b:BatM) [hb:FocR l b.x 4 (b.rs.flatMap z01)] (hs:Sat w l):Ret P F.a133 #[.agg (zr b).toArray] w λvs w'=>vs=[.bool (decide (z55 b))]/\Sat w' l :=
 znm b.base b.pid b.epoch b.seq b.kind b.time b.x <| by
  delta z00w AD AE AM Ac Ad Ae Ah Ao Ar Az Ba Bb
  have hl:=hs.slen b.x (xs:=b.rs) (enc:=z01)
  refine zp hs λa0 w' hs=>?_
  refine za hs ?_
  refine za hs ?_
  refine za hs ?_
  refine za hs ?_
  refine zg (λh1=>?_) λh1=>?_
  ·have:¬ z55 b:=λh=>h.1 ⟨h1.1,or_assoc.1 h1.2⟩
   exact ⟨rfl,by rw [decide_eq_false this],hs.tail⟩
  have h1:¬ (b.pid=0/\(b.kind≠0\/b.epoch≠0\/b.seq≠0)):=λh=>h1 ⟨h.1,or_assoc.2 h.2⟩
  refine ze hs ?_
  refine z8 (z6h b hs) λ_ _ hs=>?_
  obtain ⟨rfl,hs⟩:=hs
  refine zb ?_
  refine zg (λh2=>?_) λh2=>?_
  ·refine za hs ?_
   refine za hs ?_
   refine wp_lt ?_
   refine ⟨rfl,?_,hs.tail⟩
   have:z55 b↔(b.seq=0/\b.rs.length=0):=by
    unfold z55
    rw [if_pos h2]
    exact ⟨λh=>h.2,λh=>⟨h1,h⟩⟩
   congr 2
   rw [Bool.eq_iff_iff,decide_eq_true_iff,this,Bool.and_eq_true,beq_iff_eq,beq_iff_eq,hl]
   omega
  ·refine za hs ?_
   refine wp_lt ?_
   refine ⟨rfl,?_,hs.tail⟩
   have:z55 b↔0<b.rs.length:=by
    unfold z55
    rw [if_neg h2]
    exact ⟨λh=>h.2,λh=>⟨h1,h⟩⟩
   congr 2
   rw [Bool.eq_iff_iff,decide_eq_true_iff,decide_eq_true_iff,this,hl]
   omega
theorem z95 (b:BatM) [hb:FocR l b.x 4 (b.rs.flatMap z01)] (hs:Sat w l):Ret P F.a131 #[.agg (zr b).toArray] w λvs w'=>vs=[.int .i64 (z04 b)]/\Sat w' l :=
 znk b.base b.pid b.epoch b.seq b.kind b.time b.x <| by
  delta z00u AB AC AD AE AF AG AH AJ AK AM AV Ac Ad Ae Af Ag Ah Ai Ao Ar Aw Ax Az Bb Bp;unfold z04
  have hl:=hs.slen b.x (xs:=b.rs) (enc:=z01)
  refine zp hs λa0 w' hs=>?_
  refine zk (λv w'=>v=(decide (¬ z6e b\/¬ z55 b),())/\Sat w' (pt a0 (.cells #[.int .i64 b.base,.int .i64 b.pid,.int .i64 b.epoch,.int .i64 b.seq,.int .i64 b.kind,.int .i64 b.time,.slice b.x.a b.x.len b.x.cap] T.a0)::l)) ?_ ?_
  ·refine ze hs ?_
   refine z8 (zvu b hs) λ_ _ hs=>?_
   obtain ⟨rfl,hs⟩:=hs
   refine zb ?_
   refine ze hs ?_
   refine zg (λh1=>?_) λh1=>?_
   ·exact zf ⟨by rw [decide_eq_true (.inl h1)],hs⟩
   refine z8 (z056 b hs) λ_ _ hs=>?_
   obtain ⟨rfl,hs⟩:=hs
   refine zb ?_
   refine wp_lt ?_
   refine zf ⟨?_,hs⟩
   have:(¬ z6e b\/¬ z55 b)↔¬ z55 b:=⟨λh=>h.resolve_left h1,.inr⟩
   rw [decide_eq_decide.2 this,decide_not]
  clear hs
  rintro _ w ⟨rfl,hs⟩
  refine zj ?_
  refine zg (λh1=>?_) λh1=>?_
  ·rw [if_pos h1];exact ⟨rfl,rfl,hs.tail⟩
  rw [if_neg h1]
  have hnum:z6e b:=Decidable.not_not.1 λh=>h1 (.inl h)
  have hfit:z55 b:=Decidable.not_not.1 λh=>h1 (.inr h)
  refine za hs ?_
  refine wp_lt ?_
  refine zg (λh2=>?_) λh2=>?_
  ·rw [if_pos (by omega)];exact ⟨rfl,rfl,hs.tail⟩
  rw [if_neg (by omega)]
  refine za hs ?_
  refine zk (λv w'=>z5q b.rs=0/\Sat w' (pt a0 (.cells #[.int .i64 b.base,.int .i64 b.pid,.int .i64 b.epoch,.int .i64 b.seq,.int .i64 b.kind,.int .i64 b.time,.slice b.x.a b.x.len b.x.cap] T.a0)::l)) ?_ ?_
  ·refine z0a (λk v w=>∃ i:Nat,v=((i:Int),())/\i<=b.rs.length/\b.rs.length-i=k/\z5q (b.rs.take i)=0/\Sat w (pt a0 (.cells #[.int .i64 b.base,.int .i64 b.pid,.int .i64 b.epoch,.int .i64 b.seq,.int .i64 b.kind,.int .i64 b.time,.slice b.x.a b.x.len b.x.cap] T.a0)::l)) b.rs.length ⟨0,rfl,by omega,rfl,rfl,hs⟩ ?_
   clear hs
   rintro k _ w ⟨i,rfl,hi,hk,hbad,hs⟩
   refine zj ?_
   refine zg (λhc=>?_) λhc=>?_
   rotate_left
   ·refine zo (zf ⟨?_,hs⟩)
    rwa [List.take_of_length_le (by omega)] at hbad
   have hil:i<b.rs.length:=by omega
   refine z35 hs i hil ?_
   refine zm hs λc w' hs=>?_
   refine zl hs λw' hs=>?_
   refine ze hs ?_
   refine z8 (zys b.rs[i] hs) λ_ _ hs=>?_
   obtain ⟨rfl,hs⟩:=hs
   refine zb ?_
   refine wp_lt ?_
   refine zg (λh3=>?_) λh3=>?_
   ·refine wp_lt ?_
    refine zo (zo ?_)
    have:=zhx b.rs i hil hbad h3
    rw [if_pos (by rw [this];exact h3),this]
    exact ⟨rfl,rfl,hs.tail.tail⟩
   ·refine z28 (us':=[.int .i64 ((i+1:Nat):Int)]) (by (try simp (disch:=omega) only [w64]);first|rfl|(congr;omega)) ?_
    refine z0w (b.rs.length-(i+1)) ?_
    exact ⟨i+1,rfl,by omega,rfl,zhw b.rs i hil hbad (Decidable.not_not.1 h3),hs.sub⟩
  clear hs
  rintro _ w ⟨hbad,hs⟩
  refine zj ?_
  rw [if_neg (by rw [hbad];simp)]
  refine ze hs ?_
  refine z8 (zwf b hs) λ_ _ hs=>?_
  obtain ⟨rfl,hs⟩:=hs
  refine zb ?_
  have hsp:1<=zq b/\zq b<=64:=by
   unfold zq
   have h3:=hfit.2
   split
   ·omega
   ·rename_i hm
    rw [if_neg hm] at h3
    omega
  obtain ⟨-,hba,-,-,hse,-⟩:=hnum
  refine z1z (y:=zq b-1) ?_ (by rw [w64 (by omega) (by omega)])
  refine zk (λv w'=>v=(decide (b.base>1099511627776-(zq b-1)\/(b.pid>0/\z0i b=false/\b.seq>2147483647-(zq b-1))),())/\Sat w' l) ?_ ?_
  ·rw [w64 (x:=1099511627776-(zq b-1)) (by omega) (by omega)]
   refine za hs ?_
   refine za hs ?_
   refine ze hs ?_
   refine zg (λh3=>?_) λh3=>?_
   ·exact zf ⟨by rw [decide_eq_true (.inl h3)],hs.tail⟩
   refine zg (λh4=>?_) λh4=>?_
   rotate_left
   ·exact zf ⟨by rw [decide_eq_false (λh=>h.elim h3 λh=>h4 h.1)],hs.tail⟩
   refine z8 (z6h b hs) λ_ _ hs=>?_
   obtain ⟨rfl,hs⟩:=hs
   refine zb ?_
   refine za hs ?_
   rw [w64 (x:=2147483647-(zq b-1)) (by omega) (by omega)]
   refine zf ⟨?_,hs.tail⟩
   have:(b.base>1099511627776-(zq b-1)\/(b.pid>0/\z0i b=false/\b.seq>2147483647-(zq b-1)))↔(z0i b=false/\b.seq>2147483647-(zq b-1)):=⟨λh=>(h.resolve_left h3).2,λh=>.inr ⟨h4,h⟩⟩
   rw [decide_eq_decide.2 this,Bool.decide_and]
   cases z0i b <;> rfl
  clear hs
  rintro _ w ⟨rfl,hs⟩
  refine zj ?_
  refine zg (λh3=>?_) λh3=>?_
  ·rw [if_pos h3];exact ⟨rfl,rfl,hs⟩
  ·rw [if_neg h3];exact ⟨rfl,rfl,hs⟩
theorem z14 (b:BatM) (hv:z04 b=0):1<=zq b/\zq b<=64/\z6e b/\z55 b/\b.base+zq b<=1099511627777:=by
 unfold z04 at hv
 split at hv
 ·cases hv
 rename_i h1
 have hnum:z6e b:=Decidable.not_not.1 λh=>h1 (.inl h)
 have hfit:z55 b:=Decidable.not_not.1 λh=>h1 (.inr h)
 split at hv
 ·cases hv
 rename_i h2
 split at hv
 ·rename_i h3;exact absurd hv h3
 split at hv
 ·cases hv
 rename_i h4
 have hsp:1<=zq b/\zq b<=64:=by
  unfold zq
  have h3:=hfit.2
  split
  ·omega
  ·rename_i hm
   rw [if_neg hm] at h3
   omega
 refine ⟨hsp.1,hsp.2,hnum,hfit,?_⟩
 apply Decidable.byContradiction
 intro h5
 exact h4 (.inl (by omega))
theorem z92 (b:BatM) [hb:FocR l b.x 4 (b.rs.flatMap z01)] (hs:Sat w l):Ret P F.a129 #[.agg (zr b).toArray] w λvs w'=>vs=[.int .i64 (z1o b)]/\Sat w' l :=
 zni b.base b.pid b.epoch b.seq b.kind b.time b.x <| by
  delta z00s AD AE AT AU AY Ac Af Ag Ah Ai Ao Aw;unfold z1o
  refine zp hs λa0 w' hs=>?_
  refine ze hs ?_
  refine z8 (z95 b hs) λ_ _ hs=>?_
  obtain ⟨rfl,hs⟩:=hs
  refine zb ?_
  refine zg (λh=>?_) λh=>?_
  ·rw [if_pos h];exact ⟨rfl,rfl,hs.tail⟩
  rw [if_neg h]
  obtain ⟨h1,h2,h3,-⟩:=z14 b (Decidable.not_not.1 h)
  have h3:=h3.2.1
  refine zy hs λw' hs=>?_
  refine z0x hs ?_
  refine ze hs ?_
  refine z8 (zwf b hs) λ_ w' hs=>?_
  obtain ⟨rfl,hs⟩:=hs
  refine zb ?_ ⟨trivial,λ_=>z06 hs⟩
  refine z1z (y:=b.base+zq b) ?_ (by rw [w64 (by omega) (by omega)])
  refine zd ?_
  exact ⟨rfl,rfl,hs.tail⟩
end
def zig (n:Int):Nat:=if 0<=n then (2*n).toNat else (-2*n-1).toNat
def zag (m:Nat):Int:=if m % 2=1 then -((m / 2:Nat):Int)-1 else ((m / 2:Nat):Int)
def z5d (n:Int):List UInt8:=z2v (zig n)
theorem z04q (n:Int):zag (zig n)=n:=by
 unfold zag zig
 split <;> split <;> omega
theorem z04r (m:Nat):zig (zag m)=m:=by
 unfold zag zig
 split <;> split <;> omega
theorem zwy {n:Int} (h : -9223372036854775808<=n/\n<9223372036854775808):zig n<18446744073709551616:=by
 unfold zig
 split <;> omega
theorem zj7 (n:Int):0<(z5d n).length/\(z5d n).length<=10:=za9 _
theorem xor_zero (x:BitVec 64):x ^^^ BitVec.ofInt 64 0=x:=by
 have:BitVec.ofInt 64 0=0#64:=by decide
 rw [this,BitVec.xor_zero]
theorem zmc (x:BitVec 64) {n:Int} (hn:BitVec.ofInt 64 n=BitVec.allOnes 64):(x ^^^ BitVec.ofInt 64 n).toNat=18446744073709551615-x.toNat:=by
 rw [hn,BitVec.xor_allOnes,BitVec.toNat_not]
theorem toNat_ofInt (n:Int):(BitVec.ofInt 64 n).toNat=(n % 18446744073709551616).toNat:=by rw [BitVec.toNat_ofInt];rfl
theorem z80 (n:Int):IntKind.wrap .u64 n=n % 18446744073709551616:=by simp [IntKind.wrap,IntKind.bits,IntKind.signed]
theorem z054 {n:Int} (h : -9223372036854775808<=n/\n<9223372036854775808):Int.fdiv n 9223372036854775808=if 0<=n then 0 else -1:=by
 rw [Int.fdiv_eq_ediv_of_nonneg _ (by omega)]
 split <;> omega
theorem zzm {n:Int} (h : -9223372036854775808<=n/\n<9223372036854775808) :
  (BitVec.toNat (BitVec.ofInt 64 (IntKind.wrap .u64 (IntKind.wrap .u64 n*2)) ^^^ BitVec.ofInt 64 (IntKind.wrap .u64 (Int.fdiv n 9223372036854775808))))=zig n:=by
 rw [z054 h,z80,z80]
 unfold zig
 by_cases h0:0<=n
 ·rw [if_pos h0,if_pos h0,z80,Int.zero_emod,xor_zero,toNat_ofInt];omega
 ·rw [if_neg h0,if_neg h0,zmc _ (by rw [z80];decide),toNat_ofInt];omega
theorem zzc {m:Nat} (h:m<18446744073709551616) :
  IntKind.wrap .i64 (((BitVec.toNat (BitVec.ofInt 64 (IntKind.wrap .i64 (Int.fdiv (m:Int) 2)) ^^^ BitVec.ofInt 64 (IntKind.wrap .i64 (0-IntKind.wrap .i64 (IntKind.wrap .u64 (((BitVec.toNat (BitVec.ofInt 64 (m:Int) &&& BitVec.ofInt 64 1):Nat):Int)))))):Nat):Int))=zag m:=by
 have e1:(BitVec.toNat (BitVec.ofInt 64 (m:Int) &&& BitVec.ofInt 64 1))=m % 2:=by
  rw [BitVec.toNat_and,toNat_ofInt,toNat_ofInt]
  have h1:((m:Int) % 18446744073709551616).toNat=m:=by omega
  have h2:((1:Int) % 18446744073709551616).toNat=1:=by decide
  rw [h1,h2,Nat.and_one_is_mod]
 have e2:Int.fdiv (m:Int) 2=((m / 2:Nat):Int):=by rw [Int.fdiv_eq_ediv_of_nonneg _ (by omega)];omega
 rw [e1,e2,z80,w64 (x:=((m / 2:Nat):Int)) (by omega) (by omega)]
 unfold zag
 by_cases h0:m % 2=1
 ·rw [if_pos h0,h0]
  have e3:IntKind.wrap .i64 (0-IntKind.wrap .i64 ((((1:Nat):Int)) % 18446744073709551616)) = -1:=by decide
  rw [e3,zmc _ (by decide),toNat_ofInt]
  have e4:((((m / 2:Nat):Int)) % 18446744073709551616).toNat=m / 2:=by omega
  rw [e4]
  have e5:IntKind.wrap .i64 ((18446744073709551615-m / 2:Nat):Int) = -((m / 2:Nat):Int)-1:=by
   rw [zhr];split <;> omega
  exact e5
 ·rw [if_neg h0]
  have h2:m % 2=0:=by omega
  rw [h2]
  have e3:IntKind.wrap .i64 (0-IntKind.wrap .i64 ((((0:Nat):Int)) % 18446744073709551616))=0:=by decide
  rw [e3,xor_zero,toNat_ofInt]
  have e4:((((m / 2:Nat):Int)) % 18446744073709551616).toNat=m / 2:=by omega
  rw [e4,w64 (by omega) (by omega)]
def RdM.within (R:RdM) (lo hi:Int):Int × RdM :=
 if R.uint.2.e≠0 then (0,R.uint.2) else if zag R.uint.1<lo\/zag R.uint.1>hi then (0,⟨R.bs,R.at_,8⟩) else (zag R.uint.1,R.uint.2)
theorem zm7 {R:RdM} (h:R.e≠0):R.uint=(0,R):=by unfold RdM.uint;rw [if_pos h]
section
variable {w:World} {l r:List HP} {p:Nat} {R:RdM}
theorem z04p (n:Int) (hn : -9223372036854775808<=n/\n<9223372036854775808) (hs:Sat w l):Ret P F.a229 #[.int .i64 n] w λvs w'=>∃ z:Sl,vs=[z.v]/\Sat w' (slc T.a56 1 z ((z5d n).flatMap zi)::l) :=
 zow n <| by
  delta z026 Ah An;unfold z5d
  have hz:=zwy hn
  rw [zzm hn]
  generalize zig n=m at hz ⊢
  rw [zgs,Nat.mod_eq_of_lt hz]
  refine z8 (zr8 m hz hs) λ_ _ hs=>?_
  obtain ⟨z,rfl,hs⟩:=hs
  refine zb ?_
  exact ⟨rfl,z,rfl,hs⟩
theorem z05z [hf:Fo l (rdP T.a58) p R r] (hs:Sat w l):Ret P F.a236 #[.pointer (some ⟨p,0,none⟩)] w λvs w'=>vs=[.int .i64 (zag R.uint.1)]/\Sat w' (rdP T.a58 p R.uint.2::r) :=
 zp3 _ <| by
  delta z02d Af Ag Ah Ai Am Aq Av
  have hb:=(z64 (hs.perm hf.perm)).1
  have hlt:R.uint.1<18446744073709551616:=by rcases zsq hb with h|h <;> omega
  refine z8 (zqo (p:=p) hs) λ_ _ hs=>?_
  obtain ⟨rfl,hs⟩:=hs
  refine zb ?_
  refine wp_lt ?_
  rw [zzc hlt]
  refine wp_lt ?_
  exact ⟨rfl,rfl,hs⟩
theorem zwb (lo hi:Int) [hf:Fo l (rdP T.a58) p R r] (hs:Sat w l):Ret P F.a239 #[.pointer (some ⟨p,0,none⟩),.int .i64 lo,.int .i64 hi] w λvs w'=>vs=[.int .i64 (R.within lo hi).1]/\Sat w' (rdP T.a58 p (R.within lo hi).2::r) :=
 zp6 _ lo hi <| by
  delta z02g Ac Ag Ah Ai Aq Ar As Au Aw Ax Ay Az Be
  have hb0:=z64 (hs.perm hf.perm)
  refine z8 (zcq (p:=p) hs) λ_ _ hs=>?_
  obtain ⟨rfl,hs⟩:=hs
  refine zb ?_
  refine zg (λh=>?_) λh=>?_
  ·have h:R.e≠0:=by simpa using h
   unfold RdM.within
   rw [zm7 h,if_pos h]
   exact ⟨rfl,rfl,hs⟩
  have h:R.e=0:=by simpa using h
  obtain ⟨x,hb,hs⟩:=z21 hs
  refine zh ?_
  refine za hs ?_
  refine wp_lt ?_
  have hs:Sat _ (rdP T.a58 p R::r):=z12 R hb hs
  refine z8 (z05z (p:=p) hs) λ_ _ hs=>?_
  obtain ⟨rfl,hs⟩:=hs
  refine zb ?_
  refine wp_lt ?_
  have hbs:=zqz R
  unfold RdM.within
  have hb2:=z64 hs
  generalize R.uint.1=m at *
  generalize R.uint.2=R1 at *
  obtain ⟨x,-,hs⟩:=z21 hs
  refine zh ?_
  refine za hs ?_
  refine zk (λ_ w'=>Sat w' (rdP T.a58 p (if R1.e≠0 then R1 else if zag m<lo\/zag m>hi then ⟨R.bs,R.at_,8⟩ else R1)::r)) ?_ ?_
  ·refine zg (λh2=>?_) λh2=>?_
   ·obtain ⟨h3,h4⟩:=h2
    have e:(if R1.e≠0 then R1 else if zag m<lo\/zag m>hi then (⟨R.bs,R.at_,8⟩:RdM) else R1)=⟨R.bs,R.at_,8⟩:=by rw [if_neg (by rw [h3];simp),if_pos h4]
    refine zh ?_
    refine z03 hs λw' hs=>?_
    refine zh ?_
    have hs:Sat w' (rdP T.a58 p ⟨R.bs,R.at_,0⟩::r):=z12 (x:=x) ⟨R.bs,R.at_,0⟩ hb0 (by rw [hbs,h3] at hs;exact hs)
    refine z8 (z77 (p:=p) 8 hs) λ_ w' hs=>?_
    obtain ⟨rfl,hs⟩:=hs
    refine zb ?_
    refine zf ?_
    rw [e]
    exact hs
   ·refine zf ?_
    have e:(if R1.e≠0 then R1 else if zag m<lo\/zag m>hi then (⟨R.bs,R.at_,8⟩:RdM) else R1)=R1:=by
     by_cases h3:R1.e=0
     ·rw [if_neg (by rw [h3];simp),if_neg (λh4=>h2 ⟨h3,h4⟩)]
     ·rw [if_pos h3]
    rw [e]
    exact z12 R1 hb2 hs
  clear hs
  rintro _ w hs
  refine zj ?_
  by_cases h3:R1.e=0
  ·rw [if_neg (by rw [h3];simp)] at hs ⊢
   by_cases h4:zag m<lo\/zag m>hi
   ·rw [if_pos h4] at hs ⊢
    obtain ⟨x,-,hs⟩:=z21 hs
    refine zh ?_
    refine za hs ?_
    refine z0b ?_ (by simp)
    exact ⟨rfl,rfl,z12 ⟨R.bs,R.at_,8⟩ hb0 hs⟩
   ·rw [if_neg h4] at hs ⊢
    obtain ⟨x,-,hs⟩:=z21 hs
    refine zh ?_
    refine za hs ?_
    refine zx ?_ (by rw [h3];simp)
    refine wp_lt ?_
    exact ⟨rfl,rfl,z12 R1 hb2 hs⟩
  ·rw [if_pos h3] at hs ⊢
   obtain ⟨x,-,hs⟩:=z21 hs
   refine zh ?_
   refine za hs ?_
   refine z0b ?_ h3
   exact ⟨rfl,rfl,z12 R1 hb2 hs⟩
end
abbrev Lf:=Option (List UInt8)
def zv:Lf->Nat × Lf
 | none=>(0,none)
 | some bs=>match z3j 0 bs with
  | none=>(0,none)
  | some p=>(p.1,some (bs.drop p.2))
def z1h (lo hi:Int) (s:Lf):Int × Lf:=match (zv s).2 with
 | none=>(0,none)
 | some t=>if zag (zv s).1<lo\/zag (zv s).1>hi then (0,none) else (zag (zv s).1,some t)
def z0s:Lf->Nat × Lf
 | some (c::t)=>(c.toNat,some t)
 | _=>(0,none)
def z48:Lf->Bool × Lf
 | some (c::t)=>if c.toNat<=1 then (decide (c.toNat=1),some t) else (false,none)
 | _=>(false,none)
def z1g (most:Nat) (s:Lf):ByteArray × Lf:=match (zv s).2 with
 | none=>(⟨#[]⟩,none)
 | some t=>if (zv s).1<=most/\(zv s).1<=t.length then (⟨(t.take (zv s).1).toArray⟩,some (t.drop (zv s).1)) else (⟨#[]⟩,none)
def z00 (most:Int) (s:Lf):Int × Lf:=(if ((zv s).1:Int)>most then most+1 else (zv s).1,(zv s).2)
abbrev bl (s:ByteArray):List UInt8:=s.data.toList
theorem z4k {v:Nat} (h:v<18446744073709551616) (t:List UInt8):zv (some (z2v v++t))=(v,some t):=by
 unfold zv
 simp only [zis h,List.drop_left]
theorem z4j {s:Lf} {t:List UInt8} (h:(zv s).2=some t):(zv s).1<18446744073709551616/\s=some (z2v (zv s).1++t):=by
 cases s with
 | none=>cases h
 | some bs =>
  cases hn:z3j 0 bs with
  | none =>
   have e:zv (some bs)=(0,none):=by unfold zv;simp only [hn]
   rw [e] at h;cases h
  | some p =>
   obtain ⟨v,k⟩:=p
   have e:zv (some bs)=(v,some (bs.drop k)):=by unfold zv;simp only [hn]
   rw [e] at h ⊢
   obtain ⟨h1,h2⟩:=zl7 hn
   simp only [Option.some.injEq] at h ⊢
   subst h
   exact ⟨h2,by rw [<- h1,List.take_append_drop]⟩
theorem zm8 {lo hi n:Int} (h1:lo<=n) (h2:n<=hi) (hn : -9223372036854775808<=n/\n<9223372036854775808) (t:List UInt8):z1h lo hi (some (z5d n++t))=(n,some t):=by
 unfold z1h z5d
 simp only [z4k (zwy hn),z04q]
 rw [if_neg (by omega)]
theorem zmo {lo hi:Int} {s:Lf} {t:List UInt8} (h:(z1h lo hi s).2=some t):(lo<=(z1h lo hi s).1/\(z1h lo hi s).1<=hi)/\s=some (z5d (z1h lo hi s).1++t):=by
 unfold z1h at h ⊢
 cases hu:(zv s).2 with
 | none=>rw [hu] at h;cases h
 | some t' =>
  have h2:=z4j hu
  rw [hu] at h
  simp only at h ⊢
  split at h
  ·cases h
  rename_i h3
  simp only [Option.some.injEq] at h
  subst h
  rw [if_neg h3]
  refine ⟨by omega,?_⟩
  unfold z5d
  rw [z04r]
  exact h2.2
theorem zcf {s:Lf} {t:List UInt8} (h:(z0s s).2=some t):(z0s s).1<256/\s=some (UInt8.ofNat (z0s s).1::t):=by
 match s,h with
 | some (c::r),h =>
  have h:some r=some t:=h
  cases h
  refine ⟨c.toNat_lt,?_⟩
  show some (c::t)=some (UInt8.ofNat c.toNat::t)
  rw [UInt8.ofNat_toNat]
 | some [],h=>cases h
 | none,h=>cases h
def z84 (b:Bool):UInt8:=if b then 1 else 0
theorem zrs (b:Bool) (t:List UInt8):z48 (some (z84 b::t))=(b,some t):=by
 cases b <;> rfl
theorem zvb {s:Lf} {t:List UInt8} (h:(z48 s).2=some t):s=some (z84 (z48 s).1::t):=by
 match s,h with
 | some (c::r),h =>
  unfold z48 at h ⊢
  simp only at h ⊢
  split at h
  ·rename_i h1
   simp only [Option.some.injEq] at h
   subst h
   rw [if_pos h1]
   congr 2
   by_cases h2:c.toNat=1
   ·rw [decide_eq_true h2];exact UInt8.toNat_inj.1 h2
   ·rw [decide_eq_false h2];exact UInt8.toNat_inj.1 (by show c.toNat=0;omega)
  ·cases h
 | some [],h=>cases h
 | none,h=>cases h
theorem z1d (s:ByteArray):(bl s).length=s.size:=rfl
theorem zfr (l:List UInt8):bl ⟨l.toArray⟩=l:=by simp [bl]
theorem zcd {a b:ByteArray} (h:bl a=bl b):a=b:=by
 cases a;cases b;exact congrArg ByteArray.mk (Array.ext' h)
theorem zgn {most:Nat} (x:ByteArray) (h:x.size<=most) (hm:most<4294967296) (t:List UInt8):z1g most (some (uI x.size++(bl x++t)))=(x,some t):=by
 unfold z1g uI
 have e:((x.size:Int)).toNat=x.size:=by omega
 rw [e]
 simp only [z4k (show x.size<18446744073709551616 by omega)]
 rw [if_pos ⟨h,by rw [List.length_append,z1d];omega⟩,<- z1d,List.take_left,List.drop_left]
theorem zjb {most:Nat} {s:Lf} {t:List UInt8} (h:(z1g most s).2=some t):(z1g most s).1.size<=most/\s=some (uI (z1g most s).1.size++(bl (z1g most s).1++t)):=by
 unfold z1g at h ⊢
 cases hu:(zv s).2 with
 | none=>rw [hu] at h;cases h
 | some t' =>
  have h2:=z4j hu
  rw [hu] at h
  simp only at h ⊢
  split at h
  rotate_left
  ·cases h
  rename_i h3
  simp only [Option.some.injEq] at h
  subst h
  rw [if_pos h3]
  have e:(ByteArray.mk (t'.take (zv s).1).toArray).size=(zv s).1:=by
   show (t'.take (zv s).1).length=_
   rw [List.length_take];omega
  refine ⟨by rw [e];exact h3.1,?_⟩
  rw [e,zfr,List.take_append_drop]
  unfold uI
  exact h2.2
theorem z5e {most n:Int} (h0:0<=n) (hn:n<=most) (hm:most<9223372036854775808) (t:List UInt8):z00 most (some (uI n++t))=(n,some t):=by
 unfold z00 uI
 rw [z4k (by omega),if_neg (by simp only;omega)]
 congr 1
 simp only;omega
theorem z68 {most:Int} (hm:0<=most) {s:Lf} {t:List UInt8} (h:(z00 most s).2=some t):(0<=(z00 most s).1/\(z00 most s).1<=most+1)/\((z00 most s).1<=most->s=some (uI (z00 most s).1++t)):=by
 have h2:=z4j (show (zv s).2=some t from h)
 unfold z00
 simp only
 split
 ·exact ⟨⟨by omega,by omega⟩,λh3=>absurd h3 (by omega)⟩
 ·refine ⟨⟨by omega,by omega⟩,λh3=>?_⟩
  unfold uI
  rw [Int.toNat_natCast]
  exact h2.2
def z0l:List UInt8->List UInt8->Nat
 | a::x,b::y=>if a=b then z0l x y+1 else 0
 | _,_=>0
theorem z9u:∀ x y:List UInt8,z0l x y<=x.length/\z0l x y<=y.length
 | [],_=>by simp [z0l]
 | _::_,[]=>by simp [z0l]
 | a::x,b::y=>by
  have:=z9u x y
  unfold z0l
  split <;> simp <;> omega
theorem zdu:∀ x y:List UInt8,x.take (z0l x y)=y.take (z0l x y)
 | [],_=>by simp [z0l]
 | _::_,[]=>by simp [z0l]
 | a::x,b::y=>by
  unfold z0l
  split
  ·rename_i h
   rw [List.take_succ_cons,List.take_succ_cons,h,zdu x y]
  ·rfl
theorem zcb:∀ {x y:List UInt8} {i:Nat} (h1:i<=x.length) (h2:i<=y.length),x.take i=y.take i->(i=x.length\/i=y.length\/x[i]? ≠ y[i]?)->z0l x y=i
 | [],y,i,h1,h2,_,_=>by simp at h1;simp [z0l,h1]
 | _::_,[],i,h1,h2,_,_=>by simp at h2;simp [z0l,h2]
 | a::x,b::y,0,_,_,_,h=>by
  unfold z0l
  rw [if_neg]
  rintro rfl
  rcases h with h|h|h
  ·simp at h
  ·simp at h
  ·simp at h
 | a::x,b::y,i+1,h1,h2,ht,h=>by
  rw [List.take_succ_cons,List.take_succ_cons,List.cons.injEq] at ht
  unfold z0l
  rw [if_pos ht.1,zcb (by simpa using h1) (by simpa using h2) ht.2]
  rcases h with h|h|h
  ·left;simpa using h
  ·right;left;simpa using h
  ·right;right;simpa using h
def z6u (ahead key:ByteArray):List UInt8:=uI (key.size-z0l (bl ahead) (bl key):Nat)++(bl key).drop (z0l (bl ahead) (bl key))
def z65 (time:Int) (ahead:ByteArray) (r:RecM):List UInt8 :=
 z5d (r.time-time)++(z84 r.gone::(uI (z0l (bl ahead) (bl r.key):Nat)++(z6u ahead r.key++if r.gone then [] else uI r.value.size++bl r.value)))
def z2d (time:Int):ByteArray->List RecM->List UInt8
 | _,[]=>[]
 | ahead,r::rs=>z65 time ahead r++z2d time r.key rs
def z2f (b:BatM):List UInt8 :=
 1::UInt8.ofNat b.kind.toNat::(uI b.base++(uI b.pid++((if b.pid>0 then uI b.epoch++(if z0i b then [] else uI b.seq) else [])++(uI b.time++if z0i b then [] else uI b.rs.length++z2d b.time ⟨#[]⟩ b.rs))))
def BatM.p (b:BatM):BatM:={ b with x:=⟨none,0,0⟩ }
def z4x (ahead:ByteArray) (n:Int) (rest:ByteArray):ByteArray:=ahead.extract 0 n.toNat++rest
def z38 (time:Int) (ahead:ByteArray) (s:Lf):Option RecM × Lf :=
 if (z00 1024 (z48 (z1h (-1099511627776) 1099511627776 s).2).2).1>ahead.size then (none,(z1g 1024 (z00 1024 (z48 (z1h (-1099511627776) 1099511627776 s).2).2).2).2) else
 let a:=z1h (-1099511627776) 1099511627776 s
 let b:=z48 a.2
 let c:=z00 1024 b.2
 let d:=z1g 1024 c.2
 let e:=if b.1 then (⟨#[]⟩,d.2) else z1g 1024 d.2
 if e.2.isSome=true/\(z0l (bl ahead) (bl (z4x ahead c.1 d.1)):Int)=c.1 then (some ⟨z4x ahead c.1 d.1,e.1,b.1,time+a.1⟩,e.2) else (none,e.2)
def z4g (time:Int):Nat->ByteArray->Lf->Option (List RecM × Lf)
 | 0,_,s=>some ([],s)
 | n+1,ahead,s=>match (z38 time ahead s).1 with
  | none=>none
  | some x=>(z4g time n x.key (z38 time ahead s).2).map λq=>(x::q.1,q.2)
theorem zpl (ahead rest:ByteArray) (n:Int):bl (z4x ahead n rest)=(bl ahead).take n.toNat++bl rest:=by
 unfold z4x bl
 simp [List.extract_eq_take_drop]
theorem zvg (ahead key:ByteArray):z4x ahead (z0l (bl ahead) (bl key):Nat) ⟨((bl key).drop (z0l (bl ahead) (bl key))).toArray⟩=key:=by
 apply zcd
 rw [zpl,zfr,Int.toNat_natCast,zdu,List.take_append_drop]
theorem z3k {r:RecM} (h:z1u r=0):r.key.size<=1024/\r.value.size<=1024/\(0<=r.time/\r.time<=1099511627776)/\(r.gone=true->r.value=⟨#[]⟩):=by
 unfold z1u at h
 split at h
 ·cases h
 rename_i h1
 split at h
 ·cases h
 rename_i h2
 refine ⟨by omega,by omega,by omega,λhg=>?_⟩
 apply Decidable.byContradiction
 intro h3
 exact h2 (.inr ⟨hg,zlu.2 h3⟩)
theorem zsl {time:Int} (ht:0<=time/\time<=1099511627776) {r:RecM} (hr:z1u r=0) (ahead:ByteArray) (t:List UInt8):z38 time ahead (some (z65 time ahead r++t))=(some r,some t):=by
 obtain ⟨h1,h2,h3,h4⟩:=z3k hr
 have hle:=z9u (bl ahead) (bl r.key)
 rw [z1d,z1d] at hle
 have hd:(ByteArray.mk ((bl r.key).drop (z0l (bl ahead) (bl r.key))).toArray).size=r.key.size-z0l (bl ahead) (bl r.key):=by
  show ((bl r.key).drop _).length=_
  rw [List.length_drop,z1d]
 have e0:z65 time ahead r++t=z5d (r.time-time)++(z84 r.gone::(uI (z0l (bl ahead) (bl r.key):Nat)++(uI ((ByteArray.mk ((bl r.key).drop (z0l (bl ahead) (bl r.key))).toArray).size:Nat)++(bl (ByteArray.mk ((bl r.key).drop (z0l (bl ahead) (bl r.key))).toArray)++((if r.gone then [] else uI r.value.size++bl r.value)++t))))):=by
  rw [hd,zfr]
  unfold z65 z6u
  simp only [List.append_assoc,List.cons_append]
 rw [e0]
 generalize hZ:(if r.gone then [] else uI r.value.size++bl r.value)++t=Z
 have e1:=zm8 (lo := -1099511627776) (hi:=1099511627776) (n:=r.time-time) (by omega) (by omega) (by omega)
 have e3:=z5e (most:=1024) (n:=(z0l (bl ahead) (bl r.key):Nat)) (by omega) (by omega) (by omega)
 have e4:=zgn (most:=1024) (ByteArray.mk ((bl r.key).drop (z0l (bl ahead) (bl r.key))).toArray) (by rw [hd];omega) (by omega)
 unfold z38
 simp only [e1,zrs,e3,e4,zvg]
 rw [if_neg (by omega)]
 have e5:(if r.gone=true then ((⟨#[]⟩:ByteArray),some Z) else z1g 1024 (some Z))=(r.value,some t):=by
  by_cases hg:r.gone=true
  ·rw [if_pos hg] at hZ ⊢
   rw [h4 hg,<- hZ];rfl
  ·rw [if_neg hg] at hZ ⊢
   rw [<- hZ,List.append_assoc]
   exact zgn _ h2 (by omega) t
 rw [e5]
 simp only [Option.isSome_some,true_and]
 rw [if_pos trivial,show time+(r.time-time)=r.time by omega]
theorem zw9 {time:Int} {ahead:ByteArray} (hah:ahead.size<=1024) {s:Lf} {r:RecM} (h:(z38 time ahead s).1=some r):∃ t,(z38 time ahead s).2=some t/\s=some (z65 time ahead r++t):=by
 unfold z38 at h ⊢
 split at h
 ·cases h
 rename_i hc
 rw [if_neg hc]
 simp only at h ⊢
 generalize ha:z1h (-1099511627776) 1099511627776 s=a at *
 generalize hb:z48 a.2=b at *
 generalize hcc:z00 1024 b.2=c at *
 generalize hd:z1g 1024 c.2=d at *
 generalize he:(if b.1=true then ((⟨#[]⟩:ByteArray),d.2) else z1g 1024 d.2)=e at *
 split at h
 rotate_left
 ·cases h
 rename_i h5
 rw [if_pos h5]
 obtain ⟨h5,h6⟩:=h5
 obtain ⟨t,ht⟩:=Option.isSome_iff_exists.1 h5
 refine ⟨t,ht,?_⟩
 simp only [Option.some.injEq] at h
 have hd2:d.2=some ((if b.1=true then [] else uI e.1.size++bl e.1)++t):=by
  by_cases hg:b.1=true
  ·rw [if_pos hg] at he ⊢
   rw [<- he] at ht
   exact ht
  ·rw [if_neg hg] at he ⊢
   rw [<- he] at ht ⊢
   rw [List.append_assoc]
   exact (zjb ht).2
 rw [<- hd] at hd2
 have h7:=zjb hd2
 rw [hd] at h7
 have hc2:c.2=_:=h7.2
 rw [<- hcc] at hc2
 have h8:=z68 (by omega) hc2
 rw [hcc] at h8
 have hle:=z9u (bl ahead) (bl (z4x ahead c.1 d.1))
 have hb2:=h8.2 (by omega)
 rw [<- hb] at hb2
 have ha2:=zvb hb2
 rw [hb,<- ha] at ha2
 have h9:=zmo ha2
 rw [ha] at h9
 rw [h9.2,<- h]
 unfold z65 z6u
 simp only
 have hn:c.1.toNat=z0l (bl ahead) (bl (z4x ahead c.1 d.1)):=by omega
 have hl1:((bl ahead).take c.1.toNat).length=c.1.toNat:=by rw [List.length_take,hn];omega
 have hdrop:(bl (z4x ahead c.1 d.1)).drop c.1.toNat=bl d.1:=by
  rw [zpl]
  exact List.drop_left' hl1
 have hsz:(z4x ahead c.1 d.1).size-c.1.toNat=d.1.size:=by
  rw [<- z1d,<- z1d,<- hdrop,List.length_drop]
 rw [<- hn,hdrop,hsz,show time+a.1-time=a.1 by omega,show ((c.1.toNat:Nat):Int)=c.1 by omega]
 simp only [List.append_assoc,List.cons_append]
theorem zgh {time:Int} (ht:0<=time/\time<=1099511627776):∀ {rs:List RecM} (hr:∀ r ∈ rs,z1u r=0) (ahead:ByteArray) (t:List UInt8),z4g time rs.length ahead (some (z2d time ahead rs++t))=some (rs,some t)
 | [],_,_,_=>rfl
 | r::rs,hr,ahead,t=>by
  have e:=zsl ht (hr r (List.mem_cons_self ..)) ahead (z2d time r.key rs++t)
  show z4g time (rs.length+1) ahead (some ((z65 time ahead r++z2d time r.key rs)++t))=_
  rw [List.append_assoc]
  unfold z4g
  rw [e]
  simp only
  rw [zgh ht (λx hx=>hr x (List.mem_cons_of_mem _ hx)) r.key t]
  rfl
theorem zj0 {time:Int}:∀ {n:Nat} {ahead:ByteArray} (hah:ahead.size<=1024) {s:Lf} {rs:List RecM} {t:List UInt8} (hk:∀ r ∈ rs,r.key.size<=1024) (h:z4g time n ahead s=some (rs,some t)),rs.length=n/\s=some (z2d time ahead rs++t)
 | 0,ahead,hah,s,rs,t,hk,h=>by
  simp only [z4g,Option.some.injEq,Prod.mk.injEq] at h
  obtain ⟨rfl,rfl⟩:=h
  exact ⟨rfl,rfl⟩
 | n+1,ahead,hah,s,rs,t,hk,h=>by
  unfold z4g at h
  cases hx:(z38 time ahead s).1 with
  | none=>rw [hx] at h;cases h
  | some x =>
   rw [hx] at h
   simp only [Option.map_eq_some_iff,Prod.mk.injEq] at h
   obtain ⟨⟨rs',s'⟩,h1,rfl,rfl⟩:=h
   obtain ⟨t1,h2,h3⟩:=zw9 hah hx
   rw [h2] at h1
   have hk1:x.key.size<=1024:=hk x (List.mem_cons_self ..)
   obtain ⟨h4,h5⟩:=zj0 hk1 (λr hr=>hk r (List.mem_cons_of_mem _ hr)) h1
   simp only [Option.some.injEq] at h5
   refine ⟨by rw [List.length_cons,h4],?_⟩
   rw [h3,h5]
   show some (z65 time ahead x++(z2d time x.key rs'++t))=some ((z65 time ahead x++z2d time x.key rs')++t)
   rw [List.append_assoc]
def z7e:Sl:=⟨none,0,0⟩
structure HdS where
 k:Nat × Lf
 ba:Int × Lf
 pi:Int × Lf
 ep:Int × Lf
 sq:Int × Lf
 tm:Int × Lf
def z33 (k:Nat):Bool:=decide ((k:Int)=2) || decide ((k:Int)=3)
def hdS (s:Lf):HdS :=
 let k:=z0s s
 let ba:=z00 1099511627776 k.2
 let pi:=z00 1048576 ba.2
 let ep:=if pi.1>0 then z00 32767 pi.2 else (0,pi.2)
 let sq:=if pi.1>0/\z33 k.1=false then z00 2147483647 ep.2 else (0,ep.2)
 ⟨k,ba,pi,ep,sq,z00 1099511627776 sq.2⟩
def HdS.b (h:HdS) (rs:List RecM):BatM:=⟨h.ba.1,h.pi.1,h.ep.1,h.sq.1,h.k.1,h.tm.1,z7e,rs⟩
def zka (h:HdS):Option BatM :=
 if h.tm.2.isSome=false\/h.tm.1>1099511627776 then none else
 if z33 h.k.1=true then (if h.tm.2=some []/\z04 (h.b [])=0 then some (h.b []) else none) else
 if (z00 64 h.tm.2).1>64 then none else
 match z4g h.tm.1 (z00 64 h.tm.2).1.toNat ⟨#[]⟩ (z00 64 h.tm.2).2 with
 | none=>none
 | some q=>if q.2=some []/\z04 (h.b q.1)=0 then some (h.b q.1) else none
def z5s (raw:List UInt8):Option BatM:=if (z0s (some raw)).1≠1 then none else zka (hdS (z0s (some raw)).2)
theorem zk7:∀ {rs:List RecM},z5q rs=0->∀ r ∈ rs,z1u r=0
 | [],_,r,h=>by cases h
 | x::rs,h,r,hr=>by
  have h:(if z1u x≠0 then z1u x else z5q rs)=0:=h
  by_cases hx:z1u x≠0
  ·rw [if_pos hx] at h;exact absurd h hx
  rw [if_neg hx] at h
  rcases List.mem_cons.1 hr with rfl|hr
  ·exact Decidable.not_not.1 hx
  ·exact zk7 h r hr
theorem z22 {b:BatM} (hv:z04 b=0):b.rs.length<=64/\∀ r ∈ b.rs,z1u r=0:=by
 unfold z04 at hv
 split at hv
 ·cases hv
 split at hv
 ·cases hv
 rename_i h2
 split at hv
 ·rename_i h3;exact absurd hv h3
 rename_i h3
 exact ⟨by omega,zk7 (Decidable.not_not.1 h3)⟩
theorem zq5 {b:BatM} (h:0<=b.kind):z33 b.kind.toNat=z0i b:=by
 unfold z33 z0i
 rw [Int.toNat_of_nonneg h]
theorem zxk {b:BatM} (hv:z04 b=0):∃ s1 s2 s3 s4 s5,hdS (z0s (some (z2f b))).2=⟨(b.kind.toNat,s1),(b.base,s2),(b.pid,s3),(b.epoch,s4),(b.seq,s5),(b.time,some (if z0i b then [] else uI b.rs.length++z2d b.time ⟨#[]⟩ b.rs))⟩:=by
 obtain ⟨-,-,⟨hk,hba,hpi,hep,hsq,htm⟩,hfit,-⟩:=z14 b hv
 unfold z2f
 generalize hY:(if z0i b then [] else uI b.rs.length++z2d b.time ⟨#[]⟩ b.rs)=Y
 have e1:∀ t,z0s (some (UInt8.ofNat b.kind.toNat::t))=(b.kind.toNat,some t):=λt=>by
  show ((UInt8.ofNat b.kind.toNat).toNat,some t)=_
  rw [UInt8.toNat_ofNat']
  congr 1
  omega
 have e2:=z5e (most:=1099511627776) (n:=b.base) hba.1 hba.2 (by omega)
 have e3:=z5e (most:=1048576) (n:=b.pid) hpi.1 hpi.2 (by omega)
 have e4:=z5e (most:=32767) (n:=b.epoch) hep.1 hep.2 (by omega)
 have e5:=z5e (most:=2147483647) (n:=b.seq) hsq.1 hsq.2 (by omega)
 have e6:=z5e (most:=1099511627776) (n:=b.time) htm.1 htm.2 (by omega)
 show ∃ s1 s2 s3 s4 s5,hdS (some (UInt8.ofNat b.kind.toNat::_))=_
 unfold hdS
 simp only [e1,e2,e3,zq5 hk.1]
 by_cases hp:b.pid>0
 ·rw [if_pos hp,if_pos hp]
  by_cases hm:z0i b=true
  ·have hs0:b.seq=0:=by have:=hfit.2;rw [if_pos hm] at this;exact this.1
   simp only [hm,if_true,Bool.true_eq_false,and_false,if_false,List.append_nil,List.append_assoc,e4,e6]
   exact ⟨_,_,_,_,_,by rw [hs0]⟩
  ·have hm:z0i b=false:=by simpa using hm
   simp only [hm,hp,Bool.false_eq_true,and_self,if_true,if_false,List.append_assoc,e4,e5,e6]
   exact ⟨_,_,_,_,_,rfl⟩
 ·have h0:b.pid=0:=by omega
  have hz:b.kind=0/\b.epoch=0/\b.seq=0:=by
   have:=hfit.1
   refine ⟨?_,?_,?_⟩ <;> (apply Decidable.byContradiction;intro h;apply this;simp [h0,h])
  rw [if_neg hp,if_neg hp,if_neg (λh=>hp h.1)]
  simp only [List.nil_append,e6]
  exact ⟨_,_,_,_,_,by rw [hz.2.1,hz.2.2]⟩
theorem zi4 {b:BatM} (hv:z04 b=0):z5s (z2f b)=some b.p:=by
 obtain ⟨s1,s2,s3,s4,s5,h⟩:=zxk hv
 obtain ⟨-,-,⟨hk,hba,hpi,hep,hsq,htm⟩,hfit,-⟩:=z14 b hv
 obtain ⟨h64,hrs⟩:=z22 hv
 have hb:∀ rs,(HdS.mk (b.kind.toNat,s1) (b.base,s2) (b.pid,s3) (b.epoch,s4) (b.seq,s5) (b.time,some (if z0i b then [] else uI b.rs.length++z2d b.time ⟨#[]⟩ b.rs))).b rs={ b.p with rs:=rs }:=λrs=>by
  unfold HdS.b BatM.p
  simp only [Int.toNat_of_nonneg hk.1]
  rfl
 unfold z5s
 rw [h,if_neg (by show ¬ ((1:Nat)≠1);simp)]
 unfold zka
 rw [if_neg (by simp only [Option.isSome_some];rintro (h|h);cases h;omega)]
 simp only [hb,zq5 hk.1]
 by_cases hm:z0i b=true
 ·have h0:b.rs=[]:=by have:=hfit.2;rw [if_pos hm] at this;exact List.length_eq_zero_iff.1 this.2
  rw [if_pos hm,if_pos hm]
  have e:{ b.p with rs:=[] }=b.p:=by rw [<- h0];rfl
  rw [e,if_pos ⟨rfl,hv⟩]
 ·have e1:=z5e (most:=64) (n:=(b.rs.length:Int)) (by omega) (by omega) (by omega) (z2d b.time ⟨#[]⟩ b.rs)
  have e2:=zgh htm hrs ⟨#[]⟩ []
  rw [List.append_nil] at e2
  rw [if_neg hm,if_neg hm]
  simp only [e1,Int.toNat_natCast,e2]
  rw [if_neg (by omega),if_pos (by first|exact ⟨rfl,hv⟩|exact ⟨trivial,hv⟩)]
  rfl
theorem zpu {s:Lf} {t:List UInt8} (h:(hdS s).tm.2=some t) (htm:(hdS s).tm.1<=1099511627776) {rs:List RecM} (hv:z04 ((hdS s).b rs)=0) :
  s=some (UInt8.ofNat ((hdS s).b rs).kind.toNat::(uI ((hdS s).b rs).base++(uI ((hdS s).b rs).pid++((if ((hdS s).b rs).pid>0 then uI ((hdS s).b rs).epoch++(if z0i ((hdS s).b rs) then [] else uI ((hdS s).b rs).seq) else [])++(uI ((hdS s).b rs).time++t))))):=by
 obtain ⟨-,-,⟨hk,hba,hpi,hep,hsq,-⟩,hfit,-⟩:=z14 _ hv
 unfold hdS at *
 unfold HdS.b at *
 simp only at *
 generalize e1:z0s s=k at *
 generalize e2:z00 1099511627776 k.2=ba at *
 generalize e3:z00 1048576 ba.2=pi at *
 generalize e4:(if pi.1>0 then z00 32767 pi.2 else (0,pi.2))=ep at *
 generalize e5:(if pi.1>0/\z33 k.1=false then z00 2147483647 ep.2 else (0,ep.2))=sq at *
 have hmk:z0i (⟨ba.1,pi.1,ep.1,sq.1,k.1,(z00 1099511627776 sq.2).1,z7e,rs⟩:BatM)=z33 k.1:=rfl
 have h6:=(z68 (by omega) h).2 htm
 have h5:ep.2=some ((if pi.1>0/\z33 k.1=false then uI sq.1 else [])++(uI (z00 1099511627776 sq.2).1++t)):=by
  generalize (z00 1099511627776 sq.2).1=tm at *
  by_cases hc:pi.1>0/\z33 k.1=false
  ·rw [if_pos hc] at e5 ⊢
   rw [<- e5] at h6 hsq ⊢
   exact (z68 (by omega) h6).2 hsq.2
  ·rw [if_neg hc] at e5 ⊢
   rw [<- e5] at h6
   exact h6
 generalize (z00 1099511627776 sq.2).1=tm at *
 have h4:pi.2=some ((if pi.1>0 then uI ep.1 else [])++((if pi.1>0/\z33 k.1=false then uI sq.1 else [])++(uI tm++t))):=by
  by_cases hc:pi.1>0
  ·rw [if_pos hc] at e4 ⊢
   rw [<- e4] at h5 hep ⊢
   exact (z68 (by omega) h5).2 hep.2
  ·rw [if_neg hc] at e4 ⊢
   rw [<- e4] at h5
   exact h5
 rw [<- e3] at h4 hpi
 have h3:=(z68 (by omega) h4).2 hpi.2
 rw [e3] at h3
 rw [<- e2] at h3 hba
 have h2:=(z68 (by omega) h3).2 hba.2
 rw [e2] at h2
 rw [<- e1] at h2
 have h1:=(zcf h2).2
 rw [e1] at h1
 have e:(if pi.1>0 then uI ep.1 else [])++((if pi.1>0/\z33 k.1=false then uI sq.1 else [])++(uI tm++t))=(if pi.1>0 then uI ep.1++(if z33 k.1 then [] else uI sq.1) else [])++(uI tm++t):=by
  by_cases hp:pi.1>0
  ·by_cases hm:z33 k.1=true
   ·simp [hp,hm]
   ·simp [hp,hm]
  ·simp [hp]
 rw [h1,hmk,Int.toNat_natCast,e]
theorem zkg {raw:List UInt8} {b:BatM} (h:z5s raw=some b):z04 b=0/\z2f b=raw/\b.p=b:=by
 unfold z5s at h
 split at h
 ·cases h
 rename_i h1
 have h1:(z0s (some raw)).1=1:=Decidable.not_not.1 h1
 generalize hs:(z0s (some raw)).2=s at h
 have hraw:∀ t,s=some t->raw=1::t:=λt ht=>by
  rw [<- hs] at ht
  have:=(zcf ht).2
  rw [h1] at this
  exact Option.some.inj this
 unfold zka at h
 split at h
 ·cases h
 rename_i h2
 have h3:(hdS s).tm.2.isSome=true:=by
  cases he:(hdS s).tm.2.isSome with
  | true=>rfl
  | false=>exact absurd (.inl he) h2
 have h4:(hdS s).tm.1<=1099511627776:=by omega
 obtain ⟨t,ht⟩:=Option.isSome_iff_exists.1 h3
 split at h
 ·rename_i hm
  split at h
  rotate_left
  ·cases h
  rename_i h5
  simp only [Option.some.injEq] at h
  subst h
  refine ⟨h5.2,?_,rfl⟩
  have h6:=hraw _ (zpu h5.1 h4 h5.2)
  rw [h6]
  have hm:z0i ((hdS s).b [])=true:=hm
  unfold z2f
  rw [hm]
  rfl
 ·rename_i hm
  split at h
  ·cases h
  rename_i h7
  cases hr:z4g (hdS s).tm.1 (z00 64 (hdS s).tm.2).1.toNat ⟨#[]⟩ (z00 64 (hdS s).tm.2).2 with
  | none=>rw [hr] at h;cases h
  | some q =>
   rw [hr] at h
   simp only at h
   split at h
   rotate_left
   ·cases h
   rename_i h5
   simp only [Option.some.injEq] at h
   subst h
   refine ⟨h5.2,?_,rfl⟩
   obtain ⟨rs,q2⟩:=q
   obtain ⟨rfl,h5⟩:=h5
   have hrs:=(z22 h5).2
   obtain ⟨h8,h9⟩:=zj0 (by decide) (λr hr=>(z3k (hrs r hr)).1) hr
   have h10:=z68 (by omega) h9
   have h11:=h10.2 (by omega)
   have h6:=hraw _ (zpu h11 h4 h5)
   rw [h6]
   have hm:z0i ((hdS s).b rs)≠true:=hm
   unfold z2f
   rw [if_neg hm,if_neg hm]
   have e:((hdS s).b rs).rs.length=(z00 64 (hdS s).tm.2).1:=by
    have h12:=h10.1
    have h13:rs.length=(z00 64 (hdS s).tm.2).1.toNat:=h8
    show ((rs.length:Nat):Int)=_
    rw [h13,Int.toNat_of_nonneg h12.1]
   rw [e,List.append_nil]
   rfl
structure ComM where
 part:Int
 off:Int
 mem:Int
 gen:Int
def z6v (c:ComM):List Value:=[.int .i64 c.part,.int .i64 c.off,.int .i64 c.mem,.int .i64 c.gen]
instance:EncA z6v [.int .i64,.int .i64,.int .i64,.int .i64] (λc=>(c.part,c.off,c.mem,c.gen,())):=⟨λ_=>rfl⟩
instance:EncN z6v 4:=⟨λ_=>rfl,by decide,by simp [z6v,Value.oneCell']⟩
def z6l (c:ComM):Prop:=(0<=c.part/\c.part<=255)/\(0<=c.off/\c.off<=1099511627776)/\(0<=c.mem/\c.mem<=64)/\(0<=c.gen/\c.gen<=2147483647)
instance (c:ComM):Decidable (z6l c):=by unfold z6l;infer_instance
def z7c (n:Nat):UInt8:=UInt8.ofNat (48+n)
def zeu (p:Int):List UInt8:=[z7c (p.toNat / 100),z7c (p.toNat / 10 % 10),z7c (p.toNat % 10)]
def z18 (p:Int):ByteArray:=⟨(111::zeu p).toArray⟩
def z6m (c:ComM):List UInt8:=uI c.off++(uI c.mem++uI c.gen)
def z5a (c:ComM) (time:Int):RecM:=⟨z18 c.part,⟨(z6m c).toArray⟩,false,time⟩
def z98 (r:RecM) (c:ComM):Prop:=z6l c/\r.key=z18 c.part/\r.value=⟨(z6m c).toArray⟩/\r.gone=false
def zzo (r:RecM) (c:ComM) (e:Int):Prop:=(e=0/\z98 r c)\/(e=6/\c=⟨0,0,0,0⟩/\∀ c',¬ z98 r c')
theorem zjg {c:ComM} (h:z6l c):(zv (some (z6m c))).1=c.off.toNat/\(zv (zv (some (z6m c))).2).1=c.mem.toNat/\(zv (zv (zv (some (z6m c))).2).2).1=c.gen.toNat/\(zv (zv (zv (some (z6m c))).2).2).2=some []:=by
 obtain ⟨-,h1,h2,h3⟩:=h
 have e1:zv (some (z6m c))=(c.off.toNat,some (uI c.mem++uI c.gen)):=z4k (by omega) _
 have e2:zv (some (uI c.mem++uI c.gen))=(c.mem.toNat,some (uI c.gen)):=z4k (by omega) _
 have e3:zv (some (uI c.gen))=(c.gen.toNat,some []):=by
  have:=z4k (v:=c.gen.toNat) (by omega) []
  rw [List.append_nil] at this
  exact this
 have f2:(zv (some (z6m c))).2=some (uI c.mem++uI c.gen):=by rw [e1]
 have f3:(zv (zv (some (z6m c))).2).2=some (uI c.gen):=by rw [f2,e2]
 refine ⟨by rw [e1],by rw [f2,e2],by rw [f3,e3],by rw [f3,e3]⟩
theorem zz7 {bs:List UInt8} (h:(zv (zv (zv (some bs)).2).2).2=some []):bs=z2v (zv (some bs)).1++(z2v (zv (zv (some bs)).2).1++z2v (zv (zv (zv (some bs)).2).2).1):=by
 obtain ⟨-,h3⟩:=z4j h
 obtain ⟨-,h2⟩:=z4j h3
 obtain ⟨-,h1⟩:=z4j h2
 rw [List.append_nil] at h1
 exact Option.some.inj h1
theorem Ret.mono {P:Program} {f:FuncId} {args:Array Value} {w:World} {R R':List Value->World->Prop} (h:Ret P f args w R) (hi:∀ vs w',R vs w'->R' vs w'):Ret P f args w R' :=
 Calls.mono h λe w' ⟨vs,he,hv⟩=>⟨vs,he,hi _ _ hv⟩
def stR (R:RdM):Lf:=if R.e=0 then some (z4l R) else none
theorem z7j {R:RdM} (h:R.e=0):stR R=some (z4l R):=if_pos h
theorem z6n {R:RdM} (h:R.e≠0):stR R=none:=if_neg h
theorem zz0 {R:RdM}:(stR R).isSome=decide (R.e=0):=by
 unfold stR;split <;> simp [*]
theorem zdn {R:RdM}:(R.uint).1=(zv (stR R)).1/\stR R.uint.2=(zv (stR R)).2:=by
 by_cases h:R.e=0
 ·rw [z7j h]
  cases hn:z3j 0 (R.bs.drop R.at_) with
  | none =>
   have e1:R.uint=(0,⟨R.bs,R.at_,6⟩):=by unfold RdM.uint;rw [if_neg (by rw [h];simp)];simp only [hn]
   have e2:zv (some (z4l R))=(0,none):=by unfold zv z4l;simp only [hn]
   rw [e1,e2]
   exact ⟨rfl,if_neg (show ¬ (6:Int)=0 by decide)⟩
  | some q =>
   have e1:R.uint=(q.1,⟨R.bs,R.at_+q.2,R.e⟩):=by unfold RdM.uint;rw [if_neg (by rw [h];simp)];simp only [hn]
   have e2:zv (some (z4l R))=(q.1,some ((z4l R).drop q.2)):=by unfold zv z4l;simp only [hn]
   rw [e1,e2]
   refine ⟨rfl,?_⟩
   show (if R.e=0 then some (R.bs.drop (R.at_+q.2)) else none)=some ((R.bs.drop R.at_).drop q.2)
   rw [if_pos h,List.drop_drop]
 ·rw [zm7 h]
  show 0=(zv (stR R)).1/\stR R=(zv (stR R)).2
  rw [z6n h]
  exact ⟨rfl,rfl⟩
theorem zj8 {R:RdM} {lo hi:Int}:(R.within lo hi).1=(z1h lo hi (stR R)).1/\stR (R.within lo hi).2=(z1h lo hi (stR R)).2:=by
 obtain ⟨h1,h2⟩:=zdn (R:=R)
 unfold RdM.within z1h
 rw [<- h1,<- h2]
 by_cases h:R.uint.2.e=0
 ·rw [if_neg (by rw [h];simp),z7j h]
  simp only
  by_cases hc:zag R.uint.1<lo\/zag R.uint.1>hi
  ·rw [if_pos hc,if_pos hc]
   exact ⟨rfl,if_neg (show ¬ (8:Int)=0 by decide)⟩
  ·rw [if_neg hc,if_neg hc]
   exact ⟨rfl,z7j h⟩
 ·rw [if_pos h]
  show 0=_/\stR R.uint.2=_
  rw [z6n h]
  exact ⟨rfl,rfl⟩
def rdS (T':TypeId) (p:Nat) (s:Lf):HP:=HP.ex λR:RdM=>HP.and (stR R=s) (rdP T' p R)
section
variable {w:World} {l r:List HP} {p:Nat} {s:Lf} {T':TypeId}
theorem z6y (hs:Sat w (rdS T' p s::l)):∃ R:RdM,stR R=s/\Sat w (rdP T' p R::l):=by
 obtain ⟨R,hs⟩:=hs.ex
 obtain ⟨h,hs⟩:=hs.and
 exact ⟨R,h,hs⟩
theorem z26 {R:RdM} (h:stR R=s) (hs:Sat w (rdP T' p R::l)):Sat w (rdS T' p s::l):=.ex_mk R (.and_mk h hs)
theorem zl3 (x:Sl) (bs:List UInt8) [hx:FocR l x 1 (bs.flatMap zi)] (hn:bs.length<=1000000000) (hs:Sat w l) :
  Ret P F.a231 #[x.v] w λvs w'=>∃ p:Nat,vs=[.pointer (some ⟨p,0,none⟩)]/\Sat w' (rdS T.a58 p (some bs)::l) :=
 (zmj x bs hn hs).mono λ_ _ h=>by
  obtain ⟨p,rfl,hs⟩:=h
  exact ⟨p,rfl,z26 (R:=⟨bs,0,0⟩) rfl hs⟩
theorem z94 [hf:Fo l (rdS T.a58) p s r] (hs:Sat w l):Ret P F.a238 #[.pointer (some ⟨p,0,none⟩)] w λvs w'=>vs=[.int .u64 ((zv s).1:Int)]/\Sat w' (rdS T.a58 p (zv s).2::r):=by
 obtain ⟨R,rfl,hs⟩:=z6y (hs.perm hf.perm)
 refine (zqo (p:=p) hs).mono λ_ _ h=>?_
 obtain ⟨rfl,hs⟩:=h
 exact ⟨by rw [zdn.1],z26 zdn.2 hs⟩
theorem zwo (lo hi:Int) [hf:Fo l (rdS T.a58) p s r] (hs:Sat w l):Ret P F.a239 #[.pointer (some ⟨p,0,none⟩),.int .i64 lo,.int .i64 hi] w λvs w'=>vs=[.int .i64 (z1h lo hi s).1]/\Sat w' (rdS T.a58 p (z1h lo hi s).2::r):=by
 obtain ⟨R,rfl,hs⟩:=z6y (hs.perm hf.perm)
 refine (zwb (p:=p) lo hi hs).mono λ_ _ h=>?_
 obtain ⟨rfl,hs⟩:=h
 exact ⟨by rw [zj8.1],z26 zj8.2 hs⟩
theorem zv8 [hf:Fo l (rdS T.a58) p s r] (hs:Sat w l):Ret P F.a234 #[.pointer (some ⟨p,0,none⟩)] w λvs w'=>∃ e:Int,vs=[.int .i64 e]/\(e=0↔s.isSome=true)/\Sat w' (rdS T.a58 p s::r):=by
 obtain ⟨R,rfl,hs⟩:=z6y (hs.perm hf.perm)
 refine (z05y (p:=p) hs).mono λ_ _ h=>?_
 obtain ⟨rfl,hs⟩:=h
 exact ⟨R.e,rfl,by rw [zz0,decide_eq_true_iff],z26 rfl hs⟩
theorem zki [hf:Fo l (rdS T.a58) p s r] (hs:Sat w l):Ret P F.a233 #[.pointer (some ⟨p,0,none⟩)] w λvs w'=>∃ e:Int,vs=[.int .i64 e]/\(e=0↔s=some [])/\Sat w' r:=by
 obtain ⟨R,rfl,hs⟩:=z6y (hs.perm hf.perm)
 have hb:=(z64 hs).1
 refine (z05x (p:=p) hs).mono λ_ _ h=>?_
 obtain ⟨rfl,hs⟩:=h
 refine ⟨_,rfl,?_,hs.tail⟩
 rw [zrj hb]
 unfold stR
 by_cases h:R.e=0 <;> simp [h]
end
section
variable {w:World} {l r:List HP} {p:Nat} {s:Lf}
theorem z04g (b:Bool) (hs:Sat w l):Ret P F.a228 #[.bool b] w λvs w'=>∃ z:Sl,vs=[z.v]/\Sat w' (slc T.a56 1 z ([z84 b].flatMap zi)::l) :=
 zov b <| by
  delta z025 Ac Ah Aj
  refine zg (λh=>?_) λh=>?_
  ·subst h
   refine z9r hs (enc:=zi) (1:UInt8) λz w' hs=>?_
   exact ⟨rfl,z,rfl,hs⟩
  ·have h:b=false:=by simpa using h
   subst h
   refine z9r hs (enc:=zi) (0:UInt8) λz w' hs=>?_
   exact ⟨rfl,z,rfl,hs⟩
theorem zhj (n:Nat) {x:Sl} {bs:List UInt8} {e:Int} {at_:Nat} (hn:at_+n<=bs.length) (hb:bs.length<=1000000000) (hcap:x.len<=x.cap) [hf:FocB l p (.cells [.slice x.a x.len x.cap,.int .i64 at_,.int .i64 e].toArray T.a58) r] [hr:FocR r x 1 (bs.flatMap zi)] (hs:Sat w l) :
  Ret P F.a245 #[.pointer (some ⟨p,0,none⟩),.int .i64 n] w λvs w'=>vs=[.slice (z10 x.a 1 at_ x.cap) n (x.cap-at_)]/\Sat w' (pt p (.cells #[.slice x.a x.len x.cap,.int .i64 (at_+n:Nat),.int .i64 e] T.a58)::r) :=
 zpc _ n <| by
  delta z02m AT AU Ae Af Ah Ai As Az Be
  have hs:=hs.perm hf.perm
  have hl:=hs.slen x (xs:=bs) (enc:=zi)
  refine zh ?_
  refine za hs ?_
  refine zh ?_
  have e2:IntKind.wrap .i64 ((at_:Int)+n)=((at_+n:Nat):Int):=by rw [w64 (by omega) (by omega)];omega
  rw [e2]
  refine z03 hs λw' hs=>?_
  refine zy hs λw' hs=>?_
  refine zh ?_
  refine za hs ?_
  refine zh ?_
  refine za hs ?_
  refine zh ?_
  refine za hs ?_
  have e3:IntKind.wrap .i64 (((at_+n:Nat):Int)-n)=(at_:Int):=by rw [w64 (by omega) (by omega)];omega
  rw [e3]
  refine wp_must (by omega) ?_
  refine zd ?_
  refine ⟨rfl,?_,hs⟩
  simp only [Int.toNat_natCast,Nat.add_sub_cancel_left]
end
abbrev polyB:BitVec 32:=0xEDB88320#32
def zx5 (s:BitVec 32):BitVec 32:=(s >>> 1) ^^^ (polyB &&& (0#32-(s &&& 1#32)))
def zrh:Nat->BitVec 32->BitVec 32
 | 0,s=>s
 | k+1,s=>zx5 (zrh k s)
def zrg (s:BitVec 32) (c:UInt8):BitVec 32:=zrh 8 (s ^^^ BitVec.ofNat 32 c.toNat)
def z5j (s:BitVec 32) (bs:List UInt8):BitVec 32:=bs.foldl zrg s
def zs6 (x:BitVec 32) (bs:List UInt8):BitVec 32 := ~~~ (z5j (~~~ x) bs)
def z9m (bs:List UInt8):Nat:=(zs6 0#32 bs).toNat
def z3g (n:Nat):List UInt8:=[UInt8.ofNat n,UInt8.ofNat (n / 256),UInt8.ofNat (n / 65536),UInt8.ofNat (n / 16777216)]
def z0h:List UInt8->Nat
 | a::b::c::d::_=>a.toNat+256*b.toNat+65536*c.toNat+16777216*d.toNat
 | _=>0
def z30 (bs:List UInt8):List UInt8:=z3g bs.length++bs
def z2e (bs:List UInt8):List UInt8:=if bs.length>262144 then [] else z30 bs++z3g (z9m (z30 bs))
def z0u (b:List UInt8):Option (List UInt8 × Nat) :=
 if b.length<8\/z0h b>262144\/z0h b+8>b.length then none else if z0h (b.drop (z0h b+4))=z9m (b.take (z0h b+4)) then some ((b.drop 4).take (z0h b),z0h b+8) else none
theorem zvt (a b c d:UInt8) (r:List UInt8):z0h (a::b::c::d::r)=a.toNat+256*b.toNat+65536*c.toNat+16777216*d.toNat:=rfl
theorem zl6 {n:Nat} (h:n<4294967296) (r:List UInt8):z0h (z3g n++r)=n:=by
 unfold z3g z0h
 simp
 omega
theorem zen:∀ (b:List UInt8),4<=b.length->z3g (z0h b)=b.take 4/\z0h b<4294967296
 | a::b::c::d::r,_=>by
  have h1:=a.toNat_lt
  have h2:=b.toNat_lt
  have h3:=c.toNat_lt
  have h4:=d.toNat_lt
  rw [zvt]
  refine ⟨?_,by omega⟩
  have e:∀ (x:UInt8) (n:Nat),n % 256=x.toNat->UInt8.ofNat n=x:=λx n h=>by
   apply UInt8.toNat_inj.1
   simp [h]
  unfold z3g
  rw [e a _ (by omega),e b _ (by omega),e c _ (by omega),e d _ (by omega)]
  rfl
theorem z5w (n:Nat):(z3g n).length=4:=rfl
theorem zqu (bs:List UInt8):z9m bs<4294967296:=(zs6 0#32 bs).isLt
theorem z6c {bs:List UInt8} (h:bs.length<=262144) (r:List UInt8):z0u (z2e bs++r)=some (bs,bs.length+8):=by
 have hs:=zqu (z30 bs)
 have hl:(z30 bs).length=bs.length+4:=by unfold z30;rw [List.length_append,z5w];omega
 have e0:z2e bs++r=z30 bs++(z3g (z9m (z30 bs))++r):=by unfold z2e;rw [if_neg (by omega),List.append_assoc]
 have e1:z0h (z2e bs++r)=bs.length:=by
  rw [e0];unfold z30;rw [List.append_assoc];exact zl6 (by omega) _
 have e2:(z2e bs++r).length=bs.length+8+r.length:=by
  rw [e0,List.length_append,List.length_append,hl,z5w];omega
 unfold z0u
 rw [e1,e2,if_neg (by omega),e0,<- hl,List.drop_left,List.take_left,zl6 hs,if_pos rfl]
 congr 2
 unfold z30
 rw [List.append_assoc,show (4:Nat)=(z3g bs.length).length from rfl,List.drop_left,List.take_left]
theorem z5v {b body:List UInt8} {n:Nat} (h:z0u b=some (body,n)):n=body.length+8/\n<=b.length/\body.length<=262144/\b.take n=z2e body:=by
 unfold z0u at h
 split at h
 ·cases h
 rename_i h1
 split at h
 ·rename_i h2
  simp only [Option.some.injEq,Prod.mk.injEq] at h
  obtain ⟨rfl,rfl⟩:=h
  have hbl:((b.drop 4).take (z0h b)).length=z0h b:=by rw [List.length_take,List.length_drop];omega
  refine ⟨by rw [hbl],by omega,by rw [hbl];omega,?_⟩
  have hh:z30 ((b.drop 4).take (z0h b))=b.take (z0h b+4):=by
   unfold z30
   rw [hbl,(zen b (by omega)).1,Nat.add_comm,List.take_add]
  unfold z2e
  rw [if_neg (by rw [hbl];omega),hh,<- h2,(zen (b.drop (z0h b+4)) (by rw [List.length_drop];omega)).1,show z0h b+8=(z0h b+4)+4 from rfl,List.take_add]
 ·cases h
theorem zva (b:List UInt8):z0u b=if b.length<8\/z0h b>262144\/z0h b+8>b.length then none else if z2e ((b.drop 4).take (z0h b))=b.take (z0h b+8) then some ((b.drop 4).take (z0h b),z0h b+8) else none:=by
 by_cases h1:b.length<8\/z0h b>262144\/z0h b+8>b.length
 ·unfold z0u;rw [if_pos h1,if_pos h1]
 rw [if_neg h1]
 by_cases h2:z2e ((b.drop 4).take (z0h b))=b.take (z0h b+8)
 ·rw [if_pos h2]
  have hbl:((b.drop 4).take (z0h b)).length=z0h b:=by rw [List.length_take,List.length_drop];omega
  have h3:=z6c (bs:=(b.drop 4).take (z0h b)) (by rw [hbl];omega) (b.drop (z0h b+8))
  rw [h2,List.take_append_drop,hbl] at h3
  exact h3
 ·rw [if_neg h2]
  cases hf:z0u b with
  | none=>rfl
  | some q =>
   obtain ⟨g1,g2,g3,g4⟩:=z5v (body:=q.1) (n:=q.2) hf
   unfold z0u at hf
   rw [if_neg h1] at hf
   split at hf
   ·simp only [Option.some.injEq] at hf
    subst hf
    exact absurd g4.symm h2
   ·cases hf
end Go.Dec
