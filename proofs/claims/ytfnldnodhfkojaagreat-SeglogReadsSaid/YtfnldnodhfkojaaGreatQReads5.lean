/- What the claim of this folder leans on: our own texts, joined, without what it does not use. -/
import Derived.Test.YtfnldnodhfkojaaGreatRows
import Derived.WalkKit
import Derived.ProofKit
import Derived.OpenShut
import Derived.RowKit3
import Derived.OrdersHeld
import Derived.Scope
import Derived.KernelRfl
import Derived.Laws.Sem
import Derived.Laws.StructEq
import Derived.Deep.AppendSrc
import Derived.Laws.BytesArg
import Derived.Laws.RangeString
import Derived.Maps.RangeRun
import Derived.Lib.ConvBytes
import Derived.Lib.SlBytesConst
import Derived.ChangeSlices
import Derived.ChangeMaps5
import Derived.ChangeSame
import Derived.Deep.Slices
import Derived.Deep.Fields
import Derived.Test.YtfnldnodhfkojaaGreatProg
import Derived.Laws.MakeOwn
import Derived.Sort.MapsRangeIn
import Derived.Sort.KeysCollected
import Derived.RangeFuncNested
import Derived.RangeFuncBound
import Derived.RangeFuncCalls
import Derived.RangeFuncLeaves
import Derived.RangeFuncBox
import Derived.OwnWalkIn
import Derived.TacticsInMore
import Derived.RegionIn
import Derived.LoopNIn
import Derived.LoopIn
import Derived.Maps.AppendAt
import Derived.Shelf.Abstract
import Derived.Test.YtfnldnodhfkojaaGreatQReads1
import Derived.Test.YtfnldnodhfkojaaGreatQReads2
import Derived.Test.YtfnldnodhfkojaaGreatQReads3
import Derived.Test.YtfnldnodhfkojaaGreatQReads4
set_option linter.unusedVariables false
set_option linter.unusedSimpArgs false
namespace Go.Dec
structure SortI where
 T:TypeId
 s:Sh1
 sz:Nat
 less:HL s.prims→HL s.prims→(Bool→Prog)→Prog
 ex:List Value
 xs:TypeId
 ti:TypeId
 fNext:FuncId
 fPow:FuncId
 f_sift:FuncId
 f_heap:FuncId
 f_ins:FuncId
 f_brk:FuncId
 f_rev:FuncId
 f_pins:FuncId
 f_peq:FuncId
 f_part:FuncId
 f_ord2:FuncId
 f_med:FuncId
 f_medj:FuncId
 f_piv:FuncId
 f_pdq:FuncId
def SortI.sift (I:SortI) (data:Sl) (lo hi:Int) (first:Int):Prog :=
.lt (.int .i64) (lo) fun (n0:Int) =>
.bind 1 [] (
.loop 2 [.one (.int .i64)] (n0,()) (u1 fun (n1:Int) =>
.lt (.int .i64) (IntKind.wrap .i64 (IntKind.wrap .i64 (2*n1)+1)) fun (n2:Int) =>
.ite (decide (n2≥hi)) (
.done 1 []) (
.bind 3 [.one .bool] (
.tick <|
.ex [.adr] (c1 fun a3=>decide (IntKind.wrap .i64 (n2+1)<hi)=true→0≤IntKind.wrap .i64 (first+n2)∧IntKind.wrap .i64 (first+n2)<((data.len:Nat):Int)∧data.a=some a3) (u1 fun a4 =>
.read ((decide (IntKind.wrap .i64 (n2+1)<hi)=true)) (ld I.T (Addr.add a4 (Int.toNat (IntKind.wrap .i64 (first+n2))*I.sz))) (.one I.s) (fun n5 =>
.ex [.adr] (c1 fun a6=>decide (IntKind.wrap .i64 (n2+1)<hi)=true→0≤IntKind.wrap .i64 (IntKind.wrap .i64 (first+n2)+1)∧IntKind.wrap .i64 (IntKind.wrap .i64 (first+n2)+1)<((data.len:Nat):Int)∧data.a=some a6) (u1 fun a7 =>
.read ((decide (IntKind.wrap .i64 (n2+1)<hi)=true)) (ld I.T (Addr.add a7 (Int.toNat (IntKind.wrap .i64 (IntKind.wrap .i64 (first+n2)+1))*I.sz))) (.one I.s) (fun n8 =>
.ite (decide (IntKind.wrap .i64 (n2+1)<hi)) (
I.less n5 n8 (fun b9 =>
.untick <|
.done 3 [.bool b9])) (
.untick <|
.done 3 [.bool false])))))) (u1 fun b10 =>
.bind 3 [.one (.int .i64)] (
.ite (b10) (
.lt (.int .i64) (IntKind.wrap .i64 (n2+1)) fun (n11:Int) =>
.done 3 [.int .i64 n11]) (
.done 3 [.int .i64 n2])) (u1 fun (n12:Int) =>
.tick <|
.ex [.adr] (c1 fun a13=>0≤IntKind.wrap .i64 (first+n1)∧IntKind.wrap .i64 (first+n1)<((data.len:Nat):Int)∧data.a=some a13) (u1 fun a14 =>
.read (True) (ld I.T (Addr.add a14 (Int.toNat (IntKind.wrap .i64 (first+n1))*I.sz))) (.one I.s) (fun n15 =>
.ex [.adr] (c1 fun a16=>0≤IntKind.wrap .i64 (first+n12)∧IntKind.wrap .i64 (first+n12)<((data.len:Nat):Int)∧data.a=some a16) (u1 fun a17 =>
.read (True) (ld I.T (Addr.add a17 (Int.toNat (IntKind.wrap .i64 (first+n12))*I.sz))) (.one I.s) (fun n18 =>
I.less n15 n18 (fun b19 =>
.untick <|
.ite (not b19) (
.done 0 []) (
.bind 3 [] (
.tick <|
.ex [.adr] (c1 fun a20=>0≤IntKind.wrap .i64 (first+n12)∧IntKind.wrap .i64 (first+n12)<((data.len:Nat):Int)∧data.a=some a20) (u1 fun a21 =>
.read (True) (ld I.T (Addr.add a21 (Int.toNat (IntKind.wrap .i64 (first+n12))*I.sz))) (.one I.s) (fun n22 =>
.ex [.adr] (c1 fun a23=>0≤IntKind.wrap .i64 (first+n1)∧IntKind.wrap .i64 (first+n1)<((data.len:Nat):Int)∧data.a=some a23) (u1 fun a24 =>
.read (True) (ld I.T (Addr.add a24 (Int.toNat (IntKind.wrap .i64 (first+n1))*I.sz))) (.one I.s) (fun n25 =>
.ex [.adr] (c1 fun a26=>0≤IntKind.wrap .i64 (first+n1)∧IntKind.wrap .i64 (first+n1)<((data.len:Nat):Int)∧data.a=some a26) (u1 fun a27 =>
.actU (st I.T (Addr.add a27 (Int.toNat (IntKind.wrap .i64 (first+n1))*I.sz)) ((Sh.one I.s).mk n22)) <|
.ex [.adr] (c1 fun a28=>0≤IntKind.wrap .i64 (first+n12)∧IntKind.wrap .i64 (first+n12)<((data.len:Nat):Int)∧data.a=some a28) (u1 fun a29 =>
.actU (st I.T (Addr.add a29 (Int.toNat (IntKind.wrap .i64 (first+n12))*I.sz)) ((Sh.one I.s).mk n25)) <|
.untick <|
.done 3 []))))))) (u0 <|
.lt (.int .i64) (n12) fun (n30:Int) =>
.done 2 [.int .i64 n30])))))))))))) (u0 <|
.done 0 [])
def SortI.heap (I:SortI) (data:Sl) (a:Int) (b:Int):Prog :=
.lt (.int .i64) (a) fun (n0:Int) =>
.lt (.int .i64) (IntKind.wrap .i64 (b-a)) fun (n1:Int) =>
.lt (.int .i64) (IntKind.wrap .i64 (Int.tdiv (IntKind.wrap .i64 (n1-1)) 2)) fun (n2:Int) =>
.bind 1 [] (
.loop 2 [.one (.int .i64)] (n2,()) (u1 fun (n3:Int) =>
.ite (decide (n3≥0)) (
.call I.f_sift ([data.v,.int .i64 n3,.int .i64 n1,.int .i64 n0]++I.ex) (.tup []) (u0 <|
.lt (.int .i64) (IntKind.wrap .i64 (n3-1)) fun (n4:Int) =>
.done 2 [.int .i64 n4])) (
.done 1 []))) (u0 <|
.lt (.int .i64) (IntKind.wrap .i64 (n1-1)) fun (n5:Int) =>
.bind 1 [] (
.loop 2 [.one (.int .i64)] (n5,()) (u1 fun (n6:Int) =>
.ite (decide (n6≥0)) (
.bind 3 [] (
.tick <|
.ex [.adr] (c1 fun a7=>0≤IntKind.wrap .i64 (n0+n6)∧IntKind.wrap .i64 (n0+n6)<((data.len:Nat):Int)∧data.a=some a7) (u1 fun a8 =>
.read (True) (ld I.T (Addr.add a8 (Int.toNat (IntKind.wrap .i64 (n0+n6))*I.sz))) (.one I.s) (fun n9 =>
.ex [.adr] (c1 fun a10=>0≤n0∧n0<((data.len:Nat):Int)∧data.a=some a10) (u1 fun a11 =>
.read (True) (ld I.T (Addr.add a11 (Int.toNat n0*I.sz))) (.one I.s) (fun n12 =>
.ex [.adr] (c1 fun a13=>0≤n0∧n0<((data.len:Nat):Int)∧data.a=some a13) (u1 fun a14 =>
.actU (st I.T (Addr.add a14 (Int.toNat n0*I.sz)) ((Sh.one I.s).mk n9)) <|
.ex [.adr] (c1 fun a15=>0≤IntKind.wrap .i64 (n0+n6)∧IntKind.wrap .i64 (n0+n6)<((data.len:Nat):Int)∧data.a=some a15) (u1 fun a16 =>
.actU (st I.T (Addr.add a16 (Int.toNat (IntKind.wrap .i64 (n0+n6))*I.sz)) ((Sh.one I.s).mk n12)) <|
.untick <|
.done 3 []))))))) (u0 <|
.call I.f_sift ([data.v,.int .i64 0,.int .i64 n6,.int .i64 n0]++I.ex) (.tup []) (u0 <|
.lt (.int .i64) (IntKind.wrap .i64 (n6-1)) fun (n17:Int) =>
.done 2 [.int .i64 n17]))) (
.done 1 []))) (u0 <|
.done 0 []))
def SortI.ins (I:SortI) (data:Sl) (a:Int) (b:Int):Prog :=
.lt (.int .i64) (IntKind.wrap .i64 (a+1)) fun (n0:Int) =>
.bind 1 [] (
.loop 2 [.one (.int .i64)] (n0,()) (u1 fun (n1:Int) =>
.ite (decide (n1<b)) (
.bind 3 [] (
.lt (.int .i64) (n1) fun (n2:Int) =>
.bind 4 [] (
.loop 5 [.one (.int .i64)] (n2,()) (u1 fun (n3:Int) =>
.bind 6 [.one .bool] (
.tick <|
.ex [.adr] (c1 fun a4=>decide (n3>a)=true→0≤n3∧n3<((data.len:Nat):Int)∧data.a=some a4) (u1 fun a5 =>
.read ((decide (n3>a)=true)) (ld I.T (Addr.add a5 (Int.toNat n3*I.sz))) (.one I.s) (fun n6 =>
.ex [.adr] (c1 fun a7=>decide (n3>a)=true→0≤IntKind.wrap .i64 (n3-1)∧IntKind.wrap .i64 (n3-1)<((data.len:Nat):Int)∧data.a=some a7) (u1 fun a8 =>
.read ((decide (n3>a)=true)) (ld I.T (Addr.add a8 (Int.toNat (IntKind.wrap .i64 (n3-1))*I.sz))) (.one I.s) (fun n9 =>
.ite (decide (n3>a)) (
I.less n6 n9 (fun b10 =>
.untick <|
.done 6 [.bool b10])) (
.untick <|
.done 6 [.bool false])))))) (u1 fun b11 =>
.ite (b11) (
.bind 6 [] (
.tick <|
.ex [.adr] (c1 fun a12=>0≤IntKind.wrap .i64 (n3-1)∧IntKind.wrap .i64 (n3-1)<((data.len:Nat):Int)∧data.a=some a12) (u1 fun a13 =>
.read (True) (ld I.T (Addr.add a13 (Int.toNat (IntKind.wrap .i64 (n3-1))*I.sz))) (.one I.s) (fun n14 =>
.ex [.adr] (c1 fun a15=>0≤n3∧n3<((data.len:Nat):Int)∧data.a=some a15) (u1 fun a16 =>
.read (True) (ld I.T (Addr.add a16 (Int.toNat n3*I.sz))) (.one I.s) (fun n17 =>
.ex [.adr] (c1 fun a18=>0≤n3∧n3<((data.len:Nat):Int)∧data.a=some a18) (u1 fun a19 =>
.actU (st I.T (Addr.add a19 (Int.toNat n3*I.sz)) ((Sh.one I.s).mk n14)) <|
.ex [.adr] (c1 fun a20=>0≤IntKind.wrap .i64 (n3-1)∧IntKind.wrap .i64 (n3-1)<((data.len:Nat):Int)∧data.a=some a20) (u1 fun a21 =>
.actU (st I.T (Addr.add a21 (Int.toNat (IntKind.wrap .i64 (n3-1))*I.sz)) ((Sh.one I.s).mk n17)) <|
.untick <|
.done 6 []))))))) (u0 <|
.lt (.int .i64) (IntKind.wrap .i64 (n3-1)) fun (n22:Int) =>
.done 5 [.int .i64 n22])) (
.done 4 [])))) (u0 <|
.done 3 [])) (u0 <|
.lt (.int .i64) (IntKind.wrap .i64 (n1+1)) fun (n23:Int) =>
.done 2 [.int .i64 n23])) (
.done 1 []))) (u0 <|
.done 0 [])
def SortI.brk (I:SortI) (data:Sl) (a:Int) (b:Int):Prog :=
.lt (.int .i64) (IntKind.wrap .i64 (b-a)) fun (n0:Int) =>
.bind 1 [] (
.ite (decide (n0≥8)) (
.act (new I.xs) sA (u1 fun a1 =>
.actU (st I.xs a1 (.int .u64 (IntKind.wrap .u64 n0))) <|
.call I.fPow [.int .i64 n0] (sI .u64) (u1 fun (n2:Int) =>
.lt (.int .u64) (n2) fun (n3:Int) =>
.lt (.int .i64) (IntKind.wrap .i64 (IntKind.wrap .i64 (a+IntKind.wrap .i64 (IntKind.wrap .i64 (Int.tdiv n0 4)*2))-1)) fun (n4:Int) =>
.bind 2 [] (
.loop 3 [.one (.int .i64)] (n4,()) (u1 fun (n5:Int) =>
.ite (decide (n5≤IntKind.wrap .i64 (IntKind.wrap .i64 (a+IntKind.wrap .i64 (IntKind.wrap .i64 (Int.tdiv n0 4)*2))+1))) (
.call I.fNext [.pointer (some a1)] (sI .u64) (u1 fun (n6:Int) =>
.lt (.int .i64) (IntKind.wrap .i64 (IntKind.wrap .u64 (((BitVec.toNat (BitVec.ofInt 64 n6 &&& BitVec.ofInt 64 (IntKind.wrap .u64 (n3-1))):Nat):Int)))) fun (n7:Int) =>
.bind 4 [.one (.int .i64)] (
.ite (decide (n7≥n0)) (
.lt (.int .i64) (IntKind.wrap .i64 (n7-n0)) fun (n8:Int) =>
.done 4 [.int .i64 n8]) (
.done 4 [.int .i64 n7])) (u1 fun (n9:Int) =>
.bind 4 [] (
.tick <|
.ex [.adr] (c1 fun a10=>0≤IntKind.wrap .i64 (a+n9)∧IntKind.wrap .i64 (a+n9)<((data.len:Nat):Int)∧data.a=some a10) (u1 fun a11 =>
.read (True) (ld I.T (Addr.add a11 (Int.toNat (IntKind.wrap .i64 (a+n9))*I.sz))) (.one I.s) (fun n12 =>
.ex [.adr] (c1 fun a13=>0≤n5∧n5<((data.len:Nat):Int)∧data.a=some a13) (u1 fun a14 =>
.read (True) (ld I.T (Addr.add a14 (Int.toNat n5*I.sz))) (.one I.s) (fun n15 =>
.ex [.adr] (c1 fun a16=>0≤n5∧n5<((data.len:Nat):Int)∧data.a=some a16) (u1 fun a17 =>
.actU (st I.T (Addr.add a17 (Int.toNat n5*I.sz)) ((Sh.one I.s).mk n12)) <|
.ex [.adr] (c1 fun a18=>0≤IntKind.wrap .i64 (a+n9)∧IntKind.wrap .i64 (a+n9)<((data.len:Nat):Int)∧data.a=some a18) (u1 fun a19 =>
.actU (st I.T (Addr.add a19 (Int.toNat (IntKind.wrap .i64 (a+n9))*I.sz)) ((Sh.one I.s).mk n15)) <|
.untick <|
.done 4 []))))))) (u0 <|
.lt (.int .i64) (IntKind.wrap .i64 (n5+1)) fun (n20:Int) =>
.done 3 [.int .i64 n20])))) (
.done 2 []))) (u0 <|
.done 1 [])))) (
.done 1 [])) (u0 <|
.done 0 [])
def SortI.rev (I:SortI) (data:Sl) (a:Int) (b:Int):Prog :=
.lt (.int .i64) (a) fun (n0:Int) =>
.lt (.int .i64) (IntKind.wrap .i64 (b-1)) fun (n1:Int) =>
.bind 1 [] (
.loop 2 [.one (.int .i64),.one (.int .i64)] (n0,(n1,())) (u2 fun (n2 n3:Int) =>
.ite (decide (n2<n3)) (
.bind 3 [] (
.tick <|
.ex [.adr] (c1 fun a4=>0≤n3∧n3<((data.len:Nat):Int)∧data.a=some a4) (u1 fun a5 =>
.read (True) (ld I.T (Addr.add a5 (Int.toNat n3*I.sz))) (.one I.s) (fun n6 =>
.ex [.adr] (c1 fun a7=>0≤n2∧n2<((data.len:Nat):Int)∧data.a=some a7) (u1 fun a8 =>
.read (True) (ld I.T (Addr.add a8 (Int.toNat n2*I.sz))) (.one I.s) (fun n9 =>
.ex [.adr] (c1 fun a10=>0≤n2∧n2<((data.len:Nat):Int)∧data.a=some a10) (u1 fun a11 =>
.actU (st I.T (Addr.add a11 (Int.toNat n2*I.sz)) ((Sh.one I.s).mk n6)) <|
.ex [.adr] (c1 fun a12=>0≤n3∧n3<((data.len:Nat):Int)∧data.a=some a12) (u1 fun a13 =>
.actU (st I.T (Addr.add a13 (Int.toNat n3*I.sz)) ((Sh.one I.s).mk n9)) <|
.untick <|
.done 3 []))))))) (u0 <|
.lt (.int .i64) (IntKind.wrap .i64 (n2+1)) fun (n14:Int) =>
.lt (.int .i64) (IntKind.wrap .i64 (n3-1)) fun (n15:Int) =>
.done 2 [.int .i64 n14,.int .i64 n15])) (
.done 1 []))) (u0 <|
.done 0 [])
def SortI.pins (I:SortI) (data:Sl) (a:Int) (b:Int):Prog :=
.lt (.int .i64) (IntKind.wrap .i64 (a+1)) fun (n0:Int) =>
.bind 1 [] (
.loop 2 [.one (.int .i64),.one (.int .i64)] (n0,(0,())) (u2 fun (n1 n2:Int) =>
.ite (decide (n2<5)) (
.bind 3 [.one (.int .i64)] (
.bind 4 [.one (.int .i64)] (
.loop 5 [.one (.int .i64)] (n1,()) (u1 fun (n3:Int) =>
.bind 6 [.one .bool] (
.tick <|
.ex [.adr] (c1 fun a4=>decide (n3<b)=true→0≤n3∧n3<((data.len:Nat):Int)∧data.a=some a4) (u1 fun a5 =>
.read ((decide (n3<b)=true)) (ld I.T (Addr.add a5 (Int.toNat n3*I.sz))) (.one I.s) (fun n6 =>
.ex [.adr] (c1 fun a7=>decide (n3<b)=true→0≤IntKind.wrap .i64 (n3-1)∧IntKind.wrap .i64 (n3-1)<((data.len:Nat):Int)∧data.a=some a7) (u1 fun a8 =>
.read ((decide (n3<b)=true)) (ld I.T (Addr.add a8 (Int.toNat (IntKind.wrap .i64 (n3-1))*I.sz))) (.one I.s) (fun n9 =>
.ite (decide (n3<b)) (
I.less n6 n9 (fun b10 =>
.untick <|
.done 6 [.bool (not b10)])) (
.untick <|
.done 6 [.bool false])))))) (u1 fun b11 =>
.ite (b11) (
.lt (.int .i64) (IntKind.wrap .i64 (n3+1)) fun (n12:Int) =>
.done 5 [.int .i64 n12]) (
.done 4 [.int .i64 n3])))) (u1 fun (n13:Int) =>
.ite (n13 == b) (
.done 0 [.bool true]) (
.ite (decide (IntKind.wrap .i64 (b-a)<50)) (
.done 0 [.bool false]) (
.bind 4 [] (
.tick <|
.ex [.adr] (c1 fun a14=>0≤IntKind.wrap .i64 (n13-1)∧IntKind.wrap .i64 (n13-1)<((data.len:Nat):Int)∧data.a=some a14) (u1 fun a15 =>
.read (True) (ld I.T (Addr.add a15 (Int.toNat (IntKind.wrap .i64 (n13-1))*I.sz))) (.one I.s) (fun n16 =>
.ex [.adr] (c1 fun a17=>0≤n13∧n13<((data.len:Nat):Int)∧data.a=some a17) (u1 fun a18 =>
.read (True) (ld I.T (Addr.add a18 (Int.toNat n13*I.sz))) (.one I.s) (fun n19 =>
.ex [.adr] (c1 fun a20=>0≤n13∧n13<((data.len:Nat):Int)∧data.a=some a20) (u1 fun a21 =>
.actU (st I.T (Addr.add a21 (Int.toNat n13*I.sz)) ((Sh.one I.s).mk n16)) <|
.ex [.adr] (c1 fun a22=>0≤IntKind.wrap .i64 (n13-1)∧IntKind.wrap .i64 (n13-1)<((data.len:Nat):Int)∧data.a=some a22) (u1 fun a23 =>
.actU (st I.T (Addr.add a23 (Int.toNat (IntKind.wrap .i64 (n13-1))*I.sz)) ((Sh.one I.s).mk n19)) <|
.untick <|
.done 4 []))))))) (u0 <|
.bind 4 [] (
.ite (decide (IntKind.wrap .i64 (n13-a)≥2)) (
.lt (.int .i64) (IntKind.wrap .i64 (n13-1)) fun (n24:Int) =>
.bind 5 [] (
.loop 6 [.one (.int .i64)] (n24,()) (u1 fun (n25:Int) =>
.ite (decide (n25≥1)) (
.tick <|
.ex [.adr] (c1 fun a26=>0≤n25∧n25<((data.len:Nat):Int)∧data.a=some a26) (u1 fun a27 =>
.read (True) (ld I.T (Addr.add a27 (Int.toNat n25*I.sz))) (.one I.s) (fun n28 =>
.ex [.adr] (c1 fun a29=>0≤IntKind.wrap .i64 (n25-1)∧IntKind.wrap .i64 (n25-1)<((data.len:Nat):Int)∧data.a=some a29) (u1 fun a30 =>
.read (True) (ld I.T (Addr.add a30 (Int.toNat (IntKind.wrap .i64 (n25-1))*I.sz))) (.one I.s) (fun n31 =>
I.less n28 n31 (fun b32 =>
.untick <|
.ite (not b32) (
.done 5 []) (
.bind 7 [] (
.tick <|
.ex [.adr] (c1 fun a33=>0≤IntKind.wrap .i64 (n25-1)∧IntKind.wrap .i64 (n25-1)<((data.len:Nat):Int)∧data.a=some a33) (u1 fun a34 =>
.read (True) (ld I.T (Addr.add a34 (Int.toNat (IntKind.wrap .i64 (n25-1))*I.sz))) (.one I.s) (fun n35 =>
.ex [.adr] (c1 fun a36=>0≤n25∧n25<((data.len:Nat):Int)∧data.a=some a36) (u1 fun a37 =>
.read (True) (ld I.T (Addr.add a37 (Int.toNat n25*I.sz))) (.one I.s) (fun n38 =>
.ex [.adr] (c1 fun a39=>0≤n25∧n25<((data.len:Nat):Int)∧data.a=some a39) (u1 fun a40 =>
.actU (st I.T (Addr.add a40 (Int.toNat n25*I.sz)) ((Sh.one I.s).mk n35)) <|
.ex [.adr] (c1 fun a41=>0≤IntKind.wrap .i64 (n25-1)∧IntKind.wrap .i64 (n25-1)<((data.len:Nat):Int)∧data.a=some a41) (u1 fun a42 =>
.actU (st I.T (Addr.add a42 (Int.toNat (IntKind.wrap .i64 (n25-1))*I.sz)) ((Sh.one I.s).mk n38)) <|
.untick <|
.done 7 []))))))) (u0 <|
.lt (.int .i64) (IntKind.wrap .i64 (n25-1)) fun (n43:Int) =>
.done 6 [.int .i64 n43])))))))) (
.done 5 []))) (u0 <|
.done 4 [])) (
.done 4 [])) (u0 <|
.bind 4 [] (
.ite (decide (IntKind.wrap .i64 (b-n13)≥2)) (
.lt (.int .i64) (IntKind.wrap .i64 (n13+1)) fun (n44:Int) =>
.bind 5 [] (
.loop 6 [.one (.int .i64)] (n44,()) (u1 fun (n45:Int) =>
.ite (decide (n45<b)) (
.tick <|
.ex [.adr] (c1 fun a46=>0≤n45∧n45<((data.len:Nat):Int)∧data.a=some a46) (u1 fun a47 =>
.read (True) (ld I.T (Addr.add a47 (Int.toNat n45*I.sz))) (.one I.s) (fun n48 =>
.ex [.adr] (c1 fun a49=>0≤IntKind.wrap .i64 (n45-1)∧IntKind.wrap .i64 (n45-1)<((data.len:Nat):Int)∧data.a=some a49) (u1 fun a50 =>
.read (True) (ld I.T (Addr.add a50 (Int.toNat (IntKind.wrap .i64 (n45-1))*I.sz))) (.one I.s) (fun n51 =>
I.less n48 n51 (fun b52 =>
.untick <|
.ite (not b52) (
.done 5 []) (
.bind 7 [] (
.tick <|
.ex [.adr] (c1 fun a53=>0≤IntKind.wrap .i64 (n45-1)∧IntKind.wrap .i64 (n45-1)<((data.len:Nat):Int)∧data.a=some a53) (u1 fun a54 =>
.read (True) (ld I.T (Addr.add a54 (Int.toNat (IntKind.wrap .i64 (n45-1))*I.sz))) (.one I.s) (fun n55 =>
.ex [.adr] (c1 fun a56=>0≤n45∧n45<((data.len:Nat):Int)∧data.a=some a56) (u1 fun a57 =>
.read (True) (ld I.T (Addr.add a57 (Int.toNat n45*I.sz))) (.one I.s) (fun n58 =>
.ex [.adr] (c1 fun a59=>0≤n45∧n45<((data.len:Nat):Int)∧data.a=some a59) (u1 fun a60 =>
.actU (st I.T (Addr.add a60 (Int.toNat n45*I.sz)) ((Sh.one I.s).mk n55)) <|
.ex [.adr] (c1 fun a61=>0≤IntKind.wrap .i64 (n45-1)∧IntKind.wrap .i64 (n45-1)<((data.len:Nat):Int)∧data.a=some a61) (u1 fun a62 =>
.actU (st I.T (Addr.add a62 (Int.toNat (IntKind.wrap .i64 (n45-1))*I.sz)) ((Sh.one I.s).mk n58)) <|
.untick <|
.done 7 []))))))) (u0 <|
.lt (.int .i64) (IntKind.wrap .i64 (n45+1)) fun (n63:Int) =>
.done 6 [.int .i64 n63])))))))) (
.done 5 []))) (u0 <|
.done 4 [])) (
.done 4 [])) (u0 <|
.done 3 [.int .i64 n13]))))))) (u1 fun (n64:Int) =>
.lt (.int .i64) (IntKind.wrap .i64 (n2+1)) fun (n65:Int) =>
.done 2 [.int .i64 n64,.int .i64 n65])) (
.done 1 []))) (u0 <|
.done 0 [.bool false])
def SortI.peq (I:SortI) (data:Sl) (a b:Int) (pivot:Int):Prog :=
.bind 1 [] (
.tick <|
.ex [.adr] (c1 fun a0=>0≤pivot∧pivot<((data.len:Nat):Int)∧data.a=some a0) (u1 fun a1 =>
.read (True) (ld I.T (Addr.add a1 (Int.toNat pivot*I.sz))) (.one I.s) (fun n2 =>
.ex [.adr] (c1 fun a3=>0≤a∧a<((data.len:Nat):Int)∧data.a=some a3) (u1 fun a4 =>
.read (True) (ld I.T (Addr.add a4 (Int.toNat a*I.sz))) (.one I.s) (fun n5 =>
.ex [.adr] (c1 fun a6=>0≤a∧a<((data.len:Nat):Int)∧data.a=some a6) (u1 fun a7 =>
.actU (st I.T (Addr.add a7 (Int.toNat a*I.sz)) ((Sh.one I.s).mk n2)) <|
.ex [.adr] (c1 fun a8=>0≤pivot∧pivot<((data.len:Nat):Int)∧data.a=some a8) (u1 fun a9 =>
.actU (st I.T (Addr.add a9 (Int.toNat pivot*I.sz)) ((Sh.one I.s).mk n5)) <|
.untick <|
.done 1 []))))))) (u0 <|
.lt (.int .i64) (IntKind.wrap .i64 (a+1)) fun (n10:Int) =>
.lt (.int .i64) (IntKind.wrap .i64 (b-1)) fun (n11:Int) =>
.bind 1 [.one (.int .i64)] (
.loop 2 [.one (.int .i64),.one (.int .i64)] (n10,(n11,())) (u2 fun (n12 n13:Int) =>
.bind 3 [.one (.int .i64),.one (.int .i64)] (
.bind 4 [.one (.int .i64)] (
.loop 5 [.one (.int .i64)] (n12,()) (u1 fun (n14:Int) =>
.bind 6 [.one .bool] (
.tick <|
.ex [.adr] (c1 fun a15=>decide (n14≤n13)=true→0≤a∧a<((data.len:Nat):Int)∧data.a=some a15) (u1 fun a16 =>
.read ((decide (n14≤n13)=true)) (ld I.T (Addr.add a16 (Int.toNat a*I.sz))) (.one I.s) (fun n17 =>
.ex [.adr] (c1 fun a18=>decide (n14≤n13)=true→0≤n14∧n14<((data.len:Nat):Int)∧data.a=some a18) (u1 fun a19 =>
.read ((decide (n14≤n13)=true)) (ld I.T (Addr.add a19 (Int.toNat n14*I.sz))) (.one I.s) (fun n20 =>
.ite (decide (n14≤n13)) (
I.less n17 n20 (fun b21 =>
.untick <|
.done 6 [.bool (not b21)])) (
.untick <|
.done 6 [.bool false])))))) (u1 fun b22 =>
.ite (b22) (
.lt (.int .i64) (IntKind.wrap .i64 (n14+1)) fun (n23:Int) =>
.done 5 [.int .i64 n23]) (
.done 4 [.int .i64 n14])))) (u1 fun (n24:Int) =>
.bind 4 [.one (.int .i64)] (
.loop 5 [.one (.int .i64)] (n13,()) (u1 fun (n25:Int) =>
.bind 6 [.one .bool] (
.tick <|
.ex [.adr] (c1 fun a26=>decide (n24≤n25)=true→0≤a∧a<((data.len:Nat):Int)∧data.a=some a26) (u1 fun a27 =>
.read ((decide (n24≤n25)=true)) (ld I.T (Addr.add a27 (Int.toNat a*I.sz))) (.one I.s) (fun n28 =>
.ex [.adr] (c1 fun a29=>decide (n24≤n25)=true→0≤n25∧n25<((data.len:Nat):Int)∧data.a=some a29) (u1 fun a30 =>
.read ((decide (n24≤n25)=true)) (ld I.T (Addr.add a30 (Int.toNat n25*I.sz))) (.one I.s) (fun n31 =>
.ite (decide (n24≤n25)) (
I.less n28 n31 (fun b32 =>
.untick <|
.done 6 [.bool b32])) (
.untick <|
.done 6 [.bool false])))))) (u1 fun b33 =>
.ite (b33) (
.lt (.int .i64) (IntKind.wrap .i64 (n25-1)) fun (n34:Int) =>
.done 5 [.int .i64 n34]) (
.done 4 [.int .i64 n25])))) (u1 fun (n35:Int) =>
.ite (decide (n24>n35)) (
.done 1 [.int .i64 n24]) (
.bind 4 [] (
.tick <|
.ex [.adr] (c1 fun a36=>0≤n35∧n35<((data.len:Nat):Int)∧data.a=some a36) (u1 fun a37 =>
.read (True) (ld I.T (Addr.add a37 (Int.toNat n35*I.sz))) (.one I.s) (fun n38 =>
.ex [.adr] (c1 fun a39=>0≤n24∧n24<((data.len:Nat):Int)∧data.a=some a39) (u1 fun a40 =>
.read (True) (ld I.T (Addr.add a40 (Int.toNat n24*I.sz))) (.one I.s) (fun n41 =>
.ex [.adr] (c1 fun a42=>0≤n24∧n24<((data.len:Nat):Int)∧data.a=some a42) (u1 fun a43 =>
.actU (st I.T (Addr.add a43 (Int.toNat n24*I.sz)) ((Sh.one I.s).mk n38)) <|
.ex [.adr] (c1 fun a44=>0≤n35∧n35<((data.len:Nat):Int)∧data.a=some a44) (u1 fun a45 =>
.actU (st I.T (Addr.add a45 (Int.toNat n35*I.sz)) ((Sh.one I.s).mk n41)) <|
.untick <|
.done 4 []))))))) (u0 <|
.lt (.int .i64) (IntKind.wrap .i64 (n24+1)) fun (n46:Int) =>
.lt (.int .i64) (IntKind.wrap .i64 (n35-1)) fun (n47:Int) =>
.done 3 [.int .i64 n46,.int .i64 n47]))))) (u2 fun (n48 n49:Int) =>
.done 2 [.int .i64 n48,.int .i64 n49]))) (u1 fun (n50:Int) =>
.lt (.int .i64) (n50) fun (n51:Int) =>
.done 0 [.int .i64 n51]))
def SortI.part (I:SortI) (data:Sl) (a b:Int) (pivot:Int):Prog :=
.bind 1 [] (
.tick <|
.ex [.adr] (c1 fun a0=>0≤pivot∧pivot<((data.len:Nat):Int)∧data.a=some a0) (u1 fun a1 =>
.read (True) (ld I.T (Addr.add a1 (Int.toNat pivot*I.sz))) (.one I.s) (fun n2 =>
.ex [.adr] (c1 fun a3=>0≤a∧a<((data.len:Nat):Int)∧data.a=some a3) (u1 fun a4 =>
.read (True) (ld I.T (Addr.add a4 (Int.toNat a*I.sz))) (.one I.s) (fun n5 =>
.ex [.adr] (c1 fun a6=>0≤a∧a<((data.len:Nat):Int)∧data.a=some a6) (u1 fun a7 =>
.actU (st I.T (Addr.add a7 (Int.toNat a*I.sz)) ((Sh.one I.s).mk n2)) <|
.ex [.adr] (c1 fun a8=>0≤pivot∧pivot<((data.len:Nat):Int)∧data.a=some a8) (u1 fun a9 =>
.actU (st I.T (Addr.add a9 (Int.toNat pivot*I.sz)) ((Sh.one I.s).mk n5)) <|
.untick <|
.done 1 []))))))) (u0 <|
.lt (.int .i64) (IntKind.wrap .i64 (a+1)) fun (n10:Int) =>
.lt (.int .i64) (IntKind.wrap .i64 (b-1)) fun (n11:Int) =>
.bind 1 [.one (.int .i64)] (
.loop 2 [.one (.int .i64)] (n10,()) (u1 fun (n12:Int) =>
.bind 3 [.one .bool] (
.tick <|
.ex [.adr] (c1 fun a13=>decide (n12≤n11)=true→0≤n12∧n12<((data.len:Nat):Int)∧data.a=some a13) (u1 fun a14 =>
.read ((decide (n12≤n11)=true)) (ld I.T (Addr.add a14 (Int.toNat n12*I.sz))) (.one I.s) (fun n15 =>
.ex [.adr] (c1 fun a16=>decide (n12≤n11)=true→0≤a∧a<((data.len:Nat):Int)∧data.a=some a16) (u1 fun a17 =>
.read ((decide (n12≤n11)=true)) (ld I.T (Addr.add a17 (Int.toNat a*I.sz))) (.one I.s) (fun n18 =>
.ite (decide (n12≤n11)) (
I.less n15 n18 (fun b19 =>
.untick <|
.done 3 [.bool b19])) (
.untick <|
.done 3 [.bool false])))))) (u1 fun b20 =>
.ite (b20) (
.lt (.int .i64) (IntKind.wrap .i64 (n12+1)) fun (n21:Int) =>
.done 2 [.int .i64 n21]) (
.done 1 [.int .i64 n12])))) (u1 fun (n22:Int) =>
.bind 1 [.one (.int .i64)] (
.loop 2 [.one (.int .i64)] (n11,()) (u1 fun (n23:Int) =>
.bind 3 [.one .bool] (
.tick <|
.ex [.adr] (c1 fun a24=>decide (n22≤n23)=true→0≤n23∧n23<((data.len:Nat):Int)∧data.a=some a24) (u1 fun a25 =>
.read ((decide (n22≤n23)=true)) (ld I.T (Addr.add a25 (Int.toNat n23*I.sz))) (.one I.s) (fun n26 =>
.ex [.adr] (c1 fun a27=>decide (n22≤n23)=true→0≤a∧a<((data.len:Nat):Int)∧data.a=some a27) (u1 fun a28 =>
.read ((decide (n22≤n23)=true)) (ld I.T (Addr.add a28 (Int.toNat a*I.sz))) (.one I.s) (fun n29 =>
.ite (decide (n22≤n23)) (
I.less n26 n29 (fun b30 =>
.untick <|
.done 3 [.bool (not b30)])) (
.untick <|
.done 3 [.bool false])))))) (u1 fun b31 =>
.ite (b31) (
.lt (.int .i64) (IntKind.wrap .i64 (n23-1)) fun (n32:Int) =>
.done 2 [.int .i64 n32]) (
.done 1 [.int .i64 n23])))) (u1 fun (n33:Int) =>
.ite (decide (n22>n33)) (
.bind 1 [] (
.tick <|
.ex [.adr] (c1 fun a34=>0≤a∧a<((data.len:Nat):Int)∧data.a=some a34) (u1 fun a35 =>
.read (True) (ld I.T (Addr.add a35 (Int.toNat a*I.sz))) (.one I.s) (fun n36 =>
.ex [.adr] (c1 fun a37=>0≤n33∧n33<((data.len:Nat):Int)∧data.a=some a37) (u1 fun a38 =>
.read (True) (ld I.T (Addr.add a38 (Int.toNat n33*I.sz))) (.one I.s) (fun n39 =>
.ex [.adr] (c1 fun a40=>0≤n33∧n33<((data.len:Nat):Int)∧data.a=some a40) (u1 fun a41 =>
.actU (st I.T (Addr.add a41 (Int.toNat n33*I.sz)) ((Sh.one I.s).mk n36)) <|
.ex [.adr] (c1 fun a42=>0≤a∧a<((data.len:Nat):Int)∧data.a=some a42) (u1 fun a43 =>
.actU (st I.T (Addr.add a43 (Int.toNat a*I.sz)) ((Sh.one I.s).mk n39)) <|
.untick <|
.done 1 []))))))) (u0 <|
.lt (.int .i64) (n33) fun (n44:Int) =>
.done 0 [.int .i64 n44,.bool true])) (
.bind 1 [] (
.tick <|
.ex [.adr] (c1 fun a45=>0≤n33∧n33<((data.len:Nat):Int)∧data.a=some a45) (u1 fun a46 =>
.read (True) (ld I.T (Addr.add a46 (Int.toNat n33*I.sz))) (.one I.s) (fun n47 =>
.ex [.adr] (c1 fun a48=>0≤n22∧n22<((data.len:Nat):Int)∧data.a=some a48) (u1 fun a49 =>
.read (True) (ld I.T (Addr.add a49 (Int.toNat n22*I.sz))) (.one I.s) (fun n50 =>
.ex [.adr] (c1 fun a51=>0≤n22∧n22<((data.len:Nat):Int)∧data.a=some a51) (u1 fun a52 =>
.actU (st I.T (Addr.add a52 (Int.toNat n22*I.sz)) ((Sh.one I.s).mk n47)) <|
.ex [.adr] (c1 fun a53=>0≤n33∧n33<((data.len:Nat):Int)∧data.a=some a53) (u1 fun a54 =>
.actU (st I.T (Addr.add a54 (Int.toNat n33*I.sz)) ((Sh.one I.s).mk n50)) <|
.untick <|
.done 1 []))))))) (u0 <|
.lt (.int .i64) (IntKind.wrap .i64 (n22+1)) fun (n55:Int) =>
.lt (.int .i64) (IntKind.wrap .i64 (n33-1)) fun (n56:Int) =>
.bind 1 [.one (.int .i64)] (
.loop 2 [.one (.int .i64),.one (.int .i64)] (n55,(n56,())) (u2 fun (n57 n58:Int) =>
.bind 3 [.one (.int .i64),.one (.int .i64)] (
.bind 4 [.one (.int .i64)] (
.loop 5 [.one (.int .i64)] (n57,()) (u1 fun (n59:Int) =>
.bind 6 [.one .bool] (
.tick <|
.ex [.adr] (c1 fun a60=>decide (n59≤n58)=true→0≤n59∧n59<((data.len:Nat):Int)∧data.a=some a60) (u1 fun a61 =>
.read ((decide (n59≤n58)=true)) (ld I.T (Addr.add a61 (Int.toNat n59*I.sz))) (.one I.s) (fun n62 =>
.ex [.adr] (c1 fun a63=>decide (n59≤n58)=true→0≤a∧a<((data.len:Nat):Int)∧data.a=some a63) (u1 fun a64 =>
.read ((decide (n59≤n58)=true)) (ld I.T (Addr.add a64 (Int.toNat a*I.sz))) (.one I.s) (fun n65 =>
.ite (decide (n59≤n58)) (
I.less n62 n65 (fun b66 =>
.untick <|
.done 6 [.bool b66])) (
.untick <|
.done 6 [.bool false])))))) (u1 fun b67 =>
.ite (b67) (
.lt (.int .i64) (IntKind.wrap .i64 (n59+1)) fun (n68:Int) =>
.done 5 [.int .i64 n68]) (
.done 4 [.int .i64 n59])))) (u1 fun (n69:Int) =>
.bind 4 [.one (.int .i64)] (
.loop 5 [.one (.int .i64)] (n58,()) (u1 fun (n70:Int) =>
.bind 6 [.one .bool] (
.tick <|
.ex [.adr] (c1 fun a71=>decide (n69≤n70)=true→0≤n70∧n70<((data.len:Nat):Int)∧data.a=some a71) (u1 fun a72 =>
.read ((decide (n69≤n70)=true)) (ld I.T (Addr.add a72 (Int.toNat n70*I.sz))) (.one I.s) (fun n73 =>
.ex [.adr] (c1 fun a74=>decide (n69≤n70)=true→0≤a∧a<((data.len:Nat):Int)∧data.a=some a74) (u1 fun a75 =>
.read ((decide (n69≤n70)=true)) (ld I.T (Addr.add a75 (Int.toNat a*I.sz))) (.one I.s) (fun n76 =>
.ite (decide (n69≤n70)) (
I.less n73 n76 (fun b77 =>
.untick <|
.done 6 [.bool (not b77)])) (
.untick <|
.done 6 [.bool false])))))) (u1 fun b78 =>
.ite (b78) (
.lt (.int .i64) (IntKind.wrap .i64 (n70-1)) fun (n79:Int) =>
.done 5 [.int .i64 n79]) (
.done 4 [.int .i64 n70])))) (u1 fun (n80:Int) =>
.ite (decide (n69>n80)) (
.done 1 [.int .i64 n80]) (
.bind 4 [] (
.tick <|
.ex [.adr] (c1 fun a81=>0≤n80∧n80<((data.len:Nat):Int)∧data.a=some a81) (u1 fun a82 =>
.read (True) (ld I.T (Addr.add a82 (Int.toNat n80*I.sz))) (.one I.s) (fun n83 =>
.ex [.adr] (c1 fun a84=>0≤n69∧n69<((data.len:Nat):Int)∧data.a=some a84) (u1 fun a85 =>
.read (True) (ld I.T (Addr.add a85 (Int.toNat n69*I.sz))) (.one I.s) (fun n86 =>
.ex [.adr] (c1 fun a87=>0≤n69∧n69<((data.len:Nat):Int)∧data.a=some a87) (u1 fun a88 =>
.actU (st I.T (Addr.add a88 (Int.toNat n69*I.sz)) ((Sh.one I.s).mk n83)) <|
.ex [.adr] (c1 fun a89=>0≤n80∧n80<((data.len:Nat):Int)∧data.a=some a89) (u1 fun a90 =>
.actU (st I.T (Addr.add a90 (Int.toNat n80*I.sz)) ((Sh.one I.s).mk n86)) <|
.untick <|
.done 4 []))))))) (u0 <|
.lt (.int .i64) (IntKind.wrap .i64 (n69+1)) fun (n91:Int) =>
.lt (.int .i64) (IntKind.wrap .i64 (n80-1)) fun (n92:Int) =>
.done 3 [.int .i64 n91,.int .i64 n92]))))) (u2 fun (n93 n94:Int) =>
.done 2 [.int .i64 n93,.int .i64 n94]))) (u1 fun (n95:Int) =>
.bind 1 [] (
.tick <|
.ex [.adr] (c1 fun a96=>0≤a∧a<((data.len:Nat):Int)∧data.a=some a96) (u1 fun a97 =>
.read (True) (ld I.T (Addr.add a97 (Int.toNat a*I.sz))) (.one I.s) (fun n98 =>
.ex [.adr] (c1 fun a99=>0≤n95∧n95<((data.len:Nat):Int)∧data.a=some a99) (u1 fun a100 =>
.read (True) (ld I.T (Addr.add a100 (Int.toNat n95*I.sz))) (.one I.s) (fun n101 =>
.ex [.adr] (c1 fun a102=>0≤n95∧n95<((data.len:Nat):Int)∧data.a=some a102) (u1 fun a103 =>
.actU (st I.T (Addr.add a103 (Int.toNat n95*I.sz)) ((Sh.one I.s).mk n98)) <|
.ex [.adr] (c1 fun a104=>0≤a∧a<((data.len:Nat):Int)∧data.a=some a104) (u1 fun a105 =>
.actU (st I.T (Addr.add a105 (Int.toNat a*I.sz)) ((Sh.one I.s).mk n101)) <|
.untick <|
.done 1 []))))))) (u0 <|
.lt (.int .i64) (n95) fun (n106:Int) =>
.done 0 [.int .i64 n106,.bool false])))))))
def SortI.ord2 (I:SortI) (data:Sl) (a b:Int) (swaps:Option Addr):Prog :=
.tick <|
.ex [.adr] (c1 fun a0=>0≤b∧b<((data.len:Nat):Int)∧data.a=some a0) (u1 fun a1 =>
.read (True) (ld I.T (Addr.add a1 (Int.toNat b*I.sz))) (.one I.s) (fun n2 =>
.ex [.adr] (c1 fun a3=>0≤a∧a<((data.len:Nat):Int)∧data.a=some a3) (u1 fun a4 =>
.read (True) (ld I.T (Addr.add a4 (Int.toNat a*I.sz))) (.one I.s) (fun n5 =>
I.less n2 n5 (fun b6 =>
.untick <|
.ite (b6) (
.ex [.adr] (c1 fun a7=>swaps=some a7) (u1 fun a8 =>
.read True (ld I.ti a8) (sI .i64) (u1 fun (n9:Int) =>
.ex [.adr] (c1 fun a10=>swaps=some a10) (u1 fun a11 =>
.actU (st I.ti a11 (.int .i64 (IntKind.wrap .i64 (n9+1)))) <|
.lt (.int .i64) (b) fun (n12:Int) =>
.lt (.int .i64) (a) fun (n13:Int) =>
.done 0 [.int .i64 n12,.int .i64 n13])))) (
.lt (.int .i64) (a) fun (n14:Int) =>
.lt (.int .i64) (b) fun (n15:Int) =>
.done 0 [.int .i64 n14,.int .i64 n15]))))))
def SortI.med (I:SortI) (data:Sl) (a b c:Int) (swaps:Option Addr):Prog :=
.call I.f_ord2 ([data.v,.int .i64 a,.int .i64 b,.pointer swaps]++I.ex) (.tup [.one (.int .i64),.one (.int .i64)]) (u2 fun (n0 n1:Int) =>
.lt (.int .i64) (n0) fun (n2:Int) =>
.lt (.int .i64) (n1) fun (n3:Int) =>
.call I.f_ord2 ([data.v,.int .i64 n3,.int .i64 c,.pointer swaps]++I.ex) (.tup [.one (.int .i64),.one (.int .i64)]) (u2 fun (n4 n5:Int) =>
.lt (.int .i64) (n4) fun (n6:Int) =>
.lt (.int .i64) (n5) fun (n7:Int) =>
.call I.f_ord2 ([data.v,.int .i64 n2,.int .i64 n6,.pointer swaps]++I.ex) (.tup [.one (.int .i64),.one (.int .i64)]) (u2 fun (n8 n9:Int) =>
.lt (.int .i64) (n8) fun (n10:Int) =>
.lt (.int .i64) (n9) fun (n11:Int) =>
.lt (.int .i64) (n11) fun (n12:Int) =>
.done 0 [.int .i64 n12])))
def SortI.medj (I:SortI) (data:Sl) (a:Int) (swaps:Option Addr):Prog :=
.call I.f_med ([data.v,.int .i64 (IntKind.wrap .i64 (a-1)),.int .i64 a,.int .i64 (IntKind.wrap .i64 (a+1)),.pointer swaps]++I.ex) (sI .i64) (u1 fun (n0:Int) =>
.lt (.int .i64) (n0) fun (n1:Int) =>
.done 0 [.int .i64 n1])
def SortI.piv (I:SortI) (data:Sl) (a:Int) (b:Int):Prog :=
.lt (.int .i64) (IntKind.wrap .i64 (b-a)) fun (n0:Int) =>
.act (new I.ti) sA (u1 fun a1 =>
.lt (.int .i64) (IntKind.wrap .i64 (a+IntKind.wrap .i64 (IntKind.wrap .i64 (Int.tdiv n0 4)*1))) fun (n2:Int) =>
.lt (.int .i64) (IntKind.wrap .i64 (a+IntKind.wrap .i64 (IntKind.wrap .i64 (Int.tdiv n0 4)*2))) fun (n3:Int) =>
.lt (.int .i64) (IntKind.wrap .i64 (a+IntKind.wrap .i64 (IntKind.wrap .i64 (Int.tdiv n0 4)*3))) fun (n4:Int) =>
.bind 1 [.one (.int .i64)] (
.ite (decide (n0≥8)) (
.bind 2 [.one (.int .i64),.one (.int .i64),.one (.int .i64)] (
.ite (decide (n0≥50)) (
.call I.f_medj ([data.v,.int .i64 n2,.pointer (some a1)]++I.ex) (sI .i64) (u1 fun (n5:Int) =>
.lt (.int .i64) (n5) fun (n6:Int) =>
.call I.f_medj ([data.v,.int .i64 n3,.pointer (some a1)]++I.ex) (sI .i64) (u1 fun (n7:Int) =>
.lt (.int .i64) (n7) fun (n8:Int) =>
.call I.f_medj ([data.v,.int .i64 n4,.pointer (some a1)]++I.ex) (sI .i64) (u1 fun (n9:Int) =>
.lt (.int .i64) (n9) fun (n10:Int) =>
.done 2 [.int .i64 n6,.int .i64 n8,.int .i64 n10])))) (
.done 2 [.int .i64 n2,.int .i64 n3,.int .i64 n4])) (u3 fun (n11 n12 n13:Int) =>
.call I.f_med ([data.v,.int .i64 n11,.int .i64 n12,.int .i64 n13,.pointer (some a1)]++I.ex) (sI .i64) (u1 fun (n14:Int) =>
.lt (.int .i64) (n14) fun (n15:Int) =>
.done 1 [.int .i64 n15]))) (
.done 1 [.int .i64 n3])) (u1 fun (n16:Int) =>
.read True (ld I.ti a1) (sI .i64) (u1 fun (n17:Int) =>
.lt (.bool) (n17 == 0) fun b18 =>
.ite (b18) (
.lt (.int .i64) (n16) fun (n19:Int) =>
.done 0 [.int .i64 n19,.int .i64 1]) (
.lt (.bool) (n17 == 12) fun b20 =>
.ite (b20) (
.lt (.int .i64) (n16) fun (n21:Int) =>
.done 0 [.int .i64 n21,.int .i64 2]) (
.lt (.int .i64) (n16) fun (n22:Int) =>
.done 0 [.int .i64 n22,.int .i64 0])))))
def SortI.pdq (I:SortI) (data:Sl) (a b:Int) (limit:Int):Prog :=
.loop 1 [.one (.int .i64),.one (.int .i64),.one (.int .i64),.one .bool,.one .bool] (a,(b,(limit,(true,(true,()))))) (u5 fun (n0 n1 n2:Int) b3 b4 =>
.bind 2 [.one (.int .i64),.one (.int .i64),.one (.int .i64),.one .bool,.one .bool] (
.lt (.int .i64) (IntKind.wrap .i64 (n1-n0)) fun (n5:Int) =>
.ite (decide (n5≤12)) (
.call I.f_ins ([data.v,.int .i64 n0,.int .i64 n1]++I.ex) (.tup []) (u0 <|
.done 0 [])) (
.ite (n2 == 0) (
.call I.f_heap ([data.v,.int .i64 n0,.int .i64 n1]++I.ex) (.tup []) (u0 <|
.done 0 [])) (
.bind 3 [.one (.int .i64)] (
.ite (not b3) (
.call I.f_brk ([data.v,.int .i64 n0,.int .i64 n1]++I.ex) (.tup []) (u0 <|
.lt (.int .i64) (IntKind.wrap .i64 (n2-1)) fun (n6:Int) =>
.done 3 [.int .i64 n6])) (
.done 3 [.int .i64 n2])) (u1 fun (n7:Int) =>
.call I.f_piv ([data.v,.int .i64 n0,.int .i64 n1]++I.ex) (.tup [.one (.int .i64),.one (.int .i64)]) (u2 fun (n8 n9:Int) =>
.lt (.int .i64) (n8) fun (n10:Int) =>
.lt (.int .i64) (n9) fun (n11:Int) =>
.bind 3 [.one (.int .i64),.one (.int .i64)] (
.ite (n11 == 2) (
.call I.f_rev ([data.v,.int .i64 n0,.int .i64 n1]++I.ex) (.tup []) (u0 <|
.lt (.int .i64) (IntKind.wrap .i64 (IntKind.wrap .i64 (n1-1)-IntKind.wrap .i64 (n10-n0))) fun (n12:Int) =>
.done 3 [.int .i64 n12,.int .i64 1])) (
.done 3 [.int .i64 n10,.int .i64 n11])) (u2 fun (n13 n14:Int) =>
.bind 3 [] (
.ite (b3 && b4 && n14 == 1) (
.call I.f_pins ([data.v,.int .i64 n0,.int .i64 n1]++I.ex) sB (u1 fun b15 =>
.ite (b15) (
.done 0 []) (
.done 3 []))) (
.done 3 [])) (u0 <|
.bind 3 [.one .bool] (
.tick <|
.ex [.adr] (c1 fun a16=>decide (n0>0)=true→0≤IntKind.wrap .i64 (n0-1)∧IntKind.wrap .i64 (n0-1)<((data.len:Nat):Int)∧data.a=some a16) (u1 fun a17 =>
.read ((decide (n0>0)=true)) (ld I.T (Addr.add a17 (Int.toNat (IntKind.wrap .i64 (n0-1))*I.sz))) (.one I.s) (fun n18 =>
.ex [.adr] (c1 fun a19=>decide (n0>0)=true→0≤n13∧n13<((data.len:Nat):Int)∧data.a=some a19) (u1 fun a20 =>
.read ((decide (n0>0)=true)) (ld I.T (Addr.add a20 (Int.toNat n13*I.sz))) (.one I.s) (fun n21 =>
.ite (decide (n0>0)) (
I.less n18 n21 (fun b22 =>
.untick <|
.done 3 [.bool (not b22)])) (
.untick <|
.done 3 [.bool false])))))) (u1 fun b23 =>
.ite (b23) (
.call I.f_peq ([data.v,.int .i64 n0,.int .i64 n1,.int .i64 n13]++I.ex) (sI .i64) (u1 fun (n24:Int) =>
.lt (.int .i64) (n24) fun (n25:Int) =>
.lt (.int .i64) (n25) fun (n26:Int) =>
.done 2 [.int .i64 n26,.int .i64 n1,.int .i64 n7,.bool b3,.bool b4])) (
.call I.f_part ([data.v,.int .i64 n0,.int .i64 n1,.int .i64 n13]++I.ex) (.tup [.one (.int .i64),.one .bool]) (u2 fun (n27:Int) b28 =>
.lt (.int .i64) (n27) fun (n29:Int) =>
.lt (.bool) (b28) fun b30 =>
.lt (.bool) (b30) fun b31 =>
.lt (.int .i64) (IntKind.wrap .i64 (n29-n0)) fun (n32:Int) =>
.lt (.int .i64) (IntKind.wrap .i64 (n1-n29)) fun (n33:Int) =>
.lt (.int .i64) (IntKind.wrap .i64 (Int.tdiv n5 8)) fun (n34:Int) =>
.bind 3 [.one (.int .i64),.one (.int .i64),.one .bool] (
.ite (decide (n32<n33)) (
.lt (.bool) (decide (n32≥n34)) fun b35 =>
.call I.f_pdq ([data.v,.int .i64 n0,.int .i64 n29,.int .i64 n7]++I.ex) (.tup []) (u0 <|
.lt (.int .i64) (IntKind.wrap .i64 (n29+1)) fun (n36:Int) =>
.done 3 [.int .i64 n36,.int .i64 n1,.bool b35])) (
.lt (.bool) (decide (n33≥n34)) fun b37 =>
.call I.f_pdq ([data.v,.int .i64 (IntKind.wrap .i64 (n29+1)),.int .i64 n1,.int .i64 n7]++I.ex) (.tup []) (u0 <|
.lt (.int .i64) (n29) fun (n38:Int) =>
.done 3 [.int .i64 n0,.int .i64 n38,.bool b37]))) (u3 fun (n39 n40:Int) b41 =>
.done 2 [.int .i64 n39,.int .i64 n40,.int .i64 n7,.bool b41,.bool b31]))))))))))) (u5 fun (n42 n43 n44:Int) b45 b46 =>
.done 1 [.int .i64 n42,.int .i64 n43,.int .i64 n44,.bool b45,.bool b46]))
abbrev SortI.E (I:SortI):Type:=HL I.s.prims
abbrev SortI.enc (I:SortI) (x:I.E):List Value:=HL.vals I.s.prims x
abbrev SortI.arr (I:SortI) (d:Sl) (xs:List I.E):HP:=slc I.T I.sz d (xs.flatMap I.enc)
structure SortI.Ok (P:Program) (I:SortI) (lt:I.E→I.E→Bool):Prop where
 pos:0<I.sz
 enc:∀ x,(I.enc x).length=I.sz
 ld:∀ w A (x:I.E),At w A (I.enc x)→(ld I.T A).run P w=.ok ((Sh.one I.s).mk x) w
 size:sizeOf? P I.T=some I.sz
 cells:∀ x:I.E,((Sh.one I.s).mk x).cells.toList=I.enc x
 one:∀ (x:I.E),∀ u ∈ I.enc x,u.oneCell'=true
 less:∀ {x y:I.E} {k:Bool→Prog} {w:World} {l:List HP} {Q:Post},Sat w l→(∀ w',Sat w' l→(k (lt x y)).wp P tt w' Q)→(I.less x y k).wp P tt w Q
def swapL {α:Type} (xs:List α) (i j:Nat):List α:=match xs[i]?,xs[j]? with
 | some x,some y=>(xs.set i y).set j x
 | _,_=>xs
def ltAt {α:Type} (lt:α→α→Bool) (xs:List α) (i j:Nat):Bool:=match xs[i]?,xs[j]? with
 | some x,some y=>lt x y
 | _,_=>false
section
variable {P:Program} {I:SortI} {lt:I.E→I.E→Bool} {w:World} {l:List HP} {Q:Post} {d:Sl} {xs:List I.E}
theorem SortI.Ok.len (ok:I.Ok P lt) (hs:Sat w (I.arr d xs::l)):d.len=xs.length:=hs.rd.len ok.enc ok.pos
theorem wp_plain (ok:I.Ok P lt) {i j:Int} {k:Bool→Prog} (ni nj:Nat) (hi:i=ni) (hj:j=nj) (hil:ni<xs.length) (hjl:nj<xs.length) (hs:Sat w (I.arr d xs::l))
  (h:∀ w',Sat w' (I.arr d xs::l)→(k (ltAt lt xs ni nj)).wp P tt w' Q) :
  (Prog.tick <| .ex [.adr] (c1 fun a=>0≤i∧i<((d.len:Nat):Int)∧d.a=some a) (u1 fun a=>.read True (ld I.T (Addr.add a (Int.toNat i*I.sz))) (.one I.s) (fun x =>
   .ex [.adr] (c1 fun a=>0≤j∧j<((d.len:Nat):Int)∧d.a=some a) (u1 fun a=>.read True (ld I.T (Addr.add a (Int.toNat j*I.sz))) (.one I.s) (fun y =>
   I.less x y (fun b=>.untick (k b))))))).wp P tt w Q:=by
 subst hi hj
 have hl:=ok.len hs
 refine wp_tick fun w2 hw=>?_
 have hs:=hs.heap hw
 obtain ⟨a,ha,ea⟩:=hs.rd.el ok.enc (by omega)
 refine wp_ex (a,()) ⟨by omega,by omega,ha⟩ ?_
 refine wp_read xs[ni] (fun _=>ok.ld _ _ _ (ea ni hil)) ?_
 refine wp_ex (a,()) ⟨by omega,by omega,ha⟩ ?_
 refine wp_read xs[nj] (fun _=>ok.ld _ _ _ (ea nj hjl)) ?_
 refine ok.less hs fun w' hs=>?_
 have:=h w' hs
 simp only [ltAt,List.getElem?_eq_getElem hil,List.getElem?_eq_getElem hjl] at this
 exact this
theorem wp_gcmp (ok:I.Ok P lt) {e:Nat} {g:Bool} {i j:Int} {f:Bool→Bool} {k:Bool × Unit→Prog} (ni nj:Nat) (hi:g=true→i=ni∧ni<xs.length) (hj:g=true→j=nj∧nj<xs.length) (x0:I.E) (hs:Sat w (I.arr d xs::l))
  (h:∀ w',Sat w' (I.arr d xs::l)→(k (g && f (ltAt lt xs ni nj),())).wp P tt w' Q) :
  (Prog.bind e [.one .bool] (.tick <| .ex [.adr] (c1 fun a=>g=true→0≤i∧i<((d.len:Nat):Int)∧d.a=some a) (u1 fun a=>.read (g=true) (ld I.T (Addr.add a (Int.toNat i*I.sz))) (.one I.s) (fun x =>
   .ex [.adr] (c1 fun a=>g=true→0≤j∧j<((d.len:Nat):Int)∧d.a=some a) (u1 fun a=>.read (g=true) (ld I.T (Addr.add a (Int.toNat j*I.sz))) (.one I.s) (fun y =>
   .ite g (I.less x y (fun b=>.untick (.done e [.bool (f b)]))) (.untick (.done e [.bool false]))))))) k).wp P tt w Q:=by
 refine wp_mid (fun v w'=>v=(g && f (ltAt lt xs ni nj),())∧Sat w' (I.arr d xs::l)) ?_ (by rintro _ w' ⟨rfl,hs⟩;exact h w' hs)
 refine wp_tick fun w2 hw=>?_
 have hs:=hs.heap hw
 have hl:=ok.len hs
 cases hg:g with
 | false =>
  refine wp_ex (⟨0,0,none⟩,()) (fun h=>by cases h) ?_
  refine wp_read x0 (fun h=>by cases h) ?_
  refine wp_ex (⟨0,0,none⟩,()) (fun h=>by cases h) ?_
  refine wp_read x0 (fun h=>by cases h) ?_
  exact wp_ite_f rfl (wp_untick (wp_leave ⟨(false,()),rfl,rfl,hs⟩))
 | true =>
  obtain ⟨rfl,hil⟩:=hi hg
  obtain ⟨rfl,hjl⟩:=hj hg
  obtain ⟨a,ha,ea⟩:=hs.rd.el ok.enc (by omega)
  refine wp_ex (a,()) (fun _=>⟨by omega,by omega,ha⟩) ?_
  refine wp_read xs[ni] (fun _=>ok.ld _ _ _ (ea ni hil)) ?_
  refine wp_ex (a,()) (fun _=>⟨by omega,by omega,ha⟩) ?_
  refine wp_read xs[nj] (fun _=>ok.ld _ _ _ (ea nj hjl)) ?_
  refine wp_ite_t rfl ?_
  refine ok.less hs fun w' hs=>?_
  refine wp_untick (wp_leave ⟨(f (lt xs[ni] xs[nj]),()),rfl,?_,hs⟩)
  simp only [ltAt,List.getElem?_eq_getElem hil,List.getElem?_eq_getElem hjl,Bool.true_and]
theorem wp_swap (ok:I.Ok P lt) {e:Nat} {i j:Int} {k:Unit→Prog} (ni nj:Nat) (hi:i=ni) (hj:j=nj) (hil:ni<xs.length) (hjl:nj<xs.length) (hs:Sat w (I.arr d xs::l))
  (h:∀ w',Sat w' (I.arr d (swapL xs ni nj)::l)→(k ()).wp P tt w' Q) :
  (Prog.bind e [] (.tick <| .ex [.adr] (c1 fun a=>0≤j∧j<((d.len:Nat):Int)∧d.a=some a) (u1 fun a=>.read True (ld I.T (Addr.add a (Int.toNat j*I.sz))) (.one I.s) (fun x =>
   .ex [.adr] (c1 fun a=>0≤i∧i<((d.len:Nat):Int)∧d.a=some a) (u1 fun a=>.read True (ld I.T (Addr.add a (Int.toNat i*I.sz))) (.one I.s) (fun y =>
   .ex [.adr] (c1 fun a=>0≤i∧i<((d.len:Nat):Int)∧d.a=some a) (u1 fun a=>.actU (st I.T (Addr.add a (Int.toNat i*I.sz)) ((Sh.one I.s).mk x)) <|
   .ex [.adr] (c1 fun a=>0≤j∧j<((d.len:Nat):Int)∧d.a=some a) (u1 fun a=>.actU (st I.T (Addr.add a (Int.toNat j*I.sz)) ((Sh.one I.s).mk y)) <|
   .untick (.done e [])))))))) k).wp P tt w Q:=by
 subst hi hj
 refine wp_mid (fun v w'=>Sat w' (I.arr d (swapL xs ni nj)::l)) ?_ (by rintro _ w' hs;exact h w' hs)
 refine wp_tick fun w2 hw=>?_
 have hs:=hs.heap hw
 have hl:=ok.len hs
 obtain ⟨a,ha,ea⟩:=hs.rd.el ok.enc (by omega)
 refine wp_ex (a,()) ⟨by omega,by omega,ha⟩ ?_
 refine wp_read xs[nj] (fun _=>ok.ld _ _ _ (ea nj hjl)) ?_
 refine wp_ex (a,()) ⟨by omega,by omega,ha⟩ ?_
 refine wp_read xs[ni] (fun _=>ok.ld _ _ _ (ea ni hil)) ?_
 refine wp_ex (a,()) ⟨by omega,by omega,ha⟩ ?_
 refine wp_stE (enc:=I.enc) (i:=ni) (y:=xs[nj]) ok.enc hs ha hil (fun b o h=>by subst h;exact add_mk ..) ok.size (ok.cells _) (ok.one _) fun w' hs=>⟨trivial,?_⟩
 refine wp_ex (a,()) ⟨by omega,by omega,ha⟩ ?_
 refine wp_stE (enc:=I.enc) (i:=nj) (y:=xs[ni]) ok.enc hs ha (by simp;omega) (fun b o h=>by subst h;exact add_mk ..) ok.size (ok.cells _) (ok.one _) fun w' hs=>⟨trivial,?_⟩
 refine wp_untick (wp_leave ⟨(),rfl,?_⟩)
 simpa only [swapL,List.getElem?_eq_getElem hil,List.getElem?_eq_getElem hjl] using hs
end
inductive Sw {α:Type} (a b:Nat):List α→List α→Prop
 | refl (xs:List α):Sw a b xs xs
 | step {xs ys:List α} {i j:Nat} (h:Sw a b xs ys) (hi:a≤i) (hi':i<b) (hj:a≤j) (hj':j<b):Sw a b xs (swapL ys i j)
def tr (i j p:Nat):Nat:=if p=i then j else if p=j then i else p
structure LtOk {α:Type} (lt:α→α→Bool):Prop where
 asymm:∀ {x y},lt x y=true→lt y x=false
 trans:∀ {x y z},lt x y=false→lt y z=false→lt x z=false
section
variable {α:Type} {lt:α→α→Bool} {xs ys zs:List α} {a b:Nat}
theorem swapL_length (xs:List α) (i j:Nat):(swapL xs i j).length=xs.length:=by
 unfold swapL;split <;> simp
theorem swapL_get {i j:Nat} (hi:i<xs.length) (hj:j<xs.length) (p:Nat):(swapL xs i j)[p]? = xs[tr i j p]? := by
 simp only [swapL,List.getElem?_eq_getElem hi,List.getElem?_eq_getElem hj,tr]
 rw [List.getElem?_set]
 by_cases h1:p=i
 ·subst h1
  rw [if_pos rfl]
  by_cases h2:j=p
  ·subst h2;rw [if_pos rfl,if_pos (by simpa using hi),List.getElem?_eq_getElem hi]
  ·rw [if_neg h2,List.getElem?_set,if_pos rfl,if_pos hi,List.getElem?_eq_getElem hj]
 ·rw [if_neg h1]
  by_cases h2:j=p
  ·subst h2;rw [if_pos rfl,if_pos rfl,if_pos (by simpa using hj),List.getElem?_eq_getElem hi]
  ·rw [if_neg h2,if_neg (Ne.symm h2),List.getElem?_set,if_neg (Ne.symm h1)]
theorem ltAt_swap {i j:Nat} (hi:i<xs.length) (hj:j<xs.length) (p q:Nat):ltAt lt (swapL xs i j) p q=ltAt lt xs (tr i j p) (tr i j q):=by
 simp only [ltAt,swapL_get hi hj]
theorem LtOk.asymmAt (h:LtOk lt) {p q:Nat} (hl:ltAt lt xs p q=true):ltAt lt xs q p=false:=by
 unfold ltAt at *
 split at hl
 ·rename_i x y hx hy;rw [hx,hy];exact h.asymm hl
 ·cases hl
theorem LtOk.transAt (h:LtOk lt) {p q r:Nat} (hq:q<xs.length) (h1:ltAt lt xs p q=false) (h2:ltAt lt xs q r=false):ltAt lt xs p r=false:=by
 unfold ltAt at *
 rw [List.getElem?_eq_getElem hq] at h1 h2
 cases hp:xs[p]? with
 | none=>rfl
 | some x =>
  cases hr:xs[r]? with
  | none=>rfl
  | some z=>rw [hp] at h1;rw [hr] at h2;exact h.trans h1 h2
theorem LtOk.irrefl (h:LtOk lt) (p:Nat):ltAt lt xs p p=false:=by
 cases hc:ltAt lt xs p p with
 | false=>rfl
 | true=>have:=h.asymmAt hc;rw [hc] at this;cases this
theorem Sw.length (h:Sw a b xs ys):ys.length=xs.length:=by
 induction h with
 | refl=>rfl
 | step _ _ _ _ _ ih=>rw [swapL_length,ih]
theorem Sw.trans (h1:Sw a b xs ys) (h2:Sw a b ys zs):Sw a b xs zs:=by
 induction h2 with
 | refl=>exact h1
 | step _ hi hi' hj hj' ih=>exact .step ih hi hi' hj hj'
theorem Sw.mono {a' b':Nat} (h:Sw a b xs ys) (ha:a'≤a) (hb:b≤b'):Sw a' b' xs ys:=by
 induction h with
 | refl=>exact .refl _
 | step _ hi hi' hj hj' ih=>exact .step ih (by omega) (by omega) (by omega) (by omega)
theorem Sw.out (h:Sw a b xs ys) {k:Nat} (hk:k<a∨b≤k):ys[k]? = xs[k]? := by
 induction h with
 | refl=>rfl
 | @step ys' i j h1 hi hi' hj hj' ih =>
  rw [← ih]
  unfold swapL
  split
  ·rw [List.getElem?_set_ne (by omega),List.getElem?_set_ne (by omega)]
  ·rfl
theorem swapL_perm (xs:List α) (i j:Nat):(swapL xs i j).Perm xs:=by
 unfold swapL
 split
 ·rename_i x y hx hy
  obtain ⟨hi,rfl⟩:=List.getElem?_eq_some_iff.1 hx
  obtain ⟨hj,rfl⟩:=List.getElem?_eq_some_iff.1 hy
  exact List.set_set_perm hi hj
 ·exact .refl _
theorem Sw.perm (h:Sw a b xs ys):ys.Perm xs:=by
 induction h with
 | refl=>exact .refl _
 | step _ _ _ _ _ ih=>exact (swapL_perm _ _ _).trans ih
theorem Sw.all (h:Sw a b xs ys) (hb:b≤xs.length) {p:α→Prop} (hp:∀ k x,a≤k→k<b→xs[k]? = some x→p x):∀ k x,a≤k→k<b→ys[k]? = some x→p x:=by
 induction h with
 | refl=>exact hp
 | @step ys' i j h1 hi hi' hj hj' ih =>
  intro k x h2 h3 hx
  have hl:=h1.length
  rw [swapL_get (by omega) (by omega)] at hx
  unfold tr at hx
  split at hx
  ·exact ih j x hj hj' hx
  ·split at hx
   ·exact ih i x hi hi' hx
   ·exact ih k x h2 h3 hx
def SortedR (lt:α→α→Bool) (xs:List α) (a b:Nat):Prop:=∀ p q,a≤p→p<q→q<b→ltAt lt xs q p=false
end
section
variable {P:Program} {I:SortI} {lt:I.E→I.E→Bool} {w:World} {l:List HP} {Q:Post} {d:Sl} {xs:List I.E}
theorem ins_c (ok:I.Ok P lt) (lo:LtOk lt) (x0:I.E) (a b:Nat) (hab:a≤b) (hb:b≤xs.length) (h63:xs.length<4611686018427387904) (hs:Sat w (I.arr d xs::l)) :
  (I.ins d a b).wp P tt w fun e vs w'=>e=0∧vs=[]∧∃ ys,Sw a b xs ys∧SortedR lt ys a b∧Sat w' (I.arr d ys::l):=by
 unfold SortI.ins
 refine wp_lw (y:=((a+1:Nat):Int)) (by rw [w64 (by omega) (by omega)];rfl) ?_
 refine wp_mid (fun v w'=>∃ ys,Sw a b xs ys∧SortedR lt ys a b∧Sat w' (I.arr d ys::l)) ?_ (fun _ w' h=>⟨rfl,rfl,h⟩)
 refine wp_loop (fun n v w=>∃ (i:Nat) (ys:List I.E),v=((i:Int),())∧a+1≤i∧b+1-i=n∧(i≤b∨b<a+1)∧Sw a b xs ys∧SortedR lt ys a i∧Sat w (I.arr d ys::l)) (b+1-(a+1)) ?_ ?_
 ·exact ⟨a+1,xs,rfl,by omega,rfl,by omega,.refl _,fun p q h1 h2 h3=>by omega,hs⟩
 rintro n _ w ⟨i,ys,rfl,hi,hn,hib,hsw,hso,hs⟩
 have hyl:=hsw.length
 refine wp_ite (fun hc=>?_) fun hc=>?_
 ·have hc:(i:Int)<b:=of_decide_eq_true hc
  refine wp_mid (fun v w'=>∃ ys,Sw a b xs ys∧SortedR lt ys a (i+1)∧Sat w' (I.arr d ys::l)) ?_ ?_
  ·refine wp_lt ?_
   refine wp_mid (fun v w'=>∃ ys,Sw a b xs ys∧SortedR lt ys a (i+1)∧Sat w' (I.arr d ys::l)) ?_ (fun _ w' h=>wp_leave ⟨(),rfl,h⟩)
   refine wp_loop (fun n v w=>∃ (j:Nat) (ys:List I.E),v=((j:Int),())∧a≤j∧j≤i∧j=n∧Sw a b xs ys∧(∀ p q,a≤p→p<q→q≤i→q≠j→ltAt lt ys q p=false)∧Sat w (I.arr d ys::l)) i ?_ ?_
   ·exact ⟨i,ys,rfl,by omega,by omega,rfl,hsw,fun p q h1 h2 h3 h4=>hso p q h1 h2 (by omega),hs⟩
   rintro n _ w ⟨j,ys,rfl,hj,hji,rfl,hsw,hso,hs⟩
   have hyl:=hsw.length
   refine wp_gcmp ok (f:=id) j (j-1) (fun _=>⟨rfl,by omega⟩) (fun h=>?_) x0 hs fun w' hs=>?_
   ·have h:(j:Int)>a:=of_decide_eq_true h
    exact ⟨by rw [w64 (by omega) (by omega)];omega,by omega⟩
   refine wp_ite (fun hc2=>?_) fun hc2=>?_
   ·have hc2:(decide ((j:Int)>a) && ltAt lt ys j (j-1))=true:=hc2
    simp only [Bool.and_eq_true,decide_eq_true_eq] at hc2
    obtain ⟨h1,h2⟩:=hc2
    refine wp_swap ok j (j-1) rfl (by rw [w64 (by omega) (by omega)];omega) (by omega) (by omega) hs fun w' hs=>?_
    refine wp_lw (y:=((j-1:Nat):Int)) (by rw [w64 (by omega) (by omega)];omega) ?_
    refine wp_leave ⟨(((j-1:Nat):Int),()),j-1,by omega,rfl,j-1,_,rfl,by omega,by omega,rfl,.step hsw (by omega) (by omega) (by omega) (by omega),fun p q p1 p2 p3 p4=>?_,hs⟩
    rw [ltAt_swap (by omega) (by omega)]
    unfold tr
    by_cases q1:q=j
    ·subst q1
     rw [if_pos rfl]
     by_cases q2:p=q-1
     ·subst q2
      rw [if_neg (by omega),if_pos rfl]
      exact lo.asymmAt h2
     ·rw [if_neg (by omega),if_neg q2]
      exact hso p (q-1) p1 (by omega) (by omega) (by omega)
    ·rw [if_neg q1,if_neg p4]
     by_cases q2:p=j
     ·subst q2
      rw [if_pos rfl]
      exact hso (p-1) q (by omega) (by omega) p3 q1
     ·rw [if_neg q2]
      by_cases q3:p=j-1
      ·subst q3
       rw [if_pos rfl]
       exact hso j q (by omega) (by omega) p3 q1
      ·rw [if_neg q3];exact hso p q p1 p2 p3 q1
   ·have hc2:(decide ((j:Int)>a) && ltAt lt ys j (j-1))=false:=hc2
    refine wp_pass ?_
    refine wp_leave ⟨(),rfl,ys,hsw,fun p q p1 p2 p3=>?_,hs⟩
    by_cases hq:q=j
    ·subst hq
     rw [decide_eq_true (show (q:Int)>a by omega),Bool.true_and] at hc2
     by_cases hp:p=q-1
     ·subst hp;exact hc2
     ·exact lo.transAt (q:=q-1) (by omega) hc2 (hso p (q-1) p1 (by omega) (by omega) (by omega))
    ·exact hso p q p1 p2 (by omega) hq
  ·rintro _ w' ⟨zs,hsw,hso,hs⟩
   refine wp_lw (y:=((i+1:Nat):Int)) (by rw [w64 (by omega) (by omega)];rfl) ?_
   exact wp_leave ⟨(((i+1:Nat):Int),()),b+1-(i+1),by omega,rfl,i+1,zs,rfl,by omega,rfl,by omega,hsw,hso,hs⟩
 ·have hc:¬ (i:Int)<b:=of_decide_eq_false hc
  refine wp_pass ?_
  refine wp_leave ⟨(),rfl,ys,hsw,fun p q p1 p2 p3=>hso p q p1 p2 (by omega),hs⟩
end
structure SortI.Impl (P:Program) (I:SortI):Prop where
 sift:∀ {d:Sl} {lo hi first:Int} {w:World} {R:List Value→World→Prop},((I.sift d lo hi first).wp P tt w fun e vs w'=>e=0∧R vs w')→Ret P I.f_sift ([d.v,.int .i64 lo,.int .i64 hi,.int .i64 first]++I.ex).toArray w R
 ins:∀ {d:Sl} {a b:Int} {w:World} {R:List Value→World→Prop},((I.ins d a b).wp P tt w fun e vs w'=>e=0∧R vs w')→Ret P I.f_ins ([d.v,.int .i64 a,.int .i64 b]++I.ex).toArray w R
 heap:∀ {d:Sl} {a b:Int} {w:World} {R:List Value→World→Prop},((I.heap d a b).wp P tt w fun e vs w'=>e=0∧R vs w')→Ret P I.f_heap ([d.v,.int .i64 a,.int .i64 b]++I.ex).toArray w R
 brk:∀ {d:Sl} {a b:Int} {w:World} {R:List Value→World→Prop},((I.brk d a b).wp P tt w fun e vs w'=>e=0∧R vs w')→Ret P I.f_brk ([d.v,.int .i64 a,.int .i64 b]++I.ex).toArray w R
 rev:∀ {d:Sl} {a b:Int} {w:World} {R:List Value→World→Prop},((I.rev d a b).wp P tt w fun e vs w'=>e=0∧R vs w')→Ret P I.f_rev ([d.v,.int .i64 a,.int .i64 b]++I.ex).toArray w R
 pins:∀ {d:Sl} {a b:Int} {w:World} {R:List Value→World→Prop},((I.pins d a b).wp P tt w fun e vs w'=>e=0∧R vs w')→Ret P I.f_pins ([d.v,.int .i64 a,.int .i64 b]++I.ex).toArray w R
 peq:∀ {d:Sl} {a b p:Int} {w:World} {R:List Value→World→Prop},((I.peq d a b p).wp P tt w fun e vs w'=>e=0∧R vs w')→Ret P I.f_peq ([d.v,.int .i64 a,.int .i64 b,.int .i64 p]++I.ex).toArray w R
 part:∀ {d:Sl} {a b p:Int} {w:World} {R:List Value→World→Prop},((I.part d a b p).wp P tt w fun e vs w'=>e=0∧R vs w')→Ret P I.f_part ([d.v,.int .i64 a,.int .i64 b,.int .i64 p]++I.ex).toArray w R
 pdq:∀ {d:Sl} {a b p:Int} {w:World} {R:List Value→World→Prop},((I.pdq d a b p).wp P tt w fun e vs w'=>e=0∧R vs w')→Ret P I.f_pdq ([d.v,.int .i64 a,.int .i64 b,.int .i64 p]++I.ex).toArray w R
 piv:∀ {d:Sl} {a b:Int} {w:World} {R:List Value→World→Prop},((I.piv d a b).wp P tt w fun e vs w'=>e=0∧R vs w')→Ret P I.f_piv ([d.v,.int .i64 a,.int .i64 b]++I.ex).toArray w R
 ord2:∀ {d:Sl} {a b:Int} {s:Option Addr} {w:World} {R:List Value→World→Prop},((I.ord2 d a b s).wp P tt w fun e vs w'=>e=0∧R vs w')→Ret P I.f_ord2 ([d.v,.int .i64 a,.int .i64 b,.pointer s]++I.ex).toArray w R
 med:∀ {d:Sl} {a b c:Int} {s:Option Addr} {w:World} {R:List Value→World→Prop},((I.med d a b c s).wp P tt w fun e vs w'=>e=0∧R vs w')→Ret P I.f_med ([d.v,.int .i64 a,.int .i64 b,.int .i64 c,.pointer s]++I.ex).toArray w R
 medj:∀ {d:Sl} {a:Int} {s:Option Addr} {w:World} {R:List Value→World→Prop},((I.medj d a s).wp P tt w fun e vs w'=>e=0∧R vs w')→Ret P I.f_medj ([d.v,.int .i64 a,.pointer s]++I.ex).toArray w R
section
variable {P:Program} {I:SortI} {lt:I.E→I.E→Bool} {w:World} {l:List HP} {Q:Post} {d:Sl} {xs:List I.E}
theorem rev_c (ok:I.Ok P lt) (im:I.Impl P) (x0:I.E) (a b:Nat) (hab:a<b) (hb:b≤xs.length) (h63:xs.length<4611686018427387904) (hs:Sat w (I.arr d xs::l)) :
  Ret P I.f_rev ([d.v,.int .i64 a,.int .i64 b]++I.ex).toArray w fun vs w'=>vs=[]∧∃ ys,Sw a b xs ys∧Sat w' (I.arr d ys::l):=im.rev <| by
 unfold SortI.rev
 refine wp_lt ?_
 refine wp_lw (y:=((b-1:Nat):Int)) (by rw [w64 (by omega) (by omega)];omega) ?_
 refine wp_mid (fun v w'=>∃ ys,Sw a b xs ys∧Sat w' (I.arr d ys::l)) ?_ (fun _ w' h=>⟨rfl,rfl,h⟩)
 refine wp_loop (fun n v w=>∃ (i j:Nat) (ys:List I.E),v=((i:Int),(j:Int),())∧a≤i∧j<b∧i+j=a+b-1∧j=n∧Sw a b xs ys∧Sat w (I.arr d ys::l)) (b-1) ?_ ?_
 ·exact ⟨a,b-1,xs,rfl,by omega,by omega,by omega,rfl,.refl _,hs⟩
 rintro n _ w ⟨i,j,ys,rfl,hi,hj,hij,rfl,hsw,hs⟩
 have hyl:=hsw.length
 refine wp_ite (fun hc=>?_) fun hc=>?_
 ·have hc:(i:Int)<j:=of_decide_eq_true hc
  refine wp_swap ok i j rfl rfl (by omega) (by omega) hs fun w' hs=>?_
  refine wp_lw (y:=((i+1:Nat):Int)) (by rw [w64 (by omega) (by omega)];omega) ?_
  refine wp_lw (y:=((j-1:Nat):Int)) (by dsimp only;rw [w64 (by omega) (by omega)];omega) ?_
  exact wp_leave ⟨(((i+1:Nat):Int),((j-1:Nat):Int),()),j-1,by omega,rfl,i+1,j-1,_,rfl,by omega,by omega,by omega,rfl,.step hsw (by omega) (by omega) (by omega) (by omega),hs⟩
 ·refine wp_pass ?_
  exact wp_leave ⟨(),rfl,ys,hsw,hs⟩
def kid (p c:Nat):Prop:=c=2*p+1∨c=2*p+2
def HeapBut (lt:I.E→I.E→Bool) (ys:List I.E) (f lo hi r:Nat):Prop :=
 (∀ p c,lo≤p→kid p c→c<hi→p≠r→ltAt lt ys (f+p) (f+c)=false) ∧
 (∀ q c,lo≤q→kid q r→kid r c→c<hi→ltAt lt ys (f+q) (f+c)=false)
def Heap (lt:I.E→I.E→Bool) (ys:List I.E) (f lo hi:Nat):Prop:=∀ p c,lo≤p→kid p c→c<hi→ltAt lt ys (f+p) (f+c)=false
theorem heap_step (lo':LtOk lt) {ys:List I.E} {f lo hi r c:Nat} (hf:f+hi≤ys.length) (h:HeapBut lt ys f lo hi r) (hlr:lo≤r) (hc:kid r c) (hch:c<hi)
  (hbig:∀ c',kid r c'→c'<hi→ltAt lt ys (f+c) (f+c')=false) (hlt:ltAt lt ys (f+r) (f+c)=true):HeapBut lt (swapL ys (f+r) (f+c)) f lo hi c:=by
 have hrc:r<c:=by rcases hc with h|h <;> omega
 refine ⟨fun p k hp hk hkh hpc=>?_,fun q k hq hqc hck hkh=>?_⟩
 ·rw [ltAt_swap (by omega) (by omega)]
  unfold tr
  by_cases h1:p=r
  ·subst h1
   rw [if_pos rfl,if_neg (by rcases hk with h|h <;> omega)]
   by_cases h2:k=c
   ·subst h2;rw [if_pos rfl];exact lo'.asymmAt hlt
   ·rw [if_neg (by omega)];exact hbig k hk hkh
  ·rw [if_neg (show ¬ f+p=f+r by omega),if_neg (show ¬ f+p=f+c by omega)]
   by_cases h2:k=r
   ·subst h2
    rw [if_pos rfl]
    exact h.2 p c hp hk hc hch
   ·rw [if_neg (show ¬ f+k=f+r by omega)]
    by_cases h3:k=c
    ·exfalso;subst h3;rcases hk with h|h <;> rcases hc with h'|h' <;> omega
    ·rw [if_neg (show ¬ f+k=f+c by omega)];exact h.1 p k hp hk hkh h1
 ·have hqr:q=r:=by rcases hqc with h|h <;> rcases hc with h'|h' <;> omega
  subst hqr
  have hck':c<k:=by rcases hck with h|h <;> omega
  rw [ltAt_swap (by omega) (by omega)]
  unfold tr
  rw [if_pos rfl,if_neg (show ¬ f+k=f+q by omega),if_neg (show ¬ f+k=f+c by omega)]
  exact h.1 c k (by omega) hck hkh (by omega)
theorem sift_c (ok:I.Ok P lt) (im:I.Impl P) (lo':LtOk lt) (x0:I.E) (lo hi f:Nat) (hlo:lo≤hi) (hf:f+hi≤xs.length) (h63:xs.length<2305843009213693952) (hh:HeapBut lt xs f lo hi lo) (hs:Sat w (I.arr d xs::l)) :
  Ret P I.f_sift ([d.v,.int .i64 lo,.int .i64 hi,.int .i64 f]++I.ex).toArray w fun vs w'=>vs=[]∧∃ ys,Sw (f+lo) (f+hi) xs ys∧Heap lt ys f lo hi∧Sat w' (I.arr d ys::l):=im.sift <| by
 unfold SortI.sift
 refine wp_lt ?_
 refine wp_mid (fun v w'=>∃ ys,Sw (f+lo) (f+hi) xs ys∧Heap lt ys f lo hi∧Sat w' (I.arr d ys::l)) ?_ (fun _ w' h=>⟨rfl,rfl,h⟩)
 refine wp_loop (fun n v w=>∃ (r:Nat) (ys:List I.E),v=((r:Int),())∧lo≤r∧r≤hi∧hi-r=n∧Sw (f+lo) (f+hi) xs ys∧HeapBut lt ys f lo hi r∧Sat w (I.arr d ys::l)) (hi-lo) ?_ ?_
 ·exact ⟨lo,xs,rfl,by omega,hlo,rfl,.refl _,hh,hs⟩
 rintro n _ w ⟨r,ys,rfl,hr,hrh,hn,hsw,hh,hs⟩
 have hyl:=hsw.length
 refine wp_lw (y:=((2*r+1:Nat):Int)) (by rw [w64 (x:=2*(r:Int)) (by omega) (by omega),w64 (by omega) (by omega)];omega) ?_
 refine wp_ite (fun hc=>?_) fun hc=>?_
 ·have hc:((2*r+1:Nat):Int)≥hi:=of_decide_eq_true hc
  refine wp_pass ?_
  refine wp_leave ⟨(),rfl,ys,hsw,fun p c h1 h2 h3=>hh.1 p c h1 h2 h3 ?_,hs⟩
  rintro rfl
  rcases h2 with h|h <;> omega
 have hc:¬ ((2*r+1:Nat):Int)≥hi:=of_decide_eq_false hc
 have e1:IntKind.wrap .i64 (((2*r+1:Nat):Int)+1)=((2*r+2:Nat):Int):=by rw [w64 (by omega) (by omega)];omega
 have e2:IntKind.wrap .i64 ((f:Int)+((2*r+1:Nat):Int))=((f+(2*r+1):Nat):Int):=by rw [w64 (by omega) (by omega)];omega
 refine wp_gcmp ok (f:=id) (f+(2*r+1)) (f+(2*r+2)) (fun h=>⟨e2,by omega⟩) (fun h=>?_) x0 hs fun w' hs=>?_
 ·have h:IntKind.wrap .i64 (((2*r+1:Nat):Int)+1)<(hi:Int):=of_decide_eq_true h
  rw [e1] at h
  refine ⟨?_,by omega⟩
  rw [e2,w64 (by omega) (by omega)];omega
 have key:∃ c,(if decide (IntKind.wrap .i64 (((2*r+1:Nat):Int)+1)<(hi:Int)) && id (ltAt lt ys (f+(2*r+1)) (f+(2*r+2))) then ((2*r+2:Nat):Int) else ((2*r+1:Nat):Int))=((c:Nat):Int)∧kid r c∧c<hi∧∀ c',kid r c'→c'<hi→ltAt lt ys (f+c) (f+c')=false:=by
  rw [e1]
  by_cases h1:((2*r+2:Nat):Int)<hi
  ·cases h2:ltAt lt ys (f+(2*r+1)) (f+(2*r+2)) with
   | true =>
    refine ⟨2*r+2,by rw [decide_eq_true h1];rfl,.inr rfl,by omega,fun c' hk _=>?_⟩
    rcases hk with rfl|rfl
    ·exact lo'.asymmAt h2
    ·exact lo'.irrefl _
   | false =>
    refine ⟨2*r+1,by simp,.inl rfl,by omega,fun c' hk _=>?_⟩
    rcases hk with rfl|rfl
    ·exact lo'.irrefl _
    ·exact h2
  ·refine ⟨2*r+1,by rw [decide_eq_false h1];simp,.inl rfl,by omega,fun c' hk hc'=>?_⟩
   rcases hk with rfl|rfl
   ·exact lo'.irrefl _
   ·omega
 obtain ⟨c,hce,hck,hch,hbig⟩:=key
 have hrc:r<c:=by rcases hck with h|h <;> omega
 have hcb:c≤2*r+2:=by rcases hck with h|h <;> omega
 refine wp_mid (fun v w'=>v=((c:Int),())∧Sat w' (I.arr d ys::l)) ?_ ?_
 ·refine wp_ite (fun h=>?_) fun h=>?_
  ·have h:(decide (IntKind.wrap .i64 (((2*r+1:Nat):Int)+1)<(hi:Int)) && id (ltAt lt ys (f+(2*r+1)) (f+(2*r+2))))=true:=h
   rw [h,if_pos rfl] at hce
   exact wp_lw (e1.trans hce) (wp_leave ⟨((c:Int),()),rfl,rfl,hs⟩)
  ·have h:(decide (IntKind.wrap .i64 (((2*r+1:Nat):Int)+1)<(hi:Int)) && id (ltAt lt ys (f+(2*r+1)) (f+(2*r+2))))=false:=h
   rw [h,if_neg (by simp)] at hce
   rw [hce]
   exact wp_leave ⟨((c:Int),()),rfl,rfl,hs⟩
 rintro _ w ⟨rfl,hs⟩
 have e3:IntKind.wrap .i64 ((f:Int)+(r:Int))=((f+r:Nat):Int):=by rw [w64 (by omega) (by omega)];omega
 have e4:IntKind.wrap .i64 ((f:Int)+(c:Int))=((f+c:Nat):Int):=by rw [w64 (by omega) (by omega)];omega
 refine wp_plain ok (f+r) (f+c) e3 e4 (by omega) (by omega) hs fun w' hs=>?_
 refine wp_ite (fun h=>?_) fun h=>?_
 ·have h:(!ltAt lt ys (f+r) (f+c))=true:=h
  simp only [Bool.not_eq_true'] at h
  refine wp_pass ?_
  refine wp_pass ?_
  refine ⟨rfl,rfl,ys,hsw,fun p k h1 h2 h3=>?_,hs⟩
  by_cases hp:p=r
  ·subst hp;exact lo'.transAt (q:=f+c) (by omega) h (hbig k h2 h3)
  ·exact hh.1 p k h1 h2 h3 hp
 ·have h:(!ltAt lt ys (f+r) (f+c))=false:=h
  simp only [Bool.not_eq_false'] at h
  refine wp_swap ok (f+r) (f+c) e3 e4 (by omega) (by omega) hs fun w' hs=>?_
  refine wp_lt ?_
  exact wp_leave ⟨((c:Int),()),hi-c,by omega,rfl,c,_,rfl,by omega,by omega,rfl,.step hsw (by omega) (by omega) (by omega) (by omega),heap_step lo' (by omega) hh hr hck hch hbig h,hs⟩
theorem heap_of_but {ys:List I.E} {f lo hi:Nat} (h:Heap lt ys f (lo+1) hi):HeapBut lt ys f lo hi lo :=
 ⟨fun p c h1 h2 h3 h4=>h p c (by omega) h2 h3,fun q c h1 h2 h3 h4=>by rcases h2 with h|h <;> omega⟩
theorem heap_root (lo':LtOk lt) {ys:List I.E} {f hi:Nat} (hf:f+hi≤ys.length) (h:Heap lt ys f 0 hi):∀ k,k<hi→ltAt lt ys f (f+k)=false:=by
 intro k
 induction k using Nat.strongRecOn with
 | _ k ih =>
  intro hk
  by_cases h0:k=0
  ·subst h0;exact lo'.irrefl _
  ·have hp:kid ((k-1) / 2) k:=by unfold kid;omega
   have h1:=ih ((k-1) / 2) (by omega) (by omega)
   have h2:=h ((k-1) / 2) k (by omega) hp hk
   exact lo'.transAt (q:=f+(k-1) / 2) (by omega) h1 h2
theorem heap_c (ok:I.Ok P lt) (im:I.Impl P) (lo':LtOk lt) (x0:I.E) (a b:Nat) (hab:a≤b) (hb:b≤xs.length) (h63:xs.length<2305843009213693952) (hs:Sat w (I.arr d xs::l)) :
  Ret P I.f_heap ([d.v,.int .i64 a,.int .i64 b]++I.ex).toArray w fun vs w'=>vs=[]∧∃ ys,Sw a b xs ys∧SortedR lt ys a b∧Sat w' (I.arr d ys::l):=im.heap <| by
 unfold SortI.heap
 refine wp_lt ?_
 obtain ⟨n,rfl⟩:∃ n,b=a+n:=⟨b-a,by omega⟩
 refine wp_lw (y:=(n:Int)) (by rw [w64 (by omega) (by omega)];omega) ?_
 refine wp_lw (y:=if n=0 then 0 else (((n-1) / 2:Nat):Int)) ?_ ?_
 ·rw [w64 (x:=(n:Int)-1) (by omega) (by omega)]
  split
  ·rename_i h;subst h;decide
  ·rw [Int.tdiv_eq_ediv_of_nonneg (by omega),w64 (by omega) (by omega)];omega
 refine wp_mid (fun v w'=>∃ ys,Sw a (a+n) xs ys∧Heap lt ys a 0 n∧Sat w' (I.arr d ys::l)) ?_ ?_
 ·refine wp_loop (fun m v w=>∃ (i:Nat) (ys:List I.E),v=((i:Int)-1,())∧i=m∧i≤n+1∧Sw a (a+n) xs ys∧Heap lt ys a i n∧Sat w (I.arr d ys::l)) (if n=0 then 1 else (n-1) / 2+1) ?_ ?_
  ·refine ⟨_,xs,?_,rfl,?_,.refl _,fun p c h1 h2 h3=>?_,hs⟩
   ·split <;> simp
   ·split <;> omega
   ·exfalso
    split at h1 <;> rcases h2 with h|h <;> omega
  rintro m _ w ⟨i,ys,rfl,rfl,hi,hsw,hh,hs⟩
  have hyl:=hsw.length
  refine wp_ite (fun hc=>?_) fun hc=>?_
  ·have hc:(i:Int)-1≥0:=of_decide_eq_true hc
   obtain ⟨j,rfl⟩:∃ j,i=j+1:=⟨i-1,by omega⟩
   have e:((j+1:Nat):Int)-1=j:=by omega
   rw [e]
   refine wp_callS () (sift_c ok im lo' x0 j n a (by omega) (by omega) (by omega) (heap_of_but hh) hs) rfl fun w' h=>?_
   obtain ⟨zs,hz,hzh,hs⟩:=h
   refine ⟨trivial,?_⟩
   refine wp_lw (y:=(j:Int)-1) (w64 (by dsimp only;omega) (by dsimp only;omega)) ?_
   exact wp_leave ⟨((j:Int)-1,()),j,by omega,rfl,j,zs,rfl,rfl,by omega,hsw.trans (hz.mono (by omega) (by omega)),hzh,hs⟩
  ·have hc:¬ (i:Int)-1≥0:=of_decide_eq_false hc
   refine wp_pass ?_
   refine wp_leave ⟨(),rfl,ys,hsw,?_,hs⟩
   rwa [show i=0 by omega] at hh
 rintro _ w ⟨ys,hsw,hh,hs⟩
 refine wp_lw (y:=(n:Int)-1) (w64 (by omega) (by omega)) ?_
 refine wp_mid (fun v w'=>∃ ys,Sw a (a+n) xs ys∧SortedR lt ys a (a+n)∧Sat w' (I.arr d ys::l)) ?_ (fun _ w' h=>⟨rfl,rfl,h⟩)
 refine wp_loop (fun m v w=>∃ (i:Nat) (ys:List I.E),v=((i:Int)-1,())∧i=m∧i≤n∧Sw a (a+n) xs ys∧Heap lt ys a 0 i∧SortedR lt ys (a+i) (a+n)∧(∀ p q,p<i→i≤q→q<n→ltAt lt ys (a+q) (a+p)=false)∧Sat w (I.arr d ys::l)) n ?_ ?_
 ·exact ⟨n,ys,rfl,rfl,by omega,hsw,hh,fun p q h1 h2 h3=>by omega,fun p q h1 h2 h3=>by omega,hs⟩
 rintro m _ w ⟨i,ys,rfl,rfl,hi,hsw,hh,hso,hpq,hs⟩
 have hyl:=hsw.length
 refine wp_ite (fun hc=>?_) fun hc=>?_
 ·have hc:(i:Int)-1≥0:=of_decide_eq_true hc
  obtain ⟨j,rfl⟩:∃ j,i=j+1:=⟨i-1,by omega⟩
  have e:((j+1:Nat):Int)-1=j:=by omega
  rw [e]
  refine wp_swap ok a (a+j) rfl (by dsimp only;rw [w64 (by omega) (by omega)];omega) (by omega) (by omega) hs fun w' hs=>?_
  have hroot:=heap_root lo' (by omega) hh
  have hat:∀ p q,ltAt lt (swapL ys a (a+j)) p q=ltAt lt ys (tr a (a+j) p) (tr a (a+j) q):=fun p q=>ltAt_swap (by omega) (by omega) p q
  have hbut:HeapBut lt (swapL ys a (a+j)) a 0 j 0:=by
   refine ⟨fun p c h1 h2 h3 h4=>?_,fun q c h1 h2 h3 h4=>by rcases h2 with h|h <;> omega⟩
   rw [hat]
   unfold tr
   rw [if_neg (show ¬ a+p=a by omega),if_neg (show ¬ a+p=a+j by rcases h2 with h|h <;> omega),if_neg (show ¬ a+c=a by rcases h2 with h|h <;> omega),if_neg (show ¬ a+c=a+j by omega)]
   exact hh p c h1 h2 (by omega)
  have hso':SortedR lt (swapL ys a (a+j)) (a+j) (a+n):=fun p q h1 h2 h3=>by
   rw [hat]
   unfold tr
   rw [if_neg (show ¬ q=a by omega),if_neg (show ¬ q=a+j by omega)]
   by_cases hp:p=a+j
   ·subst hp
    by_cases hj:j=0
    ·subst hj
     simp only [Nat.add_zero,if_true]
     obtain ⟨q',rfl⟩:∃ q',q=a+q':=⟨q-a,by omega⟩
     exact hpq 0 q' (by omega) (by omega) (by omega)
    ·rw [if_neg (by omega),if_pos rfl]
     obtain ⟨q',rfl⟩:∃ q',q=a+q':=⟨q-a,by omega⟩
     exact hpq 0 q' (by omega) (by omega) (by omega)
   ·rw [if_neg (show ¬ p=a by omega),if_neg hp]
    exact hso p q (by omega) h2 h3
  have hpq':∀ p q,p<j→j≤q→q<n→ltAt lt (swapL ys a (a+j)) (a+q) (a+p)=false:=fun p q h1 h2 h3=>by
   have hp':∃ p',tr a (a+j) (a+p)=a+p'∧p'<j+1:=by
    unfold tr
    split
    ·exact ⟨j,rfl,by omega⟩
    ·exact ⟨p,by rw [if_neg (by omega)],by omega⟩
   obtain ⟨p',hp',hlt⟩:=hp'
   rw [hat,hp']
   unfold tr
   rw [if_neg (show ¬ a+q=a by omega)]
   by_cases hq:a+q=a+j
   ·rw [if_pos hq];exact hroot p' hlt
   ·rw [if_neg hq];exact hpq p' q hlt (by omega) h3
  refine wp_callS () (sift_c ok im lo' x0 0 j a (by omega) (by rw [swapL_length];omega) (by rw [swapL_length];omega) hbut hs) rfl fun w' h=>?_
  obtain ⟨zs,hz,hzh,hs⟩:=h
  refine ⟨trivial,?_⟩
  refine wp_lw (y:=(j:Int)-1) (w64 (by dsimp only;omega) (by dsimp only;omega)) ?_
  have hz1:Sw a (a+n) (swapL ys a (a+j)) zs:=hz.mono (by omega) (by omega)
  refine wp_leave ⟨((j:Int)-1,()),j,by omega,rfl,j,zs,rfl,rfl,by omega,(Sw.step hsw (by omega) (by omega) (by omega) (by omega)).trans hz1,hzh,fun p q h1 h2 h3=>?_,fun p q h1 h2 h3=>?_,hs⟩
  ·have hso':=hso' p q h1 h2 h3
   unfold ltAt at *
   rw [hz.out (by omega),hz.out (by omega)]
   exact hso'
  ·
   have hall:=Sw.all hz (by rw [swapL_length];omega) (p:=fun x=>∀ q y,j≤q→q<n→(swapL ys a (a+j))[a+q]? = some y→lt y x=false) (fun k x hk1 hk2 hx q y hq1 hq2 hy=>by
    obtain ⟨k',rfl⟩:∃ k',k=a+k':=⟨k-a,by omega⟩
    have:=hpq' k' q (by omega) hq1 hq2
    unfold ltAt at this
    rw [hx,hy] at this
    exact this)
   unfold ltAt
   cases hx:zs[a+p]? with
   | none=>split <;> simp_all
   | some x =>
    cases hy:zs[a+q]? with
    | none=>rfl
    | some y =>
     rw [hz.out (by omega)] at hy
     exact hall (a+p) x (by omega) (by omega) hx q y h2 h3 hy
 ·have hc:¬ (i:Int)-1≥0:=of_decide_eq_false hc
  refine wp_pass ?_
  refine wp_leave ⟨(),rfl,ys,hsw,?_,hs⟩
  have:i=0:=by omega
  subst this
  exact hso
end
section
variable {P:Program} {I:SortI} {lt:I.E→I.E→Bool} {w:World} {l:List HP} {Q:Post} {d:Sl} {xs:List I.E}
theorem scan_up1 (ok:I.Ok P lt) (x0:I.E) {e e1 e2:Nat} {f:Bool→Bool} (i j a:Nat) {K:Int × Unit→Prog} (h12:Nat.beq e e1=false:=by rfl) (hij:i≤j+1) (hj:j<xs.length) (ha:a<xs.length) (h63:xs.length<2305843009213693952) (hs:Sat w (I.arr d xs::l))
  (h:∀ (r:Nat) w',i≤r→r≤j+1→(∀ k,i≤k→k<r→f (ltAt lt xs k a)=true)→(r≤j→f (ltAt lt xs r a)=false)→Sat w' (I.arr d xs::l)→(K ((r:Int),())).wp P tt w' Q) :
  (Prog.bind e [.one (.int .i64)] (.loop e1 [.one (.int .i64)] ((i:Int),()) (u1 fun (n:Int)=>(.bind e2 [.one .bool] (.tick <| .ex [.adr] (c1 fun z=>decide (n≤(j:Int))=true→0≤n∧n<((d.len:Nat):Int)∧d.a=some z) (u1 fun a'=>.read (decide (n≤(j:Int))=true) (ld I.T (Addr.add a' (Int.toNat n*I.sz))) (.one I.s) (fun x =>
   .ex [.adr] (c1 fun z=>decide (n≤(j:Int))=true→0≤(a:Int)∧(a:Int)<((d.len:Nat):Int)∧d.a=some z) (u1 fun a'=>.read (decide (n≤(j:Int))=true) (ld I.T (Addr.add a' (Int.toNat (a:Int)*I.sz))) (.one I.s) (fun y =>
   .ite (decide (n≤(j:Int))) (I.less x y (fun b=>.untick (.done e2 [.bool (f b)]))) (.untick (.done e2 [.bool false]))))))) (u1 fun b=>.ite b (.lt (.int .i64) (IntKind.wrap .i64 (n+1)) fun n'=>.done e1 [.int .i64 n']) (.done e [.int .i64 n]))))) K).wp P tt w Q:=by
 refine wp_mid (fun v w'=>∃ r:Nat,v=((r:Int),())∧i≤r∧r≤j+1∧(∀ k,i≤k→k<r→f (ltAt lt xs k a)=true)∧(r≤j→f (ltAt lt xs r a)=false)∧Sat w' (I.arr d xs::l)) ?_ (by rintro _ w' ⟨r,rfl,h1,h2,h3,h4,hs⟩;exact h r w' h1 h2 h3 h4 hs)
 refine wp_loop (fun m v w=>∃ r:Nat,v=((r:Int),())∧i≤r∧r≤j+1∧j+1-r=m∧(∀ k,i≤k→k<r→f (ltAt lt xs k a)=true)∧Sat w (I.arr d xs::l)) (j+1-i) ⟨i,rfl,by omega,hij,rfl,fun k h1 h2=>by omega,hs⟩ ?_
 rintro m _ w ⟨r,rfl,h1,h2,h3,h4,hs⟩
 refine wp_gcmp ok (f:=f) r a (fun hg=>⟨rfl,by have hg:(r:Int)≤(j:Int):=of_decide_eq_true hg;omega⟩) (fun _=>⟨rfl,ha⟩) x0 hs fun w' hs=>?_
 refine wp_ite (fun hc=>?_) fun hc=>?_
 ·have hc:(decide ((r:Int)≤(j:Int)) && f (ltAt lt xs r a))=true:=hc
  simp only [Bool.and_eq_true,decide_eq_true_eq] at hc
  refine wp_lw (y:=((r+1:Nat):Int)) (by dsimp only;rw [w64 (by omega) (by omega)];omega) ?_
  refine wp_leave ⟨(((r+1:Nat):Int),()),j+1-(r+1),by omega,rfl,r+1,rfl,by omega,by omega,rfl,fun k k1 k2=>?_,hs⟩
  by_cases hk:k=r
  ·subst hk;exact hc.2
  ·exact h4 k (by omega) (by omega)
 ·have hc:(decide ((r:Int)≤(j:Int)) && f (ltAt lt xs r a))=false:=hc
  refine wp_pass ?_ h12
  refine wp_leave ⟨((r:Int),()),rfl,r,rfl,h1,h2,h4,fun hr=>?_,hs⟩
  rwa [decide_eq_true (show (r:Int)≤(j:Int) by omega),Bool.true_and] at hc
theorem scan_dn1 (ok:I.Ok P lt) (x0:I.E) {e e1 e2:Nat} {f:Bool→Bool} (i j a:Nat) {K:Int × Unit→Prog} (h12:Nat.beq e e1=false:=by rfl) (hij:i≤j+1) (hi1:1≤i) (hj:j<xs.length) (ha:a<xs.length) (h63:xs.length<2305843009213693952) (hs:Sat w (I.arr d xs::l))
  (h:∀ (r:Nat) w',i≤r+1→r≤j→(∀ k,r<k→k≤j→f (ltAt lt xs k a)=true)→(i≤r→f (ltAt lt xs r a)=false)→Sat w' (I.arr d xs::l)→(K ((r:Int),())).wp P tt w' Q) :
  (Prog.bind e [.one (.int .i64)] (.loop e1 [.one (.int .i64)] ((j:Int),()) (u1 fun (n:Int)=>(.bind e2 [.one .bool] (.tick <| .ex [.adr] (c1 fun z=>decide ((i:Int)≤n)=true→0≤n∧n<((d.len:Nat):Int)∧d.a=some z) (u1 fun a'=>.read (decide ((i:Int)≤n)=true) (ld I.T (Addr.add a' (Int.toNat n*I.sz))) (.one I.s) (fun x =>
   .ex [.adr] (c1 fun z=>decide ((i:Int)≤n)=true→0≤(a:Int)∧(a:Int)<((d.len:Nat):Int)∧d.a=some z) (u1 fun a'=>.read (decide ((i:Int)≤n)=true) (ld I.T (Addr.add a' (Int.toNat (a:Int)*I.sz))) (.one I.s) (fun y =>
   .ite (decide ((i:Int)≤n)) (I.less x y (fun b=>.untick (.done e2 [.bool (f b)]))) (.untick (.done e2 [.bool false]))))))) (u1 fun b=>.ite b (.lt (.int .i64) (IntKind.wrap .i64 (n-1)) fun n'=>.done e1 [.int .i64 n']) (.done e [.int .i64 n]))))) K).wp P tt w Q:=by
 refine wp_mid (fun v w'=>∃ r:Nat,v=((r:Int),())∧i≤r+1∧r≤j∧(∀ k,r<k→k≤j→f (ltAt lt xs k a)=true)∧(i≤r→f (ltAt lt xs r a)=false)∧Sat w' (I.arr d xs::l)) ?_ (by rintro _ w' ⟨r,rfl,h1,h2,h3,h4,hs⟩;exact h r w' h1 h2 h3 h4 hs)
 refine wp_loop (fun m v w=>∃ r:Nat,v=((r:Int),())∧i≤r+1∧r≤j∧r=m∧(∀ k,r<k→k≤j→f (ltAt lt xs k a)=true)∧Sat w (I.arr d xs::l)) j ⟨j,rfl,hij,by omega,rfl,fun k h1 h2=>by omega,hs⟩ ?_
 rintro m _ w ⟨r,rfl,h1,h2,h3,h4,hs⟩
 refine wp_gcmp ok (f:=f) r a (fun hg=>⟨rfl,by have hg:(i:Int)≤(r:Int):=of_decide_eq_true hg;omega⟩) (fun _=>⟨rfl,ha⟩) x0 hs fun w' hs=>?_
 refine wp_ite (fun hc=>?_) fun hc=>?_
 ·have hc:(decide ((i:Int)≤(r:Int)) && f (ltAt lt xs r a))=true:=hc
  simp only [Bool.and_eq_true,decide_eq_true_eq] at hc
  refine wp_lw (y:=((r-1:Nat):Int)) (by dsimp only;rw [w64 (by omega) (by omega)];omega) ?_
  refine wp_leave ⟨(((r-1:Nat):Int),()),r-1,by omega,rfl,r-1,rfl,by omega,by omega,rfl,fun k k1 k2=>?_,hs⟩
  by_cases hk:k=r
  ·subst hk;exact hc.2
  ·exact h4 k (by omega) (by omega)
 ·have hc:(decide ((i:Int)≤(r:Int)) && f (ltAt lt xs r a))=false:=hc
  refine wp_pass ?_ h12
  refine wp_leave ⟨((r:Int),()),rfl,r,rfl,h1,h2,h4,fun hr=>?_,hs⟩
  rwa [decide_eq_true (show (i:Int)≤(r:Int) by omega),Bool.true_and] at hc
theorem scan_up2 (ok:I.Ok P lt) (x0:I.E) {e e1 e2:Nat} {f:Bool→Bool} (i j a:Nat) {K:Int × Unit→Prog} (h12:Nat.beq e e1=false:=by rfl) (hij:i≤j+1) (hj:j<xs.length) (ha:a<xs.length) (h63:xs.length<2305843009213693952) (hs:Sat w (I.arr d xs::l))
  (h:∀ (r:Nat) w',i≤r→r≤j+1→(∀ k,i≤k→k<r→f (ltAt lt xs a k)=true)→(r≤j→f (ltAt lt xs a r)=false)→Sat w' (I.arr d xs::l)→(K ((r:Int),())).wp P tt w' Q) :
  (Prog.bind e [.one (.int .i64)] (.loop e1 [.one (.int .i64)] ((i:Int),()) (u1 fun (n:Int)=>(.bind e2 [.one .bool] (.tick <| .ex [.adr] (c1 fun z=>decide (n≤(j:Int))=true→0≤(a:Int)∧(a:Int)<((d.len:Nat):Int)∧d.a=some z) (u1 fun a'=>.read (decide (n≤(j:Int))=true) (ld I.T (Addr.add a' (Int.toNat (a:Int)*I.sz))) (.one I.s) (fun x =>
   .ex [.adr] (c1 fun z=>decide (n≤(j:Int))=true→0≤n∧n<((d.len:Nat):Int)∧d.a=some z) (u1 fun a'=>.read (decide (n≤(j:Int))=true) (ld I.T (Addr.add a' (Int.toNat n*I.sz))) (.one I.s) (fun y =>
   .ite (decide (n≤(j:Int))) (I.less x y (fun b=>.untick (.done e2 [.bool (f b)]))) (.untick (.done e2 [.bool false]))))))) (u1 fun b=>.ite b (.lt (.int .i64) (IntKind.wrap .i64 (n+1)) fun n'=>.done e1 [.int .i64 n']) (.done e [.int .i64 n]))))) K).wp P tt w Q:=by
 refine wp_mid (fun v w'=>∃ r:Nat,v=((r:Int),())∧i≤r∧r≤j+1∧(∀ k,i≤k→k<r→f (ltAt lt xs a k)=true)∧(r≤j→f (ltAt lt xs a r)=false)∧Sat w' (I.arr d xs::l)) ?_ (by rintro _ w' ⟨r,rfl,h1,h2,h3,h4,hs⟩;exact h r w' h1 h2 h3 h4 hs)
 refine wp_loop (fun m v w=>∃ r:Nat,v=((r:Int),())∧i≤r∧r≤j+1∧j+1-r=m∧(∀ k,i≤k→k<r→f (ltAt lt xs a k)=true)∧Sat w (I.arr d xs::l)) (j+1-i) ⟨i,rfl,by omega,hij,rfl,fun k h1 h2=>by omega,hs⟩ ?_
 rintro m _ w ⟨r,rfl,h1,h2,h3,h4,hs⟩
 refine wp_gcmp ok (f:=f) a r (fun _=>⟨rfl,ha⟩) (fun hg=>⟨rfl,by have hg:(r:Int)≤(j:Int):=of_decide_eq_true hg;omega⟩) x0 hs fun w' hs=>?_
 refine wp_ite (fun hc=>?_) fun hc=>?_
 ·have hc:(decide ((r:Int)≤(j:Int)) && f (ltAt lt xs a r))=true:=hc
  simp only [Bool.and_eq_true,decide_eq_true_eq] at hc
  refine wp_lw (y:=((r+1:Nat):Int)) (by dsimp only;rw [w64 (by omega) (by omega)];omega) ?_
  refine wp_leave ⟨(((r+1:Nat):Int),()),j+1-(r+1),by omega,rfl,r+1,rfl,by omega,by omega,rfl,fun k k1 k2=>?_,hs⟩
  by_cases hk:k=r
  ·subst hk;exact hc.2
  ·exact h4 k (by omega) (by omega)
 ·have hc:(decide ((r:Int)≤(j:Int)) && f (ltAt lt xs a r))=false:=hc
  refine wp_pass ?_ h12
  refine wp_leave ⟨((r:Int),()),rfl,r,rfl,h1,h2,h4,fun hr=>?_,hs⟩
  rwa [decide_eq_true (show (r:Int)≤(j:Int) by omega),Bool.true_and] at hc
theorem scan_dn2 (ok:I.Ok P lt) (x0:I.E) {e e1 e2:Nat} {f:Bool→Bool} (i j a:Nat) {K:Int × Unit→Prog} (h12:Nat.beq e e1=false:=by rfl) (hij:i≤j+1) (hi1:1≤i) (hj:j<xs.length) (ha:a<xs.length) (h63:xs.length<2305843009213693952) (hs:Sat w (I.arr d xs::l))
  (h:∀ (r:Nat) w',i≤r+1→r≤j→(∀ k,r<k→k≤j→f (ltAt lt xs a k)=true)→(i≤r→f (ltAt lt xs a r)=false)→Sat w' (I.arr d xs::l)→(K ((r:Int),())).wp P tt w' Q) :
  (Prog.bind e [.one (.int .i64)] (.loop e1 [.one (.int .i64)] ((j:Int),()) (u1 fun (n:Int)=>(.bind e2 [.one .bool] (.tick <| .ex [.adr] (c1 fun z=>decide ((i:Int)≤n)=true→0≤(a:Int)∧(a:Int)<((d.len:Nat):Int)∧d.a=some z) (u1 fun a'=>.read (decide ((i:Int)≤n)=true) (ld I.T (Addr.add a' (Int.toNat (a:Int)*I.sz))) (.one I.s) (fun x =>
   .ex [.adr] (c1 fun z=>decide ((i:Int)≤n)=true→0≤n∧n<((d.len:Nat):Int)∧d.a=some z) (u1 fun a'=>.read (decide ((i:Int)≤n)=true) (ld I.T (Addr.add a' (Int.toNat n*I.sz))) (.one I.s) (fun y =>
   .ite (decide ((i:Int)≤n)) (I.less x y (fun b=>.untick (.done e2 [.bool (f b)]))) (.untick (.done e2 [.bool false]))))))) (u1 fun b=>.ite b (.lt (.int .i64) (IntKind.wrap .i64 (n-1)) fun n'=>.done e1 [.int .i64 n']) (.done e [.int .i64 n]))))) K).wp P tt w Q:=by
 refine wp_mid (fun v w'=>∃ r:Nat,v=((r:Int),())∧i≤r+1∧r≤j∧(∀ k,r<k→k≤j→f (ltAt lt xs a k)=true)∧(i≤r→f (ltAt lt xs a r)=false)∧Sat w' (I.arr d xs::l)) ?_ (by rintro _ w' ⟨r,rfl,h1,h2,h3,h4,hs⟩;exact h r w' h1 h2 h3 h4 hs)
 refine wp_loop (fun m v w=>∃ r:Nat,v=((r:Int),())∧i≤r+1∧r≤j∧r=m∧(∀ k,r<k→k≤j→f (ltAt lt xs a k)=true)∧Sat w (I.arr d xs::l)) j ⟨j,rfl,hij,by omega,rfl,fun k h1 h2=>by omega,hs⟩ ?_
 rintro m _ w ⟨r,rfl,h1,h2,h3,h4,hs⟩
 refine wp_gcmp ok (f:=f) a r (fun _=>⟨rfl,ha⟩) (fun hg=>⟨rfl,by have hg:(i:Int)≤(r:Int):=of_decide_eq_true hg;omega⟩) x0 hs fun w' hs=>?_
 refine wp_ite (fun hc=>?_) fun hc=>?_
 ·have hc:(decide ((i:Int)≤(r:Int)) && f (ltAt lt xs a r))=true:=hc
  simp only [Bool.and_eq_true,decide_eq_true_eq] at hc
  refine wp_lw (y:=((r-1:Nat):Int)) (by dsimp only;rw [w64 (by omega) (by omega)];omega) ?_
  refine wp_leave ⟨(((r-1:Nat):Int),()),r-1,by omega,rfl,r-1,rfl,by omega,by omega,rfl,fun k k1 k2=>?_,hs⟩
  by_cases hk:k=r
  ·subst hk;exact hc.2
  ·exact h4 k (by omega) (by omega)
 ·have hc:(decide ((i:Int)≤(r:Int)) && f (ltAt lt xs a r))=false:=hc
  refine wp_pass ?_ h12
  refine wp_leave ⟨((r:Int),()),rfl,r,rfl,h1,h2,h4,fun hr=>?_,hs⟩
  rwa [decide_eq_true (show (i:Int)≤(r:Int) by omega),Bool.true_and] at hc
end
section
variable {P:Program} {I:SortI} {lt:I.E→I.E→Bool} {w:World} {l:List HP} {Q:Post} {d:Sl} {xs ys:List I.E}
def PartI (lt:I.E→I.E→Bool) (ys:List I.E) (a b i j:Nat):Prop :=
 a+1≤i∧i≤j+1∧j<b∧(∀ k,a+1≤k→k<i→ltAt lt ys k a=true)∧(∀ k,j<k→k<b→ltAt lt ys k a=false)
def PartP (lt:I.E→I.E→Bool) (ys:List I.E) (a b m:Nat):Prop :=
 a≤m∧m<b∧(∀ k,a≤k→k<m→ltAt lt ys k m=true)∧(∀ k,m<k→k<b→ltAt lt ys k m=false)
theorem part_step {a b i j:Nat} (hb:b≤ys.length) (h:PartI lt ys a b i j) (hij:i<j) (hi:ltAt lt ys i a=false) (hj:ltAt lt ys j a=true):PartI lt (swapL ys i j) a b (i+1) (j-1):=by
 obtain ⟨h1,h2,h3,h4,h5⟩:=h
 have ha:tr i j a=a:=by unfold tr;rw [if_neg (by omega),if_neg (by omega)]
 refine ⟨by omega,by omega,by omega,fun k k1 k2=>?_,fun k k1 k2=>?_⟩
 ·rw [ltAt_swap (by omega) (by omega),ha]
  unfold tr
  split
  ·exact hj
  ·rw [if_neg (by omega)];exact h4 k k1 (by omega)
 ·rw [ltAt_swap (by omega) (by omega),ha]
  unfold tr
  rw [if_neg (by omega)]
  split
  ·exact hi
  ·exact h5 k (by omega) k2
theorem part_end {a b i j:Nat} (hb:b≤ys.length) (h:PartI lt ys a b i j) (hij:j<i):PartP lt (swapL ys j a) a b j:=by
 obtain ⟨h1,h2,h3,h4,h5⟩:=h
 have hj:tr j a j=a:=by unfold tr;rw [if_pos rfl]
 refine ⟨by omega,h3,fun k k1 k2=>?_,fun k k1 k2=>?_⟩
 ·rw [ltAt_swap (by omega) (by omega),hj]
  unfold tr
  rw [if_neg (by omega)]
  split
  ·exact h4 j (by omega) (by omega)
  ·exact h4 k (by omega) (by omega)
 ·rw [ltAt_swap (by omega) (by omega),hj]
  unfold tr
  rw [if_neg (by omega),if_neg (by omega)]
  exact h5 k k1 k2
theorem part_c (ok:I.Ok P lt) (im:I.Impl P) (x0:I.E) (a b p:Nat) (hap:a≤p) (hpb:p<b) (hb:b≤xs.length) (h63:xs.length<2305843009213693952) (hs:Sat w (I.arr d xs::l)) :
  Ret P I.f_part ([d.v,.int .i64 a,.int .i64 b,.int .i64 p]++I.ex).toArray w fun vs w'=>∃ (m:Nat) (q:Bool) (ys:List I.E),vs=[.int .i64 m,.bool q]∧Sw a b xs ys∧PartP lt ys a b m∧Sat w' (I.arr d ys::l):=im.part <| by
 unfold SortI.part
 refine wp_swap ok a p rfl rfl (by omega) (by omega) hs fun w' hs=>?_
 have hsw:Sw a b xs (swapL xs a p):=.step (.refl _) (by omega) (by omega) (by omega) (by omega)
 generalize swapL xs a p=ys at *
 have hyl:=hsw.length
 refine wp_lw (y:=((a+1:Nat):Int)) (by rw [w64 (by omega) (by omega)];omega) ?_
 refine wp_lw (y:=((b-1:Nat):Int)) (by rw [w64 (by omega) (by omega)];omega) ?_
 refine scan_up1 ok x0 (f:=id) (a+1) (b-1) a rfl (by omega) (by omega) (by omega) (by omega) hs fun i w' i1 i2 i3 i4 hs=>?_
 refine scan_dn1 ok x0 (f:=not) i (b-1) a rfl (by omega) (by omega) (by omega) (by omega) (by omega) hs fun j w' j1 j2 j3 j4 hs=>?_
 have hI:PartI lt ys a b i j:=⟨i1,j1,by omega,i3,fun k k1 k2=>by simpa using j3 k k1 (by omega)⟩
 refine wp_ite (fun hc=>?_) fun hc=>?_
 ·have hc:(i:Int)>j:=of_decide_eq_true hc
  refine wp_swap ok j a rfl rfl (by omega) (by omega) hs fun w' hs=>?_
  refine wp_lt ?_
  exact ⟨rfl,j,true,_,rfl,.step hsw (by omega) (by omega) (by omega) (by omega),part_end (by omega) hI (by omega),hs⟩
 ·have hc:¬ (i:Int)>j:=of_decide_eq_false hc
  have hia:=i4 (by omega)
  have hja:ltAt lt ys j a=true:=by simpa using j4 (by omega)
  have hne:i≠j:=by rintro rfl;rw [id,hja] at hia;cases hia
  refine wp_swap ok i j rfl rfl (by omega) (by omega) hs fun w' hs=>?_
  have hI2:=part_step (by omega) hI (by omega) hia hja
  have hsw2:Sw a b xs (swapL ys i j):=.step hsw (by omega) (by omega) (by omega) (by omega)
  refine wp_lw (y:=((i+1:Nat):Int)) (by dsimp only;rw [w64 (by omega) (by omega)];omega) ?_
  refine wp_lw (y:=((j-1:Nat):Int)) (by dsimp only;rw [w64 (by omega) (by omega)];omega) ?_
  refine wp_mid (fun v w'=>∃ (i j:Nat) (ys:List I.E),v=((j:Int),())∧j<i∧PartI lt ys a b i j∧Sw a b xs ys∧Sat w' (I.arr d ys::l)) ?_ ?_
  ·refine wp_loop (fun n v w=>∃ (i j:Nat) (ys:List I.E),v=((i:Int),(j:Int),())∧PartI lt ys a b i j∧j=n∧Sw a b xs ys∧Sat w (I.arr d ys::l)) (j-1) ⟨i+1,j-1,_,rfl,hI2,rfl,hsw2,hs⟩ ?_
   clear hI hI2 hsw hsw2 hs i1 i2 i3 i4 j1 j2 j3 j4 hc hia hja hne hyl
   rintro n _ w ⟨i',j',ys,rfl,⟨h1,h2,h3,h4,h5⟩,rfl,hsw,hs⟩
   have hyl:=hsw.length
   refine wp_mid (fun v w'=>∃ (i j:Nat) (ys:List I.E),v=((i:Int),(j:Int),())∧PartI lt ys a b i j∧j<j'∧Sw a b xs ys∧Sat w' (I.arr d ys::l)) ?_ ?_
   ·refine scan_up1 ok x0 (f:=id) i' j' a rfl (by omega) (by omega) (by omega) (by omega) hs fun i w' i1 i2 i3 i4 hs=>?_
    refine scan_dn1 ok x0 (f:=not) i j' a rfl (by omega) (by omega) (by omega) (by omega) (by omega) hs fun j w' j1 j2 j3 j4 hs=>?_
    have hI:PartI lt ys a b i j:=⟨by omega,j1,by omega,fun k k1 k2=>if hk:k<i' then h4 k k1 hk else i3 k (by omega) k2,fun k k1 k2=>if hk:j'<k then h5 k hk k2 else by simpa using j3 k k1 (by omega)⟩
    refine wp_ite (fun hc=>?_) fun hc=>?_
    ·have hc:(i:Int)>j:=of_decide_eq_true hc
     refine wp_pass ?_
     refine wp_pass ?_
     exact wp_leave ⟨((j:Int),()),rfl,i,j,ys,rfl,by omega,hI,hsw,hs⟩
    ·have hc:¬ (i:Int)>j:=of_decide_eq_false hc
     have hia:=i4 (by omega)
     have hja:ltAt lt ys j a=true:=by simpa using j4 (by omega)
     have hne:i≠j:=by rintro rfl;rw [id,hja] at hia;cases hia
     refine wp_swap ok i j rfl rfl (by omega) (by omega) hs fun w' hs=>?_
     refine wp_lw (y:=((i+1:Nat):Int)) (by dsimp only;rw [w64 (by omega) (by omega)];omega) ?_
     refine wp_lw (y:=((j-1:Nat):Int)) (by dsimp only;rw [w64 (by omega) (by omega)];omega) ?_
     exact wp_leave ⟨(((i+1:Nat):Int),((j-1:Nat):Int),()),rfl,i+1,j-1,_,rfl,part_step (by omega) hI (by omega) hia hja,by omega,.step hsw (by omega) (by omega) (by omega) (by omega),hs⟩
   ·rintro _ w' ⟨i,j,ys,rfl,hI,hlt,hsw,hs⟩
    exact wp_leave ⟨((i:Int),(j:Int),()),j,hlt,rfl,i,j,ys,rfl,hI,rfl,hsw,hs⟩
  ·rintro _ w' ⟨i,j,ys,rfl,hij,hI,hsw,hs⟩
   have hyl:=hsw.length
   have hjb:=hI.2.2.1
   have h1:=hI.1
   have h2:=hI.2.1
   refine wp_swap ok j a rfl rfl (by omega) (by omega) hs fun w' hs=>?_
   refine wp_lt ?_
   exact ⟨rfl,j,false,_,rfl,.step hsw (by omega) (by omega) (by omega) (by omega),part_end (by omega) hI hij,hs⟩
def EqI (lt:I.E→I.E→Bool) (ys:List I.E) (a b i j:Nat):Prop :=
 a+1≤i∧i≤j+1∧j<b∧(∀ k,a+1≤k→k<i→ltAt lt ys a k=false)∧(∀ k,j<k→k<b→ltAt lt ys a k=true)
theorem eq_step {a b i j:Nat} (hb:b≤ys.length) (h:EqI lt ys a b i j) (hij:i<j) (hi:ltAt lt ys a i=true) (hj:ltAt lt ys a j=false):EqI lt (swapL ys i j) a b (i+1) (j-1):=by
 obtain ⟨h1,h2,h3,h4,h5⟩:=h
 have ha:tr i j a=a:=by unfold tr;rw [if_neg (by omega),if_neg (by omega)]
 refine ⟨by omega,by omega,by omega,fun k k1 k2=>?_,fun k k1 k2=>?_⟩
 ·rw [ltAt_swap (by omega) (by omega),ha]
  unfold tr
  split
  ·exact hj
  ·rw [if_neg (by omega)];exact h4 k k1 (by omega)
 ·rw [ltAt_swap (by omega) (by omega),ha]
  unfold tr
  rw [if_neg (by omega)]
  split
  ·exact hi
  ·exact h5 k (by omega) k2
theorem peq_c (ok:I.Ok P lt) (im:I.Impl P) (x0:I.E) (a b p:Nat) (hap:a≤p) (hpb:p<b) (hb:b≤xs.length) (h63:xs.length<2305843009213693952) (hs:Sat w (I.arr d xs::l)) :
  Ret P I.f_peq ([d.v,.int .i64 a,.int .i64 b,.int .i64 p]++I.ex).toArray w fun vs w'=>∃ (m:Nat) (ys:List I.E),vs=[.int .i64 m]∧Sw a b xs ys∧ys[a]? = xs[p]? ∧ a<m∧m≤b∧(∀ k,a+1≤k→k<m→ltAt lt ys a k=false)∧(∀ k,m≤k→k<b→ltAt lt ys a k=true)∧Sat w' (I.arr d ys::l):=im.peq <| by
 unfold SortI.peq
 refine wp_swap ok a p rfl rfl (by omega) (by omega) hs fun w' hs=>?_
 have hsw:Sw a b xs (swapL xs a p):=.step (.refl _) (by omega) (by omega) (by omega) (by omega)
 have hya:(swapL xs a p)[a]? = xs[p]? := by rw [swapL_get (by omega) (by omega)];unfold tr;rw [if_pos rfl]
 generalize swapL xs a p=ys at *
 have hyl:=hsw.length
 refine wp_lw (y:=((a+1:Nat):Int)) (by rw [w64 (by omega) (by omega)];omega) ?_
 refine wp_lw (y:=((b-1:Nat):Int)) (by rw [w64 (by omega) (by omega)];omega) ?_
 refine wp_mid (fun v w'=>∃ (i j:Nat) (ys:List I.E),v=((i:Int),())∧j<i∧EqI lt ys a b i j∧Sw a b xs ys∧ys[a]? = xs[p]? ∧ Sat w' (I.arr d ys::l)) ?_ ?_
 ·refine wp_loop (fun n v w=>∃ (i j:Nat) (ys:List I.E),v=((i:Int),(j:Int),())∧EqI lt ys a b i j∧j=n∧Sw a b xs ys∧ys[a]? = xs[p]? ∧ Sat w (I.arr d ys::l)) (b-1) ⟨a+1,b-1,_,rfl,⟨by omega,by omega,by omega,fun k k1 k2=>by omega,fun k k1 k2=>by omega⟩,rfl,hsw,hya,hs⟩ ?_
  clear hsw hs hya hyl
  rintro n _ w ⟨i',j',ys,rfl,⟨h1,h2,h3,h4,h5⟩,rfl,hsw,hya,hs⟩
  have hyl:=hsw.length
  refine wp_mid (fun v w'=>∃ (i j:Nat) (ys:List I.E),v=((i:Int),(j:Int),())∧EqI lt ys a b i j∧j<j'∧Sw a b xs ys∧ys[a]? = xs[p]? ∧ Sat w' (I.arr d ys::l)) ?_ ?_
  ·refine scan_up2 ok x0 (f:=not) i' j' a rfl (by omega) (by omega) (by omega) (by omega) hs fun i w' i1 i2 i3 i4 hs=>?_
   refine scan_dn2 ok x0 (f:=id) i j' a rfl (by omega) (by omega) (by omega) (by omega) (by omega) hs fun j w' j1 j2 j3 j4 hs=>?_
   have hI:EqI lt ys a b i j:=⟨by omega,j1,by omega,fun k k1 k2=>if hk:k<i' then h4 k k1 hk else by simpa using i3 k (by omega) k2,fun k k1 k2=>if hk:j'<k then h5 k hk k2 else j3 k k1 (by omega)⟩
   refine wp_ite (fun hc=>?_) fun hc=>?_
   ·have hc:(i:Int)>j:=of_decide_eq_true hc
    refine wp_pass ?_
    refine wp_pass ?_
    exact wp_leave ⟨((i:Int),()),rfl,i,j,ys,rfl,by omega,hI,hsw,hya,hs⟩
   ·have hc:¬ (i:Int)>j:=of_decide_eq_false hc
    have hia:ltAt lt ys a i=true:=by simpa using i4 (by omega)
    have hja:=j4 (by omega)
    have hne:i≠j:=by rintro rfl;rw [id,hia] at hja;cases hja
    refine wp_swap ok i j rfl rfl (by omega) (by omega) hs fun w' hs=>?_
    refine wp_lw (y:=((i+1:Nat):Int)) (by dsimp only;rw [w64 (by omega) (by omega)];omega) ?_
    refine wp_lw (y:=((j-1:Nat):Int)) (by dsimp only;rw [w64 (by omega) (by omega)];omega) ?_
    refine wp_leave ⟨(((i+1:Nat):Int),((j-1:Nat):Int),()),rfl,i+1,j-1,_,rfl,eq_step (by omega) hI (by omega) hia hja,by omega,.step hsw (by omega) (by omega) (by omega) (by omega),?_,hs⟩
    rw [swapL_get (by omega) (by omega)]
    unfold tr
    rw [if_neg (by omega),if_neg (by omega)]
    exact hya
  ·rintro _ w' ⟨i,j,ys,rfl,hI,hlt,hsw,hya,hs⟩
   exact wp_leave ⟨((i:Int),(j:Int),()),j,hlt,rfl,i,j,ys,rfl,hI,rfl,hsw,hya,hs⟩
 ·rintro _ w' ⟨i,j,ys,rfl,hij,⟨h1,h2,h3,h4,h5⟩,hsw,hya,hs⟩
  refine wp_lt ?_
  exact ⟨rfl,i,ys,rfl,hsw,hya,by omega,by omega,h4,fun k k1 k2=>h5 k (by omega) k2,hs⟩
end
section
variable {P:Program} {I:SortI} {lt:I.E→I.E→Bool} {w:World} {l:List HP} {Q:Post} {d:Sl} {xs ys:List I.E}
def Pre (lt:I.E→I.E→Bool) (xs:List I.E) (a b:Nat):Prop:=0<a→∀ k,a≤k→k<b→ltAt lt xs k (a-1)=false
theorem ltAt_false_iff {p q:Nat}:ltAt lt xs p q=false↔∀ x y,xs[p]? = some x→xs[q]? = some y→lt x y=false:=by
 unfold ltAt
 constructor
 ·intro h x y hx hy;rw [hx,hy] at h;exact h
 ·intro h
  split
  ·rename_i x y hx hy;exact h x y hx hy
  ·rfl
theorem Sw.outer {a b r:Nat} (h:Sw a b xs ys) (hb:b≤xs.length) (hr:r<a∨b≤r) (hk:∀ k,a≤k→k<b→ltAt lt xs k r=false):∀ k,a≤k→k<b→ltAt lt ys k r=false:=by
 intro k k1 k2
 rw [ltAt_false_iff]
 intro x y hx hy
 rw [h.out hr] at hy
 exact Sw.all h hb (p:=fun x=>lt x y=false) (fun k x k1 k2 hx=>ltAt_false_iff.1 (hk k k1 k2) x y hx hy) k x k1 k2 hx
theorem Sw.outer' {a b r:Nat} (h:Sw a b xs ys) (hb:b≤xs.length) (hr:r<a∨b≤r) (hk:∀ k,a≤k→k<b→ltAt lt xs r k=false):∀ k,a≤k→k<b→ltAt lt ys r k=false:=by
 intro k k1 k2
 rw [ltAt_false_iff]
 intro y x hy hx
 rw [h.out hr] at hy
 exact Sw.all h hb (p:=fun x=>lt y x=false) (fun k x k1 k2 hx=>ltAt_false_iff.1 (hk k k1 k2) y x hy hx) k x k1 k2 hx
theorem Pre.sw {a b:Nat} (h:Pre lt xs a b) (hb:b≤xs.length) (hs:Sw a b xs ys):Pre lt ys a b:=fun h0=>hs.outer hb (.inl (by omega)) (h h0)
theorem pins_c (ok : I.Ok P lt) (im : I.Impl P) (lo : LtOk lt) (x0 : I.E) (a b : Nat) (hab : a < b) (hb : b ≤ xs.length) (h63 : xs.length < 2305843009213693952) (hpre : Pre lt xs a b) (hs : Sat w (I.arr d xs :: l)) :
    Ret P I.f_pins ([d.v, .int .i64 a, .int .i64 b] ++ I.ex).toArray w fun vs w' => ∃ (q : Bool) (ys : List I.E), vs = [.bool q] ∧ Sw a b xs ys ∧ (q = true → SortedR lt ys a b) ∧ Sat w' (I.arr d ys :: l) := im.pins <| by
  unfold SortI.pins
  refine wp_lw (y := ((a + 1 : Nat) : Int)) (by rw [w64 (by omega) (by omega)]; omega) ?_
  refine wp_mid (fun v w' => ∃ ys, Sw a b xs ys ∧ Sat w' (I.arr d ys :: l)) ?_ (fun _ w' ⟨ys, hsw, hs⟩ => ⟨rfl, false, ys, rfl, hsw, (fun h => by cases h), hs⟩)
  refine wp_loop (fun n v w => ∃ (i c : Nat) (ys : List I.E), v = ((i : Int), (c : Int), ()) ∧ a + 1 ≤ i ∧ i ≤ b ∧ c ≤ 5 ∧ 5 - c = n ∧ Sw a b xs ys ∧ SortedR lt ys a i ∧ Sat w (I.arr d ys :: l)) 5 ⟨a + 1, 0, xs, rfl, by omega, by omega, by omega, rfl, .refl _, fun p q h1 h2 h3 => by omega, hs⟩ ?_
  rintro n _ w ⟨i, c, ys, rfl, hi, hib, hc5, hn, hsw, hso, hs⟩
  have hyl := hsw.length
  refine wp_ite (fun hc => ?_) fun hc => ?_
  · have hc : (c : Int) < 5 := of_decide_eq_true hc
    refine wp_mid (fun v w' => ∃ (i : Nat) (ys : List I.E), v = ((i : Int), ()) ∧ a + 1 ≤ i ∧ i ≤ b ∧ Sw a b xs ys ∧ SortedR lt ys a i ∧ Sat w' (I.arr d ys :: l)) ?_ ?_
    · refine wp_mid (fun v w' => ∃ (i : Nat), v = ((i : Int), ()) ∧ a + 1 ≤ i ∧ i ≤ b ∧ SortedR lt ys a i ∧ Sat w' (I.arr d ys :: l)) ?_ ?_
      · refine wp_loop (fun n v w => ∃ (i : Nat), v = ((i : Int), ()) ∧ a + 1 ≤ i ∧ i ≤ b ∧ b - i = n ∧ SortedR lt ys a i ∧ Sat w (I.arr d ys :: l)) (b - i) ⟨i, rfl, hi, hib, rfl, hso, hs⟩ ?_
        clear hs hso hib hi hn
        rintro n _ w ⟨i, rfl, hi, hib, hn, hso, hs⟩
        refine wp_gcmp ok (f := not) i (i - 1) (fun h => ⟨rfl, by have h : (i : Int) < b := of_decide_eq_true h; omega⟩) (fun h => ⟨by rw [w64 (by omega) (by omega)]; omega, by have h : (i : Int) < b := of_decide_eq_true h; omega⟩) x0 hs fun w' hs => ?_
        refine wp_ite (fun hc2 => ?_) fun hc2 => ?_
        · have hc2 : (decide ((i : Int) < b) && !ltAt lt ys i (i - 1)) = true := hc2
          simp only [Bool.and_eq_true, decide_eq_true_eq, Bool.not_eq_true'] at hc2
          refine wp_lw (y := ((i + 1 : Nat) : Int)) (by rw [w64 (by omega) (by omega)]; omega) ?_
          refine wp_leave ⟨(((i + 1 : Nat) : Int), ()), b - (i + 1), by omega, rfl, i + 1, rfl, by omega, by omega, rfl, fun p q h1 h2 h3 => ?_, hs⟩
          by_cases hq : q = i
          · subst hq
            by_cases hp : p = q - 1
            · subst hp; exact hc2.2
            · exact lo.transAt (q := q - 1) (by omega) hc2.2 (hso p (q - 1) h1 (by omega) (by omega))
          · exact hso p q h1 h2 (by omega)
        · refine wp_pass ?_
          exact wp_leave ⟨((i : Int), ()), rfl, i, rfl, hi, hib, hso, hs⟩
      · clear hs hso hib hi
        rintro _ w ⟨i, rfl, hi, hib, hso, hs⟩
        refine wp_ite (fun hc2 => ?_) fun hc2 => ?_
        · have hc2 : ((i : Int) == (b : Int)) = true := hc2
          have hc2 : i = b := by have : (i : Int) = b := by simpa using hc2
                                 omega
          subst hc2
          refine wp_pass ?_
          refine wp_pass ?_
          refine wp_pass ?_
          exact ⟨rfl, true, ys, rfl, hsw, fun _ => hso, hs⟩
        have hc2 : ((i : Int) == (b : Int)) = false := hc2
        have hc2 : i < b := by have : ¬ (i : Int) = b := by simpa using hc2
                               omega
        refine wp_ite (fun hc3 => ?_) fun hc3 => ?_
        · refine wp_pass ?_
          refine wp_pass ?_
          refine wp_pass ?_
          exact ⟨rfl, false, ys, rfl, hsw, (fun h => by cases h), hs⟩
        refine wp_swap ok i (i - 1) rfl (by dsimp only; rw [w64 (by omega) (by omega)]; omega) (by omega) (by omega) hs fun w' hs => ?_
        have hsw2 : Sw a b xs (swapL ys i (i - 1)) := .step hsw (by omega) (by omega) (by omega) (by omega)
        have hbut : ∀ p q, a ≤ p → p < q → q < i → q ≠ i - 1 → ltAt lt (swapL ys i (i - 1)) q p = false := fun p q h1 h2 h3 h4 => by
          rw [ltAt_swap (by omega) (by omega)]
          unfold tr
          rw [if_neg (by omega), if_neg (by omega), if_neg (by omega), if_neg (by omega)]
          exact hso p q h1 h2 (by omega)
        clear hso
        generalize swapL ys i (i - 1) = ys at *
        have hyl := hsw2.length
        refine wp_mid (fun v w' => ∃ ys, Sw a b xs ys ∧ SortedR lt ys a i ∧ Sat w' (I.arr d ys :: l)) ?_ ?_
        · refine wp_ite (fun hc4 => ?_) fun hc4 => ?_
          · refine wp_lw (y := ((i - 1 : Nat) : Int)) (by dsimp only; rw [w64 (by omega) (by omega)]; omega) ?_
            refine wp_mid (fun v w' => ∃ ys, Sw a b xs ys ∧ SortedR lt ys a i ∧ Sat w' (I.arr d ys :: l)) ?_ (fun _ w' h => wp_leave ⟨(), rfl, h⟩)
            refine wp_loop (fun n v w => ∃ (j : Nat) (ys : List I.E), v = ((j : Int), ()) ∧ a ≤ j ∧ j < i ∧ j = n ∧ Sw a b xs ys ∧ (∀ p q, a ≤ p → p < q → q < i → q ≠ j → ltAt lt ys q p = false) ∧ Sat w (I.arr d ys :: l)) (i - 1) ⟨i - 1, ys, rfl, by omega, by omega, rfl, hsw2, hbut, hs⟩ ?_
            clear hs hbut hyl hsw2 hsw
            rintro n _ w ⟨j, ys, rfl, hj, hji, rfl, hsw, hso, hs⟩
            have hyl := hsw.length
            refine wp_ite (fun hc5 => ?_) fun hc5 => ?_
            · have hc5 : (j : Int) ≥ 1 := of_decide_eq_true hc5
              refine wp_plain ok j (j - 1) rfl (by dsimp only; rw [w64 (by omega) (by omega)]; omega) (by omega) (by omega) hs fun w' hs => ?_
              refine wp_ite (fun hc6 => ?_) fun hc6 => ?_
              · have hc6 : (!ltAt lt ys j (j - 1)) = true := hc6
                simp only [Bool.not_eq_true'] at hc6
                refine wp_pass ?_
                refine wp_leave ⟨(), rfl, ys, hsw, fun p q h1 h2 h3 => ?_, hs⟩
                by_cases hq : q = j
                · subst hq
                  by_cases hp : p = q - 1
                  · subst hp; exact hc6
                  · exact lo.transAt (q := q - 1) (by omega) hc6 (hso p (q - 1) h1 (by omega) (by omega) (by omega))
                · exact hso p q h1 h2 h3 hq
              · have hc6 : (!ltAt lt ys j (j - 1)) = false := hc6
                simp only [Bool.not_eq_false'] at hc6
                have hja : a < j := by
                  rcases Nat.lt_or_ge a j with h | h
                  · exact h
                  · exfalso
                    have e : j = a := by omega
                    subst e
                    have := (hpre.sw hb hsw) (by omega) j (by omega) (by omega)
                    rw [this] at hc6; cases hc6
                refine wp_swap ok j (j - 1) rfl (by dsimp only; rw [w64 (by omega) (by omega)]; omega) (by omega) (by omega) hs fun w' hs => ?_
                refine wp_lw (y := ((j - 1 : Nat) : Int)) (by dsimp only; rw [w64 (by omega) (by omega)]; omega) ?_
                refine wp_leave ⟨(((j - 1 : Nat) : Int), ()), j - 1, by omega, rfl, j - 1, _, rfl, by omega, by omega, rfl, .step hsw (by omega) (by omega) (by omega) (by omega), fun p q p1 p2 p3 p4 => ?_, hs⟩
                rw [ltAt_swap (by omega) (by omega)]
                unfold tr
                by_cases q1 : q = j
                · subst q1
                  rw [if_pos rfl]
                  by_cases q2 : p = q - 1
                  · subst q2
                    rw [if_neg (by omega), if_pos rfl]
                    exact lo.asymmAt hc6
                  · rw [if_neg (by omega), if_neg q2]
                    exact hso p (q - 1) p1 (by omega) (by omega) (by omega)
                · rw [if_neg q1, if_neg p4]
                  by_cases q2 : p = j
                  · subst q2
                    rw [if_pos rfl]
                    exact hso (p - 1) q (by omega) (by omega) p3 q1
                  · rw [if_neg q2]
                    by_cases q3 : p = j - 1
                    · subst q3
                      rw [if_pos rfl]
                      exact hso j q (by omega) (by omega) p3 q1
                    · rw [if_neg q3]; exact hso p q p1 p2 p3 q1
            · have hc5 : ¬ (j : Int) ≥ 1 := of_decide_eq_false hc5
              refine wp_pass ?_
              exact wp_leave ⟨(), rfl, ys, hsw, fun p q h1 h2 h3 => hso p q h1 h2 h3 (by omega), hs⟩
          · have hc4 : ¬ IntKind.wrap .i64 ((i : Int) - a) ≥ 2 := of_decide_eq_false hc4
            rw [w64 (by omega) (by omega)] at hc4
            exact wp_leave ⟨(), rfl, ys, hsw2, fun p q h1 h2 h3 => by omega, hs⟩
        · clear hs hbut hyl hsw2 hsw
          rintro _ w ⟨ys, hsw, hso, hs⟩
          refine wp_mid (fun v w' => ∃ ys, Sw a b xs ys ∧ SortedR lt ys a i ∧ Sat w' (I.arr d ys :: l)) ?_ ?_
          · refine wp_ite (fun hc4 => ?_) fun hc4 => ?_
            · refine wp_lw (y := ((i + 1 : Nat) : Int)) (by dsimp only; rw [w64 (by omega) (by omega)]; omega) ?_
              refine wp_mid (fun v w' => ∃ ys, Sw a b xs ys ∧ SortedR lt ys a i ∧ Sat w' (I.arr d ys :: l)) ?_ (fun _ w' h => wp_leave ⟨(), rfl, h⟩)
              refine wp_loop (fun n v w => ∃ (j : Nat) (ys : List I.E), v = ((j : Int), ()) ∧ i + 1 ≤ j ∧ j ≤ b ∧ b - j = n ∧ Sw a b xs ys ∧ SortedR lt ys a i ∧ Sat w (I.arr d ys :: l)) (b - (i + 1)) ⟨i + 1, ys, rfl, by omega, by omega, rfl, hsw, hso, hs⟩ ?_
              clear hs hso hsw
              rintro n _ w ⟨j, ys, rfl, hj, hji, hn, hsw, hso, hs⟩
              have hyl := hsw.length
              refine wp_ite (fun hc5 => ?_) fun hc5 => ?_
              · have hc5 : (j : Int) < b := of_decide_eq_true hc5
                refine wp_plain ok j (j - 1) rfl (by dsimp only; rw [w64 (by omega) (by omega)]; omega) (by omega) (by omega) hs fun w' hs => ?_
                refine wp_ite (fun hc6 => ?_) fun hc6 => ?_
                · refine wp_pass ?_
                  exact wp_leave ⟨(), rfl, ys, hsw, hso, hs⟩
                · refine wp_swap ok j (j - 1) rfl (by dsimp only; rw [w64 (by omega) (by omega)]; omega) (by omega) (by omega) hs fun w' hs => ?_
                  refine wp_lw (y := ((j + 1 : Nat) : Int)) (by dsimp only; rw [w64 (by omega) (by omega)]; omega) ?_
                  refine wp_leave ⟨(((j + 1 : Nat) : Int), ()), b - (j + 1), by omega, rfl, j + 1, _, rfl, by omega, by omega, rfl, .step hsw (by omega) (by omega) (by omega) (by omega), fun p q p1 p2 p3 => ?_, hs⟩
                  rw [ltAt_swap (by omega) (by omega)]
                  unfold tr
                  rw [if_neg (by omega), if_neg (by omega), if_neg (by omega), if_neg (by omega)]
                  exact hso p q p1 p2 p3
              · refine wp_pass ?_
                exact wp_leave ⟨(), rfl, ys, hsw, hso, hs⟩
            · exact wp_leave ⟨(), rfl, ys, hsw, hso, hs⟩
          · clear hs hso hsw
            rintro _ w ⟨ys, hsw, hso, hs⟩
            exact wp_leave ⟨((i : Int), ()), rfl, i, ys, rfl, hi, hib, hsw, hso, hs⟩
    · clear hs hso hib hi hsw
      rintro _ w ⟨i, ys, rfl, hi, hib, hsw, hso, hs⟩
      refine wp_lw (y := ((c + 1 : Nat) : Int)) (by dsimp only; rw [w64 (by omega) (by omega)]; omega) ?_
      exact wp_leave ⟨((i : Int), ((c + 1 : Nat) : Int), ()), 5 - (c + 1), by omega, rfl, i, c + 1, ys, rfl, hi, hib, by omega, rfl, hsw, hso, hs⟩
  · refine wp_pass ?_
    exact wp_leave ⟨(), rfl, ys, hsw, hs⟩
end
structure SortI.Ok2 (P:Program) (I:SortI):Prop where
 one:One P I.ti
 zer:Zer P I.ti (.int .i64 0)
 xone:One P I.xs
 xzer:Zer P I.xs (.int .u64 0)
 next:∀ {b:Nat} {u:Int} {w:World} {l:List HP},Sat w (pt b (.cells #[.int .u64 u] I.xs)::l)→Ret P I.fNext #[.pointer (some ⟨b,0,none⟩)] w fun vs w'=>∃ v u',vs=[.int .u64 v]∧Sat w' (pt b (.cells #[.int .u64 u'] I.xs)::l)
 pow:∀ {n:Nat} {w:World} {l:List HP},8≤n→n<1152921504606846976→Sat w l→Ret P I.fPow #[.int .i64 n] w fun vs w'=>∃ m:Nat,vs=[.int .u64 m]∧1≤m∧m≤2*n∧Sat w' l
section
variable {P:Program} {I:SortI} {lt:I.E→I.E→Bool} {w:World} {l:List HP} {Q:Post} {d:Sl} {xs ys:List I.E}
abbrev SortI.ctr (I:SortI) (c:Nat) (n:Int):HP:=pt c (.cells #[.int .i64 n] I.ti)
theorem ord2_c (ok:I.Ok P lt) (im:I.Impl P) (ok2:I.Ok2 P) (a b c:Nat) (n:Int) (ha:a<xs.length) (hb:b<xs.length) (h63:xs.length<2305843009213693952) (hs:Sat w (I.arr d xs::I.ctr c n::l)) :
  Ret P I.f_ord2 ([d.v,.int .i64 a,.int .i64 b,.pointer (some ⟨c,0,none⟩)]++I.ex).toArray w fun vs w'=>∃ (x y:Nat) (n:Int),vs=[.int .i64 x,.int .i64 y]∧((x=a∧y=b)∨(x=b∧y=a))∧Sat w' (I.arr d xs::I.ctr c n::l):=im.ord2 <| by
 haveI:=ok2.one
 unfold SortI.ord2
 refine wp_plain ok b a rfl rfl hb ha hs fun w' hs=>?_
 refine wp_ite (fun hc=>?_) fun hc=>?_
 ·refine wp_ex (⟨c,0,none⟩,()) rfl ?_
  refine wp_ld (x:=n) hs rfl ?_
  refine wp_ex (⟨c,0,none⟩,()) rfl ?_
  refine wp_st1 hs rfl rfl rfl fun w' hs=>⟨trivial,?_⟩
  refine wp_lt (wp_lt ?_)
  exact ⟨rfl,b,a,_,rfl,.inr ⟨rfl,rfl⟩,(hs.focS d)⟩
 ·refine wp_lt (wp_lt ?_)
  exact ⟨rfl,a,b,n,rfl,.inl ⟨rfl,rfl⟩,hs⟩
theorem med_c (ok:I.Ok P lt) (im:I.Impl P) (ok2:I.Ok2 P) (a b e c:Nat) (n:Int) (ha:a<xs.length) (hb:b<xs.length) (he:e<xs.length) (h63:xs.length<2305843009213693952) (hs:Sat w (I.arr d xs::I.ctr c n::l)) :
  Ret P I.f_med ([d.v,.int .i64 a,.int .i64 b,.int .i64 e,.pointer (some ⟨c,0,none⟩)]++I.ex).toArray w fun vs w'=>∃ (x:Nat) (n:Int),vs=[.int .i64 x]∧(x=a∨x=b∨x=e)∧Sat w' (I.arr d xs::I.ctr c n::l):=im.med <| by
 unfold SortI.med
 refine wp_call (ord2_c ok im ok2 a b c n ha hb h63 hs) fun vs w' h=>?_
 obtain ⟨x,y,n,rfl,h1,hs⟩:=h
 refine ⟨((x:Int),(y:Int),()),rfl,trivial,wp_lt (wp_lt ?_)⟩
 refine wp_call (ord2_c ok im ok2 y e c n (by omega) he h63 hs) fun vs w' h=>?_
 obtain ⟨x2,y2,n,rfl,h2,hs⟩:=h
 refine ⟨((x2:Int),(y2:Int),()),rfl,trivial,wp_lt (wp_lt ?_)⟩
 refine wp_call (ord2_c ok im ok2 x x2 c n (by omega) (by omega) h63 hs) fun vs w' h=>?_
 obtain ⟨x3,y3,n,rfl,h3,hs⟩:=h
 refine ⟨((x3:Int),(y3:Int),()),rfl,trivial,wp_lt (wp_lt (wp_lt ?_))⟩
 exact ⟨rfl,y3,n,rfl,by omega,hs⟩
theorem medj_c (ok:I.Ok P lt) (im:I.Impl P) (ok2:I.Ok2 P) (a c:Nat) (n:Int) (h0:1≤a) (ha:a+1<xs.length) (h63:xs.length<2305843009213693952) (hs:Sat w (I.arr d xs::I.ctr c n::l)) :
  Ret P I.f_medj ([d.v,.int .i64 a,.pointer (some ⟨c,0,none⟩)]++I.ex).toArray w fun vs w'=>∃ (x:Nat) (n:Int),vs=[.int .i64 x]∧a-1≤x∧x≤a+1∧Sat w' (I.arr d xs::I.ctr c n::l):=im.medj <| by
 unfold SortI.medj
 have e1:IntKind.wrap .i64 ((a:Int)-1)=((a-1:Nat):Int):=by rw [w64 (by omega) (by omega)];omega
 have e2:IntKind.wrap .i64 ((a:Int)+1)=((a+1:Nat):Int):=by rw [w64 (by omega) (by omega)];omega
 rw [e1,e2]
 refine wp_call (med_c ok im ok2 (a-1) a (a+1) c n (by omega) (by omega) (by omega) h63 hs) fun vs w' h=>?_
 obtain ⟨x,n,rfl,h1,hs⟩:=h
 refine ⟨((x:Int),()),rfl,trivial,wp_lt ?_⟩
 exact ⟨rfl,x,n,rfl,by omega,by omega,hs⟩
theorem piv_c (ok:I.Ok P lt) (im:I.Impl P) (ok2:I.Ok2 P) (a b:Nat) (hab:a+8≤b) (hb:b≤xs.length) (h63:xs.length<1152921504606846976) (hs:Sat w (I.arr d xs::l)) :
  Ret P I.f_piv ([d.v,.int .i64 a,.int .i64 b]++I.ex).toArray w fun vs w'=>∃ (x:Nat) (h:Int),vs=[.int .i64 x,.int .i64 h]∧a≤x∧x<b∧Sat w' (I.arr d xs::l):=im.piv <| by
 haveI:=ok2.one
 haveI:=ok2.zer
 unfold SortI.piv
 obtain ⟨n,rfl⟩:∃ n,b=a+n:=⟨b-a,by omega⟩
 refine wp_lw (y:=(n:Int)) (by rw [w64 (by omega) (by omega)];omega) ?_
 refine wp_newZ hs fun c w' hs=>⟨trivial,?_⟩
 have hs:Sat w' (I.arr d xs::I.ctr c 0::l):=hs.focS d
 have e4:Int.tdiv (n:Int) 4=((n / 4:Nat):Int):=by rw [Int.tdiv_eq_ediv_of_nonneg (by omega)];omega
 have e0:IntKind.wrap .i64 (Int.tdiv (n:Int) 4)=((n / 4:Nat):Int):=by rw [e4,w64 (by omega) (by omega)]
 refine wp_lw (y:=((a+n / 4:Nat):Int)) (by rw [e0,w64 (x:=_*_) (by omega) (by omega),w64 (by omega) (by omega)];omega) ?_
 refine wp_lw (y:=((a+n / 4*2:Nat):Int)) (by rw [e0,w64 (x:=_*_) (by omega) (by omega),w64 (by omega) (by omega)];omega) ?_
 refine wp_lw (y:=((a+n / 4*3:Nat):Int)) (by rw [e0,w64 (x:=_*_) (by omega) (by omega),w64 (by omega) (by omega)];omega) ?_
 refine wp_mid (fun v w'=>∃ (x:Nat) (m:Int),v=((x:Int),())∧a≤x∧x<a+n∧Sat w' (I.arr d xs::I.ctr c m::l)) ?_ ?_
 ·refine wp_ite (fun hc=>?_) fun hc=>?_
  ·refine wp_mid (fun v w'=>∃ (x y z:Nat) (m:Int),v=((x:Int),(y:Int),(z:Int),())∧a≤x∧x<a+n∧a≤y∧y<a+n∧a≤z∧z<a+n∧Sat w' (I.arr d xs::I.ctr c m::l)) ?_ ?_
   ·refine wp_ite (fun hc=>?_) fun hc=>?_
    ·have hc:(n:Int)≥50:=of_decide_eq_true hc
     refine wp_call (medj_c ok im ok2 (a+n / 4) c _ (by omega) (by omega) (by omega) hs) fun vs w' h=>?_
     obtain ⟨x,m,rfl,h1,h2,hs⟩:=h
     refine ⟨((x:Int),()),rfl,trivial,wp_lt ?_⟩
     refine wp_call (medj_c ok im ok2 (a+n / 4*2) c _ (by omega) (by omega) (by omega) hs) fun vs w' h=>?_
     obtain ⟨y,m,rfl,h3,h4,hs⟩:=h
     refine ⟨((y:Int),()),rfl,trivial,wp_lt ?_⟩
     refine wp_call (medj_c ok im ok2 (a+n / 4*3) c _ (by omega) (by omega) (by omega) hs) fun vs w' h=>?_
     obtain ⟨z,m,rfl,h5,h6,hs⟩:=h
     refine ⟨((z:Int),()),rfl,trivial,wp_lt ?_⟩
     exact wp_leave ⟨((x:Int),(y:Int),(z:Int),()),rfl,x,y,z,m,rfl,by omega,by omega,by omega,by omega,by omega,by omega,hs⟩
    ·exact wp_leave ⟨(((a+n / 4:Nat):Int),((a+n / 4*2:Nat):Int),((a+n / 4*3:Nat):Int),()),rfl,a+n / 4,a+n / 4*2,a+n / 4*3,_,rfl,by omega,by omega,by omega,by omega,by omega,by omega,hs⟩
   ·rintro _ w' ⟨x,y,z,m,rfl,h1,h2,h3,h4,h5,h6,hs⟩
    refine wp_call (med_c ok im ok2 x y z c m (by omega) (by omega) (by omega) (by omega) hs) fun vs w' h=>?_
    obtain ⟨r,m,rfl,h7,hs⟩:=h
    refine ⟨((r:Int),()),rfl,trivial,wp_lt ?_⟩
    exact wp_leave ⟨((r:Int),()),rfl,r,m,rfl,by omega,by omega,hs⟩
  ·exact wp_leave ⟨(((a+n / 4*2:Nat):Int),()),rfl,a+n / 4*2,_,rfl,by omega,by omega,hs⟩
 ·rintro _ w' ⟨x,m,rfl,h1,h2,hs⟩
  refine wp_ld (x:=m) hs rfl ?_
  refine wp_lt ?_
  refine wp_ite (fun hc=>?_) fun hc=>?_
  ·exact wp_lt ⟨rfl,x,_,rfl,h1,h2,(hs.focB c).tail⟩
  ·refine wp_lt ?_
   refine wp_ite (fun hc=>?_) fun hc=>?_
   ·exact wp_lt ⟨rfl,x,_,rfl,h1,h2,(hs.focB c).tail⟩
   ·exact wp_lt ⟨rfl,x,_,rfl,h1,h2,(hs.focB c).tail⟩
theorem and_lt {x:Int} {m:Nat} (hm:1≤m) (hm2:m≤2305843009213693952):IntKind.wrap .i64 (IntKind.wrap .u64 (((BitVec.toNat (BitVec.ofInt 64 x &&& BitVec.ofInt 64 (IntKind.wrap .u64 ((m:Int)-1))):Nat):Int)))=(((BitVec.toNat (BitVec.ofInt 64 x &&& BitVec.ofInt 64 (IntKind.wrap .u64 ((m:Int)-1))):Nat):Int)) ∧
  (BitVec.toNat (BitVec.ofInt 64 x &&& BitVec.ofInt 64 (IntKind.wrap .u64 ((m:Int)-1))))<m:=by
 have hu:∀ z:Int,IntKind.wrap .u64 z=z % 18446744073709551616:=fun z=>by simp [IntKind.wrap,IntKind.bits,IntKind.signed]
 have h1:IntKind.wrap .u64 ((m:Int)-1)=((m-1:Nat):Int):=by rw [hu];omega
 rw [h1]
 have h2:(BitVec.toNat (BitVec.ofInt 64 x &&& BitVec.ofInt 64 ((m-1:Nat):Int)))<m:=by
  rw [BitVec.toNat_and]
  have:(BitVec.ofInt 64 ((m-1:Nat):Int)).toNat=m-1:=by rw [BitVec.toNat_ofInt];omega
  rw [this]
  have:=Nat.and_le_right (n:=(BitVec.ofInt 64 x).toNat) (m:=m-1)
  omega
 refine ⟨?_,h2⟩
 generalize (BitVec.toNat (BitVec.ofInt 64 x &&& BitVec.ofInt 64 ((m-1:Nat):Int)))=r at *
 rw [hu,w64 (by omega) (by omega)];omega
theorem brk_c (ok:I.Ok P lt) (im:I.Impl P) (ok2:I.Ok2 P) (a b:Nat) (hab:a≤b) (hb:b≤xs.length) (h63:xs.length<576460752303423488) (hs:Sat w (I.arr d xs::l)) :
  Ret P I.f_brk ([d.v,.int .i64 a,.int .i64 b]++I.ex).toArray w fun vs w'=>vs=[]∧∃ ys,Sw a b xs ys∧Sat w' (I.arr d ys::l):=im.brk <| by
 haveI:=ok2.xone
 haveI:=ok2.xzer
 unfold SortI.brk
 obtain ⟨n,rfl⟩:∃ n,b=a+n:=⟨b-a,by omega⟩
 refine wp_lw (y:=(n:Int)) (by rw [w64 (by omega) (by omega)];omega) ?_
 refine wp_mid (fun v w'=>∃ ys,Sw a (a+n) xs ys∧Sat w' (I.arr d ys::l)) ?_ (fun _ w' h=>⟨rfl,rfl,h⟩)
 refine wp_ite (fun hc=>?_) fun hc=>?_
 ·have hc:(n:Int)≥8:=of_decide_eq_true hc
  refine wp_newZ hs fun c w' hs=>⟨trivial,?_⟩
  refine wp_st1 hs rfl rfl rfl fun w' hs=>⟨trivial,?_⟩
  refine wp_call (ok2.pow (n:=n) (by omega) (by omega) hs) fun vs w' h=>?_
  obtain ⟨m,rfl,hm1,hm2,hs⟩:=h
  refine ⟨((m:Int),()),rfl,trivial,wp_lt ?_⟩
  have e4:Int.tdiv (n:Int) 4=((n / 4:Nat):Int):=by rw [Int.tdiv_eq_ediv_of_nonneg (by omega)];omega
  have e0:IntKind.wrap .i64 ((a:Int)+IntKind.wrap .i64 (IntKind.wrap .i64 (Int.tdiv n 4)*2))=((a+n / 4*2:Nat):Int):=by
   rw [e4,w64 (x:=((n / 4:Nat):Int)) (by omega) (by omega),w64 (x:=_*_) (by omega) (by omega),w64 (by omega) (by omega)];omega
  rw [e0]
  refine wp_lw (y:=((a+n / 4*2-1:Nat):Int)) (by rw [w64 (by omega) (by omega)];omega) ?_
  have e1:IntKind.wrap .i64 (((a+n / 4*2:Nat):Int)+1)=((a+n / 4*2+1:Nat):Int):=by rw [w64 (by omega) (by omega)];omega
  rw [e1]
  refine wp_mid (fun v w'=>∃ ys,Sw a (a+n) xs ys∧Sat w' (I.arr d ys::l)) ?_ (fun _ w' h=>wp_leave ⟨(),rfl,h⟩)
  have hs:∃ u,Sat w' (pt c (.cells #[.int .u64 u] I.xs)::I.arr d xs::l):=⟨_,hs⟩
  obtain ⟨u,hs⟩:=hs
  refine wp_loop (fun k v w=>∃ (i:Nat) (u:Int) (ys:List I.E),v=((i:Int),())∧a+n / 4*2-1≤i∧i≤a+n / 4*2+2∧a+n / 4*2+2-i=k∧Sw a (a+n) xs ys∧Sat w (pt c (.cells #[.int .u64 u] I.xs)::I.arr d ys::l)) 3 ⟨a+n / 4*2-1,u,xs,rfl,by omega,by omega,by omega,.refl _,hs⟩ ?_
  clear hs
  rintro k _ w ⟨i,u,ys,rfl,hi1,hi2,hk,hsw,hs⟩
  have hyl:=hsw.length
  refine wp_ite (fun hc2=>?_) fun hc2=>?_
  ·have hc2:(i:Int)≤((a+n / 4*2+1:Nat):Int):=of_decide_eq_true hc2
   refine wp_call (ok2.next hs) fun vs w' h=>?_
   obtain ⟨v,u',rfl,hs⟩:=h
   refine ⟨(v,()),rfl,trivial,?_⟩
   obtain ⟨ea,el⟩:=and_lt (x:=v) hm1 (by omega)
   refine wp_lw ea ?_
   generalize BitVec.toNat (BitVec.ofInt 64 v &&& BitVec.ofInt 64 (IntKind.wrap .u64 ((m:Int)-1)))=r at *
   refine wp_mid (fun v w'=>∃ q:Nat,v=((q:Int),())∧q<n∧Sat w' (pt c (.cells #[.int .u64 u'] I.xs)::I.arr d ys::l)) ?_ ?_
   ·refine wp_ite (fun hc3=>?_) fun hc3=>?_
    ·have hc3:(r:Int)≥n:=of_decide_eq_true hc3
     refine wp_lw (y:=((r-n:Nat):Int)) (by rw [w64 (by omega) (by omega)];omega) ?_
     exact wp_leave ⟨(((r-n:Nat):Int),()),rfl,r-n,rfl,by omega,hs⟩
    ·have hc3:¬ (r:Int)≥n:=of_decide_eq_false hc3
     exact wp_leave ⟨((r:Int),()),rfl,r,rfl,by omega,hs⟩
   ·rintro _ w' ⟨q,rfl,hq,hs⟩
    have hs:=hs.focS d
    refine wp_swap ok i (a+q) rfl (by dsimp only;rw [w64 (by omega) (by omega)];omega) (by omega) (by omega) hs fun w' hs=>?_
    refine wp_lw (y:=((i+1:Nat):Int)) (by dsimp only;rw [w64 (by omega) (by omega)];omega) ?_
    exact wp_leave ⟨(((i+1:Nat):Int),()),a+n / 4*2+2-(i+1),by omega,rfl,i+1,u',_,rfl,by omega,by omega,rfl,.step hsw (by omega) (by omega) (by omega) (by omega),hs.focB c⟩
  ·refine wp_pass ?_
   exact wp_leave ⟨(),rfl,ys,hsw,(hs.focS d).perm (List.Perm.swap _ _ _) |>.tail⟩
 ·exact wp_leave ⟨(),rfl,xs,.refl _,hs⟩
end
section
variable {P:Program} {I:SortI} {lt:I.E→I.E→Bool} {w:World} {l:List HP} {Q:Post} {d:Sl} {xs ys zs us:List I.E}
theorem ltAt_out {a b p q:Nat} (h:Sw a b xs ys) (hp:p<a∨b≤p) (hq:q<a∨b≤q):ltAt lt ys p q=ltAt lt xs p q:=by
 unfold ltAt;rw [h.out hp,h.out hq]
theorem SortedR.out {a b c e:Nat} (h:SortedR lt xs c e) (hs:Sw a b xs ys) (hd:e≤a∨b≤c):SortedR lt ys c e:=fun p q h1 h2 h3=>by
 rw [ltAt_out hs (by omega) (by omega)];exact h p q h1 h2 h3
def PartQ (lt:I.E→I.E→Bool) (vs:List I.E) (a b m:Nat):Prop:=(∀ k,a≤k→k<m→ltAt lt vs m k=false)∧(∀ k,m<k→k<b→ltAt lt vs k m=false)
theorem PartQ.left {a b m:Nat} (h:PartQ lt xs a b m) (hm:m≤xs.length) (hs:Sw a m xs ys):PartQ lt ys a b m :=
 ⟨hs.outer' hm (.inr (by omega)) h.1,fun k h1 h2=>by rw [ltAt_out hs (by omega) (by omega)];exact h.2 k h1 h2⟩
theorem PartQ.right {a b m:Nat} (h:PartQ lt xs a b m) (hb:b≤xs.length) (hs:Sw (m+1) b xs ys):PartQ lt ys a b m :=
 ⟨fun k h1 h2=>by rw [ltAt_out hs (by omega) (by omega)];exact h.1 k h1 h2,fun k h1 h2=>hs.outer hb (.inl (by omega)) (fun k k1 k2=>h.2 k (by omega) k2) k (by omega) h2⟩
theorem sorted_parts (lo:LtOk lt) {a b m:Nat} (hm:m<xs.length) (h:PartQ lt xs a b m) (h1:SortedR lt xs a m) (h2:SortedR lt xs (m+1) b):SortedR lt xs a b:=by
 intro p q hp hpq hq
 by_cases c1:q<m
 ·exact h1 p q hp hpq c1
 by_cases c2:m<p
 ·exact h2 p q (by omega) hpq hq
 by_cases c3:q=m
 ·subst c3;exact h.1 p hp hpq
 by_cases c4:p=m
 ·subst c4;exact h.2 q hpq hq
 exact lo.transAt hm (h.2 q (by omega) hq) (h.1 p hp (by omega))
structure Stand (lt:I.E→I.E→Bool) (xs:List I.E) (a b:Nat) (ys:List I.E) (c e:Nat):Prop where
 h1:a≤c
 h2:c≤e
 h3:e≤b
 sw:Sw a b xs ys
 pre:Pre lt ys c e
 fin:∀ zs,Sw c e ys zs→SortedR lt zs c e→SortedR lt zs a b
theorem Stand.step {a b c e:Nat} (h:Stand lt xs a b ys c e) (hb:b≤xs.length) (hs:Sw c e ys zs):Stand lt xs a b zs c e :=
 ⟨h.h1,h.h2,h.h3,h.sw.trans (hs.mono h.h1 h.h3),h.pre.sw (by rw [h.sw.length];have:=h.h3;omega) hs,fun us h1 h2=>h.fin us (hs.trans h1) h2⟩
theorem Stand.end {a b c e:Nat} (h:Stand lt xs a b ys c e) (hs:Sw c e ys zs) (hso:SortedR lt zs c e):Sw a b xs zs∧SortedR lt zs a b :=
 ⟨h.sw.trans (hs.mono h.h1 h.h3),h.fin zs hs hso⟩
theorem Stand.equals (lo:LtOk lt) {a b c e p m:Nat} (h:Stand lt xs a b ys c e) (hb:b≤xs.length) (hc:0<c) (hp:ltAt lt ys (c-1) p=false) (hs:Sw c e ys zs) (he:zs[c]? = ys[p]?) (h1:c<m) (h2:m≤e)
  (h3:∀ k,c+1≤k→k<m→ltAt lt zs c k=false) (h4:∀ k,m≤k→k<e→ltAt lt zs c k=true):Stand lt xs a b zs m e:=by
 have hst:=h.step hb hs
 obtain ⟨g1,g2,g3,gsw,gpre,gfin⟩:=hst
 have hl:=gsw.length
 have h3':∀ k,c≤k→k<m→ltAt lt zs c k=false:=fun k k1 k2=>if hk:k=c then by subst hk;exact lo.irrefl _ else h3 k (by omega) k2
 have h4':∀ k,m≤k→k<e→ltAt lt zs k c=false:=fun k k1 k2=>lo.asymmAt (h4 k k1 k2)
 have hcc:ltAt lt zs (c-1) c=false:=by
  unfold ltAt at *
  rw [hs.out (k:=c-1) (by omega),he];exact hp
 have hkp:∀ k p,m≤k→k<e→c≤p→p<m→ltAt lt zs k p=false:=fun k p k1 k2 p1 p2=>lo.transAt (q:=c) (by omega) (h4' k k1 k2) (h3' p p1 p2)
 refine ⟨by omega,h2,g3,gsw,fun _ k k1 k2=>hkp k (m-1) k1 k2 (by omega) (by omega),fun us hu hso=>gfin us (hu.mono (by omega) (Nat.le_refl _)) fun p q p1 p2 p3=>?_⟩
 by_cases c1:q<m
 ·rw [ltAt_out hu (by omega) (by omega)]
  exact lo.transAt (q:=c-1) (by omega) (gpre hc q (by omega) (by omega)) (lo.transAt (q:=c) (by omega) hcc (h3' p p1 (by omega)))
 by_cases c2:p<m
 ·exact hu.outer (by omega) (.inl c2) (fun k k1 k2=>hkp k p k1 k2 p1 c2) q (by omega) p3
 ·exact hso p q (by omega) p2 p3
theorem pdq_c (ok:I.Ok P lt) (im:I.Impl P) (ok2:I.Ok2 P) (lo:LtOk lt) (x0:I.E):∀ (N a b:Nat) (lim:Int) {w:World} {l:List HP} {d:Sl} {xs:List I.E},b-a≤N→a≤b→b≤xs.length→xs.length<576460752303423488→Pre lt xs a b→Sat w (I.arr d xs::l) →
  Ret P I.f_pdq ([d.v,.int .i64 a,.int .i64 b,.int .i64 lim]++I.ex).toArray w fun vs w'=>vs=[]∧∃ ys,Sw a b xs ys∧SortedR lt ys a b∧Sat w' (I.arr d ys::l):=by
 intro N
 induction N using Nat.strongRecOn with
 | _ N ih =>
 intro a b lim w l d xs hN hab hb h63 hpre hs
 refine im.pdq ?_
 unfold SortI.pdq
 refine wp_loop (fun n v w=>∃ (c e:Nat) (lim:Int) (wb wp:Bool) (ys:List I.E),v=((c:Int),(e:Int),lim,wb,wp,())∧e-c=n∧Stand lt xs a b ys c e∧Sat w (I.arr d ys::l)) (b-a) ⟨a,b,lim,true,true,xs,rfl,rfl,⟨by omega,hab,by omega,.refl _,hpre,fun _ _ h=>h⟩,hs⟩ ?_
 clear hs
 rintro n _ w ⟨c,e,lim,wb,wp,ys,rfl,hn,hst,hs⟩
 have hce:=hst.h2
 have heb:=hst.h3
 have hac:=hst.h1
 have hyl:=hst.sw.length
 refine wp_mid (fun v w'=>∃ (c' e':Nat) (lim:Int) (wb wp:Bool) (ys:List I.E),v=((c':Int),(e':Int),lim,wb,wp,())∧e'-c'<e-c∧Stand lt xs a b ys c' e'∧Sat w' (I.arr d ys::l)) ?_ (by
  rintro _ w' ⟨c',e',lim,wb,wp,ys,rfl,hlt,hst,hs⟩
  exact wp_leave ⟨((c':Int),(e':Int),lim,wb,wp,()),e'-c',by omega,rfl,c',e',lim,wb,wp,ys,rfl,rfl,hst,hs⟩)
 refine wp_lw (y:=((e-c:Nat):Int)) (by dsimp only;rw [w64 (by omega) (by omega)];omega) ?_
 refine wp_ite (fun hc=>?_) fun hc=>?_
 ·refine wp_call (im.ins (ins_c ok lo x0 c e hce (by omega) (by omega) hs)) fun vs w' h=>?_
  obtain ⟨rfl,zs,hsw,hso,hs⟩:=h
  refine ⟨(),rfl,trivial,?_⟩
  refine wp_pass ?_
  refine wp_pass ?_
  exact ⟨rfl,rfl,zs,(hst.end hsw hso).1,(hst.end hsw hso).2,hs⟩
 have hc:¬ ((e-c:Nat):Int)≤12:=of_decide_eq_false hc
 refine wp_ite (fun hc2=>?_) fun hc2=>?_
 ·refine wp_callS () (heap_c ok im lo x0 c e hce (by omega) (by omega) hs) rfl fun w' h=>?_
  obtain ⟨zs,hsw,hso,hs⟩:=h
  refine ⟨trivial,?_⟩
  refine wp_pass ?_
  refine wp_pass ?_
  exact ⟨rfl,rfl,zs,(hst.end hsw hso).1,(hst.end hsw hso).2,hs⟩
 refine wp_mid (fun v w'=>∃ (lim:Int) (ys:List I.E),v=(lim,())∧Stand lt xs a b ys c e∧Sat w' (I.arr d ys::l)) ?_ ?_
 ·refine wp_ite (fun hc3=>?_) fun hc3=>?_
  ·refine wp_callS () (brk_c ok im ok2 c e hce (by omega) (by omega) hs) rfl fun w' h=>?_
   obtain ⟨zs,hsw,hs⟩:=h
   refine ⟨trivial,wp_lt ?_⟩
   exact wp_leave ⟨(_,()),rfl,_,zs,rfl,hst.step hb hsw,hs⟩
  ·exact wp_leave ⟨(lim,()),rfl,lim,ys,rfl,hst,hs⟩
 clear hs hst hyl
 rintro _ w ⟨lim,ys,rfl,hst,hs⟩
 have hyl:=hst.sw.length
 refine wp_call (piv_c ok im ok2 c e (by omega) (by omega) (by omega) hs) fun vs w' h=>?_
 obtain ⟨x,hint,rfl,hx1,hx2,hs⟩:=h
 refine ⟨((x:Int),hint,()),rfl,trivial,wp_lt (wp_lt ?_)⟩
 refine wp_mid (fun v w'=>∃ (x:Nat) (hint:Int) (ys:List I.E),v=((x:Int),hint,())∧c≤x∧x<e∧Stand lt xs a b ys c e∧Sat w' (I.arr d ys::l)) ?_ ?_
 ·refine wp_ite (fun hc3=>?_) fun hc3=>?_
  ·refine wp_callS () (rev_c ok im x0 c e (by omega) (by omega) (by omega) hs) rfl fun w' h=>?_
   obtain ⟨zs,hsw,hs⟩:=h
   refine ⟨trivial,?_⟩
   refine wp_lw (y:=((e-1-(x-c):Nat):Int)) (by dsimp only;rw [w64 (x:=(e:Int)-1) (by omega) (by omega),w64 (x:=(x:Int)-c) (by omega) (by omega),w64 (by omega) (by omega)];omega) ?_
   exact wp_leave ⟨(((e-1-(x-c):Nat):Int),1,()),rfl,_,_,zs,rfl,by omega,by omega,hst.step hb hsw,hs⟩
  ·exact wp_leave ⟨((x:Int),hint,()),rfl,x,hint,ys,rfl,hx1,hx2,hst,hs⟩
 clear hs hst hyl hx1 hx2
 rintro _ w ⟨x,hint,ys,rfl,hx1,hx2,hst,hs⟩
 have hyl:=hst.sw.length
 refine wp_mid (fun v w'=>∃ (ys:List I.E),Stand lt xs a b ys c e∧Sat w' (I.arr d ys::l)) ?_ ?_
 ·refine wp_ite (fun hc3=>?_) fun hc3=>?_
  ·refine wp_call (pins_c ok im lo x0 c e (by omega) (by omega) (by omega) hst.pre hs) fun vs w' h=>?_
   obtain ⟨q,zs,rfl,hsw,hso,hs⟩:=h
   refine ⟨(q,()),rfl,trivial,?_⟩
   refine wp_ite (fun hc4=>?_) fun hc4=>?_
   ·have hso:=hso hc4
    refine wp_pass ?_
    refine wp_pass ?_
    refine wp_pass ?_
    exact ⟨rfl,rfl,zs,(hst.end hsw hso).1,(hst.end hsw hso).2,hs⟩
   ·exact wp_leave ⟨(),rfl,zs,hst.step hb hsw,hs⟩
  ·exact wp_leave ⟨(),rfl,ys,hst,hs⟩
 clear hs hst hyl
 rintro _ w ⟨ys,hst,hs⟩
 have hyl:=hst.sw.length
 refine wp_gcmp ok (f:=not) (c-1) x (fun h=>⟨by have h:(c:Int)>0:=of_decide_eq_true h;dsimp only;rw [w64 (by omega) (by omega)];omega,by omega⟩) (fun h=>⟨rfl,by omega⟩) x0 hs fun w' hs=>?_
 refine wp_ite (fun hc3=>?_) fun hc3=>?_
 ·have hc3:(decide ((c:Int)>0) && !ltAt lt ys (c-1) x)=true:=hc3
  simp only [Bool.and_eq_true,decide_eq_true_eq,Bool.not_eq_true'] at hc3
  refine wp_call (peq_c ok im x0 c e x hx1 hx2 (by omega) (by omega) hs) fun vs w' h=>?_
  obtain ⟨m,zs,rfl,hsw,he,h1,h2,h3,h4,hs⟩:=h
  refine ⟨((m:Int),()),rfl,trivial,wp_lt (wp_lt ?_)⟩
  exact wp_leave ⟨((m:Int),(e:Int),lim,wb,wp,()),rfl,m,e,lim,wb,wp,zs,rfl,by omega,hst.equals lo hb (by omega) hc3.2 hsw he h1 h2 h3 h4,hs⟩
 ·refine wp_call (part_c ok im x0 c e x hx1 hx2 (by omega) (by omega) hs) fun vs w' h=>?_
  obtain ⟨m,q,zs,rfl,hsw,⟨h1,h2,h3,h4⟩,hs⟩:=h
  have hst2:=hst.step hb hsw
  have hzl:=hst2.sw.length
  have hPQ:PartQ lt zs c e m:=⟨fun k k1 k2=>lo.asymmAt (h3 k k1 k2),h4⟩
  refine ⟨((m:Int),q,()),rfl,trivial,wp_lt (wp_lt (wp_lt ?_))⟩
  refine wp_lw (y:=((m-c:Nat):Int)) (by dsimp only;rw [w64 (by omega) (by omega)];omega) ?_
  refine wp_lw (y:=((e-m:Nat):Int)) (by dsimp only;rw [w64 (by omega) (by omega)];omega) ?_
  refine wp_lt ?_
  refine wp_mid (fun v w'=>∃ (c' e':Nat) (bb:Bool) (us:List I.E),v=((c':Int),(e':Int),bb,())∧e'-c'<e-c∧Stand lt xs a b us c' e'∧Sat w' (I.arr d us::l)) ?_ ?_
  ·refine wp_ite (fun hc5=>?_) fun hc5=>?_
   ·refine wp_lt ?_
    refine wp_callS () (ih (m-c) (by omega) c m lim (Nat.le_refl _) h1 (by omega) (by omega) (fun h0 k k1 k2=>hst2.pre h0 k k1 (by omega)) hs) rfl fun w' h=>?_
    obtain ⟨us,husw,huso,hs⟩:=h
    have hul:=husw.length
    refine ⟨trivial,?_⟩
    refine wp_lw (y:=((m+1:Nat):Int)) (by dsimp only;rw [w64 (by omega) (by omega)];omega) ?_
    refine wp_leave ⟨(((m+1:Nat):Int),(e:Int),_,()),rfl,m+1,e,_,us,rfl,by omega,⟨by omega,by omega,heb,hst2.sw.trans (husw.mono (by omega) (by omega)),fun _ k k1 k2=>?_,fun vs hv hvs=>?_⟩,hs⟩
    ·rw [ltAt_out husw (by omega) (by omega)];exact h4 k (by omega) k2
    ·refine hst2.fin vs ((husw.mono (by omega) (by omega)).trans (hv.mono (by omega) (by omega))) ?_
     have hQ1:=hPQ.left (by omega) husw
     have hQ2:=hQ1.right (by omega) hv
     exact sorted_parts lo (by rw [hv.length];omega) hQ2 (huso.out hv (by omega)) hvs
   ·refine wp_lt ?_
    have em:IntKind.wrap .i64 ((m:Int)+1)=((m+1:Nat):Int):=by rw [w64 (by omega) (by omega)];omega
    rw [em]
    refine wp_callS () (ih (e-(m+1)) (by omega) (m+1) e lim (Nat.le_refl _) (by omega) (by omega) (by omega) (fun _ k k1 k2=>h4 k (by omega) k2) hs) rfl fun w' h=>?_
    obtain ⟨us,husw,huso,hs⟩:=h
    have hul:=husw.length
    refine ⟨trivial,wp_lt ?_⟩
    refine wp_leave ⟨((c:Int),(m:Int),decide (((e-m:Nat):Int)≥IntKind.wrap .i64 (Int.tdiv ((e-c:Nat):Int) 8)),()),rfl,c,m,_,us,rfl,by omega,⟨by omega,by omega,by omega,hst2.sw.trans (husw.mono (by omega) (by omega)),fun h0 k k1 k2=>?_,fun vs hv hvs=>?_⟩,hs⟩
    ·rw [ltAt_out husw (by omega) (by omega)];exact hst2.pre h0 k k1 (by omega)
    ·refine hst2.fin vs ((husw.mono (by omega) (by omega)).trans (hv.mono (by omega) (by omega))) ?_
     have hQ1:=hPQ.right (by omega) husw
     have hQ2:=hQ1.left (by omega) hv
     exact sorted_parts lo (by rw [hv.length];omega) hQ2 hvs (huso.out hv (by omega))
  ·rintro _ w' ⟨c',e',bb,us,rfl,hlt,hst3,hs⟩
   exact wp_leave ⟨((c':Int),(e':Int),lim,bb,q,()),rfl,c',e',lim,bb,q,us,rfl,hlt,hst3,hs⟩
theorem pdq_all (ok:I.Ok P lt) (im:I.Impl P) (ok2:I.Ok2 P) (lo:LtOk lt) (x0:I.E) (lim:Int) (h63:xs.length<576460752303423488) (hs:Sat w (I.arr d xs::l)) :
  Ret P I.f_pdq ([d.v,.int .i64 0,.int .i64 xs.length,.int .i64 lim]++I.ex).toArray w fun vs w'=>vs=[]∧∃ ys,ys.Perm xs∧ys.Pairwise (fun x y=>lt y x=false)∧Sat w' (I.arr d ys::l):=by
 refine Calls.mono (pdq_c ok im ok2 lo x0 xs.length 0 xs.length lim (by omega) (by omega) (Nat.le_refl _) h63 (fun h=>absurd h (by omega)) hs) fun e w' ⟨vs,he,hv,ys,hsw,hso,hs⟩=>⟨vs,he,hv,ys,hsw.perm,?_,hs⟩
 rw [List.pairwise_iff_getElem]
 intro i j hi hj hij
 have hl:=hsw.length
 have:=hso i j (by omega) hij (by omega)
 unfold ltAt at this
 rwa [List.getElem?_eq_getElem hi,List.getElem?_eq_getElem hj] at this
end
set_option maxRecDepth 4000
def lenTbl:ByteArray:=ByteArray.mk #[0,1,2,2,3,3,3,3,4,4,4,4,4,4,4,4,5,5,5,5,5,5,5,5,5,5,5,5,5,5,5,5,6,6,6,6,6,6,6,6,6,6,6,6,6,6,6,6,6,6,6,6,6,6,6,6,6,6,6,6,6,6,6,6,7,7,7,7,7,7,7,7,7,7,7,7,7,7,7,7,7,7,7,7,7,7,7,7,7,7,7,7,7,7,7,7,7,7,7,7,7,7,7,7,7,7,7,7,7,7,7,7,7,7,7,7,7,7,7,7,7,7,7,7,7,7,7,7,8,8,8,8,8,8,8,8,8,8,8,8,8,8,8,8,8,8,8,8,8,8,8,8,8,8,8,8,8,8,8,8,8,8,8,8,8,8,8,8,8,8,8,8,8,8,8,8,8,8,8,8,8,8,8,8,8,8,8,8,8,8,8,8,8,8,8,8,8,8,8,8,8,8,8,8,8,8,8,8,8,8,8,8,8,8,8,8,8,8,8,8,8,8,8,8,8,8,8,8,8,8,8,8,8,8,8,8,8,8,8,8,8,8,8,8,8,8,8,8,8,8,8,8,8,8,8,8]
theorem lenTbl_get:∀ i:Fin 256,∃ k:Nat,bt lenTbl (i.val:Int)=k∧k≤8∧(1≤i.val→2 ^ k≤2*i.val):=by
 have h:∀ i:Fin 256,0≤bt lenTbl (i.val:Int)∧(bt lenTbl (i.val:Int)).toNat≤8∧(1≤i.val→2 ^ (bt lenTbl (i.val:Int)).toNat≤2*i.val):=by decide
 intro i
 obtain ⟨h1,h2,h3⟩:=h i
 exact ⟨(bt lenTbl (i.val:Int)).toNat,by omega,h2,h3⟩
theorem wrapu (x:Int):IntKind.wrap .u64 x=x % 18446744073709551616:=by simp [IntKind.wrap,IntKind.bits,IntKind.signed]
theorem wrapu8 (x:Int):IntKind.wrap .u8 x=x % 256:=by simp [IntKind.wrap,IntKind.bits,IntKind.signed]
section
variable {w:World} {l:List HP}
structure LenS (n x s B:Nat):Prop where
 h1:x*2 ^ s≤n
 h2:1≤x
 h3:x<B
 h4:s≤64
theorem LenS.shift {n x s:Nat} (a b:Nat) (h:LenS n x s (2 ^ (a+b))) (hx:2 ^ a≤x) (hs:s+a≤64):LenS n (x / 2 ^ a) (s+a) (2 ^ b):=by
 obtain ⟨h1,h2,h3,h4⟩:=h
 have hp:0<2 ^ a:=Nat.two_pow_pos a
 refine ⟨?_,Nat.div_pos hx hp,?_,hs⟩
 ·rw [Nat.pow_add,← Nat.mul_assoc,Nat.mul_right_comm]
  exact Nat.le_trans (Nat.mul_le_mul_right _ (Nat.div_mul_le_self x (2 ^ a))) h1
 ·rw [Nat.div_lt_iff_lt_mul hp,Nat.mul_comm,← Nat.pow_add];exact h3
theorem len64_c (n:Nat) (h0:1≤n) (h1:n<18446744073709551616) (hs:Sat w l):Ret P F.a31 #[.int .u64 n] w fun vs w'=>(∃ k:Nat,vs=[.int .i64 k]∧k≤64∧2 ^ k≤2*n)∧Sat w' l :=
 zf36_calls n <| by
  unfold zf36
  refine wp_mid (fun v w'=>(∃ x s:Nat,v=((x:Int),(s:Int),())∧LenS n x s (2 ^ 32)∧s≤32)∧Sat w' l) ?_ ?_
  ·refine wp_ite (fun hc=>?_) fun hc=>?_
   ·have hc:(n:Int)≥4294967296:=of_decide_eq_true hc
    refine wp_lw (y:=((n / 2 ^ 32:Nat):Int)) (by rw [Int.fdiv_eq_ediv_of_nonneg _ (by omega)];omega) ?_
    exact wp_leave ⟨(((n / 2 ^ 32:Nat):Int),((32:Nat):Int),()),rfl,⟨_,32,rfl,by have:=LenS.shift (n:=n) (x:=n) (s:=0) 32 32 ⟨by omega,h0,by omega,by omega⟩ (by omega) (by omega);simpa using this,by omega⟩,hs⟩
   ·have hc:¬ (n:Int)≥4294967296:=of_decide_eq_false hc
    exact wp_leave ⟨((n:Int),((0:Nat):Int),()),rfl,⟨n,0,rfl,⟨by omega,h0,by omega,by omega⟩,by omega⟩,hs⟩
  rintro _ w ⟨⟨x,s,rfl,hx,hs1⟩,hs⟩
  refine wp_mid (fun v w'=>(∃ x s:Nat,v=((x:Int),(s:Int),())∧LenS n x s (2 ^ 16)∧s≤48)∧Sat w' l) ?_ ?_
  ·refine wp_ite (fun hc=>?_) fun hc=>?_
   ·have hc:(x:Int)≥65536:=of_decide_eq_true hc
    refine wp_lw (y:=((x / 2 ^ 16:Nat):Int)) (by dsimp only;rw [Int.fdiv_eq_ediv_of_nonneg _ (by omega)];omega) ?_
    refine wp_lw (y:=((s+16:Nat):Int)) (by dsimp only;rw [w64 (by omega) (by omega)];omega) ?_
    exact wp_leave ⟨(((x / 2 ^ 16:Nat):Int),((s+16:Nat):Int),()),rfl,⟨_,_,rfl,LenS.shift 16 16 hx (by omega) (by omega),by omega⟩,hs⟩
   ·have hc:¬ (x:Int)≥65536:=of_decide_eq_false hc
    exact wp_leave ⟨((x:Int),(s:Int),()),rfl,⟨x,s,rfl,⟨hx.h1,hx.h2,by omega,hx.h4⟩,by omega⟩,hs⟩
  clear hs hx hs1
  rintro _ w ⟨⟨x,s,rfl,hx,hs1⟩,hs⟩
  refine wp_mid (fun v w'=>(∃ x s:Nat,v=((x:Int),(s:Int),())∧LenS n x s (2 ^ 8)∧s≤56)∧Sat w' l) ?_ ?_
  ·refine wp_ite (fun hc=>?_) fun hc=>?_
   ·have hc:(x:Int)≥256:=of_decide_eq_true hc
    refine wp_lw (y:=((x / 2 ^ 8:Nat):Int)) (by dsimp only;rw [Int.fdiv_eq_ediv_of_nonneg _ (by omega)];omega) ?_
    refine wp_lw (y:=((s+8:Nat):Int)) (by dsimp only;rw [w64 (by omega) (by omega)];omega) ?_
    exact wp_leave ⟨(((x / 2 ^ 8:Nat):Int),((s+8:Nat):Int),()),rfl,⟨_,_,rfl,LenS.shift 8 8 hx (by omega) (by omega),by omega⟩,hs⟩
   ·have hc:¬ (x:Int)≥256:=of_decide_eq_false hc
    exact wp_leave ⟨((x:Int),(s:Int),()),rfl,⟨x,s,rfl,⟨hx.h1,hx.h2,by omega,hx.h4⟩,by omega⟩,hs⟩
  clear hs hx hs1
  rintro _ w ⟨⟨x,s,rfl,hx,hs1⟩,hs⟩
  have hx3:=hx.h3
  have e:IntKind.wrap .u8 (x:Int)=x:=by rw [wrapu8];omega
  have e':IntKind.wrap .u8 ((x:Int),(s:Int),()).1=x:=e
  obtain ⟨k,hk1,hk2,hk3⟩:=lenTbl_get ⟨x,by omega⟩
  refine wp_must (by rw [e'];omega) ?_
  refine wp_lw (y:=((s+k:Nat):Int)) ?_ ?_
  ·show IntKind.wrap .i64 ((s:Int)+IntKind.wrap .i64 (bt lenTbl (IntKind.wrap .u8 (x:Int))))=_
   rw [e,hk1,w64 (x:=(k:Int)) (by omega) (by omega),w64 (by omega) (by omega)];omega
  ·refine ⟨rfl,⟨s+k,rfl,by omega,?_⟩,hs⟩
   have h5:=hk3 hx.h2
   have h6:=hx.h1
   rw [Nat.pow_add]
   calc 2 ^ s*2 ^ k≤2 ^ s*(2*x):=Nat.mul_le_mul_left _ h5
    _=2*(x*2 ^ s):=by rw [Nat.mul_comm (2 ^ s),Nat.mul_assoc]
    _≤2*n:=by omega
theorem len_c (n:Nat) (h0:1≤n) (h1:n<18446744073709551616) (hs:Sat w l):Ret P F.a30 #[.int .u64 n] w fun vs w'=>(∃ k:Nat,vs=[.int .i64 k]∧k≤64∧2 ^ k≤2*n)∧Sat w' l :=
 zf35_calls n <| by
  unfold zf35
  refine wp_call (len64_c n h0 h1 hs) fun vs w' ⟨⟨k,hv,h2,h3⟩,hs⟩=>?_
  subst hv
  exact ⟨((k:Int),()),rfl,trivial,rfl,⟨k,rfl,h2,h3⟩,hs⟩
theorem len0_c (hs:Sat w l):Ret P F.a30 #[.int .u64 0] w fun vs w'=>vs=[.int .i64 0]∧Sat w' l :=
 zf35_calls 0 <| by
  unfold zf35
  refine wp_callS (0,()) (vs₀:=[.int .i64 0]) (R:=fun w'=>Sat w' l) ?_ rfl fun w' hs=>⟨trivial,rfl,rfl,hs⟩
  refine zf36_calls 0 ?_
  unfold zf36
  refine wp_mid (fun v w'=>v=(0,0,())∧Sat w' l) (wp_ite_f rfl (wp_leave ⟨(0,0,()),rfl,rfl,hs⟩)) ?_
  rintro _ w ⟨rfl,hs⟩
  refine wp_mid (fun v w'=>v=(0,0,())∧Sat w' l) (wp_ite_f rfl (wp_leave ⟨(0,0,()),rfl,rfl,hs⟩)) ?_
  clear hs
  rintro _ w ⟨rfl,hs⟩
  refine wp_mid (fun v w'=>v=(0,0,())∧Sat w' l) (wp_ite_f rfl (wp_leave ⟨(0,0,()),rfl,rfl,hs⟩)) ?_
  clear hs
  rintro _ w ⟨rfl,hs⟩
  refine wp_must (by decide) (wp_lw (y:=0) ?_ ⟨rfl,rfl,hs⟩)
  show IntKind.wrap .i64 (0+IntKind.wrap .i64 (bt lenTbl (IntKind.wrap .u8 0)))=0
  decide
theorem pow_c (n:Nat) (h0:8≤n) (h1:n<1152921504606846976) (hs:Sat w l):Ret P F.a83 #[.int .i64 n] w fun vs w'=>∃ m:Nat,vs=[.int .u64 m]∧1≤m∧m≤2*n∧Sat w' l :=
 zf92_calls n <| by
  unfold zf92
  have e:IntKind.wrap .u64 (n:Int)=n:=by rw [wrapu];omega
  rw [e]
  refine wp_call (len_c n (by omega) (by omega) hs) fun vs w' ⟨⟨k,hv,h2,h3⟩,hs⟩=>?_
  subst hv
  refine ⟨((k:Int),()),rfl,trivial,wp_must (by dsimp only;omega) ?_⟩
  have hp:=Nat.two_pow_pos k
  refine wp_lw (y:=((2 ^ k:Nat):Int)) ?_ ?_
  ·show IntKind.wrap .u64 (1*2 ^ min (Int.toNat (k:Int)) 64)=_
   rw [Int.toNat_natCast,Nat.min_eq_left h2,Int.one_mul]
   have:((2:Int) ^ k)=((2 ^ k:Nat):Int):=by simp
   rw [this]
   generalize 2 ^ k=p at *
   rw [wrapu];omega
  ·exact ⟨rfl,2 ^ k,rfl,hp,h3,hs⟩
theorem next_c {b:Nat} {u:Int} (hs:Sat w (pt b (.cells #[.int .u64 u] T.a30)::l)):Ret P F.a91 #[.pointer (some ⟨b,0,none⟩)] w fun vs w'=>∃ v u',vs=[.int .u64 v]∧Sat w' (pt b (.cells #[.int .u64 u'] T.a30)::l) :=
 zf100_calls (some ⟨b,0,none⟩) <| by
  unfold zf100
  have step:∀ {w:World} {u:Int} {Q:Post} {k:Prog} {f:Int→Int→Int},Sat w (pt b (.cells #[.int .u64 u] T.a30)::l)→(∀ w' u',Sat w' (pt b (.cells #[.int .u64 u'] T.a30)::l)→k.wp P tt w' Q) →
    (Prog.tick <| .ex [.adr] (c1 fun a=>some (Addr.mk b 0 none)=some a) (u1 fun a1=>.read True (ld T.a30 a1) (sI .u64) (u1 fun (n2:Int)=>.ex [.adr] (c1 fun a=>some (Addr.mk b 0 none)=some a) (u1 fun a4=>.read True (ld T.a30 a4) (sI .u64) (u1 fun (n5:Int) =>
     .ex [.adr] (c1 fun a=>some (Addr.mk b 0 none)=some a) (u1 fun a7=>.actU (st T.a30 a7 (.int .u64 (f n2 n5))) <| .untick k)))))).wp P tt w Q:=fun hs h=>by
   refine wp_tick fun w2 hw=>?_
   have hs:=hs.heap hw
   refine wp_ex (⟨b,0,none⟩,()) rfl ?_
   refine wp_ld hs rfl ?_
   refine wp_ex (⟨b,0,none⟩,()) rfl ?_
   refine wp_ld hs rfl ?_
   refine wp_ex (⟨b,0,none⟩,()) rfl ?_
   refine wp_st1 hs rfl rfl rfl fun w' hs=>⟨trivial,?_⟩
   exact wp_untick (h w' _ hs)
  refine step (f:=fun n2 n5=>IntKind.wrap .u64 (((BitVec.toNat (BitVec.ofInt 64 n2 ^^^ BitVec.ofInt 64 (IntKind.wrap .u64 (n5*8192))):Nat):Int))) hs fun w' u' hs=>?_
  refine step (f:=fun n2 n5=>IntKind.wrap .u64 (((BitVec.toNat (BitVec.ofInt 64 n2 ^^^ BitVec.ofInt 64 (Int.fdiv n5 128)):Nat):Int))) hs fun w' u' hs=>?_
  refine step (f:=fun n2 n5=>IntKind.wrap .u64 (((BitVec.toNat (BitVec.ofInt 64 n2 ^^^ BitVec.ofInt 64 (IntKind.wrap .u64 (n5*131072))):Nat):Int))) hs fun w' u' hs=>?_
  refine wp_ex (⟨b,0,none⟩,()) rfl ?_
  refine wp_ld hs rfl ?_
  exact wp_lt ⟨rfl,_,_,rfl,hs⟩
end
def sortStr:SortI where
 T:=T.a31
 s:=.one .str
 sz:=1
 less:=fun x y k=>.call F.a1 [.string x.1,.string y.1] sB (u1 k)
 ex:=[]
 xs:=T.a30
 ti:=T.a10
 fNext:=F.a91
 fPow:=F.a83
 f_sift:=F.a90
 f_heap:=F.a79
 f_ins:=F.a80
 f_brk:=F.a77
 f_rev:=F.a89
 f_pins:=F.a85
 f_peq:=F.a86
 f_part:=F.a87
 f_ord2:=F.a84
 f_med:=F.a82
 f_medj:=F.a81
 f_piv:=F.a78
 f_pdq:=F.a88
theorem sortStr_impl:sortStr.Impl P where
 sift h:=zf99_calls _ _ _ _ h
 heap h:=zf88_calls _ _ _ h
 ins h:=zf89_calls _ _ _ h
 brk h:=zf86_calls _ _ _ h
 rev h:=zf98_calls _ _ _ h
 pins h:=zf94_calls _ _ _ h
 peq h:=zf95_calls _ _ _ _ h
 part h:=zf96_calls _ _ _ _ h
 ord2 h:=zf93_calls _ _ _ _ h
 med h:=zf91_calls _ _ _ _ _ h
 medj h:=zf90_calls _ _ _ h
 piv h:=zf87_calls _ _ _ h
 pdq h:=zf97_calls _ _ _ _ h
theorem sortStr_ok2:sortStr.Ok2 P where
 one:=inferInstanceAs (One P T.a10)
 zer:=inferInstanceAs (Zer P T.a10 _)
 xone:=inferInstanceAs (One P T.a30)
 xzer:=inferInstanceAs (Zer P T.a30 _)
 next h:=next_c h
 pow h1 h2 h:=pow_c _ h1 h2 h
theorem less_string_c {w:World} {l:List HP} (x y:ByteArray) (hs:Sat w l):Ret P F.a1 #[.string x,.string y] w fun vs w'=>vs=[.bool (Op.bytesLess (ByteArray.toList x) (ByteArray.toList y))]∧Sat w' l :=
 zf1_calls x y <| by
  unfold zf1
  refine wp_mid (fun v w'=>v=(Op.bytesLess (ByteArray.toList x) (ByteArray.toList y),())∧Sat w' l) ?_ (by rintro _ w' ⟨rfl,hs⟩;exact ⟨rfl,rfl,hs⟩)
  refine wp_callS (false,()) (zf2_calls x (R:=fun vs w'=>vs=[.bool false]∧Sat w' l) ?_) rfl fun w' hs=>⟨trivial,?_⟩
  ·refine ⟨rfl,?_,hs⟩
   rw [show (ByteArray.toList x == ByteArray.toList x)=true from beq_self_eq_true _];rfl
  ·exact wp_ite_f rfl (wp_lt (wp_leave ⟨(_,()),rfl,rfl,hs⟩))
def toEs (s:ByteArray):sortStr.E:=(s,())
def ofEs (e:sortStr.E):ByteArray:=e.1
theorem flat_toEs:∀ xs:List ByteArray,(xs.map toEs).flatMap sortStr.enc=xs.flatMap encT
 | []=>rfl
 | x::r=>by rw [List.map_cons,List.flatMap_cons,List.flatMap_cons,flat_toEs r];rfl
theorem flat_ofEs:∀ xs:List sortStr.E,(xs.map ofEs).flatMap encT=xs.flatMap sortStr.enc
 | []=>rfl
 | x::r=>by rw [List.map_cons,List.flatMap_cons,List.flatMap_cons,flat_ofEs r];rfl
theorem of_toEs (xs:List ByteArray):(xs.map toEs).map ofEs=xs:=by rw [List.map_map];exact List.map_id xs
def ltE (x y:sortStr.E):Bool:=Op.bytesLess (ByteArray.toList (ofEs x)) (ByteArray.toList (ofEs y))
theorem sortStr_ok:sortStr.Ok P ltE where
 pos:=by decide
 enc _:=rfl
 ld w A x h:=by
  exact At.ld1 (T:=T.a31) h rfl
 size:=(inferInstance:One P T.a31).ok.2
 cells _:=rfl
 one x:=by intro u hu;obtain rfl:=List.mem_singleton.1 hu;rfl
 less hs h:=wp_callS (_,()) (less_string_c _ _ hs) rfl fun w' hs=>⟨trivial,h w' hs⟩
section
variable {w:World} {l:List HP}
theorem sort_string_c (x:Sl) (xs:List ByteArray) (hlt:LtOk ltE) (h63:xs.length<576460752303423488) (hs:Sat w (slc T.a31 1 x (xs.flatMap encT)::l)) :
  Ret P F.a76 #[x.v] w fun vs w'=>vs=[]∧∃ ys:List ByteArray,ys.Perm xs∧ys.Pairwise (fun a b=>Op.bytesLess (ByteArray.toList b) (ByteArray.toList a)=false)∧Sat w' (slc T.a31 1 x (ys.flatMap encT)::l) :=
 zf85_calls x <| by
  unfold zf85
  have hl:x.len=xs.length:=hs.rd.len (enc:=encT) (fun _=>rfl) (by decide)
  refine wp_lt ?_
  rw [hl]
  have hs:Sat w (sortStr.arr x (xs.map toEs)::l):=by
   refine hs.imp fun p hp=>?_
   rw [SortI.arr,flat_toEs];exact hp
  have hfin:∀ {w':World},(∃ ys,ys.Perm (xs.map toEs)∧ys.Pairwise (fun x y=>ltE y x=false)∧Sat w' (sortStr.arr x ys::l))→∃ ys:List ByteArray,ys.Perm xs∧ys.Pairwise (fun a b=>Op.bytesLess (ByteArray.toList b) (ByteArray.toList a)=false)∧Sat w' (slc T.a31 1 x (ys.flatMap encT)::l):=by
   rintro w' ⟨ys,hp,hso,hs⟩
   refine ⟨ys.map ofEs,?_,?_,?_⟩
   ·have:=hp.map ofEs
    rwa [of_toEs] at this
   ·rw [List.pairwise_map]
    exact hso
   ·refine hs.imp fun p hp=>?_
    rw [flat_ofEs];exact hp
  have hlen:Ret P F.a30 #[.int .u64 (IntKind.wrap .u64 (xs.length:Int))] w fun vs w'=>(∃ k:Int,vs=[.int .i64 k])∧Sat w' (sortStr.arr x (xs.map toEs)::l):=by
   by_cases h0:xs.length=0
   ·rw [h0]
    exact Calls.mono (len0_c hs) fun e w' ⟨vs,he,hv,hs⟩=>⟨vs,he,⟨0,hv⟩,hs⟩
   ·have e:IntKind.wrap .u64 (xs.length:Int)=xs.length:=by rw [wrapu];omega
    rw [e]
    exact Calls.mono (len_c xs.length (by omega) (by omega) hs) fun e w' ⟨vs,he,⟨k,hv,_,_⟩,hs⟩=>⟨vs,he,⟨k,hv⟩,hs⟩
  refine wp_call hlen fun vs w' ⟨⟨k,hv⟩,hs⟩=>?_
  subst hv
  refine ⟨(k,()),rfl,trivial,?_⟩
  have:=pdq_all sortStr_ok sortStr_impl sortStr_ok2 hlt (toEs ⟨#[]⟩) k (by rw [List.length_map];exact h63) hs
  rw [List.length_map] at this
  refine wp_callS () this rfl fun w' h=>⟨trivial,rfl,rfl,hfin h⟩
end
open Go.Proofs Go.Proofs.YtfnldnodhfkojaaGreat
def namesF (p:ByteArray) (fs:List FileA):List ByteArray:=(fs.map (·.name)).filter (preF p)
def restr (W:World) (X:Nat→Bool):PH:=⟨fun b=>if X b then W.heap[b]? else none,World.env' W⟩
section
variable {w W:World} {l:List HP} {X:Nat→Bool}
theorem satR_old (hs:Sat w l) (hB:RowKit.Below w.heap.size w W):satL l (restr W fun b=>decide (b<w.heap.size)):=by
 refine satL_sub ⟨fun b o h=>?_,?_⟩ hs
 ·have h:w.heap[b]? = some o:=h
  have hlt:b<w.heap.size:=(Array.getElem?_eq_some_iff.1 h).1
  show (if decide (b<w.heap.size)=true then W.heap[b]? else none)=some o
  rw [if_pos (decide_eq_true hlt),hB.block b hlt,h]
 ·show World.env' w=World.env' W
  unfold World.env'
  rw [hB.os,hB.output]
theorem satR_new {b:Nat} {o:Obj} (hs:satL l (restr W X)) (hX:X b=false) (hb:W.heap[b]? = some o):satL (pt b o::l) (restr W fun c=>X c || decide (c=b)):=by
 refine ⟨⟨fun c=>if c=b then some o else none,World.env' W⟩,restr W X,⟨fun c u h=>?_,rfl⟩,⟨fun c u h=>?_,rfl⟩,fun c=>?_,by simp [pt],hs⟩
 ·simp only at h
  split at h
  ·rename_i hc;subst hc
   obtain rfl:=Option.some.inj h
   show (if (X c || decide (c=c))=true then W.heap[c]? else none)=some o
   rw [if_pos (by simp),hb]
  ·cases h
 ·have h:(if X c=true then W.heap[c]? else none)=some u:=h
  split at h
  ·rename_i hc
   show (if (X c || decide (c=b))=true then W.heap[c]? else none)=some u
   rw [if_pos (by rw [hc];rfl),h]
  ·cases h
 ·by_cases hc:c=b
  ·subst hc;right
   show (if X c=true then W.heap[c]? else none)=none
   rw [if_neg (by rw [hX];simp)]
  ·left;simp [hc]
theorem satR_done (hs:satL l (restr W X)):Sat W l:=by
 refine satL_sub (p:=restr W X) ⟨fun b o h=>?_,rfl⟩ hs
 have h:(if X b=true then W.heap[b]? else none)=some o:=h
 split at h
 ·exact h
 ·cases h
end
theorem sorted_unique:∀ {a b:List ByteArray},a.Perm b→(a.Pairwise fun x y=>ltS y x=false)→(b.Pairwise fun x y=>ltS x y=true)→a=b
 | a,[],hp,_,_=>hp.eq_nil
 | [],y::b,hp,_,_=>absurd hp.symm.eq_nil (by simp)
 | x::a,y::b,hp,ha,hb=>by
  rw [List.pairwise_cons] at ha hb
  have hxy:x=y:=by
   by_cases h:x=y
   ·exact h
   ·have hx:x ∈ b:=(List.mem_cons.1 (hp.mem_iff.1 (List.mem_cons_self ..))).resolve_left h
    have hy:y ∈ a:=(List.mem_cons.1 (hp.mem_iff.2 (List.mem_cons_self ..))).resolve_left (fun e=>h e.symm)
    have h1:=hb.1 x hx
    rw [ha.1 y hy] at h1;cases h1
  subst hxy
  rw [sorted_unique (List.Perm.cons_inv hp) ha.2 hb.2]
theorem ltE_ok:LtOk ltE where
 asymm {x y} h:=ltS_asymm h
 trans {x y z} h1 h2:=by
  have h1:ltS (ofEs x) (ofEs y)=false:=h1
  have h2:ltS (ofEs y) (ofEs z)=false:=h2
  show ltS (ofEs x) (ofEs z)=false
  cases h:ltS (ofEs x) (ofEs z) with
  | false=>rfl
  | true =>
   rcases ltS_total (ofEs x) (ofEs y) with h3|h3|h3
   ·rw [h3] at h1;cases h1
   ·rw [← h3,h] at h2;cases h2
   ·have:=ltS_trans h3 h;rw [this] at h2;cases h2
def bytesOf (x:List UInt8):ByteArray:=⟨x.toArray⟩
theorem flat_encT (xs:List ByteArray):xs.flatMap encT=xs.map Value.string:=by
 induction xs with
 | nil=>rfl
 | cons x r ih=>rw [List.flatMap_cons,ih];rfl
theorem pairwise_names {fs:List FileA} (h:fs.Pairwise fun a b=>ltS a.name b.name=true) (p:ByteArray):(namesF p fs).Pairwise fun x y=>ltS x y=true:=by
 unfold namesF
 refine List.Pairwise.filter _ ?_
 rw [List.pairwise_map];exact h
theorem owns_of {w:World} {m:Nat} {es:List (ByteArray × Nat)} {l:List HP} (hs:Sat w (mapP ekS evF m es::l)) (hlen:es.length≤1000) (hn:∀ x ∈ es,x.1.size≤24) :
  ∃ D0:DataW Unit,w.ownsMap Tryz.prog 9 (fun _=>some (.lit (.bool true),[])) m 1000 D0∧Maps.size D0≤1000∧((strKeys D0).map bytesOf).Perm (es.map Prod.fst):=by
 obtain ⟨E,c,hm,hs⟩:=hs.mapOpen
 have hsz:=hm.size
 obtain ⟨xs,h1,h2,h3,h4,h5⟩:=hm
 have hE:E.size≤1000:=by omega
 have hml:1000≤maxLen:=by decide
 have hkeys:∀ e ∈ E.toList,∃ x ∈ xs,e.key=.string x.1:=fun e he=>by
  have:(e.key,e.val) ∈ E.toList.map (fun e=>(e.key,e.val)):=List.mem_map.2 ⟨e,he,rfl⟩
  rw [h3] at this
  obtain ⟨x,hx,hxe⟩:=List.mem_map.1 this
  exact ⟨x,hx,(Prod.mk.inj hxe).1.symm⟩
 have hrd:∀ e ∈ E.toList,∀ s,e.key=.string s→WideElems.rd (H:=Unit) Tryz.prog 9 (fun _=>some (.lit (.bool true),[])) e=some (.string s.data.toList,.lit (.bool true)):=fun e he s hk=>by
  obtain ⟨x,hx,hxe⟩:=hkeys e he
  rw [hk] at hxe
  obtain rfl:s=x.1:=by cases hxe;rfl
  have h24:=hn x (h1.mem_iff.1 hx)
  have:keyOf Tryz.prog 9 (.string x.1)=some (.string x.1.data.toList):=WideMaps.keyOf_string_mk (by kernel_rfl) (by omega)
  unfold WideElems.rd
  rw [hk,this];rfl
 refine ⟨.map ((E.toList.map (WideElems.rg Tryz.prog 9 fun _=>some (.lit (.bool true),[]))).foldr DataW.insert []),⟨E,c,hs.get,⟨by omega,⟨h5,?_,?_⟩,fun e he=>?_⟩,hE,rfl⟩,?_,?_⟩
 ·rw [List.Nodup,List.pairwise_map]
  exact h4.imp fun h=>Nat.ne_of_lt h
 ·have hk:E.toList.map (·.key)=xs.map fun x=>Value.string x.1:=by
   have:=congrArg (List.map Prod.fst) h3
   rw [List.map_map,List.map_map] at this
   exact this
  rw [hk,List.Nodup,List.pairwise_map]
  rw [List.Nodup,List.pairwise_map] at h2
  exact h2.imp fun h e=>h (Value.string.inj e)
 ·obtain ⟨x,hx,hxe⟩:=hkeys e he
  exact ⟨_,hrd e he x.1 hxe⟩
 ·show ((E.toList.map _).foldr DataW.insert []).length≤1000
  rw [length_sorted,List.length_map,Array.length_toList];exact hE
 ·have hp:=(WideShapes.sorted_perm (E.toList.map (WideElems.rg (H:=Unit) Tryz.prog 9 fun _=>some (.lit (.bool true),[])))).map (fun p:Lit × DataW Unit=>bytesOf (Go.strOf p.1))
  have e1:(strKeys (DataW.map ((E.toList.map (WideElems.rg (H:=Unit) Tryz.prog 9 fun _=>some (.lit (.bool true),[]))).foldr DataW.insert []))).map bytesOf=((E.toList.map (WideElems.rg (H:=Unit) Tryz.prog 9 fun _=>some (.lit (.bool true),[]))).foldr DataW.insert []).map (fun p:Lit × DataW Unit=>bytesOf (Go.strOf p.1)):=by
   simp only [strKeys,List.map_map];rfl
  rw [e1]
  refine hp.trans ?_
  rw [List.map_map]
  have e2:E.toList.map ((fun p:Lit × DataW Unit=>bytesOf (Go.strOf p.1))∘WideElems.rg Tryz.prog 9 fun _=>some (.lit (.bool true),[]))=xs.map Prod.fst:=by
   have h6:E.toList.map (fun e=>match e.key with | .string s=>s|_=>⟨#[]⟩)=xs.map Prod.fst:=by
    have:=congrArg (List.map fun x:Value × Value=>match x.1 with | .string s=>s|_=>⟨#[]⟩) h3
    rw [List.map_map,List.map_map] at this
    exact this
   rw [← h6]
   refine List.map_congr_left fun e he=>?_
   obtain ⟨x,hx,hxe⟩:=hkeys e he
   show bytesOf (Go.strOf (WideElems.rg (H:=Unit) Tryz.prog 9 (fun _=>some (.lit (.bool true),[])) e).1)=_
   rw [WideElems.rg_of (hrd e he x.1 hxe),hxe]
   show bytesOf x.1.data.toList=x.1
   exact bytes_ext rfl
  rw [e2]
  exact h1.map _
section
variable {w:World} {l r:List HP} {d:Nat} {A:DiskA}
theorem names_c (p:ByteArray) [hf:Fo l dk d A r] (hs:Sat w l):Ret P F.a7 #[.pointer (some ⟨d,0,none⟩),.string p] w fun vs w'=>∃ x:Sl,vs=[x.v]∧Sat w' (slc T.a31 1 x ((namesF p A.fs).flatMap encT)::dk d A::r):=by
 have hs0:=hs.perm hf.perm
 obtain ⟨m,FS,hp,hok,hs1⟩:=dk_open hs0
 have hkv:(FS.map fun t=>(t.f.name,t.at_)).map Prod.fst=(FS.map FileM.f).map (·.name):=by rw [List.map_map,List.map_map];rfl
 have hlen:(FS.map fun t=>(t.f.name,t.at_)).length≤1000:=by
  have:=hp.length_eq;have:=hok.many;simp at *;omega
 obtain ⟨D0,hown,hsz,hkeys⟩:=owns_of (hs1.pick [1]) hlen fun x hx=>by
  obtain ⟨t,ht,rfl⟩:=List.mem_map.1 hx
  exact hok.names _ (hp.mem_iff.1 (List.mem_map.2 ⟨t,ht,rfl⟩))
 rw [hkv] at hkeys
 have hkeys:=hkeys.trans (hp.map (·.name))
 have hb:=hs1.get
 have hd:d<w.heap.size:=(Array.getElem?_eq_some_iff.1 hb).1
 have hc:w.cell? ⟨d,4,none⟩=some (.map (some m)):=by rw [cell_of hb];rfl
 have hfin:=callsIn_wide.1 (names_in (n:=3) (Nat.le_refl _) d m 1000 p w D0 hown hd hc hsz (fun v W=>∃ x:Sl,v=x.v∧Sat W (slc T.a31 1 x ((namesF p A.fs).flatMap encT)::dk d A::r)) ?_)
 ·exact Calls.mono hfin fun e w' ⟨v,he,x,hv,hs⟩=>⟨[x.v],by rw [he,hv];rfl,x,rfl,hs⟩
 intro D ss v W hD hS hbox hrow hB hK
 have hsR:=satR_old hs0 hB
 have hsR:=satR_new hsR (b:=w.heap.size+1) (by simp) hbox
 have hDB:D≠w.heap.size+1:=by omega
 have hsR:=satR_new hsR (b:=D) (by simp;omega) hK
 have hpS:((posF p ss).map bytesOf).Perm (namesF p A.fs):=by
  have h1:=((hS.map bytesOf).trans hkeys).filter (preF p)
  rw [List.filter_map] at h1
  exact h1
 have hflat:((posF p ss).map bytesOf).flatMap encT=(posF p ss).map encStr:=by
  rw [flat_encT,List.map_map];rfl
 have hlen2:((posF p ss).map bytesOf).length<576460752303423488:=by
  rw [hpS.length_eq]
  have h1:(namesF p A.fs).length≤A.fs.length:=by unfold namesF;exact Nat.le_trans (List.length_filter_le _ _) (by simp)
  have:=hok.many
  omega
 obtain ⟨x,rfl,hsx⟩:∃ x:Sl,v=x.v∧Sat W (slc T.a31 1 x (((posF p ss).map bytesOf).flatMap encT)::pt D (.deferred (some []))::pt (w.heap.size+1) (.cells #[v] 68)::dk d A::r):=by
  rw [hflat]
  obtain ⟨hxl,h|⟨g,cap,cur,rfl,hg,hgb,hcap,-,hcur,htk⟩⟩:=hrow
  ·obtain ⟨rfl,hn0⟩:=h
   have:posF p ss=[]:=List.length_eq_zero_iff.1 hn0
   rw [this]
   exact ⟨⟨none,0,0⟩,rfl,(satR_done hsR).slc_nil⟩
  ·have hgB:g≠w.heap.size+1:=fun e=>by
    subst e
    have hbox:W.heap[w.heap.size+1]? = some (.cells #[_] 68 (0,0)):=hbox
    rw [hbox] at hgb
    cases hgb
   have hgD:g≠D:=fun e=>by subst e;rw [hK] at hgb;cases hgb
   have hsR:=satR_done (satR_new hsR (b:=g) (by simp;omega) hgb)
   refine ⟨⟨some ⟨g,0,none⟩,(posF p ss).length,cap⟩,rfl,hsR.imp fun q hq=>.inr ⟨g,0,cur,(0,0),rfl,hq,by simp,hcap,by simp [hcur],fun i hi=>?_,unfrozen_zero _ _⟩⟩
   rw [← htk,List.length_take] at hi
   rw [← htk,Nat.zero_add,List.getElem?_take,if_pos (by omega)]
   simp
 refine callsIn_wide.2 (Calls.mono (sort_string_c x _ ltE_ok hlen2 hsx) ?_)
 rintro e w' ⟨vs,rfl,rfl,ys,hys,hso,hs'⟩
 have hB1:=(hs'.pick [2]).get
 have hD1:=(hs'.pick [1]).get
 refine ⟨rfl,by rw [cell_of hB1];rfl,hD1,x,rfl,?_⟩
 have hset:Sat (setB w' D (.deferred none)) _:=(hs'.pick [1]).set (o':=.deferred none)
 rw [sorted_unique (hys.trans hpS) hso (pairwise_names hok.sorted p)] at hset
 exact hset.sub
end
def encL (x:Sl):List Value:=[x.v]
instance:Enc1 encL .slc (fun x=>x):=⟨fun _=>rfl⟩
instance:EncN encL 1:=⟨fun _=>rfl,by decide,by simp [encL,Value.oneCell']⟩
def RdAll (l:List HP):List Sl→List (List UInt8)→Prop
 | [],[]=>True
 | x::xs,b::bs=>(∀ w,Sat w l→Rd w 1 x (b.flatMap encU))∧RdAll l xs bs
 | _,_=>False
theorem RdAll.length {l:List HP}:∀ {xs:List Sl} {bs:List (List UInt8)},RdAll l xs bs→xs.length=bs.length
 | [],[],_=>rfl
 | _::_,_::_,h=>by rw [List.length_cons,List.length_cons,h.2.length]
theorem RdAll.get {l:List HP}:∀ {xs:List Sl} {bs:List (List UInt8)} (h:RdAll l xs bs) (i:Nat) (h1:i<xs.length) (h2:i<bs.length),∀ w,Sat w l→Rd w 1 xs[i] (bs[i].flatMap encU)
 | _::_,_::_,h,0,_,_=>h.1
 | _::_,_::_,h,i+1,h1,h2=>h.2.get i (by simpa using h1) (by simpa using h2)
theorem flatten_take_succ {bs:List (List UInt8)} {i:Nat} (hi:i<bs.length):(bs.take (i+1)).flatten=(bs.take i).flatten++bs[i]:=by
 rw [List.take_add_one,List.getElem?_eq_getElem hi,List.flatten_append];simp
section
variable {w:World} {l r r0:List HP} {d:Nat} {A:DiskA}
theorem okA_append (hok:okA A) {n:ByteArray} (hn:nameF n=true) {bs:List UInt8} (hb:bs.length≤A.free) (hm:¬ (hasF A.fs n=false∧A.fs.length≥128)) :
  okA { A with fs:=if hasF A.fs n then A.fs.map (updF n fun f=>{ f with b:=f.b++bs }) else insF ⟨n,bs,0⟩ A.fs }:=by
 have hr:=hok.room
 have hu:=hok.used
 unfold DiskA.free at hb
 by_cases h:hasF A.fs n=true
 ·rw [if_pos h]
  obtain ⟨f,hf,rfl⟩:=hasF_iff.1 h
  obtain ⟨s,u,hsu⟩:=List.append_of_mem hf
  have hpm:A.fs.Perm (f::(s++u)):=by rw [hsu];exact List.perm_middle
  have hnd:=(hpm.map (·.name)).nodup_iff.1 (names_nodup hok.sorted)
  rw [List.map_cons,List.nodup_cons] at hnd
  have hne:∀ g ∈ s++u,g.name≠f.name:=fun g hg e=>hnd.1 (List.mem_map.2 ⟨g,hg,e⟩)
  have h1:=used_upd (g:=fun f=>{ f with b:=f.b++bs }) hpm hne
  have h2:used A.fs=f.b.length+used (s++u):=by rw [used_perm hpm,used_cons]
  refine ⟨hok.room,?_,by show (A.fs.map _).length≤_;rw [List.length_map];exact hok.many,hok.left,sorted_map (updF_name fun _=>rfl) hok.sorted,fun g hg=>?_,fun g hg=>?_⟩
  ·show used (A.fs.map _)≤_
   rw [h1]
   show (f.b++bs).length+_≤_
   rw [List.length_append];omega
  ·obtain ⟨g,hg',rfl⟩:=List.mem_map.1 hg
   have:=hok.kept g hg'
   unfold updF
   split
   ·show g.kept≤(g.b++bs).length;rw [List.length_append];omega
   ·exact this
  ·obtain ⟨g,hg',rfl⟩:=List.mem_map.1 hg
   rw [updF_name (by intro _;rfl)];exact hok.names g hg'
 ·have h:hasF A.fs n=false:=by simpa using h
  rw [if_neg (by rw [h];simp)]
  have hne:=hasF_not.1 h
  have hp:=insF_perm ⟨n,bs,0⟩ A.fs
  refine ⟨hok.room,?_,?_,hok.left,sorted_insF _ hne hok.sorted,fun g hg=>?_,fun g hg=>?_⟩
  ·show used (insF _ _)≤_
   rw [used_perm hp,used_cons];show bs.length+_≤_;omega
  ·show (insF _ _).length≤_
   rw [hp.length_eq,List.length_cons]
   have:=hok.many
   have:A.fs.length≠128:=fun e=>hm ⟨h,by omega⟩
   omega
  ·rcases mem_insF.1 hg with rfl|hg
   ·exact Nat.zero_le _
   ·exact hok.kept g hg
  ·rcases mem_insF.1 hg with rfl|hg
   ·exact nameF_size hn
   ·exact hok.names g hg
theorem insF_upd (x:FileA) (g:FileA→FileA) (hg:(g x).name=x.name):∀ {fs:List FileA},(∀ f ∈ fs,f.name≠x.name)→(insF x fs).map (updF x.name g)=insF (g x) fs
 | [],_=>by simp [insF,updF]
 | f::r,h=>by
  have hf:updF x.name g f=f:=by rw [updF,if_neg (h f (List.mem_cons_self ..))]
  have hr:r.map (updF x.name g)=r:=by
   conv=>rhs;rw [← List.map_id r]
   exact List.map_congr_left fun y hy=>by rw [updF,if_neg (h y (List.mem_cons_of_mem _ hy))];rfl
  rw [insF,insF,hg]
  split
  ·rw [List.map_cons,List.map_cons,hf,hr,updF,if_pos rfl]
  ·rw [List.map_cons,hf,insF_upd x g hg fun y hy=>h y (List.mem_cons_of_mem _ hy)]
theorem append_c (n:ByteArray) (ps:Sl) (xs:List Sl) (bs:List (List UInt8)) [hps:FocR r ps 1 (xs.flatMap encL)] (hbs:RdAll r xs bs) (hlen:bs.length≤1000) (hsum:∀ b ∈ bs,b.length≤100000000) [hf:Fo l dk d A r] (hs:Sat w l) :
  Ret P F.a3 #[.pointer (some ⟨d,0,none⟩),.string n,ps.v] w fun vs w'=>vs=[.int .i64 (appendA A n bs.flatten).1]∧Sat w' (dk d (appendA A n bs.flatten).2::r) :=
 zf4_calls _ n ps <| by
  unfold zf4 appendA
  have hxl:=hbs.length
  have hok0:okA A:=by obtain ⟨m,FS,hp,hok,hs⟩:=dk_open (hs.perm hf.perm);exact hok
  have hfr:A.free≤4194304:=by have:=hok0.room;unfold DiskA.free;omega
  refine may_if hs (fun hg w' hs=>?_) fun hg w' hs=>?_
  ·rw [if_pos hg];exact ⟨rfl,hs⟩
  rw [if_neg (by rw [hg];simp)]
  have hpl:=hs.slen ps (xs:=xs) (enc:=encL)
  refine wp_call (name_c n hs) fun _ _ hs=>?_
  obtain ⟨rfl,hs⟩:=hs
  refine ret_of ?_
  refine wp_if (fun h=>?_) fun h=>?_
  ·have h:nameF n=false:=by simpa using h
   rw [if_pos h];exact ⟨rfl,rfl,hs⟩
  have hn:nameF n=true:=by simpa using h
  rw [if_neg (by rw [hn];simp)]
  refine wp_mid (fun v w'=>bs.flatten.length≤A.free∧v=(((bs.flatten.length:Nat):Int),())∧Sat w' (dk d A::r)) ?_ ?_
  ·refine wp_loop (fun k v w=>∃ i:Nat,v=((((bs.take i).flatten.length:Nat):Int),(i:Int),())∧i≤xs.length∧xs.length-i=k∧(bs.take i).flatten.length≤A.free∧Sat w (dk d A::r)) xs.length ⟨0,rfl,by omega,rfl,by simp,hs⟩ ?_
   clear hs
   rintro k _ w ⟨i,rfl,hi,hk,hsm,hs⟩
   refine wp_on ?_
   refine wp_if (fun hc=>?_) fun hc=>?_
   ·have hil:i<xs.length:=by omega
    have hib:i<bs.length:=by omega
    refine wp_ix1 hs i hil ?_
    have hrl:xs[i].len=bs[i].length:=(hbs.get i hil hib _ hs.tail).len (enc:=encU) (fun _=>rfl) (by decide)
    have hbi:=hsum _ (List.getElem_mem hib)
    refine wp_call (free_c hs) fun _ _ hs=>?_
    obtain ⟨rfl,hs⟩:=hs
    refine ret_of ?_
    have ew:IntKind.wrap .i64 ((A.free:Int)-((bs.take i).flatten.length:Nat))=(A.free:Int)-((bs.take i).flatten.length:Nat):=w64e
    rw [ew]
    refine wp_if (fun h3=>?_) fun h3=>?_
    ·refine wp_pass (wp_pass ?_)
     rw [if_pos]
     ·exact ⟨rfl,rfl,hs⟩
     ·left
      have h4:(bs.take (i+1)).flatten.length≤bs.flatten.length:=by
       have:=congrArg (fun l:List (List UInt8)=>l.flatten.length) (List.take_append_drop (i+1) bs)
       simp only [List.flatten_append,List.length_append] at this
       omega
      rw [flatten_take_succ hib,List.length_append] at h4
      omega
    ·refine wp_ltx (y:=(((bs.take (i+1)).flatten.length:Nat):Int)) ?_ ?_
     ·refine wp_dn (us':=[.int .i64 (((bs.take (i+1)).flatten.length:Nat):Int),.int .i64 ((i+1:Nat):Int)]) (by (try simp (disch:=omega) only [w64]);first|rfl|(congr;omega)) ?_
      refine wp_lp (xs.length-(i+1)) ?_
      refine ⟨i+1,rfl,by omega,rfl,?_,hs⟩
      rw [flatten_take_succ hib,List.length_append];omega
     ·rw [flatten_take_succ hib,List.length_append,w64 (by omega) (by omega)];omega
   ·refine wp_pass (wp_lv ?_)
    rw [List.take_of_length_le (by omega)] at hsm ⊢
    exact ⟨hsm,rfl,hs⟩
  clear hs
  rintro _ w ⟨hfit,rfl,hs⟩
  refine wp_on ?_
  obtain ⟨m,FS,hp,hok,hs⟩:=dk_open hs
  have hou:=hok.used
  have hor:=hok.room
  have hfit':=hfit
  unfold DiskA.free at hfit'
  (repeat (first|with_reducible (first|refine wp_on ?_|refine wp_nn ?_|refine wp_nng ?_|refine wp_ldO hs ?_|refine wp_ldG hs ?_|refine wp_untick ?_|refine wp_tk hs fun _ hs=>?_|refine wp_newO hs fun _ _ hs=>?_|refine wp_boxO hs fun _ _ hs=>?_|refine wp_stO hs fun _ hs=>?_|refine wp_stG hs fun _ hs=>?_)|(apply wp_must;(focus first|trivial|omega|assumption))|refine wp_ltw ?_|refine wp_lt ?_))
  have hnot:∀ (g:Bool),hasF A.fs n=g→¬ (g=false∧A.fs.length≥128)→(if bs.flatten.length>A.free∨(hasF A.fs n=false∧A.fs.length≥128) then ((5:Int),A) else
    (0,doneA { A with fs:=if hasF A.fs n then A.fs.map (updF n fun f=>{ f with b:=f.b++bs.flatten }) else insF ⟨n,bs.flatten,0⟩ A.fs })) =
    (0,doneA { A with fs:=if hasF A.fs n then A.fs.map (updF n fun f=>{ f with b:=f.b++bs.flatten }) else insF ⟨n,bs.flatten,0⟩ A.fs }):=fun g hg h=>by
   rw [if_neg]
   rintro (h1|⟨h1,h2⟩)
   ·omega
   ·exact h ⟨by rw [← hg,h1],h2⟩
  refine wp_lookOk hs (fun b hb=>?_) fun hb=>?_
  all_goals refine wp_lt ?_
  all_goals refine wp_mid (fun v w'=>∃ (t:FileM) (FS':List FileM) (fs1:List FileA),v=(some ⟨t.at_,0,none⟩,())∧t.f.name=n∧fs1.Perm (t.f::FS'.map FileM.f)∧(∀ g ∈ FS'.map FileM.f,g.name≠t.f.name)∧used fs1=used A.fs∧¬ (hasF A.fs n=false∧A.fs.length≥128) ∧
    fs1.map (updF n fun f=>{ f with b:=f.b++bs.flatten })=(if hasF A.fs n then A.fs.map (updF n fun f=>{ f with b:=f.b++bs.flatten }) else insF ⟨n,bs.flatten,0⟩ A.fs) ∧
    Sat w' (pt t.at_ (.cells #[t.x.v,.int .i64 t.f.kept] T.a6)::slc T.a34 1 t.x (t.f.b.flatMap encU)::HP.all (FS'.map fileP)::pt d (.cells #[.int .i64 A.left,.bool A.gone,.int .i64 A.room,.int .i64 (used A.fs),.map (some m)] T.a5)::mapP ekS evF m ((t::FS').map fun t=>(t.f.name,t.at_))::r)) ?_ ?_
  ·obtain ⟨t,ht,rfl,rfl,hA⟩:=in_fs hp hb
   have hhas:hasF A.fs t.f.name=true:=hasF_iff.2 ⟨_,hA,rfl⟩
   refine wp_ifF ?_ (by simp)
   obtain ⟨FS',hpm,hs⟩:=file_open hs ht
   obtain ⟨h1,h2,-⟩:=apart hp hok hpm
   refine wp_lv ?_
   refine ⟨t,FS',A.fs,rfl,rfl,h1,h2,rfl,by rw [hhas];simp,by rw [if_pos hhas],?_⟩
   have hs:=(hs.pick [4]).mapPerm (hpm.map fun t=>(t.f.name,t.at_))
   exact hs.sub
  rotate_left
  ·have hno:=not_fs hp hb
   have hhas:=hasF_not.2 hno
   refine wp_ifT ?_ (by simp)
   (repeat (first|with_reducible (first|refine wp_on ?_|refine wp_nn ?_|refine wp_nng ?_|refine wp_ldO hs ?_|refine wp_ldG hs ?_|refine wp_untick ?_|refine wp_tk hs fun _ hs=>?_|refine wp_newO hs fun _ _ hs=>?_|refine wp_boxO hs fun _ _ hs=>?_|refine wp_stO hs fun _ hs=>?_|refine wp_stG hs fun _ hs=>?_)|(apply wp_must;(focus first|trivial|omega|assumption))|refine wp_ltw ?_|refine wp_lt ?_))
   refine wp_mlen hs ?_
   have hml:(FS.map fun t=>(t.f.name,t.at_)).length=A.fs.length:=by rw [List.length_map,← hp.length_eq,List.length_map]
   rw [hml]
   refine wp_if (fun h3=>?_) fun h3=>?_
   ·refine wp_pass ?_
    rw [if_pos (.inr ⟨hhas,by omega⟩)]
    exact ⟨rfl,rfl,dk_close m hp hok hs⟩
   refine wp_boxO hs fun a w' hs=>?_
   (repeat (first|with_reducible (first|refine wp_on ?_|refine wp_nn ?_|refine wp_nng ?_|refine wp_ldO hs ?_|refine wp_ldG hs ?_|refine wp_untick ?_|refine wp_tk hs fun _ hs=>?_|refine wp_newO hs fun _ _ hs=>?_|refine wp_boxO hs fun _ _ hs=>?_|refine wp_stO hs fun _ hs=>?_|refine wp_stG hs fun _ hs=>?_)|(apply wp_must;(focus first|trivial|omega|assumption))|refine wp_ltw ?_|refine wp_lt ?_))
   refine wp_mset hs (FS.map fun t=>(t.f.name,t.at_)) (.inr ⟨hb,rfl⟩) a fun w' hs=>?_
   refine wp_lv ?_
   refine ⟨⟨a,⟨none,0,0⟩,⟨n,[],0⟩⟩,FS,insF ⟨n,[],0⟩ A.fs,rfl,rfl,(insF_perm _ _).trans (.cons _ hp.symm),fun g hg=>hno g (hp.mem_iff.1 hg),?_,by omega,?_,?_⟩
   ·rw [used_perm (insF_perm _ _),used_cons];exact Nat.zero_add _
   ·rw [if_neg (by rw [hhas];simp)]
    exact insF_upd ⟨n,[],0⟩ (fun f=>{ f with b:=f.b++bs.flatten }) rfl hno
   ·exact (hs.slc_nil (T:=T.a34) (sz:=1)).pick [2,0,2,1,0]
  all_goals clear hs
  all_goals rintro _ w ⟨t,FS',fs1,rfl,htn,h1,h2,hus,hno,hfin,hs⟩
  all_goals refine wp_on ?_
  all_goals rw [hnot _ rfl hno,← hfin]
  all_goals subst htn
  all_goals refine wp_mid (fun _ w'=>∃ x1:Sl,Sat w' (pt t.at_ (.cells #[x1.v,.int .i64 t.f.kept] T.a6)::slc T.a34 1 x1 ((t.f.b++bs.flatten).flatMap encU)::HP.all (FS'.map fileP)::pt d (.cells #[.int .i64 A.left,.bool A.gone,.int .i64 A.room,.int .i64 (used A.fs),.map (some m)] T.a5)::mapP ekS evF m ((t::FS').map fun t=>(t.f.name,t.at_))::r)) ?_ ?_
  ·refine wp_loop (fun k v w=>∃ (i:Nat) (x1:Sl),v=((i:Int),())∧i≤xs.length∧xs.length-i=k∧Sat w (pt t.at_ (.cells #[x1.v,.int .i64 t.f.kept] T.a6)::slc T.a34 1 x1 ((t.f.b++(bs.take i).flatten).flatMap encU)::HP.all (FS'.map fileP)::pt d (.cells #[.int .i64 A.left,.bool A.gone,.int .i64 A.room,.int .i64 (used A.fs),.map (some m)] T.a5)::mapP ekS evF m ((t::FS').map fun t=>(t.f.name,t.at_))::r)) xs.length ⟨0,t.x,rfl,by omega,rfl,by simpa using hs⟩ ?_
   clear hs
   rintro k _ w ⟨i,x1,rfl,hi,hk,hs⟩
   refine wp_on ?_
   refine wp_if (fun hc=>?_) fun hc=>?_
   ·have hil:i<xs.length:=by omega
    have hib:i<bs.length:=by omega
    refine wp_ix1 hs i hil ?_
    have hrd:FocR r xs[i] 1 (bs[i].flatMap encU):=⟨hbs.get i hil hib⟩
    have hbi:=hsum _ (List.getElem_mem hib)
    have hsm:(bs.take i).flatten.length≤bs.flatten.length:=by
     have:=congrArg (fun l:List (List UInt8)=>l.flatten.length) (List.take_append_drop i bs)
     simp only [List.flatten_append,List.length_append] at this
     omega
    have htb:t.f.b.length≤used fs1:=used_mem (h1.mem_iff.2 (List.mem_cons_self ..))
    (repeat (first|with_reducible (first|refine wp_on ?_|refine wp_nn ?_|refine wp_nng ?_|refine wp_ldO hs ?_|refine wp_ldG hs ?_|refine wp_untick ?_|refine wp_tk hs fun _ hs=>?_|refine wp_newO hs fun _ _ hs=>?_|refine wp_boxO hs fun _ _ hs=>?_|refine wp_stO hs fun _ hs=>?_|refine wp_stG hs fun _ hs=>?_)|(apply wp_must;(focus first|trivial|omega|assumption))|refine wp_ltw ?_|refine wp_lt ?_))
    refine wp_app' hs (xs:=t.f.b++(bs.take i).flatten) (ys:=bs[i]) (enc:=encU) (fun z w' hs=>?_) (by rw [List.length_append];omega)
    (repeat (first|with_reducible (first|refine wp_on ?_|refine wp_nn ?_|refine wp_nng ?_|refine wp_ldO hs ?_|refine wp_ldG hs ?_|refine wp_untick ?_|refine wp_tk hs fun _ hs=>?_|refine wp_newO hs fun _ _ hs=>?_|refine wp_boxO hs fun _ _ hs=>?_|refine wp_stO hs fun _ hs=>?_|refine wp_stG hs fun _ hs=>?_)|(apply wp_must;(focus first|trivial|omega|assumption))|refine wp_ltw ?_|refine wp_lt ?_))
    refine wp_dn (us':=[.int .i64 ((i+1:Nat):Int)]) (by (try simp (disch:=omega) only [w64]);first|rfl|(congr;omega)) ?_
    refine wp_lp (xs.length-(i+1)) ?_
    refine ⟨i+1,z,rfl,by omega,rfl,?_⟩
    rw [flatten_take_succ hib,← List.append_assoc]
    exact hs.sub
   ·refine wp_pass (wp_lv ⟨x1,?_⟩)
    rwa [List.take_of_length_le (l:=bs) (by omega)] at hs
  rotate_left
  ·refine wp_loop (fun k v w=>∃ (i:Nat) (x1:Sl),v=((i:Int),())∧i≤xs.length∧xs.length-i=k∧Sat w (pt t.at_ (.cells #[x1.v,.int .i64 t.f.kept] T.a6)::slc T.a34 1 x1 ((t.f.b++(bs.take i).flatten).flatMap encU)::HP.all (FS'.map fileP)::pt d (.cells #[.int .i64 A.left,.bool A.gone,.int .i64 A.room,.int .i64 (used A.fs),.map (some m)] T.a5)::mapP ekS evF m ((t::FS').map fun t=>(t.f.name,t.at_))::r)) xs.length ⟨0,t.x,rfl,by omega,rfl,by simpa using hs⟩ ?_
   clear hs
   rintro k _ w ⟨i,x1,rfl,hi,hk,hs⟩
   refine wp_on ?_
   refine wp_if (fun hc=>?_) fun hc=>?_
   ·have hil:i<xs.length:=by omega
    have hib:i<bs.length:=by omega
    refine wp_ix1 hs i hil ?_
    have hrd:FocR r xs[i] 1 (bs[i].flatMap encU):=⟨hbs.get i hil hib⟩
    have hbi:=hsum _ (List.getElem_mem hib)
    have hsm:(bs.take i).flatten.length≤bs.flatten.length:=by
     have:=congrArg (fun l:List (List UInt8)=>l.flatten.length) (List.take_append_drop i bs)
     simp only [List.flatten_append,List.length_append] at this
     omega
    have htb:t.f.b.length≤used fs1:=used_mem (h1.mem_iff.2 (List.mem_cons_self ..))
    (repeat (first|with_reducible (first|refine wp_on ?_|refine wp_nn ?_|refine wp_nng ?_|refine wp_ldO hs ?_|refine wp_ldG hs ?_|refine wp_untick ?_|refine wp_tk hs fun _ hs=>?_|refine wp_newO hs fun _ _ hs=>?_|refine wp_boxO hs fun _ _ hs=>?_|refine wp_stO hs fun _ hs=>?_|refine wp_stG hs fun _ hs=>?_)|(apply wp_must;(focus first|trivial|omega|assumption))|refine wp_ltw ?_|refine wp_lt ?_))
    refine wp_app' hs (xs:=t.f.b++(bs.take i).flatten) (ys:=bs[i]) (enc:=encU) (fun z w' hs=>?_) (by rw [List.length_append];omega)
    (repeat (first|with_reducible (first|refine wp_on ?_|refine wp_nn ?_|refine wp_nng ?_|refine wp_ldO hs ?_|refine wp_ldG hs ?_|refine wp_untick ?_|refine wp_tk hs fun _ hs=>?_|refine wp_newO hs fun _ _ hs=>?_|refine wp_boxO hs fun _ _ hs=>?_|refine wp_stO hs fun _ hs=>?_|refine wp_stG hs fun _ hs=>?_)|(apply wp_must;(focus first|trivial|omega|assumption))|refine wp_ltw ?_|refine wp_lt ?_))
    refine wp_dn (us':=[.int .i64 ((i+1:Nat):Int)]) (by (try simp (disch:=omega) only [w64]);first|rfl|(congr;omega)) ?_
    refine wp_lp (xs.length-(i+1)) ?_
    refine ⟨i+1,z,rfl,by omega,rfl,?_⟩
    rw [flatten_take_succ hib,← List.append_assoc]
    exact hs.sub
   ·refine wp_pass (wp_lv ⟨x1,?_⟩)
    rwa [List.take_of_length_le (l:=bs) (by omega)] at hs
  all_goals clear hs
  all_goals rintro _ w ⟨x1,hs⟩
  all_goals refine wp_on ?_
  all_goals have hu3:=used_upd (g:=fun f=>{ f with b:=f.b++bs.flatten }) h1 h2
  all_goals have hu4:used fs1=t.f.b.length+used (FS'.map FileM.f):=by rw [used_perm h1,used_cons]
  all_goals have hu5:used (fs1.map (updF t.f.name fun f=>{ f with b:=f.b++bs.flatten }))=used A.fs+bs.flatten.length:=by (rw [hu3];show (t.f.b++bs.flatten).length+_=_;rw [List.length_append];omega)
  all_goals have ew:IntKind.wrap .i64 (((used A.fs:Nat):Int)+((bs.flatten.length:Nat):Int))=((used (fs1.map (updF t.f.name fun f=>{ f with b:=f.b++bs.flatten })):Nat):Int):=by rw [hu5,w64 (by omega) (by omega)];omega
  all_goals refine wp_nn ?_
  all_goals refine wp_ldO hs ?_
  all_goals rw [ew]
  all_goals (repeat (first|with_reducible (first|refine wp_on ?_|refine wp_nn ?_|refine wp_nng ?_|refine wp_ldO hs ?_|refine wp_ldG hs ?_|refine wp_untick ?_|refine wp_tk hs fun _ hs=>?_|refine wp_newO hs fun _ _ hs=>?_|refine wp_boxO hs fun _ _ hs=>?_|refine wp_stO hs fun _ hs=>?_|refine wp_stG hs fun _ hs=>?_)|(apply wp_must;(focus first|trivial|omega|assumption))|refine wp_ltw ?_|refine wp_lt ?_))
  all_goals have hs:=file_close (FS:=FS') ⟨t.at_,x1,{ t.f with b:=t.f.b++bs.flatten }⟩ hs
  all_goals have hp':(((⟨t.at_,x1,{ t.f with b:=t.f.b++bs.flatten }⟩:FileM)::FS').map FileM.f).Perm (fs1.map (updF t.f.name fun f=>{ f with b:=f.b++bs.flatten })):=(map_updF_perm (g:=fun f=>{ f with b:=f.b++bs.flatten }) h1 h2).symm
  all_goals have hok':=okA_append hok hn hfit hno
  all_goals rw [← hfin] at hok'
  all_goals have hs:Sat _ (mapP ekS evF m (((⟨t.at_,x1,{ t.f with b:=t.f.b++bs.flatten }⟩:FileM)::FS').map fun t=>(t.f.name,t.at_))::_):=hs.pick [2]
  all_goals rw [hg] at hs
  all_goals refine wp_call (spend_dk (l':=r) hg hok' hp' hs) fun _ _ hs=>?_
  all_goals obtain ⟨rfl,hs⟩:=hs
  all_goals refine ret_of ?_
  all_goals exact ⟨rfl,rfl,hs⟩
end
theorem used_map {fs:List FileA} {g:FileA→FileA} (hb:∀ f,(g f).b=f.b):used (fs.map g)=used fs:=by
 unfold used
 rw [List.map_map]
 congr 1
 exact List.map_congr_left fun f _=>by show (g f).b.length=_;rw [hb]
theorem okA_map {A:DiskA} (hok:okA A) {g:FileA→FileA} (hn:∀ f,(g f).name=f.name) (hb:∀ f,(g f).b=f.b) (hk:∀ f,f.kept≤f.b.length→(g f).kept≤f.b.length):okA { A with fs:=A.fs.map g }:=by
 refine ⟨hok.room,by show used (A.fs.map g)≤_;rw [used_map hb];exact hok.used,by show (A.fs.map g).length≤_;rw [List.length_map];exact hok.many,hok.left,sorted_map hn hok.sorted,fun f hf=>?_,fun f hf=>?_⟩
 ·obtain ⟨f,hf',rfl⟩:=List.mem_map.1 hf
  rw [hb];exact hk f (hok.kept f hf')
 ·obtain ⟨f,hf',rfl⟩:=List.mem_map.1 hf
  rw [hn];exact hok.names f hf'
def wholeF (f:FileA):FileA:={ f with kept:=f.b.length }
def markF (ns:List ByteArray) (f:FileA):FileA:=if ns.any (fun m=>decide (m=f.name)) then wholeF f else f
theorem markF_name (ns:List ByteArray) (f:FileA):(markF ns f).name=f.name:=by unfold markF;split <;> rfl
theorem markF_b (ns:List ByteArray) (f:FileA):(markF ns f).b=f.b:=by unfold markF;split <;> rfl
theorem markF_kept (ns:List ByteArray) (f:FileA) (h:f.kept≤f.b.length):(markF ns f).kept≤f.b.length:=by
 unfold markF;split
 ·exact Nat.le_refl _
 ·exact h
theorem markF_nil:markF []=id:=by funext f;simp [markF]
theorem markF_step (ns:List ByteArray) (n:ByteArray) (f:FileA):updF n wholeF (markF ns f)=markF (ns++[n]) f:=by
 unfold updF
 rw [markF_name]
 unfold markF
 rw [List.any_append]
 by_cases h1:f.name=n
 ·rw [if_pos h1]
  have:(ns.any (fun m=>decide (m=f.name)) || [n].any (fun m=>decide (m=f.name)))=true:=by simp [h1]
  rw [if_pos this]
  split <;> rfl
 ·rw [if_neg h1]
  have:(ns.any (fun m=>decide (m=f.name)) || [n].any (fun m=>decide (m=f.name)))=ns.any (fun m=>decide (m=f.name)):=by simp [Ne.symm h1]
  rw [this]
theorem preF_nil (s:ByteArray):Go.Proofs.YtfnldnodhfkojaaGreat.preF (ByteArray.mk #[]) s=true:=by
 unfold Go.Proofs.YtfnldnodhfkojaaGreat.preF
 rw [show (ByteArray.mk #[]).toList=[] from by rw [ByteArray.toList_eq]]
 rfl
theorem namesF_all (fs:List FileA):namesF (ByteArray.mk #[]) fs=fs.map (·.name):=List.filter_eq_self.2 fun s _=>preF_nil s
theorem mark_all (fs:List FileA):fs.map (markF (fs.map (·.name)))=fs.map (syncF []):=by
 refine List.map_congr_left fun f hf=>?_
 unfold markF syncF
 rw [if_pos (show ((fs.map (·.name)).any fun m=>decide (m=f.name))=true by simp;exact ⟨f,hf,rfl⟩),if_pos (show asked [] f.name=true from rfl)]
 rfl
theorem mark_some {ns:List ByteArray} (h:ns≠[]) (fs:List FileA):fs.map (markF ns)=fs.map (syncF ns):=by
 refine List.map_congr_left fun f hf=>?_
 have e:asked ns f.name=ns.any (fun m=>decide (m=f.name)):=by
  unfold asked
  cases ns with
  | nil=>exact absurd rfl h
  | cons _ _=>rfl
 unfold markF syncF
 rw [e];rfl
theorem hasF_map {fs:List FileA} {g:FileA→FileA} (hn:∀ f,(g f).name=f.name) (n:ByteArray):hasF (fs.map g) n=hasF fs n:=by
 unfold hasF
 rw [List.any_map]
 congr 1
 funext f
 show decide ((g f).name=n)=_
 rw [hn]
section
variable {w:World} {l r r0:List HP} {d:Nat} {A:DiskA}
theorem sync_c (nx:Sl) (ns:List ByteArray) [hns:FocR r nx 1 (ns.flatMap encT)] (hlen:ns.length≤100000) [hf:Fo l dk d A r] (hs:Sat w l) :
  Ret P F.a10 #[.pointer (some ⟨d,0,none⟩),nx.v] w fun vs w'=>vs=[.int .i64 (syncA A ns).1]∧Sat w' (dk d (syncA A ns).2::r) :=
 zf10_calls _ nx <| by
  unfold zf10 syncA
  refine may_if hs (fun hg w' hs=>?_) fun hg w' hs=>?_
  ·rw [if_pos hg];exact ⟨rfl,hs⟩
  rw [if_neg (by rw [hg];simp)]
  have hpl:=hs.slen nx (xs:=ns) (enc:=encT)
  have hok0:okA A:=by obtain ⟨m,FS,hp,hok,hs⟩:=dk_open hs;exact hok
  refine wp_mid (fun v w'=>ns.all (hasF A.fs)=true∧Sat w' (dk d A::r)) ?_ ?_
  ·refine wp_loop (fun k v w=>∃ i:Nat,v=((i:Int),())∧i≤ns.length∧ns.length-i=k∧(ns.take i).all (hasF A.fs)=true∧Sat w (dk d A::r)) ns.length ⟨0,rfl,by omega,rfl,rfl,hs⟩ ?_
   clear hs
   rintro k _ w ⟨i,rfl,hi,hk,hall,hs⟩
   refine wp_on ?_
   refine wp_if (fun hc=>?_) fun hc=>?_
   ·have hil:i<ns.length:=by omega
    refine wp_ix1 hs i hil ?_
    have htk:(ns.take (i+1)).all (hasF A.fs)=hasF A.fs ns[i]:=by
     rw [List.take_add_one,List.getElem?_eq_getElem hil,List.all_append,hall];simp
    obtain ⟨m,FS,hp,hok,hs⟩:=dk_open hs
    (repeat (first|with_reducible (first|refine wp_on ?_|refine wp_nn ?_|refine wp_nng ?_|refine wp_ldO hs ?_|refine wp_ldG hs ?_|refine wp_untick ?_|refine wp_tk hs fun _ hs=>?_|refine wp_newO hs fun _ _ hs=>?_|refine wp_boxO hs fun _ _ hs=>?_|refine wp_stO hs fun _ hs=>?_|refine wp_stG hs fun _ hs=>?_)|(apply wp_must;(focus first|trivial|omega|assumption))|refine wp_ltw ?_|refine wp_lt ?_))
    refine wp_look hs (fun b hb=>?_) fun hb=>?_
    ·obtain ⟨t,ht,rfl,hnm,hA⟩:=in_fs hp hb
     refine wp_ifF ?_ (by simp)
     refine wp_dn (us':=[.int .i64 ((i+1:Nat):Int)]) (by (try simp (disch:=omega) only [w64]);first|rfl|(congr;omega)) ?_
     refine wp_lp (ns.length-(i+1)) ?_
     exact ⟨i+1,rfl,by omega,rfl,by rw [htk];exact hasF_iff.2 ⟨_,hA,hnm⟩,dk_close m hp hok hs⟩
    ·refine wp_ifT ?_ (by rfl)
     refine wp_pass (wp_pass ?_)
     have:ns.all (hasF A.fs)=false:=by
      rw [← List.take_append_drop (i+1) ns,List.all_append,htk,hasF_not.2 (not_fs hp hb)];rfl
     rw [if_pos this]
     exact ⟨rfl,rfl,dk_close m hp hok hs⟩
   ·refine wp_pass (wp_lv ⟨?_,hs⟩)
    rwa [List.take_of_length_le (by omega)] at hall
  clear hs
  rintro _ w ⟨hall,hs⟩
  refine wp_on ?_
  rw [if_neg (by rw [hall];simp)]
  refine wp_mid (fun v w'=>∃ (nx1:Sl) (ns1:List ByteArray) (r1:List HP),v=(nx1,())∧ns1.length≤100000∧ns1.all (hasF A.fs)=true∧A.fs.map (markF ns1)=A.fs.map (syncF ns)∧(∃ h:FocR (slc T.a31 1 nx1 (ns1.flatMap encT)::r) nx1 1 (ns1.flatMap encT),True) ∧
    (Sat w' (dk d A::r1))∧(r1=r∧(∃ _h:FocR r nx1 1 (ns1.flatMap encT),True)∨r1=slc T.a31 1 nx1 (ns1.flatMap encT)::r)) ?_ ?_
  ·refine wp_if (fun h=>?_) fun h=>?_
   ·have hnil:ns=[]:=List.length_eq_zero_iff.1 (by omega)
    subst hnil
    refine wp_call (names_c (ByteArray.mk #[]) hs) fun _ _ hs=>?_
    obtain ⟨x,rfl,hs⟩:=hs
    refine ret_of ?_
    refine wp_lv ?_
    refine ⟨x,namesF (ByteArray.mk #[]) A.fs,_,rfl,?_,?_,?_,⟨inferInstance,trivial⟩,(hs.pick [1]),.inr rfl⟩
    ·rw [namesF_all,List.length_map];have:=hok0.many;omega
    ·rw [namesF_all,List.all_map,List.all_eq_true]
     exact fun f hf=>hasF_iff.2 ⟨f,hf,rfl⟩
    ·rw [namesF_all];exact mark_all A.fs
   ·refine wp_lv ?_
    refine ⟨nx,ns,r,rfl,hlen,hall,mark_some (fun e=>by subst e;simp at hpl;omega) A.fs,⟨inferInstance,trivial⟩,hs,.inl ⟨rfl,hns,trivial⟩⟩
  clear hs
  rintro _ w ⟨nx1,ns1,r1,rfl,hlen1,hall1,hmark,-,hs,hr1⟩
  refine wp_on ?_
  have hR1:FocR r1 nx1 1 (ns1.flatMap encT):=by
   rcases hr1 with ⟨rfl,h,-⟩|rfl
   ·exact h
   ·infer_instance
  have hsub:∀ {H:HP} {w:World},Sat w (H::r1)→Sat w (H::r):=fun {H w} h=>by
   rcases hr1 with ⟨rfl,-⟩|rfl
   ·exact h
   ·exact h.sub
  have hpl1:=hs.slen nx1 (xs:=ns1) (enc:=encT)
  refine wp_mid (fun v w'=>Sat w' (dk d { A with fs:=A.fs.map (markF ns1) }::r1)) ?_ ?_
  ·refine wp_loop (fun k v w=>∃ i:Nat,v=((i:Int),())∧i≤ns1.length∧ns1.length-i=k∧Sat w (dk d { A with fs:=A.fs.map (markF (ns1.take i)) }::r1)) ns1.length ⟨0,rfl,by omega,rfl,by rw [List.take_zero,markF_nil,List.map_id];exact hs⟩ ?_
   clear hs
   rintro k _ w ⟨i,rfl,hi,hk,hs⟩
   refine wp_on ?_
   refine wp_if (fun hc=>?_) fun hc=>?_
   ·have hil:i<ns1.length:=by omega
    refine wp_ix1 hs i hil ?_
    obtain ⟨m,FS,hp,hok,hs⟩:=dk_open hs
    (repeat (first|with_reducible (first|refine wp_on ?_|refine wp_nn ?_|refine wp_nng ?_|refine wp_ldO hs ?_|refine wp_ldG hs ?_|refine wp_untick ?_|refine wp_tk hs fun _ hs=>?_|refine wp_newO hs fun _ _ hs=>?_|refine wp_boxO hs fun _ _ hs=>?_|refine wp_stO hs fun _ hs=>?_|refine wp_stG hs fun _ hs=>?_)|(apply wp_must;(focus first|trivial|omega|assumption))|refine wp_ltw ?_|refine wp_lt ?_))
    refine wp_look hs (fun b hb=>?_) fun hb=>?_
    ·obtain ⟨t,ht,rfl,hnm,hA⟩:=in_fs hp hb
     obtain ⟨FS',hpm,hs⟩:=file_open hs ht
     obtain ⟨h1,h2,-⟩:=apart hp hok hpm
     (repeat (first|with_reducible (first|refine wp_on ?_|refine wp_nn ?_|refine wp_nng ?_|refine wp_ldO hs ?_|refine wp_ldG hs ?_|refine wp_untick ?_|refine wp_tk hs fun _ hs=>?_|refine wp_newO hs fun _ _ hs=>?_|refine wp_boxO hs fun _ _ hs=>?_|refine wp_stO hs fun _ hs=>?_|refine wp_stG hs fun _ hs=>?_)|(apply wp_must;(focus first|trivial|omega|assumption))|refine wp_ltw ?_|refine wp_lt ?_))
     rw [hs.slen t.x (xs:=t.f.b) (enc:=encU)] at hs
     have hs:=file_close (FS:=FS') ⟨t.at_,t.x,wholeF t.f⟩ hs
     have hs:Sat _ (mapP ekS evF m (((⟨t.at_,t.x,wholeF t.f⟩:FileM)::FS').map fun t=>(t.f.name,t.at_))::_):=(hs.pick [2]).mapPerm (hpm.map fun t=>(t.f.name,t.at_))
     have hstep:(A.fs.map (markF (ns1.take i))).map (updF t.f.name wholeF)=A.fs.map (markF (ns1.take (i+1))):=by
      rw [List.map_map,List.take_add_one,List.getElem?_eq_getElem hil]
      refine List.map_congr_left fun f _=>?_
      show updF t.f.name wholeF (markF _ f)=_
      rw [markF_step,hnm];rfl
     have hp':(((⟨t.at_,t.x,wholeF t.f⟩:FileM)::FS').map FileM.f).Perm (A.fs.map (markF (ns1.take (i+1)))):=by
      rw [← hstep]
      exact (map_updF_perm (g:=wholeF) h1 h2).symm
     refine wp_dn (us':=[.int .i64 ((i+1:Nat):Int)]) (by (try simp (disch:=omega) only [w64]);first|rfl|(congr;omega)) ?_
     refine wp_lp (ns1.length-(i+1)) ?_
     refine ⟨i+1,rfl,by omega,rfl,?_⟩
     exact dk_close m (A:={ A with fs:=A.fs.map (markF (ns1.take (i+1))) }) hp' (okA_map hok0 (markF_name _) (markF_b _) (markF_kept _)) hs (by rw [used_map (markF_b _),used_map (markF_b _)])
    ·exfalso
     have h3:=hasF_not.2 (not_fs hp hb)
     have h4:hasF A.fs ns1[i]=true:=List.all_eq_true.1 hall1 _ (List.getElem_mem hil)
     rw [hasF_map (markF_name _),h4] at h3
     cases h3
   ·refine wp_pass (wp_lv ?_)
    rwa [List.take_of_length_le (by omega)] at hs
  clear hs
  rintro _ w hs
  refine wp_on ?_
  rw [hmark] at hs
  obtain ⟨m,FS,hp,hok,hs⟩:=dk_open (hsub hs)
  have hs:Sat w (pt d (.cells #[.int .i64 A.left,.bool A.gone,.int .i64 A.room,.int .i64 (used (A.fs.map (syncF ns))),.map (some m)] T.a5)::_):=hs
  (repeat (first|with_reducible (first|refine wp_on ?_|refine wp_nn ?_|refine wp_nng ?_|refine wp_ldO hs ?_|refine wp_ldG hs ?_|refine wp_untick ?_|refine wp_tk hs fun _ hs=>?_|refine wp_newO hs fun _ _ hs=>?_|refine wp_boxO hs fun _ _ hs=>?_|refine wp_stO hs fun _ hs=>?_|refine wp_stG hs fun _ hs=>?_)|(apply wp_must;(focus first|trivial|omega|assumption))|refine wp_ltw ?_|refine wp_lt ?_))
  rw [hg] at hs
  refine wp_call (spend_dk (l':=r) (A:=A) hg hok hp hs) fun _ _ hs=>?_
  obtain ⟨rfl,hs⟩:=hs
  refine ret_of ?_
  exact ⟨rfl,rfl,hs⟩
end
theorem used_sub {a b:List FileA} (h:a.Sublist b):used a≤used b:=by
 induction h with
 | slnil=>exact Nat.le_refl _
 | cons x _ ih=>rw [used_cons];omega
 | cons_cons x _ ih=>rw [used_cons,used_cons];omega
theorem okA_sub {A:DiskA} (hok:okA A) {fs:List FileA} (h:fs.Sublist A.fs):okA { A with fs:=fs } :=
 ⟨hok.room,Nat.le_trans (used_sub h) hok.used,Nat.le_trans h.length_le hok.many,hok.left,hok.sorted.sublist h,fun f hf=>hok.kept f (h.mem hf),fun f hf=>hok.names f (h.mem hf)⟩
def fileD (fs:List FileA) (n:ByteArray):Option (List UInt8 × Nat):=(fs.find? fun f=>decide (f.name=n)).map fun f=>(f.b,f.kept)
theorem fileD_nil (n:ByteArray):fileD [] n=none:=rfl
theorem fileD_cons (f:FileA) (fs:List FileA) (n:ByteArray):fileD (f::fs) n=if f.name=n then some (f.b,f.kept) else fileD fs n:=by
 unfold fileD
 rw [List.find?_cons]
 by_cases h:f.name=n
 ·simp [h]
 ·simp [h]
theorem fileD_none {fs:List FileA} {n:ByteArray}:fileD fs n=none↔∀ f ∈ fs,f.name≠n:=by
 unfold fileD
 rw [Option.map_eq_none_iff,List.find?_eq_none]
 simp
theorem fileD_mem {fs:List FileA} {f:FileA} (hn:(fs.map (·.name)).Nodup) (h:f ∈ fs):fileD fs f.name=some (f.b,f.kept):=by
 unfold fileD
 rw [find_name hn h rfl]
 rfl
theorem fileD_some {fs:List FileA} {n:ByteArray} {p:List UInt8 × Nat} (h:fileD fs n=some p):(⟨n,p.1,p.2⟩:FileA) ∈ fs:=by
 unfold fileD at h
 rw [Option.map_eq_some_iff] at h
 obtain ⟨f,hf,rfl⟩:=h
 have h1:=List.mem_of_find?_eq_some hf
 have h2:=List.find?_some hf
 have h2:f.name=n:=by simpa using h2
 subst h2
 exact h1
theorem hasF_fileD {fs:List FileA} {n:ByteArray}:hasF fs n=(fileD fs n).isSome:=by
 unfold hasF fileD
 rw [Option.isSome_map,Bool.eq_iff_iff,List.any_eq_true,List.find?_isSome]
theorem lenF_fileD {fs:List FileA} {n:ByteArray} {p:List UInt8 × Nat} (h:fileD fs n=some p):lenF fs n=p.1.length:=by
 unfold fileD at h
 unfold lenF
 cases hf:fs.find? fun f=>decide (f.name=n) with
 | none=>rw [hf] at h;cases h
 | some f=>rw [hf] at h;simp only [Option.map_some,Option.some.injEq] at h;subst h;rfl
theorem fileD_upd (n:ByteArray) (g:FileA→FileA) (hg:∀ f,(g f).name=f.name) (m:ByteArray):∀ fs:List FileA,
  fileD (fs.map (updF n g)) m=if m=n then (fileD fs n).map fun p=>((g ⟨n,p.1,p.2⟩).b,(g ⟨n,p.1,p.2⟩).kept) else fileD fs m
 | []=>by simp [fileD_nil]
 | f::fs=>by
  rw [List.map_cons,fileD_cons,fileD_upd n g hg m fs,fileD_cons,fileD_cons,updF_name hg]
  by_cases h1:m=n
  ·subst h1
   rw [if_pos rfl,if_pos rfl]
   by_cases h2:f.name=m
   ·rw [if_pos h2,if_pos h2]
    subst h2
    unfold updF
    rw [if_pos rfl]
    rfl
   ·rw [if_neg h2,if_neg h2]
  ·rw [if_neg h1,if_neg h1]
   by_cases h2:f.name=m
   ·rw [if_pos h2,if_pos h2]
    unfold updF
    rw [if_neg (by rw [h2];exact h1)]
   ·rw [if_neg h2,if_neg h2]
theorem fileD_ins (x:FileA) (m:ByteArray):∀ {fs:List FileA},(∀ f ∈ fs,f.name≠x.name)→fileD (insF x fs) m=if m=x.name then some (x.b,x.kept) else fileD fs m
 | [],_=>by
  show fileD [x] m=_
  rw [fileD_cons]
  by_cases h:m=x.name
  ·rw [if_pos h.symm,if_pos h]
  ·rw [if_neg h,if_neg fun e=>h e.symm]
 | f::fs,h=>by
  have hf:=h f (List.mem_cons_self ..)
  have ih:=fileD_ins x m (fs:=fs) fun g hg=>h g (List.mem_cons_of_mem _ hg)
  unfold insF
  split
  ·rw [fileD_cons]
   by_cases h:m=x.name
   ·rw [if_pos h.symm,if_pos h]
   ·rw [if_neg h,if_neg fun e=>h e.symm]
  ·rw [fileD_cons,ih,fileD_cons]
   by_cases h:m=x.name
   ·subst h;simp [hf]
   ·rw [if_neg h,if_neg h]
theorem fileD_drop (n m:ByteArray):∀ fs:List FileA,fileD (dropF n fs) m=if m=n then none else fileD fs m
 | []=>by simp [dropF,fileD_nil]
 | f::fs=>by
  have ih:=fileD_drop n m fs
  unfold dropF at ih ⊢
  rw [List.filter_cons]
  by_cases h:f.name=n
  ·rw [if_neg (by simp [h]),ih,fileD_cons]
   by_cases h2:m=n
   ·rw [if_pos h2,if_pos h2]
   ·rw [if_neg h2,if_neg h2,if_neg (by rw [h];exact fun e=>h2 e.symm)]
  ·rw [if_pos (by simp [h]),fileD_cons,ih,fileD_cons]
   by_cases h2:m=n
   ·subst h2;simp [h]
   ·rw [if_neg h2,if_neg h2]
theorem fileD_sync (ns:List ByteArray) (m:ByteArray):∀ fs:List FileA,fileD (fs.map (syncF ns)) m=(fileD fs m).map fun p=>if asked ns m then (p.1,p.1.length) else p
 | []=>rfl
 | f::fs=>by
  have hn:(syncF ns f).name=f.name:=by unfold syncF;split <;> rfl
  rw [List.map_cons,fileD_cons,fileD_sync ns m fs,fileD_cons,hn]
  by_cases h:f.name=m
  ·subst h
   rw [if_pos rfl,if_pos rfl]
   unfold syncF
   split
   ·rename_i h;simp [h]
   ·rename_i h;simp [h]
  ·rw [if_neg h,if_neg h]
theorem append_err {A:DiskA} {n:ByteArray} {bs:List UInt8} (h:(appendA A n bs).1≠0):(appendA A n bs).2=A:=by
 unfold appendA at h ⊢
 split
 ·rfl
 ·split
  ·rfl
  ·split
   ·rfl
   ·rename_i h1 h2 h3
    rw [if_neg h1,if_neg h2,if_neg h3] at h
    exact absurd rfl h
theorem append_ok {A:DiskA} {n:ByteArray} {bs:List UInt8} (hok:okA A) (h:(appendA A n bs).1=0):A.gone=false∧nameF n=true∧bs.length≤A.free∧okA (appendA A n bs).2 ∧
  (appendA A n bs).2.room=A.room∧used (appendA A n bs).2.fs=used A.fs+bs.length ∧
  ∀ m,fileD (appendA A n bs).2.fs m=if m=n then some (((fileD A.fs n).map Prod.fst).getD []++bs,((fileD A.fs n).map Prod.snd).getD 0) else fileD A.fs m:=by
 unfold appendA at h ⊢
 split at h
 ·cases h
 rename_i h1
 split at h
 ·cases h
 rename_i h2
 split at h
 ·cases h
 rename_i h3
 rw [if_neg h1,if_neg h2,if_neg h3]
 have hn:nameF n=true:=by simpa using h2
 have h4:=okA_append hok hn (bs:=bs) (by omega) (fun hh=>h3 (.inr hh))
 refine ⟨by simpa using h1,hn,by omega,okA_done h4,by rw [doneA_room],?_,fun m=>?_⟩
 ·rw [doneA_fs]
  show used (if hasF A.fs n=true then _ else _)=_
  have hnd:=names_nodup hok.sorted
  split
  ·rename_i hh
   obtain ⟨f,hf,rfl⟩:=hasF_iff.1 hh
   obtain ⟨s,u,hsu⟩:=List.append_of_mem hf
   have hp:A.fs.Perm (f::(s++u)):=by rw [hsu];exact List.perm_middle
   have hne:∀ g ∈ s++u,g.name≠f.name:=fun g hg e=>by
    have h5:=(hp.map (·.name)).nodup_iff.1 hnd
    rw [List.map_cons,List.nodup_cons] at h5
    exact h5.1 (List.mem_map.2 ⟨g,hg,e⟩)
   rw [used_upd hp hne,used_perm hp,used_cons,List.length_append]
   omega
  ·rw [used_perm (insF_perm _ _),used_cons]
   show bs.length+_=_
   omega
 ·rw [doneA_fs]
  show fileD (if hasF A.fs n=true then _ else _) m=_
  split
  ·rename_i hh
   rw [fileD_upd n (fun f=>{ f with b:=f.b++bs }) (fun f=>rfl)]
   by_cases hm:m=n
   ·rw [if_pos hm,if_pos hm]
    rw [hasF_fileD] at hh
    obtain ⟨p,hp⟩:=Option.isSome_iff_exists.1 hh
    rw [hp]
    rfl
   ·rw [if_neg hm,if_neg hm]
  ·rename_i hh
   have hh:hasF A.fs n=false:=by simpa using hh
   rw [fileD_ins _ _ (hasF_not.1 hh)]
   by_cases hm:m=n
   ·rw [if_pos hm,if_pos hm,fileD_none.2 (hasF_not.1 hh)]
    rfl
   ·rw [if_neg hm,if_neg hm]
theorem append_goes {A:DiskA} {n:ByteArray} {bs:List UInt8} (hg:A.gone=false) (hn:nameF n=true) (hb:bs.length≤A.free) (hf:fileD A.fs n≠none∨A.fs.length<128):(appendA A n bs).1=0:=by
 unfold appendA
 rw [if_neg (by rw [hg];simp),if_neg (by rw [hn];simp),if_neg]
 rintro (h|⟨h1,h2⟩)
 ·omega
 ·rcases hf with hf|hf
  ·rw [hasF_fileD] at h1
   cases hq:fileD A.fs n with
   | none=>exact hf hq
   | some q=>rw [hq] at h1;cases h1
  ·omega
theorem append_errs {A:DiskA} {n:ByteArray} {bs:List UInt8} (hn:nameF n=true):(appendA A n bs).1=0∨((appendA A n bs).1=9∧A.gone=true)∨((appendA A n bs).1=5∧A.gone=false):=by
 unfold appendA
 split
 ·exact .inr (.inl ⟨rfl,by assumption⟩)
 ·rename_i h
  rw [if_neg (by rw [hn];simp)]
  split
  ·exact .inr (.inr ⟨rfl,by simpa using h⟩)
  ·exact .inl rfl
theorem sync_one {A:DiskA} {n:ByteArray}:((syncA A [n]).1=0∧A.gone=false∧(fileD A.fs n).isSome=true∧(syncA A [n]).2=doneA { A with fs:=A.fs.map (syncF [n]) })∨((syncA A [n]).1=9∧A.gone=true∧(syncA A [n]).2=A)∨((syncA A [n]).1=3∧A.gone=false∧fileD A.fs n=none∧(syncA A [n]).2=A):=by
 unfold syncA
 split
 ·exact .inr (.inl ⟨rfl,by assumption,rfl⟩)
 ·rename_i h
  have hg:A.gone=false:=by simpa using h
  split
  ·rename_i h2
   refine .inr (.inr ⟨rfl,hg,?_,rfl⟩)
   simp only [List.all_cons,List.all_nil,Bool.and_true] at h2
   rw [hasF_fileD] at h2
   cases hq:fileD A.fs n with
   | none=>rfl
   | some q=>rw [hq] at h2;cases h2
  ·rename_i h2
   refine .inl ⟨rfl,hg,?_,rfl⟩
   simp only [List.all_cons,List.all_nil,Bool.and_true] at h2
   rw [hasF_fileD] at h2
   cases hq:fileD A.fs n with
   | none=>rw [hq] at h2;exact absurd rfl h2
   | some q=>rfl
theorem okA_sync {A:DiskA} (hok:okA A) (ns:List ByteArray):okA { A with fs:=A.fs.map (syncF ns) } :=
 okA_map hok (fun f=>by unfold syncF;split <;> rfl) (fun f=>by unfold syncF;split <;> rfl) (fun f h=>by unfold syncF;split;exact Nat.le_refl _;exact h)
theorem asked_one (n m:ByteArray):asked [n] m=decide (n=m):=by
 unfold asked
 simp
theorem sync_ok {A:DiskA} {n:ByteArray} (hok:okA A) (h:(syncA A [n]).1=0):A.gone=false∧okA (syncA A [n]).2∧(syncA A [n]).2.room=A.room∧used (syncA A [n]).2.fs=used A.fs∧(syncA A [n]).2.fs.length=A.fs.length ∧
  ∀ m,fileD (syncA A [n]).2.fs m=(fileD A.fs m).map fun p=>if n=m then (p.1,p.1.length) else p:=by
 rcases sync_one (A:=A) (n:=n) with ⟨h1,h2,h3,h4⟩|⟨h1,-,-⟩|⟨h1,-,-,-⟩
 ·rw [h4]
  refine ⟨h2,okA_done (okA_sync hok _),by rw [doneA_room],?_,?_,fun m=>?_⟩
  ·rw [doneA_fs]
   exact used_map fun f=>by unfold syncF;split <;> rfl
  ·rw [doneA_fs]
   exact List.length_map ..
  ·rw [doneA_fs]
   show fileD (A.fs.map (syncF [n])) m=_
   rw [fileD_sync]
   congr 1
   funext p
   rw [asked_one]
   by_cases hm:n=m <;> simp [hm]
 ·rw [h1] at h;cases h
 ·rw [h1] at h;cases h
theorem rem_ok {A:DiskA} {n:ByteArray} (hok:okA A) (h:(remA A n).1=0):A.gone=false∧okA (remA A n).2∧(remA A n).2.room=A.room∧used (remA A n).2.fs≤used A.fs∧(remA A n).2.fs.length≤A.fs.length∧(fileD A.fs n).isSome=true ∧
  ∀ m,fileD (remA A n).2.fs m=if m=n then none else fileD A.fs m:=by
 unfold remA at h ⊢
 split at h
 ·cases h
 rename_i h1
 split at h
 ·cases h
 rename_i h2
 rw [if_neg h1,if_neg h2]
 refine ⟨by simpa using h1,okA_done (okA_sub hok (List.filter_sublist ..)),by rw [doneA_room],?_,?_,?_,fun m=>?_⟩
 ·rw [doneA_fs];exact used_sub (List.filter_sublist ..)
 ·rw [doneA_fs];exact dropF_len _ _
 ·rw [← hasF_fileD];simpa using h2
 ·rw [doneA_fs];exact fileD_drop n m A.fs
theorem rem_cases {A:DiskA} {n:ByteArray} (hf:(fileD A.fs n).isSome=true):((remA A n).1=0∧A.gone=false)∨((remA A n).1=9∧A.gone=true∧(remA A n).2=A):=by
 unfold remA
 split
 ·exact .inr ⟨rfl,by assumption,rfl⟩
 ·rename_i h
  rw [if_neg (by rw [hasF_fileD,hf];simp)]
  exact .inl ⟨rfl,by simpa using h⟩
theorem cut_ok {A:DiskA} {n:ByteArray} {k:Int} (hok:okA A) (h:(cutA' A n k).1=0):A.gone=false∧okA (cutA' A n k).2∧(cutA' A n k).2.room=A.room∧(cutA' A n k).2.fs.length=A.fs.length ∧
  ∀ m,fileD (cutA' A n k).2.fs m=if m=n then (fileD A.fs n).map (fun p=>(p.1.take k.toNat,min p.2 k.toNat)) else fileD A.fs m:=by
 unfold cutA' at h ⊢
 split at h
 ·cases h
 rename_i h1
 split at h
 ·cases h
 rename_i h2
 split at h
 ·cases h
 rename_i h3
 rw [if_neg h1,if_neg h2,if_neg h3]
 have hnd:=names_nodup hok.sorted
 have hup:okA { A with fs:=A.fs.map (updF n fun f=>{ f with b:=f.b.take k.toNat,kept:=min f.kept k.toNat }) }:=by
  refine ⟨hok.room,?_,?_,hok.left,sorted_map (fun f=>updF_name (g:=fun f=>{ f with b:=f.b.take k.toNat,kept:=min f.kept k.toNat }) (fun _=>rfl) f) hok.sorted,fun f hf=>?_,fun f hf=>?_⟩
  ·refine Nat.le_trans ?_ hok.used
   show used (A.fs.map _)≤used A.fs
   generalize A.fs=fs
   induction fs with
   | nil=>exact Nat.le_refl _
   | cons f fs ih =>
    rw [List.map_cons,used_cons,used_cons]
    have:(updF n (fun f=>{ f with b:=f.b.take k.toNat,kept:=min f.kept k.toNat }) f).b.length≤f.b.length:=by
     unfold updF
     split
     ·show (f.b.take _).length≤_;rw [List.length_take];omega
     ·exact Nat.le_refl _
    omega
  ·show (A.fs.map _).length≤_;rw [List.length_map];exact hok.many
  ·obtain ⟨g,hg,rfl⟩:=List.mem_map.1 hf
   have:=hok.kept g hg
   unfold updF
   split
   ·show min g.kept _≤(g.b.take _).length;rw [List.length_take];omega
   ·exact this
  ·obtain ⟨g,hg,rfl⟩:=List.mem_map.1 hf
   rw [updF_name (g:=fun f=>{ f with b:=f.b.take k.toNat,kept:=min f.kept k.toNat }) (fun _=>rfl)]
   exact hok.names g hg
 refine ⟨by simpa using h1,okA_done hup,by rw [doneA_room],by rw [doneA_fs];exact List.length_map ..,fun m=>?_⟩
 rw [doneA_fs]
 show fileD (A.fs.map _) m=_
 rw [fileD_upd n (fun f=>{ f with b:=f.b.take k.toNat,kept:=min f.kept k.toNat }) (fun f=>rfl)]
theorem cut_cases {A:DiskA} {n:ByteArray} {k:Int} {p:List UInt8 × Nat} (hf:fileD A.fs n=some p) (hk:0≤k∧k≤p.1.length):((cutA' A n k).1=0∧A.gone=false)∨((cutA' A n k).1=9∧A.gone=true∧(cutA' A n k).2=A):=by
 unfold cutA'
 split
 ·exact .inr ⟨rfl,by assumption,rfl⟩
 ·rename_i h
  rw [if_neg (by rw [hasF_fileD,hf];simp),if_neg (by rw [lenF_fileD hf];omega)]
  exact .inl ⟨rfl,by simpa using h⟩
def encE (e:EntA):List Value:=[.int .i64 e.offset,.int .i64 e.place,.int .i64 e.before]
instance:EncA encE [.int .i64,.int .i64,.int .i64] (fun e=>(e.offset,e.place,e.before,())):=⟨fun _=>rfl⟩
instance:EncN encE 3:=⟨fun _=>rfl,by decide,by simp [encE,Value.oneCell']⟩
instance:EncF encE 0 (.int .i64) (fun e=>e.offset):=⟨fun _=>rfl⟩
instance:EncF encE 1 (.int .i64) (fun e=>e.place):=⟨fun _=>rfl⟩
instance:EncF encE 2 (.int .i64) (fun e=>e.before):=⟨fun _=>rfl⟩
structure okX (X:IdxA):Prop where
 gap:1≤X.gap∧X.gap≤4194304
 place : -1≤X.place∧X.place≤4194304
 ent:∀ e ∈ X.l,0≤e.place∧e.place≤X.place
 len:(X.l.length:Int)≤X.place+1
def idxP (b:Nat) (X:IdxA):HP:=HP.ex fun z:Sl=>HP.and (okX X) (HP.star (pt b (.cells #[.int .i64 X.offset,.int .i64 X.place,.int .i64 X.late,.int .i64 X.gap,.slice z.a z.len z.cap] T.a8)) (slc T.a7 3 z (X.l.flatMap encE)))
section
variable {w:World} {l r:List HP} {b:Nat} {X:IdxA}
theorem idx_open (hs:Sat w (idxP b X::l)):∃ z:Sl,okX X∧Sat w (pt b (.cells #[.int .i64 X.offset,.int .i64 X.place,.int .i64 X.late,.int .i64 X.gap,.slice z.a z.len z.cap] T.a8)::slc T.a7 3 z (X.l.flatMap encE)::l):=by
 obtain ⟨z,hs⟩:=hs.ex
 obtain ⟨h,hs⟩:=hs.and
 exact ⟨z,h,hs.star⟩
theorem idx_close (X:IdxA) {z:Sl} (h:okX X) (hs:Sat w (pt b (.cells #[.int .i64 X.offset,.int .i64 X.place,.int .i64 X.late,.int .i64 X.gap,.slice z.a z.len z.cap] T.a8)::slc T.a7 3 z (X.l.flatMap encE)::l)):Sat w (idxP b X::l) :=
 .ex_mk z (.and_mk h (.star_mk hs))
theorem okX0 {gap:Int} (h:1≤gap∧gap≤4194304):okX (idx0 gap):=⟨h,by show -1≤(-1:Int)∧(-1:Int)≤4194304;omega,(fun _ h=>by cases h),by show (0:Int) ≤ -1+1;omega⟩
theorem inew_c (gap:Int) (h:1≤gap∧gap≤4194304) (hs:Sat w l):Ret P F.a26 #[.int .i64 gap] w fun vs w'=>∃ b,vs=[.pointer (some ⟨b,0,none⟩),.int .i64 0]∧Sat w' (idxP b (idx0 gap)::l) :=
 zf28_calls gap <| by
  unfold zf28
  refine wp_ifF ?_
  refine wp_boxO hs fun a w' hs=>?_
  refine ⟨rfl,a,rfl,?_⟩
  have h0:Sat w' (slc T.a7 3 ⟨none,0,0⟩ ((idx0 gap).l.flatMap encE)::_):=hs.slc_nil
  exact idx_close (idx0 gap) (z:=⟨none,0,0⟩) (okX0 h) (h0.pick [1])
theorem imay_c (o p t:Int) (hs:Sat w l):Ret P F.a27 #[.int .i64 o,.int .i64 p,.int .i64 t] w fun vs w'=>vs=[.bool (decide (mayN o p t))]∧Sat w' l :=
 zf29_calls o p t <| by
  unfold zf29
  refine wp_lt ?_
  refine ⟨rfl,?_,hs⟩
  congr 2
  rw [Bool.eq_iff_iff,decide_eq_true_iff (p:=mayN o p t)]
  unfold mayN
  simp only [Bool.and_eq_true,decide_eq_true_eq]
  constructor
  ·rintro ⟨⟨⟨⟨⟨h1,h2⟩,h3⟩,h4⟩,h5⟩,h6⟩
   exact ⟨⟨h1,h2⟩,⟨h3,h4⟩,h5,h6⟩
  ·rintro ⟨⟨h1,h2⟩,⟨h3,h4⟩,h5,h6⟩
   exact ⟨⟨⟨⟨⟨h1,h2⟩,h3⟩,h4⟩,h5⟩,h6⟩
theorem okX_note {X:IdxA} (h:okX X) {o p t:Int} (hm:mayN o p t) (h2:¬ (o≤X.offset∨p≤X.place)):okX ⟨o,p,max X.late t,X.gap,noteL X o p⟩:=by
 obtain ⟨h3,h4,h5,h6⟩:=h
 obtain ⟨-,hp,-⟩:=hm
 refine ⟨h3,by show -1≤p∧p≤4194304;omega,fun e he=>?_,?_⟩
 ·show 0≤e.place∧e.place≤p
  have he:e ∈ noteL X o p:=he
  unfold noteL at he
  split at he
  ·rcases List.mem_append.1 he with he|he
   ·have:=h5 e he;omega
   ·simp at he;subst he;simp only;omega
  ·have:=h5 e he;omega
 ·show ((noteL X o p).length:Int)≤p+1
  unfold noteL
  split
  ·rw [List.length_append];simp only [List.length_cons,List.length_nil];omega
  ·omega
theorem note_c (o p t:Int) (ho : -9223372036854775808≤o∧o<9223372036854775808) (hp : -9223372036854775808≤p∧p<9223372036854775808) [hf:Fo l idxP b X r] (hs:Sat w l) :
  Ret P F.a24 #[.pointer (some ⟨b,0,none⟩),.int .i64 o,.int .i64 p,.int .i64 t] w fun vs w'=>vs=[.int .i64 (noteA X o p t).1]∧Sat w' (idxP b (noteA X o p t).2::r) :=
 zf26_calls _ o p t <| by
  unfold zf26
  have hs:=hs.perm hf.perm
  refine wp_lt ?_
  refine wp_ifF ?_ (by simp)
  refine wp_call (imay_c o p t hs) fun _ w' hs=>?_
  obtain ⟨rfl,hs⟩:=hs
  refine ret_of ?_
  refine wp_lt ?_
  unfold noteA
  refine wp_if (fun h=>?_) fun h=>?_
  ·have h:¬ mayN o p t:=by simpa using h
   rw [if_pos h]
   exact ⟨rfl,rfl,hs⟩
  have h:mayN o p t:=by simpa using h
  rw [if_neg (fun hh=>hh h)]
  obtain ⟨z,hok,hs⟩:=idx_open hs
  have hl:=hs.slen z (xs:=X.l) (enc:=encE)
  refine wp_nn ?_
  refine wp_ldO hs ?_
  refine wp_nng ?_
  refine wp_ldO hs ?_
  refine wp_lt ?_
  refine wp_if (fun h2=>?_) fun h2=>?_
  ·rw [if_pos h2]
   exact ⟨rfl,rfl,idx_close X hok hs⟩
  rw [if_neg h2]
  have hok2:=okX_note hok h h2
  have hlen:=hok.len
  have hpl:=hok.place
  refine wp_nn ?_
  refine wp_ldO hs ?_
  refine wp_lt ?_
  refine wp_tk hs fun w' hs=>?_
  refine wp_nng ?_
  refine wp_ldO hs ?_
  have hgl:∀ (h0:X.l≠[]),X.l.getLast? = some (X.l[X.l.length-1]'(by have:=List.length_pos_iff.2 h0;omega)):=fun h0=>by
   have:=List.length_pos_iff.2 h0
   rw [List.getLast?_eq_getElem?,List.getElem?_eq_getElem (by omega)]
  refine wp_ixFgg (xs:=X.l) (enc:=encE) hs (match X.l.getLast? with|none=>0|some e=>e.place) (fun hg=>?_) ?_
  ·have h0:X.l≠[]:=by
    rintro h0
    rw [h0] at hl
    rw [hl] at hg
    cases hg
   have:=List.length_pos_iff.2 h0
   refine ⟨X.l.length-1,by omega,?_,?_⟩
   ·rw [w64 (by omega) (by omega)];omega
   ·rw [hgl h0]
  refine wp_nng ?_
  refine wp_ldO hs ?_
  refine wp_untick ?_
  refine wp_mid (fun _ w'=>∃ z':Sl,Sat w' (pt b (.cells #[.int .i64 X.offset,.int .i64 X.place,.int .i64 X.late,.int .i64 X.gap,.slice z'.a z'.len z'.cap] T.a8)::slc T.a7 3 z' ((noteL X o p).flatMap encE)::r)) ?_ ?_
  ·have hnew:newE X p=true↔(((z.len:Nat):Int)=0∨IntKind.wrap .i64 (p-match X.l.getLast? with|none=>0|some e=>e.place)≥X.gap):=by
    unfold newE
    by_cases h0:X.l=[]
    ·rw [h0]
     simp only [List.getLast?_nil,true_iff]
     left
     rw [hl,h0];rfl
    ·rw [hgl h0]
     have hlp:=List.length_pos_iff.2 h0
     have hb:=hok.ent _ (List.getElem_mem (show X.l.length-1<X.l.length by omega))
     simp only [decide_eq_true_eq]
     rw [w64 (by omega) (by omega)]
     omega
   unfold noteL
   refine wp_if (fun h3=>?_) fun h3=>?_
   ·rw [if_pos (hnew.2 h3)]
    refine wp_mid (fun q w'=>∃ z':Sl,q=(z',())∧Sat w' (slc T.a7 3 z' ((X.l++[(⟨o,p,X.late⟩:EntA)]).flatMap encE)::pt b (.cells #[.int .i64 X.offset,.int .i64 X.place,.int .i64 X.late,.int .i64 X.gap,.slice z.a z.len z.cap] T.a8)::r)) ?_ ?_
    ·refine wp_tk hs fun w' hs=>?_
     refine wp_nn ?_
     refine wp_hdO hs ?_
     refine wp_nn ?_
     refine wp_ldO hs ?_
     refine wp_litS hs (enc:=encE) [(⟨o,p,X.late⟩:EntA)] fun y w' hs=>⟨(by first|trivial|(repeat (first|exact trivial|exact fun _=>run_ldO hs|exact fun _=>run_ldG hs|refine And.intro ?_ ?_))),?_⟩
     refine wp_untick ?_
     refine wp_app' (xs:=X.l) (ys:=[(⟨o,p,X.late⟩:EntA)]) (enc:=encE) hs (fun z' w' hs=>?_) (by simp only [List.length_cons,List.length_nil];omega)
     refine wp_untick ?_
     exact wp_lv ⟨z',rfl,hs.sub⟩
    ·rintro _ w2 ⟨z',rfl,hs⟩
     refine wp_nn ?_
     refine wp_stO hs fun w' hs=>?_
     exact wp_lv ⟨z',hs.sub⟩
   ·rw [if_neg fun hh=>h3 (hnew.1 hh)]
    exact wp_lv ⟨z,hs⟩
  rintro _ w2 ⟨z',hs⟩
  refine wp_nn ?_
  refine wp_ldO hs ?_
  refine wp_nn ?_
  have e:(if t>X.late then t else X.late)=max X.late t:=by split <;> omega
  rw [e]
  have hA:(Addr.add ⟨b,0,none⟩ 0)=⟨b,0,none⟩:=rfl
  rw [hA]
  refine wp_stA hs (by rfl) (by rfl) (by simp [Value.oneCell']) fun w' hs=>⟨trivial,?_⟩
  refine ⟨rfl,rfl,?_⟩
  exact idx_close ⟨o,p,max X.late t,X.gap,noteL X o p⟩ (z:=z') hok2 hs
theorem entry_c (i:Int) (hi:i<X.l.length) [hf:Fo l idxP b X r] (hs:Sat w l) :
  Ret P F.a25 #[.pointer (some ⟨b,0,none⟩),.int .i64 i] w fun vs w'=>vs=[.agg (encE (if i<0 then ⟨0,0,0⟩ else X.l.getD i.toNat ⟨0,0,0⟩)).toArray,.bool (decide (0≤i))]∧Sat w' (idxP b X::r) :=
 zf27_calls _ i <| by
  unfold zf27
  have hs:=hs.perm hf.perm
  refine wp_newO hs fun a w' hs=>?_
  refine wp_if (fun h=>?_) fun h=>?_
  ·refine wp_stG hs fun w' hs=>?_
   refine wp_ldG hs ?_
   rw [if_pos h]
   refine ⟨rfl,?_,hs.tail⟩
   rw [decide_eq_false (by omega)]
   rfl
  ·refine wp_nn ?_
   obtain ⟨z,hok,hs⟩:=idx_open (hs.pick [1])
   refine wp_ldO hs ?_
   refine wp_ixA hs (xs:=X.l) (enc:=encE) i.toNat (by omega) ?_
   refine wp_stG hs fun w' hs=>?_
   refine wp_ldG hs ?_
   rw [if_neg h]
   refine ⟨rfl,?_,idx_close X (z:=z) hok hs.sub⟩
   rw [decide_eq_true (by omega),List.getD_eq_getElem?_getD,List.getElem?_eq_getElem (by omega)]
   rfl
theorem search_c (n : Nat) (hn : n < 4611686018427387904) (f : FuncId) (cap : Array Value) (p : Nat → Bool) (hok : (P.funcs[f]?).any (fun fn => fn.body.isSome && fn.name != "runtime.NumGoroutine") = true)
  (hp:∀ (i:Nat) (w:World),i<n→Sat w l→Ret P f (#[.int .i64 (i:Int)]++cap) w fun vs w'=>vs=[.bool (p i)]∧Sat w' l) (hs:Sat w l) :
  Ret P F.a92 #[.int .i64 (n:Int),.func (.func f) #[] cap] w fun vs w'=>∃ i:Nat,i≤n∧(0<i→p (i-1)=false)∧(i<n→p i=true)∧vs=[.int .i64 (i:Int)]∧Sat w' l :=
 zf101_calls _ _ <| by
  unfold zf101
  refine wp_lt ?_
  refine wp_mid (fun q w'=>∃ i:Nat,i≤n∧(0<i→p (i-1)=false)∧(i<n→p i=true)∧q=((i:Int),())∧Sat w' l) ?_ ?_
  rotate_left
  ·rintro _ w' ⟨i,h1,h2,h3,rfl,hs⟩
   refine wp_lt ?_
   exact ⟨rfl,i,h1,h2,h3,rfl,hs⟩
  refine wp_loop (fun m v w=>∃ i j:Nat,v=((i:Int),((j:Int),()))∧i≤j∧j≤n∧j-i=m∧(0<i→p (i-1)=false)∧(j<n→p j=true)∧Sat w l) n ⟨0,n,rfl,by omega,by omega,rfl,(fun h=>by omega),(fun h=>by omega),hs⟩ ?_
  clear hs
  rintro m _ w ⟨i,j,rfl,hij,hjn,hm,h1,h2,hs⟩
  refine wp_on ?_
  refine wp_if (fun hc=>?_) fun hc=>?_
  rotate_left
  ·have:i=j:=by omega
   subst this
   exact wp_pass (wp_lv ⟨i,hjn,h1,h2,rfl,hs⟩)
  have hc:i<j:=by omega
  have e:IntKind.wrap .i64 (Int.fdiv (IntKind.wrap .u64 (IntKind.wrap .i64 ((i:Int)+j))) 2)=(((i+j) / 2:Nat):Int):=by
   rw [w64 (x:=(i:Int)+j) (by omega) (by omega),wu64 (by omega) (by omega)]
   have:Int.fdiv ((i:Int)+j) 2=(((i+j) / 2:Nat):Int):=by
    rw [Int.fdiv_eq_ediv_of_nonneg _ (by omega)]
    omega
   rw [this,w64 (by omega) (by omega)]
  refine wp_ltx (y:=(((i+j) / 2:Nat):Int)) ?_ e
  refine wp_callvc hok (p ((i+j) / 2),()) (hp ((i+j) / 2) w (by omega) hs) rfl fun w' hs=>⟨trivial,?_⟩
  refine wp_on ?_
  refine wp_bind ?_
  refine wp_if (fun h3=>?_) fun h3=>?_
  ·have h3:p ((i+j) / 2)=false:=by simpa using h3
   refine wp_ltx (y:=(((i+j) / 2+1:Nat):Int)) ?_ (by rw [w64 (by omega) (by omega)];omega)
   refine wp_go ?_
   refine wp_lp (j-((i+j) / 2+1)) ⟨(i+j) / 2+1,j,rfl,by omega,hjn,rfl,fun _=>by rw [Nat.add_sub_cancel];exact h3,h2,hs⟩
  ·have h3:p ((i+j) / 2)=true:=by simpa using h3
   refine wp_lt ?_
   refine wp_go ?_
   refine wp_lp ((i+j) / 2-i) ⟨i,(i+j) / 2,rfl,by omega,by omega,rfl,h1,fun _=>h3,hs⟩
theorem find1_c (i:Nat) (a0 a1:Nat) (o:Int) {r1 r2:List HP} {z:Sl} (hi:i<X.l.length) [h0:FocB l a0 (.cells [.pointer (some ⟨b,0,none⟩)].toArray T.a15) r1] [h1:FocB l a1 (.cells [.int .i64 o].toArray T.a11) r2]
  [h2:FocB l b (.cells [.int .i64 X.offset,.int .i64 X.place,.int .i64 X.late,.int .i64 X.gap,.slice z.a z.len z.cap].toArray T.a8) r] [h3:FocR l z 3 (X.l.flatMap encE)] (hs:Sat w l) :
  Ret P F.a23 #[.int .i64 (i:Int),.pointer (some ⟨a0,0,none⟩),.pointer (some ⟨a1,0,none⟩)] w fun vs w'=>vs=[.bool (decide (X.l[i].offset>o))]∧Sat w' l :=
 zf25_calls _ _ _ <| by
  unfold zf25
  refine wp_tk hs fun w' hs=>?_
  refine wp_ldO hs ?_
  refine wp_nn ?_
  refine wp_ldO hs ?_
  refine wp_ixF hs (xs:=X.l) (enc:=encE) i hi ?_
  refine wp_ldO hs ?_
  refine wp_lt ?_
  refine wp_untick ?_
  exact ⟨rfl,rfl,hs⟩
def orE (o:Option EntA):EntA:=o.getD ⟨0,0,0⟩
theorem cut_entry {l:List EntA} {i:Nat} (hi:i≤l.length):(if ((i:Int)-1)<0 then (⟨0,0,0⟩:EntA) else l.getD ((i:Int)-1).toNat ⟨0,0,0⟩)=orE (l.take i).getLast? ∧ decide (0≤(i:Int)-1)=(l.take i).getLast?.isSome:=by
 rw [take_last hi]
 by_cases h:i=0
 ·subst h;exact ⟨rfl,rfl⟩
 ·rw [if_neg h,if_neg (by omega),List.getD_eq_getElem?_getD,show ((i:Int)-1).toNat=i-1 by omega,List.getElem?_eq_getElem (by omega)]
  exact ⟨rfl,decide_eq_true (by omega)⟩
theorem find_c (o:Int) (hm:X.l.Pairwise fun a b=>a.offset<b.offset) [hf:Fo l idxP b X r] (hs:Sat w l) :
  Ret P F.a22 #[.pointer (some ⟨b,0,none⟩),.int .i64 o] w fun vs w'=>vs=[.agg (encE (orE (findE X.l o))).toArray,.bool (findE X.l o).isSome]∧Sat w' (idxP b X::r) :=
 zf24_calls _ o <| by
  unfold zf24
  have hs:=hs.perm hf.perm
  refine wp_boxO hs fun a0 w' hs=>?_
  refine wp_boxO hs fun a1 w' hs=>?_
  refine wp_newO hs fun a2 w' hs=>?_
  refine wp_ldO hs ?_
  refine wp_ifF ?_ (by simp)
  refine wp_mid (fun q w'=>q=((findE X.l o).isSome,())∧Sat w' (pt a2 (.cells [.int .i64 (orE (findE X.l o)).offset,.int .i64 (orE (findE X.l o)).place,.int .i64 (orE (findE X.l o)).before].toArray T.a7)::idxP b X::r)) ?_ ?_
  rotate_left
  ·rintro _ w2 ⟨rfl,hs⟩
   refine wp_ldG hs ?_
   exact ⟨rfl,rfl,hs.tail⟩
  obtain ⟨z,hok,hs⟩:=idx_open (hs.pick [3])
  have hl:=hs.slen z (xs:=X.l) (enc:=encE)
  have hlen:=hok.len
  have hpl:=hok.place
  refine wp_tk hs fun w' hs=>?_
  refine wp_hdO hs ?_
  refine wp_ldO hs ?_
  refine wp_nn ?_
  refine wp_ldO hs ?_
  rw [hl]
  refine wp_call (search_c X.l.length (by omega) F.a23 #[.pointer (some ⟨a0,0,none⟩),.pointer (some ⟨a1,0,none⟩)] (fun i=>decide ((X.l.getD i ⟨0,0,0⟩).offset>o)) (by kernel_rfl) (fun i w hi hs=>?_) hs) fun _ w' hs=>?_
  ·have e:X.l.getD i ⟨0,0,0⟩=X.l[i]:=by rw [List.getD_eq_getElem?_getD,List.getElem?_eq_getElem hi];rfl
   simp only [e]
   exact find1_c (X:=X) i a0 a1 o hi hs
  obtain ⟨i,hi,h1,h2,rfl,hs⟩:=hs
  refine ret_of ?_ (by first|trivial|(repeat (first|exact trivial|exact fun _=>run_ldO hs|exact fun _=>run_ldG hs|refine And.intro ?_ ?_)))
  refine wp_untick ?_
  rw [w64 (by omega) (by omega)]
  replace hs:Sat _ (idxP b X::pt a2 (.cells [.int .i64 0,.int .i64 0,.int .i64 0].toArray T.a7)::pt a0 (.cells [.pointer (some ⟨b,0,none⟩)].toArray T.a15)::r):=idx_close X (z:=z) hok hs.sub
  refine wp_call (entry_c (b:=b) ((i:Int)-1) (by omega) hs) fun _ w' hs=>?_
  obtain ⟨rfl,hs⟩:=hs
  have hcut:findE X.l o=(X.l.take i).getLast? := by
   unfold findE
   rw [search_cut hi (hm.imp fun {a b} hab=>by simp only [decide_eq_true_eq];omega)]
   ·intro h h0
    have:=h1 h0
    rw [List.getD_eq_getElem?_getD,List.getElem?_eq_getElem h] at this
    have:decide (X.l[i-1].offset>o)=false:=this
    simpa using this
   ·intro h
    have:=h2 h
    rw [List.getD_eq_getElem?_getD,List.getElem?_eq_getElem h] at this
    have:decide (X.l[i].offset>o)=true:=this
    simpa using this
  obtain ⟨c1_,c2_⟩:=cut_entry (l:=X.l) hi
  rw [c1_,c2_,← hcut]
  refine ⟨((orE (findE X.l o)).offset,(orE (findE X.l o)).place,(orE (findE X.l o)).before,(findE X.l o).isSome,()),rfl,(by first|trivial|(repeat (first|exact trivial|exact fun _=>run_ldO hs|exact fun _=>run_ldG hs|refine And.intro ?_ ?_))),wp_u4 _ _ _ _ ?_⟩
  refine wp_stG hs fun w' hs=>?_
  refine wp_lt ?_
  refine wp_untick ?_
  exact wp_lv ⟨rfl,hs.sub⟩
end
structure SegM where
 ix:Nat
 s:SegA
structure LogM where
 d:Nat
 pre:ByteArray
 seg:Int
 gap:Int
 z:Sl
 SM:List (Nat × SegM)
structure LogA where
 d:Nat
 pre:ByteArray
 seg:Int
 gap:Int
 l:List SegA
def LogM.l (M:LogM):List SegA:=M.SM.map fun t=>t.2.s
def LogM.A (M:LogM):LogA:=⟨M.d,M.pre,M.seg,M.gap,M.l⟩
def encP (b:Nat):List Value:=[.pointer (some ⟨b,0,none⟩)]
instance:Enc1 encP .ptr (fun b=>some ⟨b,0,none⟩):=⟨fun _=>rfl⟩
instance:EncN encP 1:=⟨fun _=>rfl,by decide,by simp [encP,Value.oneCell']⟩
def segP (gap:Int) (a:Nat) (t:SegM):HP:=HP.star (pt a (.cells #[.pointer (some ⟨t.ix,0,none⟩),.int .i64 t.s.base,.int .i64 t.s.fin,.int .i64 (nextG t.s.bs),.int .i64 (lateG (-1) t.s.bs),.int .i64 (t.s.file.length:Nat)] T.a29)) (idxP t.ix (t.s.idx gap))
structure okM (gap seg:Int) (pre:ByteArray):Prop where
 gap:1≤gap∧gap≤4194304
 seg:64≤seg∧seg≤4194304
 pre:preS pre=true
def lgQ (lg:Nat) (M:LogM):HP:=HP.and (okM M.gap M.seg M.pre) (HP.star (pt lg (.cells #[.pointer (some ⟨M.d,0,none⟩),.string M.pre,.int .i64 M.seg,.int .i64 M.gap,.slice M.z.a M.z.len M.z.cap] T.a28))
 (HP.star (slc T.a17 1 M.z ((M.SM.map Prod.fst).flatMap encP)) (HP.all (M.SM.map fun t=>segP M.gap t.1 t.2))))
def lgP (lg:Nat) (A:LogA):HP:=HP.ex fun M:LogM=>HP.and (M.A=A) (lgQ lg M)
def ptrO:Option Nat→Option Addr
 | none=>none
 | some b=>some ⟨b,0,none⟩
section
variable {w:World} {l r:List HP} {lg:Nat} {M:LogM} {A:LogA} {gap:Int} {a:Nat} {t:SegM}
theorem seg_open (hs:Sat w (segP gap a t::l)):Sat w (pt a (.cells #[.pointer (some ⟨t.ix,0,none⟩),.int .i64 t.s.base,.int .i64 t.s.fin,.int .i64 (nextG t.s.bs),.int .i64 (lateG (-1) t.s.bs),.int .i64 (t.s.file.length:Nat)] T.a29)::idxP t.ix (t.s.idx gap)::l):=hs.star
theorem seg_close (t:SegM) (hs:Sat w (pt a (.cells #[.pointer (some ⟨t.ix,0,none⟩),.int .i64 t.s.base,.int .i64 t.s.fin,.int .i64 (nextG t.s.bs),.int .i64 (lateG (-1) t.s.bs),.int .i64 (t.s.file.length:Nat)] T.a29)::idxP t.ix (t.s.idx gap)::l)):Sat w (segP gap a t::l):=.star_mk hs
theorem lgQ_open (hs:Sat w (lgQ lg M::l)):okM M.gap M.seg M.pre∧Sat w (pt lg (.cells #[.pointer (some ⟨M.d,0,none⟩),.string M.pre,.int .i64 M.seg,.int .i64 M.gap,.slice M.z.a M.z.len M.z.cap] T.a28)::slc T.a17 1 M.z ((M.SM.map Prod.fst).flatMap encP)::HP.all (M.SM.map fun t=>segP M.gap t.1 t.2)::l):=by
 obtain ⟨h,hs⟩:=hs.and
 have hs:=hs.star
 exact ⟨h,((hs.pick [1]).star).pick [2]⟩
theorem lgQ_close (M:LogM) (h:okM M.gap M.seg M.pre) (hs:Sat w (pt lg (.cells #[.pointer (some ⟨M.d,0,none⟩),.string M.pre,.int .i64 M.seg,.int .i64 M.gap,.slice M.z.a M.z.len M.z.cap] T.a28)::slc T.a17 1 M.z ((M.SM.map Prod.fst).flatMap encP)::HP.all (M.SM.map fun t=>segP M.gap t.1 t.2)::l)):Sat w (lgQ lg M::l):=by
 refine .and_mk h (.star_mk ?_)
 exact ((hs.pick [1,1]).star_mk).pick [1]
theorem lgP_open (hs:Sat w (lgP lg A::l)):∃ M:LogM,M.A=A∧Sat w (lgQ lg M::l):=by
 obtain ⟨M,hs⟩:=hs.ex
 obtain ⟨h,hs⟩:=hs.and
 exact ⟨M,h,hs⟩
theorem lgP_close (M:LogM) (hs:Sat w (lgQ lg M::l)):Sat w (lgP lg M.A::l):=.ex_mk M (.and_mk rfl hs)
theorem hexL_cons:∀ (j n:Nat),hexL (j+1) n=hexC (n / 16 ^ j % 16)::hexL j n
 | 0,n=>by simp [hexL]
 | j+1,n=>by
  show hexL (j+1) (n / 16)++[hexC (n % 16)]=_
  rw [hexL_cons j (n / 16)]
  have e:n / 16 / 16 ^ j=n / 16 ^ (j+1):=by rw [Nat.div_div_eq_div_mul,Nat.pow_succ,Nat.mul_comm]
  rw [e]
  rfl
theorem set_rep (k:Nat) (c:UInt8):∀ (xs:List UInt8),(List.replicate (k+1) (0:UInt8)++xs).set k c=List.replicate k 0++c::xs:=by
 induction k with
 | zero=>intro xs;rfl
 | succ k ih=>intro xs;rw [List.replicate_succ,List.cons_append,List.set_cons_succ,ih,List.replicate_succ,List.cons_append]
theorem and15 (n:Nat) (h:n<18446744073709551616):BitVec.toNat (BitVec.ofInt 64 (n:Int) &&& BitVec.ofInt 64 15)=n % 16:=by
 rw [BitVec.ofInt_natCast,BitVec.toNat_and,BitVec.toNat_ofNat,Nat.mod_eq_of_lt h]
 show n &&& 15=n % 16
 exact Nat.and_two_pow_sub_one_eq_mod n 4
theorem bt_hex {k:Nat} (h:k<16):bt (ByteArray.mk #[48,49,50,51,52,53,54,55,56,57,97,98,99,100,101,102]) (k:Int)=(((hexC k).toNat:Nat):Int):=by
 have:∀ k:Fin 16,bt (ByteArray.mk #[48,49,50,51,52,53,54,55,56,57,97,98,99,100,101,102]) (k.val:Int)=(((hexC k.val).toNat:Nat):Int):=by decide +kernel
 exact this ⟨k,h⟩
theorem wp_mkB {P:Program} {t el:TypeId} {bytes:Nat} {Q:Post} {S:World→Prop} {k:Sl→Prog} [ht:SlT P t el 1 bytes] [hz:Zer P el (.int .u8 0)] (n:Nat) (hs:Sat w l) (h:∀ x w',Sat w' (slc el 1 x ((List.replicate n (0:UInt8)).flatMap encU)::l)→(k x).wp P S w' Q) (hb:n*bytes≤281474976710656∧n≤9223372036854775807) (hS:∀ w',S w':=by exact fun _=>trivial) :
  (Prog.act (Instr.makeSlice t (.int .i64 (n:Int)) (.int .i64 (n:Int))) sL (u1 k)).wp P S w Q:=by
 obtain ⟨i,z,hi,h2,h3,h4,h5⟩:=ht.parts
 have hz':z=.int .u8 0:=by
  have:=hz.ok
  unfold zeroOf at this
  rw [hi] at this
  simp only at this
  rw [h4] at this
  exact Option.some.inj this
 have hrun:=run_make (P:=P) w t el i z ht.ok.1 hi h4 .i64 .i64 n n (by omega) (Int.le_refl _) (by rw [h3,← Int.natCast_mul,Nat.mul_comm];omega) (by omega)
 simp only [Int.toNat_natCast] at hrun
 have hp:=hs.push (o:=.cells (madeCells z.cells (n*i.size)) el) (w':=w.alloc (.cells (madeCells z.cells (n*i.size)) el)) rfl
 refine ⟨(⟨some ⟨w.heap.size,0,none⟩,n,n⟩,()),_,hrun,hS _,h ⟨some ⟨w.heap.size,0,none⟩,n,n⟩ _ ?_⟩
 refine hp.imp fun p hp=>.inr ⟨w.heap.size,0,_,_,rfl,hp,by rw [flat_len,List.length_replicate],Nat.le_refl _,by rw [size_madeCells,h2];simp,fun j hj=>?_,unfrozen_zero _ _⟩
 rw [flat_len,List.length_replicate,Nat.mul_one] at hj
 rw [h2,Nat.mul_one,Nat.zero_add,flat_encU,hz']
 have e1:(madeCells (Value.int .u8 0).cells n)[j]? = some (.int .u8 0):=by
  rw [Array.getElem?_eq_getElem (by rw [size_madeCells];exact hj)]
  simp [madeCells,Value.cells,Nat.mod_one]
 rw [e1,List.getElem?_map,List.getElem?_replicate,if_pos hj]
 rfl
theorem name_c0 (base:Int) (h:0≤base∧base<17592186044416) (x:ByteArray) (hx:x.size≤100) {d_:Value} {seg gp:Value} {zz:Value} (pre:ByteArray) (hp:pre.size≤100) [hf:FocB l lg (.cells [d_,.string pre,seg,gp,zz].toArray T.a28) r] (hs:Sat w l) :
  Ret P F.a61 #[.pointer (some ⟨lg,0,none⟩),.int .i64 base,.string x] w fun vs w'=>vs=[.string (nameS pre base (bl x))]∧Sat w' l :=
 zf69_calls _ base x <| by
  unfold zf69
  refine wp_mkB 11 hs (fun z w' hs=>?_) (by omega)
  refine wp_mid (fun _ w'=>Sat w' (slc T.a34 1 z ((hexL 11 base.toNat).flatMap encU)::l)) ?_ ?_
  ·refine wp_loop (fun m v w=>∃ j:Nat,v=(((base.toNat / 16 ^ j:Nat):Int),((10-(j:Int)),()))∧j≤11∧11-j=m∧Sat w (slc T.a34 1 z ((List.replicate (11-j) 0++hexL j base.toNat).flatMap encU)::l)) 11 ⟨0,by rw [Nat.pow_zero,Nat.div_one,Int.toNat_of_nonneg h.1];rfl,by omega,rfl,by simpa [hexL] using hs⟩ ?_
   clear hs
   rintro m _ w ⟨j,rfl,hj,hm,hs⟩
   refine wp_on ?_
   refine wp_if (fun hc=>?_) fun hc=>?_
   rotate_left
   ·have:j=11:=by omega
    subst this
    exact wp_pass (wp_lv (by simpa using hs))
   have hj2:j≤10:=by omega
   have hb:base.toNat / 16 ^ j<18446744073709551616:=by
    have:=Nat.div_le_self base.toNat (16 ^ j)
    omega
   have hmod:=Nat.mod_lt (base.toNat / 16 ^ j) (show 0<16 by omega)
   rw [and15 _ hb,w64 (by omega) (by omega)]
   refine wp_must (by omega) ?_
   rw [bt_hex hmod]
   refine wp_ixS hs (xs:=List.replicate (11-j) 0++hexL j base.toNat) (enc:=encU) (10-j) (by rw [List.length_append,List.length_replicate];omega) (hexC (base.toNat / 16 ^ j % 16)) fun w' hs=>?_
   refine wp_ltx (y:=((base.toNat / 16 ^ (j+1):Nat):Int)) ?_ ?_
   ·refine wp_ltx (y:=10-((j+1:Nat):Int)) ?_ (by rw [w64 (by omega) (by omega)];omega)
    refine wp_lp (11-(j+1)) ⟨j+1,rfl,by omega,rfl,?_⟩
    have e:=set_rep (10-j) (hexC (base.toNat / 16 ^ j % 16)) (hexL j base.toNat)
    rw [show 10-j+1=11-j by omega] at e
    rw [e,← hexL_cons] at hs
    rw [show 11-(j+1)=10-j by omega]
    exact hs
   ·rw [fdiv_nat _ (by omega)]
    show ((base.toNat / 16 ^ j / 16:Nat):Int)=_
    rw [Nat.div_div_eq_div_mul,← Nat.pow_succ]
  clear hs
  rintro _ w hs
  refine wp_on ?_
  refine wp_tk hs fun w' hs=>?_
  refine wp_nn ?_
  refine wp_ldO hs ?_
  refine wp_must (by omega) ?_
  refine wp_ofB (bs:=hexL 11 base.toNat) hs ?_
  have h11:=hexL_len 11 base.toNat
  have s1:(pre++ByteArray.mk #[45]).size=pre.size+1:=ByteArray.size_append ..
  have s2:(ByteArray.mk (hexL 11 base.toNat).toArray).size=11:=h11
  refine wp_must (by omega) ?_
  have s3:(pre++ByteArray.mk #[45]++ByteArray.mk (hexL 11 base.toNat).toArray).size=pre.size+12:=by rw [ByteArray.size_append,s1,s2]
  refine wp_must (by omega) ?_
  refine wp_lt ?_
  refine wp_untick ?_
  refine ⟨rfl,?_,hs.tail⟩
  congr 2
  apply bl_ext
  rw [bl_nameS]
  unfold bl
  simp only [ByteArray.data_append,Array.toList_append,List.append_assoc]
  rfl
theorem or16 {a d:Nat} (hd:d<16) (ha:a<576460752303423488):BitVec.toNat (BitVec.ofInt 64 ((a:Int)*16) ||| BitVec.ofInt 64 (d:Int))=16*a+d:=by
 have e:(a:Int)*16=((16*a:Nat):Int):=by omega
 rw [e,BitVec.ofInt_natCast,BitVec.ofInt_natCast,BitVec.toNat_or,BitVec.toNat_ofNat,BitVec.toNat_ofNat,Nat.mod_eq_of_lt (show 16*a<2 ^ 64 by omega),Nat.mod_eq_of_lt (show d<2 ^ 64 by omega)]
 exact (Nat.two_pow_add_eq_or_of_lt (i:=4) hd a).symm
theorem hexV_lt:∀ {r:List UInt8} {x v k:Nat},hexV x r=some v→x<16 ^ k→v<16 ^ (k+r.length)
 | [],x,v,k,h,hx=>by simp [hexV] at h;subst h;simpa using hx
 | c::r,x,v,k,h,hx=>by
  unfold hexV at h
  cases hd:hexD c with
  | none=>rw [hd] at h;cases h
  | some d =>
   rw [hd] at h
   have hd:=(hexC_D hd).2
   have:=hexV_lt (k:=k+1) h (by rw [Nat.pow_succ];omega)
   rw [List.length_cons,show k+(r.length+1)=k+1+r.length by omega]
   exact this
theorem extract_bl (s:ByteArray) (i j:Nat):bl (s.extract i j)=((bl s).drop i).take (j-i):=by
 unfold bl
 rw [ByteArray.data_extract,Array.toList_extract,List.extract_eq_take_drop]
theorem base_c0 (n x:ByteArray) (hn:n.size≤1000) (hx:x.size≤100) {d_:Value} {seg gp:Value} {zz:Value} (pre:ByteArray) (hp:pre.size≤100) [hf:FocB l lg (.cells [d_,.string pre,seg,gp,zz].toArray T.a28) r] (hs:Sat w l) :
  Ret P F.a56 #[.pointer (some ⟨lg,0,none⟩),.string n,.string x] w fun vs w'=>vs=[.int .i64 (((baseN pre n (bl x)).getD 0:Nat):Int),.bool (baseN pre n (bl x)).isSome]∧Sat w' l :=
 zf64_calls _ n x <| by
  unfold zf64
  refine wp_nn ?_
  refine wp_ldO hs ?_
  have e1:IntKind.wrap .i64 (((ByteArray.size pre:Nat):Int)+1)=((pre.size+1:Nat):Int):=by rw [w64 (by omega) (by omega)];omega
  have e2:IntKind.wrap .i64 (((pre.size+1:Nat):Int)+11)=((pre.size+12:Nat):Int):=by rw [w64 (by omega) (by omega)];omega
  have e3:IntKind.wrap .i64 (((pre.size+12:Nat):Int)+((ByteArray.size x:Nat):Int))=((pre.size+12+x.size:Nat):Int):=by rw [w64 (by omega) (by omega)];omega
  rw [e1]
  refine wp_lt ?_
  rw [e2,e3]
  refine wp_must ?_ ?_
  ·intro h
   have h:((n.size:Nat):Int)=((pre.size+12+x.size:Nat):Int):=by simpa using h
   omega
  have hb:baseN pre n (bl x)=if n.size=pre.size+12+x.size∧(bl n).drop (pre.size+12)=bl x then hexV 0 (((bl n).drop (pre.size+1)).take 11) else none:=by
   unfold baseN
   rw [size_bl,size_bl,size_bl]
  refine wp_if (fun h=>?_) fun h=>?_
  ·have:baseN pre n (bl x)=none:=by
    rw [hb,if_neg]
    rintro ⟨h1,h2⟩
    rcases h with h|h
    ·apply h;rw [h1]
    ·apply h
     rw [Int.toNat_natCast]
     apply bl_ext
     rw [extract_bl,h2,List.take_of_length_le]
     rw [size_bl];omega
   rw [this]
   exact ⟨rfl,rfl,hs⟩
  have h1:n.size=pre.size+12+x.size:=by
   have:¬ (((n.size:Nat):Int)≠((pre.size+12+x.size:Nat):Int)):=fun hh=>h (.inl hh)
   omega
  have h2:(bl n).drop (pre.size+12)=bl x:=by
   have h3:ByteArray.extract n (pre.size+12) n.size=x:=by
    apply Decidable.byContradiction
    intro hh
    exact h (.inr (by rw [Int.toNat_natCast];exact hh))
   rw [← h3,extract_bl,List.take_of_length_le]
   rw [List.length_drop,size_bl];omega
  rw [if_pos ⟨h1,h2⟩] at hb
  refine wp_must (by omega) ?_
  rw [Int.toNat_natCast,Int.toNat_natCast]
  have h4:(ByteArray.extract n (pre.size+1) (pre.size+12)).data.toList=((bl n).drop (pre.size+1)).take 11:=by
   have:=extract_bl n (pre.size+1) (pre.size+12)
   rw [show pre.size+12-(pre.size+1)=11 by omega] at this
   exact this
  refine wp_toB hs fun y w' hs=>?_
  rw [h4] at hs
  generalize hcs:((bl n).drop (pre.size+1)).take 11=cs at *
  have hcl:cs.length=11:=by rw [← hcs,List.length_take,List.length_drop,size_bl];omega
  have hl:=hs.slen y (xs:=cs) (enc:=encU)
  rw [hb]
  refine wp_mid (fun q w'=>∃ v:Nat,hexV 0 cs=some v∧q=((v:Int),())∧Sat w' l) ?_ ?_
  rotate_left
  ·rintro _ w2 ⟨v,hv,rfl,hs⟩
   refine wp_lt ?_
   rw [hv]
   exact ⟨rfl,rfl,hs⟩
  refine wp_loop (fun m q w=>∃ i v:Nat,q=((v:Int),((i:Int),()))∧i≤11∧11-i=m∧hexV 0 (cs.take i)=some v∧Sat w (slc T.a34 1 y (cs.flatMap encU)::l)) 11 ⟨0,0,rfl,by omega,rfl,rfl,hs⟩ ?_
  clear hs
  rintro m _ w ⟨i,v,rfl,hi,hm,hv,hs⟩
  refine wp_on ?_
  refine wp_if (fun hc=>?_) fun hc=>?_
  rotate_left
  ·refine wp_pass (wp_lv ⟨v,?_,rfl,hs.tail⟩)
   rwa [List.take_of_length_le (by omega)] at hv
  have hil:i<cs.length:=by omega
  have hvl:=hexV_lt (k:=0) hv (by omega)
  rw [List.length_take] at hvl
  have hvl2:v<1152921504606846976 / 16:=by
   have h5:16 ^ (0+min i cs.length)≤16 ^ 10:=Nat.pow_le_pow_right (by omega) (by omega)
   omega
  have hstep:hexV 0 (cs.take (i+1))=(hexD cs[i]).map fun d=>16*v+d:=by
   rw [List.take_succ_eq_append_getElem hil,hexV_app,hv]
   show hexV v [cs[i]]=_
   unfold hexV
   cases hexD cs[i] <;> rfl
  have hcut:∀ j,hexV 0 (cs.take j)=none→hexV 0 cs=none:=fun j hj=>by
   rw [← List.take_append_drop j cs,hexV_app,hj];rfl
  refine wp_ix1 hs (xs:=cs) (enc:=encU) i hil ?_
  refine wp_lt ?_
  refine wp_lt ?_
  have hgo:∀ {w:World} (d:Nat),hexD cs[i]=some d→Sat w (slc T.a34 1 y (cs.flatMap encU)::l)→∃ i' v':Nat,((((16*v+d:Nat):Int),(((i+1:Nat):Int),())):Int × Int × Unit)=((v':Int),((i':Int),()))∧i'≤11∧11-i'=11-(i+1)∧hexV 0 (cs.take i')=some v'∧Sat w (slc T.a34 1 y (cs.flatMap encU)::l):=fun d hd hs =>
   ⟨i+1,16*v+d,rfl,by omega,rfl,by rw [hstep,hd];rfl,hs⟩
  have hcb:=(cs[i]).toNat_lt
  have ei:IntKind.wrap .i64 ((i:Int)+1)=((i+1:Nat):Int):=by rw [w64 (by omega) (by omega)];omega
  refine wp_mid (fun q w'=>∃ d:Nat,hexD cs[i]=some d∧q=(((16*v+d:Nat):Int),())∧Sat w' (slc T.a34 1 y (cs.flatMap encU)::l)) ?_ ?_
  rotate_left
  ·rintro _ w2 ⟨d,hd,rfl,hs⟩
   rw [ei]
   exact wp_lp (11-(i+1)) (hgo d hd hs)
  have hor:∀ d:Nat,d<16→IntKind.wrap .i64 (((BitVec.toNat (BitVec.ofInt 64 (IntKind.wrap .i64 ((v:Int)*16)) ||| BitVec.ofInt 64 (d:Int)):Nat):Int))=((16*v+d:Nat):Int):=fun d hd=>by
   rw [w64 (x:=(v:Int)*16) (by omega) (by omega),or16 hd (by omega),w64 (by omega) (by omega)]
  refine wp_if (fun h5=>?_) fun h5=>?_
  ·have hd:hexD cs[i]=some ((cs[i]).toNat-48):=by unfold hexD;rw [if_pos (by omega)]
   have e5:IntKind.wrap .i64 (IntKind.wrap .u8 ((((cs[i]).toNat:Nat):Int)-48))=(((cs[i]).toNat-48:Nat):Int):=by
    rw [wu8 (by omega) (by omega),w64 (by omega) (by omega)];omega
   rw [e5]
   refine wp_ltx (y:=((16*v+((cs[i]).toNat-48):Nat):Int)) ?_ (hor _ (by omega))
   exact wp_lv ⟨_,hd,rfl,hs⟩
  refine wp_lt ?_
  refine wp_if (fun h6=>?_) fun h6=>?_
  ·have hd:hexD cs[i]=some ((cs[i]).toNat-87):=by unfold hexD;rw [if_neg (by omega),if_pos (by omega)]
   have e5:IntKind.wrap .i64 (IntKind.wrap .u8 (IntKind.wrap .u8 ((((cs[i]).toNat:Nat):Int)-97)+10))=(((cs[i]).toNat-87:Nat):Int):=by
    rw [wu8 (x:=(((cs[i]).toNat:Nat):Int)-97) (by omega) (by omega),wu8 (by omega) (by omega),w64 (by omega) (by omega)];omega
   rw [e5]
   refine wp_ltx (y:=((16*v+((cs[i]).toNat-87):Nat):Int)) ?_ (hor _ (by omega))
   exact wp_lv ⟨_,hd,rfl,hs⟩
  ·have hd:hexD cs[i]=none:=by unfold hexD;rw [if_neg (by omega),if_neg (by omega)]
   have hno:hexV 0 cs=none:=hcut (i+1) (by rw [hstep,hd];rfl)
   rw [hno]
   exact wp_pass (wp_pass (wp_pass ⟨rfl,rfl,hs.tail⟩))
theorem head_c (base fin:Int) (hb:0≤base∧base<9223372036854775808) (hf:0≤fin∧fin<9223372036854775808) (hs:Sat w l):Ret P F.a69 #[.int .i64 base,.int .i64 fin] w fun vs w'=>∃ z:Sl,vs=[z.v]∧Sat w' (slc T.a34 1 z ((shL base fin).flatMap encU)::l) :=
 zf77_calls base fin <| by
  unfold zf77
  refine wp_litx hs (enc:=encU) [(83:UInt8)] fun z1 w' hs=>?_
  refine wp_call (wint_c base hb hs) fun _ w' hs=>?_
  obtain ⟨z2,rfl,hs⟩:=hs
  refine ret_of ?_
  refine wp_call (wint_c fin hf hs) fun _ w' hs=>?_
  obtain ⟨z3,rfl,hs⟩:=hs
  refine ret_of ?_
  refine wp_litx hs (enc:=encSl) [z1,z2,z3] fun z4 w' hs=>?_
  have u1_:=uI_len base
  have u2_:=uI_len fin
  have f1:FocR (slc T.a26 1 z4 ([z1,z2,z3].flatMap encSl)::slc T.a34 1 z3 ((uI fin).flatMap encU)::slc T.a34 1 z2 ((uI base).flatMap encU)::slc T.a34 1 z1 (([83]:List UInt8).flatMap encU)::l) z1 1 (([83]:List UInt8).flatMap encU):=inferInstance
  have f2:FocR (slc T.a26 1 z4 ([z1,z2,z3].flatMap encSl)::slc T.a34 1 z3 ((uI fin).flatMap encU)::slc T.a34 1 z2 ((uI base).flatMap encU)::slc T.a34 1 z1 (([83]:List UInt8).flatMap encU)::l) z2 1 ((uI base).flatMap encU):=inferInstance
  have f3:FocR (slc T.a26 1 z4 ([z1,z2,z3].flatMap encSl)::slc T.a34 1 z3 ((uI fin).flatMap encU)::slc T.a34 1 z2 ((uI base).flatMap encU)::slc T.a34 1 z1 (([83]:List UInt8).flatMap encU)::l) z3 1 ((uI fin).flatMap encU):=inferInstance
  refine wp_call (fseal_c z4 [(z1,[83]),(z2,uI base),(z3,uI fin)] (fun p hp=>?_) (by show 3≤1000000;omega) hs) fun _ w' hs=>?_
  ·simp only [List.mem_cons,List.not_mem_nil,or_false] at hp
   rcases hp with rfl|rfl|rfl
   ·exact ⟨f1,by show (1:Nat)≤_;omega⟩
   ·exact ⟨f2,by show (uI base).length≤_;omega⟩
   ·exact ⟨f3,by show (uI fin).length≤_;omega⟩
  obtain ⟨z5,rfl,hs⟩:=hs
  refine ret_of ?_
  refine ⟨rfl,z5,rfl,?_⟩
  have e:([(z1,[83]),(z2,uI base),(z3,uI fin)]:List (Sl × List UInt8)).flatMap Prod.snd=shB base fin:=by simp [shB]
  rw [e] at hs
  have hs:Sat _ (slc T.a34 1 z5 ((shL base fin).flatMap encU)::_):=hs
  exact hs.sub
theorem headed_c (x:Sl) (body:List UInt8) (base:Int) (hb:0≤base∧base<9223372036854775808) [hx:FocR l x 1 (body.flatMap encU)] (hn:body.length≤1000000000) (hs:Sat w l) :
  Ret P F.a70 #[x.v,.int .i64 base] w fun vs w'=>∃ v:Int,vs=[.int .i64 v,.bool (headS base body).isSome]∧(∀ f,headS base body=some f→v=f)∧Sat w' l :=
 zf78_calls x base <| by
  unfold zf78
  refine wp_call (newS_c x body hn hs) fun _ w' hs=>?_
  obtain ⟨p,rfl,hs⟩:=hs
  refine ret_of ?_
  refine wp_call (byteS_c (p:=p) hs) fun _ _ hs=>?_
  obtain ⟨rfl,hs⟩:=hs
  refine ret_of ?_
  refine wp_call (uintS_c (p:=p) hs) fun _ _ hs=>?_
  obtain ⟨rfl,hs⟩:=hs
  refine ret_of ?_
  refine wp_call (uintS_c (p:=p) hs) fun _ _ hs=>?_
  obtain ⟨rfl,hs⟩:=hs
  refine ret_of ?_
  refine wp_lt ?_
  refine wp_lt ?_
  refine wp_lt ?_
  refine wp_call (endS_c (p:=p) hs) fun _ w' hs=>?_
  obtain ⟨e,rfl,he,hs⟩:=hs
  refine ret_of ?_
  have eh:headS base body=if (uintS (uintS (byteS (some body)).2).2).2=some []∧(byteS (some body)).1=83∧((uintS (byteS (some body)).2).1:Int)=base∧base≤1099511627776∧(uintS (uintS (byteS (some body)).2).2).1≤1099511627776∧((uintS (uintS (byteS (some body)).2).2).1=0∨base<(uintS (uintS (byteS (some body)).2).2).1) then some ((uintS (uintS (byteS (some body)).2).2).1:Int) else none:=rfl
  generalize headS base body=HS at eh he ⊢
  generalize byteS (some body)=k at eh he ⊢
  generalize uintS k.2=m at eh he ⊢
  generalize uintS m.2=q at eh he ⊢
  have ew:IntKind.wrap .u64 base=base:=wu64 (by omega) (by omega)
  rw [ew]
  refine wp_if (fun h=>?_) fun h=>?_
  ·have:HS=none:=by
    rw [eh,if_neg]
    rintro ⟨h1,h2,h3,h4,h5,-⟩
    have h6:=he.2 h1
    rcases h with (((h|h)|h)|h)|h
    ·exact h h6
    ·apply h;rw [h2];rfl
    ·exact h h3
    ·omega
    ·omega
   rw [this]
   exact ⟨rfl,0,rfl,(fun f hf=>by cases hf),hs⟩
  have h1:q.2=some []:=he.1 (Decidable.byContradiction fun hh=>h (.inl (.inl (.inl (.inl hh)))))
  have h2:k.1=83:=by
   have:((k.1:Nat):Int)=83:=Decidable.byContradiction fun hh=>h (.inl (.inl (.inl (.inr hh))))
   omega
  have h3:((m.1:Nat):Int)=base:=Decidable.byContradiction fun hh=>h (.inl (.inl (.inr hh)))
  have h4:base≤1099511627776:=by
   apply Decidable.byContradiction;intro hh;exact h (.inl (.inr (by omega)))
  have h5:q.1≤1099511627776:=by
   apply Decidable.byContradiction;intro hh;exact h (.inr (by omega))
  rw [w64 (by omega) (by omega)]
  refine wp_lt ?_
  refine wp_lt ?_
  refine ⟨rfl,((q.1:Nat):Int),?_,?_,hs⟩
  ·congr 2
   rw [eh]
   by_cases h6:q.1=0∨base<q.1
   ·rw [if_pos ⟨h1,h2,h3,h4,h5,h6⟩]
    have:(((q.1:Nat):Int) == 0 || decide (((q.1:Nat):Int)>base))=true:=by
     rw [Bool.or_eq_true,beq_iff_eq,decide_eq_true_eq];omega
    rw [this];rfl
   ·rw [if_neg fun hh=>h6 hh.2.2.2.2.2]
    have:(((q.1:Nat):Int) == 0 || decide (((q.1:Nat):Int)>base))=false:=by
     rw [Bool.or_eq_false_iff,beq_eq_false_iff_ne,decide_eq_false_iff_not];omega
    rw [this];rfl
  ·intro f hf
   rw [eh] at hf
   split at hf
   ·exact Option.some.inj hf
   ·cases hf
theorem timeG_take (x:Int) (rs:List RecM) (i:Nat) (hi:i<rs.length):timeG x (rs.take (i+1))=max (timeG x (rs.take i)) rs[i].time:=by
 rw [List.take_succ_eq_append_getElem hi]
 unfold timeG
 rw [List.foldl_append]
 rfl
theorem latest_c (b:BatM) [hb:FocR l b.x 4 (b.rs.flatMap encR)] (hlen:b.rs.length≤1000000000) (hs:Sat w l):Ret P F.a71 #[.agg (encB7 b).toArray] w fun vs w'=>vs=[.int .i64 (lateB b)]∧Sat w' l :=
 zf79_calls b.base b.pid b.epoch b.seq b.kind b.time b.x <| by
  unfold zf79
  have hl:=hs.slen b.x (xs:=b.rs) (enc:=encR)
  refine wp_boxO hs fun a0 w' hs=>?_
  refine wp_ldO hs ?_
  refine wp_mid (fun q w'=>q=(timeG (-1) b.rs,())∧Sat w' (pt a0 (.cells (cB b) T.a1)::l)) ?_ ?_
  ·refine wp_loop (fun m v w=>∃ i:Nat,v=(timeG (-1) (b.rs.take i),((i:Int),()))∧i≤b.rs.length∧b.rs.length-i=m∧Sat w (pt a0 (.cells (cB b) T.a1)::l)) b.rs.length ⟨0,rfl,by omega,rfl,hs⟩ ?_
   clear hs
   rintro m _ w ⟨i,rfl,hi,hm,hs⟩
   refine wp_on ?_
   refine wp_if (fun hc=>?_) fun hc=>?_
   rotate_left
   ·refine wp_pass (wp_lv ⟨?_,hs⟩)
    rw [List.take_of_length_le (by omega)]
   have hil:i<b.rs.length:=by omega
   refine wp_ixA hs (xs:=b.rs) (enc:=encR) i hil ?_
   refine wp_newO hs fun c w' hs=>?_
   refine wp_stG hs fun w' hs=>?_
   refine wp_ldO hs ?_
   refine wp_ltx (y:=timeG (-1) (b.rs.take (i+1))) ?_ (by rw [timeG_take _ _ _ hil];split <;> omega)
   rw [wS (i:=i) (by omega)]
   exact wp_lp (b.rs.length-(i+1)) ⟨i+1,rfl,by omega,rfl,hs.sub⟩
  clear hs
  rintro _ w ⟨rfl,hs⟩
  refine wp_on ?_
  refine wp_ldO hs ?_
  refine wp_mid (fun q w'=>q=(lateB b,())∧Sat w' (pt a0 (.cells (cB b) T.a1)::l)) ?_ ?_
  ·unfold lateB
   refine wp_if (fun h=>?_) fun h=>?_
   ·refine wp_ldO hs ?_
    refine wp_lt ?_
    refine wp_lv ⟨?_,hs⟩
    rw [if_pos (List.length_eq_zero_iff.1 (by omega))]
   ·refine wp_lv ⟨?_,hs⟩
    rw [if_neg (by rintro h0;rw [h0] at hl;simp at hl;omega)]
  rintro _ w2 ⟨rfl,hs⟩
  refine wp_lt ?_
  exact ⟨rfl,rfl,hs.tail⟩
theorem lmay_c (seg gap:Int) (hs:Sat w l):Ret P F.a72 #[.agg #[.int .i64 seg,.int .i64 gap]] w fun vs w'=>vs=[.bool (decide ((64≤seg∧seg≤4194304)∧(1≤gap∧gap≤4194304)))]∧Sat w' l :=
 zf80_calls seg gap <| by
  unfold zf80
  refine wp_boxO hs fun a0 w' hs=>?_
  refine wp_ldO hs ?_
  refine wp_ldO hs ?_
  refine wp_ldO hs ?_
  refine wp_ldO hs ?_
  refine wp_lt ?_
  refine ⟨rfl,?_,hs.tail⟩
  congr 2
  rw [Bool.eq_iff_iff,decide_eq_true_iff]
  simp only [Bool.and_eq_true,decide_eq_true_eq]
  omega
theorem prefix_l (s:ByteArray) (hs:Sat w l):Ret P F.a68 #[.string s] w fun vs w'=>vs=[.bool (preS s)]∧Sat w' l :=
 zf76_calls s <| by
  unfold zf76
  unfold preS
  refine wp_if (fun h=>?_) fun h=>?_
  ·rw [decide_eq_false (by omega),Bool.false_and]
   exact ⟨rfl,rfl,hs⟩
  rw [decide_eq_true (by omega),Bool.true_and]
  refine wp_toB hs fun x w' hs=>?_
  have hl:=hs.slen x (xs:=bl s) (enc:=encU)
  have hsz:=size_bl s
  refine wp_mid (fun _ w'=>((bl s).all fun c=>(97≤c.toNat && c.toNat≤122) || (48≤c.toNat && c.toNat≤57))=true∧Sat w' l) ?_ ?_
  rotate_left
  ·rintro _ w2 ⟨h2,hs⟩
   rw [h2]
   exact ⟨rfl,rfl,hs⟩
  refine wp_loop (fun m v w=>∃ i:Nat,v=((i:Int),())∧i≤(bl s).length∧(bl s).length-i=m∧(((bl s).take i).all fun c=>(97≤c.toNat && c.toNat≤122) || (48≤c.toNat && c.toNat≤57))=true∧Sat w (slc T.a34 1 x ((bl s).flatMap encU)::l)) (bl s).length ⟨0,rfl,by omega,rfl,rfl,hs⟩ ?_
  clear hs
  rintro m _ w ⟨i,rfl,hi,hm,hall,hs⟩
  refine wp_on ?_
  refine wp_if (fun hc=>?_) fun hc=>?_
  rotate_left
  ·refine wp_pass (wp_lv ⟨?_,hs.tail⟩)
   rwa [List.take_of_length_le (by omega)] at hall
  have hil:i<(bl s).length:=by omega
  refine wp_ix1 hs (xs:=bl s) (enc:=encU) i hil ?_
  refine wp_lt ?_
  have hstep:(((bl s).take (i+1)).all fun c=>(97≤c.toNat && c.toNat≤122) || (48≤c.toNat && c.toNat≤57))=((97≤(bl s)[i].toNat && (bl s)[i].toNat≤122) || (48≤(bl s)[i].toNat && (bl s)[i].toNat≤57)):=by
   rw [List.take_succ_eq_append_getElem hil,List.all_append,hall]
   simp
  refine wp_ite (fun h3=>?_) fun h3=>?_
  ·refine wp_pass (wp_pass ⟨rfl,?_,hs.tail⟩)
   have hf:((97≤(bl s)[i].toNat && (bl s)[i].toNat≤122) || (48≤(bl s)[i].toNat && (bl s)[i].toNat≤57))=false:=by
    rw [Bool.eq_false_iff]
    intro hh
    simp only [Bool.not_eq_true',Bool.or_eq_false_iff,Bool.and_eq_false_iff,decide_eq_false_iff_not] at h3
    simp only [Bool.or_eq_true,Bool.and_eq_true,decide_eq_true_eq] at hh
    omega
   have:((bl s).all fun c=>(97≤c.toNat && c.toNat≤122) || (48≤c.toNat && c.toNat≤57))=false:=by
    rw [← List.take_append_drop (i+1) (bl s),List.all_append,hstep,hf]
    rfl
   rw [this]
  ·rw [wS (i:=i) (by omega)]
   refine wp_lp ((bl s).length-(i+1)) ⟨i+1,rfl,by omega,rfl,?_,hs⟩
   rw [hstep]
   simp only [Bool.not_eq_false',Bool.or_eq_true,Bool.and_eq_true,decide_eq_true_eq] at h3
   simp only [Bool.or_eq_true,Bool.and_eq_true,decide_eq_true_eq]
   omega
end
end Go.Dec
