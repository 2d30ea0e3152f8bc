/- What the claim of this folder leans on: our own texts, joined, without what it does not use. -/
import Derived.Test.YtgpcickgjngglaaGreatRows
import Derived.WalkKit
import Derived.ProofKit
import Derived.OpenShut
import Derived.RowKit3
import Derived.OrdersHeld
import Derived.Scope
import Derived.KernelRfl
import Derived.Laws.Sem
import Derived.Laws.StructEq
import Derived.Deep.AppendSrc
import Derived.Laws.BytesArg
import Derived.Laws.RangeString
import Derived.Maps.RangeRun
import Derived.Lib.ConvBytes
import Derived.Lib.SlBytesConst
import Derived.ChangeSlices
import Derived.ChangeMaps5
import Derived.ChangeSame
import Derived.Deep.Slices
import Derived.Deep.Fields
import Derived.Test.YtgpcickgjngglaaGreatProg
import Derived.Laws.MakeOwn
import Derived.WideKeyRuns
import Derived.DeepKeys3
import Derived.Sort.MapsRangeIn
import Derived.Sort.KeysCollected
import Derived.RangeFuncNested
import Derived.RangeFuncBound
import Derived.RangeFuncCalls
import Derived.RangeFuncLeaves
import Derived.RangeFuncBox
import Derived.OwnWalkIn
import Derived.TacticsInMore
import Derived.RegionIn
import Derived.LoopNIn
import Derived.LoopIn
import Derived.Maps.AppendAt
import Derived.Shelf.Abstract
import Derived.Shelf.Sort.Plain
import Derived.Shelf.Slices.In.SortNone
import Derived.Test.YtgpcickgjngglaaGreatQORec1
import Derived.Test.YtgpcickgjngglaaGreatQORec2
import Derived.Test.YtgpcickgjngglaaGreatQORec3
import Derived.Test.YtgpcickgjngglaaGreatQORec4
import Derived.Test.YtgpcickgjngglaaGreatQORec5
import Derived.Test.YtgpcickgjngglaaGreatQORec6
set_option linter.unusedVariables false
set_option linter.unusedSimpArgs false
namespace Go.Dec
structure SortI where
 T:TypeId
 s:Sh1
 sz:Nat
 less:HL s.prims->HL s.prims->(Bool->Prog)->Prog
 ex:List Value
 xs:TypeId
 ti:TypeId
 fNext:FuncId
 fPow:FuncId
 f_sift:FuncId
 f_heap:FuncId
 f_ins:FuncId
 f_brk:FuncId
 f_rev:FuncId
 f_pins:FuncId
 f_peq:FuncId
 f_part:FuncId
 f_ord2:FuncId
 f_med:FuncId
 f_medj:FuncId
 f_piv:FuncId
 f_pdq:FuncId
def SortI.sift (I:SortI) (data:Sl) (lo hi:Int) (first:Int):Prog :=
.lt (.int .i64) (lo) λ(n0:Int) =>
.bind 1 [] (
.loop 2 [.one (.int .i64)] (n0,()) (u1 λ(n1:Int) =>
.lt (.int .i64) (IntKind.wrap .i64 (IntKind.wrap .i64 (2*n1)+1)) λ(n2:Int) =>
.ite (decide (n2>=hi)) (
.done 1 []) (
.bind 3 [.one .bool] (
.tick <|
.ex [.adr] (c1 λa3=>decide (IntKind.wrap .i64 (n2+1)<hi)=true->0<=IntKind.wrap .i64 (first+n2)/\IntKind.wrap .i64 (first+n2)<((data.len:Nat):Int)/\data.a=some a3) (u1 λa4 =>
.read ((decide (IntKind.wrap .i64 (n2+1)<hi)=true)) (ld I.T (Addr.add a4 (Int.toNat (IntKind.wrap .i64 (first+n2))*I.sz))) (.one I.s) (λn5 =>
.ex [.adr] (c1 λa6=>decide (IntKind.wrap .i64 (n2+1)<hi)=true->0<=IntKind.wrap .i64 (IntKind.wrap .i64 (first+n2)+1)/\IntKind.wrap .i64 (IntKind.wrap .i64 (first+n2)+1)<((data.len:Nat):Int)/\data.a=some a6) (u1 λa7 =>
.read ((decide (IntKind.wrap .i64 (n2+1)<hi)=true)) (ld I.T (Addr.add a7 (Int.toNat (IntKind.wrap .i64 (IntKind.wrap .i64 (first+n2)+1))*I.sz))) (.one I.s) (λn8 =>
.ite (decide (IntKind.wrap .i64 (n2+1)<hi)) (
I.less n5 n8 (λb9 =>
.untick <|
.done 3 [.bool b9])) (
.untick <|
.done 3 [.bool false])))))) (u1 λb10 =>
.bind 3 [.one (.int .i64)] (
.ite (b10) (
.lt (.int .i64) (IntKind.wrap .i64 (n2+1)) λ(n11:Int) =>
.done 3 [.int .i64 n11]) (
.done 3 [.int .i64 n2])) (u1 λ(n12:Int) =>
.tick <|
.ex [.adr] (c1 λa13=>0<=IntKind.wrap .i64 (first+n1)/\IntKind.wrap .i64 (first+n1)<((data.len:Nat):Int)/\data.a=some a13) (u1 λa14 =>
.read (True) (ld I.T (Addr.add a14 (Int.toNat (IntKind.wrap .i64 (first+n1))*I.sz))) (.one I.s) (λn15 =>
.ex [.adr] (c1 λa16=>0<=IntKind.wrap .i64 (first+n12)/\IntKind.wrap .i64 (first+n12)<((data.len:Nat):Int)/\data.a=some a16) (u1 λa17 =>
.read (True) (ld I.T (Addr.add a17 (Int.toNat (IntKind.wrap .i64 (first+n12))*I.sz))) (.one I.s) (λn18 =>
I.less n15 n18 (λb19 =>
.untick <|
.ite (not b19) (
.done 0 []) (
.bind 3 [] (
.tick <|
.ex [.adr] (c1 λa20=>0<=IntKind.wrap .i64 (first+n12)/\IntKind.wrap .i64 (first+n12)<((data.len:Nat):Int)/\data.a=some a20) (u1 λa21 =>
.read (True) (ld I.T (Addr.add a21 (Int.toNat (IntKind.wrap .i64 (first+n12))*I.sz))) (.one I.s) (λn22 =>
.ex [.adr] (c1 λa23=>0<=IntKind.wrap .i64 (first+n1)/\IntKind.wrap .i64 (first+n1)<((data.len:Nat):Int)/\data.a=some a23) (u1 λa24 =>
.read (True) (ld I.T (Addr.add a24 (Int.toNat (IntKind.wrap .i64 (first+n1))*I.sz))) (.one I.s) (λn25 =>
.ex [.adr] (c1 λa26=>0<=IntKind.wrap .i64 (first+n1)/\IntKind.wrap .i64 (first+n1)<((data.len:Nat):Int)/\data.a=some a26) (u1 λa27 =>
.actU (st I.T (Addr.add a27 (Int.toNat (IntKind.wrap .i64 (first+n1))*I.sz)) ((Sh.one I.s).mk n22)) <|
.ex [.adr] (c1 λa28=>0<=IntKind.wrap .i64 (first+n12)/\IntKind.wrap .i64 (first+n12)<((data.len:Nat):Int)/\data.a=some a28) (u1 λa29 =>
.actU (st I.T (Addr.add a29 (Int.toNat (IntKind.wrap .i64 (first+n12))*I.sz)) ((Sh.one I.s).mk n25)) <|
.untick <|
.done 3 []))))))) (u0 <|
.lt (.int .i64) (n12) λ(n30:Int) =>
.done 2 [.int .i64 n30])))))))))))) (u0 <|
.done 0 [])
def SortI.heap (I:SortI) (data:Sl) (a:Int) (b:Int):Prog :=
.lt (.int .i64) (a) λ(n0:Int) =>
.lt (.int .i64) (IntKind.wrap .i64 (b-a)) λ(n1:Int) =>
.lt (.int .i64) (IntKind.wrap .i64 (Int.tdiv (IntKind.wrap .i64 (n1-1)) 2)) λ(n2:Int) =>
.bind 1 [] (
.loop 2 [.one (.int .i64)] (n2,()) (u1 λ(n3:Int) =>
.ite (decide (n3>=0)) (
.call I.f_sift ([data.v,.int .i64 n3,.int .i64 n1,.int .i64 n0]++I.ex) (.tup []) (u0 <|
.lt (.int .i64) (IntKind.wrap .i64 (n3-1)) λ(n4:Int) =>
.done 2 [.int .i64 n4])) (
.done 1 []))) (u0 <|
.lt (.int .i64) (IntKind.wrap .i64 (n1-1)) λ(n5:Int) =>
.bind 1 [] (
.loop 2 [.one (.int .i64)] (n5,()) (u1 λ(n6:Int) =>
.ite (decide (n6>=0)) (
.bind 3 [] (
.tick <|
.ex [.adr] (c1 λa7=>0<=IntKind.wrap .i64 (n0+n6)/\IntKind.wrap .i64 (n0+n6)<((data.len:Nat):Int)/\data.a=some a7) (u1 λa8 =>
.read (True) (ld I.T (Addr.add a8 (Int.toNat (IntKind.wrap .i64 (n0+n6))*I.sz))) (.one I.s) (λn9 =>
.ex [.adr] (c1 λa10=>0<=n0/\n0<((data.len:Nat):Int)/\data.a=some a10) (u1 λa11 =>
.read (True) (ld I.T (Addr.add a11 (Int.toNat n0*I.sz))) (.one I.s) (λn12 =>
.ex [.adr] (c1 λa13=>0<=n0/\n0<((data.len:Nat):Int)/\data.a=some a13) (u1 λa14 =>
.actU (st I.T (Addr.add a14 (Int.toNat n0*I.sz)) ((Sh.one I.s).mk n9)) <|
.ex [.adr] (c1 λa15=>0<=IntKind.wrap .i64 (n0+n6)/\IntKind.wrap .i64 (n0+n6)<((data.len:Nat):Int)/\data.a=some a15) (u1 λa16 =>
.actU (st I.T (Addr.add a16 (Int.toNat (IntKind.wrap .i64 (n0+n6))*I.sz)) ((Sh.one I.s).mk n12)) <|
.untick <|
.done 3 []))))))) (u0 <|
.call I.f_sift ([data.v,.int .i64 0,.int .i64 n6,.int .i64 n0]++I.ex) (.tup []) (u0 <|
.lt (.int .i64) (IntKind.wrap .i64 (n6-1)) λ(n17:Int) =>
.done 2 [.int .i64 n17]))) (
.done 1 []))) (u0 <|
.done 0 []))
def SortI.ins (I:SortI) (data:Sl) (a:Int) (b:Int):Prog :=
.lt (.int .i64) (IntKind.wrap .i64 (a+1)) λ(n0:Int) =>
.bind 1 [] (
.loop 2 [.one (.int .i64)] (n0,()) (u1 λ(n1:Int) =>
.ite (decide (n1<b)) (
.bind 3 [] (
.lt (.int .i64) (n1) λ(n2:Int) =>
.bind 4 [] (
.loop 5 [.one (.int .i64)] (n2,()) (u1 λ(n3:Int) =>
.bind 6 [.one .bool] (
.tick <|
.ex [.adr] (c1 λa4=>decide (n3>a)=true->0<=n3/\n3<((data.len:Nat):Int)/\data.a=some a4) (u1 λa5 =>
.read ((decide (n3>a)=true)) (ld I.T (Addr.add a5 (Int.toNat n3*I.sz))) (.one I.s) (λn6 =>
.ex [.adr] (c1 λa7=>decide (n3>a)=true->0<=IntKind.wrap .i64 (n3-1)/\IntKind.wrap .i64 (n3-1)<((data.len:Nat):Int)/\data.a=some a7) (u1 λa8 =>
.read ((decide (n3>a)=true)) (ld I.T (Addr.add a8 (Int.toNat (IntKind.wrap .i64 (n3-1))*I.sz))) (.one I.s) (λn9 =>
.ite (decide (n3>a)) (
I.less n6 n9 (λb10 =>
.untick <|
.done 6 [.bool b10])) (
.untick <|
.done 6 [.bool false])))))) (u1 λb11 =>
.ite (b11) (
.bind 6 [] (
.tick <|
.ex [.adr] (c1 λa12=>0<=IntKind.wrap .i64 (n3-1)/\IntKind.wrap .i64 (n3-1)<((data.len:Nat):Int)/\data.a=some a12) (u1 λa13 =>
.read (True) (ld I.T (Addr.add a13 (Int.toNat (IntKind.wrap .i64 (n3-1))*I.sz))) (.one I.s) (λn14 =>
.ex [.adr] (c1 λa15=>0<=n3/\n3<((data.len:Nat):Int)/\data.a=some a15) (u1 λa16 =>
.read (True) (ld I.T (Addr.add a16 (Int.toNat n3*I.sz))) (.one I.s) (λn17 =>
.ex [.adr] (c1 λa18=>0<=n3/\n3<((data.len:Nat):Int)/\data.a=some a18) (u1 λa19 =>
.actU (st I.T (Addr.add a19 (Int.toNat n3*I.sz)) ((Sh.one I.s).mk n14)) <|
.ex [.adr] (c1 λa20=>0<=IntKind.wrap .i64 (n3-1)/\IntKind.wrap .i64 (n3-1)<((data.len:Nat):Int)/\data.a=some a20) (u1 λa21 =>
.actU (st I.T (Addr.add a21 (Int.toNat (IntKind.wrap .i64 (n3-1))*I.sz)) ((Sh.one I.s).mk n17)) <|
.untick <|
.done 6 []))))))) (u0 <|
.lt (.int .i64) (IntKind.wrap .i64 (n3-1)) λ(n22:Int) =>
.done 5 [.int .i64 n22])) (
.done 4 [])))) (u0 <|
.done 3 [])) (u0 <|
.lt (.int .i64) (IntKind.wrap .i64 (n1+1)) λ(n23:Int) =>
.done 2 [.int .i64 n23])) (
.done 1 []))) (u0 <|
.done 0 [])
def SortI.brk (I:SortI) (data:Sl) (a:Int) (b:Int):Prog :=
.lt (.int .i64) (IntKind.wrap .i64 (b-a)) λ(n0:Int) =>
.bind 1 [] (
.ite (decide (n0>=8)) (
.act (new I.xs) sA (u1 λa1 =>
.actU (st I.xs a1 (.int .u64 (IntKind.wrap .u64 n0))) <|
.call I.fPow [.int .i64 n0] (sI .u64) (u1 λ(n2:Int) =>
.lt (.int .u64) (n2) λ(n3:Int) =>
.lt (.int .i64) (IntKind.wrap .i64 (IntKind.wrap .i64 (a+IntKind.wrap .i64 (IntKind.wrap .i64 (Int.tdiv n0 4)*2))-1)) λ(n4:Int) =>
.bind 2 [] (
.loop 3 [.one (.int .i64)] (n4,()) (u1 λ(n5:Int) =>
.ite (decide (n5<=IntKind.wrap .i64 (IntKind.wrap .i64 (a+IntKind.wrap .i64 (IntKind.wrap .i64 (Int.tdiv n0 4)*2))+1))) (
.call I.fNext [.pointer (some a1)] (sI .u64) (u1 λ(n6:Int) =>
.lt (.int .i64) (IntKind.wrap .i64 (IntKind.wrap .u64 (((BitVec.toNat (BitVec.ofInt 64 n6 &&& BitVec.ofInt 64 (IntKind.wrap .u64 (n3-1))):Nat):Int)))) λ(n7:Int) =>
.bind 4 [.one (.int .i64)] (
.ite (decide (n7>=n0)) (
.lt (.int .i64) (IntKind.wrap .i64 (n7-n0)) λ(n8:Int) =>
.done 4 [.int .i64 n8]) (
.done 4 [.int .i64 n7])) (u1 λ(n9:Int) =>
.bind 4 [] (
.tick <|
.ex [.adr] (c1 λa10=>0<=IntKind.wrap .i64 (a+n9)/\IntKind.wrap .i64 (a+n9)<((data.len:Nat):Int)/\data.a=some a10) (u1 λa11 =>
.read (True) (ld I.T (Addr.add a11 (Int.toNat (IntKind.wrap .i64 (a+n9))*I.sz))) (.one I.s) (λn12 =>
.ex [.adr] (c1 λa13=>0<=n5/\n5<((data.len:Nat):Int)/\data.a=some a13) (u1 λa14 =>
.read (True) (ld I.T (Addr.add a14 (Int.toNat n5*I.sz))) (.one I.s) (λn15 =>
.ex [.adr] (c1 λa16=>0<=n5/\n5<((data.len:Nat):Int)/\data.a=some a16) (u1 λa17 =>
.actU (st I.T (Addr.add a17 (Int.toNat n5*I.sz)) ((Sh.one I.s).mk n12)) <|
.ex [.adr] (c1 λa18=>0<=IntKind.wrap .i64 (a+n9)/\IntKind.wrap .i64 (a+n9)<((data.len:Nat):Int)/\data.a=some a18) (u1 λa19 =>
.actU (st I.T (Addr.add a19 (Int.toNat (IntKind.wrap .i64 (a+n9))*I.sz)) ((Sh.one I.s).mk n15)) <|
.untick <|
.done 4 []))))))) (u0 <|
.lt (.int .i64) (IntKind.wrap .i64 (n5+1)) λ(n20:Int) =>
.done 3 [.int .i64 n20])))) (
.done 2 []))) (u0 <|
.done 1 [])))) (
.done 1 [])) (u0 <|
.done 0 [])
def SortI.rev (I:SortI) (data:Sl) (a:Int) (b:Int):Prog :=
.lt (.int .i64) (a) λ(n0:Int) =>
.lt (.int .i64) (IntKind.wrap .i64 (b-1)) λ(n1:Int) =>
.bind 1 [] (
.loop 2 [.one (.int .i64),.one (.int .i64)] (n0,(n1,())) (u2 λ(n2 n3:Int) =>
.ite (decide (n2<n3)) (
.bind 3 [] (
.tick <|
.ex [.adr] (c1 λa4=>0<=n3/\n3<((data.len:Nat):Int)/\data.a=some a4) (u1 λa5 =>
.read (True) (ld I.T (Addr.add a5 (Int.toNat n3*I.sz))) (.one I.s) (λn6 =>
.ex [.adr] (c1 λa7=>0<=n2/\n2<((data.len:Nat):Int)/\data.a=some a7) (u1 λa8 =>
.read (True) (ld I.T (Addr.add a8 (Int.toNat n2*I.sz))) (.one I.s) (λn9 =>
.ex [.adr] (c1 λa10=>0<=n2/\n2<((data.len:Nat):Int)/\data.a=some a10) (u1 λa11 =>
.actU (st I.T (Addr.add a11 (Int.toNat n2*I.sz)) ((Sh.one I.s).mk n6)) <|
.ex [.adr] (c1 λa12=>0<=n3/\n3<((data.len:Nat):Int)/\data.a=some a12) (u1 λa13 =>
.actU (st I.T (Addr.add a13 (Int.toNat n3*I.sz)) ((Sh.one I.s).mk n9)) <|
.untick <|
.done 3 []))))))) (u0 <|
.lt (.int .i64) (IntKind.wrap .i64 (n2+1)) λ(n14:Int) =>
.lt (.int .i64) (IntKind.wrap .i64 (n3-1)) λ(n15:Int) =>
.done 2 [.int .i64 n14,.int .i64 n15])) (
.done 1 []))) (u0 <|
.done 0 [])
def SortI.pins (I:SortI) (data:Sl) (a:Int) (b:Int):Prog :=
.lt (.int .i64) (IntKind.wrap .i64 (a+1)) λ(n0:Int) =>
.bind 1 [] (
.loop 2 [.one (.int .i64),.one (.int .i64)] (n0,(0,())) (u2 λ(n1 n2:Int) =>
.ite (decide (n2<5)) (
.bind 3 [.one (.int .i64)] (
.bind 4 [.one (.int .i64)] (
.loop 5 [.one (.int .i64)] (n1,()) (u1 λ(n3:Int) =>
.bind 6 [.one .bool] (
.tick <|
.ex [.adr] (c1 λa4=>decide (n3<b)=true->0<=n3/\n3<((data.len:Nat):Int)/\data.a=some a4) (u1 λa5 =>
.read ((decide (n3<b)=true)) (ld I.T (Addr.add a5 (Int.toNat n3*I.sz))) (.one I.s) (λn6 =>
.ex [.adr] (c1 λa7=>decide (n3<b)=true->0<=IntKind.wrap .i64 (n3-1)/\IntKind.wrap .i64 (n3-1)<((data.len:Nat):Int)/\data.a=some a7) (u1 λa8 =>
.read ((decide (n3<b)=true)) (ld I.T (Addr.add a8 (Int.toNat (IntKind.wrap .i64 (n3-1))*I.sz))) (.one I.s) (λn9 =>
.ite (decide (n3<b)) (
I.less n6 n9 (λb10 =>
.untick <|
.done 6 [.bool (not b10)])) (
.untick <|
.done 6 [.bool false])))))) (u1 λb11 =>
.ite (b11) (
.lt (.int .i64) (IntKind.wrap .i64 (n3+1)) λ(n12:Int) =>
.done 5 [.int .i64 n12]) (
.done 4 [.int .i64 n3])))) (u1 λ(n13:Int) =>
.ite (n13 == b) (
.done 0 [.bool true]) (
.ite (decide (IntKind.wrap .i64 (b-a)<50)) (
.done 0 [.bool false]) (
.bind 4 [] (
.tick <|
.ex [.adr] (c1 λa14=>0<=IntKind.wrap .i64 (n13-1)/\IntKind.wrap .i64 (n13-1)<((data.len:Nat):Int)/\data.a=some a14) (u1 λa15 =>
.read (True) (ld I.T (Addr.add a15 (Int.toNat (IntKind.wrap .i64 (n13-1))*I.sz))) (.one I.s) (λn16 =>
.ex [.adr] (c1 λa17=>0<=n13/\n13<((data.len:Nat):Int)/\data.a=some a17) (u1 λa18 =>
.read (True) (ld I.T (Addr.add a18 (Int.toNat n13*I.sz))) (.one I.s) (λn19 =>
.ex [.adr] (c1 λa20=>0<=n13/\n13<((data.len:Nat):Int)/\data.a=some a20) (u1 λa21 =>
.actU (st I.T (Addr.add a21 (Int.toNat n13*I.sz)) ((Sh.one I.s).mk n16)) <|
.ex [.adr] (c1 λa22=>0<=IntKind.wrap .i64 (n13-1)/\IntKind.wrap .i64 (n13-1)<((data.len:Nat):Int)/\data.a=some a22) (u1 λa23 =>
.actU (st I.T (Addr.add a23 (Int.toNat (IntKind.wrap .i64 (n13-1))*I.sz)) ((Sh.one I.s).mk n19)) <|
.untick <|
.done 4 []))))))) (u0 <|
.bind 4 [] (
.ite (decide (IntKind.wrap .i64 (n13-a)>=2)) (
.lt (.int .i64) (IntKind.wrap .i64 (n13-1)) λ(n24:Int) =>
.bind 5 [] (
.loop 6 [.one (.int .i64)] (n24,()) (u1 λ(n25:Int) =>
.ite (decide (n25>=1)) (
.tick <|
.ex [.adr] (c1 λa26=>0<=n25/\n25<((data.len:Nat):Int)/\data.a=some a26) (u1 λa27 =>
.read (True) (ld I.T (Addr.add a27 (Int.toNat n25*I.sz))) (.one I.s) (λn28 =>
.ex [.adr] (c1 λa29=>0<=IntKind.wrap .i64 (n25-1)/\IntKind.wrap .i64 (n25-1)<((data.len:Nat):Int)/\data.a=some a29) (u1 λa30 =>
.read (True) (ld I.T (Addr.add a30 (Int.toNat (IntKind.wrap .i64 (n25-1))*I.sz))) (.one I.s) (λn31 =>
I.less n28 n31 (λb32 =>
.untick <|
.ite (not b32) (
.done 5 []) (
.bind 7 [] (
.tick <|
.ex [.adr] (c1 λa33=>0<=IntKind.wrap .i64 (n25-1)/\IntKind.wrap .i64 (n25-1)<((data.len:Nat):Int)/\data.a=some a33) (u1 λa34 =>
.read (True) (ld I.T (Addr.add a34 (Int.toNat (IntKind.wrap .i64 (n25-1))*I.sz))) (.one I.s) (λn35 =>
.ex [.adr] (c1 λa36=>0<=n25/\n25<((data.len:Nat):Int)/\data.a=some a36) (u1 λa37 =>
.read (True) (ld I.T (Addr.add a37 (Int.toNat n25*I.sz))) (.one I.s) (λn38 =>
.ex [.adr] (c1 λa39=>0<=n25/\n25<((data.len:Nat):Int)/\data.a=some a39) (u1 λa40 =>
.actU (st I.T (Addr.add a40 (Int.toNat n25*I.sz)) ((Sh.one I.s).mk n35)) <|
.ex [.adr] (c1 λa41=>0<=IntKind.wrap .i64 (n25-1)/\IntKind.wrap .i64 (n25-1)<((data.len:Nat):Int)/\data.a=some a41) (u1 λa42 =>
.actU (st I.T (Addr.add a42 (Int.toNat (IntKind.wrap .i64 (n25-1))*I.sz)) ((Sh.one I.s).mk n38)) <|
.untick <|
.done 7 []))))))) (u0 <|
.lt (.int .i64) (IntKind.wrap .i64 (n25-1)) λ(n43:Int) =>
.done 6 [.int .i64 n43])))))))) (
.done 5 []))) (u0 <|
.done 4 [])) (
.done 4 [])) (u0 <|
.bind 4 [] (
.ite (decide (IntKind.wrap .i64 (b-n13)>=2)) (
.lt (.int .i64) (IntKind.wrap .i64 (n13+1)) λ(n44:Int) =>
.bind 5 [] (
.loop 6 [.one (.int .i64)] (n44,()) (u1 λ(n45:Int) =>
.ite (decide (n45<b)) (
.tick <|
.ex [.adr] (c1 λa46=>0<=n45/\n45<((data.len:Nat):Int)/\data.a=some a46) (u1 λa47 =>
.read (True) (ld I.T (Addr.add a47 (Int.toNat n45*I.sz))) (.one I.s) (λn48 =>
.ex [.adr] (c1 λa49=>0<=IntKind.wrap .i64 (n45-1)/\IntKind.wrap .i64 (n45-1)<((data.len:Nat):Int)/\data.a=some a49) (u1 λa50 =>
.read (True) (ld I.T (Addr.add a50 (Int.toNat (IntKind.wrap .i64 (n45-1))*I.sz))) (.one I.s) (λn51 =>
I.less n48 n51 (λb52 =>
.untick <|
.ite (not b52) (
.done 5 []) (
.bind 7 [] (
.tick <|
.ex [.adr] (c1 λa53=>0<=IntKind.wrap .i64 (n45-1)/\IntKind.wrap .i64 (n45-1)<((data.len:Nat):Int)/\data.a=some a53) (u1 λa54 =>
.read (True) (ld I.T (Addr.add a54 (Int.toNat (IntKind.wrap .i64 (n45-1))*I.sz))) (.one I.s) (λn55 =>
.ex [.adr] (c1 λa56=>0<=n45/\n45<((data.len:Nat):Int)/\data.a=some a56) (u1 λa57 =>
.read (True) (ld I.T (Addr.add a57 (Int.toNat n45*I.sz))) (.one I.s) (λn58 =>
.ex [.adr] (c1 λa59=>0<=n45/\n45<((data.len:Nat):Int)/\data.a=some a59) (u1 λa60 =>
.actU (st I.T (Addr.add a60 (Int.toNat n45*I.sz)) ((Sh.one I.s).mk n55)) <|
.ex [.adr] (c1 λa61=>0<=IntKind.wrap .i64 (n45-1)/\IntKind.wrap .i64 (n45-1)<((data.len:Nat):Int)/\data.a=some a61) (u1 λa62 =>
.actU (st I.T (Addr.add a62 (Int.toNat (IntKind.wrap .i64 (n45-1))*I.sz)) ((Sh.one I.s).mk n58)) <|
.untick <|
.done 7 []))))))) (u0 <|
.lt (.int .i64) (IntKind.wrap .i64 (n45+1)) λ(n63:Int) =>
.done 6 [.int .i64 n63])))))))) (
.done 5 []))) (u0 <|
.done 4 [])) (
.done 4 [])) (u0 <|
.done 3 [.int .i64 n13]))))))) (u1 λ(n64:Int) =>
.lt (.int .i64) (IntKind.wrap .i64 (n2+1)) λ(n65:Int) =>
.done 2 [.int .i64 n64,.int .i64 n65])) (
.done 1 []))) (u0 <|
.done 0 [.bool false])
def SortI.peq (I:SortI) (data:Sl) (a b:Int) (pivot:Int):Prog :=
.bind 1 [] (
.tick <|
.ex [.adr] (c1 λa0=>0<=pivot/\pivot<((data.len:Nat):Int)/\data.a=some a0) (u1 λa1 =>
.read (True) (ld I.T (Addr.add a1 (Int.toNat pivot*I.sz))) (.one I.s) (λn2 =>
.ex [.adr] (c1 λa3=>0<=a/\a<((data.len:Nat):Int)/\data.a=some a3) (u1 λa4 =>
.read (True) (ld I.T (Addr.add a4 (Int.toNat a*I.sz))) (.one I.s) (λn5 =>
.ex [.adr] (c1 λa6=>0<=a/\a<((data.len:Nat):Int)/\data.a=some a6) (u1 λa7 =>
.actU (st I.T (Addr.add a7 (Int.toNat a*I.sz)) ((Sh.one I.s).mk n2)) <|
.ex [.adr] (c1 λa8=>0<=pivot/\pivot<((data.len:Nat):Int)/\data.a=some a8) (u1 λa9 =>
.actU (st I.T (Addr.add a9 (Int.toNat pivot*I.sz)) ((Sh.one I.s).mk n5)) <|
.untick <|
.done 1 []))))))) (u0 <|
.lt (.int .i64) (IntKind.wrap .i64 (a+1)) λ(n10:Int) =>
.lt (.int .i64) (IntKind.wrap .i64 (b-1)) λ(n11:Int) =>
.bind 1 [.one (.int .i64)] (
.loop 2 [.one (.int .i64),.one (.int .i64)] (n10,(n11,())) (u2 λ(n12 n13:Int) =>
.bind 3 [.one (.int .i64),.one (.int .i64)] (
.bind 4 [.one (.int .i64)] (
.loop 5 [.one (.int .i64)] (n12,()) (u1 λ(n14:Int) =>
.bind 6 [.one .bool] (
.tick <|
.ex [.adr] (c1 λa15=>decide (n14<=n13)=true->0<=a/\a<((data.len:Nat):Int)/\data.a=some a15) (u1 λa16 =>
.read ((decide (n14<=n13)=true)) (ld I.T (Addr.add a16 (Int.toNat a*I.sz))) (.one I.s) (λn17 =>
.ex [.adr] (c1 λa18=>decide (n14<=n13)=true->0<=n14/\n14<((data.len:Nat):Int)/\data.a=some a18) (u1 λa19 =>
.read ((decide (n14<=n13)=true)) (ld I.T (Addr.add a19 (Int.toNat n14*I.sz))) (.one I.s) (λn20 =>
.ite (decide (n14<=n13)) (
I.less n17 n20 (λb21 =>
.untick <|
.done 6 [.bool (not b21)])) (
.untick <|
.done 6 [.bool false])))))) (u1 λb22 =>
.ite (b22) (
.lt (.int .i64) (IntKind.wrap .i64 (n14+1)) λ(n23:Int) =>
.done 5 [.int .i64 n23]) (
.done 4 [.int .i64 n14])))) (u1 λ(n24:Int) =>
.bind 4 [.one (.int .i64)] (
.loop 5 [.one (.int .i64)] (n13,()) (u1 λ(n25:Int) =>
.bind 6 [.one .bool] (
.tick <|
.ex [.adr] (c1 λa26=>decide (n24<=n25)=true->0<=a/\a<((data.len:Nat):Int)/\data.a=some a26) (u1 λa27 =>
.read ((decide (n24<=n25)=true)) (ld I.T (Addr.add a27 (Int.toNat a*I.sz))) (.one I.s) (λn28 =>
.ex [.adr] (c1 λa29=>decide (n24<=n25)=true->0<=n25/\n25<((data.len:Nat):Int)/\data.a=some a29) (u1 λa30 =>
.read ((decide (n24<=n25)=true)) (ld I.T (Addr.add a30 (Int.toNat n25*I.sz))) (.one I.s) (λn31 =>
.ite (decide (n24<=n25)) (
I.less n28 n31 (λb32 =>
.untick <|
.done 6 [.bool b32])) (
.untick <|
.done 6 [.bool false])))))) (u1 λb33 =>
.ite (b33) (
.lt (.int .i64) (IntKind.wrap .i64 (n25-1)) λ(n34:Int) =>
.done 5 [.int .i64 n34]) (
.done 4 [.int .i64 n25])))) (u1 λ(n35:Int) =>
.ite (decide (n24>n35)) (
.done 1 [.int .i64 n24]) (
.bind 4 [] (
.tick <|
.ex [.adr] (c1 λa36=>0<=n35/\n35<((data.len:Nat):Int)/\data.a=some a36) (u1 λa37 =>
.read (True) (ld I.T (Addr.add a37 (Int.toNat n35*I.sz))) (.one I.s) (λn38 =>
.ex [.adr] (c1 λa39=>0<=n24/\n24<((data.len:Nat):Int)/\data.a=some a39) (u1 λa40 =>
.read (True) (ld I.T (Addr.add a40 (Int.toNat n24*I.sz))) (.one I.s) (λn41 =>
.ex [.adr] (c1 λa42=>0<=n24/\n24<((data.len:Nat):Int)/\data.a=some a42) (u1 λa43 =>
.actU (st I.T (Addr.add a43 (Int.toNat n24*I.sz)) ((Sh.one I.s).mk n38)) <|
.ex [.adr] (c1 λa44=>0<=n35/\n35<((data.len:Nat):Int)/\data.a=some a44) (u1 λa45 =>
.actU (st I.T (Addr.add a45 (Int.toNat n35*I.sz)) ((Sh.one I.s).mk n41)) <|
.untick <|
.done 4 []))))))) (u0 <|
.lt (.int .i64) (IntKind.wrap .i64 (n24+1)) λ(n46:Int) =>
.lt (.int .i64) (IntKind.wrap .i64 (n35-1)) λ(n47:Int) =>
.done 3 [.int .i64 n46,.int .i64 n47]))))) (u2 λ(n48 n49:Int) =>
.done 2 [.int .i64 n48,.int .i64 n49]))) (u1 λ(n50:Int) =>
.lt (.int .i64) (n50) λ(n51:Int) =>
.done 0 [.int .i64 n51]))
def SortI.part (I:SortI) (data:Sl) (a b:Int) (pivot:Int):Prog :=
.bind 1 [] (
.tick <|
.ex [.adr] (c1 λa0=>0<=pivot/\pivot<((data.len:Nat):Int)/\data.a=some a0) (u1 λa1 =>
.read (True) (ld I.T (Addr.add a1 (Int.toNat pivot*I.sz))) (.one I.s) (λn2 =>
.ex [.adr] (c1 λa3=>0<=a/\a<((data.len:Nat):Int)/\data.a=some a3) (u1 λa4 =>
.read (True) (ld I.T (Addr.add a4 (Int.toNat a*I.sz))) (.one I.s) (λn5 =>
.ex [.adr] (c1 λa6=>0<=a/\a<((data.len:Nat):Int)/\data.a=some a6) (u1 λa7 =>
.actU (st I.T (Addr.add a7 (Int.toNat a*I.sz)) ((Sh.one I.s).mk n2)) <|
.ex [.adr] (c1 λa8=>0<=pivot/\pivot<((data.len:Nat):Int)/\data.a=some a8) (u1 λa9 =>
.actU (st I.T (Addr.add a9 (Int.toNat pivot*I.sz)) ((Sh.one I.s).mk n5)) <|
.untick <|
.done 1 []))))))) (u0 <|
.lt (.int .i64) (IntKind.wrap .i64 (a+1)) λ(n10:Int) =>
.lt (.int .i64) (IntKind.wrap .i64 (b-1)) λ(n11:Int) =>
.bind 1 [.one (.int .i64)] (
.loop 2 [.one (.int .i64)] (n10,()) (u1 λ(n12:Int) =>
.bind 3 [.one .bool] (
.tick <|
.ex [.adr] (c1 λa13=>decide (n12<=n11)=true->0<=n12/\n12<((data.len:Nat):Int)/\data.a=some a13) (u1 λa14 =>
.read ((decide (n12<=n11)=true)) (ld I.T (Addr.add a14 (Int.toNat n12*I.sz))) (.one I.s) (λn15 =>
.ex [.adr] (c1 λa16=>decide (n12<=n11)=true->0<=a/\a<((data.len:Nat):Int)/\data.a=some a16) (u1 λa17 =>
.read ((decide (n12<=n11)=true)) (ld I.T (Addr.add a17 (Int.toNat a*I.sz))) (.one I.s) (λn18 =>
.ite (decide (n12<=n11)) (
I.less n15 n18 (λb19 =>
.untick <|
.done 3 [.bool b19])) (
.untick <|
.done 3 [.bool false])))))) (u1 λb20 =>
.ite (b20) (
.lt (.int .i64) (IntKind.wrap .i64 (n12+1)) λ(n21:Int) =>
.done 2 [.int .i64 n21]) (
.done 1 [.int .i64 n12])))) (u1 λ(n22:Int) =>
.bind 1 [.one (.int .i64)] (
.loop 2 [.one (.int .i64)] (n11,()) (u1 λ(n23:Int) =>
.bind 3 [.one .bool] (
.tick <|
.ex [.adr] (c1 λa24=>decide (n22<=n23)=true->0<=n23/\n23<((data.len:Nat):Int)/\data.a=some a24) (u1 λa25 =>
.read ((decide (n22<=n23)=true)) (ld I.T (Addr.add a25 (Int.toNat n23*I.sz))) (.one I.s) (λn26 =>
.ex [.adr] (c1 λa27=>decide (n22<=n23)=true->0<=a/\a<((data.len:Nat):Int)/\data.a=some a27) (u1 λa28 =>
.read ((decide (n22<=n23)=true)) (ld I.T (Addr.add a28 (Int.toNat a*I.sz))) (.one I.s) (λn29 =>
.ite (decide (n22<=n23)) (
I.less n26 n29 (λb30 =>
.untick <|
.done 3 [.bool (not b30)])) (
.untick <|
.done 3 [.bool false])))))) (u1 λb31 =>
.ite (b31) (
.lt (.int .i64) (IntKind.wrap .i64 (n23-1)) λ(n32:Int) =>
.done 2 [.int .i64 n32]) (
.done 1 [.int .i64 n23])))) (u1 λ(n33:Int) =>
.ite (decide (n22>n33)) (
.bind 1 [] (
.tick <|
.ex [.adr] (c1 λa34=>0<=a/\a<((data.len:Nat):Int)/\data.a=some a34) (u1 λa35 =>
.read (True) (ld I.T (Addr.add a35 (Int.toNat a*I.sz))) (.one I.s) (λn36 =>
.ex [.adr] (c1 λa37=>0<=n33/\n33<((data.len:Nat):Int)/\data.a=some a37) (u1 λa38 =>
.read (True) (ld I.T (Addr.add a38 (Int.toNat n33*I.sz))) (.one I.s) (λn39 =>
.ex [.adr] (c1 λa40=>0<=n33/\n33<((data.len:Nat):Int)/\data.a=some a40) (u1 λa41 =>
.actU (st I.T (Addr.add a41 (Int.toNat n33*I.sz)) ((Sh.one I.s).mk n36)) <|
.ex [.adr] (c1 λa42=>0<=a/\a<((data.len:Nat):Int)/\data.a=some a42) (u1 λa43 =>
.actU (st I.T (Addr.add a43 (Int.toNat a*I.sz)) ((Sh.one I.s).mk n39)) <|
.untick <|
.done 1 []))))))) (u0 <|
.lt (.int .i64) (n33) λ(n44:Int) =>
.done 0 [.int .i64 n44,.bool true])) (
.bind 1 [] (
.tick <|
.ex [.adr] (c1 λa45=>0<=n33/\n33<((data.len:Nat):Int)/\data.a=some a45) (u1 λa46 =>
.read (True) (ld I.T (Addr.add a46 (Int.toNat n33*I.sz))) (.one I.s) (λn47 =>
.ex [.adr] (c1 λa48=>0<=n22/\n22<((data.len:Nat):Int)/\data.a=some a48) (u1 λa49 =>
.read (True) (ld I.T (Addr.add a49 (Int.toNat n22*I.sz))) (.one I.s) (λn50 =>
.ex [.adr] (c1 λa51=>0<=n22/\n22<((data.len:Nat):Int)/\data.a=some a51) (u1 λa52 =>
.actU (st I.T (Addr.add a52 (Int.toNat n22*I.sz)) ((Sh.one I.s).mk n47)) <|
.ex [.adr] (c1 λa53=>0<=n33/\n33<((data.len:Nat):Int)/\data.a=some a53) (u1 λa54 =>
.actU (st I.T (Addr.add a54 (Int.toNat n33*I.sz)) ((Sh.one I.s).mk n50)) <|
.untick <|
.done 1 []))))))) (u0 <|
.lt (.int .i64) (IntKind.wrap .i64 (n22+1)) λ(n55:Int) =>
.lt (.int .i64) (IntKind.wrap .i64 (n33-1)) λ(n56:Int) =>
.bind 1 [.one (.int .i64)] (
.loop 2 [.one (.int .i64),.one (.int .i64)] (n55,(n56,())) (u2 λ(n57 n58:Int) =>
.bind 3 [.one (.int .i64),.one (.int .i64)] (
.bind 4 [.one (.int .i64)] (
.loop 5 [.one (.int .i64)] (n57,()) (u1 λ(n59:Int) =>
.bind 6 [.one .bool] (
.tick <|
.ex [.adr] (c1 λa60=>decide (n59<=n58)=true->0<=n59/\n59<((data.len:Nat):Int)/\data.a=some a60) (u1 λa61 =>
.read ((decide (n59<=n58)=true)) (ld I.T (Addr.add a61 (Int.toNat n59*I.sz))) (.one I.s) (λn62 =>
.ex [.adr] (c1 λa63=>decide (n59<=n58)=true->0<=a/\a<((data.len:Nat):Int)/\data.a=some a63) (u1 λa64 =>
.read ((decide (n59<=n58)=true)) (ld I.T (Addr.add a64 (Int.toNat a*I.sz))) (.one I.s) (λn65 =>
.ite (decide (n59<=n58)) (
I.less n62 n65 (λb66 =>
.untick <|
.done 6 [.bool b66])) (
.untick <|
.done 6 [.bool false])))))) (u1 λb67 =>
.ite (b67) (
.lt (.int .i64) (IntKind.wrap .i64 (n59+1)) λ(n68:Int) =>
.done 5 [.int .i64 n68]) (
.done 4 [.int .i64 n59])))) (u1 λ(n69:Int) =>
.bind 4 [.one (.int .i64)] (
.loop 5 [.one (.int .i64)] (n58,()) (u1 λ(n70:Int) =>
.bind 6 [.one .bool] (
.tick <|
.ex [.adr] (c1 λa71=>decide (n69<=n70)=true->0<=n70/\n70<((data.len:Nat):Int)/\data.a=some a71) (u1 λa72 =>
.read ((decide (n69<=n70)=true)) (ld I.T (Addr.add a72 (Int.toNat n70*I.sz))) (.one I.s) (λn73 =>
.ex [.adr] (c1 λa74=>decide (n69<=n70)=true->0<=a/\a<((data.len:Nat):Int)/\data.a=some a74) (u1 λa75 =>
.read ((decide (n69<=n70)=true)) (ld I.T (Addr.add a75 (Int.toNat a*I.sz))) (.one I.s) (λn76 =>
.ite (decide (n69<=n70)) (
I.less n73 n76 (λb77 =>
.untick <|
.done 6 [.bool (not b77)])) (
.untick <|
.done 6 [.bool false])))))) (u1 λb78 =>
.ite (b78) (
.lt (.int .i64) (IntKind.wrap .i64 (n70-1)) λ(n79:Int) =>
.done 5 [.int .i64 n79]) (
.done 4 [.int .i64 n70])))) (u1 λ(n80:Int) =>
.ite (decide (n69>n80)) (
.done 1 [.int .i64 n80]) (
.bind 4 [] (
.tick <|
.ex [.adr] (c1 λa81=>0<=n80/\n80<((data.len:Nat):Int)/\data.a=some a81) (u1 λa82 =>
.read (True) (ld I.T (Addr.add a82 (Int.toNat n80*I.sz))) (.one I.s) (λn83 =>
.ex [.adr] (c1 λa84=>0<=n69/\n69<((data.len:Nat):Int)/\data.a=some a84) (u1 λa85 =>
.read (True) (ld I.T (Addr.add a85 (Int.toNat n69*I.sz))) (.one I.s) (λn86 =>
.ex [.adr] (c1 λa87=>0<=n69/\n69<((data.len:Nat):Int)/\data.a=some a87) (u1 λa88 =>
.actU (st I.T (Addr.add a88 (Int.toNat n69*I.sz)) ((Sh.one I.s).mk n83)) <|
.ex [.adr] (c1 λa89=>0<=n80/\n80<((data.len:Nat):Int)/\data.a=some a89) (u1 λa90 =>
.actU (st I.T (Addr.add a90 (Int.toNat n80*I.sz)) ((Sh.one I.s).mk n86)) <|
.untick <|
.done 4 []))))))) (u0 <|
.lt (.int .i64) (IntKind.wrap .i64 (n69+1)) λ(n91:Int) =>
.lt (.int .i64) (IntKind.wrap .i64 (n80-1)) λ(n92:Int) =>
.done 3 [.int .i64 n91,.int .i64 n92]))))) (u2 λ(n93 n94:Int) =>
.done 2 [.int .i64 n93,.int .i64 n94]))) (u1 λ(n95:Int) =>
.bind 1 [] (
.tick <|
.ex [.adr] (c1 λa96=>0<=a/\a<((data.len:Nat):Int)/\data.a=some a96) (u1 λa97 =>
.read (True) (ld I.T (Addr.add a97 (Int.toNat a*I.sz))) (.one I.s) (λn98 =>
.ex [.adr] (c1 λa99=>0<=n95/\n95<((data.len:Nat):Int)/\data.a=some a99) (u1 λa100 =>
.read (True) (ld I.T (Addr.add a100 (Int.toNat n95*I.sz))) (.one I.s) (λn101 =>
.ex [.adr] (c1 λa102=>0<=n95/\n95<((data.len:Nat):Int)/\data.a=some a102) (u1 λa103 =>
.actU (st I.T (Addr.add a103 (Int.toNat n95*I.sz)) ((Sh.one I.s).mk n98)) <|
.ex [.adr] (c1 λa104=>0<=a/\a<((data.len:Nat):Int)/\data.a=some a104) (u1 λa105 =>
.actU (st I.T (Addr.add a105 (Int.toNat a*I.sz)) ((Sh.one I.s).mk n101)) <|
.untick <|
.done 1 []))))))) (u0 <|
.lt (.int .i64) (n95) λ(n106:Int) =>
.done 0 [.int .i64 n106,.bool false])))))))
def SortI.ord2 (I:SortI) (data:Sl) (a b:Int) (swaps:Option Addr):Prog :=
.tick <|
.ex [.adr] (c1 λa0=>0<=b/\b<((data.len:Nat):Int)/\data.a=some a0) (u1 λa1 =>
.read (True) (ld I.T (Addr.add a1 (Int.toNat b*I.sz))) (.one I.s) (λn2 =>
.ex [.adr] (c1 λa3=>0<=a/\a<((data.len:Nat):Int)/\data.a=some a3) (u1 λa4 =>
.read (True) (ld I.T (Addr.add a4 (Int.toNat a*I.sz))) (.one I.s) (λn5 =>
I.less n2 n5 (λb6 =>
.untick <|
.ite (b6) (
.ex [.adr] (c1 λa7=>swaps=some a7) (u1 λa8 =>
.read True (ld I.ti a8) (sI .i64) (u1 λ(n9:Int) =>
.ex [.adr] (c1 λa10=>swaps=some a10) (u1 λa11 =>
.actU (st I.ti a11 (.int .i64 (IntKind.wrap .i64 (n9+1)))) <|
.lt (.int .i64) (b) λ(n12:Int) =>
.lt (.int .i64) (a) λ(n13:Int) =>
.done 0 [.int .i64 n12,.int .i64 n13])))) (
.lt (.int .i64) (a) λ(n14:Int) =>
.lt (.int .i64) (b) λ(n15:Int) =>
.done 0 [.int .i64 n14,.int .i64 n15]))))))
def SortI.med (I:SortI) (data:Sl) (a b c:Int) (swaps:Option Addr):Prog :=
.call I.f_ord2 ([data.v,.int .i64 a,.int .i64 b,.pointer swaps]++I.ex) (.tup [.one (.int .i64),.one (.int .i64)]) (u2 λ(n0 n1:Int) =>
.lt (.int .i64) (n0) λ(n2:Int) =>
.lt (.int .i64) (n1) λ(n3:Int) =>
.call I.f_ord2 ([data.v,.int .i64 n3,.int .i64 c,.pointer swaps]++I.ex) (.tup [.one (.int .i64),.one (.int .i64)]) (u2 λ(n4 n5:Int) =>
.lt (.int .i64) (n4) λ(n6:Int) =>
.lt (.int .i64) (n5) λ(n7:Int) =>
.call I.f_ord2 ([data.v,.int .i64 n2,.int .i64 n6,.pointer swaps]++I.ex) (.tup [.one (.int .i64),.one (.int .i64)]) (u2 λ(n8 n9:Int) =>
.lt (.int .i64) (n8) λ(n10:Int) =>
.lt (.int .i64) (n9) λ(n11:Int) =>
.lt (.int .i64) (n11) λ(n12:Int) =>
.done 0 [.int .i64 n12])))
def SortI.medj (I:SortI) (data:Sl) (a:Int) (swaps:Option Addr):Prog :=
.call I.f_med ([data.v,.int .i64 (IntKind.wrap .i64 (a-1)),.int .i64 a,.int .i64 (IntKind.wrap .i64 (a+1)),.pointer swaps]++I.ex) (sI .i64) (u1 λ(n0:Int) =>
.lt (.int .i64) (n0) λ(n1:Int) =>
.done 0 [.int .i64 n1])
def SortI.piv (I:SortI) (data:Sl) (a:Int) (b:Int):Prog :=
.lt (.int .i64) (IntKind.wrap .i64 (b-a)) λ(n0:Int) =>
.act (new I.ti) sA (u1 λa1 =>
.lt (.int .i64) (IntKind.wrap .i64 (a+IntKind.wrap .i64 (IntKind.wrap .i64 (Int.tdiv n0 4)*1))) λ(n2:Int) =>
.lt (.int .i64) (IntKind.wrap .i64 (a+IntKind.wrap .i64 (IntKind.wrap .i64 (Int.tdiv n0 4)*2))) λ(n3:Int) =>
.lt (.int .i64) (IntKind.wrap .i64 (a+IntKind.wrap .i64 (IntKind.wrap .i64 (Int.tdiv n0 4)*3))) λ(n4:Int) =>
.bind 1 [.one (.int .i64)] (
.ite (decide (n0>=8)) (
.bind 2 [.one (.int .i64),.one (.int .i64),.one (.int .i64)] (
.ite (decide (n0>=50)) (
.call I.f_medj ([data.v,.int .i64 n2,.pointer (some a1)]++I.ex) (sI .i64) (u1 λ(n5:Int) =>
.lt (.int .i64) (n5) λ(n6:Int) =>
.call I.f_medj ([data.v,.int .i64 n3,.pointer (some a1)]++I.ex) (sI .i64) (u1 λ(n7:Int) =>
.lt (.int .i64) (n7) λ(n8:Int) =>
.call I.f_medj ([data.v,.int .i64 n4,.pointer (some a1)]++I.ex) (sI .i64) (u1 λ(n9:Int) =>
.lt (.int .i64) (n9) λ(n10:Int) =>
.done 2 [.int .i64 n6,.int .i64 n8,.int .i64 n10])))) (
.done 2 [.int .i64 n2,.int .i64 n3,.int .i64 n4])) (u3 λ(n11 n12 n13:Int) =>
.call I.f_med ([data.v,.int .i64 n11,.int .i64 n12,.int .i64 n13,.pointer (some a1)]++I.ex) (sI .i64) (u1 λ(n14:Int) =>
.lt (.int .i64) (n14) λ(n15:Int) =>
.done 1 [.int .i64 n15]))) (
.done 1 [.int .i64 n3])) (u1 λ(n16:Int) =>
.read True (ld I.ti a1) (sI .i64) (u1 λ(n17:Int) =>
.lt (.bool) (n17 == 0) λb18 =>
.ite (b18) (
.lt (.int .i64) (n16) λ(n19:Int) =>
.done 0 [.int .i64 n19,.int .i64 1]) (
.lt (.bool) (n17 == 12) λb20 =>
.ite (b20) (
.lt (.int .i64) (n16) λ(n21:Int) =>
.done 0 [.int .i64 n21,.int .i64 2]) (
.lt (.int .i64) (n16) λ(n22:Int) =>
.done 0 [.int .i64 n22,.int .i64 0])))))
def SortI.pdq (I:SortI) (data:Sl) (a b:Int) (limit:Int):Prog :=
.loop 1 [.one (.int .i64),.one (.int .i64),.one (.int .i64),.one .bool,.one .bool] (a,(b,(limit,(true,(true,()))))) (u5 λ(n0 n1 n2:Int) b3 b4 =>
.bind 2 [.one (.int .i64),.one (.int .i64),.one (.int .i64),.one .bool,.one .bool] (
.lt (.int .i64) (IntKind.wrap .i64 (n1-n0)) λ(n5:Int) =>
.ite (decide (n5<=12)) (
.call I.f_ins ([data.v,.int .i64 n0,.int .i64 n1]++I.ex) (.tup []) (u0 <|
.done 0 [])) (
.ite (n2 == 0) (
.call I.f_heap ([data.v,.int .i64 n0,.int .i64 n1]++I.ex) (.tup []) (u0 <|
.done 0 [])) (
.bind 3 [.one (.int .i64)] (
.ite (not b3) (
.call I.f_brk ([data.v,.int .i64 n0,.int .i64 n1]++I.ex) (.tup []) (u0 <|
.lt (.int .i64) (IntKind.wrap .i64 (n2-1)) λ(n6:Int) =>
.done 3 [.int .i64 n6])) (
.done 3 [.int .i64 n2])) (u1 λ(n7:Int) =>
.call I.f_piv ([data.v,.int .i64 n0,.int .i64 n1]++I.ex) (.tup [.one (.int .i64),.one (.int .i64)]) (u2 λ(n8 n9:Int) =>
.lt (.int .i64) (n8) λ(n10:Int) =>
.lt (.int .i64) (n9) λ(n11:Int) =>
.bind 3 [.one (.int .i64),.one (.int .i64)] (
.ite (n11 == 2) (
.call I.f_rev ([data.v,.int .i64 n0,.int .i64 n1]++I.ex) (.tup []) (u0 <|
.lt (.int .i64) (IntKind.wrap .i64 (IntKind.wrap .i64 (n1-1)-IntKind.wrap .i64 (n10-n0))) λ(n12:Int) =>
.done 3 [.int .i64 n12,.int .i64 1])) (
.done 3 [.int .i64 n10,.int .i64 n11])) (u2 λ(n13 n14:Int) =>
.bind 3 [] (
.ite (b3 && b4 && n14 == 1) (
.call I.f_pins ([data.v,.int .i64 n0,.int .i64 n1]++I.ex) sB (u1 λb15 =>
.ite (b15) (
.done 0 []) (
.done 3 []))) (
.done 3 [])) (u0 <|
.bind 3 [.one .bool] (
.tick <|
.ex [.adr] (c1 λa16=>decide (n0>0)=true->0<=IntKind.wrap .i64 (n0-1)/\IntKind.wrap .i64 (n0-1)<((data.len:Nat):Int)/\data.a=some a16) (u1 λa17 =>
.read ((decide (n0>0)=true)) (ld I.T (Addr.add a17 (Int.toNat (IntKind.wrap .i64 (n0-1))*I.sz))) (.one I.s) (λn18 =>
.ex [.adr] (c1 λa19=>decide (n0>0)=true->0<=n13/\n13<((data.len:Nat):Int)/\data.a=some a19) (u1 λa20 =>
.read ((decide (n0>0)=true)) (ld I.T (Addr.add a20 (Int.toNat n13*I.sz))) (.one I.s) (λn21 =>
.ite (decide (n0>0)) (
I.less n18 n21 (λb22 =>
.untick <|
.done 3 [.bool (not b22)])) (
.untick <|
.done 3 [.bool false])))))) (u1 λb23 =>
.ite (b23) (
.call I.f_peq ([data.v,.int .i64 n0,.int .i64 n1,.int .i64 n13]++I.ex) (sI .i64) (u1 λ(n24:Int) =>
.lt (.int .i64) (n24) λ(n25:Int) =>
.lt (.int .i64) (n25) λ(n26:Int) =>
.done 2 [.int .i64 n26,.int .i64 n1,.int .i64 n7,.bool b3,.bool b4])) (
.call I.f_part ([data.v,.int .i64 n0,.int .i64 n1,.int .i64 n13]++I.ex) (.tup [.one (.int .i64),.one .bool]) (u2 λ(n27:Int) b28 =>
.lt (.int .i64) (n27) λ(n29:Int) =>
.lt (.bool) (b28) λb30 =>
.lt (.bool) (b30) λb31 =>
.lt (.int .i64) (IntKind.wrap .i64 (n29-n0)) λ(n32:Int) =>
.lt (.int .i64) (IntKind.wrap .i64 (n1-n29)) λ(n33:Int) =>
.lt (.int .i64) (IntKind.wrap .i64 (Int.tdiv n5 8)) λ(n34:Int) =>
.bind 3 [.one (.int .i64),.one (.int .i64),.one .bool] (
.ite (decide (n32<n33)) (
.lt (.bool) (decide (n32>=n34)) λb35 =>
.call I.f_pdq ([data.v,.int .i64 n0,.int .i64 n29,.int .i64 n7]++I.ex) (.tup []) (u0 <|
.lt (.int .i64) (IntKind.wrap .i64 (n29+1)) λ(n36:Int) =>
.done 3 [.int .i64 n36,.int .i64 n1,.bool b35])) (
.lt (.bool) (decide (n33>=n34)) λb37 =>
.call I.f_pdq ([data.v,.int .i64 (IntKind.wrap .i64 (n29+1)),.int .i64 n1,.int .i64 n7]++I.ex) (.tup []) (u0 <|
.lt (.int .i64) (n29) λ(n38:Int) =>
.done 3 [.int .i64 n0,.int .i64 n38,.bool b37]))) (u3 λ(n39 n40:Int) b41 =>
.done 2 [.int .i64 n39,.int .i64 n40,.int .i64 n7,.bool b41,.bool b31]))))))))))) (u5 λ(n42 n43 n44:Int) b45 b46 =>
.done 1 [.int .i64 n42,.int .i64 n43,.int .i64 n44,.bool b45,.bool b46]))
abbrev SortI.E (I:SortI):Type:=HL I.s.prims
abbrev SortI.enc (I:SortI) (x:I.E):List Value:=HL.vals I.s.prims x
abbrev SortI.arr (I:SortI) (d:Sl) (xs:List I.E):HP:=slc I.T I.sz d (xs.flatMap I.enc)
structure SortI.Ok (P:Program) (I:SortI) (lt:I.E->I.E->Bool):Prop where
 pos:0<I.sz
 enc:∀ x,(I.enc x).length=I.sz
 ld:∀ w A (x:I.E),At w A (I.enc x)->(ld I.T A).run P w=.ok ((Sh.one I.s).mk x) w
 size:sizeOf? P I.T=some I.sz
 cells:∀ x:I.E,((Sh.one I.s).mk x).cells.toList=I.enc x
 one:∀ (x:I.E),∀ u ∈ I.enc x,u.oneCell'=true
 less:∀ {x y:I.E} {k:Bool->Prog} {w:World} {l:List HP} {Q:Post},Sat w l->(∀ w',Sat w' l->(k (lt x y)).wp P tt w' Q)->(I.less x y k).wp P tt w Q
def zaj {α:Type} (xs:List α) (i j:Nat):List α:=match xs[i]?,xs[j]? with
 | some x,some y=>(xs.set i y).set j x
 | _,_=>xs
def z7x {α:Type} (lt:α->α->Bool) (xs:List α) (i j:Nat):Bool:=match xs[i]?,xs[j]? with
 | some x,some y=>lt x y
 | _,_=>false
section
variable {P:Program} {I:SortI} {lt:I.E->I.E->Bool} {w:World} {l:List HP} {Q:Post} {d:Sl} {xs:List I.E}
theorem SortI.Ok.len (ok:I.Ok P lt) (hs:Sat w (I.arr d xs::l)):d.len=xs.length:=hs.rd.len ok.enc ok.pos
end
inductive Sw {α:Type} (a b:Nat):List α->List α->Prop
 | refl (xs:List α):Sw a b xs xs
 | step {xs ys:List α} {i j:Nat} (h:Sw a b xs ys) (hi:a<=i) (hi':i<b) (hj:a<=j) (hj':j<b):Sw a b xs (zaj ys i j)
def tr (i j p:Nat):Nat:=if p=i then j else if p=j then i else p
structure LtOk {α:Type} (lt:α->α->Bool):Prop where
 asymm:∀ {x y},lt x y=true->lt y x=false
 trans:∀ {x y z},lt x y=false->lt y z=false->lt x z=false
section
variable {α:Type} {lt:α->α->Bool} {xs ys zs:List α} {a b:Nat}
theorem zmi (xs:List α) (i j:Nat):(zaj xs i j).length=xs.length:=by
 unfold zaj;split <;> simp
theorem zx2 {i j:Nat} (hi:i<xs.length) (hj:j<xs.length) (p:Nat):(zaj xs i j)[p]? = xs[tr i j p]? := by
 simp only [zaj,List.getElem?_eq_getElem hi,List.getElem?_eq_getElem hj,tr]
 rw [List.getElem?_set]
 by_cases h1:p=i
 ·subst h1
  rw [if_pos rfl]
  by_cases h2:j=p
  ·subst h2;rw [if_pos rfl,if_pos (by simpa using hi),List.getElem?_eq_getElem hi]
  ·rw [if_neg h2,List.getElem?_set,if_pos rfl,if_pos hi,List.getElem?_eq_getElem hj]
 ·rw [if_neg h1]
  by_cases h2:j=p
  ·subst h2;rw [if_pos rfl,if_pos rfl,if_pos (by simpa using hj),List.getElem?_eq_getElem hi]
  ·rw [if_neg h2,if_neg (Ne.symm h2),List.getElem?_set,if_neg (Ne.symm h1)]
theorem Sw.length (h:Sw a b xs ys):ys.length=xs.length:=by
 induction h with
 | refl=>rfl
 | step _ _ _ _ _ ih=>rw [zmi,ih]
theorem Sw.trans (h1:Sw a b xs ys) (h2:Sw a b ys zs):Sw a b xs zs:=by
 induction h2 with
 | refl=>exact h1
 | step _ hi hi' hj hj' ih=>exact .step ih hi hi' hj hj'
theorem Sw.mono {a' b':Nat} (h:Sw a b xs ys) (ha:a'<=a) (hb:b<=b'):Sw a' b' xs ys:=by
 induction h with
 | refl=>exact .refl _
 | step _ hi hi' hj hj' ih=>exact .step ih (by omega) (by omega) (by omega) (by omega)
theorem Sw.out (h:Sw a b xs ys) {k:Nat} (hk:k<a\/b<=k):ys[k]? = xs[k]? := by
 induction h with
 | refl=>rfl
 | @step ys' i j h1 hi hi' hj hj' ih =>
  rw [<- ih]
  unfold zaj
  split
  ·rw [List.getElem?_set_ne (by omega),List.getElem?_set_ne (by omega)]
  ·rfl
theorem zsw (xs:List α) (i j:Nat):(zaj xs i j).Perm xs:=by
 unfold zaj
 split
 ·rename_i x y hx hy
  obtain ⟨hi,rfl⟩:=List.getElem?_eq_some_iff.1 hx
  obtain ⟨hj,rfl⟩:=List.getElem?_eq_some_iff.1 hy
  exact List.set_set_perm hi hj
 ·exact .refl _
theorem Sw.perm (h:Sw a b xs ys):ys.Perm xs:=by
 induction h with
 | refl=>exact .refl _
 | step _ _ _ _ _ ih=>exact (zsw _ _ _).trans ih
theorem Sw.all (h:Sw a b xs ys) (hb:b<=xs.length) {p:α->Prop} (hp:∀ k x,a<=k->k<b->xs[k]? = some x->p x):∀ k x,a<=k->k<b->ys[k]? = some x->p x:=by
 induction h with
 | refl=>exact hp
 | @step ys' i j h1 hi hi' hj hj' ih =>
  intro k x h2 h3 hx
  have hl:=h1.length
  rw [zx2 (by omega) (by omega)] at hx
  unfold tr at hx
  split at hx
  ·exact ih j x hj hj' hx
  ·split at hx
   ·exact ih i x hi hi' hx
   ·exact ih k x h2 h3 hx
def z7s (lt:α->α->Bool) (xs:List α) (a b:Nat):Prop:=∀ p q,a<=p->p<q->q<b->z7x lt xs q p=false
end
structure SortI.Impl (P:Program) (I:SortI):Prop where
 sift:∀ {d:Sl} {lo hi first:Int} {w:World} {R:List Value->World->Prop},((I.sift d lo hi first).wp P tt w λe vs w'=>e=0/\R vs w')->Ret P I.f_sift ([d.v,.int .i64 lo,.int .i64 hi,.int .i64 first]++I.ex).toArray w R
 ins:∀ {d:Sl} {a b:Int} {w:World} {R:List Value->World->Prop},((I.ins d a b).wp P tt w λe vs w'=>e=0/\R vs w')->Ret P I.f_ins ([d.v,.int .i64 a,.int .i64 b]++I.ex).toArray w R
 heap:∀ {d:Sl} {a b:Int} {w:World} {R:List Value->World->Prop},((I.heap d a b).wp P tt w λe vs w'=>e=0/\R vs w')->Ret P I.f_heap ([d.v,.int .i64 a,.int .i64 b]++I.ex).toArray w R
 brk:∀ {d:Sl} {a b:Int} {w:World} {R:List Value->World->Prop},((I.brk d a b).wp P tt w λe vs w'=>e=0/\R vs w')->Ret P I.f_brk ([d.v,.int .i64 a,.int .i64 b]++I.ex).toArray w R
 rev:∀ {d:Sl} {a b:Int} {w:World} {R:List Value->World->Prop},((I.rev d a b).wp P tt w λe vs w'=>e=0/\R vs w')->Ret P I.f_rev ([d.v,.int .i64 a,.int .i64 b]++I.ex).toArray w R
 pins:∀ {d:Sl} {a b:Int} {w:World} {R:List Value->World->Prop},((I.pins d a b).wp P tt w λe vs w'=>e=0/\R vs w')->Ret P I.f_pins ([d.v,.int .i64 a,.int .i64 b]++I.ex).toArray w R
 peq:∀ {d:Sl} {a b p:Int} {w:World} {R:List Value->World->Prop},((I.peq d a b p).wp P tt w λe vs w'=>e=0/\R vs w')->Ret P I.f_peq ([d.v,.int .i64 a,.int .i64 b,.int .i64 p]++I.ex).toArray w R
 part:∀ {d:Sl} {a b p:Int} {w:World} {R:List Value->World->Prop},((I.part d a b p).wp P tt w λe vs w'=>e=0/\R vs w')->Ret P I.f_part ([d.v,.int .i64 a,.int .i64 b,.int .i64 p]++I.ex).toArray w R
 pdq:∀ {d:Sl} {a b p:Int} {w:World} {R:List Value->World->Prop},((I.pdq d a b p).wp P tt w λe vs w'=>e=0/\R vs w')->Ret P I.f_pdq ([d.v,.int .i64 a,.int .i64 b,.int .i64 p]++I.ex).toArray w R
 piv:∀ {d:Sl} {a b:Int} {w:World} {R:List Value->World->Prop},((I.piv d a b).wp P tt w λe vs w'=>e=0/\R vs w')->Ret P I.f_piv ([d.v,.int .i64 a,.int .i64 b]++I.ex).toArray w R
 ord2:∀ {d:Sl} {a b:Int} {s:Option Addr} {w:World} {R:List Value->World->Prop},((I.ord2 d a b s).wp P tt w λe vs w'=>e=0/\R vs w')->Ret P I.f_ord2 ([d.v,.int .i64 a,.int .i64 b,.pointer s]++I.ex).toArray w R
 med:∀ {d:Sl} {a b c:Int} {s:Option Addr} {w:World} {R:List Value->World->Prop},((I.med d a b c s).wp P tt w λe vs w'=>e=0/\R vs w')->Ret P I.f_med ([d.v,.int .i64 a,.int .i64 b,.int .i64 c,.pointer s]++I.ex).toArray w R
 medj:∀ {d:Sl} {a:Int} {s:Option Addr} {w:World} {R:List Value->World->Prop},((I.medj d a s).wp P tt w λe vs w'=>e=0/\R vs w')->Ret P I.f_medj ([d.v,.int .i64 a,.pointer s]++I.ex).toArray w R
section
variable {P:Program} {I:SortI} {lt:I.E->I.E->Bool} {w:World} {l:List HP} {Q:Post} {d:Sl} {xs ys:List I.E}
def Pre (lt:I.E->I.E->Bool) (xs:List I.E) (a b:Nat):Prop:=0<a->∀ k,a<=k->k<b->z7x lt xs k (a-1)=false
theorem z6l {p q:Nat}:z7x lt xs p q=false↔∀ x y,xs[p]? = some x->xs[q]? = some y->lt x y=false:=by
 unfold z7x
 constructor
 ·intro h x y hx hy;rw [hx,hy] at h;exact h
 ·intro h
  split
  ·rename_i x y hx hy;exact h x y hx hy
  ·rfl
theorem Sw.outer {a b r:Nat} (h:Sw a b xs ys) (hb:b<=xs.length) (hr:r<a\/b<=r) (hk:∀ k,a<=k->k<b->z7x lt xs k r=false):∀ k,a<=k->k<b->z7x lt ys k r=false:=by
 intro k k1 k2
 rw [z6l]
 intro x y hx hy
 rw [h.out hr] at hy
 exact Sw.all h hb (p:=λx=>lt x y=false) (λk x k1 k2 hx=>z6l.1 (hk k k1 k2) x y hx hy) k x k1 k2 hx
theorem Sw.outer' {a b r:Nat} (h:Sw a b xs ys) (hb:b<=xs.length) (hr:r<a\/b<=r) (hk:∀ k,a<=k->k<b->z7x lt xs r k=false):∀ k,a<=k->k<b->z7x lt ys r k=false:=by
 intro k k1 k2
 rw [z6l]
 intro y x hy hx
 rw [h.out hr] at hy
 exact Sw.all h hb (p:=λx=>lt y x=false) (λk x k1 k2 hx=>z6l.1 (hk k k1 k2) y x hy hx) k x k1 k2 hx
theorem Pre.sw {a b:Nat} (h:Pre lt xs a b) (hb:b<=xs.length) (hs:Sw a b xs ys):Pre lt ys a b:=λh0=>hs.outer hb (.inl (by omega)) (h h0)
end
structure SortI.Ok2 (P:Program) (I:SortI):Prop where
 one:One P I.ti
 zer:Zer P I.ti (.int .i64 0)
 xone:One P I.xs
 xzer:Zer P I.xs (.int .u64 0)
 next:∀ {b:Nat} {u:Int} {w:World} {l:List HP},Sat w (pt b (.cells #[.int .u64 u] I.xs)::l)->Ret P I.fNext #[.pointer (some ⟨b,0,none⟩)] w λvs w'=>∃ v u',vs=[.int .u64 v]/\Sat w' (pt b (.cells #[.int .u64 u'] I.xs)::l)
 pow:∀ {n:Nat} {w:World} {l:List HP},8<=n->n<1152921504606846976->Sat w l->Ret P I.fPow #[.int .i64 n] w λvs w'=>∃ m:Nat,vs=[.int .u64 m]/\1<=m/\m<=2*n/\Sat w' l
section
variable {P:Program} {I:SortI} {lt:I.E->I.E->Bool} {w:World} {l:List HP} {Q:Post} {d:Sl} {xs ys:List I.E}
abbrev SortI.ctr (I:SortI) (c:Nat) (n:Int):HP:=pt c (.cells #[.int .i64 n] I.ti)
end
section
variable {P:Program} {I:SortI} {lt:I.E->I.E->Bool} {w:World} {l:List HP} {Q:Post} {d:Sl} {xs ys zs us:List I.E}
theorem zfs {a b p q:Nat} (h:Sw a b xs ys) (hp:p<a\/b<=p) (hq:q<a\/b<=q):z7x lt ys p q=z7x lt xs p q:=by
 unfold z7x;rw [h.out hp,h.out hq]
theorem z7s.out {a b c e:Nat} (h:z7s lt xs c e) (hs:Sw a b xs ys) (hd:e<=a\/b<=c):z7s lt ys c e:=λp q h1 h2 h3=>by
 rw [zfs hs (by omega) (by omega)];exact h p q h1 h2 h3
def zdu (lt:I.E->I.E->Bool) (vs:List I.E) (a b m:Nat):Prop:=(∀ k,a<=k->k<m->z7x lt vs m k=false)/\(∀ k,m<k->k<b->z7x lt vs k m=false)
theorem zdu.left {a b m:Nat} (h:zdu lt xs a b m) (hm:m<=xs.length) (hs:Sw a m xs ys):zdu lt ys a b m :=
 ⟨hs.outer' hm (.inr (by omega)) h.1,λk h1 h2=>by rw [zfs hs (by omega) (by omega)];exact h.2 k h1 h2⟩
theorem zdu.right {a b m:Nat} (h:zdu lt xs a b m) (hb:b<=xs.length) (hs:Sw (m+1) b xs ys):zdu lt ys a b m :=
 ⟨λk h1 h2=>by rw [zfs hs (by omega) (by omega)];exact h.1 k h1 h2,λk h1 h2=>hs.outer hb (.inl (by omega)) (λk k1 k2=>h.2 k (by omega) k2) k (by omega) h2⟩
structure Stand (lt:I.E->I.E->Bool) (xs:List I.E) (a b:Nat) (ys:List I.E) (c e:Nat):Prop where
 h1:a<=c
 h2:c<=e
 h3:e<=b
 sw:Sw a b xs ys
 pre:Pre lt ys c e
 fin:∀ zs,Sw c e ys zs->z7s lt zs c e->z7s lt zs a b
theorem Stand.step {a b c e:Nat} (h:Stand lt xs a b ys c e) (hb:b<=xs.length) (hs:Sw c e ys zs):Stand lt xs a b zs c e :=
 ⟨h.h1,h.h2,h.h3,h.sw.trans (hs.mono h.h1 h.h3),h.pre.sw (by rw [h.sw.length];have:=h.h3;omega) hs,λus h1 h2=>h.fin us (hs.trans h1) h2⟩
theorem Stand.end {a b c e:Nat} (h:Stand lt xs a b ys c e) (hs:Sw c e ys zs) (hso:z7s lt zs c e):Sw a b xs zs/\z7s lt zs a b :=
 ⟨h.sw.trans (hs.mono h.h1 h.h3),h.fin zs hs hso⟩
end
set_option maxRecDepth 4000
def z9o:ByteArray:=ByteArray.mk #[0,1,2,2,3,3,3,3,4,4,4,4,4,4,4,4,5,5,5,5,5,5,5,5,5,5,5,5,5,5,5,5,6,6,6,6,6,6,6,6,6,6,6,6,6,6,6,6,6,6,6,6,6,6,6,6,6,6,6,6,6,6,6,6,7,7,7,7,7,7,7,7,7,7,7,7,7,7,7,7,7,7,7,7,7,7,7,7,7,7,7,7,7,7,7,7,7,7,7,7,7,7,7,7,7,7,7,7,7,7,7,7,7,7,7,7,7,7,7,7,7,7,7,7,7,7,7,7,8,8,8,8,8,8,8,8,8,8,8,8,8,8,8,8,8,8,8,8,8,8,8,8,8,8,8,8,8,8,8,8,8,8,8,8,8,8,8,8,8,8,8,8,8,8,8,8,8,8,8,8,8,8,8,8,8,8,8,8,8,8,8,8,8,8,8,8,8,8,8,8,8,8,8,8,8,8,8,8,8,8,8,8,8,8,8,8,8,8,8,8,8,8,8,8,8,8,8,8,8,8,8,8,8,8,8,8,8,8,8,8,8,8,8,8,8,8,8,8,8,8,8,8,8,8,8,8]
theorem zsa:∀ i:Fin 256,∃ k:Nat,bt z9o (i.val:Int)=k/\k<=8/\(1<=i.val->2 ^ k<=2*i.val):=by
 have h:∀ i:Fin 256,0<=bt z9o (i.val:Int)/\(bt z9o (i.val:Int)).toNat<=8/\(1<=i.val->2 ^ (bt z9o (i.val:Int)).toNat<=2*i.val):=by decide
 intro i
 obtain ⟨h1,h2,h3⟩:=h i
 exact ⟨(bt z9o (i.val:Int)).toNat,by omega,h2,h3⟩
theorem z072 (x:Int):IntKind.wrap .u8 x=x % 256:=by simp [IntKind.wrap,IntKind.bits,IntKind.signed]
section
variable {w:World} {l:List HP}
structure LenS (n x s B:Nat):Prop where
 h1:x*2 ^ s<=n
 h2:1<=x
 h3:x<B
 h4:s<=64
theorem LenS.shift {n x s:Nat} (a b:Nat) (h:LenS n x s (2 ^ (a+b))) (hx:2 ^ a<=x) (hs:s+a<=64):LenS n (x / 2 ^ a) (s+a) (2 ^ b):=by
 obtain ⟨h1,h2,h3,h4⟩:=h
 have hp:0<2 ^ a:=Nat.two_pow_pos a
 refine ⟨?_,Nat.div_pos hx hp,?_,hs⟩
 ·rw [Nat.pow_add,<- Nat.mul_assoc,Nat.mul_right_comm]
  exact Nat.le_trans (Nat.mul_le_mul_right _ (Nat.div_mul_le_self x (2 ^ a))) h1
 ·rw [Nat.div_lt_iff_lt_mul hp,Nat.mul_comm,<- Nat.pow_add];exact h3
theorem z03x (n:Nat) (h0:1<=n) (h1:n<18446744073709551616) (hs:Sat w l):Ret P F.a74 #[.int .u64 n] w λvs w'=>(∃ k:Nat,vs=[.int .i64 k]/\k<=64/\2 ^ k<=2*n)/\Sat w' l :=
 zhg n <| by
  delta z009 AF AT AU Aa Ab Ac Ah
  refine zk (λv w'=>(∃ x s:Nat,v=((x:Int),(s:Int),())/\LenS n x s (2 ^ 32)/\s<=32)/\Sat w' l) ?_ ?_
  ·refine zdr (λhc=>?_) λhc=>?_
   ·have hc:(n:Int)>=4294967296:=of_decide_eq_true hc
    refine z7r (y:=((n / 2 ^ 32:Nat):Int)) (by rw [Int.fdiv_eq_ediv_of_nonneg _ (by omega)];omega) ?_
    exact z4w ⟨(((n / 2 ^ 32:Nat):Int),((32:Nat):Int),()),rfl,⟨_,32,rfl,by have:=LenS.shift (n:=n) (x:=n) (s:=0) 32 32 ⟨by omega,h0,by omega,by omega⟩ (by omega) (by omega);simpa using this,by omega⟩,hs⟩
   ·have hc:¬ (n:Int)>=4294967296:=of_decide_eq_false hc
    exact z4w ⟨((n:Int),((0:Nat):Int),()),rfl,⟨n,0,rfl,⟨by omega,h0,by omega,by omega⟩,by omega⟩,hs⟩
  rintro _ w ⟨⟨x,s,rfl,hx,hs1⟩,hs⟩
  refine zk (λv w'=>(∃ x s:Nat,v=((x:Int),(s:Int),())/\LenS n x s (2 ^ 16)/\s<=48)/\Sat w' l) ?_ ?_
  ·refine zdr (λhc=>?_) λhc=>?_
   ·have hc:(x:Int)>=65536:=of_decide_eq_true hc
    refine z7r (y:=((x / 2 ^ 16:Nat):Int)) (by dsimp only;rw [Int.fdiv_eq_ediv_of_nonneg _ (by omega)];omega) ?_
    refine z7r (y:=((s+16:Nat):Int)) (by dsimp only;rw [w64 (by omega) (by omega)];omega) ?_
    exact z4w ⟨(((x / 2 ^ 16:Nat):Int),((s+16:Nat):Int),()),rfl,⟨_,_,rfl,LenS.shift 16 16 hx (by omega) (by omega),by omega⟩,hs⟩
   ·have hc:¬ (x:Int)>=65536:=of_decide_eq_false hc
    exact z4w ⟨((x:Int),(s:Int),()),rfl,⟨x,s,rfl,⟨hx.h1,hx.h2,by omega,hx.h4⟩,by omega⟩,hs⟩
  clear hs hx hs1
  rintro _ w ⟨⟨x,s,rfl,hx,hs1⟩,hs⟩
  refine zk (λv w'=>(∃ x s:Nat,v=((x:Int),(s:Int),())/\LenS n x s (2 ^ 8)/\s<=56)/\Sat w' l) ?_ ?_
  ·refine zdr (λhc=>?_) λhc=>?_
   ·have hc:(x:Int)>=256:=of_decide_eq_true hc
    refine z7r (y:=((x / 2 ^ 8:Nat):Int)) (by dsimp only;rw [Int.fdiv_eq_ediv_of_nonneg _ (by omega)];omega) ?_
    refine z7r (y:=((s+8:Nat):Int)) (by dsimp only;rw [w64 (by omega) (by omega)];omega) ?_
    exact z4w ⟨(((x / 2 ^ 8:Nat):Int),((s+8:Nat):Int),()),rfl,⟨_,_,rfl,LenS.shift 8 8 hx (by omega) (by omega),by omega⟩,hs⟩
   ·have hc:¬ (x:Int)>=256:=of_decide_eq_false hc
    exact z4w ⟨((x:Int),(s:Int),()),rfl,⟨x,s,rfl,⟨hx.h1,hx.h2,by omega,hx.h4⟩,by omega⟩,hs⟩
  clear hs hx hs1
  rintro _ w ⟨⟨x,s,rfl,hx,hs1⟩,hs⟩
  have hx3:=hx.h3
  have e:IntKind.wrap .u8 (x:Int)=x:=by rw [z072];omega
  have e':IntKind.wrap .u8 ((x:Int),(s:Int),()).1=x:=e
  obtain ⟨k,hk1,hk2,hk3⟩:=zsa ⟨x,by omega⟩
  refine wp_must (by rw [e'];omega) ?_
  refine z7r (y:=((s+k:Nat):Int)) ?_ ?_
  ·show IntKind.wrap .i64 ((s:Int)+IntKind.wrap .i64 (bt z9o (IntKind.wrap .u8 (x:Int))))=_
   rw [e,hk1,w64 (x:=(k:Int)) (by omega) (by omega),w64 (by omega) (by omega)];omega
  ·refine ⟨rfl,⟨s+k,rfl,by omega,?_⟩,hs⟩
   have h5:=hk3 hx.h2
   have h6:=hx.h1
   rw [Nat.pow_add]
   calc 2 ^ s*2 ^ k<=2 ^ s*(2*x):=Nat.mul_le_mul_left _ h5
    _=2*(x*2 ^ s):=by rw [Nat.mul_comm (2 ^ s),Nat.mul_assoc]
    _<=2*n:=by omega
theorem z095 (n:Nat) (h0:1<=n) (h1:n<18446744073709551616) (hs:Sat w l):Ret P F.a73 #[.int .u64 n] w λvs w'=>(∃ k:Nat,vs=[.int .i64 k]/\k<=64/\2 ^ k<=2*n)/\Sat w' l :=
 zhf n <| by
  delta z008 Ab Ac Ah Ai
  refine z8 (z03x n h0 h1 hs) λvs w' ⟨⟨k,hv,h2,h3⟩,hs⟩=>?_
  subst hv
  exact ⟨((k:Int),()),rfl,trivial,rfl,⟨k,rfl,h2,h3⟩,hs⟩
theorem z05z (hs:Sat w l):Ret P F.a73 #[.int .u64 0] w λvs w'=>vs=[.int .i64 0]/\Sat w' l :=
 zhf 0 <| by
  delta z008 Ab Ac Ah Ai
  refine wp_callS (0,()) (vs₀:=[.int .i64 0]) (R:=λw'=>Sat w' l) ?_ rfl λw' hs=>⟨trivial,rfl,rfl,hs⟩
  refine zhg 0 ?_
  delta z009 AF AT AU Aa Ab Ac Ah
  refine zk (λv w'=>v=(0,0,())/\Sat w' l) (z23 rfl (z4w ⟨(0,0,()),rfl,rfl,hs⟩)) ?_
  rintro _ w ⟨rfl,hs⟩
  refine zk (λv w'=>v=(0,0,())/\Sat w' l) (z23 rfl (z4w ⟨(0,0,()),rfl,rfl,hs⟩)) ?_
  clear hs
  rintro _ w ⟨rfl,hs⟩
  refine zk (λv w'=>v=(0,0,())/\Sat w' l) (z23 rfl (z4w ⟨(0,0,()),rfl,rfl,hs⟩)) ?_
  clear hs
  rintro _ w ⟨rfl,hs⟩
  refine wp_must (by decide) (z7r (y:=0) ?_ ⟨rfl,rfl,hs⟩)
  show IntKind.wrap .i64 (0+IntKind.wrap .i64 (bt z9o (IntKind.wrap .u8 0)))=0
  decide
end
def zks (x y:Int):Int:=if x<y then -1 else if x>y then 1 else 0
section
variable {w:World} {l:List HP} {Q:Post} {S:World->Prop}
theorem zq4 (x:Int) (hs:Sat w l):Ret P F.a3 #[.int .i64 x] w λvs w'=>vs=[.bool false]/\Sat w' l :=
 zxg x <| by
  delta zf3 Ab Ao
  refine wp_lt ?_
  exact ⟨rfl,by simp,hs⟩
theorem zij (x y:Int) (hs:Sat w l):Ret P F.a1 #[.int .i64 x,.int .i64 y] w λvs w'=>vs=[.int .i64 (zks x y)]/\Sat w' l :=
 zxf x y <| by
  delta zf1 AM Aa Ab Ac Ao
  refine z8 (zq4 x hs) λ_ _ hs=>?_
  obtain ⟨rfl,hs⟩:=hs
  refine zb ?_
  refine wp_lt ?_
  refine z8 (zq4 y hs) λ_ _ hs=>?_
  obtain ⟨rfl,hs⟩:=hs
  refine zb ?_
  refine wp_lt ?_
  refine zy ?_ (by simp)
  refine zy ?_ (by simp)
  unfold zks
  refine zg (λh=>?_) λh=>?_
  ·rw [if_pos h];exact ⟨rfl,rfl,hs⟩
  rw [if_neg h]
  refine zg (λh2=>?_) λh2=>?_
  ·rw [if_pos h2];exact ⟨rfl,rfl,hs⟩
  ·rw [if_neg h2];exact ⟨rfl,rfl,hs⟩
end
abbrev fnV (g:FuncId):Value:=.func (.func g) #[] #[]
structure TxnA where
 pid:Int
 epoch:Int
 first:Int
 last:Int
def z2k (t:TxnA):List Value:=[.int .i64 t.pid,.int .i64 t.epoch,.int .i64 t.first,.int .i64 t.last]
instance:EncA z2k [.int .i64,.int .i64,.int .i64,.int .i64] (λt=>(t.pid,t.epoch,t.first,t.last,())):=⟨λ_=>rfl⟩
instance:EncN z2k 4:=⟨λ_=>rfl,by decide,by simp [z2k,Value.oneCell']⟩
instance:EncF z2k 0 (.int .i64) (λt=>t.pid):=⟨λ_=>rfl⟩
instance:EncF z2k 1 (.int .i64) (λt=>t.epoch):=⟨λ_=>rfl⟩
instance:EncF z2k 2 (.int .i64) (λt=>t.first):=⟨λ_=>rfl⟩
instance:EncF z2k 3 (.int .i64) (λt=>t.last):=⟨λ_=>rfl⟩
section
variable {w:World} {l:List HP} {Q:Post} {S:World->Prop}
theorem zvg (a b:TxnA) (hs:Sat w l):Ret P F.a62 #[.agg (z2k a).toArray,.agg (z2k b).toArray] w λvs w'=>vs=[.int .i64 (zks a.first b.first)]/\Sat w' l :=
 zui a.pid a.epoch a.first a.last b.pid b.epoch b.first b.last <| by
  delta z089 AD Ab Ac Ae Ah Ai Be
  refine zp hs λa0 w' hs=>?_
  refine zp hs λa1 w' hs=>?_
  refine za hs ?_
  refine za hs ?_
  refine z8 (zij a.first b.first hs) λ_ _ hs=>?_
  obtain ⟨rfl,hs⟩:=hs
  refine zb ?_
  refine wp_lt ?_
  exact ⟨rfl,rfl,hs.tail.tail⟩
theorem zxq (a b:TxnA) (hs:Sat w l):Ret P F.a57 #[.agg (z2k a).toArray,.agg (z2k b).toArray] w λvs w'=>vs=[.int .i64 (zks a.last b.last)]/\Sat w' l :=
 zue a.pid a.epoch a.first a.last b.pid b.epoch b.first b.last <| by
  delta z086 AD Ab Ac Ae Ah Ai Be
  refine zp hs λa0 w' hs=>?_
  refine zp hs λa1 w' hs=>?_
  refine za hs ?_
  refine za hs ?_
  refine z8 (zij a.last b.last hs) λ_ _ hs=>?_
  obtain ⟨rfl,hs⟩:=hs
  refine zb ?_
  refine wp_lt ?_
  exact ⟨rfl,rfl,hs.tail.tail⟩
def z00b (f : TxnA → Int) (g : FuncId) : Prop := (P.funcs[g]?).any (fun fn => fn.body.isSome && fn.name != "runtime.NumGoroutine") = true ∧
 ∀ (w:World) (l:List HP) (a b:TxnA),Sat w l->Ret P g #[.agg (z2k a).toArray,.agg (z2k b).toArray] w λvs w'=>vs=[.int .i64 (zks (f a) (f b))]/\Sat w' l
theorem byFirst:z00b TxnA.first F.a62:=⟨by kernel_rfl,λw l a b hs=>zvg a b hs⟩
theorem byLast:z00b TxnA.last F.a57:=⟨by kernel_rfl,λw l a b hs=>zxq a b hs⟩
end
structure AtM where
 off:Int
 r:RecM
def z08 (a:AtM):List Value:=[.int .i64 a.off,.string a.r.key,.string a.r.value,.bool a.r.gone,.int .i64 a.r.time]
instance:EncA z08 [.int .i64,.str,.str,.bool,.int .i64] (λa=>(a.off,a.r.key,a.r.value,a.r.gone,a.r.time,())):=⟨λ_=>rfl⟩
instance:EncN z08 5:=⟨λ_=>rfl,by decide,by simp [z08,Value.oneCell']⟩
def atF (base:Int) (i:Nat) (r:RecM):AtM:=⟨IntKind.wrap .i64 (base+i),r⟩
def z2g (b:BatM):List AtM:=if z0h b then [] else b.rs.mapIdx λi r=>atF b.base i r
def z4x (bs:List BatM):List AtM:=bs.flatMap z2g
theorem ziu (b:BatM):(z2g b).length<=b.rs.length:=by unfold z2g;split <;> simp
theorem ziv {n:Nat}:∀ (bs:List BatM),(∀ b ∈ bs,b.rs.length<=n)->(z4x bs).length<=bs.length*n
 | [],_=>by simp [z4x]
 | b::r,h=>by
  have h1:=ziv r λc hc=>h c (List.mem_cons_of_mem _ hc)
  have h2:=ziu b
  have h3:=h b (List.mem_cons_self ..)
  unfold z4x at h1 ⊢
  rw [List.flatMap_cons,List.length_append,List.length_cons,Nat.succ_mul]
  omega
theorem zmy {α β:Type} (f:Nat->α->β) {xs:List α} {i:Nat} (hi:i<xs.length):(xs.take (i+1)).mapIdx f=(xs.take i).mapIdx f++[f i xs[i]]:=by
 rw [List.take_add_one,List.getElem?_eq_getElem hi,Option.toList_some,List.mapIdx_append]
 simp only [List.mapIdx_cons,List.mapIdx_nil,List.length_take]
 rw [Nat.min_eq_left (by omega),Nat.zero_add]
section
variable {w:World} {l r:List HP} {b:BatM}
theorem zq3 (b:BatM) (hs:Sat w l):Ret P F.a69 #[.agg (zr b).toArray] w λvs w'=>vs=[.bool (z0h b)]/\Sat w' l :=
 zun b.base b.pid b.epoch b.seq b.kind b.time b.x <| by
  delta z08d AD AW Ab Ae Ao Bz
  refine zp hs λa0 w' hs=>?_
  refine za hs ?_
  refine za hs ?_
  refine wp_lt ?_
  exact ⟨rfl,rfl,hs.tail⟩
theorem z05o (x:Sl) (bs:List BatM) [hx:FocR l x 7 (bs.flatMap zr)] (hbs:∀ b ∈ bs,FocR l b.x 4 (b.rs.flatMap z00)) (hn:bs.length<=1000) (hr:∀ b ∈ bs,b.rs.length<=1000) (hs:Sat w l) :
  Ret P F.a105 #[x.v] w λvs w'=>∃ z:Sl,vs=[z.v]/\Sat w' (slc T.a37 5 z ((z4x bs).flatMap z08)::l) :=
 znf x <| by
  delta z00w AD AF AM AP AS AV AW Aa Ab Ac Ag Ah Ar Au Ax Bl Bn Bo Bp Bq
  have hl:=hs.slen x (xs:=bs) (enc:=zr)
  refine zk (λv w'=>∃ z:Sl,v=(z,())/\Sat w' (slc T.a37 5 z ((z4x bs).flatMap z08)::l)) ?_ (by rintro _ w' ⟨z,rfl,hs⟩;refine zj ?_;exact ⟨rfl,z,rfl,hs⟩)
  refine z09 (λk v w=>∃ (i:Nat) (z:Sl),v=(z,(i:Int),())/\i<=bs.length/\bs.length-i=k/\Sat w (slc T.a37 5 z ((z4x (bs.take i)).flatMap z08)::l)) bs.length ⟨0,⟨none,0,0⟩,rfl,by omega,rfl,hs.slc_nil⟩ ?_
  clear hs
  rintro k _ w ⟨i,z,rfl,hi,hk,hs⟩
  refine zj ?_
  refine zg (λhc=>?_) λhc=>?_
  rotate_left
  ·refine zn (zf ⟨z,rfl,?_⟩)
   rw [List.take_of_length_le (by omega)] at hs
   exact hs
  have hil:i<bs.length:=by omega
  have hbx:=hbs _ (List.getElem_mem hil)
  have hbr:=hr _ (List.getElem_mem hil)
  have hto:z4x (bs.take (i+1))=z4x (bs.take i)++z2g bs[i]:=by
   unfold z4x
   rw [List.take_add_one,List.getElem?_eq_getElem hil,Option.toList_some,List.flatMap_append,List.flatMap_singleton]
  have hzl:(z4x (bs.take i)).length<=1000000:=by
   have h1:=ziv (n:=1000) (bs.take i) λb hb=>hr b (List.mem_of_mem_take hb)
   have h2:(bs.take i).length<=1000:=by rw [List.length_take];omega
   have:=Nat.mul_le_mul_right 1000 h2
   omega
  refine zk (λv w'=>∃ z:Sl,v=(z,())/\Sat w' (slc T.a37 5 z ((z4x (bs.take (i+1))).flatMap z08)::l)) ?_ ?_
  rotate_left
  ·rintro _ w' ⟨z,rfl,hs⟩
   refine zj ?_
   refine z27 (us':=[z.v,.int .i64 ((i+1:Nat):Int)]) (by (try simp (disch:=omega) only [w64]);first|rfl|(congr;omega)) ?_
   refine z0w (bs.length-(i+1)) ?_
   exact ⟨i+1,z,rfl,by omega,rfl,hs⟩
  refine z39 hs i hil ?_
  refine zm hs λc w' hs=>?_
  refine zl hs λw' hs=>?_
  refine ze hs ?_
  refine z8 (z6p bs[i] hs) λ_ _ hs=>?_
  obtain ⟨rfl,hs⟩:=hs
  refine zb ?_
  refine zg (λhm=>?_) λhm=>?_
  ·refine zf ⟨z,rfl,?_⟩
   rw [hto,z2g,if_pos hm,List.append_nil]
   exact hs.sub
  refine za hs ?_
  have hrl:=hs.slen bs[i].x (xs:=bs[i].rs) (enc:=z00)
  have hfl:z2g bs[i]=bs[i].rs.mapIdx λj r=>atF bs[i].base j r:=by rw [z2g,if_neg hm]
  refine zk (λv w'=>∃ z:Sl,v=(z,())/\Sat w' (slc T.a37 5 z ((z4x (bs.take i)++bs[i].rs.mapIdx λj r=>atF bs[i].base j r).flatMap z08)::l)) ?_ ?_
  rotate_left
  ·rintro _ w' ⟨z,rfl,hs⟩
   refine zj ?_
   refine zf ⟨z,rfl,?_⟩
   rw [hto,hfl]
   exact hs
  refine z09 (λk v w=>∃ (j:Nat) (z:Sl),v=(z,(j:Int),())/\j<=bs[i].rs.length/\bs[i].rs.length-j=k/\Sat w (slc T.a37 5 z ((z4x (bs.take i)++(bs[i].rs.take j).mapIdx λj r=>atF bs[i].base j r).flatMap z08)::pt c (.cells #[.int .i64 bs[i].base,.int .i64 bs[i].pid,.int .i64 bs[i].epoch,.int .i64 bs[i].seq,.int .i64 bs[i].kind,.int .i64 bs[i].time,.slice bs[i].x.a bs[i].x.len bs[i].x.cap] T.a0)::l)) bs[i].rs.length ⟨0,z,rfl,by omega,rfl,by rw [List.take_zero,List.mapIdx_nil,List.append_nil];exact hs.sub⟩ ?_
  clear hs
  rintro k _ w ⟨j,z,rfl,hj,hk,hs⟩
  refine zj ?_
  refine zg (λhc=>?_) λhc=>?_
  rotate_left
  ·refine zn (zf ⟨z,rfl,?_⟩)
   rw [show bs[i].rs.take j=bs[i].rs from List.take_of_length_le (by omega)] at hs
   exact hs.sub
  have hjl:j<bs[i].rs.length:=by omega
  refine z39 hs j hjl ?_
  refine zm hs λe w' hs=>?_
  refine wp_lt ?_
  refine zl hs λw' hs=>?_
  refine za hs ?_
  refine ze hs ?_
  refine z5m hs (xs:=z4x (bs.take i)++(bs[i].rs.take j).mapIdx λj r=>atF bs[i].base j r) (enc:=z08) (atF bs[i].base j bs[i].rs[j]) (λz w' hs=>?_) rfl (by rw [List.length_append,List.length_mapIdx,List.length_take];omega)
  refine z27 (us':=[z.v,.int .i64 ((j+1:Nat):Int)]) (by (try simp (disch:=omega) only [w64]);first|rfl|(congr;omega)) ?_
  refine z0w (bs[i].rs.length-(j+1)) ?_
  refine ⟨j+1,z,rfl,by omega,rfl,?_⟩
  rw [zmy _ hjl,<- List.append_assoc]
  exact hs.sub
end
structure ViewA where
 next:Int
 op:List TxnA
 fa:List TxnA
abbrev evX (t:TxnA):Value:=.agg #[.int .i64 t.pid,.int .i64 t.epoch,.int .i64 t.first,.int .i64 t.last]
def opF (A:ViewA) (pid:Int):Option TxnA:=A.op.find? λt=>decide (t.pid=pid)
def faF (A:ViewA) (pid epoch:Int):Option TxnA:=A.fa.find? λt=>decide (t.pid=pid/\t.epoch=epoch)
def z6q (A:ViewA):Int:=match A.op with
 | []=>A.next
 | t::_=>t.first
structure okT (t:TxnA) (next:Int):Prop where
 pid:1<=t.pid/\t.pid<=1048576
 epoch:0<=t.epoch/\t.epoch<=32767
 first:0<=t.first/\t.first<next
structure okV (A:ViewA):Prop where
 next:0<=A.next/\A.next<=1099511627777
 many:A.op.length<=1024/\A.fa.length<=4096
 op:∀ t ∈ A.op,okT t A.next/\t.last = -1
 fa:∀ t ∈ A.fa,okT t A.next/\t.first<t.last/\t.last<A.next
 byFirst:A.op.Pairwise λa b=>a.first<b.first
 byLast:A.fa.Pairwise λa b=>a.last<b.last
 pids:(A.op.map (·.pid)).Nodup
 keys:(A.fa.map λt=>(t.pid,t.epoch)).Nodup
 apart:∀ t ∈ A.op,∀ u ∈ A.fa,¬ (t.pid=u.pid/\t.epoch=u.epoch)
def opK (A:ViewA):List (Int × TxnA):=A.op.map λt=>(t.pid,t)
def faK (A:ViewA):List ((Int × Int) × TxnA):=A.fa.map λt=>((t.pid,t.epoch),t)
def vw (v:Nat) (A:ViewA):HP:=HP.ex λM:Nat × Nat=>HP.and (okV A) (HP.star (pt v (.cells #[.int .i64 A.next,.map (some M.1),.map (some M.2)] T.a16))
 (HP.star (z1b ekI evX M.1 (opK A)) (z1b ekK evX M.2 (faK A))))
section
variable {w:World} {l r r1 r2 r3 l':List HP} {v:Nat} {A:ViewA}
theorem z9i (hs:Sat w (vw v A::l)):∃ m1 m2:Nat,okV A/\Sat w (pt v (.cells #[.int .i64 A.next,.map (some m1),.map (some m2)] T.a16)::z1b ekI evX m1 (opK A)::z1b ekK evX m2 (faK A)::l):=by
 obtain ⟨⟨m1,m2⟩,hs⟩:=hs.ex
 obtain ⟨hok,hs⟩:=hs.and
 have hs:=hs.star
 have hs:=(hs.pick [1]).star
 exact ⟨m1,m2,hok,hs.pick [2,0,0]⟩
theorem z4v (m1 m2:Nat) (hok:okV A) (hs:Sat w l) {es1:List (Int × TxnA)} {es2:List ((Int × Int) × TxnA)} [h1:FocB l v (.cells [.int .i64 A.next,.map (some m1),.map (some m2)].toArray T.a16) r1] [h2:FoM r1 m1 ekI evX es1 r2] [h3:FoM r2 m2 ekK evX es2 r3] [h4:Sub r3 l']
  (hp1:es1.Perm (opK A):=by exact .refl _) (hp2:es2.Perm (faK A):=by exact .refl _):Sat w (vw v A::l'):=by
 have hs:=hs.perm (h1.perm.trans (.cons _ (h2.perm.trans (.cons _ h3.perm))))
 have hs:=((hs.pick [1]).mapPerm hp1)
 have hs:=((hs.pick [2]).mapPerm hp2)
 have hs:Sat w (vw v A::r3):=by
  refine .ex_mk (m1,m2) (.and_mk hok (.star_mk ?_))
  refine (Sat.star_mk (hs.pick [1,0])).pick [1]
 exact hs.sub
theorem zc4 {pid:Int} {t:TxnA} (h:opF A pid=some t):t ∈ A.op/\t.pid=pid:=⟨List.mem_of_find?_eq_some h,by simpa using List.find?_some h⟩
theorem zls {pid:Int} (h:opF A pid=none):∀ t ∈ A.op,t.pid≠pid:=λt ht=>by simpa using List.find?_eq_none.1 h t ht
theorem zfg {pid epoch:Int} {t:TxnA} (h:faF A pid epoch=some t):t ∈ A.fa/\t.pid=pid/\t.epoch=epoch:=⟨List.mem_of_find?_eq_some h,by simpa using List.find?_some h⟩
theorem zbo {pid epoch:Int} (h:faF A pid epoch=none):∀ t ∈ A.fa,¬ (t.pid=pid/\t.epoch=epoch):=λt ht=>by simpa using List.find?_eq_none.1 h t ht
theorem zlr (A:ViewA) (pid:Int):(∃ t,opF A pid=some t/\(pid,t) ∈ opK A)\/(opF A pid=none/\∀ t,(pid,t) ∉ opK A):=by
 cases h:opF A pid with
 | some t=>exact .inl ⟨t,rfl,List.mem_map.2 ⟨t,(zc4 h).1,by rw [(zc4 h).2]⟩⟩
 | none=>exact .inr ⟨rfl,λt ht=>by
   obtain ⟨u,hu,e⟩:=List.mem_map.1 ht
   simp only [Prod.mk.injEq] at e
   exact zls h u hu e.1⟩
theorem zl2 (A:ViewA) (pid epoch:Int):(∃ t,faF A pid epoch=some t/\((pid,epoch),t) ∈ faK A)\/(faF A pid epoch=none/\∀ t,((pid,epoch),t) ∉ faK A):=by
 cases h:faF A pid epoch with
 | some t=>exact .inl ⟨t,rfl,List.mem_map.2 ⟨t,(zfg h).1,by rw [(zfg h).2.1,(zfg h).2.2]⟩⟩
 | none=>exact .inr ⟨rfl,λt ht=>by
   obtain ⟨u,hu,e⟩:=List.mem_map.1 ht
   simp only [Prod.mk.injEq] at e
   exact zbo h u hu e.1⟩
theorem z06s (hs:Sat w l):Ret P F.a56 #[] w λvs w'=>∃ v,vs=[.pointer (some ⟨v,0,none⟩)]/\Sat w' (vw v ⟨0,[],[]⟩::l) :=
 zjy <| by
  unfold zq6
  refine zch ekI evX hs λm1 w' hs=>?_
  refine zch ekK evX hs λm2 w' hs=>?_
  refine zp hs λv w' hs=>?_
  refine ⟨rfl,v,rfl,?_⟩
  exact z4v m1 m2 (A:=⟨0,[],[]⟩) ⟨by show (0:Int)<=0/\(0:Int)<=_;omega,by simp,by simp,by simp,by simp,by simp,by simp,by simp,by simp⟩ hs
end
theorem zx1 {A:ViewA} (hok:okV A) {n:Int} (h1:n<=A.next) (h2:∀ t ∈ A.op,n<=t.first) (h3:n=A.next\/∃ t ∈ A.op,n=t.first):n=z6q A:=by
 unfold z6q
 cases hop:A.op with
 | nil =>
  rcases h3 with h|⟨t,ht,-⟩
  ·exact h
  ·rw [hop] at ht;cases ht
 | cons u us =>
  dsimp only
  have hu:u ∈ A.op:=by rw [hop];exact List.mem_cons_self ..
  have h4:=h2 u hu
  have h5:=(hok.op u hu).1.first
  rcases h3 with h|⟨t,ht,rfl⟩
  ·omega
  ·have hb:=hok.byFirst
   rw [hop] at hb ht
   rcases List.mem_cons.1 ht with rfl|ht
   ·rfl
   ·have:=(List.pairwise_cons.1 hb).1 t ht;omega
def zab (o:Option TxnA):Int × Int × Int × Int × Bool × Unit:=((o.getD ⟨0,0,0,0⟩).pid,(o.getD ⟨0,0,0,0⟩).epoch,(o.getD ⟨0,0,0,0⟩).first,(o.getD ⟨0,0,0,0⟩).last,o.isSome,())
section
variable {w:World} {l r r1 r2 r3 l':List HP} {v:Nat} {A:ViewA}
theorem zj0 [hf:Fo l vw v A r] (hs:Sat w l):Ret P F.a63 #[.pointer (some ⟨v,0,none⟩)] w λvs w'=>vs=[.int .i64 (z6q A)]/\Sat w' (vw v A::r) :=
 zuj _ <| by
  delta z006 AD AI AO Aa Ab Ac Af Ah Aj Ak Ar Au Be
  obtain ⟨m1,m2,hok,hs⟩:=z9i (hs.perm hf.perm)
  refine zy ?_ (by simp)
  refine zi ?_
  refine za hs ?_
  refine wp_lt ?_
  refine zi ?_
  refine za hs ?_
  refine zjw hs λit w' hs=>?_
  refine zk (λx w'=>x=(z6q A,())/\Sat w' (vw v A::r)) ?_ (by rintro _ w' ⟨rfl,hs⟩;refine zj ?_;refine wp_lt ?_;exact ⟨rfl,rfl,hs⟩)
  refine z09 (λk x w=>∃ (n:Int) (todo:List (Int × TxnA)) (last:Option (Int × TxnA)),x=(n,())/\todo.length=k/\(∀ y ∈ todo,y ∈ opK A)/\n<=A.next/\(∀ t ∈ A.op,(t.pid,t) ∈ todo\/n<=t.first)/\(n=A.next\/∃ t ∈ A.op,n=t.first) /\
   Sat w (itP ekI evX it m1 (opK A) todo last::pt v (.cells #[.int .i64 A.next,.map (some m1),.map (some m2)] T.a16)::z1b ekK evX m2 (faK A)::r)) (opK A).length
   ⟨A.next,opK A,none,rfl,rfl,λy hy=>hy,Int.le_refl _,λt ht=>.inl (List.mem_map.2 ⟨t,ht,rfl⟩),.inl rfl,hs⟩ ?_
  clear hs
  rintro k _ w ⟨n,todo,last,rfl,hk,hsub,h1,h2,h3,hs⟩
  refine zj ?_
  refine zmq hs (λk t=>(k,t.pid,t.epoch,t.first,t.last,())) (λkk t todo' w' hp hs=>?_) λh0=>?_
  ·refine z2t kk t.pid t.epoch t.first t.last ?_
   refine zrf hs (kk,t.pid,t.epoch,t.first,t.last,()) ?_
   refine z2t kk t.pid t.epoch t.first t.last ?_
   refine zm hs λc w' hs=>?_
   refine zl hs λw' hs=>?_
   refine za hs ?_
   refine wp_lt ?_
   have hmem:(kk,t) ∈ opK A:=hsub _ (hp.mem_iff.2 (List.mem_cons_self ..))
   obtain ⟨u,hu,e⟩:=List.mem_map.1 hmem
   simp only [Prod.mk.injEq] at e
   obtain ⟨rfl,rfl⟩:=e
   refine z0w todo'.length ?_ (by rw [<- hk,hp.length_eq,List.length_cons];omega)
   refine ⟨_,todo',some (u.pid,u),rfl,rfl,λy hy=>hsub y (hp.mem_iff.2 (List.mem_cons_of_mem _ hy)),by split <;> omega,λt ht=>?_,?_,hs.sub⟩
   ·rcases h2 t ht with h|h
    ·rcases List.mem_cons.1 (hp.mem_iff.1 h) with e|h
     ·simp only [Prod.mk.injEq] at e
      right
      rw [e.2];split <;> omega
     ·exact .inl h
    ·right;split <;> omega
   ·split
    ·exact .inr ⟨u,hu,rfl⟩
    ·exact h3
  ·refine zn (zf ?_)
   subst h0
   have e:=zx1 hok h1 (λt ht=>(h2 t ht).resolve_left (by simp)) h3
   rw [e]
   exact ⟨rfl,z4v m1 m2 hok hs.itDone⟩
theorem z04v (t:TxnA) (hs:Sat w l):Ret P F.a68 #[.agg (z2k t).toArray] w λvs w'=>vs=[.agg (z2k t).toArray]/\Sat w' l :=
 zum t.pid t.epoch t.first t.last <| by
  delta z08c AD Ab Ae Ar Au BG Be
  refine zp hs λa0 w' hs=>?_
  refine zm hs λa1 w' hs=>?_
  refine za hs ?_
  refine za hs ?_
  refine za hs ?_
  refine za hs ?_
  refine zl hs λw' hs=>?_
  refine ze hs ?_
  exact ⟨rfl,rfl,hs.tail.tail⟩
instance {t:TxnA}:IsR (sG [.int .i64,.int .i64,.int .i64,.int .i64]) [.agg (z2k t).toArray] (t.pid,t.epoch,t.first,t.last,()):=⟨rfl⟩
end
abbrev lkS:List Sh1:=[.agg [.int .i64,.int .i64,.int .i64,.int .i64],.one .bool]
def z6w (A:ViewA) (b:BatM):Int:=if z0h b then 3 else if b.base>=z6q A then 0 else if b.kind=1/\(faF A b.pid b.epoch).isSome=true/\b.base>=((faF A b.pid b.epoch).getD ⟨0,0,0,0⟩).first then 2 else 1
def zht (A:ViewA) (b:BatM):Int:=if (faF A b.pid b.epoch).isSome=true then 20 else if (opF A b.pid).isSome=true/\¬ (((opF A b.pid).getD ⟨0,0,0,0⟩).pid=b.pid/\((opF A b.pid).getD ⟨0,0,0,0⟩).epoch=b.epoch) then 22 else
 if b.kind=1/\(opF A b.pid).isSome=false/\A.op.length>=1024 then 5 else if b.kind=3/\(opF A b.pid).isSome=true/\A.fa.length>=4096 then 5 else 0
def z8b (A:ViewA) (b:BatM):Int:=if z04 b≠0 then z04 b else if b.base<A.next then 8 else if b.kind≠0 then zht A b else 0
section
variable {w:World} {l r r1 r2 r3 l':List HP} {v:Nat} {A:ViewA} {b:BatM}
theorem z03p (b:BatM) [hf:Fo l vw v A r] (hs:Sat w l):Ret P F.a58 #[.pointer (some ⟨v,0,none⟩),.agg (zr b).toArray] w λvs w'=>vs=[.int .i64 (z6w A b)]/\Sat w' (vw v A::r) :=
 zuf _ b.base b.pid b.epoch b.seq b.kind b.time b.x <| by
  delta z087 AC AD AG AM AW Aa Ab Ac Ad Ae Af Ai Aj Ao Ar Au Az BL BU BV Be Bn Br By Bz
  refine zp (hs.perm hf.perm) λa0 w' hs=>?_
  refine zy ?_ (by simp)
  have ho:=zl2 A b.pid b.epoch
  refine zk (λx w'=>∃ c:Nat,x=(⟨c,0,none⟩,(faF A b.pid b.epoch).isSome,())/\Sat w' (pt c (.cells #[.int .i64 ((faF A b.pid b.epoch).getD ⟨0,0,0,0⟩).pid,.int .i64 ((faF A b.pid b.epoch).getD ⟨0,0,0,0⟩).epoch,.int .i64 ((faF A b.pid b.epoch).getD ⟨0,0,0,0⟩).first,.int .i64 ((faF A b.pid b.epoch).getD ⟨0,0,0,0⟩).last] T.a18) ::
   pt a0 (.cells #[.int .i64 b.base,.int .i64 b.pid,.int .i64 b.epoch,.int .i64 b.seq,.int .i64 b.kind,.int .i64 b.time,.slice b.x.a b.x.len b.x.cap] T.a0)::vw v A::r)) ?_ ?_
  ·obtain ⟨m1,m2,hok,hs⟩:=z9i (hs.pick [1])
   refine zw hs λw' hs=>?_
   refine zi ?_
   refine z0z hs ?_
   refine z0z hs ?_
   refine z0z hs ?_
   refine zcg hs (faF A b.pid b.epoch) ho zab ?_
   refine z2t _ _ _ _ _ ?_
   refine zm hs (λc w' hs=>?_) (λc w' hs=>⟨⟨⟨⟨trivial,λ_=>z05 hs⟩,λ_=>z05 hs⟩,λ_=>z05 hs⟩,λ_=>z8m (ss:=lkS) hs ho zab⟩)
   refine zd ?_
   refine zl hs λw' hs=>?_
   refine wp_lt ?_
   refine zd ?_
   refine zf ⟨c,rfl,?_⟩
   have hs:Sat w' (vw v A::pt c (.cells #[.int .i64 ((faF A b.pid b.epoch).getD ⟨0,0,0,0⟩).pid,.int .i64 ((faF A b.pid b.epoch).getD ⟨0,0,0,0⟩).epoch,.int .i64 ((faF A b.pid b.epoch).getD ⟨0,0,0,0⟩).first,.int .i64 ((faF A b.pid b.epoch).getD ⟨0,0,0,0⟩).last] T.a18) ::
    pt a0 (.cells #[.int .i64 b.base,.int .i64 b.pid,.int .i64 b.epoch,.int .i64 b.seq,.int .i64 b.kind,.int .i64 b.time,.slice b.x.a b.x.len b.x.cap] T.a0)::r):=z4v m1 m2 hok hs
   exact hs.pick [1,1]
  clear hs
  rintro _ w ⟨c,rfl,hs⟩
  refine zj ?_
  refine ze hs ?_
  refine z8 (zq3 b hs) λ_ _ hs=>?_
  obtain ⟨rfl,hs⟩:=hs
  refine zb ?_
  refine wp_lt ?_
  unfold z6w
  refine zg (λh=>?_) λh=>?_
  ·rw [if_pos h];exact ⟨rfl,rfl,hs.tail.tail⟩
  rw [if_neg h]
  refine zw hs λw' hs=>?_
  refine z0z hs ?_
  refine z8 (zj0 (v:=v) hs) λ_ w' hs=>?_
  obtain ⟨rfl,hs⟩:=hs
  refine zb ?_ ⟨trivial,λ_=>z05 hs⟩
  refine wp_lt ?_
  refine zd ?_
  refine zg (λh2=>?_) λh2=>?_
  ·rw [if_pos h2];exact ⟨rfl,rfl,hs.sub⟩
  rw [if_neg h2]
  refine za hs ?_
  refine za hs ?_
  refine za hs ?_
  refine wp_lt ?_
  refine zg (λh3=>?_) λh3=>?_
  ·rw [if_pos ⟨h3.1.1,h3.1.2,h3.2⟩];exact ⟨rfl,rfl,hs.sub⟩
  ·rw [if_neg (λh4=>h3 ⟨⟨h4.1,h4.2.1⟩,h4.2.2⟩)];exact ⟨rfl,rfl,hs.sub⟩
theorem z06r (b:BatM) [hf:Fo l vw v A r] (hs:Sat w l):Ret P F.a66 #[.pointer (some ⟨v,0,none⟩),.agg (zr b).toArray] w λvs w'=>vs=[.int .i64 (zht A b)]/\Sat w' (vw v A::r) :=
 zul _ b.base b.pid b.epoch b.seq b.kind b.time b.x <| by
  delta z08b AC AD AG AW Ab Ac Ae Af Aj Ao Ap Ar As Au Az BL BU BV Bc Be Br Bs By Cc;unfold zht
  have ho:=zl2 A b.pid b.epoch
  have ho2:=zlr A b.pid
  obtain ⟨m1,m2,hok,hs⟩:=z9i (hs.perm hf.perm)
  refine zp hs λa0 w' hs=>?_
  refine za hs ?_
  refine za hs ?_
  refine zm hs λa3 w' hs=>?_
  refine zl hs λw' hs=>?_
  refine zk (λx w'=>x=((faF A b.pid b.epoch).isSome,())/\Sat w' (pt a3 (.cells #[.int .i64 b.pid,.int .i64 b.epoch] T.a17)::pt a0 (.cells #[.int .i64 b.base,.int .i64 b.pid,.int .i64 b.epoch,.int .i64 b.seq,.int .i64 b.kind,.int .i64 b.time,.slice b.x.a b.x.len b.x.cap] T.a0) ::
   pt v (.cells #[.int .i64 A.next,.map (some m1),.map (some m2)] T.a16)::z1b ekI evX m1 (opK A)::z1b ekK evX m2 (faK A)::r)) ?_ ?_
  ·refine zw hs λw' hs=>?_
   refine zi ?_
   refine z0z hs ?_
   refine zbg hs ?_
   refine zcg hs (faF A b.pid b.epoch) ho zab ?_
   refine z2t _ _ _ _ _ ?_
   refine zm hs (λc w' hs=>?_) (λc w' hs=>⟨⟨⟨trivial,λ_=>z05 hs⟩,λ_=>z0b hs⟩,λ_=>z8m (ss:=lkS) hs ho zab⟩)
   refine zd ?_
   refine zl hs λw' hs=>?_
   refine wp_lt ?_
   refine zd ?_
   exact zf ⟨rfl,hs.sub⟩
  clear hs
  rintro _ w ⟨rfl,hs⟩
  refine zj ?_
  refine zk (λx w'=>∃ c:Nat,x=(⟨c,0,none⟩,(opF A b.pid).isSome,())/\Sat w' (pt c (.cells #[.int .i64 ((opF A b.pid).getD ⟨0,0,0,0⟩).pid,.int .i64 ((opF A b.pid).getD ⟨0,0,0,0⟩).epoch,.int .i64 ((opF A b.pid).getD ⟨0,0,0,0⟩).first,.int .i64 ((opF A b.pid).getD ⟨0,0,0,0⟩).last] T.a18) ::
   pt a3 (.cells #[.int .i64 b.pid,.int .i64 b.epoch] T.a17)::pt a0 (.cells #[.int .i64 b.base,.int .i64 b.pid,.int .i64 b.epoch,.int .i64 b.seq,.int .i64 b.kind,.int .i64 b.time,.slice b.x.a b.x.len b.x.cap] T.a0) ::
   pt v (.cells #[.int .i64 A.next,.map (some m1),.map (some m2)] T.a16)::z1b ekI evX m1 (opK A)::z1b ekK evX m2 (faK A)::r)) ?_ ?_
  ·refine zw hs λw' hs=>?_
   refine zi ?_
   refine z0z hs ?_
   refine z0z hs ?_
   refine zcg hs (opF A b.pid) ho2 zab ?_
   refine z2t _ _ _ _ _ ?_
   refine zm hs (λc w' hs=>?_) (λc w' hs=>⟨⟨⟨trivial,λ_=>z05 hs⟩,λ_=>z05 hs⟩,λ_=>z8m (ss:=lkS) hs ho2 zab⟩)
   refine zd ?_
   refine zl hs λw' hs=>?_
   refine wp_lt ?_
   refine zd ?_
   exact zf ⟨c,rfl,hs.sub⟩
  clear hs
  rintro _ w ⟨c,rfl,hs⟩
  refine zj ?_
  have hfin:∀ {w'},Sat w' (pt c (.cells #[.int .i64 ((opF A b.pid).getD ⟨0,0,0,0⟩).pid,.int .i64 ((opF A b.pid).getD ⟨0,0,0,0⟩).epoch,.int .i64 ((opF A b.pid).getD ⟨0,0,0,0⟩).first,.int .i64 ((opF A b.pid).getD ⟨0,0,0,0⟩).last] T.a18) ::
   pt a3 (.cells #[.int .i64 b.pid,.int .i64 b.epoch] T.a17)::pt a0 (.cells #[.int .i64 b.base,.int .i64 b.pid,.int .i64 b.epoch,.int .i64 b.seq,.int .i64 b.kind,.int .i64 b.time,.slice b.x.a b.x.len b.x.cap] T.a0) ::
   pt v (.cells #[.int .i64 A.next,.map (some m1),.map (some m2)] T.a16)::z1b ekI evX m1 (opK A)::z1b ekK evX m2 (faK A)::r)->Sat w' (vw v A::r):=λhs=>z4v m1 m2 hok hs
  refine wp_lt ?_
  refine zg (λh1=>?_) λh1=>?_
  ·rw [if_pos h1];exact ⟨rfl,rfl,hfin hs⟩
  rw [if_neg h1]
  refine zds hs (((opF A b.pid).getD ⟨0,0,0,0⟩).pid,((opF A b.pid).getD ⟨0,0,0,0⟩).epoch,()) ?_
  refine ze hs ?_
  refine wp_lt ?_
  refine zg (λh2=>?_) λh2=>?_
  ·rw [if_pos]
   ·exact ⟨rfl,rfl,hfin hs⟩
   ·exact ⟨h2.1,λh=>h2.2 h⟩
  rw [if_neg (λh=>h2 ⟨h.1,λh'=>h.2 h'⟩)]
  refine za hs ?_
  refine z0j ?_
  refine za hs ?_
  refine ze6 hs ?_
  refine wp_lt ?_
  have e1:(opK A).length=A.op.length:=by simp [opK]
  have e2:(faK A).length=A.fa.length:=by simp [faK]
  rw [e1]
  refine zg (λh3=>?_) λh3=>?_
  ·rw [if_pos]
   ·exact ⟨rfl,rfl,hfin hs⟩
   ·exact ⟨h3.1.1,by simpa using h3.1.2,by omega⟩
  rw [if_neg (λh=>h3 ⟨⟨h.1,by simp [h.2.1]⟩,by omega⟩)]
  refine za hs ?_
  refine z0j ?_
  refine za hs ?_
  refine ze6 hs ?_
  refine wp_lt ?_
  rw [e2]
  refine zg (λh4=>?_) λh4=>?_
  ·rw [if_pos]
   ·exact ⟨rfl,rfl,hfin hs⟩
   ·exact ⟨h4.1.1,h4.1.2,by omega⟩
  ·rw [if_neg (λh=>h4 ⟨⟨h.1,h.2.1⟩,by omega⟩)]
   exact ⟨rfl,rfl,hfin hs⟩
theorem zw3 (b:BatM) [hf:Fo l vw v A r] [hb:FocR r b.x 4 (b.rs.flatMap z00)] (hs:Sat w l):Ret P F.a59 #[.pointer (some ⟨v,0,none⟩),.agg (zr b).toArray] w λvs w'=>vs=[.int .i64 (z8b A b)]/\Sat w' (vw v A::r) :=
 zug _ b.base b.pid b.epoch b.seq b.kind b.time b.x <| by
  delta z088 AC AD AG AW Aa Ab Ac Ad Ae Ah Ai Aj Ao Az Bn;unfold z8b
  refine zp (hs.perm hf.perm) λa0 w' hs=>?_
  refine zy ?_ (by simp)
  refine ze hs ?_
  refine z8 (z9h b hs) λ_ _ hs=>?_
  obtain ⟨rfl,hs⟩:=hs
  refine zb ?_
  refine wp_lt ?_
  refine zg (λh=>?_) λh=>?_
  ·rw [if_pos h]
   refine wp_lt ?_
   exact ⟨rfl,rfl,hs.tail⟩
  rw [if_neg h]
  refine zw hs λw' hs=>?_
  refine za hs ?_
  obtain ⟨m1,m2,hok,hs⟩:=z9i (hs.pick [1])
  refine zi ?_
  refine za hs ?_
  refine wp_lt ?_
  refine zd ?_
  have hs:Sat w' (vw v A::pt a0 (.cells #[.int .i64 b.base,.int .i64 b.pid,.int .i64 b.epoch,.int .i64 b.seq,.int .i64 b.kind,.int .i64 b.time,.slice b.x.a b.x.len b.x.cap] T.a0)::r):=z4v m1 m2 hok hs
  refine zg (λh2=>?_) λh2=>?_
  ·rw [if_pos h2];exact ⟨rfl,rfl,hs.sub⟩
  rw [if_neg h2]
  refine za hs ?_
  refine wp_lt ?_
  refine zg (λh3=>?_) λh3=>?_
  ·rw [if_pos h3]
   refine ze hs ?_
   refine z8 (z06r (v:=v) b hs) λ_ _ hs=>?_
   obtain ⟨rfl,hs⟩:=hs
   refine zb ?_
   refine wp_lt ?_
   exact ⟨rfl,rfl,hs.sub⟩
  ·rw [if_neg h3];exact ⟨rfl,rfl,hs.sub⟩
end
def z3z (p:Int) (l:List TxnA):List TxnA:=l.filter λt=>!decide (t.pid=p)
def z5v (A:ViewA) (b:BatM):ViewA :=
 if b.kind=1/\(opF A b.pid).isSome=false then { A with next:=b.base+zq b,op:=A.op++[⟨b.pid,b.epoch,b.base,-1⟩] }
 else if z0h b=true/\(opF A b.pid).isSome=true then
  if b.kind=3 then ⟨b.base+zq b,z3z b.pid A.op,A.fa++[{ (opF A b.pid).getD ⟨0,0,0,0⟩ with last:=b.base }]⟩ else ⟨b.base+zq b,z3z b.pid A.op,A.fa⟩
 else { A with next:=b.base+zq b }
def zka (A:ViewA) (b:BatM):Int × ViewA:=if z8b A b≠0 then (z8b A b,A) else (0,z5v A b)
theorem zii {A:ViewA} {b:BatM} (h:z8b A b=0):z04 b=0/\A.next<=b.base/\(b.kind≠0->zht A b=0):=by
 unfold z8b at h
 by_cases h1:z04 b≠0
 ·rw [if_pos h1] at h;exact absurd h h1
 rw [if_neg h1] at h
 by_cases h2:b.base<A.next
 ·rw [if_pos h2] at h;cases h
 rw [if_neg h2] at h
 refine ⟨Decidable.not_not.1 h1,by omega,λh3=>?_⟩
 rwa [if_pos h3] at h
theorem zft {A:ViewA} {b:BatM} (h:zht A b=0):faF A b.pid b.epoch=none/\(∀ t,opF A b.pid=some t->t.epoch=b.epoch)/\(b.kind=1->opF A b.pid=none->A.op.length<1024)/\(b.kind=3->∀ t,opF A b.pid=some t->A.fa.length<4096):=by
 unfold zht at h
 by_cases h1:(faF A b.pid b.epoch).isSome=true
 ·rw [if_pos h1] at h;cases h
 rw [if_neg h1] at h
 have hn:faF A b.pid b.epoch=none:=by
  cases hc:faF A b.pid b.epoch with
  | none=>rfl
  | some t=>rw [hc] at h1;exact absurd rfl h1
 split at h
 ·cases h
 rename_i h2
 split at h
 ·cases h
 rename_i h3
 split at h
 ·cases h
 rename_i h4
 refine ⟨hn,λt ht=>?_,λhk ho=>?_,λhk t ht=>?_⟩
 ·have h5:((opF A b.pid).getD ⟨0,0,0,0⟩).pid=b.pid/\((opF A b.pid).getD ⟨0,0,0,0⟩).epoch=b.epoch:=Decidable.not_not.1 λh6=>h2 ⟨by rw [ht];rfl,h6⟩
  rw [ht] at h5
  exact h5.2
 ·apply Nat.lt_of_not_le
  intro h5
  exact h3 ⟨hk,by rw [ho];rfl,h5⟩
 ·apply Nat.lt_of_not_le
  intro h5
  exact h4 ⟨hk,by rw [ht];rfl,h5⟩
theorem z81 {t:TxnA} {n m:Int} (h:okT t n) (hnm:n<=m):okT t m:=⟨h.pid,h.epoch,h.first.1,Int.lt_of_lt_of_le h.first.2 hnm⟩
theorem zgg {t:TxnA}:∀ {l:List TxnA},(l.map (·.pid)).Nodup->t ∈ l->l.Perm (t::z3z t.pid l)
 | u::l,hnd,ht=>by
  rw [List.map_cons,List.nodup_cons] at hnd
  have hrest:∀ {p:Int},p ∉ l.map (·.pid)->z3z p l=l:=λ{p} hp=>List.filter_eq_self.2 λx hx=>by
   have:x.pid≠p:=λe=>hp (List.mem_map.2 ⟨x,hx,e⟩)
   simpa using this
  rcases List.mem_cons.1 ht with rfl|ht
  ·have:z3z t.pid (t::l)=l:=by
    show (t::l).filter _=l
    rw [List.filter_cons_of_neg (by simp)]
    exact hrest hnd.1
   rw [this]
  ·have hne:u.pid≠t.pid:=λe=>hnd.1 (List.mem_map.2 ⟨t,ht,e.symm⟩)
   have:z3z t.pid (u::l)=u::z3z t.pid l:=by
    show (u::l).filter _=_
    rw [List.filter_cons_of_pos (by simpa using hne)];rfl
   rw [this]
   exact ((zgg hnd.2 ht).cons u).trans (.swap _ _ _)
theorem zyw {A:ViewA} {b:BatM} (hok:okV A) (h:z8b A b=0):okV (z5v A b):=by
 obtain ⟨hv,hbase,hmay⟩:=zii h
 obtain ⟨s1,s2,hnum,hfit,s3⟩:=z17 b hv
 obtain ⟨hk,hb,hp,he,hse,ht⟩:=hnum
 have hnx:=hok.next
 unfold z5v
 split
 ·rename_i h1
  obtain ⟨hk1,ho⟩:=h1
  obtain ⟨m1,m2,m3,m4⟩:=zft (hmay (by omega))
  have ho:opF A b.pid=none:=by
   cases hc:opF A b.pid with
   | none=>rfl
   | some t=>rw [hc] at ho;cases ho
  have hpid:1<=b.pid:=by
   have:=hfit.1
   apply Decidable.byContradiction
   intro h5
   exact this ⟨by omega,.inl (by omega)⟩
  have hlt:=m3 hk1 ho
  refine ⟨by show 0<=b.base+zq b/\b.base+zq b<=_;omega,by show (A.op++[_]).length<=1024/\_;rw [List.length_append];exact ⟨by simp;omega,hok.many.2⟩,λt ht=>?_,λt ht=>?_,?_,hok.byLast,?_,hok.keys,λt ht u hu=>?_⟩
  ·rcases List.mem_append.1 ht with ht|ht
   ·exact ⟨z81 (hok.op t ht).1 (by show A.next<=b.base+zq b;omega),(hok.op t ht).2⟩
   ·rw [List.mem_singleton.1 ht]
    exact ⟨⟨⟨hpid,hp.2⟩,he,hb.1,by show b.base<b.base+zq b;omega⟩,rfl⟩
  ·obtain ⟨h1,h2,h3⟩:=hok.fa t ht
   exact ⟨z81 h1 (by show A.next<=b.base+zq b;omega),h2,by show t.last<b.base+zq b;omega⟩
  ·show (A.op++[_]).Pairwise _
   rw [List.pairwise_append]
   refine ⟨hok.byFirst,by simp,λt ht u hu=>?_⟩
   rw [List.mem_singleton.1 hu]
   have:=(hok.op t ht).1.first
   show t.first<b.base
   omega
  ·show ((A.op++[_]).map _).Nodup
   rw [List.map_append,List.nodup_append]
   refine ⟨hok.pids,by simp,λp hp q hq=>?_⟩
   obtain ⟨t,ht,rfl⟩:=List.mem_map.1 hp
   rw [List.map_singleton,List.mem_singleton] at hq
   rw [hq]
   exact zls ho t ht
  ·rcases List.mem_append.1 ht with ht|ht
   ·exact hok.apart t ht u hu
   ·rw [List.mem_singleton.1 ht]
    intro h5
    exact zbo m1 u hu ⟨h5.1.symm,h5.2.symm⟩
 ·split
  ·rename_i h1 h2
   obtain ⟨hm,ho⟩:=h2
   obtain ⟨t,ho⟩:∃ t,opF A b.pid=some t:=Option.isSome_iff_exists.1 ho
   have hk0:b.kind≠0:=by
    unfold z0h at hm
    simp only [Bool.or_eq_true,decide_eq_true_eq] at hm
    omega
   obtain ⟨m1,m2,m3,m4⟩:=zft (hmay hk0)
   obtain ⟨htm,htp⟩:=zc4 ho
   have hte:=m2 t ho
   have hdrop:∀ u ∈ z3z b.pid A.op,u ∈ A.op/\u.pid≠b.pid:=λu hu=>by
    obtain ⟨h5,h6⟩:=List.mem_filter.1 hu
    exact ⟨h5,by simpa using h6⟩
   have hsub:(z3z b.pid A.op).Sublist A.op:=List.filter_sublist
   have hop:∀ u ∈ z3z b.pid A.op,okT u (b.base+zq b)/\u.last = -1:=λu hu=>⟨z81 (hok.op u (hdrop u hu).1).1 (by omega),(hok.op u (hdrop u hu).1).2⟩
   have hfa:∀ u ∈ A.fa,okT u (b.base+zq b)/\u.first<u.last/\u.last<b.base+zq b:=λu hu=>by
    obtain ⟨h5,h6,h7⟩:=hok.fa u hu
    exact ⟨z81 h5 (by omega),h6,by omega⟩
   have hlen:(z3z b.pid A.op).length<=1024:=Nat.le_trans hsub.length_le hok.many.1
   split
   ·rename_i hk3
    rw [ho]
    have htf:=(hok.op t htm).1
    refine ⟨by show 0<=b.base+zq b/\b.base+zq b<=_;omega,⟨hlen,by show (A.fa++[_]).length<=_;rw [List.length_append];have:=m4 hk3 t ho;simp;omega⟩,hop,λu hu=>?_,hok.byFirst.sublist hsub,?_,hok.pids.sublist (hsub.map _),?_,λu hu x hx=>?_⟩
    ·rcases List.mem_append.1 hu with hu|hu
     ·exact hfa u hu
     ·rw [List.mem_singleton.1 hu]
      have:=htf.first
      exact ⟨⟨htf.pid,htf.epoch,this.1,by show t.first<b.base+zq b;omega⟩,by show t.first<b.base;omega,by show b.base<b.base+zq b;omega⟩
    ·show (A.fa++[_]).Pairwise _
     rw [List.pairwise_append]
     refine ⟨hok.byLast,by simp,λu hu x hx=>?_⟩
     rw [List.mem_singleton.1 hx]
     have:=(hok.fa u hu).2.2
     show u.last<b.base
     omega
    ·show ((A.fa++[_]).map _).Nodup
     rw [List.map_append,List.nodup_append]
     refine ⟨hok.keys,by simp,λp hp q hq=>?_⟩
     obtain ⟨u,hu,rfl⟩:=List.mem_map.1 hp
     rw [List.map_singleton,List.mem_singleton] at hq
     rw [hq]
     intro h5
     simp only [Prod.mk.injEq] at h5
     exact zbo m1 u hu ⟨h5.1.trans htp,h5.2.trans hte⟩
    ·rcases List.mem_append.1 hx with hx|hx
     ·exact hok.apart u (hdrop u hu).1 x hx
     ·rw [List.mem_singleton.1 hx]
      intro h5
      exact (hdrop u hu).2 (h5.1.trans htp)
   ·exact ⟨by show 0<=b.base+zq b/\b.base+zq b<=_;omega,⟨hlen,hok.many.2⟩,hop,hfa,hok.byFirst.sublist hsub,hok.byLast,hok.pids.sublist (hsub.map _),hok.keys,λu hu x hx=>hok.apart u (hdrop u hu).1 x hx⟩
  ·refine ⟨by show 0<=b.base+zq b/\b.base+zq b<=_;omega,hok.many,λt ht=>⟨z81 (hok.op t ht).1 (by show A.next<=b.base+zq b;omega),(hok.op t ht).2⟩,λt ht=>?_,hok.byFirst,hok.byLast,hok.pids,hok.keys,hok.apart⟩
   obtain ⟨h1,h2,h3⟩:=hok.fa t ht
   exact ⟨z81 h1 (by show A.next<=b.base+zq b;omega),h2,by show t.last<b.base+zq b;omega⟩
section
variable {w:World} {l r r1 r2 r3 l':List HP} {v:Nat} {A:ViewA} {b:BatM}
theorem z03r (b:BatM) [hf:Fo l vw v A r] [hb:FocR r b.x 4 (b.rs.flatMap z00)] (hs:Sat w l):Ret P F.a64 #[.pointer (some ⟨v,0,none⟩),.agg (zr b).toArray] w λvs w'=>vs=[.int .i64 (zka A b).1]/\Sat w' (vw v (zka A b).2::r) :=
 zuk _ b.base b.pid b.epoch b.seq b.kind b.time b.x <| by
  delta z08a AB AC AD AE AG AH AM AN AW Aa Ab Ac Ad Ae Af Ah Ai Aj Ak Ao Ar Au BG BL BO BU BV Be Bn Br By;unfold zka
  refine zp (hs.perm hf.perm) λa0 w' hs=>?_
  refine ze hs ?_
  refine z8 (zw3 (v:=v) b hs) λ_ _ hs=>?_
  obtain ⟨rfl,hs⟩:=hs
  refine zb ?_
  refine wp_lt ?_
  refine zg (λh=>?_) λh=>?_
  ·rw [if_pos h]
   refine wp_lt ?_
   exact ⟨rfl,rfl,hs.sub⟩
  rw [if_neg h]
  have hc:z8b A b=0:=Decidable.not_not.1 h
  obtain ⟨hv,hbase,hmay⟩:=zii hc
  refine ze hs ?_
  refine z8 (z9e b hs) λ_ _ hs=>?_
  obtain ⟨rfl,hs⟩:=hs
  refine zb ?_
  have hnx:z1p b=b.base+zq b:=by unfold z1p;rw [if_neg (by rw [hv];simp)]
  rw [hnx]
  obtain ⟨m1,m2,hok,hs⟩:=z9i hs
  have hok':=zyw hok hc
  have ho:=zlr A b.pid
  refine zi ?_
  refine z02 hs λw' hs=>?_
  refine zk (λx w'=>∃ c:Nat,x=(⟨c,0,none⟩,(opF A b.pid).isSome,())/\Sat w' (pt c (.cells #[.int .i64 ((opF A b.pid).getD ⟨0,0,0,0⟩).pid,.int .i64 ((opF A b.pid).getD ⟨0,0,0,0⟩).epoch,.int .i64 ((opF A b.pid).getD ⟨0,0,0,0⟩).first,.int .i64 ((opF A b.pid).getD ⟨0,0,0,0⟩).last] T.a18) ::
   pt a0 (.cells #[.int .i64 b.base,.int .i64 b.pid,.int .i64 b.epoch,.int .i64 b.seq,.int .i64 b.kind,.int .i64 b.time,.slice b.x.a b.x.len b.x.cap] T.a0) ::
   pt v (.cells #[.int .i64 (b.base+zq b),.map (some m1),.map (some m2)] T.a16)::z1b ekI evX m1 (opK A)::z1b ekK evX m2 (faK A)::r)) ?_ ?_
  ·refine zw hs λw' hs=>?_
   refine zi ?_
   refine z0z hs ?_
   refine z0z hs ?_
   refine zcg hs (opF A b.pid) ho zab ?_
   refine z2t _ _ _ _ _ ?_
   refine zm hs (λc w' hs=>?_) (λc w' hs=>⟨⟨⟨trivial,λ_=>z05 hs⟩,λ_=>z05 hs⟩,λ_=>z8m (ss:=lkS) hs ho zab⟩)
   refine zd ?_
   refine zl hs λw' hs=>?_
   refine wp_lt ?_
   refine zd ?_
   exact zf ⟨c,rfl,hs.sub⟩
  clear hs
  rintro _ w ⟨c,rfl,hs⟩
  refine zj ?_
  refine za hs ?_
  refine wp_lt ?_
  refine zk (λ_ w'=>Sat w' (vw v (z5v A b)::r)) ?_ (by rintro _ w' hs;refine zj ?_;exact ⟨rfl,rfl,hs⟩)
  refine zg (λh1=>?_) λh1=>?_
  ·have h1:b.kind=1/\(opF A b.pid).isSome=false:=⟨h1.1,by simpa using h1.2⟩
   have htk:z5v A b={ A with next:=b.base+zq b,op:=A.op++[⟨b.pid,b.epoch,b.base,-1⟩] }:=by unfold z5v;rw [if_pos h1]
   rw [htk] at hok' ⊢
   refine zw hs λw' hs=>?_
   refine zi ?_
   refine za hs ?_
   refine za hs ?_
   refine za hs ?_
   refine za hs ?_
   refine za hs ?_
   have hno:∀ u,(b.pid,u) ∉ opK A:=by
    rcases ho with ⟨t,ht,-⟩|⟨-,hno⟩
    ·rw [ht] at h1;cases h1.2
    ·exact hno
   refine zbi hs (opK A) (.inr ⟨hno,rfl⟩) (⟨b.pid,b.epoch,b.base,-1⟩:TxnA) λw' hs=>?_
   refine zd ?_
   refine zf ?_
   exact z4v m1 m2 (A:={ A with next:=b.base+zq b,op:=A.op++[⟨b.pid,b.epoch,b.base,-1⟩] }) hok' hs (by
    show List.Perm _ ((A.op++[_]).map _)
    rw [List.map_append]
    exact List.perm_append_comm (l₁:=[(b.pid,(⟨b.pid,b.epoch,b.base,-1⟩:TxnA))]))
  have h1:¬ (b.kind=1/\(opF A b.pid).isSome=false):=λh=>h1 ⟨h.1,by simpa using h.2⟩
  refine ze hs ?_
  refine z8 (zq3 b hs) λ_ _ hs=>?_
  obtain ⟨rfl,hs⟩:=hs
  refine zb ?_
  refine wp_lt ?_
  refine zk (λ_ w'=>Sat w' (vw v (z5v A b)::r)) ?_ (by rintro _ w' hs;refine zj ?_;exact zf hs)
  refine zg (λh2=>?_) λh2=>?_
  rotate_left
  ·have htk:z5v A b={ A with next:=b.base+zq b }:=by unfold z5v;rw [if_neg h1,if_neg (λh=>h2 h)]
   rw [htk] at hok' ⊢
   refine zf ?_
   exact z4v m1 m2 (A:={ A with next:=b.base+zq b }) hok' hs
  have h2:z0h b=true/\(opF A b.pid).isSome=true:=h2
  obtain ⟨t,hot⟩:∃ t,opF A b.pid=some t:=Option.isSome_iff_exists.1 h2.2
  obtain ⟨htm,htp⟩:=zc4 hot
  have hdel:(opK A).Perm ((b.pid,t)::(z3z b.pid A.op).map λt=>(t.pid,t)):=by
   have:=(zgg hok.pids htm).map λt:TxnA=>(t.pid,t)
   rw [List.map_cons,htp] at this
   exact this
  rw [hot] at hs
  have hs:Sat _ (pt c (.cells #[.int .i64 t.pid,.int .i64 t.epoch,.int .i64 t.first,.int .i64 t.last] T.a18)::_):=hs
  refine zw hs λw' hs=>?_
  refine zi ?_
  refine za hs ?_
  refine za hs ?_
  refine zre hs ((z3z b.pid A.op).map λt=>(t.pid,t)) (.inl ⟨t,hdel⟩) λw' hs=>?_
  refine zd ?_
  refine za hs ?_
  refine zk (λ_ w'=>Sat w' (vw v (z5v A b)::r)) ?_ (by rintro _ w' hs;refine zj ?_;exact zf hs)
  refine zg (λh3=>?_) λh3=>?_
  ·have htk:z5v A b=⟨b.base+zq b,z3z b.pid A.op,A.fa++[(⟨t.pid,t.epoch,t.first,b.base⟩:TxnA)]⟩:=by unfold z5v;rw [if_neg h1,if_pos h2,if_pos h3,hot];rfl
   rw [htk] at hok' ⊢
   obtain ⟨n1,n2,-,-⟩:=zft (hmay (by omega))
   have hte:=n2 t hot
   refine za hs ?_
   refine z02 hs λw' hs=>?_
   refine zw hs λw' hs=>?_
   refine zi ?_
   refine za hs ?_
   refine zds hs (t.pid,t.epoch,()) ?_
   refine ze hs ?_
   have hno:∀ u,((t.pid,t.epoch),u) ∉ faK A:=λu hu=>by
    obtain ⟨y,hy,e⟩:=List.mem_map.1 hu
    simp only [Prod.mk.injEq] at e
    exact zbo n1 y hy ⟨e.1.1.trans htp,e.1.2.trans hte⟩
   refine zbi hs (faK A) (.inr ⟨hno,rfl⟩) (⟨t.pid,t.epoch,t.first,b.base⟩:TxnA) λw' hs=>?_
   refine zd ?_
   refine zf ?_
   have hp2:(((t.pid,t.epoch),(⟨t.pid,t.epoch,t.first,b.base⟩:TxnA))::faK A).Perm (faK ⟨b.base+zq b,z3z b.pid A.op,A.fa++[(⟨t.pid,t.epoch,t.first,b.base⟩:TxnA)]⟩):=by
    show List.Perm _ ((A.fa++[_]).map _)
    rw [List.map_append]
    exact List.perm_append_comm (l₁:=[((t.pid,t.epoch),(⟨t.pid,t.epoch,t.first,b.base⟩:TxnA))])
   have hs:=hs.mapPerm hp2
   exact z4v m1 m2 (A:=⟨b.base+zq b,z3z b.pid A.op,A.fa++[(⟨t.pid,t.epoch,t.first,b.base⟩:TxnA)]⟩) hok' hs
  ·have htk:z5v A b=⟨b.base+zq b,z3z b.pid A.op,A.fa⟩:=by unfold z5v;rw [if_neg h1,if_pos h2,if_neg h3]
   rw [htk] at hok' ⊢
   refine zf ?_
   exact z4v m1 m2 (A:=⟨b.base+zq b,z3z b.pid A.op,A.fa⟩) hok' hs
end
structure EntA where
 offset:Int
 place:Int
 before:Int
structure IdxA where
 offset:Int
 place:Int
 late:Int
 gap:Int
 l:List EntA
def zd9 (gap:Int):IdxA:=⟨-1,-1,-1,gap,[]⟩
def zc1 (o p t:Int):Prop:=(0<=o/\o<=1099511627776)/\(0<=p/\p<=4194304)/\(0<=t/\t<=1099511627776)
instance (o p t:Int):Decidable (zc1 o p t):=by unfold zc1;infer_instance
def zyq (x:IdxA) (p:Int):Bool:=match x.l.getLast? with
 | none=>true
 | some e=>decide (p-e.place>=x.gap)
def z4j (x:IdxA) (o p:Int):List EntA:=if zyq x p then x.l++[⟨o,p,x.late⟩] else x.l
def zac (x:IdxA) (o p t:Int):Int × IdxA:=if ¬ zc1 o p t then (2,x) else if o<=x.offset\/p<=x.place then (21,x) else (0,⟨o,p,max x.late t,x.gap,z4j x o p⟩)
def zbv:IdxA->Int->List BatM->IdxA
 | x,_,[]=>x
 | x,q,b::bs=>zbv (zac x b.base q (z35 b)).2 (q+(frL b).length) bs
def SegA.idx (gap:Int) (s:SegA):IdxA:=zbv (zd9 gap) (shL s.base s.fin).length s.bs
def z33 (l:List EntA) (o:Int):Option EntA:=(l.filter λe=>decide (e.offset<=o)).getLast?
theorem zda:∀ (bs:List BatM) (x:IdxA) (q:Int) (b:BatM),zbv x q (bs++[b])=(zac (zbv x q bs) b.base (q+(bs.flatMap frL).length) (z35 b)).2
 | [],x,q,b=>by simp [zbv]
 | a::bs,x,q,b=>by
  show zbv (zac x a.base q (z35 a)).2 (q+(frL a).length) (bs++[b])=_
  rw [zda bs]
  rw [show q+((frL a).length:Int)+((bs.flatMap frL).length:Nat)=q+(((a::bs).flatMap frL).length:Nat) by rw [List.flatMap_cons,List.length_append];omega]
  rfl
theorem zmk:∀ {rs:List RecM} {x:Int},x<=z5w x rs/\∀ r ∈ rs,r.time<=z5w x rs
 | [],x=>⟨Int.le_refl _,λ_ h=>by cases h⟩
 | r::rs,x=>by
  have h:=zmk (rs:=rs) (x:=max x r.time)
  have e:z5w x (r::rs)=z5w (max x r.time) rs:=rfl
  rw [e]
  refine ⟨by omega,λy hy=>?_⟩
  rcases List.mem_cons.1 hy with rfl|hy
  ·omega
  ·exact h.2 y hy
theorem zjr:∀ {rs:List RecM} {x m:Int},x<=m->(∀ r ∈ rs,r.time<=m)->z5w x rs<=m
 | [],x,m,h,_=>h
 | r::rs,x,m,h,hr=>by
  have e:z5w x (r::rs)=z5w (max x r.time) rs:=rfl
  rw [e]
  have:=hr r (List.mem_cons_self ..)
  exact zjr (by omega) λy hy=>hr y (List.mem_cons_of_mem _ hy)
theorem zyi {b:BatM} (h:z04 b=0):0<=z35 b/\z35 b<=1099511627776:=by
 obtain ⟨-,-,⟨-,-,-,-,-,htm⟩,-,-⟩:=z17 b h
 obtain ⟨-,hrs⟩:=z26 h
 unfold z35
 split
 ·exact htm
 ·rename_i hne
  obtain ⟨r,hr⟩:=List.exists_mem_of_ne_nil _ hne
  have h1:=(zmk (rs:=b.rs) (x := -1)).2 r hr
  have h2:=(z3p (hrs r hr)).2.2.1
  refine ⟨by omega,zjr (by omega) λr hr=>(z3p (hrs r hr)).2.2.1.2⟩
theorem zfq:∀ {bs:List BatM} {x:Int},x<=z1d x bs/\∀ b ∈ bs,z35 b<=z1d x bs
 | [],x=>⟨Int.le_refl _,λ_ h=>by cases h⟩
 | r::rs,x=>by
  have h:=zfq (bs:=rs) (x:=max x (z35 r))
  have e:z1d x (r::rs)=z1d (max x (z35 r)) rs:=rfl
  rw [e]
  refine ⟨by omega,λy hy=>?_⟩
  rcases List.mem_cons.1 hy with rfl|hy
  ·omega
  ·exact h.2 y hy
theorem zj1:∀ {bs:List BatM} {x m:Int},x<=m->(∀ b ∈ bs,z35 b<=m)->z1d x bs<=m
 | [],x,m,h,_=>h
 | r::rs,x,m,h,hr=>by
  have e:z1d x (r::rs)=z1d (max x (z35 r)) rs:=rfl
  rw [e]
  have:=hr r (List.mem_cons_self ..)
  exact zj1 (by omega) λy hy=>hr y (List.mem_cons_of_mem _ hy)
theorem zs7 {x:Int} (bs:List BatM) (i:Nat):z1d x (bs.take i)<=z1d x bs :=
 zj1 zfq.1 λb hb=>zfq.2 b (List.mem_of_mem_take hb)
structure IdxOk (gap q:Int) (bs:List BatM) (x:IdxA):Prop where
 gap:x.gap=gap
 late:x.late=z1d (-1) bs
 offset:x.offset=match bs.getLast? with|none => -1|some b=>b.base
 place:x.place<q+(bs.flatMap frL).length
 lplace:∀ e ∈ x.l,e.place<=x.place
 ent:∀ e ∈ x.l,∃ i,∃ hi:i<bs.length,e=⟨bs[i].base,q+((bs.take i).flatMap frL).length,z1d (-1) (bs.take i)⟩
 first:∀ b,bs.head? = some b->x.l.head? = some ⟨b.base,q,-1⟩
 offs:x.l.Pairwise λa b=>a.offset<b.offset
 befs:x.l.Pairwise λa b=>a.before<=b.before
theorem zaa {n:Int} {bs:List BatM} {b:BatM} (h:z1j n (bs++[b])) (h0:0<=n):z04 b=0/\n<=b.base/\(∀ c,bs.getLast? = some c->c.base<b.base)/\z1j n bs/\z0d bs<=b.base:=by
 induction bs generalizing n with
 | nil=>exact ⟨h.1,h.2.2.1,by simp,trivial,by have:=h.2.2.1;show (0:Int)<=_;omega⟩
 | cons a bs ih =>
  obtain ⟨h1,h2,h3,h4⟩:=h
  obtain ⟨s1,-,⟨-,hba,-⟩,-,s2⟩:=z17 a h1
  obtain ⟨i1,i2,i3,i4,i5⟩:=ih h4 (by omega)
  refine ⟨i1,by omega,λc hc=>?_,⟨h1,h2,h3,i4⟩,?_⟩
  ·cases bs with
   | nil=>simp at hc;subst hc;omega
   | cons d ds=>exact i3 c (by simpa using hc)
  ·cases bs with
   | nil=>show a.base+zq a<=_;omega
   | cons d ds=>exact i5
theorem zlc (gap:Int):∀ (m:Nat) {n q:Int} {bs:List BatM},bs.length=m->0<=n->0<=q->z1j n bs->q+(bs.flatMap frL).length<=4194304->IdxOk gap q bs (zbv (zd9 gap) q bs)
 | 0,n,q,bs,hm,_,hq,_,_=>by
  have:bs=[]:=List.length_eq_zero_iff.1 hm
  subst this
  exact ⟨rfl,rfl,rfl,by show (-1:Int)<_;simp;omega,(λ_ h=>by cases h),(λ_ h=>by cases h),(λ_ h=>by cases h),.nil,.nil⟩
 | m+1,n,q,bs,hm,hn,hq,hb,hl=>by
  have hne:bs≠[]:=by rintro rfl;cases hm
  obtain ⟨bs,b,rfl⟩:∃ cs b,bs=cs++[b]:=⟨bs.dropLast,bs.getLast hne,(List.dropLast_concat_getLast hne).symm⟩
  rw [List.length_append] at hm
  obtain ⟨hv,hnb,hlb,hb',-⟩:=zaa hb hn
  have hfl:=z56 hv
  have hfl2:((bs++[b]).flatMap frL).length=(bs.flatMap frL).length+(frL b).length:=by simp
  have ih:=zlc gap m (by simpa using hm) hn hq hb' (by omega)
  have hlt:=zyi hv
  obtain ⟨-,-,⟨-,hba,-⟩,-,-⟩:=z17 b hv
  rw [zda]
  generalize hx:zbv (zd9 gap) q bs=x at ih
  have hoff:x.offset<b.base:=by
   rw [ih.offset]
   cases hc:bs.getLast? with
   | none=>show (-1:Int)<_;omega
   | some c=>exact hlb c hc
  unfold zac
  rw [if_neg (by intro h;apply h;exact ⟨by omega,by omega,by omega⟩),if_neg (by have:=ih.place;omega)]
  have hw:∀ (i:Nat) (hi:i<bs.length),(bs++[b])[i]'(by rw [List.length_append];omega)=bs[i]/\(bs++[b]).take i=bs.take i:=λi hi=>⟨List.getElem_append_left hi,by rw [List.take_append_of_le_length (by omega)]⟩
  have hmem:∀ e ∈ z4j x b.base (q+(bs.flatMap frL).length),e ∈ x.l\/e=⟨b.base,q+(bs.flatMap frL).length,x.late⟩:=λe he=>by
   unfold z4j at he
   split at he
   ·rcases List.mem_append.1 he with he|he
    ·exact .inl he
    ·exact .inr (by simpa using he)
   ·exact .inl he
  have hent:∀ e ∈ x.l,e.offset<b.base/\e.before<=x.late:=λe he=>by
   obtain ⟨i,hi,rfl⟩:=ih.ent e he
   refine ⟨?_,by rw [ih.late];exact zs7 bs i⟩
   have hlast:∀ {n:Int} {bs:List BatM},z1j n bs->0<=n->∀ (i:Nat) (hi:i<bs.length),bs[i].base<z0d bs:=by
    intro n bs hbs hn i hi
    have h1:z1j n (bs.take i++[bs[i]]):=by
     have:=hbs.take (i+1)
     rwa [List.take_succ_eq_append_getElem hi] at this
    have h2:=zaa h1 hn
    have h3:∀ {n:Int} {ds cs:List BatM},z1j n (ds++cs)->0<=n->z0d ds<=z0d (ds++cs):=by
     intro n ds cs h hn
     induction cs generalizing ds with
     | nil=>rw [List.append_nil];exact Int.le_refl _
     | cons c cs ih =>
      have h':z1j n ((ds++[c])++cs):=by rwa [List.append_assoc]
      have i1:=ih h'
      rw [List.append_assoc] at i1
      have h4:z1j n (ds++[c]):=by
       have:=h'.take (ds++[c]).length
       rwa [List.take_left] at this
      have h5:=zaa h4 hn
      obtain ⟨s1,-,-,-,-⟩:=z17 c h5.1
      have e:z0d (ds++[c])=c.base+zq c:=z3n ds c
      have i1:z0d (ds++[c])<=z0d (ds++(c::cs)):=i1
      have:=h5.2.2.2.2
      omega
    have h6:=h3 (ds:=bs.take i++[bs[i]]) (cs:=bs.drop (i+1)) (by rw [<- List.take_succ_eq_append_getElem hi,List.take_append_drop];exact hbs) hn
    rw [<- List.take_succ_eq_append_getElem hi,List.take_append_drop,List.take_succ_eq_append_getElem hi,z3n] at h6
    obtain ⟨s1,-,-,-,-⟩:=z17 _ h2.1
    omega
   have h7:=hlast hb' hn i hi
   have h8:=(zaa hb hn).2.2.2.2
   show bs[i].base<b.base
   omega
  refine ⟨ih.gap,?_,by rw [z1s],?_,?_,?_,?_,?_,?_⟩
  ·rw [zgt,<- ih.late]
  ·show q+((bs.flatMap frL).length:Int)<_
   omega
  ·intro e he
   show e.place<=q+((bs.flatMap frL).length:Int)
   rcases hmem e he with he|rfl
   ·have:=ih.lplace e he
    have:=ih.place
    omega
   ·exact Int.le_refl _
  ·intro e he
   rcases hmem e he with he|rfl
   ·obtain ⟨i,hi,rfl⟩:=ih.ent e he
    obtain ⟨h1,h2⟩:=hw i hi
    exact ⟨i,by rw [List.length_append];omega,by rw [h1,h2]⟩
   ·refine ⟨bs.length,by simp,?_⟩
    rw [List.getElem_append_right (Nat.le_refl _),List.take_left,ih.late]
    simp
  ·intro a ha
   show (z4j x b.base (q+(bs.flatMap frL).length)).head? = _
   cases bs with
   | nil =>
    simp at ha
    subst ha
    subst hx
    show some (⟨b.base,q+((([]:List BatM).flatMap frL).length:Int),-1⟩:EntA)=_
    congr 2
    simp
   | cons c cs =>
    have h1:=ih.first a (by simpa using ha)
    unfold z4j
    split
    ·rw [List.head?_append,h1];rfl
    ·exact h1
  ·show (z4j x b.base _).Pairwise _
   unfold z4j
   split
   ·refine List.pairwise_append.2 ⟨ih.offs,by simp,λa ha c hc=>?_⟩
    simp at hc
    subst hc
    exact (hent a ha).1
   ·exact ih.offs
  ·show (z4j x b.base _).Pairwise _
   unfold z4j
   split
   ·refine List.pairwise_append.2 ⟨ih.befs,by simp,λa ha c hc=>?_⟩
    simp at hc
    subst hc
    exact (hent a ha).2
   ·exact ih.befs
theorem zrz {α:Type} {p:α->Bool} {l:List α} {i:Nat} (hi:i<=l.length) (h1:∀ x ∈ l.take i,p x=true) (h2:∀ x ∈ l.drop i,p x=false):l.filter p=l.take i:=by
 rw [<- List.take_append_drop i l,List.filter_append,List.filter_eq_self.2 h1,List.filter_eq_nil_iff.2 λx hx=>by rw [h2 x hx];simp,List.append_nil]
 rw [List.take_append_drop]
theorem zh6 {α:Type} {p:α->Bool} {l:List α} {i:Nat} (hi:i<=l.length) (hm:l.Pairwise λa b=>p b=true->p a=true) (h1:∀ (h:i-1<l.length),0<i->p l[i-1]=true) (h2:∀ h:i<l.length,p l[i]=false):l.filter p=l.take i:=by
 have hm':∀ (a b:Nat) (hb:b<l.length) (h:a<b),p l[b]=true->p (l[a]'(by omega))=true:=λa b hb h=>List.pairwise_iff_getElem.1 hm a b (by omega) hb h
 refine zrz hi (λx hx=>?_) λx hx=>?_
 ·obtain ⟨j,hj,rfl⟩:=List.mem_iff_getElem.1 hx
  rw [List.length_take] at hj
  rw [List.getElem_take]
  by_cases hji:j=i-1
  ·subst hji;exact h1 (by omega) (by omega)
  ·exact hm' j (i-1) (by omega) (by omega) (h1 (by omega) (by omega))
 ·obtain ⟨j,hj,rfl⟩:=List.mem_iff_getElem.1 hx
  rw [List.length_drop] at hj
  rw [List.getElem_drop]
  cases hp:p (l[i+j]'(by omega)) with
  | false=>rfl
  | true =>
   have h3:=h2 (by omega)
   by_cases hj0:j=0
   ·subst hj0;simp only [Nat.add_zero] at hp;rw [hp] at h3;cases h3
   ·have:=hm' i (i+j) (by omega) (by omega) hp
    rw [this] at h3;cases h3
theorem zx5 {α:Type} {l:List α} {i:Nat} (hi:i<=l.length):(l.take i).getLast? = if i=0 then none else l[i-1]? := by
 cases i with
 | zero=>simp
 | succ i =>
  rw [if_neg (by omega),List.take_succ_eq_append_getElem (by omega),z1s]
  simp
theorem zmw {α:Type} {p:α->Bool} {l:List α} {e:α} (h:(l.filter p).getLast? = some e):∃ a c,l=a++e::c/\p e=true/\∀ x ∈ c,p x=false:=by
 induction l with
 | nil=>simp at h
 | cons y r ih =>
  rw [List.filter_cons] at h
  by_cases hr:(r.filter p)=[]
  ·split at h
   ·rw [hr] at h
    simp at h
    subst h
    exact ⟨[],r,rfl,by assumption,λx hx=>by simpa using List.filter_eq_nil_iff.1 hr x hx⟩
   ·rw [hr] at h;simp at h
  ·have h':(r.filter p).getLast? = some e:=by
    split at h
    ·cases hq:r.filter p with
     | nil=>exact absurd hq hr
     | cons z zs=>rw [hq] at h;simpa using h
    ·exact h
   obtain ⟨a,c,rfl,h1,h2⟩:=ih h'
   exact ⟨y::a,c,rfl,h1,h2⟩
theorem zvh {a b:ByteArray} (h:a.data.toList=b.data.toList):a=b:=by
 cases a;cases b;exact congrArg ByteArray.mk (Array.ext' h)
theorem zaq:∀ x:List UInt8,Op.bytesLess x x=false
 | []=>rfl
 | a::x=>by rw [Op.bytesLess,zaq x];simp
theorem zgv:∀ {x y z:List UInt8},Op.bytesLess x y=true->Op.bytesLess y z=true->Op.bytesLess x z=true
 | [],_,[],_,h=>by cases ‹List UInt8› <;> simp [Op.bytesLess] at h
 | [],_,_::_,_,_=>rfl
 | _::_,[],_,h,_=>by simp [Op.bytesLess] at h
 | _::_,_::_,[],_,h=>by simp [Op.bytesLess] at h
 | a::x,b::y,c::z,h1,h2=>by
  simp only [Op.bytesLess,Bool.or_eq_true,decide_eq_true_eq,Bool.and_eq_true,beq_iff_eq] at h1 h2 ⊢
  rcases h1 with h1|⟨rfl,h1⟩
  ·rcases h2 with h2|⟨rfl,h2⟩
   ·exact .inl (UInt8.lt_trans h1 h2)
   ·exact .inl h1
  ·rcases h2 with h2|⟨rfl,h2⟩
   ·exact .inl h2
   ·exact .inr ⟨rfl,zgv h1 h2⟩
theorem zgu:∀ (x y:List UInt8),Op.bytesLess x y=true\/x=y\/Op.bytesLess y x=true
 | [],[]=>.inr (.inl rfl)
 | [],_::_=>.inl rfl
 | _::_,[]=>.inr (.inr rfl)
 | a::x,b::y=>by
  simp only [Op.bytesLess,Bool.or_eq_true,decide_eq_true_eq,Bool.and_eq_true,beq_iff_eq,List.cons.injEq]
  rcases Nat.lt_trichotomy a.toNat b.toNat with h|h|h
  ·exact .inl (.inl (UInt8.lt_iff_toNat_lt.2 h))
  ·have:=UInt8.toNat_inj.1 h
   subst this
   rcases zgu x y with h|rfl|h
   ·exact .inl (.inr ⟨rfl,h⟩)
   ·exact .inr (.inl ⟨rfl,rfl⟩)
   ·exact .inr (.inr (.inr ⟨rfl,h⟩))
  ·exact .inr (.inr (.inl (UInt8.lt_iff_toNat_lt.2 h)))
def ltS (a b:ByteArray):Bool:=Op.bytesLess (ByteArray.toList a) (ByteArray.toList b)
theorem z95 (a:ByteArray):ltS a a=false:=zaq _
theorem z7a {a b c:ByteArray} (h1:ltS a b=true) (h2:ltS b c=true):ltS a c=true:=zgv h1 h2
theorem zj3 (a b:ByteArray):ltS a b=true\/a=b\/ltS b a=true:=by
 rcases zgu (ByteArray.toList a) (ByteArray.toList b) with h|h|h
 ·exact .inl h
 ·exact .inr (.inl (zcw.1 h))
 ·exact .inr (.inr h)
theorem zwa {a b:ByteArray} (h:ltS a b=true):ltS b a=false:=by
 cases hb:ltS b a with
 | false=>rfl
 | true=>have:=z7a h hb;rw [z95] at this;cases this
structure FileA where
 name:ByteArray
 b:List UInt8
 kept:Nat
structure DiskA where
 room:Nat
 left:Int
 gone:Bool
 fs:List FileA
def used (fs:List FileA):Nat:=(fs.map λf=>f.b.length).sum
def DiskA.free (A:DiskA):Nat:=A.room-used A.fs
def okC (c:UInt8):Bool:=(97<=c.toNat && c.toNat<=122) || (48<=c.toNat && c.toNat<=57) || c.toNat == 46 || c.toNat == 45
def z5f (s:ByteArray):Bool:=s.data.toList.all okC && (1<=s.size && s.size<=24)
def z1y (fs:List FileA) (n:ByteArray):Bool:=fs.any λf=>decide (f.name=n)
def z2e (A:DiskA):DiskA:=if A.left>0 then { A with left:=A.left-1,gone:=decide (A.left-1=0) } else A
def z1o (n:ByteArray) (g:FileA->FileA) (f:FileA):FileA:=if f.name=n then g f else f
def z44 (x:FileA):List FileA->List FileA
 | []=>[x]
 | f::r=>if ltS x.name f.name then x::f::r else f::z44 x r
def z3y (n:ByteArray) (fs:List FileA):List FileA:=fs.filter λf=>!decide (f.name=n)
def z07 (A:DiskA) (n:ByteArray) (bs:List UInt8):Int × DiskA :=
 if A.gone then (9,A) else if z5f n=false then (2,A) else if bs.length>A.free\/(z1y A.fs n=false/\A.fs.length>=128) then (5,A) else
  (0,z2e { A with fs:=if z1y A.fs n then A.fs.map (z1o n λf=>{ f with b:=f.b++bs }) else z44 ⟨n,bs,0⟩ A.fs })
def zbk (ns:List ByteArray) (n:ByteArray):Bool:=ns.isEmpty || ns.any λm=>decide (m=n)
def z40 (ns:List ByteArray) (f:FileA):FileA:=if zbk ns f.name then { f with kept:=f.b.length } else f
def z1r (A:DiskA) (ns:List ByteArray):Int × DiskA :=
 if A.gone then (9,A) else if ns.all (z1y A.fs)=false then (3,A) else (0,z2e { A with fs:=A.fs.map (z40 ns) })
def zlf (fs:List FileA) (n:ByteArray):Nat:=match fs.find? λf=>decide (f.name=n) with
 | some f=>f.b.length
 | none=>0
def cutA' (A:DiskA) (n:ByteArray) (k:Int):Int × DiskA :=
 if A.gone then (9,A) else if z1y A.fs n=false then (3,A) else if k<0\/k>zlf A.fs n then (2,A) else
  (0,z2e { A with fs:=A.fs.map (z1o n λf=>{ f with b:=f.b.take k.toNat,kept:=min f.kept k.toNat }) })
def z14 (A:DiskA) (n:ByteArray):Int × DiskA :=
 if A.gone then (9,A) else if z1y A.fs n=false then (3,A) else (0,z2e { A with fs:=z3y n A.fs })
structure okA (A:DiskA):Prop where
 room:A.room<=4194304
 used:used A.fs<=4194304
 many:A.fs.length<=128
 left : -1<=A.left/\A.left<=9223372036854775807
 sorted:A.fs.Pairwise λa b=>ltS a.name b.name=true
 kept:∀ f ∈ A.fs,f.kept<=f.b.length
 names:∀ f ∈ A.fs,f.name.size<=24
theorem z1g (f:FileA) (fs:List FileA):used (f::fs)=f.b.length+used fs:=by simp [used]
theorem z3q {a b:List FileA} (h:a.Perm b):used a=used b:=(h.map _).sum_nat
theorem z86:∀ {fs:List FileA} {f:FileA},f ∈ fs->f.b.length<=used fs
 | g::r,f,h=>by
  rw [z1g]
  rcases List.mem_cons.1 h with rfl|h
  ·omega
  ·have:=z86 h;omega
theorem z2q {fs:List FileA} (h:fs.Pairwise λa b=>ltS a.name b.name=true):(fs.map (·.name)).Nodup:=by
 rw [List.Nodup,List.pairwise_map]
 exact h.imp λ{a b} hab e=>by rw [e,z95] at hab;cases hab
theorem z64 {fs:List FileA} {n:ByteArray}:z1y fs n=true↔∃ f ∈ fs,f.name=n:=by simp [z1y]
theorem z65 {fs:List FileA} {n:ByteArray}:z1y fs n=false↔∀ f ∈ fs,f.name≠n:=by simp [z1y]
instance:ByE P T.a49 T.a57:=⟨by kernel_rfl,by kernel_rfl,by kernel_rfl⟩
instance:StT P T.a54:=⟨by kernel_rfl⟩
instance:KeyT P T.a54 ekS:=zyf (by kernel_rfl)
instance:MapT P T.a22 T.a54 (.pointer none):=⟨T.a29,by kernel_rfl,by kernel_rfl⟩
abbrev evF (b:Nat):Value:=.pointer (some ⟨b,0,none⟩)
structure FileM where
 at_:Nat
 x:Sl
 f:FileA
def z3k (t:FileM):HP:=HP.star (pt t.at_ (.cells #[t.x.v,.int .i64 t.f.kept] T.a9)) (slc T.a57 1 t.x (t.f.b.flatMap zh))
def dk (d:Nat) (A:DiskA):HP:=HP.ex λm:Nat=>HP.ex λFS:List FileM=>HP.and ((FS.map (·.f)).Perm A.fs/\okA A)
 (HP.star (pt d (.cells #[.int .i64 A.left,.bool A.gone,.int .i64 A.room,.int .i64 (used A.fs),.map (some m)] T.a8))
  (HP.star (z1b ekS evF m (FS.map λt=>(t.f.name,t.at_))) (HP.all (FS.map z3k))))
section
variable {w:World} {l r:List HP}
theorem Sat.all_nil (hs:Sat w l):Sat w (HP.all []::l) :=
 ⟨⟨λ_=>none,World.env' w⟩,World.ph w,⟨(λ_ _ h=>by cases h),rfl⟩,PH.sub_refl _,(λ_=>Or.inl rfl),trivial,hs⟩
theorem Sat.all_cons {a:HP} {L:List HP} (hs:Sat w (HP.all (a::L)::l)):Sat w (a::HP.all L::l):=by
 refine Sat.star (A:=a) (B:=HP.all L) (hs.imp λp h=>?_)
 obtain ⟨p1,p2,h1,h2,hd,hA,hl⟩:=h
 exact ⟨p1,p2,h1,h2,hd,hA,hl⟩
theorem Sat.all_put {a:HP} {L:List HP} (hs:Sat w (a::HP.all L::l)):Sat w (HP.all (a::L)::l):=by
 refine (Sat.star_mk (A:=a) (B:=HP.all L) hs).imp λp h=>?_
 obtain ⟨p1,p2,h1,h2,hd,hA,hl⟩:=h
 exact ⟨p1,p2,h1,h2,hd,hA,hl⟩
theorem Sat.all_perm {L L':List HP} (hp:L.Perm L') (hs:Sat w (HP.all L::l)):Sat w (HP.all L'::l):=hs.imp λp h=>zai hp h
theorem z24 {d:Nat} {A:DiskA} (hs:Sat w (dk d A::l)):∃ (m:Nat) (FS:List FileM),(FS.map FileM.f).Perm A.fs/\okA A /\
  Sat w (pt d (.cells #[.int .i64 A.left,.bool A.gone,.int .i64 A.room,.int .i64 (used A.fs),.map (some m)] T.a8)::z1b ekS evF m (FS.map λt=>(t.f.name,t.at_))::HP.all (FS.map z3k)::l):=by
 obtain ⟨m,hs⟩:=hs.ex
 obtain ⟨FS,hs⟩:=hs.ex
 obtain ⟨⟨h1,h2⟩,hs⟩:=hs.and
 have hs:=hs.star
 have hs:=(hs.pick [1]).star
 exact ⟨m,FS,h1,h2,hs.pick [2,0,0]⟩
theorem zpv {d:Nat} {A:DiskA} {m:Nat} {FS:List FileM} (hp:(FS.map FileM.f).Perm A.fs) (hok:okA A)
  (hs:Sat w (pt d (.cells #[.int .i64 A.left,.bool A.gone,.int .i64 A.room,.int .i64 (used A.fs:Nat),.map (some m)] T.a8)::z1b ekS evF m (FS.map λt=>(t.f.name,t.at_))::HP.all (FS.map z3k)::l)):Sat w (dk d A::l):=by
 refine .ex_mk m (.ex_mk FS (.and_mk ⟨hp,hok⟩ (.star_mk ?_)))
 refine (Sat.star_mk (hs.pick [1,1])).pick [1]
theorem z28 {d:Nat} {A:DiskA} (m:Nat) {FS:List FileM} {r1 r2 r3 l':List HP} {u:Int} (hp:(FS.map FileM.f).Perm A.fs) (hok:okA A) (hs:Sat w l)
  [h1:FocB l d (.cells [.int .i64 A.left,.bool A.gone,.int .i64 A.room,.int .i64 u,.map (some m)].toArray T.a8) r1] [h2:FoM r1 m ekS evF (FS.map λt=>(t.f.name,t.at_)) r2] [h3:Foc r2 (HP.all (FS.map z3k)) r3] [h4:Sub r3 l']
  (hu:u=(used A.fs:Nat):=by rfl):Sat w (dk d A::l'):=by
 subst hu
 have h5:Sat w (dk d A::r3):=zpv hp hok (hs.perm (h1.perm.trans (.cons _ (h2.perm.trans (.cons _ h3.perm)))))
 exact h5.sub
theorem z78 {FS:List FileM} {t:FileM} (hs:Sat w l) [h:Foc l (HP.all (FS.map z3k)) r] (ht:t ∈ FS):∃ FS',FS.Perm (t::FS') /\
  Sat w (pt t.at_ (.cells #[t.x.v,.int .i64 t.f.kept] T.a9)::slc T.a57 1 t.x (t.f.b.flatMap zh)::HP.all (FS'.map z3k)::r):=by
 obtain ⟨s,u,rfl⟩:=List.append_of_mem ht
 have hp:(s++t::u).Perm (t::(s++u)):=List.perm_middle
 exact ⟨s++u,hp,(((hs.perm h.perm).all_perm (hp.map z3k)).all_cons).star⟩
theorem z6j {FS:List FileM} (t:FileM) {r1 r2 r3:List HP} (hs:Sat w l) [h1:FocB l t.at_ (.cells [.slice t.x.a t.x.len t.x.cap,.int .i64 t.f.kept].toArray T.a9) r1] [h2:FocS r1 t.x T.a57 1 (t.f.b.flatMap zh) r2] [h3:Foc r2 (HP.all (FS.map z3k)) r3] :
  Sat w (HP.all ((t::FS).map z3k)::r3) :=
 Sat.all_put (Sat.star_mk (A:=pt t.at_ (.cells #[t.x.v,.int .i64 t.f.kept] T.a9)) (B:=slc T.a57 1 t.x (t.f.b.flatMap zh)) (hs.perm (h1.perm.trans (.cons _ (h2.perm.trans (.cons _ h3.perm))))))
end
section
variable {w:World} {l r:List HP} {d:Nat} {A:DiskA}
theorem z064 (n:Nat) (hn:n<=4194304) (hs:Sat w l):Ret P F.a39 #[.int .i64 n] w λvs w'=>∃ d,vs=[.pointer (some ⟨d,0,none⟩),.int .i64 0]/\Sat w' (dk d ⟨n,-1,false,[]⟩::l) :=
 zty n <| by
  delta z07q Aa Ab Ac Ad Ae Af
  refine zy ?_
  refine zch ekS evF hs λm w' hs=>?_
  refine zp hs λd w' hs=>?_
  refine ⟨rfl,d,rfl,?_⟩
  exact zpv (FS:=[]) (.refl _) ⟨hn,by simp [used],by simp,by simp,by simp,by simp,by simp⟩ ((hs.all_nil).pick [1,1,0])
theorem zqi (c:UInt8):((!(decide ((c.toNat:Int)>=97) && decide ((c.toNat:Int)<=122)) && !(decide ((c.toNat:Int)>=48) && decide ((c.toNat:Int)<=57)) && (c.toNat:Int) != 46 && (c.toNat:Int) != 45)=true↔okC c=false):=by
 simp [okC];omega
theorem z062 (s:ByteArray) (hs:Sat w l):Ret P F.a38 #[.string s] w λvs w'=>vs=[.bool (z5f s)]/\Sat w' l :=
 ztx s <| by
  delta z07p AB AF AO AP AY AZ Aa Ab Ac Ag Ao
  refine zg (λh=>?_) λh=>?_
  ·refine ⟨rfl,?_,hs⟩
   have:z5f s=false:=by simp [z5f];omega
   rw [this]
  refine zbj hs λx w' hs=>?_
  have hl:=hs.slen x
  have hsz:s.data.toList.length=s.size:=by simp
  refine zk (λ_ w'=>s.data.toList.all okC=true/\Sat w' l) ?_ ?_
  ·refine z09 (λn v w=>∃ i:Nat,v=((i:Int),())/\i<=s.data.toList.length/\s.data.toList.length-i=n/\(s.data.toList.take i).all okC=true/\Sat w (slc T.a57 1 x (s.data.toList.flatMap zh)::l)) s.data.toList.length ⟨0,rfl,by omega,rfl,rfl,hs⟩ ?_
   clear hs
   rintro n _ w ⟨i,rfl,hi,hn,hall,hs⟩
   refine zj ?_
   refine zg (λhc=>?_) λhc=>?_
   ·have hil:i<s.data.toList.length:=by omega
    refine z1w hs i hil ?_
    refine wp_lt (wp_lt (wp_lt ?_))
    have htk:(s.data.toList.take (i+1)).all okC=okC s.data.toList[i]:=by
     rw [List.take_add_one,List.getElem?_eq_getElem hil,List.all_append,hall];simp
    refine zdr (λh3=>?_) λh3=>?_
    ·have h3:=(zqi _).1 h3
     refine zn (zn ?_)
     refine ⟨rfl,?_,hs.tail⟩
     have:z5f s=false:=by
      have:s.data.toList.all okC=false:=by
       rw [<- List.take_append_drop (i+1) s.data.toList,List.all_append,htk,h3];rfl
      simp only [z5f,this,Bool.false_and]
     rw [this]
    ·have h3:okC s.data.toList[i]=true:=by
      cases hk:okC s.data.toList[i] with
      | true=>rfl
      | false=>have:=(zqi _).2 hk;rw [this] at h3;cases h3
     refine z27 (us':=[.int .i64 ((i+1:Nat):Int)]) (by (try simp (disch:=omega) only [w64]);first|rfl|(congr;omega)) ?_
     refine z0w (s.data.toList.length-(i+1)) ?_
     exact ⟨i+1,rfl,by omega,rfl,by rw [htk,h3],hs⟩
   ·refine zn (zf ⟨?_,hs.tail⟩)
    rwa [List.take_of_length_le (by omega)] at hall
  ·rintro _ w' ⟨hall,hs⟩
   refine zj ?_
   refine ⟨rfl,?_,hs⟩
   have:z5f s=true:=by simp only [z5f,hall,Bool.true_and,Bool.and_eq_true,decide_eq_true_eq];omega
   rw [this]
theorem z097 [hf:Fo l dk d A r] (hs:Sat w l):Ret P F.a37 #[.pointer (some ⟨d,0,none⟩)] w λvs w'=>vs=[.int .i64 (if A.gone then 9 else 0)]/\Sat w' (dk d A::r) :=
 ztw _ <| by
  delta z07o AA Ab Ac Aj Az
  obtain ⟨m,FS,hp,hok,hs⟩:=z24 (hs.perm hf.perm)
  refine wp_lt (zy ?_ (by simp))
  (repeat (first|with_reducible (first|refine zj ?_|refine zi ?_|refine z0j ?_|refine za hs ?_|refine ze hs ?_|refine zd ?_|refine zw hs λ_ hs=>?_|refine zm hs λ_ _ hs=>?_|refine zp hs λ_ _ hs=>?_|refine z02 hs λ_ hs=>?_|refine zl hs λ_ hs=>?_)|(apply wp_must;(focus first|trivial|omega|assumption))|refine z19 ?_|refine wp_lt ?_))
  refine zg (λh=>?_) λh=>?_
  ·exact ⟨rfl,by rw [if_pos h],z28 m hp hok hs⟩
  ·exact ⟨rfl,by rw [if_neg h],z28 m hp hok hs⟩
theorem z04r {m:Nat} {n room u:Int} (hn:n<=9223372036854775807 /\ -1<=n) [hf:FocB l d (.cells #[.int .i64 n,.bool false,.int .i64 room,.int .i64 u,.map (some m)] T.a8) r] (hs:Sat w l) :
  Ret P F.a40 #[.pointer (some (Addr.add ⟨d,0,none⟩ 0))] w λvs w'=>vs=[] /\
   Sat w' (pt d (.cells #[.int .i64 (if n>0 then n-1 else n),.bool (if n>0 then decide (n-1=0) else false),.int .i64 room,.int .i64 u,.map (some m)] T.a8)::r) :=
 ztz _ <| by
  delta z07r AB AD AE AF Aa Ab Ac Aj
  have hs:=hs.focB d
  (repeat (first|with_reducible (first|refine zj ?_|refine zi ?_|refine z0j ?_|refine za hs ?_|refine ze hs ?_|refine zd ?_|refine zw hs λ_ hs=>?_|refine zm hs λ_ _ hs=>?_|refine zp hs λ_ _ hs=>?_|refine z02 hs λ_ hs=>?_|refine zl hs λ_ hs=>?_)|(apply wp_must;(focus first|trivial|omega|assumption))|refine z19 ?_|refine wp_lt ?_))
  refine zk (λ_ w'=>Sat w' (pt d (.cells #[.int .i64 (if n>0 then n-1 else n),.bool (if n>0 then decide (n-1=0) else false),.int .i64 room,.int .i64 u,.map (some m)] T.a8)::r)) ?_ ?_
  ·refine zg (λh=>?_) λh=>?_
   ·(repeat (first|with_reducible (first|refine zj ?_|refine zi ?_|refine z0j ?_|refine za hs ?_|refine ze hs ?_|refine zd ?_|refine zw hs λ_ hs=>?_|refine zm hs λ_ _ hs=>?_|refine zp hs λ_ _ hs=>?_|refine z02 hs λ_ hs=>?_|refine zl hs λ_ hs=>?_)|(apply wp_must;(focus first|trivial|omega|assumption))|refine z19 ?_|refine wp_lt ?_))
    refine zf ?_
    rw [if_pos h,if_pos h]
    rw [w64 (x:=n-1) (by omega) (by omega)] at hs
    exact hs
   ·refine zf ?_
    rw [if_neg h,if_neg h];exact hs
  ·rintro _ w' hs
   refine zj ?_
   exact ⟨rfl,rfl,hs⟩
theorem zxy (A:DiskA) (h:A.gone=false):z2e A=⟨A.room,if A.left>0 then A.left-1 else A.left,if A.left>0 then decide (A.left-1=0) else false,A.fs⟩:=by
 unfold z2e
 split
 ·rfl
 ·rw [<- h]
theorem z05p [hf:Fo l dk d A r] (hs:Sat w l):Ret P F.a28 #[.pointer (some ⟨d,0,none⟩)] w λvs w'=>vs=[.int .i64 (A.free:Nat)]/\Sat w' (dk d A::r) :=
 zto _ <| by
  delta z07g AC AD AF AG Aa Ab Ac Ah Aj
  obtain ⟨m,FS,hp,hok,hs⟩:=z24 (hs.perm hf.perm)
  refine zy ?_ (by simp)
  have h1:=hok.room
  have h2:=hok.used
  refine zw hs λw' hs=>?_
  refine zi ?_
  refine za hs ?_
  refine zi ?_
  refine za hs ?_
  refine z7r (y:=(A.free:Nat)) ?_ ?_
  ·have e:IntKind.wrap .i64 ((A.room:Int)-(used A.fs:Nat))=(A.room:Int)-(used A.fs:Nat):=z000
   rw [e]
   unfold DiskA.free
   split <;> omega
  exact zd ⟨rfl,rfl,z28 m hp hok hs⟩
theorem z05r [hf:Fo l dk d A r] (hs:Sat w l):Ret P F.a29 #[.pointer (some ⟨d,0,none⟩)] w λvs w'=>vs=[.bool A.gone]/\Sat w' (dk d A::r) :=
 ztp _ <| by
  delta z07h Ab Ao Ap Aq
  obtain ⟨m,FS,hp,hok,hs⟩:=z24 (hs.perm hf.perm)
  (repeat (first|with_reducible (first|refine zj ?_|refine zi ?_|refine z0j ?_|refine za hs ?_|refine ze hs ?_|refine zd ?_|refine zw hs λ_ hs=>?_|refine zm hs λ_ _ hs=>?_|refine zp hs λ_ _ hs=>?_|refine z02 hs λ_ hs=>?_|refine zl hs λ_ hs=>?_)|(apply wp_must;(focus first|trivial|omega|assumption))|refine z19 ?_|refine wp_lt ?_))
  exact ⟨rfl,by simp,z28 m hp hok hs⟩
end
theorem za8 {fs:List FileA} {n:ByteArray} (hs:(fs.map (·.name)).Nodup) {f:FileA} (hf:f ∈ fs) (hn:f.name=n):fs.find? (λf=>decide (f.name=n))=some f:=by
 subst hn
 induction fs with
 | nil=>cases hf
 | cons g r ih =>
  rw [List.map_cons,List.nodup_cons] at hs
  rcases List.mem_cons.1 hf with rfl|hf
  ·rw [List.find?_cons_of_pos (by simp)]
  ·rw [List.find?_cons_of_neg (by simp;exact λe=>hs.1 (List.mem_map.2 ⟨f,hf,e.symm⟩))]
   exact ih hs.2 hf
theorem zd3 {fs:List FileA} {n:ByteArray} (h:∀ f ∈ fs,f.name≠n):fs.find? (λf=>decide (f.name=n))=none:=List.find?_eq_none.2 λf hf=>by simpa using h f hf
theorem z03y {fs:List FileA} {n:ByteArray} (hs:(fs.map (·.name)).Nodup) {f:FileA} (hf:f ∈ fs) (hn:f.name=n):zlf fs n=f.b.length:=by rw [zlf,za8 hs hf hn]
section
variable {w:World} {l r:List HP} {d:Nat} {A:DiskA}
theorem z93 {FS:List FileM} (hp:(FS.map FileM.f).Perm A.fs) {n:ByteArray} {b:Nat} (h:(n,b) ∈ FS.map λt=>(t.f.name,t.at_)):∃ t ∈ FS,t.at_=b/\t.f.name=n/\t.f ∈ A.fs:=by
 obtain ⟨t,ht,he⟩:=List.mem_map.1 h
 simp only [Prod.mk.injEq] at he
 exact ⟨t,ht,he.2,he.1,hp.mem_iff.1 (List.mem_map.2 ⟨t,ht,rfl⟩)⟩
theorem z7l {FS:List FileM} (hp:(FS.map FileM.f).Perm A.fs) {n:ByteArray} (h:∀ b,(n,b) ∉ FS.map λt=>(t.f.name,t.at_)):∀ f ∈ A.fs,f.name≠n:=λf hf e=>by
 obtain ⟨t,ht,rfl⟩:=List.mem_map.1 (hp.mem_iff.2 hf)
 exact h t.at_ (List.mem_map.2 ⟨t,ht,by rw [e]⟩)
theorem apart {FS FS':List FileM} {t:FileM} (hp:(FS.map FileM.f).Perm A.fs) (hok:okA A) (h:FS.Perm (t::FS')) :
  A.fs.Perm (t.f::FS'.map FileM.f)/\(∀ f ∈ FS'.map FileM.f,f.name≠t.f.name)/\t.f ∈ A.fs:=by
 have h1:A.fs.Perm (t.f::FS'.map FileM.f):=hp.symm.trans (h.map FileM.f)
 have h2:((t.f::FS'.map FileM.f).map (·.name)).Nodup:=(h1.map _).nodup_iff.1 (z2q hok.sorted)
 rw [List.map_cons,List.nodup_cons] at h2
 exact ⟨h1,λf hf e=>h2.1 (List.mem_map.2 ⟨f,hf,e⟩),h1.mem_iff.2 (List.mem_cons_self ..)⟩
theorem z035 (x:Sl) (bs:List UInt8) (hb:bs.length<=100000000) [hf:FocR l x 1 (bs.flatMap zh)] (hs:Sat w l):Ret P F.a0 #[x.v] w λvs w'=>∃ z:Sl,vs=[z.v]/\Sat w' (slc T.a57 1 z (bs.flatMap zh)::l) :=
 zjx x <| by
  delta zf0 AP Aa Ab
  refine zg (λh=>?_) λh=>?_
  ·have:bs=[]:=by
    obtain ⟨hlen,h0|⟨b,off,arr,T',fr,ha,-⟩⟩:=hf.rd w hs
    ·rw [z3u,h0] at hlen;exact List.length_eq_zero_iff.1 (by omega)
    ·rw [h] at ha;cases ha
   subst this
   exact ⟨rfl,⟨none,0,0⟩,rfl,hs.slc_nil⟩
  ·refine z9j hs ([]:List UInt8) (enc:=zh) bs0 λb w' hs=>?_
   refine wp_app' hs (xs:=([]:List UInt8)) (ys:=bs) (enc:=zh) (λz w' hs=>?_) (by simp;omega)
   exact ⟨rfl,z,rfl,hs⟩
theorem zh2 (n:ByteArray) [hf:Fo l dk d A r] (hs:Sat w l):Ret P F.a31 #[.pointer (some ⟨d,0,none⟩),.string n] w λvs w' =>
  (∃ f ∈ A.fs,f.name=n/\∃ z:Sl,vs=[z.v,.int .i64 0]/\Sat w' (slc T.a57 1 z (f.b.flatMap zh)::dk d A::r))\/((∀ f ∈ A.fs,f.name≠n)/\vs=[.slice none 0 0,.int .i64 3]/\Sat w' (dk d A::r)) :=
 ztq _ n <| by
  delta z07i Aa Ab Ac Aj Ak Al Ax Ay
  obtain ⟨m,FS,hp,hok,hs⟩:=z24 (hs.perm hf.perm)
  refine zy ?_ (by simp)
  (repeat (first|with_reducible (first|refine zj ?_|refine zi ?_|refine z0j ?_|refine za hs ?_|refine ze hs ?_|refine zd ?_|refine zw hs λ_ hs=>?_|refine zm hs λ_ _ hs=>?_|refine zp hs λ_ _ hs=>?_|refine z02 hs λ_ hs=>?_|refine zl hs λ_ hs=>?_)|(apply wp_must;(focus first|trivial|omega|assumption))|refine z19 ?_|refine wp_lt ?_))
  refine z7f hs (λb hb=>?_) λhb=>?_
  ·obtain ⟨t,ht,rfl,rfl,hA⟩:=z93 hp hb
   obtain ⟨FS',hpm,hs⟩:=z78 hs ht
   refine zy ?_ (by simp)
   (repeat (first|with_reducible (first|refine zj ?_|refine zi ?_|refine z0j ?_|refine za hs ?_|refine ze hs ?_|refine zd ?_|refine zw hs λ_ hs=>?_|refine zm hs λ_ _ hs=>?_|refine zp hs λ_ _ hs=>?_|refine z02 hs λ_ hs=>?_|refine zl hs λ_ hs=>?_)|(apply wp_must;(focus first|trivial|omega|assumption))|refine z19 ?_|refine wp_lt ?_))
   have hlen:t.f.b.length<=4194304:=Nat.le_trans (z86 hA) hok.used
   refine z8 (z035 t.x t.f.b (by omega) hs) λ_ _ hs=>?_
   obtain ⟨z,rfl,hs⟩:=hs
   refine zb ?_
   (repeat (first|with_reducible (first|refine zj ?_|refine zi ?_|refine z0j ?_|refine za hs ?_|refine ze hs ?_|refine zd ?_|refine zw hs λ_ hs=>?_|refine zm hs λ_ _ hs=>?_|refine zp hs λ_ _ hs=>?_|refine z02 hs λ_ hs=>?_|refine zl hs λ_ hs=>?_)|(apply wp_must;(focus first|trivial|omega|assumption))|refine z19 ?_|refine wp_lt ?_))
   refine ⟨rfl,.inl ⟨t.f,hA,rfl,z,rfl,?_⟩⟩
   have hs:=(z6j t hs).all_perm (hpm.symm.map z3k)
   have hs:=z28 (d:=d) (A:=A) (l':=slc T.a57 1 z (t.f.b.flatMap zh)::r) m hp hok hs
   exact hs.sub
  ·refine z0o ?_ (by rfl)
   exact ⟨rfl,.inr ⟨z7l hp hb,rfl,z28 m hp hok hs⟩⟩
def z98 (fs:List FileA) (n:ByteArray):Nat × Nat:=match fs.find? λf=>decide (f.name=n) with
 | some f=>(f.b.length,f.kept)
 | none=>(0,0)
theorem z09e (n:ByteArray) [hf:Fo l dk d A r] (hs:Sat w l):Ret P F.a35 #[.pointer (some ⟨d,0,none⟩),.string n] w λvs w' =>
  ∃ x:Sl,vs=[.agg [x.v,.int .i64 (z98 A.fs n).2].toArray]/\x.len=(z98 A.fs n).1/\Sat w' (dk d A::r) :=
 ztu _ n <| by
  delta z07m Aa Ab Ac Aj Ak Al Ap Ar As Au Av Aw
  obtain ⟨m,FS,hp,hok,hs⟩:=z24 (hs.perm hf.perm)
  (repeat (first|with_reducible (first|refine zj ?_|refine zi ?_|refine z0j ?_|refine za hs ?_|refine ze hs ?_|refine zd ?_|refine zw hs λ_ hs=>?_|refine zm hs λ_ _ hs=>?_|refine zp hs λ_ _ hs=>?_|refine z02 hs λ_ hs=>?_|refine zl hs λ_ hs=>?_)|(apply wp_must;(focus first|trivial|omega|assumption))|refine z19 ?_|refine wp_lt ?_))
  refine z7f hs (λb hb=>?_) λhb=>?_
  ·obtain ⟨t,ht,rfl,rfl,hA⟩:=z93 hp hb
   refine zy ?_ (by simp)
   (repeat (first|with_reducible (first|refine zj ?_|refine zi ?_|refine z0j ?_|refine za hs ?_|refine ze hs ?_|refine zd ?_|refine zw hs λ_ hs=>?_|refine zm hs λ_ _ hs=>?_|refine zp hs λ_ _ hs=>?_|refine z02 hs λ_ hs=>?_|refine zl hs λ_ hs=>?_)|(apply wp_must;(focus first|trivial|omega|assumption))|refine z19 ?_|refine wp_lt ?_))
   refine z7f hs (λb2 hb2=>?_) λhb2=>absurd hb (hb2 _)
   obtain ⟨t2,ht2,rfl,hn2,hA2⟩:=z93 hp hb2
   obtain ⟨FS',hpm,hs⟩:=z78 hs ht2
   (repeat (first|with_reducible (first|refine zj ?_|refine zi ?_|refine z0j ?_|refine za hs ?_|refine ze hs ?_|refine zd ?_|refine zw hs λ_ hs=>?_|refine zm hs λ_ _ hs=>?_|refine zp hs λ_ _ hs=>?_|refine z02 hs λ_ hs=>?_|refine zl hs λ_ hs=>?_)|(apply wp_must;(focus first|trivial|omega|assumption))|refine z19 ?_|refine wp_lt ?_))
   refine ⟨rfl,t2.x,?_,?_,?_⟩
   ·rw [z98,za8 (z2q hok.sorted) hA2 hn2]
   ·rw [z98,za8 (z2q hok.sorted) hA2 hn2];exact hs.slen t2.x
   ·have hs:=(z6j t2 hs).all_perm (hpm.symm.map z3k)
    exact z28 m hp hok hs
  ·refine z0o ?_ (by simp)
   (repeat (first|with_reducible (first|refine zj ?_|refine zi ?_|refine z0j ?_|refine za hs ?_|refine ze hs ?_|refine zd ?_|refine zw hs λ_ hs=>?_|refine zm hs λ_ _ hs=>?_|refine zp hs λ_ _ hs=>?_|refine z02 hs λ_ hs=>?_|refine zl hs λ_ hs=>?_)|(apply wp_must;(focus first|trivial|omega|assumption))|refine z19 ?_|refine wp_lt ?_))
   refine ⟨rfl,⟨none,0,0⟩,?_,?_,z28 m hp hok hs⟩
   ·rw [z98,zd3 (z7l hp hb)];rfl
   ·rw [z98,zd3 (z7l hp hb)]
theorem z06m (n:ByteArray) [hf:Fo l dk d A r] (hs:Sat w l):Ret P F.a33 #[.pointer (some ⟨d,0,none⟩),.string n] w λvs w'=>vs=[.int .i64 (z98 A.fs n).1]/\Sat w' (dk d A::r) :=
 zts _ n <| by
  delta z07k Ab Ac Ad Ag Ah
  refine z8 (z09e n hs) λ_ _ hs=>?_
  obtain ⟨x,rfl,hx,hs⟩:=hs
  refine zb ?_
  rw [hx]
  (repeat (first|with_reducible (first|refine zj ?_|refine zi ?_|refine z0j ?_|refine za hs ?_|refine ze hs ?_|refine zd ?_|refine zw hs λ_ hs=>?_|refine zm hs λ_ _ hs=>?_|refine zp hs λ_ _ hs=>?_|refine z02 hs λ_ hs=>?_|refine zl hs λ_ hs=>?_)|(apply wp_must;(focus first|trivial|omega|assumption))|refine z19 ?_|refine wp_lt ?_))
  exact ⟨rfl,rfl,hs⟩
end
theorem zru {fs fs':List FileA} {f:FileA} (hp:fs.Perm (f::fs')) (hne:∀ g ∈ fs',g.name≠f.name):(z3y f.name fs).Perm fs':=by
 have h1:=hp.filter λg=>!decide (g.name=f.name)
 rw [List.filter_cons_of_neg (by simp)] at h1
 have h2:fs'.filter (λg=>!decide (g.name=f.name))=fs':=List.filter_eq_self.2 λg hg=>by simpa using hne g hg
 rw [h2] at h1
 exact h1
theorem zrt {fs:List FileA} {n:ByteArray} (h:∀ f ∈ fs,f.name≠n):z3y n fs=fs:=List.filter_eq_self.2 λg hg=>by simpa using h g hg
theorem z6x {fs fs':List FileA} {f:FileA} {g:FileA->FileA} (hp:fs.Perm (f::fs')) (hne:∀ g ∈ fs',g.name≠f.name):(fs.map (z1o f.name g)).Perm (g f::fs'):=by
 have h1:=hp.map (z1o f.name g)
 rw [List.map_cons] at h1
 have h2:fs'.map (z1o f.name g)=fs':=by
  conv=>rhs;rw [<- List.map_id fs']
  exact List.map_congr_left λx hx=>by rw [z1o,if_neg (hne x hx)];rfl
 rw [h2,z1o,if_pos rfl] at h1
 exact h1
theorem z6e {n:ByteArray} {g:FileA->FileA} (hg:∀ f,(g f).name=f.name) (f:FileA):(z1o n g f).name=f.name:=by
 unfold z1o;split
 ·exact hg f
 ·rfl
theorem z9a {fs:List FileA} {g:FileA->FileA} (hg:∀ f,(g f).name=f.name) (h:fs.Pairwise λa b=>ltS a.name b.name=true):(fs.map g).Pairwise λa b=>ltS a.name b.name=true:=by
 rw [List.pairwise_map]
 exact h.imp λ{a b} hab=>by rw [hg,hg];exact hab
theorem zmf {fs:List FileA} (n:ByteArray) (h:fs.Pairwise λa b=>ltS a.name b.name=true):(z3y n fs).Pairwise λa b=>ltS a.name b.name=true:=h.filter _
theorem zj5 {fs:List FileA} {n:ByteArray} {f:FileA}:f ∈ z3y n fs↔f ∈ fs/\f.name≠n:=by simp [z3y,List.mem_filter]
theorem z68 (x:FileA):∀ fs:List FileA,(z44 x fs).Perm (x::fs)
 | []=>.refl _
 | f::r=>by
  rw [z44];split
  ·exact .refl _
  ·exact (List.Perm.cons f (z68 x r)).trans (.swap _ _ _)
theorem zfu {x f:FileA} {fs:List FileA}:f ∈ z44 x fs↔f=x\/f ∈ fs:=by rw [(z68 x fs).mem_iff,List.mem_cons]
theorem zet (x:FileA):∀ {fs:List FileA},(∀ f ∈ fs,f.name≠x.name)->(fs.Pairwise λa b=>ltS a.name b.name=true)->(z44 x fs).Pairwise λa b=>ltS a.name b.name=true
 | [],_,_=>by simp [z44]
 | f::r,hne,h=>by
  rw [List.pairwise_cons] at h
  rw [z44];split
  ·rename_i hlt
   rw [List.pairwise_cons]
   refine ⟨λg hg=>?_,by rw [List.pairwise_cons];exact h⟩
   rcases List.mem_cons.1 hg with rfl|hg
   ·exact hlt
   ·exact z7a hlt (h.1 g hg)
  ·rename_i hlt
   rw [List.pairwise_cons]
   refine ⟨λg hg=>?_,zet x (λg hg=>hne g (List.mem_cons_of_mem _ hg)) h.2⟩
   rcases zfu.1 hg with rfl|hg
   ·rcases zj3 f.name g.name with h1|h1|h1
    ·exact h1
    ·exact absurd h1 (hne f (List.mem_cons_self ..))
    ·exact absurd h1 hlt
   ·exact h.1 g hg
theorem z9r {A:DiskA} (h:okA A):okA (z2e A):=by
 unfold z2e
 split
 ·exact ⟨h.room,h.used,h.many,by have:=h.left;show -1<=A.left-1/\A.left-1<=_;omega,h.sorted,h.kept,h.names⟩
 ·exact h
theorem z3e (A:DiskA):(z2e A).fs=A.fs:=by unfold z2e;split <;> rfl
theorem z92 (A:DiskA):(z2e A).room=A.room:=by unfold z2e;split <;> rfl
section
variable {w:World} {l r:List HP} {d:Nat} {A:DiskA}
theorem zc9 {m:Nat} {FS:List FileM} {fs':List FileA} {room left u:Int} {r1 r2 r3 l':List HP} (hg:A.gone=false) (hok':okA { A with fs:=fs' }) (hp:(FS.map FileM.f).Perm fs') (hs:Sat w l)
  [h1:FocB l d (.cells [.int .i64 left,.bool false,.int .i64 room,.int .i64 u,.map (some m)].toArray T.a8) r1] [h2:FoM r1 m ekS evF (FS.map λt=>(t.f.name,t.at_)) r2] [h3:Foc r2 (HP.all (FS.map z3k)) r3] [h4:Sub r3 l']
  (hu:u=(used fs':Nat):=by rfl) (hl:left=A.left:=by rfl) (hr:room=A.room:=by rfl) :
  Ret P F.a40 #[.pointer (some (Addr.add ⟨d,0,none⟩ 0))] w λvs w'=>vs=[]/\Sat w' (dk d (z2e { A with fs:=fs' })::l'):=by
 subst hu hl hr
 have hl:=hok'.left
 refine Calls.mono (z04r (d:=d) (m:=m) ⟨hl.2,hl.1⟩ hs) λe w' ⟨vs,he,hv,hs⟩=>⟨vs,he,hv,?_⟩
 have hd:=zxy { A with fs:=fs' } hg
 rw [hd]
 have hok2:=z9r hok'
 rw [hd] at hok2
 exact z28 m (A:=⟨A.room,if A.left>0 then A.left-1 else A.left,if A.left>0 then decide (A.left-1=0) else false,fs'⟩) hp hok2 hs
theorem z05i (n:ByteArray) (m:Nat) {FS:List FileM} (hp:(FS.map FileM.f).Perm A.fs) (hok:okA A)
  (hs:Sat w (pt d (.cells #[.int .i64 A.left,.bool A.gone,.int .i64 A.room,.int .i64 (used A.fs),.map (some m)] T.a8)::z1b ekS evF m (FS.map λt=>(t.f.name,t.at_))::HP.all (FS.map z3k)::r)) :
  Ret P F.a36 #[.pointer (some ⟨d,0,none⟩),.string n] w λvs w'=>vs=[]/\∃ FS':List FileM,(FS'.map FileM.f).Perm (z3y n A.fs)/\(∀ t ∈ FS',t ∈ FS/\t.f.name≠n)/\(∀ t ∈ FS,t.f.name≠n->t ∈ FS') /\
   Sat w' (pt d (.cells #[.int .i64 A.left,.bool A.gone,.int .i64 A.room,.int .i64 (used (z3y n A.fs)),.map (some m)] T.a8)::z1b ekS evF m (FS'.map λt=>(t.f.name,t.at_))::HP.all (FS'.map z3k)::r) :=
 ztv _ n <| by
  delta z07n AB AC AD AE AF AG AH Aa Ab Ac Ag Aj Ak Al Ax
  (repeat (first|with_reducible (first|refine zj ?_|refine zi ?_|refine z0j ?_|refine za hs ?_|refine ze hs ?_|refine zd ?_|refine zw hs λ_ hs=>?_|refine zm hs λ_ _ hs=>?_|refine zp hs λ_ _ hs=>?_|refine z02 hs λ_ hs=>?_|refine zl hs λ_ hs=>?_)|(apply wp_must;(focus first|trivial|omega|assumption))|refine z19 ?_|refine wp_lt ?_))
  refine z7f hs (λb hb=>?_) λhb=>?_
  ·obtain ⟨t,ht,rfl,rfl,hA⟩:=z93 hp hb
   obtain ⟨FS',hpm,hs⟩:=z78 hs ht
   obtain ⟨h1,h2,-⟩:=apart hp hok hpm
   have hd:=zru h1 h2
   have hu:used A.fs=t.f.b.length+used (z3y t.f.name A.fs):=by rw [z3q h1,z1g,z3q hd]
   have h3:=hok.used
   refine z4b ?_
   refine z0o ?_ (by simp)
   refine zw hs λw' hs=>?_
   refine zi ?_
   refine za hs ?_
   refine zi ?_
   refine za hs ?_
   rw [hs.slen t.x (xs:=t.f.b) (enc:=zh),z000 (y:=(used (z3y t.f.name A.fs):Nat))]
   (repeat (first|with_reducible (first|refine zj ?_|refine zi ?_|refine z0j ?_|refine za hs ?_|refine ze hs ?_|refine zd ?_|refine zw hs λ_ hs=>?_|refine zm hs λ_ _ hs=>?_|refine zp hs λ_ _ hs=>?_|refine z02 hs λ_ hs=>?_|refine zl hs λ_ hs=>?_)|(apply wp_must;(focus first|trivial|omega|assumption))|refine z19 ?_|refine wp_lt ?_))
   refine zre hs (FS'.map λt=>(t.f.name,t.at_)) (.inl ⟨t.at_,hpm.map _⟩) λw' hs=>?_
   refine z52 ?_
   refine ⟨rfl,rfl,FS',hd.symm,λt' ht'=>⟨hpm.mem_iff.2 (List.mem_cons_of_mem _ ht'),h2 _ (List.mem_map.2 ⟨t',ht',rfl⟩)⟩,λt' ht' hne=>?_,hs.sub⟩
   rcases List.mem_cons.1 (hpm.mem_iff.1 ht') with rfl|h
   ·exact absurd rfl hne
   ·exact h
  ·have hn:=z7l hp hb
   refine z4b ?_
   refine zy ?_ (by simp)
   refine z52 ?_
   rw [zrt hn]
   exact ⟨rfl,rfl,FS,hp,λt ht=>⟨ht,hn _ (hp.mem_iff.1 (List.mem_map.2 ⟨t,ht,rfl⟩))⟩,λt ht _=>ht,hs⟩
theorem zyt {A:DiskA} (h:okA A) (n:ByteArray):okA { A with fs:=z3y n A.fs }:=by
 have hle:used (z3y n A.fs)<=used A.fs:=by
  have:∀ fs:List FileA,used (z3y n fs)<=used fs:=λfs=>by
   induction fs with
   | nil=>exact Nat.le_refl _
   | cons f r ih =>
    unfold z3y at *
    rw [z1g,List.filter_cons]
    split
    ·rw [z1g];omega
    ·omega
  exact this _
 exact ⟨h.room,Nat.le_trans hle h.used,Nat.le_trans (List.length_filter_le _ _) h.many,h.left,zmf n h.sorted,λf hf=>h.kept f (zj5.1 hf).1,λf hf=>h.names f (zj5.1 hf).1⟩
theorem zgw {k:Prog} {Q:List Value->World->Prop} (hs:Sat w l) [hf:Fo l dk d A r] (h1:A.gone=true->∀ w',Sat w' (dk d A::r)->Q [.int .i64 9] w') (h0:A.gone=false->∀ w',Sat w' (dk d A::r)->k.wp P tt w' λe vs w=>e=0/\Q vs w) :
  (Prog.call F.a37 [.pointer (some ⟨d,0,none⟩)] (sI .i64) (u1 λ(n0:Int)=>.lt (.int .i64) (n0) λ(n1:Int)=>.ite (n1 != 0) (.lt (.int .i64) (n1) λ(n2:Int)=>.done 0 [.int .i64 n2]) k)).wp P tt w λe vs w=>e=0/\Q vs w:=by
 refine z8 (z097 hs) λ_ _ hs=>?_
 obtain ⟨rfl,hs⟩:=hs
 refine zb ?_
 refine wp_lt ?_
 by_cases hg:A.gone=true
 ·rw [if_pos hg]
  refine z0o ?_ (by decide)
  exact wp_lt ⟨rfl,h1 hg _ hs⟩
 ·rw [if_neg hg]
  refine zy ?_ (by decide)
  exact h0 (by simpa using hg) _ hs
theorem zc5 (n:ByteArray) [hf:Fo l dk d A r] (hs:Sat w l):Ret P F.a32 #[.pointer (some ⟨d,0,none⟩),.string n] w λvs w'=>vs=[.int .i64 (z14 A n).1]/\Sat w' (dk d (z14 A n).2::r) :=
 ztr _ n <| by
  delta z07j Aa Ab Ac Ad Ah Ai Aj Ak Al Am An;unfold z14
  refine zgw hs (λhg w' hs=>?_) λhg w' hs=>?_
  ·rw [if_pos hg];exact ⟨rfl,hs⟩
  rw [if_neg (by rw [hg];simp)]
  obtain ⟨m,FS,hp,hok,hs⟩:=z24 hs
  (repeat (first|with_reducible (first|refine zj ?_|refine zi ?_|refine z0j ?_|refine za hs ?_|refine ze hs ?_|refine zd ?_|refine zw hs λ_ hs=>?_|refine zm hs λ_ _ hs=>?_|refine zp hs λ_ _ hs=>?_|refine z02 hs λ_ hs=>?_|refine zl hs λ_ hs=>?_)|(apply wp_must;(focus first|trivial|omega|assumption))|refine z19 ?_|refine wp_lt ?_))
  refine z7f hs (λb hb=>?_) λhb=>?_
  ·obtain ⟨t,ht,rfl,rfl,hA⟩:=z93 hp hb
   refine zy ?_ (by simp)
   rw [if_neg (by rw [z64.2 ⟨_,hA,rfl⟩];simp)]
   refine z8 (z05i t.f.name m hp hok hs) λ_ _ hs=>?_
   obtain ⟨rfl,FS',hp',-,-,hs⟩:=hs
   refine zb ?_
   (repeat (first|with_reducible (first|refine zj ?_|refine zi ?_|refine z0j ?_|refine za hs ?_|refine ze hs ?_|refine zd ?_|refine zw hs λ_ hs=>?_|refine zm hs λ_ _ hs=>?_|refine zp hs λ_ _ hs=>?_|refine z02 hs λ_ hs=>?_|refine zl hs λ_ hs=>?_)|(apply wp_must;(focus first|trivial|omega|assumption))|refine z19 ?_|refine wp_lt ?_))
   rw [hg] at hs
   refine z8 (zc9 (l':=r) hg (zyt hok t.f.name) hp' hs) λ_ _ hs=>?_
   obtain ⟨rfl,hs⟩:=hs
   refine zb ?_
   (repeat (first|with_reducible (first|refine zj ?_|refine zi ?_|refine z0j ?_|refine za hs ?_|refine ze hs ?_|refine zd ?_|refine zw hs λ_ hs=>?_|refine zm hs λ_ _ hs=>?_|refine zp hs λ_ _ hs=>?_|refine z02 hs λ_ hs=>?_|refine zl hs λ_ hs=>?_)|(apply wp_must;(focus first|trivial|omega|assumption))|refine z19 ?_|refine wp_lt ?_))
   exact ⟨rfl,rfl,hs⟩
  ·refine z0o ?_ (by rfl)
   rw [if_pos (z65.2 (z7l hp hb))]
   exact ⟨rfl,rfl,z28 m hp hok hs⟩
theorem zcd {fs fs':List FileA} {f:FileA} {g:FileA->FileA} (hp:fs.Perm (f::fs')) (hne:∀ g ∈ fs',g.name≠f.name):used (fs.map (z1o f.name g))=(g f).b.length+used fs':=by
 rw [z3q (z6x hp hne),z1g]
theorem z090 (n:ByteArray) (k:Int) [hf:Fo l dk d A r] (hs:Sat w l):Ret P F.a27 #[.pointer (some ⟨d,0,none⟩),.string n,.int .i64 k] w λvs w'=>vs=[.int .i64 (cutA' A n k).1]/\Sat w' (dk d (cutA' A n k).2::r) :=
 ztn _ n k <| by
  delta z07f AC AD AE AF AG AX Aa Ab Ac Ad Ag Ah Ai Aj Ak Al Am An Ap Ax Az;unfold cutA'
  refine zgw hs (λhg w' hs=>?_) λhg w' hs=>?_
  ·rw [if_pos hg];exact ⟨rfl,hs⟩
  rw [if_neg (by rw [hg];simp)]
  obtain ⟨m,FS,hp,hok,hs⟩:=z24 hs
  (repeat (first|with_reducible (first|refine zj ?_|refine zi ?_|refine z0j ?_|refine za hs ?_|refine ze hs ?_|refine zd ?_|refine zw hs λ_ hs=>?_|refine zm hs λ_ _ hs=>?_|refine zp hs λ_ _ hs=>?_|refine z02 hs λ_ hs=>?_|refine zl hs λ_ hs=>?_)|(apply wp_must;(focus first|trivial|omega|assumption))|refine z19 ?_|refine wp_lt ?_))
  refine z7f hs (λb hb=>?_) λhb=>?_
  ·obtain ⟨t,ht,rfl,rfl,hA⟩:=z93 hp hb
   refine wp_lt ?_
   refine zy ?_ (by simp)
   rw [if_neg (by rw [z64.2 ⟨_,hA,rfl⟩];simp),z03y (z2q hok.sorted) hA rfl]
   obtain ⟨FS',hpm,hs⟩:=z78 hs ht
   obtain ⟨h1,h2,-⟩:=apart hp hok hpm
   have hlen:=hs.slen t.x (xs:=t.f.b) (enc:=zh)
   have hcap:=(hs.focS t.x).slc_cap
   (repeat (first|with_reducible (first|refine zj ?_|refine zi ?_|refine z0j ?_|refine za hs ?_|refine ze hs ?_|refine zd ?_|refine zw hs λ_ hs=>?_|refine zm hs λ_ _ hs=>?_|refine zp hs λ_ _ hs=>?_|refine z02 hs λ_ hs=>?_|refine zl hs λ_ hs=>?_)|(apply wp_must;(focus first|trivial|omega|assumption))|refine z19 ?_|refine wp_lt ?_))
   refine zg (λh=>?_) λh=>?_
   ·rw [if_pos (by omega)]
    have hs:=(z6j t hs).all_perm (hpm.symm.map z3k)
    exact ⟨rfl,rfl,z28 m hp hok hs⟩
   ·rw [if_neg (by omega)]
    obtain ⟨k,rfl⟩:∃ j:Nat,k=j:=⟨k.toNat,by omega⟩
    rw [Int.toNat_natCast]
    have hk:k<=t.f.b.length:=by omega
    have hu0:used A.fs=t.f.b.length+used (FS'.map FileM.f):=by rw [z3q h1,z1g]
    have hu1:=zcd (g:=λf=>{ f with b:=f.b.take k,kept:=min f.kept k }) h1 h2
    have hu2:used (A.fs.map (z1o t.f.name λf=>{ f with b:=f.b.take k,kept:=min f.kept k }))=k+used (FS'.map FileM.f):=by
     rw [hu1];show (t.f.b.take k).length+_=_;rw [List.length_take,Nat.min_eq_left hk]
    have hou:=hok.used
    refine zw hs λw' hs=>?_
    refine zi ?_
    refine za hs ?_
    refine zi ?_
    refine za hs ?_
    have e1:IntKind.wrap .i64 ((used A.fs:Nat)-IntKind.wrap .i64 (((t.x.len:Nat):Int)-(k:Int)))=(used (A.fs.map (z1o t.f.name λf=>{ f with b:=f.b.take k,kept:=min f.kept k })):Nat):=by
     rw [w64 (x:=((t.x.len:Nat):Int)-(k:Int)) (by omega) (by omega),w64 (by omega) (by omega)];omega
    rw [e1]
    (repeat (first|with_reducible (first|refine zj ?_|refine zi ?_|refine z0j ?_|refine za hs ?_|refine ze hs ?_|refine zd ?_|refine zw hs λ_ hs=>?_|refine zm hs λ_ _ hs=>?_|refine zp hs λ_ _ hs=>?_|refine z02 hs λ_ hs=>?_|refine zl hs λ_ hs=>?_)|(apply wp_must;(focus first|trivial|omega|assumption))|refine z19 ?_|refine wp_lt ?_))
    have hs:=(hs.focS t.x).slc_cut (n:=k) (by omega)
    rw [z8q] at hs
    have e2:(if (k:Int)<((t.f.kept:Nat):Int) then (k:Int) else ((t.f.kept:Nat):Int))=((min t.f.kept k:Nat):Int):=by split <;> omega
    rw [e2] at hs
    have hs:=z6j (FS:=FS') ⟨t.at_,⟨t.x.a,k,k⟩,⟨t.f.name,t.f.b.take k,min t.f.kept k⟩⟩ hs
    have hp':(((⟨t.at_,⟨t.x.a,k,k⟩,⟨t.f.name,t.f.b.take k,min t.f.kept k⟩⟩:FileM)::FS').map FileM.f).Perm (A.fs.map (z1o t.f.name λf=>{ f with b:=f.b.take k,kept:=min f.kept k })) :=
     (z6x (g:=λf=>{ f with b:=f.b.take k,kept:=min f.kept k }) h1 h2).symm
    have hok':okA { A with fs:=A.fs.map (z1o t.f.name λf=>{ f with b:=f.b.take k,kept:=min f.kept k }) }:=by
     refine ⟨hok.room,by show used (A.fs.map _)<=_;omega,by show (A.fs.map _).length<=_;rw [List.length_map];exact hok.many,hok.left,z9a (z6e λ_=>rfl) hok.sorted,λf hf=>?_,λf hf=>?_⟩
     rotate_left
     ·obtain ⟨g,hg,rfl⟩:=List.mem_map.1 hf
      rw [z6e (by intro _;rfl)];exact hok.names g hg
     obtain ⟨g,hg,rfl⟩:=List.mem_map.1 hf
     have:=hok.kept g hg
     unfold z1o
     split
     ·show min g.kept k<=(g.b.take k).length;rw [List.length_take];omega
     ·exact this
    have hs:Sat _ (z1b ekS evF m (((⟨t.at_,⟨t.x.a,k,k⟩,⟨t.f.name,t.f.b.take k,min t.f.kept k⟩⟩:FileM)::FS').map λt=>(t.f.name,t.at_))::_):=(hs.pick [2]).mapPerm (hpm.map λt=>(t.f.name,t.at_))
    rw [hg] at hs
    refine z8 (zc9 (l':=r) hg hok' hp' hs) λ_ _ hs=>?_
    obtain ⟨rfl,hs⟩:=hs
    refine zb ?_
    (repeat (first|with_reducible (first|refine zj ?_|refine zi ?_|refine z0j ?_|refine za hs ?_|refine ze hs ?_|refine zd ?_|refine zw hs λ_ hs=>?_|refine zm hs λ_ _ hs=>?_|refine zp hs λ_ _ hs=>?_|refine z02 hs λ_ hs=>?_|refine zl hs λ_ hs=>?_)|(apply wp_must;(focus first|trivial|omega|assumption))|refine z19 ?_|refine wp_lt ?_))
    exact ⟨rfl,rfl,hs⟩
  ·refine wp_lt ?_
   refine z0o ?_ (by rfl)
   rw [if_pos (z65.2 (z7l hp hb))]
   exact ⟨rfl,rfl,z28 m hp hok hs⟩
end
section
variable {w:World} {l r:List HP} {d:Nat} {A:DiskA}
theorem zsg {s:ByteArray} (h:z5f s=true):s.size<=24:=by
 simp only [z5f,Bool.and_eq_true,decide_eq_true_eq] at h;exact h.2.2
theorem zvu (n:ByteArray) (fs:List FileA):(z3y n fs).length<=fs.length:=List.length_filter_le _ _
end
def z66 (n:Nat):UInt8:=if n<10 then UInt8.ofNat (48+n) else UInt8.ofNat (87+n)
def z67 (c:UInt8):Option Nat:=if 48<=c.toNat/\c.toNat<=57 then some (c.toNat-48) else if 97<=c.toNat/\c.toNat<=102 then some (c.toNat-87) else none
theorem z05t {n:Nat} (h:n<16):z67 (z66 n)=some n:=by
 unfold z66 z67
 split
 ·rw [UInt8.toNat_ofNat',if_pos (by omega)]
  congr 1;omega
 ·rw [UInt8.toNat_ofNat',if_neg (by omega),if_pos (by omega)]
  congr 1;omega
theorem z05s {c:UInt8} {n:Nat} (h:z67 c=some n):z66 n=c/\n<16:=by
 unfold z67 at h
 unfold z66
 split at h
 ·simp only [Option.some.injEq] at h
  subst h
  rw [if_pos (by omega)]
  exact ⟨UInt8.toNat_inj.1 (by rw [UInt8.toNat_ofNat'];omega),by omega⟩
 ·split at h
  ·simp only [Option.some.injEq] at h
   subst h
   rw [if_neg (by omega)]
   exact ⟨UInt8.toNat_inj.1 (by rw [UInt8.toNat_ofNat'];omega),by omega⟩
  ·cases h
def z2w:Nat->Nat->List UInt8
 | 0,_=>[]
 | k+1,n=>z2w k (n / 16)++[z66 (n % 16)]
def z3m (x:Nat):List UInt8->Option Nat
 | []=>some x
 | c::r=>match z67 c with
  | none=>none
  | some d=>z3m (16*x+d) r
theorem z73:∀ (k n:Nat),(z2w k n).length=k
 | 0,_=>rfl
 | k+1,n=>by unfold z2w;rw [List.length_append,z73 k];rfl
theorem zfl (x:Nat) (a b:List UInt8):z3m x (a++b)=(z3m x a).bind λy=>z3m y b:=by
 induction a generalizing x with
 | nil=>rfl
 | cons c r ih =>
  rw [List.cons_append]
  cases hd:z67 c with
  | none=>simp only [z3m,hd];rfl
  | some d=>simp only [z3m,hd];exact ih _
theorem zgr:∀ (k n x:Nat),z3m x (z2w k n)=some (x*16 ^ k+n % 16 ^ k)
 | 0,n,x=>by simp [z2w,z3m,Nat.mod_one]
 | k+1,n,x=>by
  unfold z2w
  rw [zfl,zgr k]
  show z3m _ [z66 (n % 16)]=_
  unfold z3m
  rw [z05t (Nat.mod_lt _ (by omega))]
  show some _=some _
  congr 1
  have h1:n % 16 ^ (k+1)=16*(n / 16 % 16 ^ k)+n % 16:=by
   rw [Nat.pow_succ,Nat.mul_comm (16 ^ k) 16,Nat.mod_mul];omega
  have h2:x*16 ^ (k+1)=16*(x*16 ^ k):=by rw [Nat.pow_succ];ac_rfl
  omega
def zu:List UInt8:=[46,108,111,103]
def z80:List UInt8:=[46,110,101,119]
def zo (pre:ByteArray) (base:Int) (x:List UInt8):ByteArray:=⟨(bl pre++(45::(z2w 11 base.toNat++x))).toArray⟩
def z1c (pre n:ByteArray) (x:List UInt8):Option Nat :=
 if (bl n).length=(bl pre).length+1+11+x.length/\(bl n).drop ((bl pre).length+1+11)=x then z3m 0 (((bl n).drop ((bl pre).length+1)).take 11) else none
def z16 (pre:ByteArray):ByteArray:=⟨(bl pre++[45]).toArray⟩
def zlh (pre n:ByteArray) (x:List UInt8):Option Nat:=if (bl (z16 pre)).isPrefixOf (bl n) then z1c pre n x else none
theorem z7t (pre:ByteArray) (base:Int) (x:List UInt8):bl (zo pre base x)=bl pre++(45::(z2w 11 base.toNat++x)):=zge _
theorem zhi (pre:ByteArray):bl (z16 pre)=bl pre++[45]:=zge _
theorem z4k (pre:ByteArray) (base:Int) (x:List UInt8):(bl (z16 pre)).isPrefixOf (bl (zo pre base x))=true:=by
 rw [z7t,zhi,List.isPrefixOf_iff_prefix]
 exact ⟨z2w 11 base.toNat++x,by simp⟩
theorem zec (pre:ByteArray) {base:Int} (h:0<=base/\base<17592186044416) (x:List UInt8):z1c pre (zo pre base x) x=some base.toNat:=by
 have hl:=z73 11 base.toNat
 have e1:(bl (zo pre base x)).drop ((bl pre).length+1)=z2w 11 base.toNat++x:=by
  rw [z7t,<- List.drop_drop,List.drop_left]
  rfl
 have e2:(bl (zo pre base x)).drop ((bl pre).length+1+11)=x:=by
  rw [<- List.drop_drop,e1]
  exact List.drop_left' hl
 unfold z1c
 rw [e1,e2,if_pos ⟨by rw [z7t];simp [hl];omega,rfl⟩,List.take_left' hl,zgr,Nat.zero_mul,Nat.zero_add,Nat.mod_eq_of_lt (by omega)]
theorem zie {pre n:ByteArray} {x y:List UInt8} {v:Nat} (h:z1c pre n x=some v) (hxy:x≠y):z1c pre n y=none:=by
 unfold z1c at h ⊢
 split at h
 ·rename_i h1
  rw [if_neg]
  rintro ⟨h2,h3⟩
  exact hxy (h1.2.symm.trans h3)
 ·cases h
theorem zbz (pre:ByteArray) {base:Int} (h:0<=base/\base<17592186044416) (x:List UInt8):zlh pre (zo pre base x) x=some base.toNat:=by
 unfold zlh
 rw [if_pos (z4k _ _ _),zec pre h]
theorem zyl {pre n:ByteArray} {x y:List UInt8} {v:Nat} (h:zlh pre n x=some v) (hxy:x≠y):zlh pre n y=none:=by
 unfold zlh at h ⊢
 split at h
 ·rename_i hp;rw [if_pos hp];exact zie h hxy
 ·cases h
theorem zwe {pre:ByteArray} {a b:Int} {x y:List UInt8} (ha:0<=a/\a<17592186044416) (hb:0<=b/\b<17592186044416) (h:zo pre a x=zo pre b y):a=b/\x=y:=by
 have h1:=zbz pre ha x
 rw [h] at h1
 by_cases hxy:x=y
 ·subst hxy
  rw [zbz pre hb] at h1
  simp only [Option.some.injEq] at h1
  exact ⟨by omega,rfl⟩
 ·rw [zyl (zbz pre hb y) (λe=>hxy e.symm)] at h1
  cases h1
def z3w (pre:ByteArray):Bool:=decide (1<=pre.size/\pre.size<=8) && (bl pre).all λc=>(97<=c.toNat && c.toNat<=122) || (48<=c.toNat && c.toNat<=57)
theorem zxx {p q n:ByteArray} (hp:z3w p=true) (hq:z3w q=true) (h1:(bl (z16 p)).isPrefixOf (bl n)=true) (h2:(bl (z16 q)).isPrefixOf (bl n)=true):p=q:=by
 have key:∀ (a b:List UInt8),(∀ c ∈ a,c≠45)->(∀ c ∈ b,c≠45)->∀ s t:List UInt8,a++45::s=b++45::t->a=b:=by
  intro a
  induction a with
  | nil =>
   intro b _ hb s t h
   cases b with
   | nil=>rfl
   | cons c cs=>simp at h;exact absurd h.1.symm (hb c (List.mem_cons_self ..))
  | cons c cs ih =>
   intro b ha hb s t h
   cases b with
   | nil=>simp at h;exact absurd h.1 (ha c (List.mem_cons_self ..))
   | cons d ds =>
    simp at h
    rw [h.1,ih ds (λx hx=>ha x (List.mem_cons_of_mem _ hx)) (λx hx=>hb x (List.mem_cons_of_mem _ hx)) s t h.2]
 have no:∀ {p:ByteArray},z3w p=true->∀ c ∈ bl p,c≠45:=λ{p} hp c hc e=>by
  unfold z3w at hp
  rw [Bool.and_eq_true,List.all_eq_true] at hp
  have:=hp.2 c hc
  subst e
  revert this
  decide
 rw [List.isPrefixOf_iff_prefix,zhi] at h1 h2
 obtain ⟨s,hs⟩:=h1
 obtain ⟨t,ht⟩:=h2
 refine zct (key _ _ (no hp) (no hq) s t ?_)
 rw [<- ht] at hs
 simpa using hs
theorem zfr:∀ (a x y:List UInt8),Op.bytesLess (a++x) (a++y)=Op.bytesLess x y
 | [],x,y=>rfl
 | c::a,x,y=>by
  rw [List.cons_append,List.cons_append,Op.bytesLess,zfr a]
  simp
theorem zdd:∀ (a b x y:List UInt8),a.length=b.length->(Op.bytesLess (a++x) (b++y)=true↔Op.bytesLess a b=true\/(a=b/\Op.bytesLess x y=true))
 | [],[],x,y,_=>by simp [Op.bytesLess]
 | c::a,d::b,x,y,h=>by
  rw [List.cons_append,List.cons_append,Op.bytesLess,Op.bytesLess]
  have ih:=zdd a b x y (by simpa using h)
  simp only [Bool.or_eq_true,decide_eq_true_eq,Bool.and_eq_true,beq_iff_eq,List.cons.injEq]
  rw [ih]
  constructor
  ·rintro (h|⟨h,h2|⟨h2,h3⟩⟩)
   ·exact .inl (.inl h)
   ·exact .inl (.inr ⟨h,h2⟩)
   ·exact .inr ⟨⟨h,h2⟩,h3⟩
  ·rintro ((h|⟨h,h2⟩)|⟨⟨h,h2⟩,h3⟩)
   ·exact .inl h
   ·exact .inr ⟨h,.inl h2⟩
   ·exact .inr ⟨h,.inr ⟨h2,h3⟩⟩
theorem z03n {a b:Nat} (ha:a<16) (hb:b<16):(z66 a<z66 b)↔a<b:=by
 rw [UInt8.lt_iff_toNat_lt]
 unfold z66
 split <;> split <;> rw [UInt8.toNat_ofNat',UInt8.toNat_ofNat'] <;> omega
theorem ziz:∀ (k a b:Nat),a<16 ^ k->b<16 ^ k->(Op.bytesLess (z2w k a) (z2w k b)=true↔a<b)
 | 0,a,b,ha,hb=>by simp at ha hb;subst ha hb;simp [z2w,Op.bytesLess]
 | k+1,a,b,ha,hb=>by
  have h1:a / 16<16 ^ k:=by rw [Nat.pow_succ] at ha;omega
  have h2:b / 16<16 ^ k:=by rw [Nat.pow_succ] at hb;omega
  unfold z2w
  rw [zdd _ _ _ _ (by rw [z73,z73]),ziz k _ _ h1 h2]
  have h3:Op.bytesLess [z66 (a % 16)] [z66 (b % 16)]=true↔a % 16<b % 16:=by
   simp only [Op.bytesLess,Bool.or_eq_true,decide_eq_true_eq,Bool.and_eq_true,Bool.false_eq_true,and_false,or_false]
   exact z03n (Nat.mod_lt _ (by omega)) (Nat.mod_lt _ (by omega))
  rw [h3]
  have h4:z2w k (a / 16)=z2w k (b / 16)->a / 16=b / 16:=λh=>by
   have e1:=zgr k (a / 16) 0
   rw [h,zgr] at e1
   simp only [Option.some.injEq] at e1
   rw [Nat.mod_eq_of_lt h1,Nat.mod_eq_of_lt h2] at e1
   omega
  constructor
  ·rintro (h|⟨h,h5⟩)
   ·omega
   ·have:=h4 h;omega
  ·intro h
   by_cases h5:a / 16=b / 16
   ·right;exact ⟨by rw [h5],by omega⟩
   ·left;omega
theorem zwb (pre:ByteArray) {a b:Int} (ha:0<=a/\a<17592186044416) (hb:0<=b/\b<17592186044416) (x:List UInt8):ltS (zo pre a x) (zo pre b x)=true↔a<b:=by
 have e:∀ s:ByteArray,ByteArray.toList s=bl s:=λs=>by rw [ByteArray.toList_eq]
 unfold ltS
 rw [e,e,z7t,z7t,zfr]
 have e2:∀ y z:List UInt8,Op.bytesLess (45::y) (45::z)=Op.bytesLess y z:=zfr [45]
 rw [e2,zdd _ _ _ _ (by rw [z73,z73]),ziz 11 _ _ (by omega) (by omega),zaq]
 constructor
 ·rintro (h|⟨-,h⟩)
  ·omega
  ·cases h
 ·intro h;left;omega
end Go.Dec
namespace Go.Proofs.YtgpcickgjngglaaGreat
open Go.RowKit Go.Maps Go.Sort Go.Proofs
set_option maxRecDepth 100000 in
set_option maxHeartbeats 1000000 in
theorem zyg {H:Type} (F:Fence) (n:Nat) (h10:F.fn 324) (hro:F.round=none) (hn:1<=n) (l Bm b nn:Nat) (D0:DataW H) {R:Value->Option (DataW H × List MemPlace)} (J Jx:List (List UInt8)->World->Prop)
  (hY:∀ pre x W,J pre W->pre.length<Maps.size D0->YieldAt F (n-1) Tryz.prog l #[encStr x] W λe W'=>(e=.returned (.bool true)/\J (pre++[x]) W'/\KeepsWalks W W')\/(e=.returned (.bool false)/\Jx (pre++[x]) W'))
  (W:World) (hJ:AbidesFrom W.heap.size J) (hm:W.cell? ⟨Bm,0,none⟩=some (.map (some b))) (hown:W.ownsMap Tryz.prog 9 R b nn D0) (h0:J [] W) :
  CallsIn F n Tryz.prog 324 #[.func (.yield l) #[] #[],.pointer (some ⟨Bm,0,none⟩)] W λe W'=>(∃ v,e=.returned v)/\((∃ ss:List (List UInt8),ss.Perm (strKeys D0)/\J ss W')\/(∃ pre,True/\Jx pre W')):=by
 refine callsIn_of_wp Tryz.func324 rfl h10 ?_ hro
 simp only [Tryz.ntmps324,List.size_toArray,List.length_cons,List.length_nil,Nat.reduceAdd,Nat.reduceSub,Array.replicate_succ,Array.replicate_zero,List.push_toArray,List.append_toArray,List.nil_append,List.cons_append]
 gi_wp2_with (first
  | (gi_at_range;refine wpListIn_range_own _ rfl _ 139 rfl 9 277 (string_keyed Tryz.underlying9) Tryz.underlying139 _ b nn _ rfl hown ?_;intro w0 hrg0 hg0 hs0)
  | gi_in)
 go_frame
 gi_loopw [3] (λ_ wr=>∃ (left:Lit->Bool) (cnt:Nat) (ss:List (List UInt8)),wr.ranges Tryz.prog 9 R b W.heap.size nn D0 left cnt/\ss.length+cnt<=Maps.size D0/\Collected D0 left ss/\J ss wr)
  (λ_ wr=>wr.rangeLeft b W.heap.size)
 case atStart =>
  exact ⟨_,_,[],hrg0,by simp,Collected.start D0,hJ [] W w0 none h0 hg0 (λr e=>by cases e)⟩
 case round =>
  obtain ⟨left,cnt,ss,hrg,hcs,hC,hJs⟩:=hrel
  gi_wp2_with (first
   | (gi_at_next;refine wpListIn_next_ranges _ rfl _ rfl 9 (string_keyed Tryz.underlying9) R encStr id (λkey kl hk=>by obtain ⟨x,hx,_⟩:=Maps.keyOf_str Tryz.underlying9 hk;exact ⟨x,hx⟩) (λv _ _=>⟨v,rfl⟩) b W.heap.size nn _ _ _ rfl hrg ?_ ?_)
   | gi_in)
  ·intro hc0 hl0
   gi_wp2
   go_end0
   exact ⟨⟨_,rfl⟩,.inl ⟨ss,hC.perm hown (string_keyed Tryz.underlying9) Tryz.underlying9 hl0,hJs⟩⟩
  ·intro x c kl yd yp w2 cnt2 hkey hlk hv hat hrg2 hlt hg2 hs2 hen
   obtain ⟨x',ex,rfl,_⟩:=Maps.keyOf_str Tryz.underlying9 hkey
   obtain rfl:x=x':=encStr_inj ex
   have hJ2:J ss w2:=hJ ss wr w2 (some W.heap.size) hJs hg2 (λr e=>by cases e;exact ⟨Nat.le_refl _,hrg.iter_walk⟩)
   obtain ⟨fn,tmps,assign,body,hy,hR⟩:=hY ss x w2 hJ2 (by omega)
   clear hs2
   gi_wp2
   refine hR.mono ?_
   rintro e W3 (⟨rfl,hJ3,hk3⟩|⟨rfl,hJx3⟩)
   ·gi_wp2
    have hrg3:=hrg2.of_walks hk3
    go_roundw
    case rel=>exact ⟨_,cnt2,ss++[x],hrg3,by simp;omega,hC.step hlk hat,hJ3⟩
    case measure=>rw [hrg3.left_eq,hrg.left_eq];exact hlt
   ·gi_wp2
    refine bodyPost_ret (results_none rfl _ _ _) rfl ?_
    exact ⟨⟨_,rfl⟩,.inr ⟨ss++[x],trivial,hJx3⟩⟩
theorem z03v (mb:Option Nat) (w:World) :
  Calls Tryz.prog 292 #[.map mb] w λe w'=>e=.returned (.func (.func 324) #[] #[.pointer (some ⟨w.heap.size,0,none⟩)])/\w'=w.alloc (.cells #[.map mb] 139):=by
 refine Calls.mono (Dec.zf75_calls mb (w:=w) (R:=λvs w'=>vs=[.func (.func 324) #[] #[.pointer (some ⟨w.heap.size,0,none⟩)]]/\w'=w.alloc (.cells #[.map mb] 139)) ?_) λe w' ⟨vs,he,hv,hw⟩=>⟨by rw [he,hv];rfl,hw⟩
 unfold Dec.zf75
 refine ⟨(⟨w.heap.size,0,none⟩,()),w.alloc (.cells #[.map mb] 139),?_,trivial,?_⟩
 ·simp only [Instr.box,Sem.run_bind,Dec.run_newVar,Result.andThen_ok,Sem.run_pure];rfl
 ·exact ⟨rfl,rfl,rfl⟩
def preF (p s:ByteArray):Bool:=p.toList.isPrefixOf s.toList
theorem z06c (s p:ByteArray):(decide (((ByteArray.size s:Nat):Int)>=((ByteArray.size p:Nat):Int)) && ByteArray.toList (ByteArray.extract s 0 (Int.toNat (((ByteArray.size p:Nat):Int)))) == ByteArray.toList p)=preF p s:=by
 unfold preF
 rw [Int.toNat_natCast,ByteArray.toList_eq,ByteArray.toList_eq,ByteArray.toList_eq]
 have e1:(ByteArray.extract s 0 p.size).data.toList=s.data.toList.take p.size:=by simp [ByteArray.data_extract]
 have e2:p.size=p.data.toList.length:=by simp
 rw [e1,Bool.eq_iff_iff,Bool.and_eq_true,decide_eq_true_eq,beq_iff_eq,List.isPrefixOf_iff_prefix]
 constructor
 ·rintro ⟨-,h⟩
  rw [<- h];exact List.take_prefix _ _
 ·intro h
  have hl:=h.length_le
  refine ⟨?_,?_⟩
  ·have:s.size=s.data.toList.length:=by simp
   omega
  ·rw [e2];exact (List.prefix_iff_eq_take.1 h).symm
theorem zza (s p:ByteArray) (w:World):Calls Tryz.prog 293 #[.string s,.string p] w λe w'=>e=.returned (.bool (preF p s))/\w'=w:=by
 refine Calls.mono (Dec.zf191_calls s p (w:=w) (R:=λvs w'=>vs=[.bool (preF p s)]/\w'=w) ?_) λe w' ⟨vs,he,hv,hw⟩=>⟨by rw [he,hv];rfl,hw⟩
 unfold Dec.zf191
 refine Dec.wp_callS (preF p s,()) (Dec.zf55_calls s p (R:=λvs w'=>vs=[.bool (preF p s)]/\w'=w) ?_) rfl λw' hw=>⟨trivial,?_⟩
 ·unfold Dec.zf55
  refine Dec.wp_must (λh=>?_) (Dec.wp_lt ⟨rfl,by rw [z06c],rfl⟩)
  have h:=of_decide_eq_true h
  omega
 ·exact Dec.wp_lt ⟨rfl,rfl,hw⟩
end Go.Proofs.YtgpcickgjngglaaGreat
namespace Go.Proofs.YtgpcickgjngglaaGreat
open Go.RowKit Go.Maps Go.Sort Go.Proofs Go.Shelf
attribute [local go_sem] Oper.semAt_some
def z59 (p:ByteArray) (ss:List (List UInt8)):List (List UInt8):=ss.filter λx=>preF p ⟨x.toArray⟩
theorem z04b (p:ByteArray) (pre:List (List UInt8)) {x:List UInt8} (h:preF p ⟨x.toArray⟩=true):z59 p (pre++[x])=z59 p pre++[x]:=by simp [z59,h]
theorem zz6 (p:ByteArray) (pre:List (List UInt8)) {x:List UInt8} (h:¬ preF p ⟨x.toArray⟩=true):z59 p (pre++[x])=z59 p pre:=by simp [z59,h]
theorem z093:(Tryz.prog.info? 9).map (λi=>(i.zero,i.size,i.bytes))=some (some (.string ByteArray.empty),1,16):=by kernel_rfl
set_option maxRecDepth 100000 in
set_option maxHeartbeats 2000000 in
theorem zyo      {H : Type} (n : Nat) (hn : 3 ≤ n) (d b nn : Nat) (p : ByteArray) (w : World) (D0 : DataW H) {R : Value → Option (DataW H × List MemPlace)} (hown : w.ownsMap Tryz.prog 9 R b nn D0) (hd : d < w.heap.size)
    (hc : w.cell? ⟨d, 4, none⟩ = some (.map (some b))) (hmax : Maps.size D0 ≤ 1000) (fin : Value → World → Prop)
    (hsort : ∀ (D : Nat) (ss : List (List UInt8)) (v : Value) (W : World), w.heap.size + 2 ≤ D → ss.Perm (strKeys D0) → Boxed W (w.heap.size + 1) 108 v → W.ownsRow (w.heap.size + 1) 9 1 v (z59  p ss).length ((z59  p ss).map encStr) → Below w.heap.size w W →
      W.heap[D]? = some (.deferred (some [])) → CallsIn Fence.wide (n - 1) Tryz.prog 294 #[v] W fun e W' => e = .returned (.tuple #[]) ∧ W'.cell? ⟨w.heap.size + 1, 0, none⟩ = some v ∧ W'.heap[D]? = some (.deferred (some [])) ∧ fin v (W'.putObj D (.deferred none))) :
    CallsIn Fence.wide n Tryz.prog 241 #[.pointer (some ⟨d, 0, none⟩), .string p] w fun e W' => ∃ v, e = .returned v ∧ fin v W' := by
  have h1 : 1 ≤ n := by omega
  obtain ⟨i0, hi, hz0, hz1, hz2⟩ := info_parts z093 
  have hbl := hown.lt
  have hc2 : ((w.alloc (.cells #[.string p] 9)).alloc (.cells #[.slice none 0 0] 108)).cell? ⟨d, 4, none⟩ = some (.map (some b)) := by
    rw [World.cell?_alloc_past _ _ _ (by simp; omega), World.cell?_alloc_past _ _ _ hd]; exact hc
  refine callsIn_of_wp_marks Tryz.func241 rfl trivial ?_ rfl
  simp only [Tryz.ntmps241, List.size_toArray, List.length_cons, List.length_nil, Nat.reduceAdd, Nat.reduceSub, Array.replicate_succ, Array.replicate_zero, List.push_toArray, List.append_toArray, List.nil_append, List.cons_append]
  gi_wp2_with (refine ⟨trivial, ?_⟩; gi_at_call 292; refine (callsIn_wide.2 (z03v    _ _)).mono ?_; rintro e w' ⟨rfl, rfl⟩)
  have bP := Boxed.new w 9 (.string p)
  have bO := Boxed.new (w.alloc (.cells #[.string p] 9)) 108 (.slice none 0 0)
  have bM := Boxed.new ((w.alloc (.cells #[.string p] 9)).alloc (.cells #[.slice none 0 0] 108)) 139 (.map (some b))
  rw [World.size_alloc] at bO bM
  rw [World.size_alloc] at bM
  have hB0 : Below w.heap.size w (((w.alloc (.cells #[.string p] 9)).alloc (.cells #[.slice none 0 0] 108)).alloc (.cells #[.map (some b)] 139)) := (((Below.refl _ w).alloc (Nat.le_refl _) _).alloc (by simp) _).alloc (by simp; omega) _
  have hown0 : (((w.alloc (.cells #[.string p] 9)).alloc (.cells #[.slice none 0 0] 108)).alloc (.cells #[.map (some b)] 139)).ownsMap Tryz.prog 9 R b nn D0 := by
    obtain ⟨es, clock, hb, Ft, hs, hD⟩ := hown
    exact ⟨es, clock, (hB0.block b hbl).trans hb, Ft, hs, hD⟩
  have hseq : SeqStops Fence.wide (n - 1) Tryz.prog 324 #[.pointer (some ⟨w.heap.size + 1 + 1, 0, none⟩)] encStr (fun ss => ss.Perm (strKeys D0)) (fun _ => True) (Maps.size D0) (((w.alloc (.cells #[.string p] 9)).alloc (.cells #[.slice none 0 0] 108)).alloc (.cells #[.map (some b)] 139)) := fun l J Jx W hW hJ hJx hY h0 => by
    have hown' : W.ownsMap Tryz.prog 9 R b nn D0 := by
      obtain ⟨es, clock, hb, Ft, hs, hD⟩ := hown0
      exact ⟨es, clock, (hW.block b (by simp; omega)).trans hb, Ft, hs, hD⟩
    exact zyg      Fence.wide (n - 1) trivial rfl (by omega) l (w.heap.size + 1 + 1) b nn D0 J Jx hY W hJ ((hW.cell (p := ⟨w.heap.size + 1 + 1, 0, none⟩) (by simp)).trans bM.cell) hown' h0
  refine wpIn_rangeFunc_ownG rfl h1 (gf := 324) (lb := #[.pointer (some ⟨w.heap.size + 1 + 1, 0, none⟩)]) rfl trivial (enters_of Tryz.func324 (by kernel_rfl) rfl)
    (encs := fun x => #[encStr x]) (Kp := KeepsWalks) (S := fun ss => ss.Perm (strKeys D0)) (Sp := fun _ => True) (N := Maps.size D0) hseq walksK_t (fun W l o o' _ h _ hw => KeepsWalks.putObj _ h hw) (Below.refl _ _) (fun _ => rfl)
    (fun pre W => ((∃ v, Boxed W (w.heap.size + 1) 108 v ∧ W.ownsRow (w.heap.size + 1) 9 1 v (z59  p pre).length ((z59  p pre).map encStr) ∧ True) ∧ Boxed W w.heap.size 9 (.string p)) ∧ Below w.heap.size w W)
    (fun _ _ _ => False)
    (OwnFrom.and (OwnFrom.and (Own.from (holdsRow_own (w.heap.size + 1) (w.heap.size + 1) 108 9 1 (fun pre => (z59  p pre).length) (fun pre => (z59  p pre).map encStr) (fun _ _ => True)) _) (Own.from (boxed_own w.heap.size 9 (fun _ => .string p)) _)) (ownFrom_below (Nat.le_refl _) (by simp; omega)))
    (fun _ _ _ _ _ hs _ _ => hs)
    ⟨⟨⟨_, bO.alloc _, World.ownsRow_nil _ _ _ _, trivial⟩, (bP.alloc _).alloc _⟩, hB0⟩
    (fun x => { tmps := #[Value.pointer (some { block := d, off := 0 }), Value.string p, undef,
                Value.pointer (some { block := w.heap.size, off := 0 }), Value.slice none 0 0,
                Value.pointer (some { block := w.heap.size + 1, off := 0 }), encStr x,
                Value.pointer (some { block := d, off := 0 }), Value.bool false,
                Value.pointer (some { block := d, off := 0 }), Value.pointer (some { block := d, off := 0 }),
                Value.pointer (some { block := d, off := 4 }), Value.map (some b), .func (.func 324) #[] #[.pointer (some ⟨w.heap.size + 1 + 1, 0, none⟩)], encStr x, undef, undef, undef, undef, undef,
                undef, undef, undef, undef, undef], defers := [] }) ?assign ?body ?done ?stop
  case assign =>
    intro l x W K hK
    gi_wp2
    exact hK
  case body =>
    rintro l pre x W ⟨⟨⟨v, hv, hrow, -⟩, hbp⟩, hB⟩ hlt
    have hcv := hv.cell
    have hcp := hbp.cell
    have hpl : (z59  p pre).length ≤ pre.length := List.length_filter_le _ _
    have hml : 1000 ≤ maxLen := by decide
    have hvl := hv.lt
    gi_wp2_with (first
      | (refine ⟨trivial, fun _ => by omega, ?_⟩; gi_at_call 293; refine (CallsIn.inRound l (callsIn_wide.2 (zza      ⟨x.toArray⟩ p W))).mono ?_; rintro e w' ⟨rfl, he⟩; have he := he.symm; subst he)
      | (gi_at_builtin; refine wpListIn_append_own _ rfl _ _ 108 rfl (w.heap.size + 1) 9 i0 (.string ByteArray.empty) 1 16 Tryz.underlying108 hi hz0 hz1 hz2 rfl (by decide) _ _ _ rfl (hrow.alloc _) ⟨W.heap.size, 0, none⟩ 1 1 [encStr x] rfl rfl (cell_one_new _ _ _) (by simp [Value.oneCell', encStr]) (by omega) (by omega) (by simp; omega) ?_; intro v' w1 hown' hgrow _; obtain ⟨g', cap', rfl⟩ := ownsRow_succ hown'; obtain ⟨hv1, hv2, hr2, hk2, hb2⟩ := hv.appended (by decide) hrow (by omega) (by omega) hown' hgrow; have hc1 := hv1.cell; have hf1 := hv1.frozen))
    · have hx : preF p ⟨x.toArray⟩ = true := by assumption
      exact ⟨hk2.from _, hk2.walks, ⟨⟨⟨_, hv2, by rw [z04b    p pre hx]; simpa using hr2, trivial⟩, (hb2.block w.heap.size (by omega)).trans hbp⟩, hB.trans (hb2.mono (by omega))⟩⟩
    · have hx : ¬ preF p ⟨x.toArray⟩ = true := by rename_i hx; rw [hx]; simp
      exact ⟨KeepsFrom.refl _ _, (KeepsOthers.refl _).walks, ⟨⟨⟨v, hv, by rw [zz6      p pre hx]; exact hrow, trivial⟩, hbp⟩, hB⟩⟩
  case done =>
    rintro D ys W hD hS ⟨⟨⟨v, hv, hrow, -⟩, hbp⟩, hB⟩ hK
    have hcv := hv.cell
    have hvl := hv.lt
    have hD2 : w.heap.size + 2 ≤ D := by simp at hD; omega
    gi_wp2_with (refine ⟨trivial, ?_⟩; gi_at_call 294; refine (hsort D ys v W hD2 hS hv hrow hB hK).mono ?_; rintro e w' ⟨rfl, hc1, hK1, hfin⟩)
    refine ⟨by simp, .inl ⟨_, _, rfl, run_takeDeferred hK1, ?_⟩⟩
    exact ⟨_, results_tmp rfl _ _ _, v, rfl, hfin⟩
  case stop =>
    rintro D c pre W _ _ h _
    exact h.elim
end Go.Proofs.YtgpcickgjngglaaGreat
namespace Go.Dec
open Go.Shelf Go.Proofs
def z09l:Ren:=⟨fun|190=>294|125=>166|258=>326|128=>238|129=>239|302=>352|303=>353|304=>354|305=>355|306=>356|307=>357|308=>358|309=>359|310=>360|333=>370|329=>287|330=>288|334=>371|335=>372|336=>373|344=>384|n=>n,fun|31=>108|9=>9|3=>3|46=>237|0=>0|51=>342|53=>157|4=>4|183=>335|182=>334|131=>249|5=>5|218=>391|222=>394|228=>426|229=>427|n=>n,λn=>n⟩
theorem z00f:Lays.n190 P z09l where
 mixed:=by kernel_rfl
 f125:=Tryz.func166.trans (congrArg some (by kernel_rfl))
 f128:=Tryz.func238.trans (congrArg some (by kernel_rfl))
 f129:=Tryz.func239.trans (congrArg some (by kernel_rfl))
 f190:=Tryz.func294.trans (congrArg some (by kernel_rfl))
 f258:=Tryz.func326.trans (congrArg some (by kernel_rfl))
 f302:=Tryz.func352.trans (congrArg some (by kernel_rfl))
 f303:=Tryz.func353.trans (congrArg some (by kernel_rfl))
 f304:=Tryz.func354.trans (congrArg some (by kernel_rfl))
 f305:=Tryz.func355.trans (congrArg some (by kernel_rfl))
 f306:=Tryz.func356.trans (congrArg some (by kernel_rfl))
 f307:=Tryz.func357.trans (congrArg some (by kernel_rfl))
 f308:=Tryz.func358.trans (congrArg some (by kernel_rfl))
 f309:=Tryz.func359.trans (congrArg some (by kernel_rfl))
 f310:=Tryz.func360.trans (congrArg some (by kernel_rfl))
 f329:=Tryz.func287.trans (congrArg some (by kernel_rfl))
 f330:=Tryz.func288.trans (congrArg some (by kernel_rfl))
 f333:=Tryz.func370.trans (congrArg some (by kernel_rfl))
 f334:=Tryz.func371.trans (congrArg some (by kernel_rfl))
 f335:=Tryz.func372.trans (congrArg some (by kernel_rfl))
 f336:=Tryz.func373.trans (congrArg some (by kernel_rfl))
 f344:=Tryz.func384.trans (congrArg some (by kernel_rfl))
 t0:=Tryz.underlying0
 a0:=Tryz.isAgg0
 z0:=Tryz.sizeOf0
 v0:=Tryz.zeroValue0
 t3:=Tryz.underlying3
 a3:=Tryz.isAgg3
 z3:=Tryz.sizeOf3
 v3:=Tryz.zeroValue3
 t4:=Tryz.underlying4
 a4:=Tryz.isAgg4
 z4:=Tryz.sizeOf4
 v4:=Tryz.zeroValue4
 t5:=Tryz.underlying5
 a5:=Tryz.isAgg5
 z5:=Tryz.sizeOf5
 v5:=Tryz.zeroValue5
 t9:=Tryz.underlying9
 a9:=Tryz.isAgg9
 z9:=Tryz.sizeOf9
 v9:=Tryz.zeroValue9
 t31:=Tryz.underlying108
 a31:=Tryz.isAgg108
 z31:=Tryz.sizeOf108
 v31:=Tryz.zeroValue108
 t46:=Tryz.underlying237
 a46:=Tryz.isAgg237
 z46:=Tryz.sizeOf237
 v46:=Tryz.zeroValue237
 t51:=Tryz.underlying342
 a51:=Tryz.isAgg342
 z51:=Tryz.sizeOf342
 v51:=Tryz.zeroValue342
 t53:=Tryz.underlying157
 a53:=Tryz.isAgg157
 z53:=Tryz.sizeOf157
 v53:=Tryz.zeroValue157
 t131:=Tryz.underlying249
 a131:=Tryz.isAgg249
 z131:=Tryz.sizeOf249
 v131:=Tryz.zeroValue249
 t182:=Tryz.underlying334
 a182:=Tryz.isAgg334
 z182:=Tryz.sizeOf334
 v182:=Tryz.zeroValue334
 t183:=Tryz.underlying335
 a183:=Tryz.isAgg335
 z183:=Tryz.sizeOf335
 v183:=Tryz.zeroValue335
 t218:=Tryz.underlying391
 a218:=Tryz.isAgg391
 z218:=Tryz.sizeOf391
 v218:=Tryz.zeroValue391
 t222:=Tryz.underlying394
 a222:=Tryz.isAgg394
 z222:=Tryz.sizeOf394
 v222:=Tryz.zeroValue394
 t228:=Tryz.underlying426
 a228:=Tryz.isAgg426
 z228:=Tryz.sizeOf426
 v228:=Tryz.zeroValue426
 t229:=Tryz.underlying427
 a229:=Tryz.isAgg427
 z229:=Tryz.sizeOf427
 v229:=Tryz.zeroValue427
theorem zq8:∀ x y:List UInt8,Op.bytesLess x y=true↔x<y
 | [],[]=>by simp [Op.bytesLess]
 | [],y::ys=>by simp [Op.bytesLess]
 | x::xs,[]=>by simp [Op.bytesLess]
 | x::xs,y::ys=>by
  rw [Op.bytesLess,List.cons_lt_cons_iff,<- zq8 xs ys]
  simp
def toK (s:ByteArray):List UInt8:=s.data.toList
def ofK (x:List UInt8):ByteArray:=⟨x.toArray⟩
theorem z066 (s:ByteArray):ofK (toK s)=s:=by unfold ofK toK;simp
theorem zlg (s:ByteArray):ByteArray.toList s=toK s:=ByteArray.toList_eq s
theorem z03c (s:ByteArray):encStr (toK s)=.string s:=by unfold encStr toK;simp
section
variable {w:World} {l:List HP}
theorem zzo {w':World} {os:Array Obj} (h:Sat w l) (he:w'.heap=w.heap++os) (h2:w'.os=w.os) (h3:w'.output=w.output):Sat w' l:=by
 refine z9u ⟨λb o hb=>?_,?_⟩ h
 ·have hb:w.heap[b]? = some o:=hb
  show w'.heap[b]? = some o
  rw [he,Array.getElem?_append_left (Array.getElem?_eq_some_iff.1 hb).1]
  exact hb
 ·show World.env' w=World.env' w'
  unfold World.env';rw [h2,h3]
theorem zjz (x:Sl) (xs:List ByteArray) (h63:xs.length<4611686018427387904) (hs:Sat w (slc T.a54 1 x (xs.flatMap z29)::l)) :
  Ret P F.a153 #[x.v] w λvs w'=>vs=[]/\∃ ys:List ByteArray,ys.Perm xs/\ys.Pairwise (λa b=>Op.bytesLess (ByteArray.toList b) (ByteArray.toList a)=false)/\Sat w' (slc T.a54 1 x (ys.flatMap z29)::l):=by
 have hl:x.len=xs.length:=hs.rd.len (enc:=z29) (λ_=>rfl) (by decide)
 obtain ⟨xa,xl,xc⟩:=x
 simp only at hl
 subst hl
 by_cases h0:xs.length=0
 ·have e:xs=[]:=List.length_eq_zero_iff.1 h0
  subst e
  refine Calls.mono (Any.slices_Sort_string_none z00f xa xc w) λe w' h=>?_
  obtain ⟨he,hw⟩:=h
  subst hw
  exact ⟨[],he,rfl,[],.refl _,.nil,hs⟩
 have hnd:=hs
 obtain ⟨p1,p2,h1,h2,hd,hA,hl⟩:=hnd
 rcases hA with ⟨ha,hl0,hc0,-⟩|⟨b,off,arr,fr,ha,hb,hlen,hle,hsz,hcs,hf⟩
 ·exact absurd hl0 h0
 have ha:xa=some ⟨b,off,none⟩:=ha
 subst ha
 have hle:xs.length<=xc:=hle
 have hsz:off+xc*1<=arr.size:=hsz
 have hP:Sat w (pt b (.cells arr T.a54 fr)::l):=⟨p1,p2,h1,h2,hd,hb,hl⟩
 have z5e:=hP.get
 have hblt:b<w.heap.size:=(Array.getElem?_eq_some_iff.1 z5e).1
 have henc:∀ (zs:List ByteArray) (i:Nat),(zs.flatMap z29)[i]? = (zs[i]?).map λs=>.string s:=λzs i=>by
  have:zs.flatMap z29=zs.map λs=>Value.string s:=by
   induction zs with
   | nil=>rfl
   | cons z zs ih=>rw [List.flatMap_cons,List.map_cons,ih];rfl
  rw [this,List.getElem?_map]
 have hH:Go.Sort.Holds encStr w b off (xs.map toK).toArray:=λj hj=>by
  have hj:j<xs.length:=by simpa using hj
  have h3:=hcs j (by rw [hlen];show j<xs.length*1;omega)
  rw [henc,List.getElem?_eq_getElem hj] at h3
  have h4:((xs.map toK).toArray)[j]! = toK xs[j]:=by
   rw [getElem!_pos _ j (by simpa using hj)];simp
  refine ⟨?_,?_⟩
  ·rw [h4,z03c]
   unfold World.cell?
   rw [z5e]
   exact h3
  ·rw [zd5,z5e]
   have:=hf (off+j) (by omega) (by show off+j<off+xc*1;omega)
   simp only [zs2]
   rw [Bool.and_eq_false_iff]
   by_cases hq:fr.1<=off+j
   ·right;exact decide_eq_false λh=>this ⟨hq,h⟩
   ·left;exact decide_eq_false hq
 have hll:(xs.map toK).length=xs.length:=List.length_map ..
 have hc:=Any.slices_Sort_string z00f b off xc (xs.map toK) w hH hblt (by rw [hll];exact h63)
 rw [hll] at hc
 refine Calls.mono hc λe w' h=>?_
 obtain ⟨he,n,os,hw⟩:=h
 generalize hmq:(xs.map toK).mergeSort (λx y=>decide (x<=y))=ms at hw
 have hperm:ms.Perm (xs.map toK):=by rw [<- hmq];exact List.mergeSort_perm _ _
 have hpw:ms.Pairwise λx y=>decide (x<=y)=true:=by
  rw [<- hmq]
  refine List.pairwise_mergeSort (λa b c h1 h2=>?_) (λa b=>?_) _
  ·simp only [decide_eq_true_eq] at *;exact List.le_trans h1 h2
  ·simp only [Bool.or_eq_true,decide_eq_true_eq];exact List.le_total a b
 have hml:ms.length=xs.length:=by rw [hperm.length_eq,hll]
 have hofK:(xs.map toK).map ofK=xs:=by
  rw [List.map_map]
  conv=>rhs;rw [<- List.map_id xs]
  exact List.map_congr_left λs _=>z066 s
 refine ⟨[],he,rfl,ms.map ofK,?_,?_,?_⟩
 ·have:=hperm.map ofK
  rwa [hofK] at this
 ·rw [List.pairwise_map]
  refine hpw.imp λ{a c} h=>?_
  have h:a<=c:=of_decide_eq_true h
  rw [zlg,zlg]
  have e:∀ z,toK (ofK z)=z:=λz=>by unfold toK ofK;simp
  rw [e,e]
  cases hq:Op.bytesLess c a with
  | false=>rfl
  | true=>exact absurd h (List.not_le.2 ((zq8 c a).1 hq))
 ·have hset:=hP.set (o':=.cells (Go.Sort.putCells encStr off ms.toArray arr) T.a54 fr)
  have hheap:w'.heap=(z30 w b (.cells (Go.Sort.putCells encStr off ms.toArray arr) T.a54 fr)).heap++os:=by
   rw [hw]
   show (w.heap.modify b (Go.Sort.onCells _))++os=w.heap.setIfInBounds b _++os
   congr 1
   apply Array.ext_getElem?
   intro i
   rw [Array.getElem?_modify,Array.getElem?_setIfInBounds]
   by_cases hib:b=i
   ·subst hib
    rw [if_pos rfl,if_pos rfl,z5e,if_pos hblt]
    rfl
   ·rw [if_neg hib,if_neg hib]
  have hs2:=zzo hset hheap (by rw [hw];rfl) (by rw [hw];rfl)
  refine hs2.imp λq hq=>.inr ⟨b,off,_,fr,rfl,hq,?_,hle,?_,λi hi=>?_,hf⟩
  ·show ((ms.map ofK).flatMap z29).length=xs.length*1
   have:∀ zs:List ByteArray,(zs.flatMap z29).length=zs.length:=λzs=>by
    induction zs with
    | nil=>rfl
    | cons z zs ih=>rw [List.flatMap_cons,List.length_append,ih];simp [z29];omega
   rw [this,List.length_map,hml];omega
  ·show off+xc*1<=(Go.Sort.putCells encStr off ms.toArray arr).size
   unfold Go.Sort.putCells
   rw [Array.size_mapIdx];exact hsz
  ·have him:i<ms.length:=by
    have:∀ zs:List ByteArray,(zs.flatMap z29).length=zs.length:=λzs=>by
     induction zs with
     | nil=>rfl
     | cons z zs ih=>rw [List.flatMap_cons,List.length_append,ih];simp [z29];omega
    rw [this,List.length_map] at hi;exact hi
   rw [henc,List.getElem?_map,List.getElem?_eq_getElem him]
   unfold Go.Sort.putCells
   rw [Array.getElem?_mapIdx]
   have ha2:off+i<arr.size:=by omega
   rw [Array.getElem?_eq_getElem ha2]
   simp only [Option.map_some]
   rw [if_pos ⟨by omega,by rw [List.size_toArray];omega⟩]
   congr 1
   rw [Nat.add_sub_cancel_left,getElem!_pos _ i (by simpa using him)]
   simp [encStr,ofK]
end
open Go.Proofs Go.Proofs.YtgpcickgjngglaaGreat
def z0y (p:ByteArray) (fs:List FileA):List ByteArray:=(fs.map (·.name)).filter (preF p)
def ze0 (W:World) (X:Nat->Bool):PH:=⟨λb=>if X b then W.heap[b]? else none,World.env' W⟩
section
variable {w W:World} {l:List HP} {X:Nat->Bool}
theorem zzn (hs:Sat w l) (hB:RowKit.Below w.heap.size w W):z75 l (ze0 W λb=>decide (b<w.heap.size)):=by
 refine z9u ⟨λb o h=>?_,?_⟩ hs
 ·have h:w.heap[b]? = some o:=h
  have hlt:b<w.heap.size:=(Array.getElem?_eq_some_iff.1 h).1
  show (if decide (b<w.heap.size)=true then W.heap[b]? else none)=some o
  rw [if_pos (decide_eq_true hlt),hB.block b hlt,h]
 ·show World.env' w=World.env' W
  unfold World.env'
  rw [hB.os,hB.output]
theorem zg0 {b:Nat} {o:Obj} (hs:z75 l (ze0 W X)) (hX:X b=false) (hb:W.heap[b]? = some o):z75 (pt b o::l) (ze0 W λc=>X c || decide (c=b)):=by
 refine ⟨⟨λc=>if c=b then some o else none,World.env' W⟩,ze0 W X,⟨λc u h=>?_,rfl⟩,⟨λc u h=>?_,rfl⟩,λc=>?_,by simp [pt],hs⟩
 ·simp only at h
  split at h
  ·rename_i hc;subst hc
   obtain rfl:=Option.some.inj h
   show (if (X c || decide (c=c))=true then W.heap[c]? else none)=some o
   rw [if_pos (by simp),hb]
  ·cases h
 ·have h:(if X c=true then W.heap[c]? else none)=some u:=h
  split at h
  ·rename_i hc
   show (if (X c || decide (c=b))=true then W.heap[c]? else none)=some u
   rw [if_pos (by rw [hc];rfl),h]
  ·cases h
 ·by_cases hc:c=b
  ·subst hc;right
   show (if X c=true then W.heap[c]? else none)=none
   rw [if_neg (by rw [hX];simp)]
  ·left;simp [hc]
theorem zji (hs:z75 l (ze0 W X)):Sat W l:=by
 refine z9u (p:=ze0 W X) ⟨λb o h=>?_,rfl⟩ hs
 have h:(if X b=true then W.heap[b]? else none)=some o:=h
 split at h
 ·exact h
 ·cases h
end
theorem zcn:∀ {a b:List ByteArray},a.Perm b->(a.Pairwise λx y=>ltS y x=false)->(b.Pairwise λx y=>ltS x y=true)->a=b
 | a,[],hp,_,_=>hp.eq_nil
 | [],y::b,hp,_,_=>absurd hp.symm.eq_nil (by simp)
 | x::a,y::b,hp,ha,hb=>by
  rw [List.pairwise_cons] at ha hb
  have hxy:x=y:=by
   by_cases h:x=y
   ·exact h
   ·have hx:x ∈ b:=(List.mem_cons.1 (hp.mem_iff.1 (List.mem_cons_self ..))).resolve_left h
    have hy:y ∈ a:=(List.mem_cons.1 (hp.mem_iff.2 (List.mem_cons_self ..))).resolve_left (λe=>h e.symm)
    have h1:=hb.1 x hx
    rw [ha.1 y hy] at h1;cases h1
  subst hxy
  rw [zcn (List.Perm.cons_inv hp) ha.2 hb.2]
def z49 (x:List UInt8):ByteArray:=⟨x.toArray⟩
theorem zw0 (xs:List ByteArray):xs.flatMap z29=xs.map Value.string:=by
 induction xs with
 | nil=>rfl
 | cons x r ih=>rw [List.flatMap_cons,ih];rfl
theorem zhy {fs:List FileA} (h:fs.Pairwise λa b=>ltS a.name b.name=true) (p:ByteArray):(z0y p fs).Pairwise λx y=>ltS x y=true:=by
 unfold z0y
 refine List.Pairwise.filter _ ?_
 rw [List.pairwise_map];exact h
theorem z045 {w:World} {m:Nat} {es:List (ByteArray × Nat)} {l:List HP} (hs:Sat w (z1b ekS evF m es::l)) (hlen:es.length<=1000) (hn:∀ x ∈ es,x.1.size<=24) :
  ∃ D0:DataW Unit,w.ownsMap Tryz.prog 9 (λ_=>some (.lit (.bool true),[])) m 1000 D0/\Maps.size D0<=1000/\((strKeys D0).map z49).Perm (es.map Prod.fst):=by
 obtain ⟨E,c,hm,hs⟩:=hs.mapOpen
 have hsz:=hm.size
 obtain ⟨xs,h1,h2,h3,h4,h5⟩:=hm
 have hE:E.size<=1000:=by omega
 have hml:1000<=maxLen:=by decide
 have hkeys:∀ e ∈ E.toList,∃ x ∈ xs,e.key=.string x.1:=λe he=>by
  have:(e.key,e.val) ∈ E.toList.map (λe=>(e.key,e.val)):=List.mem_map.2 ⟨e,he,rfl⟩
  rw [h3] at this
  obtain ⟨x,hx,hxe⟩:=List.mem_map.1 this
  exact ⟨x,hx,(Prod.mk.inj hxe).1.symm⟩
 have hrd:∀ e ∈ E.toList,∀ s,e.key=.string s->WideElems.rd (H:=Unit) Tryz.prog 9 (λ_=>some (.lit (.bool true),[])) e=some (.string s.data.toList,.lit (.bool true)):=λe he s hk=>by
  obtain ⟨x,hx,hxe⟩:=hkeys e he
  rw [hk] at hxe
  obtain rfl:s=x.1:=by cases hxe;rfl
  have h24:=hn x (h1.mem_iff.1 hx)
  have:keyOf Tryz.prog 9 (.string x.1)=some (.string x.1.data.toList):=WideMaps.keyOf_string_mk (by kernel_rfl) (by omega)
  unfold WideElems.rd
  rw [hk,this];rfl
 refine ⟨.map ((E.toList.map (WideElems.rg Tryz.prog 9 λ_=>some (.lit (.bool true),[]))).foldr DataW.insert []),⟨E,c,hs.get,⟨by omega,⟨h5,?_,?_⟩,λe he=>?_⟩,hE,rfl⟩,?_,?_⟩
 ·rw [List.Nodup,List.pairwise_map]
  exact h4.imp λh=>Nat.ne_of_lt h
 ·have hk:E.toList.map (·.key)=xs.map λx=>Value.string x.1:=by
   have:=congrArg (List.map Prod.fst) h3
   rw [List.map_map,List.map_map] at this
   exact this
  rw [hk,List.Nodup,List.pairwise_map]
  rw [List.Nodup,List.pairwise_map] at h2
  exact h2.imp λh e=>h (Value.string.inj e)
 ·obtain ⟨x,hx,hxe⟩:=hkeys e he
  exact ⟨_,hrd e he x.1 hxe⟩
 ·show ((E.toList.map _).foldr DataW.insert []).length<=1000
  rw [length_sorted,List.length_map,Array.length_toList];exact hE
 ·have hp:=(WideShapes.sorted_perm (E.toList.map (WideElems.rg (H:=Unit) Tryz.prog 9 λ_=>some (.lit (.bool true),[])))).map (λp:Lit × DataW Unit=>z49 (Go.strOf p.1))
  have e1:(strKeys (DataW.map ((E.toList.map (WideElems.rg (H:=Unit) Tryz.prog 9 λ_=>some (.lit (.bool true),[]))).foldr DataW.insert []))).map z49=((E.toList.map (WideElems.rg (H:=Unit) Tryz.prog 9 λ_=>some (.lit (.bool true),[]))).foldr DataW.insert []).map (λp:Lit × DataW Unit=>z49 (Go.strOf p.1)):=by
   simp only [strKeys,List.map_map];rfl
  rw [e1]
  refine hp.trans ?_
  rw [List.map_map]
  have e2:E.toList.map ((λp:Lit × DataW Unit=>z49 (Go.strOf p.1))∘WideElems.rg Tryz.prog 9 λ_=>some (.lit (.bool true),[]))=xs.map Prod.fst:=by
   have h6:E.toList.map (λe=>match e.key with | .string s=>s|_=>⟨#[]⟩)=xs.map Prod.fst:=by
    have:=congrArg (List.map λx:Value × Value=>match x.1 with | .string s=>s|_=>⟨#[]⟩) h3
    rw [List.map_map,List.map_map] at this
    exact this
   rw [<- h6]
   refine List.map_congr_left λe he=>?_
   obtain ⟨x,hx,hxe⟩:=hkeys e he
   show z49 (Go.strOf (WideElems.rg (H:=Unit) Tryz.prog 9 (λ_=>some (.lit (.bool true),[])) e).1)=_
   rw [WideElems.rg_of (hrd e he x.1 hxe),hxe]
   show z49 x.1.data.toList=x.1
   exact zvh rfl
  rw [e2]
  exact h1.map _
section
variable {w:World} {l r:List HP} {d:Nat} {A:DiskA}
theorem zqe (p:ByteArray) [hf:Fo l dk d A r] (hs:Sat w l):Ret P F.a30 #[.pointer (some ⟨d,0,none⟩),.string p] w λvs w'=>∃ x:Sl,vs=[x.v]/\Sat w' (slc T.a54 1 x ((z0y p A.fs).flatMap z29)::dk d A::r):=by
 have hs0:=hs.perm hf.perm
 obtain ⟨m,FS,hp,hok,hs1⟩:=z24 hs0
 have hkv:(FS.map λt=>(t.f.name,t.at_)).map Prod.fst=(FS.map FileM.f).map (·.name):=by rw [List.map_map,List.map_map];rfl
 have hlen:(FS.map λt=>(t.f.name,t.at_)).length<=1000:=by
  have:=hp.length_eq;have:=hok.many;simp at *;omega
 obtain ⟨D0,hown,hsz,hkeys⟩:=z045 (hs1.pick [1]) hlen λx hx=>by
  obtain ⟨t,ht,rfl⟩:=List.mem_map.1 hx
  exact hok.names _ (hp.mem_iff.1 (List.mem_map.2 ⟨t,ht,rfl⟩))
 rw [hkv] at hkeys
 have hkeys:=hkeys.trans (hp.map (·.name))
 have hb:=hs1.get
 have hd:d<w.heap.size:=(Array.getElem?_eq_some_iff.1 hb).1
 have hc:w.cell? ⟨d,4,none⟩=some (.map (some m)):=by rw [z55 hb];rfl
 have hfin:=callsIn_wide.1 (zyo (n:=3) (Nat.le_refl _) d m 1000 p w D0 hown hd hc hsz (λv W=>∃ x:Sl,v=x.v/\Sat W (slc T.a54 1 x ((z0y p A.fs).flatMap z29)::dk d A::r)) ?_)
 ·exact Calls.mono hfin λe w' ⟨v,he,x,hv,hs⟩=>⟨[x.v],by rw [he,hv];rfl,x,rfl,hs⟩
 intro D ss v W hD hS hbox hrow hB hK
 have hsR:=zzn hs0 hB
 have hsR:=zg0 hsR (b:=w.heap.size+1) (by simp) hbox
 have hDB:D≠w.heap.size+1:=by omega
 have hsR:=zg0 hsR (b:=D) (by simp;omega) hK
 have hpS:((z59 p ss).map z49).Perm (z0y p A.fs):=by
  have h1:=((hS.map z49).trans hkeys).filter (preF p)
  rw [List.filter_map] at h1
  exact h1
 have hflat:((z59 p ss).map z49).flatMap z29=(z59 p ss).map encStr:=by
  rw [zw0,List.map_map];rfl
 have hlen2:((z59 p ss).map z49).length<576460752303423488:=by
  rw [hpS.length_eq]
  have h1:(z0y p A.fs).length<=A.fs.length:=by unfold z0y;exact Nat.le_trans (List.length_filter_le _ _) (by simp)
  have:=hok.many
  omega
 obtain ⟨x,rfl,hsx⟩:∃ x:Sl,v=x.v/\Sat W (slc T.a54 1 x (((z59 p ss).map z49).flatMap z29)::pt D (.deferred (some []))::pt (w.heap.size+1) (.cells #[v] 108)::dk d A::r):=by
  rw [hflat]
  obtain ⟨hxl,h|⟨g,cap,cur,rfl,hg,hgb,hcap,-,hcur,htk⟩⟩:=hrow
  ·obtain ⟨rfl,hn0⟩:=h
   have:z59 p ss=[]:=List.length_eq_zero_iff.1 hn0
   rw [this]
   exact ⟨⟨none,0,0⟩,rfl,(zji hsR).slc_nil⟩
  ·have hgB:g≠w.heap.size+1:=λe=>by
    subst e
    have hbox:W.heap[w.heap.size+1]? = some (.cells #[_] 108 (0,0)):=hbox
    rw [hbox] at hgb
    cases hgb
   have hgD:g≠D:=λe=>by subst e;rw [hK] at hgb;cases hgb
   have hsR:=zji (zg0 hsR (b:=g) (by simp;omega) hgb)
   refine ⟨⟨some ⟨g,0,none⟩,(z59 p ss).length,cap⟩,rfl,hsR.imp λq hq=>.inr ⟨g,0,cur,(0,0),rfl,hq,by simp,hcap,by simp [hcur],λi hi=>?_,z2v _ _⟩⟩
   rw [<- htk,List.length_take] at hi
   rw [<- htk,Nat.zero_add,List.getElem?_take,if_pos (by omega)]
   simp
 refine callsIn_wide.2 (Calls.mono (zjz x _ (Nat.lt_trans hlen2 (by omega)) hsx) ?_)
 rintro e w' ⟨vs,rfl,rfl,ys,hys,hso,hs'⟩
 have hB1:=(hs'.pick [2]).get
 have hD1:=(hs'.pick [1]).get
 refine ⟨rfl,by rw [z55 hB1];rfl,hD1,x,rfl,?_⟩
 have hset:Sat (z30 w' D (.deferred none)) _:=(hs'.pick [1]).set (o':=.deferred none)
 rw [zcn (hys.trans hpS) hso (zhy hok.sorted p)] at hset
 exact hset.sub
end
def zfe (x:Sl):List Value:=[x.v]
instance:Enc1 zfe .slc (λx=>x):=⟨λ_=>rfl⟩
instance:EncN zfe 1:=⟨λ_=>rfl,by decide,by simp [zfe,Value.oneCell']⟩
def za4 (l:List HP):List Sl->List (List UInt8)->Prop
 | [],[]=>True
 | x::xs,b::bs=>(∀ w,Sat w l->Rd w 1 x (b.flatMap zh))/\za4 l xs bs
 | _,_=>False
theorem za4.length {l:List HP}:∀ {xs:List Sl} {bs:List (List UInt8)},za4 l xs bs->xs.length=bs.length
 | [],[],_=>rfl
 | _::_,_::_,h=>by rw [List.length_cons,List.length_cons,h.2.length]
theorem za4.get {l:List HP}:∀ {xs:List Sl} {bs:List (List UInt8)} (h:za4 l xs bs) (i:Nat) (h1:i<xs.length) (h2:i<bs.length),∀ w,Sat w l->Rd w 1 xs[i] (bs[i].flatMap zh)
 | _::_,_::_,h,0,_,_=>h.1
 | _::_,_::_,h,i+1,h1,h2=>h.2.get i (by simpa using h1) (by simpa using h2)
theorem z3h {bs:List (List UInt8)} {i:Nat} (hi:i<bs.length):(bs.take (i+1)).flatten=(bs.take i).flatten++bs[i]:=by
 rw [List.take_add_one,List.getElem?_eq_getElem hi,List.flatten_append];simp
section
variable {w:World} {l r r0:List HP} {d:Nat} {A:DiskA}
theorem zgy (hok:okA A) {n:ByteArray} (hn:z5f n=true) {bs:List UInt8} (hb:bs.length<=A.free) (hm:¬ (z1y A.fs n=false/\A.fs.length>=128)) :
  okA { A with fs:=if z1y A.fs n then A.fs.map (z1o n λf=>{ f with b:=f.b++bs }) else z44 ⟨n,bs,0⟩ A.fs }:=by
 have hr:=hok.room
 have hu:=hok.used
 unfold DiskA.free at hb
 by_cases h:z1y A.fs n=true
 ·rw [if_pos h]
  obtain ⟨f,hf,rfl⟩:=z64.1 h
  obtain ⟨s,u,hsu⟩:=List.append_of_mem hf
  have hpm:A.fs.Perm (f::(s++u)):=by rw [hsu];exact List.perm_middle
  have hnd:=(hpm.map (·.name)).nodup_iff.1 (z2q hok.sorted)
  rw [List.map_cons,List.nodup_cons] at hnd
  have hne:∀ g ∈ s++u,g.name≠f.name:=λg hg e=>hnd.1 (List.mem_map.2 ⟨g,hg,e⟩)
  have h1:=zcd (g:=λf=>{ f with b:=f.b++bs }) hpm hne
  have h2:used A.fs=f.b.length+used (s++u):=by rw [z3q hpm,z1g]
  refine ⟨hok.room,?_,by show (A.fs.map _).length<=_;rw [List.length_map];exact hok.many,hok.left,z9a (z6e λ_=>rfl) hok.sorted,λg hg=>?_,λg hg=>?_⟩
  ·show used (A.fs.map _)<=_
   rw [h1]
   show (f.b++bs).length+_<=_
   rw [List.length_append];omega
  ·obtain ⟨g,hg',rfl⟩:=List.mem_map.1 hg
   have:=hok.kept g hg'
   unfold z1o
   split
   ·show g.kept<=(g.b++bs).length;rw [List.length_append];omega
   ·exact this
  ·obtain ⟨g,hg',rfl⟩:=List.mem_map.1 hg
   rw [z6e (by intro _;rfl)];exact hok.names g hg'
 ·have h:z1y A.fs n=false:=by simpa using h
  rw [if_neg (by rw [h];simp)]
  have hne:=z65.1 h
  have hp:=z68 ⟨n,bs,0⟩ A.fs
  refine ⟨hok.room,?_,?_,hok.left,zet _ hne hok.sorted,λg hg=>?_,λg hg=>?_⟩
  ·show used (z44 _ _)<=_
   rw [z3q hp,z1g];show bs.length+_<=_;omega
  ·show (z44 _ _).length<=_
   rw [hp.length_eq,List.length_cons]
   have:=hok.many
   have:A.fs.length≠128:=λe=>hm ⟨h,by omega⟩
   omega
  ·rcases zfu.1 hg with rfl|hg
   ·exact Nat.zero_le _
   ·exact hok.kept g hg
  ·rcases zfu.1 hg with rfl|hg
   ·exact zsg hn
   ·exact hok.names g hg
theorem zld (x:FileA) (g:FileA->FileA) (hg:(g x).name=x.name):∀ {fs:List FileA},(∀ f ∈ fs,f.name≠x.name)->(z44 x fs).map (z1o x.name g)=z44 (g x) fs
 | [],_=>by simp [z44,z1o]
 | f::r,h=>by
  have hf:z1o x.name g f=f:=by rw [z1o,if_neg (h f (List.mem_cons_self ..))]
  have hr:r.map (z1o x.name g)=r:=by
   conv=>rhs;rw [<- List.map_id r]
   exact List.map_congr_left λy hy=>by rw [z1o,if_neg (h y (List.mem_cons_of_mem _ hy))];rfl
  rw [z44,z44,hg]
  split
  ·rw [List.map_cons,List.map_cons,hf,hr,z1o,if_pos rfl]
  ·rw [List.map_cons,hf,zld x g hg λy hy=>h y (List.mem_cons_of_mem _ hy)]
theorem zkl (n:ByteArray) (ps:Sl) (xs:List Sl) (bs:List (List UInt8)) [hps:FocR r ps 1 (xs.flatMap zfe)] (hbs:za4 r xs bs) (hlen:bs.length<=1000) (hsum:∀ b ∈ bs,b.length<=100000000) [hf:Fo l dk d A r] (hs:Sat w l) :
  Ret P F.a26 #[.pointer (some ⟨d,0,none⟩),.string n,ps.v] w λvs w'=>vs=[.int .i64 (z07 A n bs.flatten).1]/\Sat w' (dk d (z07 A n bs.flatten).2::r) :=
 ztm _ n ps <| by
  delta z07e AB AD AE AF AI AJ AM AN AO AP Aa Ab Ac Ad Ae Af Ag Ah Ai Aj Ak Am An Ao Ax;unfold z07
  have hxl:=hbs.length
  have hok0:okA A:=by obtain ⟨m,FS,hp,hok,hs⟩:=z24 (hs.perm hf.perm);exact hok
  have hfr:A.free<=4194304:=by have:=hok0.room;unfold DiskA.free;omega
  refine zgw hs (λhg w' hs=>?_) λhg w' hs=>?_
  ·rw [if_pos hg];exact ⟨rfl,hs⟩
  rw [if_neg (by rw [hg];simp)]
  have hpl:=hs.slen ps (xs:=xs) (enc:=zfe)
  refine z8 (z062 n hs) λ_ _ hs=>?_
  obtain ⟨rfl,hs⟩:=hs
  refine zb ?_
  refine zg (λh=>?_) λh=>?_
  ·have h:z5f n=false:=by simpa using h
   rw [if_pos h];exact ⟨rfl,rfl,hs⟩
  have hn:z5f n=true:=by simpa using h
  rw [if_neg (by rw [hn];simp)]
  refine zk (λv w'=>bs.flatten.length<=A.free/\v=(((bs.flatten.length:Nat):Int),())/\Sat w' (dk d A::r)) ?_ ?_
  ·refine z09 (λk v w=>∃ i:Nat,v=((((bs.take i).flatten.length:Nat):Int),(i:Int),())/\i<=xs.length/\xs.length-i=k/\(bs.take i).flatten.length<=A.free/\Sat w (dk d A::r)) xs.length ⟨0,rfl,by omega,rfl,by simp,hs⟩ ?_
   clear hs
   rintro k _ w ⟨i,rfl,hi,hk,hsm,hs⟩
   refine zj ?_
   refine zg (λhc=>?_) λhc=>?_
   ·have hil:i<xs.length:=by omega
    have hib:i<bs.length:=by omega
    refine z1w hs i hil ?_
    have hrl:xs[i].len=bs[i].length:=(hbs.get i hil hib _ hs.tail).len (enc:=zh) (λ_=>rfl) (by decide)
    have hbi:=hsum _ (List.getElem_mem hib)
    refine z8 (z05p hs) λ_ _ hs=>?_
    obtain ⟨rfl,hs⟩:=hs
    refine zb ?_
    have ew:IntKind.wrap .i64 ((A.free:Int)-((bs.take i).flatten.length:Nat))=(A.free:Int)-((bs.take i).flatten.length:Nat):=z000
    rw [ew]
    refine zg (λh3=>?_) λh3=>?_
    ·refine zn (zn ?_)
     rw [if_pos]
     ·exact ⟨rfl,rfl,hs⟩
     ·left
      have h4:(bs.take (i+1)).flatten.length<=bs.flatten.length:=by
       have:=congrArg (λl:List (List UInt8)=>l.flatten.length) (List.take_append_drop (i+1) bs)
       simp only [List.flatten_append,List.length_append] at this
       omega
      rw [z3h hib,List.length_append] at h4
      omega
    ·refine z1u (y:=(((bs.take (i+1)).flatten.length:Nat):Int)) ?_ ?_
     ·refine z27 (us':=[.int .i64 (((bs.take (i+1)).flatten.length:Nat):Int),.int .i64 ((i+1:Nat):Int)]) (by (try simp (disch:=omega) only [w64]);first|rfl|(congr;omega)) ?_
      refine z0w (xs.length-(i+1)) ?_
      refine ⟨i+1,rfl,by omega,rfl,?_,hs⟩
      rw [z3h hib,List.length_append];omega
     ·rw [z3h hib,List.length_append,w64 (by omega) (by omega)];omega
   ·refine zn (zf ?_)
    rw [List.take_of_length_le (by omega)] at hsm ⊢
    exact ⟨hsm,rfl,hs⟩
  clear hs
  rintro _ w ⟨hfit,rfl,hs⟩
  refine zj ?_
  obtain ⟨m,FS,hp,hok,hs⟩:=z24 hs
  have hou:=hok.used
  have hor:=hok.room
  have hfit':=hfit
  unfold DiskA.free at hfit'
  (repeat (first|with_reducible (first|refine zj ?_|refine zi ?_|refine z0j ?_|refine za hs ?_|refine ze hs ?_|refine zd ?_|refine zw hs λ_ hs=>?_|refine zm hs λ_ _ hs=>?_|refine zp hs λ_ _ hs=>?_|refine z02 hs λ_ hs=>?_|refine zl hs λ_ hs=>?_)|(apply wp_must;(focus first|trivial|omega|assumption))|refine z19 ?_|refine wp_lt ?_))
  have hnot:∀ (g:Bool),z1y A.fs n=g->¬ (g=false/\A.fs.length>=128)->(if bs.flatten.length>A.free\/(z1y A.fs n=false/\A.fs.length>=128) then ((5:Int),A) else
    (0,z2e { A with fs:=if z1y A.fs n then A.fs.map (z1o n λf=>{ f with b:=f.b++bs.flatten }) else z44 ⟨n,bs.flatten,0⟩ A.fs })) =
    (0,z2e { A with fs:=if z1y A.fs n then A.fs.map (z1o n λf=>{ f with b:=f.b++bs.flatten }) else z44 ⟨n,bs.flatten,0⟩ A.fs }):=λg hg h=>by
   rw [if_neg]
   rintro (h1|⟨h1,h2⟩)
   ·omega
   ·exact h ⟨by rw [<- hg,h1],h2⟩
  refine zxd hs (λb hb=>?_) λhb=>?_
  all_goals refine wp_lt ?_
  all_goals refine zk (λv w'=>∃ (t:FileM) (FS':List FileM) (fs1:List FileA),v=(some ⟨t.at_,0,none⟩,())/\t.f.name=n/\fs1.Perm (t.f::FS'.map FileM.f)/\(∀ g ∈ FS'.map FileM.f,g.name≠t.f.name)/\used fs1=used A.fs/\¬ (z1y A.fs n=false/\A.fs.length>=128) /\
    fs1.map (z1o n λf=>{ f with b:=f.b++bs.flatten })=(if z1y A.fs n then A.fs.map (z1o n λf=>{ f with b:=f.b++bs.flatten }) else z44 ⟨n,bs.flatten,0⟩ A.fs) /\
    Sat w' (pt t.at_ (.cells #[t.x.v,.int .i64 t.f.kept] T.a9)::slc T.a57 1 t.x (t.f.b.flatMap zh)::HP.all (FS'.map z3k)::pt d (.cells #[.int .i64 A.left,.bool A.gone,.int .i64 A.room,.int .i64 (used A.fs),.map (some m)] T.a8)::z1b ekS evF m ((t::FS').map λt=>(t.f.name,t.at_))::r)) ?_ ?_
  ·obtain ⟨t,ht,rfl,rfl,hA⟩:=z93 hp hb
   have hhas:z1y A.fs t.f.name=true:=z64.2 ⟨_,hA,rfl⟩
   refine zy ?_ (by simp)
   obtain ⟨FS',hpm,hs⟩:=z78 hs ht
   obtain ⟨h1,h2,-⟩:=apart hp hok hpm
   refine zf ?_
   refine ⟨t,FS',A.fs,rfl,rfl,h1,h2,rfl,by rw [hhas];simp,by rw [if_pos hhas],?_⟩
   have hs:=(hs.pick [4]).mapPerm (hpm.map λt=>(t.f.name,t.at_))
   exact hs.sub
  rotate_left
  ·have hno:=z7l hp hb
   have hhas:=z65.2 hno
   refine z0o ?_ (by simp)
   (repeat (first|with_reducible (first|refine zj ?_|refine zi ?_|refine z0j ?_|refine za hs ?_|refine ze hs ?_|refine zd ?_|refine zw hs λ_ hs=>?_|refine zm hs λ_ _ hs=>?_|refine zp hs λ_ _ hs=>?_|refine z02 hs λ_ hs=>?_|refine zl hs λ_ hs=>?_)|(apply wp_must;(focus first|trivial|omega|assumption))|refine z19 ?_|refine wp_lt ?_))
   refine ze6 hs ?_
   have hml:(FS.map λt=>(t.f.name,t.at_)).length=A.fs.length:=by rw [List.length_map,<- hp.length_eq,List.length_map]
   rw [hml]
   refine zg (λh3=>?_) λh3=>?_
   ·refine zn ?_
    rw [if_pos (.inr ⟨hhas,by omega⟩)]
    exact ⟨rfl,rfl,z28 m hp hok hs⟩
   refine zp hs λa w' hs=>?_
   (repeat (first|with_reducible (first|refine zj ?_|refine zi ?_|refine z0j ?_|refine za hs ?_|refine ze hs ?_|refine zd ?_|refine zw hs λ_ hs=>?_|refine zm hs λ_ _ hs=>?_|refine zp hs λ_ _ hs=>?_|refine z02 hs λ_ hs=>?_|refine zl hs λ_ hs=>?_)|(apply wp_must;(focus first|trivial|omega|assumption))|refine z19 ?_|refine wp_lt ?_))
   refine zbi hs (FS.map λt=>(t.f.name,t.at_)) (.inr ⟨hb,rfl⟩) a λw' hs=>?_
   refine zf ?_
   refine ⟨⟨a,⟨none,0,0⟩,⟨n,[],0⟩⟩,FS,z44 ⟨n,[],0⟩ A.fs,rfl,rfl,(z68 _ _).trans (.cons _ hp.symm),λg hg=>hno g (hp.mem_iff.1 hg),?_,by omega,?_,?_⟩
   ·rw [z3q (z68 _ _),z1g];exact Nat.zero_add _
   ·rw [if_neg (by rw [hhas];simp)]
    exact zld ⟨n,[],0⟩ (λf=>{ f with b:=f.b++bs.flatten }) rfl hno
   ·exact (hs.slc_nil (T:=T.a57) (sz:=1)).pick [2,0,2,1,0]
  all_goals clear hs
  all_goals rintro _ w ⟨t,FS',fs1,rfl,htn,h1,h2,hus,hno,hfin,hs⟩
  all_goals refine zj ?_
  all_goals rw [hnot _ rfl hno,<- hfin]
  all_goals subst htn
  all_goals refine zk (λ_ w'=>∃ x1:Sl,Sat w' (pt t.at_ (.cells #[x1.v,.int .i64 t.f.kept] T.a9)::slc T.a57 1 x1 ((t.f.b++bs.flatten).flatMap zh)::HP.all (FS'.map z3k)::pt d (.cells #[.int .i64 A.left,.bool A.gone,.int .i64 A.room,.int .i64 (used A.fs),.map (some m)] T.a8)::z1b ekS evF m ((t::FS').map λt=>(t.f.name,t.at_))::r)) ?_ ?_
  ·refine z09 (λk v w=>∃ (i:Nat) (x1:Sl),v=((i:Int),())/\i<=xs.length/\xs.length-i=k/\Sat w (pt t.at_ (.cells #[x1.v,.int .i64 t.f.kept] T.a9)::slc T.a57 1 x1 ((t.f.b++(bs.take i).flatten).flatMap zh)::HP.all (FS'.map z3k)::pt d (.cells #[.int .i64 A.left,.bool A.gone,.int .i64 A.room,.int .i64 (used A.fs),.map (some m)] T.a8)::z1b ekS evF m ((t::FS').map λt=>(t.f.name,t.at_))::r)) xs.length ⟨0,t.x,rfl,by omega,rfl,by simpa using hs⟩ ?_
   clear hs
   rintro k _ w ⟨i,x1,rfl,hi,hk,hs⟩
   refine zj ?_
   refine zg (λhc=>?_) λhc=>?_
   ·have hil:i<xs.length:=by omega
    have hib:i<bs.length:=by omega
    refine z1w hs i hil ?_
    have hrd:FocR r xs[i] 1 (bs[i].flatMap zh):=⟨hbs.get i hil hib⟩
    have hbi:=hsum _ (List.getElem_mem hib)
    have hsm:(bs.take i).flatten.length<=bs.flatten.length:=by
     have:=congrArg (λl:List (List UInt8)=>l.flatten.length) (List.take_append_drop i bs)
     simp only [List.flatten_append,List.length_append] at this
     omega
    have htb:t.f.b.length<=used fs1:=z86 (h1.mem_iff.2 (List.mem_cons_self ..))
    (repeat (first|with_reducible (first|refine zj ?_|refine zi ?_|refine z0j ?_|refine za hs ?_|refine ze hs ?_|refine zd ?_|refine zw hs λ_ hs=>?_|refine zm hs λ_ _ hs=>?_|refine zp hs λ_ _ hs=>?_|refine z02 hs λ_ hs=>?_|refine zl hs λ_ hs=>?_)|(apply wp_must;(focus first|trivial|omega|assumption))|refine z19 ?_|refine wp_lt ?_))
    refine wp_app' hs (xs:=t.f.b++(bs.take i).flatten) (ys:=bs[i]) (enc:=zh) (λz w' hs=>?_) (by rw [List.length_append];omega)
    (repeat (first|with_reducible (first|refine zj ?_|refine zi ?_|refine z0j ?_|refine za hs ?_|refine ze hs ?_|refine zd ?_|refine zw hs λ_ hs=>?_|refine zm hs λ_ _ hs=>?_|refine zp hs λ_ _ hs=>?_|refine z02 hs λ_ hs=>?_|refine zl hs λ_ hs=>?_)|(apply wp_must;(focus first|trivial|omega|assumption))|refine z19 ?_|refine wp_lt ?_))
    refine z27 (us':=[.int .i64 ((i+1:Nat):Int)]) (by (try simp (disch:=omega) only [w64]);first|rfl|(congr;omega)) ?_
    refine z0w (xs.length-(i+1)) ?_
    refine ⟨i+1,z,rfl,by omega,rfl,?_⟩
    rw [z3h hib,<- List.append_assoc]
    exact hs.sub
   ·refine zn (zf ⟨x1,?_⟩)
    rwa [List.take_of_length_le (l:=bs) (by omega)] at hs
  rotate_left
  ·refine z09 (λk v w=>∃ (i:Nat) (x1:Sl),v=((i:Int),())/\i<=xs.length/\xs.length-i=k/\Sat w (pt t.at_ (.cells #[x1.v,.int .i64 t.f.kept] T.a9)::slc T.a57 1 x1 ((t.f.b++(bs.take i).flatten).flatMap zh)::HP.all (FS'.map z3k)::pt d (.cells #[.int .i64 A.left,.bool A.gone,.int .i64 A.room,.int .i64 (used A.fs),.map (some m)] T.a8)::z1b ekS evF m ((t::FS').map λt=>(t.f.name,t.at_))::r)) xs.length ⟨0,t.x,rfl,by omega,rfl,by simpa using hs⟩ ?_
   clear hs
   rintro k _ w ⟨i,x1,rfl,hi,hk,hs⟩
   refine zj ?_
   refine zg (λhc=>?_) λhc=>?_
   ·have hil:i<xs.length:=by omega
    have hib:i<bs.length:=by omega
    refine z1w hs i hil ?_
    have hrd:FocR r xs[i] 1 (bs[i].flatMap zh):=⟨hbs.get i hil hib⟩
    have hbi:=hsum _ (List.getElem_mem hib)
    have hsm:(bs.take i).flatten.length<=bs.flatten.length:=by
     have:=congrArg (λl:List (List UInt8)=>l.flatten.length) (List.take_append_drop i bs)
     simp only [List.flatten_append,List.length_append] at this
     omega
    have htb:t.f.b.length<=used fs1:=z86 (h1.mem_iff.2 (List.mem_cons_self ..))
    (repeat (first|with_reducible (first|refine zj ?_|refine zi ?_|refine z0j ?_|refine za hs ?_|refine ze hs ?_|refine zd ?_|refine zw hs λ_ hs=>?_|refine zm hs λ_ _ hs=>?_|refine zp hs λ_ _ hs=>?_|refine z02 hs λ_ hs=>?_|refine zl hs λ_ hs=>?_)|(apply wp_must;(focus first|trivial|omega|assumption))|refine z19 ?_|refine wp_lt ?_))
    refine wp_app' hs (xs:=t.f.b++(bs.take i).flatten) (ys:=bs[i]) (enc:=zh) (λz w' hs=>?_) (by rw [List.length_append];omega)
    (repeat (first|with_reducible (first|refine zj ?_|refine zi ?_|refine z0j ?_|refine za hs ?_|refine ze hs ?_|refine zd ?_|refine zw hs λ_ hs=>?_|refine zm hs λ_ _ hs=>?_|refine zp hs λ_ _ hs=>?_|refine z02 hs λ_ hs=>?_|refine zl hs λ_ hs=>?_)|(apply wp_must;(focus first|trivial|omega|assumption))|refine z19 ?_|refine wp_lt ?_))
    refine z27 (us':=[.int .i64 ((i+1:Nat):Int)]) (by (try simp (disch:=omega) only [w64]);first|rfl|(congr;omega)) ?_
    refine z0w (xs.length-(i+1)) ?_
    refine ⟨i+1,z,rfl,by omega,rfl,?_⟩
    rw [z3h hib,<- List.append_assoc]
    exact hs.sub
   ·refine zn (zf ⟨x1,?_⟩)
    rwa [List.take_of_length_le (l:=bs) (by omega)] at hs
  all_goals clear hs
  all_goals rintro _ w ⟨x1,hs⟩
  all_goals refine zj ?_
  all_goals have hu3:=zcd (g:=λf=>{ f with b:=f.b++bs.flatten }) h1 h2
  all_goals have hu4:used fs1=t.f.b.length+used (FS'.map FileM.f):=by rw [z3q h1,z1g]
  all_goals have hu5:used (fs1.map (z1o t.f.name λf=>{ f with b:=f.b++bs.flatten }))=used A.fs+bs.flatten.length:=by (rw [hu3];show (t.f.b++bs.flatten).length+_=_;rw [List.length_append];omega)
  all_goals have ew:IntKind.wrap .i64 (((used A.fs:Nat):Int)+((bs.flatten.length:Nat):Int))=((used (fs1.map (z1o t.f.name λf=>{ f with b:=f.b++bs.flatten })):Nat):Int):=by rw [hu5,w64 (by omega) (by omega)];omega
  all_goals refine zi ?_
  all_goals refine za hs ?_
  all_goals rw [ew]
  all_goals (repeat (first|with_reducible (first|refine zj ?_|refine zi ?_|refine z0j ?_|refine za hs ?_|refine ze hs ?_|refine zd ?_|refine zw hs λ_ hs=>?_|refine zm hs λ_ _ hs=>?_|refine zp hs λ_ _ hs=>?_|refine z02 hs λ_ hs=>?_|refine zl hs λ_ hs=>?_)|(apply wp_must;(focus first|trivial|omega|assumption))|refine z19 ?_|refine wp_lt ?_))
  all_goals have hs:=z6j (FS:=FS') ⟨t.at_,x1,{ t.f with b:=t.f.b++bs.flatten }⟩ hs
  all_goals have hp':(((⟨t.at_,x1,{ t.f with b:=t.f.b++bs.flatten }⟩:FileM)::FS').map FileM.f).Perm (fs1.map (z1o t.f.name λf=>{ f with b:=f.b++bs.flatten })):=(z6x (g:=λf=>{ f with b:=f.b++bs.flatten }) h1 h2).symm
  all_goals have hok':=zgy hok hn hfit hno
  all_goals rw [<- hfin] at hok'
  all_goals have hs:Sat _ (z1b ekS evF m (((⟨t.at_,x1,{ t.f with b:=t.f.b++bs.flatten }⟩:FileM)::FS').map λt=>(t.f.name,t.at_))::_):=hs.pick [2]
  all_goals rw [hg] at hs
  all_goals refine z8 (zc9 (l':=r) hg hok' hp' hs) λ_ _ hs=>?_
  all_goals obtain ⟨rfl,hs⟩:=hs
  all_goals refine zb ?_
  all_goals exact ⟨rfl,rfl,hs⟩
end
theorem zcc {fs:List FileA} {g:FileA->FileA} (hb:∀ f,(g f).b=f.b):used (fs.map g)=used fs:=by
 unfold used
 rw [List.map_map]
 congr 1
 exact List.map_congr_left λf _=>by show (g f).b.length=_;rw [hb]
theorem zqh {A:DiskA} (hok:okA A) {g:FileA->FileA} (hn:∀ f,(g f).name=f.name) (hb:∀ f,(g f).b=f.b) (hk:∀ f,f.kept<=f.b.length->(g f).kept<=f.b.length):okA { A with fs:=A.fs.map g }:=by
 refine ⟨hok.room,by show used (A.fs.map g)<=_;rw [zcc hb];exact hok.used,by show (A.fs.map g).length<=_;rw [List.length_map];exact hok.many,hok.left,z9a hn hok.sorted,λf hf=>?_,λf hf=>?_⟩
 ·obtain ⟨f,hf',rfl⟩:=List.mem_map.1 hf
  rw [hb];exact hk f (hok.kept f hf')
 ·obtain ⟨f,hf',rfl⟩:=List.mem_map.1 hf
  rw [hn];exact hok.names f hf'
def z8t (f:FileA):FileA:={ f with kept:=f.b.length }
def z2s (ns:List ByteArray) (f:FileA):FileA:=if ns.any (λm=>decide (m=f.name)) then z8t f else f
theorem zc0 (ns:List ByteArray) (f:FileA):(z2s ns f).name=f.name:=by unfold z2s;split <;> rfl
theorem zhs (ns:List ByteArray) (f:FileA):(z2s ns f).b=f.b:=by unfold z2s;split <;> rfl
theorem zsc (ns:List ByteArray) (f:FileA) (h:f.kept<=f.b.length):(z2s ns f).kept<=f.b.length:=by
 unfold z2s;split
 ·exact Nat.le_refl _
 ·exact h
theorem zwc:z2s []=id:=by funext f;simp [z2s]
theorem zsd (ns:List ByteArray) (n:ByteArray) (f:FileA):z1o n z8t (z2s ns f)=z2s (ns++[n]) f:=by
 unfold z1o
 rw [zc0]
 unfold z2s
 rw [List.any_append]
 by_cases h1:f.name=n
 ·rw [if_pos h1]
  have:(ns.any (λm=>decide (m=f.name)) || [n].any (λm=>decide (m=f.name)))=true:=by simp [h1]
  rw [if_pos this]
  split <;> rfl
 ·rw [if_neg h1]
  have:(ns.any (λm=>decide (m=f.name)) || [n].any (λm=>decide (m=f.name)))=ns.any (λm=>decide (m=f.name)):=by simp [Ne.symm h1]
  rw [this]
theorem zz7 (s:ByteArray):Go.Proofs.YtgpcickgjngglaaGreat.preF (ByteArray.mk #[]) s=true:=by
 unfold Go.Proofs.YtgpcickgjngglaaGreat.preF
 rw [show (ByteArray.mk #[]).toList=[] from by rw [ByteArray.toList_eq]]
 rfl
theorem zc2 (fs:List FileA):z0y (ByteArray.mk #[]) fs=fs.map (·.name):=List.filter_eq_self.2 λs _=>zz7 s
theorem zyn (fs:List FileA):fs.map (z2s (fs.map (·.name)))=fs.map (z40 []):=by
 refine List.map_congr_left λf hf=>?_
 unfold z2s z40
 rw [if_pos (show ((fs.map (·.name)).any λm=>decide (m=f.name))=true by simp;exact ⟨f,hf,rfl⟩),if_pos (show zbk [] f.name=true from rfl)]
 rfl
theorem zwd {ns:List ByteArray} (h:ns≠[]) (fs:List FileA):fs.map (z2s ns)=fs.map (z40 ns):=by
 refine List.map_congr_left λf hf=>?_
 have e:zbk ns f.name=ns.any (λm=>decide (m=f.name)):=by
  unfold zbk
  cases ns with
  | nil=>exact absurd rfl h
  | cons _ _=>rfl
 unfold z2s z40
 rw [e];rfl
theorem zy8 {fs:List FileA} {g:FileA->FileA} (hn:∀ f,(g f).name=f.name) (n:ByteArray):z1y (fs.map g) n=z1y fs n:=by
 unfold z1y
 rw [List.any_map]
 congr 1
 funext f
 show decide ((g f).name=n)=_
 rw [hn]
section
variable {w:World} {l r r0:List HP} {d:Nat} {A:DiskA}
theorem z06n (nx:Sl) (ns:List ByteArray) [hns:FocR r nx 1 (ns.flatMap z29)] (hlen:ns.length<=100000) [hf:Fo l dk d A r] (hs:Sat w l) :
  Ret P F.a34 #[.pointer (some ⟨d,0,none⟩),nx.v] w λvs w'=>vs=[.int .i64 (z1r A ns).1]/\Sat w' (dk d (z1r A ns).2::r) :=
 ztt _ nx <| by
  delta z07l AB AE AF AO AQ AR AS Aa Ab Ac Ad Ag Ah Ai Aj Ak Al Am An Ax Ay;unfold z1r
  refine zgw hs (λhg w' hs=>?_) λhg w' hs=>?_
  ·rw [if_pos hg];exact ⟨rfl,hs⟩
  rw [if_neg (by rw [hg];simp)]
  have hpl:=hs.slen nx (xs:=ns) (enc:=z29)
  have hok0:okA A:=by obtain ⟨m,FS,hp,hok,hs⟩:=z24 hs;exact hok
  refine zk (λv w'=>ns.all (z1y A.fs)=true/\Sat w' (dk d A::r)) ?_ ?_
  ·refine z09 (λk v w=>∃ i:Nat,v=((i:Int),())/\i<=ns.length/\ns.length-i=k/\(ns.take i).all (z1y A.fs)=true/\Sat w (dk d A::r)) ns.length ⟨0,rfl,by omega,rfl,rfl,hs⟩ ?_
   clear hs
   rintro k _ w ⟨i,rfl,hi,hk,hall,hs⟩
   refine zj ?_
   refine zg (λhc=>?_) λhc=>?_
   ·have hil:i<ns.length:=by omega
    refine z1w hs i hil ?_
    have htk:(ns.take (i+1)).all (z1y A.fs)=z1y A.fs ns[i]:=by
     rw [List.take_add_one,List.getElem?_eq_getElem hil,List.all_append,hall];simp
    obtain ⟨m,FS,hp,hok,hs⟩:=z24 hs
    (repeat (first|with_reducible (first|refine zj ?_|refine zi ?_|refine z0j ?_|refine za hs ?_|refine ze hs ?_|refine zd ?_|refine zw hs λ_ hs=>?_|refine zm hs λ_ _ hs=>?_|refine zp hs λ_ _ hs=>?_|refine z02 hs λ_ hs=>?_|refine zl hs λ_ hs=>?_)|(apply wp_must;(focus first|trivial|omega|assumption))|refine z19 ?_|refine wp_lt ?_))
    refine z7f hs (λb hb=>?_) λhb=>?_
    ·obtain ⟨t,ht,rfl,hnm,hA⟩:=z93 hp hb
     refine zy ?_ (by simp)
     refine z27 (us':=[.int .i64 ((i+1:Nat):Int)]) (by (try simp (disch:=omega) only [w64]);first|rfl|(congr;omega)) ?_
     refine z0w (ns.length-(i+1)) ?_
     exact ⟨i+1,rfl,by omega,rfl,by rw [htk];exact z64.2 ⟨_,hA,hnm⟩,z28 m hp hok hs⟩
    ·refine z0o ?_ (by rfl)
     refine zn (zn ?_)
     have:ns.all (z1y A.fs)=false:=by
      rw [<- List.take_append_drop (i+1) ns,List.all_append,htk,z65.2 (z7l hp hb)];rfl
     rw [if_pos this]
     exact ⟨rfl,rfl,z28 m hp hok hs⟩
   ·refine zn (zf ⟨?_,hs⟩)
    rwa [List.take_of_length_le (by omega)] at hall
  clear hs
  rintro _ w ⟨hall,hs⟩
  refine zj ?_
  rw [if_neg (by rw [hall];simp)]
  refine zk (λv w'=>∃ (nx1:Sl) (ns1:List ByteArray) (r1:List HP),v=(nx1,())/\ns1.length<=100000/\ns1.all (z1y A.fs)=true/\A.fs.map (z2s ns1)=A.fs.map (z40 ns)/\(∃ h:FocR (slc T.a54 1 nx1 (ns1.flatMap z29)::r) nx1 1 (ns1.flatMap z29),True) /\
    (Sat w' (dk d A::r1))/\(r1=r/\(∃ _h:FocR r nx1 1 (ns1.flatMap z29),True)\/r1=slc T.a54 1 nx1 (ns1.flatMap z29)::r)) ?_ ?_
  ·refine zg (λh=>?_) λh=>?_
   ·have hnil:ns=[]:=List.length_eq_zero_iff.1 (by omega)
    subst hnil
    refine z8 (zqe (ByteArray.mk #[]) hs) λ_ _ hs=>?_
    obtain ⟨x,rfl,hs⟩:=hs
    refine zb ?_
    refine zf ?_
    refine ⟨x,z0y (ByteArray.mk #[]) A.fs,_,rfl,?_,?_,?_,⟨inferInstance,trivial⟩,(hs.pick [1]),.inr rfl⟩
    ·rw [zc2,List.length_map];have:=hok0.many;omega
    ·rw [zc2,List.all_map,List.all_eq_true]
     exact λf hf=>z64.2 ⟨f,hf,rfl⟩
    ·rw [zc2];exact zyn A.fs
   ·refine zf ?_
    refine ⟨nx,ns,r,rfl,hlen,hall,zwd (λe=>by subst e;simp at hpl;omega) A.fs,⟨inferInstance,trivial⟩,hs,.inl ⟨rfl,hns,trivial⟩⟩
  clear hs
  rintro _ w ⟨nx1,ns1,r1,rfl,hlen1,hall1,hmark,-,hs,hr1⟩
  refine zj ?_
  have hR1:FocR r1 nx1 1 (ns1.flatMap z29):=by
   rcases hr1 with ⟨rfl,h,-⟩|rfl
   ·exact h
   ·infer_instance
  have hsub:∀ {H:HP} {w:World},Sat w (H::r1)->Sat w (H::r):=λ{H w} h=>by
   rcases hr1 with ⟨rfl,-⟩|rfl
   ·exact h
   ·exact h.sub
  have hpl1:=hs.slen nx1 (xs:=ns1) (enc:=z29)
  refine zk (λv w'=>Sat w' (dk d { A with fs:=A.fs.map (z2s ns1) }::r1)) ?_ ?_
  ·refine z09 (λk v w=>∃ i:Nat,v=((i:Int),())/\i<=ns1.length/\ns1.length-i=k/\Sat w (dk d { A with fs:=A.fs.map (z2s (ns1.take i)) }::r1)) ns1.length ⟨0,rfl,by omega,rfl,by rw [List.take_zero,zwc,List.map_id];exact hs⟩ ?_
   clear hs
   rintro k _ w ⟨i,rfl,hi,hk,hs⟩
   refine zj ?_
   refine zg (λhc=>?_) λhc=>?_
   ·have hil:i<ns1.length:=by omega
    refine z1w hs i hil ?_
    obtain ⟨m,FS,hp,hok,hs⟩:=z24 hs
    (repeat (first|with_reducible (first|refine zj ?_|refine zi ?_|refine z0j ?_|refine za hs ?_|refine ze hs ?_|refine zd ?_|refine zw hs λ_ hs=>?_|refine zm hs λ_ _ hs=>?_|refine zp hs λ_ _ hs=>?_|refine z02 hs λ_ hs=>?_|refine zl hs λ_ hs=>?_)|(apply wp_must;(focus first|trivial|omega|assumption))|refine z19 ?_|refine wp_lt ?_))
    refine z7f hs (λb hb=>?_) λhb=>?_
    ·obtain ⟨t,ht,rfl,hnm,hA⟩:=z93 hp hb
     obtain ⟨FS',hpm,hs⟩:=z78 hs ht
     obtain ⟨h1,h2,-⟩:=apart hp hok hpm
     (repeat (first|with_reducible (first|refine zj ?_|refine zi ?_|refine z0j ?_|refine za hs ?_|refine ze hs ?_|refine zd ?_|refine zw hs λ_ hs=>?_|refine zm hs λ_ _ hs=>?_|refine zp hs λ_ _ hs=>?_|refine z02 hs λ_ hs=>?_|refine zl hs λ_ hs=>?_)|(apply wp_must;(focus first|trivial|omega|assumption))|refine z19 ?_|refine wp_lt ?_))
     rw [hs.slen t.x (xs:=t.f.b) (enc:=zh)] at hs
     have hs:=z6j (FS:=FS') ⟨t.at_,t.x,z8t t.f⟩ hs
     have hs:Sat _ (z1b ekS evF m (((⟨t.at_,t.x,z8t t.f⟩:FileM)::FS').map λt=>(t.f.name,t.at_))::_):=(hs.pick [2]).mapPerm (hpm.map λt=>(t.f.name,t.at_))
     have hstep:(A.fs.map (z2s (ns1.take i))).map (z1o t.f.name z8t)=A.fs.map (z2s (ns1.take (i+1))):=by
      rw [List.map_map,List.take_add_one,List.getElem?_eq_getElem hil]
      refine List.map_congr_left λf _=>?_
      show z1o t.f.name z8t (z2s _ f)=_
      rw [zsd,hnm];rfl
     have hp':(((⟨t.at_,t.x,z8t t.f⟩:FileM)::FS').map FileM.f).Perm (A.fs.map (z2s (ns1.take (i+1)))):=by
      rw [<- hstep]
      exact (z6x (g:=z8t) h1 h2).symm
     refine z27 (us':=[.int .i64 ((i+1:Nat):Int)]) (by (try simp (disch:=omega) only [w64]);first|rfl|(congr;omega)) ?_
     refine z0w (ns1.length-(i+1)) ?_
     refine ⟨i+1,rfl,by omega,rfl,?_⟩
     exact z28 m (A:={ A with fs:=A.fs.map (z2s (ns1.take (i+1))) }) hp' (zqh hok0 (zc0 _) (zhs _) (zsc _)) hs (by rw [zcc (zhs _),zcc (zhs _)])
    ·exfalso
     have h3:=z65.2 (z7l hp hb)
     have h4:z1y A.fs ns1[i]=true:=List.all_eq_true.1 hall1 _ (List.getElem_mem hil)
     rw [zy8 (zc0 _),h4] at h3
     cases h3
   ·refine zn (zf ?_)
    rwa [List.take_of_length_le (by omega)] at hs
  clear hs
  rintro _ w hs
  refine zj ?_
  rw [hmark] at hs
  obtain ⟨m,FS,hp,hok,hs⟩:=z24 (hsub hs)
  have hs:Sat w (pt d (.cells #[.int .i64 A.left,.bool A.gone,.int .i64 A.room,.int .i64 (used (A.fs.map (z40 ns))),.map (some m)] T.a8)::_):=hs
  (repeat (first|with_reducible (first|refine zj ?_|refine zi ?_|refine z0j ?_|refine za hs ?_|refine ze hs ?_|refine zd ?_|refine zw hs λ_ hs=>?_|refine zm hs λ_ _ hs=>?_|refine zp hs λ_ _ hs=>?_|refine z02 hs λ_ hs=>?_|refine zl hs λ_ hs=>?_)|(apply wp_must;(focus first|trivial|omega|assumption))|refine z19 ?_|refine wp_lt ?_))
  rw [hg] at hs
  refine z8 (zc9 (l':=r) (A:=A) hg hok hp hs) λ_ _ hs=>?_
  obtain ⟨rfl,hs⟩:=hs
  refine zb ?_
  exact ⟨rfl,rfl,hs⟩
end
theorem zg7 {a b:List FileA} (h:a.Sublist b):used a<=used b:=by
 induction h with
 | slnil=>exact Nat.le_refl _
 | cons x _ ih=>rw [z1g];omega
 | cons_cons x _ ih=>rw [z1g,z1g];omega
theorem z041 {A:DiskA} (hok:okA A) {fs:List FileA} (h:fs.Sublist A.fs):okA { A with fs:=fs } :=
 ⟨hok.room,Nat.le_trans (zg7 h) hok.used,Nat.le_trans h.length_le hok.many,hok.left,hok.sorted.sublist h,λf hf=>hok.kept f (h.mem hf),λf hf=>hok.names f (h.mem hf)⟩
def z03 (fs:List FileA) (n:ByteArray):Option (List UInt8 × Nat):=(fs.find? λf=>decide (f.name=n)).map λf=>(f.b,f.kept)
theorem zip (n:ByteArray):z03 [] n=none:=rfl
theorem z2f (f:FileA) (fs:List FileA) (n:ByteArray):z03 (f::fs) n=if f.name=n then some (f.b,f.kept) else z03 fs n:=by
 unfold z03
 rw [List.find?_cons]
 by_cases h:f.name=n
 ·simp [h]
 ·simp [h]
theorem zbq {fs:List FileA} {n:ByteArray}:z03 fs n=none↔∀ f ∈ fs,f.name≠n:=by
 unfold z03
 rw [Option.map_eq_none_iff,List.find?_eq_none]
 simp
theorem zcy {fs:List FileA} {f:FileA} (hn:(fs.map (·.name)).Nodup) (h:f ∈ fs):z03 fs f.name=some (f.b,f.kept):=by
 unfold z03
 rw [za8 hn h rfl]
 rfl
theorem zry {fs:List FileA} {n:ByteArray} {p:List UInt8 × Nat} (h:z03 fs n=some p):(⟨n,p.1,p.2⟩:FileA) ∈ fs:=by
 unfold z03 at h
 rw [Option.map_eq_some_iff] at h
 obtain ⟨f,hf,rfl⟩:=h
 have h1:=List.mem_of_find?_eq_some hf
 have h2:=List.find?_some hf
 have h2:f.name=n:=by simpa using h2
 subst h2
 exact h1
theorem z4f {fs:List FileA} {n:ByteArray}:z1y fs n=(z03 fs n).isSome:=by
 unfold z1y z03
 rw [Option.isSome_map,Bool.eq_iff_iff,List.any_eq_true,List.find?_isSome]
theorem zs9 {fs:List FileA} {n:ByteArray} {p:List UInt8 × Nat} (h:z03 fs n=some p):zlf fs n=p.1.length:=by
 unfold z03 at h
 unfold zlf
 cases hf:fs.find? λf=>decide (f.name=n) with
 | none=>rw [hf] at h;cases h
 | some f=>rw [hf] at h;simp only [Option.map_some,Option.some.injEq] at h;subst h;rfl
theorem zcz (n:ByteArray) (g:FileA->FileA) (hg:∀ f,(g f).name=f.name) (m:ByteArray):∀ fs:List FileA,
  z03 (fs.map (z1o n g)) m=if m=n then (z03 fs n).map λp=>((g ⟨n,p.1,p.2⟩).b,(g ⟨n,p.1,p.2⟩).kept) else z03 fs m
 | []=>by simp [zip]
 | f::fs=>by
  rw [List.map_cons,z2f,zcz n g hg m fs,z2f,z2f,z6e hg]
  by_cases h1:m=n
  ·subst h1
   rw [if_pos rfl,if_pos rfl]
   by_cases h2:f.name=m
   ·rw [if_pos h2,if_pos h2]
    subst h2
    unfold z1o
    rw [if_pos rfl]
    rfl
   ·rw [if_neg h2,if_neg h2]
  ·rw [if_neg h1,if_neg h1]
   by_cases h2:f.name=m
   ·rw [if_pos h2,if_pos h2]
    unfold z1o
    rw [if_neg (by rw [h2];exact h1)]
   ·rw [if_neg h2,if_neg h2]
theorem zio (x:FileA) (m:ByteArray):∀ {fs:List FileA},(∀ f ∈ fs,f.name≠x.name)->z03 (z44 x fs) m=if m=x.name then some (x.b,x.kept) else z03 fs m
 | [],_=>by
  show z03 [x] m=_
  rw [z2f]
  by_cases h:m=x.name
  ·rw [if_pos h.symm,if_pos h]
  ·rw [if_neg h,if_neg λe=>h e.symm]
 | f::fs,h=>by
  have hf:=h f (List.mem_cons_self ..)
  have ih:=zio x m (fs:=fs) λg hg=>h g (List.mem_cons_of_mem _ hg)
  unfold z44
  split
  ·rw [z2f]
   by_cases h:m=x.name
   ·rw [if_pos h.symm,if_pos h]
   ·rw [if_neg h,if_neg λe=>h e.symm]
  ·rw [z2f,ih,z2f]
   by_cases h:m=x.name
   ·subst h;simp [hf]
   ·rw [if_neg h,if_neg h]
theorem zgl (n m:ByteArray):∀ fs:List FileA,z03 (z3y n fs) m=if m=n then none else z03 fs m
 | []=>by simp [z3y,zip]
 | f::fs=>by
  have ih:=zgl n m fs
  unfold z3y at ih ⊢
  rw [List.filter_cons]
  by_cases h:f.name=n
  ·rw [if_neg (by simp [h]),ih,z2f]
   by_cases h2:m=n
   ·rw [if_pos h2,if_pos h2]
   ·rw [if_neg h2,if_neg h2,if_neg (by rw [h];exact λe=>h2 e.symm)]
  ·rw [if_pos (by simp [h]),z2f,ih,z2f]
   by_cases h2:m=n
   ·subst h2;simp [h]
   ·rw [if_neg h2,if_neg h2]
theorem zgm (ns:List ByteArray) (m:ByteArray):∀ fs:List FileA,z03 (fs.map (z40 ns)) m=(z03 fs m).map λp=>if zbk ns m then (p.1,p.1.length) else p
 | []=>rfl
 | f::fs=>by
  have hn:(z40 ns f).name=f.name:=by unfold z40;split <;> rfl
  rw [List.map_cons,z2f,zgm ns m fs,z2f,hn]
  by_cases h:f.name=m
  ·subst h
   rw [if_pos rfl,if_pos rfl]
   unfold z40
   split
   ·rename_i h;simp [h]
   ·rename_i h;simp [h]
  ·rw [if_neg h,if_neg h]
theorem z91 {A:DiskA} {n:ByteArray} {bs:List UInt8} (h:(z07 A n bs).1≠0):(z07 A n bs).2=A:=by
 unfold z07 at h ⊢
 split
 ·rfl
 ·split
  ·rfl
  ·split
   ·rfl
   ·rename_i h1 h2 h3
    rw [if_neg h1,if_neg h2,if_neg h3] at h
    exact absurd rfl h
theorem za6 {A:DiskA} {n:ByteArray} {bs:List UInt8} (hok:okA A) (h:(z07 A n bs).1=0):A.gone=false/\z5f n=true/\bs.length<=A.free/\okA (z07 A n bs).2 /\
  (z07 A n bs).2.room=A.room/\used (z07 A n bs).2.fs=used A.fs+bs.length /\
  ∀ m,z03 (z07 A n bs).2.fs m=if m=n then some (((z03 A.fs n).map Prod.fst).getD []++bs,((z03 A.fs n).map Prod.snd).getD 0) else z03 A.fs m:=by
 unfold z07 at h ⊢
 split at h
 ·cases h
 rename_i h1
 split at h
 ·cases h
 rename_i h2
 split at h
 ·cases h
 rename_i h3
 rw [if_neg h1,if_neg h2,if_neg h3]
 have hn:z5f n=true:=by simpa using h2
 have h4:=zgy hok hn (bs:=bs) (by omega) (λhh=>h3 (.inr hh))
 refine ⟨by simpa using h1,hn,by omega,z9r h4,by rw [z92],?_,λm=>?_⟩
 ·rw [z3e]
  show used (if z1y A.fs n=true then _ else _)=_
  have hnd:=z2q hok.sorted
  split
  ·rename_i hh
   obtain ⟨f,hf,rfl⟩:=z64.1 hh
   obtain ⟨s,u,hsu⟩:=List.append_of_mem hf
   have hp:A.fs.Perm (f::(s++u)):=by rw [hsu];exact List.perm_middle
   have hne:∀ g ∈ s++u,g.name≠f.name:=λg hg e=>by
    have h5:=(hp.map (·.name)).nodup_iff.1 hnd
    rw [List.map_cons,List.nodup_cons] at h5
    exact h5.1 (List.mem_map.2 ⟨g,hg,e⟩)
   rw [zcd hp hne,z3q hp,z1g,List.length_append]
   omega
  ·rw [z3q (z68 _ _),z1g]
   show bs.length+_=_
   omega
 ·rw [z3e]
  show z03 (if z1y A.fs n=true then _ else _) m=_
  split
  ·rename_i hh
   rw [zcz n (λf=>{ f with b:=f.b++bs }) (λf=>rfl)]
   by_cases hm:m=n
   ·rw [if_pos hm,if_pos hm]
    rw [z4f] at hh
    obtain ⟨p,hp⟩:=Option.isSome_iff_exists.1 hh
    rw [hp]
    rfl
   ·rw [if_neg hm,if_neg hm]
  ·rename_i hh
   have hh:z1y A.fs n=false:=by simpa using hh
   rw [zio _ _ (z65.1 hh)]
   by_cases hm:m=n
   ·rw [if_pos hm,if_pos hm,zbq.2 (z65.1 hh)]
    rfl
   ·rw [if_neg hm,if_neg hm]
theorem zg4 {A:DiskA} {n:ByteArray}:((z1r A [n]).1=0/\A.gone=false/\(z03 A.fs n).isSome=true/\(z1r A [n]).2=z2e { A with fs:=A.fs.map (z40 [n]) })\/((z1r A [n]).1=9/\A.gone=true/\(z1r A [n]).2=A)\/((z1r A [n]).1=3/\A.gone=false/\z03 A.fs n=none/\(z1r A [n]).2=A):=by
 unfold z1r
 split
 ·exact .inr (.inl ⟨rfl,by assumption,rfl⟩)
 ·rename_i h
  have hg:A.gone=false:=by simpa using h
  split
  ·rename_i h2
   refine .inr (.inr ⟨rfl,hg,?_,rfl⟩)
   simp only [List.all_cons,List.all_nil,Bool.and_true] at h2
   rw [z4f] at h2
   cases hq:z03 A.fs n with
   | none=>rfl
   | some q=>rw [hq] at h2;cases h2
  ·rename_i h2
   refine .inl ⟨rfl,hg,?_,rfl⟩
   simp only [List.all_cons,List.all_nil,Bool.and_true] at h2
   rw [z4f] at h2
   cases hq:z03 A.fs n with
   | none=>rw [hq] at h2;exact absurd rfl h2
   | some q=>rfl
theorem zyu {A:DiskA} (hok:okA A) (ns:List ByteArray):okA { A with fs:=A.fs.map (z40 ns) } :=
 zqh hok (λf=>by unfold z40;split <;> rfl) (λf=>by unfold z40;split <;> rfl) (λf h=>by unfold z40;split;exact Nat.le_refl _;exact h)
theorem zve (n m:ByteArray):zbk [n] m=decide (n=m):=by
 unfold zbk
 simp
theorem zr4 {A:DiskA} {n:ByteArray} (hok:okA A) (h:(z1r A [n]).1=0):A.gone=false/\okA (z1r A [n]).2/\(z1r A [n]).2.room=A.room/\used (z1r A [n]).2.fs=used A.fs/\(z1r A [n]).2.fs.length=A.fs.length /\
  ∀ m,z03 (z1r A [n]).2.fs m=(z03 A.fs m).map λp=>if n=m then (p.1,p.1.length) else p:=by
 rcases zg4 (A:=A) (n:=n) with ⟨h1,h2,h3,h4⟩|⟨h1,-,-⟩|⟨h1,-,-,-⟩
 ·rw [h4]
  refine ⟨h2,z9r (zyu hok _),by rw [z92],?_,?_,λm=>?_⟩
  ·rw [z3e]
   exact zcc λf=>by unfold z40;split <;> rfl
  ·rw [z3e]
   exact List.length_map ..
  ·rw [z3e]
   show z03 (A.fs.map (z40 [n])) m=_
   rw [zgm]
   congr 1
   funext p
   rw [zve]
   by_cases hm:n=m <;> simp [hm]
 ·rw [h1] at h;cases h
 ·rw [h1] at h;cases h
theorem z06e {A:DiskA} {n:ByteArray} (hok:okA A) (h:(z14 A n).1=0):A.gone=false/\okA (z14 A n).2/\(z14 A n).2.room=A.room/\used (z14 A n).2.fs<=used A.fs/\(z14 A n).2.fs.length<=A.fs.length/\(z03 A.fs n).isSome=true /\
  ∀ m,z03 (z14 A n).2.fs m=if m=n then none else z03 A.fs m:=by
 unfold z14 at h ⊢
 split at h
 ·cases h
 rename_i h1
 split at h
 ·cases h
 rename_i h2
 rw [if_neg h1,if_neg h2]
 refine ⟨by simpa using h1,z9r (z041 hok (List.filter_sublist ..)),by rw [z92],?_,?_,?_,λm=>?_⟩
 ·rw [z3e];exact zg7 (List.filter_sublist ..)
 ·rw [z3e];exact zvu _ _
 ·rw [<- z4f];simpa using h2
 ·rw [z3e];exact zgl n m A.fs
theorem zwu {A:DiskA} {n:ByteArray} (hf:(z03 A.fs n).isSome=true):((z14 A n).1=0/\A.gone=false)\/((z14 A n).1=9/\A.gone=true/\(z14 A n).2=A):=by
 unfold z14
 split
 ·exact .inr ⟨rfl,by assumption,rfl⟩
 ·rename_i h
  rw [if_neg (by rw [z4f,hf];simp)]
  exact .inl ⟨rfl,by simpa using h⟩
theorem z05g {A:DiskA} {n:ByteArray} {k:Int} (hok:okA A) (h:(cutA' A n k).1=0):A.gone=false/\okA (cutA' A n k).2/\(cutA' A n k).2.room=A.room/\(cutA' A n k).2.fs.length=A.fs.length /\
  ∀ m,z03 (cutA' A n k).2.fs m=if m=n then (z03 A.fs n).map (λp=>(p.1.take k.toNat,min p.2 k.toNat)) else z03 A.fs m:=by
 unfold cutA' at h ⊢
 split at h
 ·cases h
 rename_i h1
 split at h
 ·cases h
 rename_i h2
 split at h
 ·cases h
 rename_i h3
 rw [if_neg h1,if_neg h2,if_neg h3]
 have hnd:=z2q hok.sorted
 have hup:okA { A with fs:=A.fs.map (z1o n λf=>{ f with b:=f.b.take k.toNat,kept:=min f.kept k.toNat }) }:=by
  refine ⟨hok.room,?_,?_,hok.left,z9a (λf=>z6e (g:=λf=>{ f with b:=f.b.take k.toNat,kept:=min f.kept k.toNat }) (λ_=>rfl) f) hok.sorted,λf hf=>?_,λf hf=>?_⟩
  ·refine Nat.le_trans ?_ hok.used
   show used (A.fs.map _)<=used A.fs
   generalize A.fs=fs
   induction fs with
   | nil=>exact Nat.le_refl _
   | cons f fs ih =>
    rw [List.map_cons,z1g,z1g]
    have:(z1o n (λf=>{ f with b:=f.b.take k.toNat,kept:=min f.kept k.toNat }) f).b.length<=f.b.length:=by
     unfold z1o
     split
     ·show (f.b.take _).length<=_;rw [List.length_take];omega
     ·exact Nat.le_refl _
    omega
  ·show (A.fs.map _).length<=_;rw [List.length_map];exact hok.many
  ·obtain ⟨g,hg,rfl⟩:=List.mem_map.1 hf
   have:=hok.kept g hg
   unfold z1o
   split
   ·show min g.kept _<=(g.b.take _).length;rw [List.length_take];omega
   ·exact this
  ·obtain ⟨g,hg,rfl⟩:=List.mem_map.1 hf
   rw [z6e (g:=λf=>{ f with b:=f.b.take k.toNat,kept:=min f.kept k.toNat }) (λ_=>rfl)]
   exact hok.names g hg
 refine ⟨by simpa using h1,z9r hup,by rw [z92],by rw [z3e];exact List.length_map ..,λm=>?_⟩
 rw [z3e]
 show z03 (A.fs.map _) m=_
 rw [zcz n (λf=>{ f with b:=f.b.take k.toNat,kept:=min f.kept k.toNat }) (λf=>rfl)]
theorem zvq {A:DiskA} {n:ByteArray} {k:Int} {p:List UInt8 × Nat} (hf:z03 A.fs n=some p) (hk:0<=k/\k<=p.1.length):((cutA' A n k).1=0/\A.gone=false)\/((cutA' A n k).1=9/\A.gone=true/\(cutA' A n k).2=A):=by
 unfold cutA'
 split
 ·exact .inr ⟨rfl,by assumption,rfl⟩
 ·rename_i h
  rw [if_neg (by rw [z4f,hf];simp),if_neg (by rw [zs9 hf];omega)]
  exact .inl ⟨rfl,by simpa using h⟩
end Go.Dec
