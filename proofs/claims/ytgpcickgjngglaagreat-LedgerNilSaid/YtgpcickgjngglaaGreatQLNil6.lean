/- What the claim of this folder leans on: our own texts, joined, without what it does not use. -/
import Derived.Test.YtgpcickgjngglaaGreatRows
import Derived.WalkKit
import Derived.ProofKit
import Derived.OpenShut
import Derived.RowKit3
import Derived.OrdersHeld
import Derived.Scope
import Derived.KernelRfl
import Derived.Laws.Sem
import Derived.Laws.StructEq
import Derived.Deep.AppendSrc
import Derived.Laws.BytesArg
import Derived.Laws.RangeString
import Derived.Maps.RangeRun
import Derived.Lib.ConvBytes
import Derived.Lib.SlBytesConst
import Derived.ChangeSlices
import Derived.ChangeMaps5
import Derived.ChangeSame
import Derived.Deep.Slices
import Derived.Deep.Fields
import Derived.Test.YtgpcickgjngglaaGreatProg
import Derived.WideKeyRuns
import Derived.DeepKeys3
import Derived.Laws.MakeOwn
import Derived.Sort.MapsRangeIn
import Derived.Sort.KeysCollected
import Derived.RangeFuncNested
import Derived.RangeFuncBound
import Derived.RangeFuncCalls
import Derived.RangeFuncLeaves
import Derived.RangeFuncBox
import Derived.OwnWalkIn
import Derived.TacticsInMore
import Derived.RegionIn
import Derived.LoopNIn
import Derived.LoopIn
import Derived.Maps.AppendAt
import Derived.Shelf.Abstract
import Derived.Shelf.Sort.Plain
import Derived.Shelf.Slices.In.SortNone
import Derived.Test.YtgpcickgjngglaaGreatQLNil1
import Derived.Test.YtgpcickgjngglaaGreatQLNil2
import Derived.Test.YtgpcickgjngglaaGreatQLNil3
import Derived.Test.YtgpcickgjngglaaGreatQLNil4
import Derived.Test.YtgpcickgjngglaaGreatQLNil5
set_option linter.unusedVariables false
set_option linter.unusedSimpArgs false
namespace Go.Dec
structure SortI where
 T:TypeId
 s:Sh1
 sz:Nat
 less:HL s.prims->HL s.prims->(Bool->Prog)->Prog
 ex:List Value
 xs:TypeId
 ti:TypeId
 fNext:FuncId
 fPow:FuncId
 f_sift:FuncId
 f_heap:FuncId
 f_ins:FuncId
 f_brk:FuncId
 f_rev:FuncId
 f_pins:FuncId
 f_peq:FuncId
 f_part:FuncId
 f_ord2:FuncId
 f_med:FuncId
 f_medj:FuncId
 f_piv:FuncId
 f_pdq:FuncId
def SortI.sift (I:SortI) (data:Sl) (lo hi:Int) (first:Int):Prog :=
.lt (.int .i64) (lo) λ(n0:Int) =>
.bind 1 [] (
.loop 2 [.one (.int .i64)] (n0,()) (u1 λ(n1:Int) =>
.lt (.int .i64) (IntKind.wrap .i64 (IntKind.wrap .i64 (2*n1)+1)) λ(n2:Int) =>
.ite (decide (n2>=hi)) (
.done 1 []) (
.bind 3 [.one .bool] (
.tick <|
.ex [.adr] (c1 λa3=>decide (IntKind.wrap .i64 (n2+1)<hi)=true->0<=IntKind.wrap .i64 (first+n2)/\IntKind.wrap .i64 (first+n2)<((data.len:Nat):Int)/\data.a=some a3) (u1 λa4 =>
.read ((decide (IntKind.wrap .i64 (n2+1)<hi)=true)) (ld I.T (Addr.add a4 (Int.toNat (IntKind.wrap .i64 (first+n2))*I.sz))) (.one I.s) (λn5 =>
.ex [.adr] (c1 λa6=>decide (IntKind.wrap .i64 (n2+1)<hi)=true->0<=IntKind.wrap .i64 (IntKind.wrap .i64 (first+n2)+1)/\IntKind.wrap .i64 (IntKind.wrap .i64 (first+n2)+1)<((data.len:Nat):Int)/\data.a=some a6) (u1 λa7 =>
.read ((decide (IntKind.wrap .i64 (n2+1)<hi)=true)) (ld I.T (Addr.add a7 (Int.toNat (IntKind.wrap .i64 (IntKind.wrap .i64 (first+n2)+1))*I.sz))) (.one I.s) (λn8 =>
.ite (decide (IntKind.wrap .i64 (n2+1)<hi)) (
I.less n5 n8 (λb9 =>
.untick <|
.done 3 [.bool b9])) (
.untick <|
.done 3 [.bool false])))))) (u1 λb10 =>
.bind 3 [.one (.int .i64)] (
.ite (b10) (
.lt (.int .i64) (IntKind.wrap .i64 (n2+1)) λ(n11:Int) =>
.done 3 [.int .i64 n11]) (
.done 3 [.int .i64 n2])) (u1 λ(n12:Int) =>
.tick <|
.ex [.adr] (c1 λa13=>0<=IntKind.wrap .i64 (first+n1)/\IntKind.wrap .i64 (first+n1)<((data.len:Nat):Int)/\data.a=some a13) (u1 λa14 =>
.read (True) (ld I.T (Addr.add a14 (Int.toNat (IntKind.wrap .i64 (first+n1))*I.sz))) (.one I.s) (λn15 =>
.ex [.adr] (c1 λa16=>0<=IntKind.wrap .i64 (first+n12)/\IntKind.wrap .i64 (first+n12)<((data.len:Nat):Int)/\data.a=some a16) (u1 λa17 =>
.read (True) (ld I.T (Addr.add a17 (Int.toNat (IntKind.wrap .i64 (first+n12))*I.sz))) (.one I.s) (λn18 =>
I.less n15 n18 (λb19 =>
.untick <|
.ite (not b19) (
.done 0 []) (
.bind 3 [] (
.tick <|
.ex [.adr] (c1 λa20=>0<=IntKind.wrap .i64 (first+n12)/\IntKind.wrap .i64 (first+n12)<((data.len:Nat):Int)/\data.a=some a20) (u1 λa21 =>
.read (True) (ld I.T (Addr.add a21 (Int.toNat (IntKind.wrap .i64 (first+n12))*I.sz))) (.one I.s) (λn22 =>
.ex [.adr] (c1 λa23=>0<=IntKind.wrap .i64 (first+n1)/\IntKind.wrap .i64 (first+n1)<((data.len:Nat):Int)/\data.a=some a23) (u1 λa24 =>
.read (True) (ld I.T (Addr.add a24 (Int.toNat (IntKind.wrap .i64 (first+n1))*I.sz))) (.one I.s) (λn25 =>
.ex [.adr] (c1 λa26=>0<=IntKind.wrap .i64 (first+n1)/\IntKind.wrap .i64 (first+n1)<((data.len:Nat):Int)/\data.a=some a26) (u1 λa27 =>
.actU (st I.T (Addr.add a27 (Int.toNat (IntKind.wrap .i64 (first+n1))*I.sz)) ((Sh.one I.s).mk n22)) <|
.ex [.adr] (c1 λa28=>0<=IntKind.wrap .i64 (first+n12)/\IntKind.wrap .i64 (first+n12)<((data.len:Nat):Int)/\data.a=some a28) (u1 λa29 =>
.actU (st I.T (Addr.add a29 (Int.toNat (IntKind.wrap .i64 (first+n12))*I.sz)) ((Sh.one I.s).mk n25)) <|
.untick <|
.done 3 []))))))) (u0 <|
.lt (.int .i64) (n12) λ(n30:Int) =>
.done 2 [.int .i64 n30])))))))))))) (u0 <|
.done 0 [])
def SortI.heap (I:SortI) (data:Sl) (a:Int) (b:Int):Prog :=
.lt (.int .i64) (a) λ(n0:Int) =>
.lt (.int .i64) (IntKind.wrap .i64 (b-a)) λ(n1:Int) =>
.lt (.int .i64) (IntKind.wrap .i64 (Int.tdiv (IntKind.wrap .i64 (n1-1)) 2)) λ(n2:Int) =>
.bind 1 [] (
.loop 2 [.one (.int .i64)] (n2,()) (u1 λ(n3:Int) =>
.ite (decide (n3>=0)) (
.call I.f_sift ([data.v,.int .i64 n3,.int .i64 n1,.int .i64 n0]++I.ex) (.tup []) (u0 <|
.lt (.int .i64) (IntKind.wrap .i64 (n3-1)) λ(n4:Int) =>
.done 2 [.int .i64 n4])) (
.done 1 []))) (u0 <|
.lt (.int .i64) (IntKind.wrap .i64 (n1-1)) λ(n5:Int) =>
.bind 1 [] (
.loop 2 [.one (.int .i64)] (n5,()) (u1 λ(n6:Int) =>
.ite (decide (n6>=0)) (
.bind 3 [] (
.tick <|
.ex [.adr] (c1 λa7=>0<=IntKind.wrap .i64 (n0+n6)/\IntKind.wrap .i64 (n0+n6)<((data.len:Nat):Int)/\data.a=some a7) (u1 λa8 =>
.read (True) (ld I.T (Addr.add a8 (Int.toNat (IntKind.wrap .i64 (n0+n6))*I.sz))) (.one I.s) (λn9 =>
.ex [.adr] (c1 λa10=>0<=n0/\n0<((data.len:Nat):Int)/\data.a=some a10) (u1 λa11 =>
.read (True) (ld I.T (Addr.add a11 (Int.toNat n0*I.sz))) (.one I.s) (λn12 =>
.ex [.adr] (c1 λa13=>0<=n0/\n0<((data.len:Nat):Int)/\data.a=some a13) (u1 λa14 =>
.actU (st I.T (Addr.add a14 (Int.toNat n0*I.sz)) ((Sh.one I.s).mk n9)) <|
.ex [.adr] (c1 λa15=>0<=IntKind.wrap .i64 (n0+n6)/\IntKind.wrap .i64 (n0+n6)<((data.len:Nat):Int)/\data.a=some a15) (u1 λa16 =>
.actU (st I.T (Addr.add a16 (Int.toNat (IntKind.wrap .i64 (n0+n6))*I.sz)) ((Sh.one I.s).mk n12)) <|
.untick <|
.done 3 []))))))) (u0 <|
.call I.f_sift ([data.v,.int .i64 0,.int .i64 n6,.int .i64 n0]++I.ex) (.tup []) (u0 <|
.lt (.int .i64) (IntKind.wrap .i64 (n6-1)) λ(n17:Int) =>
.done 2 [.int .i64 n17]))) (
.done 1 []))) (u0 <|
.done 0 []))
def SortI.ins (I:SortI) (data:Sl) (a:Int) (b:Int):Prog :=
.lt (.int .i64) (IntKind.wrap .i64 (a+1)) λ(n0:Int) =>
.bind 1 [] (
.loop 2 [.one (.int .i64)] (n0,()) (u1 λ(n1:Int) =>
.ite (decide (n1<b)) (
.bind 3 [] (
.lt (.int .i64) (n1) λ(n2:Int) =>
.bind 4 [] (
.loop 5 [.one (.int .i64)] (n2,()) (u1 λ(n3:Int) =>
.bind 6 [.one .bool] (
.tick <|
.ex [.adr] (c1 λa4=>decide (n3>a)=true->0<=n3/\n3<((data.len:Nat):Int)/\data.a=some a4) (u1 λa5 =>
.read ((decide (n3>a)=true)) (ld I.T (Addr.add a5 (Int.toNat n3*I.sz))) (.one I.s) (λn6 =>
.ex [.adr] (c1 λa7=>decide (n3>a)=true->0<=IntKind.wrap .i64 (n3-1)/\IntKind.wrap .i64 (n3-1)<((data.len:Nat):Int)/\data.a=some a7) (u1 λa8 =>
.read ((decide (n3>a)=true)) (ld I.T (Addr.add a8 (Int.toNat (IntKind.wrap .i64 (n3-1))*I.sz))) (.one I.s) (λn9 =>
.ite (decide (n3>a)) (
I.less n6 n9 (λb10 =>
.untick <|
.done 6 [.bool b10])) (
.untick <|
.done 6 [.bool false])))))) (u1 λb11 =>
.ite (b11) (
.bind 6 [] (
.tick <|
.ex [.adr] (c1 λa12=>0<=IntKind.wrap .i64 (n3-1)/\IntKind.wrap .i64 (n3-1)<((data.len:Nat):Int)/\data.a=some a12) (u1 λa13 =>
.read (True) (ld I.T (Addr.add a13 (Int.toNat (IntKind.wrap .i64 (n3-1))*I.sz))) (.one I.s) (λn14 =>
.ex [.adr] (c1 λa15=>0<=n3/\n3<((data.len:Nat):Int)/\data.a=some a15) (u1 λa16 =>
.read (True) (ld I.T (Addr.add a16 (Int.toNat n3*I.sz))) (.one I.s) (λn17 =>
.ex [.adr] (c1 λa18=>0<=n3/\n3<((data.len:Nat):Int)/\data.a=some a18) (u1 λa19 =>
.actU (st I.T (Addr.add a19 (Int.toNat n3*I.sz)) ((Sh.one I.s).mk n14)) <|
.ex [.adr] (c1 λa20=>0<=IntKind.wrap .i64 (n3-1)/\IntKind.wrap .i64 (n3-1)<((data.len:Nat):Int)/\data.a=some a20) (u1 λa21 =>
.actU (st I.T (Addr.add a21 (Int.toNat (IntKind.wrap .i64 (n3-1))*I.sz)) ((Sh.one I.s).mk n17)) <|
.untick <|
.done 6 []))))))) (u0 <|
.lt (.int .i64) (IntKind.wrap .i64 (n3-1)) λ(n22:Int) =>
.done 5 [.int .i64 n22])) (
.done 4 [])))) (u0 <|
.done 3 [])) (u0 <|
.lt (.int .i64) (IntKind.wrap .i64 (n1+1)) λ(n23:Int) =>
.done 2 [.int .i64 n23])) (
.done 1 []))) (u0 <|
.done 0 [])
def SortI.brk (I:SortI) (data:Sl) (a:Int) (b:Int):Prog :=
.lt (.int .i64) (IntKind.wrap .i64 (b-a)) λ(n0:Int) =>
.bind 1 [] (
.ite (decide (n0>=8)) (
.act (new I.xs) sA (u1 λa1 =>
.actU (st I.xs a1 (.int .u64 (IntKind.wrap .u64 n0))) <|
.call I.fPow [.int .i64 n0] (sI .u64) (u1 λ(n2:Int) =>
.lt (.int .u64) (n2) λ(n3:Int) =>
.lt (.int .i64) (IntKind.wrap .i64 (IntKind.wrap .i64 (a+IntKind.wrap .i64 (IntKind.wrap .i64 (Int.tdiv n0 4)*2))-1)) λ(n4:Int) =>
.bind 2 [] (
.loop 3 [.one (.int .i64)] (n4,()) (u1 λ(n5:Int) =>
.ite (decide (n5<=IntKind.wrap .i64 (IntKind.wrap .i64 (a+IntKind.wrap .i64 (IntKind.wrap .i64 (Int.tdiv n0 4)*2))+1))) (
.call I.fNext [.pointer (some a1)] (sI .u64) (u1 λ(n6:Int) =>
.lt (.int .i64) (IntKind.wrap .i64 (IntKind.wrap .u64 (((BitVec.toNat (BitVec.ofInt 64 n6 &&& BitVec.ofInt 64 (IntKind.wrap .u64 (n3-1))):Nat):Int)))) λ(n7:Int) =>
.bind 4 [.one (.int .i64)] (
.ite (decide (n7>=n0)) (
.lt (.int .i64) (IntKind.wrap .i64 (n7-n0)) λ(n8:Int) =>
.done 4 [.int .i64 n8]) (
.done 4 [.int .i64 n7])) (u1 λ(n9:Int) =>
.bind 4 [] (
.tick <|
.ex [.adr] (c1 λa10=>0<=IntKind.wrap .i64 (a+n9)/\IntKind.wrap .i64 (a+n9)<((data.len:Nat):Int)/\data.a=some a10) (u1 λa11 =>
.read (True) (ld I.T (Addr.add a11 (Int.toNat (IntKind.wrap .i64 (a+n9))*I.sz))) (.one I.s) (λn12 =>
.ex [.adr] (c1 λa13=>0<=n5/\n5<((data.len:Nat):Int)/\data.a=some a13) (u1 λa14 =>
.read (True) (ld I.T (Addr.add a14 (Int.toNat n5*I.sz))) (.one I.s) (λn15 =>
.ex [.adr] (c1 λa16=>0<=n5/\n5<((data.len:Nat):Int)/\data.a=some a16) (u1 λa17 =>
.actU (st I.T (Addr.add a17 (Int.toNat n5*I.sz)) ((Sh.one I.s).mk n12)) <|
.ex [.adr] (c1 λa18=>0<=IntKind.wrap .i64 (a+n9)/\IntKind.wrap .i64 (a+n9)<((data.len:Nat):Int)/\data.a=some a18) (u1 λa19 =>
.actU (st I.T (Addr.add a19 (Int.toNat (IntKind.wrap .i64 (a+n9))*I.sz)) ((Sh.one I.s).mk n15)) <|
.untick <|
.done 4 []))))))) (u0 <|
.lt (.int .i64) (IntKind.wrap .i64 (n5+1)) λ(n20:Int) =>
.done 3 [.int .i64 n20])))) (
.done 2 []))) (u0 <|
.done 1 [])))) (
.done 1 [])) (u0 <|
.done 0 [])
def SortI.rev (I:SortI) (data:Sl) (a:Int) (b:Int):Prog :=
.lt (.int .i64) (a) λ(n0:Int) =>
.lt (.int .i64) (IntKind.wrap .i64 (b-1)) λ(n1:Int) =>
.bind 1 [] (
.loop 2 [.one (.int .i64),.one (.int .i64)] (n0,(n1,())) (u2 λ(n2 n3:Int) =>
.ite (decide (n2<n3)) (
.bind 3 [] (
.tick <|
.ex [.adr] (c1 λa4=>0<=n3/\n3<((data.len:Nat):Int)/\data.a=some a4) (u1 λa5 =>
.read (True) (ld I.T (Addr.add a5 (Int.toNat n3*I.sz))) (.one I.s) (λn6 =>
.ex [.adr] (c1 λa7=>0<=n2/\n2<((data.len:Nat):Int)/\data.a=some a7) (u1 λa8 =>
.read (True) (ld I.T (Addr.add a8 (Int.toNat n2*I.sz))) (.one I.s) (λn9 =>
.ex [.adr] (c1 λa10=>0<=n2/\n2<((data.len:Nat):Int)/\data.a=some a10) (u1 λa11 =>
.actU (st I.T (Addr.add a11 (Int.toNat n2*I.sz)) ((Sh.one I.s).mk n6)) <|
.ex [.adr] (c1 λa12=>0<=n3/\n3<((data.len:Nat):Int)/\data.a=some a12) (u1 λa13 =>
.actU (st I.T (Addr.add a13 (Int.toNat n3*I.sz)) ((Sh.one I.s).mk n9)) <|
.untick <|
.done 3 []))))))) (u0 <|
.lt (.int .i64) (IntKind.wrap .i64 (n2+1)) λ(n14:Int) =>
.lt (.int .i64) (IntKind.wrap .i64 (n3-1)) λ(n15:Int) =>
.done 2 [.int .i64 n14,.int .i64 n15])) (
.done 1 []))) (u0 <|
.done 0 [])
def SortI.pins (I:SortI) (data:Sl) (a:Int) (b:Int):Prog :=
.lt (.int .i64) (IntKind.wrap .i64 (a+1)) λ(n0:Int) =>
.bind 1 [] (
.loop 2 [.one (.int .i64),.one (.int .i64)] (n0,(0,())) (u2 λ(n1 n2:Int) =>
.ite (decide (n2<5)) (
.bind 3 [.one (.int .i64)] (
.bind 4 [.one (.int .i64)] (
.loop 5 [.one (.int .i64)] (n1,()) (u1 λ(n3:Int) =>
.bind 6 [.one .bool] (
.tick <|
.ex [.adr] (c1 λa4=>decide (n3<b)=true->0<=n3/\n3<((data.len:Nat):Int)/\data.a=some a4) (u1 λa5 =>
.read ((decide (n3<b)=true)) (ld I.T (Addr.add a5 (Int.toNat n3*I.sz))) (.one I.s) (λn6 =>
.ex [.adr] (c1 λa7=>decide (n3<b)=true->0<=IntKind.wrap .i64 (n3-1)/\IntKind.wrap .i64 (n3-1)<((data.len:Nat):Int)/\data.a=some a7) (u1 λa8 =>
.read ((decide (n3<b)=true)) (ld I.T (Addr.add a8 (Int.toNat (IntKind.wrap .i64 (n3-1))*I.sz))) (.one I.s) (λn9 =>
.ite (decide (n3<b)) (
I.less n6 n9 (λb10 =>
.untick <|
.done 6 [.bool (not b10)])) (
.untick <|
.done 6 [.bool false])))))) (u1 λb11 =>
.ite (b11) (
.lt (.int .i64) (IntKind.wrap .i64 (n3+1)) λ(n12:Int) =>
.done 5 [.int .i64 n12]) (
.done 4 [.int .i64 n3])))) (u1 λ(n13:Int) =>
.ite (n13 == b) (
.done 0 [.bool true]) (
.ite (decide (IntKind.wrap .i64 (b-a)<50)) (
.done 0 [.bool false]) (
.bind 4 [] (
.tick <|
.ex [.adr] (c1 λa14=>0<=IntKind.wrap .i64 (n13-1)/\IntKind.wrap .i64 (n13-1)<((data.len:Nat):Int)/\data.a=some a14) (u1 λa15 =>
.read (True) (ld I.T (Addr.add a15 (Int.toNat (IntKind.wrap .i64 (n13-1))*I.sz))) (.one I.s) (λn16 =>
.ex [.adr] (c1 λa17=>0<=n13/\n13<((data.len:Nat):Int)/\data.a=some a17) (u1 λa18 =>
.read (True) (ld I.T (Addr.add a18 (Int.toNat n13*I.sz))) (.one I.s) (λn19 =>
.ex [.adr] (c1 λa20=>0<=n13/\n13<((data.len:Nat):Int)/\data.a=some a20) (u1 λa21 =>
.actU (st I.T (Addr.add a21 (Int.toNat n13*I.sz)) ((Sh.one I.s).mk n16)) <|
.ex [.adr] (c1 λa22=>0<=IntKind.wrap .i64 (n13-1)/\IntKind.wrap .i64 (n13-1)<((data.len:Nat):Int)/\data.a=some a22) (u1 λa23 =>
.actU (st I.T (Addr.add a23 (Int.toNat (IntKind.wrap .i64 (n13-1))*I.sz)) ((Sh.one I.s).mk n19)) <|
.untick <|
.done 4 []))))))) (u0 <|
.bind 4 [] (
.ite (decide (IntKind.wrap .i64 (n13-a)>=2)) (
.lt (.int .i64) (IntKind.wrap .i64 (n13-1)) λ(n24:Int) =>
.bind 5 [] (
.loop 6 [.one (.int .i64)] (n24,()) (u1 λ(n25:Int) =>
.ite (decide (n25>=1)) (
.tick <|
.ex [.adr] (c1 λa26=>0<=n25/\n25<((data.len:Nat):Int)/\data.a=some a26) (u1 λa27 =>
.read (True) (ld I.T (Addr.add a27 (Int.toNat n25*I.sz))) (.one I.s) (λn28 =>
.ex [.adr] (c1 λa29=>0<=IntKind.wrap .i64 (n25-1)/\IntKind.wrap .i64 (n25-1)<((data.len:Nat):Int)/\data.a=some a29) (u1 λa30 =>
.read (True) (ld I.T (Addr.add a30 (Int.toNat (IntKind.wrap .i64 (n25-1))*I.sz))) (.one I.s) (λn31 =>
I.less n28 n31 (λb32 =>
.untick <|
.ite (not b32) (
.done 5 []) (
.bind 7 [] (
.tick <|
.ex [.adr] (c1 λa33=>0<=IntKind.wrap .i64 (n25-1)/\IntKind.wrap .i64 (n25-1)<((data.len:Nat):Int)/\data.a=some a33) (u1 λa34 =>
.read (True) (ld I.T (Addr.add a34 (Int.toNat (IntKind.wrap .i64 (n25-1))*I.sz))) (.one I.s) (λn35 =>
.ex [.adr] (c1 λa36=>0<=n25/\n25<((data.len:Nat):Int)/\data.a=some a36) (u1 λa37 =>
.read (True) (ld I.T (Addr.add a37 (Int.toNat n25*I.sz))) (.one I.s) (λn38 =>
.ex [.adr] (c1 λa39=>0<=n25/\n25<((data.len:Nat):Int)/\data.a=some a39) (u1 λa40 =>
.actU (st I.T (Addr.add a40 (Int.toNat n25*I.sz)) ((Sh.one I.s).mk n35)) <|
.ex [.adr] (c1 λa41=>0<=IntKind.wrap .i64 (n25-1)/\IntKind.wrap .i64 (n25-1)<((data.len:Nat):Int)/\data.a=some a41) (u1 λa42 =>
.actU (st I.T (Addr.add a42 (Int.toNat (IntKind.wrap .i64 (n25-1))*I.sz)) ((Sh.one I.s).mk n38)) <|
.untick <|
.done 7 []))))))) (u0 <|
.lt (.int .i64) (IntKind.wrap .i64 (n25-1)) λ(n43:Int) =>
.done 6 [.int .i64 n43])))))))) (
.done 5 []))) (u0 <|
.done 4 [])) (
.done 4 [])) (u0 <|
.bind 4 [] (
.ite (decide (IntKind.wrap .i64 (b-n13)>=2)) (
.lt (.int .i64) (IntKind.wrap .i64 (n13+1)) λ(n44:Int) =>
.bind 5 [] (
.loop 6 [.one (.int .i64)] (n44,()) (u1 λ(n45:Int) =>
.ite (decide (n45<b)) (
.tick <|
.ex [.adr] (c1 λa46=>0<=n45/\n45<((data.len:Nat):Int)/\data.a=some a46) (u1 λa47 =>
.read (True) (ld I.T (Addr.add a47 (Int.toNat n45*I.sz))) (.one I.s) (λn48 =>
.ex [.adr] (c1 λa49=>0<=IntKind.wrap .i64 (n45-1)/\IntKind.wrap .i64 (n45-1)<((data.len:Nat):Int)/\data.a=some a49) (u1 λa50 =>
.read (True) (ld I.T (Addr.add a50 (Int.toNat (IntKind.wrap .i64 (n45-1))*I.sz))) (.one I.s) (λn51 =>
I.less n48 n51 (λb52 =>
.untick <|
.ite (not b52) (
.done 5 []) (
.bind 7 [] (
.tick <|
.ex [.adr] (c1 λa53=>0<=IntKind.wrap .i64 (n45-1)/\IntKind.wrap .i64 (n45-1)<((data.len:Nat):Int)/\data.a=some a53) (u1 λa54 =>
.read (True) (ld I.T (Addr.add a54 (Int.toNat (IntKind.wrap .i64 (n45-1))*I.sz))) (.one I.s) (λn55 =>
.ex [.adr] (c1 λa56=>0<=n45/\n45<((data.len:Nat):Int)/\data.a=some a56) (u1 λa57 =>
.read (True) (ld I.T (Addr.add a57 (Int.toNat n45*I.sz))) (.one I.s) (λn58 =>
.ex [.adr] (c1 λa59=>0<=n45/\n45<((data.len:Nat):Int)/\data.a=some a59) (u1 λa60 =>
.actU (st I.T (Addr.add a60 (Int.toNat n45*I.sz)) ((Sh.one I.s).mk n55)) <|
.ex [.adr] (c1 λa61=>0<=IntKind.wrap .i64 (n45-1)/\IntKind.wrap .i64 (n45-1)<((data.len:Nat):Int)/\data.a=some a61) (u1 λa62 =>
.actU (st I.T (Addr.add a62 (Int.toNat (IntKind.wrap .i64 (n45-1))*I.sz)) ((Sh.one I.s).mk n58)) <|
.untick <|
.done 7 []))))))) (u0 <|
.lt (.int .i64) (IntKind.wrap .i64 (n45+1)) λ(n63:Int) =>
.done 6 [.int .i64 n63])))))))) (
.done 5 []))) (u0 <|
.done 4 [])) (
.done 4 [])) (u0 <|
.done 3 [.int .i64 n13]))))))) (u1 λ(n64:Int) =>
.lt (.int .i64) (IntKind.wrap .i64 (n2+1)) λ(n65:Int) =>
.done 2 [.int .i64 n64,.int .i64 n65])) (
.done 1 []))) (u0 <|
.done 0 [.bool false])
def SortI.peq (I:SortI) (data:Sl) (a b:Int) (pivot:Int):Prog :=
.bind 1 [] (
.tick <|
.ex [.adr] (c1 λa0=>0<=pivot/\pivot<((data.len:Nat):Int)/\data.a=some a0) (u1 λa1 =>
.read (True) (ld I.T (Addr.add a1 (Int.toNat pivot*I.sz))) (.one I.s) (λn2 =>
.ex [.adr] (c1 λa3=>0<=a/\a<((data.len:Nat):Int)/\data.a=some a3) (u1 λa4 =>
.read (True) (ld I.T (Addr.add a4 (Int.toNat a*I.sz))) (.one I.s) (λn5 =>
.ex [.adr] (c1 λa6=>0<=a/\a<((data.len:Nat):Int)/\data.a=some a6) (u1 λa7 =>
.actU (st I.T (Addr.add a7 (Int.toNat a*I.sz)) ((Sh.one I.s).mk n2)) <|
.ex [.adr] (c1 λa8=>0<=pivot/\pivot<((data.len:Nat):Int)/\data.a=some a8) (u1 λa9 =>
.actU (st I.T (Addr.add a9 (Int.toNat pivot*I.sz)) ((Sh.one I.s).mk n5)) <|
.untick <|
.done 1 []))))))) (u0 <|
.lt (.int .i64) (IntKind.wrap .i64 (a+1)) λ(n10:Int) =>
.lt (.int .i64) (IntKind.wrap .i64 (b-1)) λ(n11:Int) =>
.bind 1 [.one (.int .i64)] (
.loop 2 [.one (.int .i64),.one (.int .i64)] (n10,(n11,())) (u2 λ(n12 n13:Int) =>
.bind 3 [.one (.int .i64),.one (.int .i64)] (
.bind 4 [.one (.int .i64)] (
.loop 5 [.one (.int .i64)] (n12,()) (u1 λ(n14:Int) =>
.bind 6 [.one .bool] (
.tick <|
.ex [.adr] (c1 λa15=>decide (n14<=n13)=true->0<=a/\a<((data.len:Nat):Int)/\data.a=some a15) (u1 λa16 =>
.read ((decide (n14<=n13)=true)) (ld I.T (Addr.add a16 (Int.toNat a*I.sz))) (.one I.s) (λn17 =>
.ex [.adr] (c1 λa18=>decide (n14<=n13)=true->0<=n14/\n14<((data.len:Nat):Int)/\data.a=some a18) (u1 λa19 =>
.read ((decide (n14<=n13)=true)) (ld I.T (Addr.add a19 (Int.toNat n14*I.sz))) (.one I.s) (λn20 =>
.ite (decide (n14<=n13)) (
I.less n17 n20 (λb21 =>
.untick <|
.done 6 [.bool (not b21)])) (
.untick <|
.done 6 [.bool false])))))) (u1 λb22 =>
.ite (b22) (
.lt (.int .i64) (IntKind.wrap .i64 (n14+1)) λ(n23:Int) =>
.done 5 [.int .i64 n23]) (
.done 4 [.int .i64 n14])))) (u1 λ(n24:Int) =>
.bind 4 [.one (.int .i64)] (
.loop 5 [.one (.int .i64)] (n13,()) (u1 λ(n25:Int) =>
.bind 6 [.one .bool] (
.tick <|
.ex [.adr] (c1 λa26=>decide (n24<=n25)=true->0<=a/\a<((data.len:Nat):Int)/\data.a=some a26) (u1 λa27 =>
.read ((decide (n24<=n25)=true)) (ld I.T (Addr.add a27 (Int.toNat a*I.sz))) (.one I.s) (λn28 =>
.ex [.adr] (c1 λa29=>decide (n24<=n25)=true->0<=n25/\n25<((data.len:Nat):Int)/\data.a=some a29) (u1 λa30 =>
.read ((decide (n24<=n25)=true)) (ld I.T (Addr.add a30 (Int.toNat n25*I.sz))) (.one I.s) (λn31 =>
.ite (decide (n24<=n25)) (
I.less n28 n31 (λb32 =>
.untick <|
.done 6 [.bool b32])) (
.untick <|
.done 6 [.bool false])))))) (u1 λb33 =>
.ite (b33) (
.lt (.int .i64) (IntKind.wrap .i64 (n25-1)) λ(n34:Int) =>
.done 5 [.int .i64 n34]) (
.done 4 [.int .i64 n25])))) (u1 λ(n35:Int) =>
.ite (decide (n24>n35)) (
.done 1 [.int .i64 n24]) (
.bind 4 [] (
.tick <|
.ex [.adr] (c1 λa36=>0<=n35/\n35<((data.len:Nat):Int)/\data.a=some a36) (u1 λa37 =>
.read (True) (ld I.T (Addr.add a37 (Int.toNat n35*I.sz))) (.one I.s) (λn38 =>
.ex [.adr] (c1 λa39=>0<=n24/\n24<((data.len:Nat):Int)/\data.a=some a39) (u1 λa40 =>
.read (True) (ld I.T (Addr.add a40 (Int.toNat n24*I.sz))) (.one I.s) (λn41 =>
.ex [.adr] (c1 λa42=>0<=n24/\n24<((data.len:Nat):Int)/\data.a=some a42) (u1 λa43 =>
.actU (st I.T (Addr.add a43 (Int.toNat n24*I.sz)) ((Sh.one I.s).mk n38)) <|
.ex [.adr] (c1 λa44=>0<=n35/\n35<((data.len:Nat):Int)/\data.a=some a44) (u1 λa45 =>
.actU (st I.T (Addr.add a45 (Int.toNat n35*I.sz)) ((Sh.one I.s).mk n41)) <|
.untick <|
.done 4 []))))))) (u0 <|
.lt (.int .i64) (IntKind.wrap .i64 (n24+1)) λ(n46:Int) =>
.lt (.int .i64) (IntKind.wrap .i64 (n35-1)) λ(n47:Int) =>
.done 3 [.int .i64 n46,.int .i64 n47]))))) (u2 λ(n48 n49:Int) =>
.done 2 [.int .i64 n48,.int .i64 n49]))) (u1 λ(n50:Int) =>
.lt (.int .i64) (n50) λ(n51:Int) =>
.done 0 [.int .i64 n51]))
def SortI.part (I:SortI) (data:Sl) (a b:Int) (pivot:Int):Prog :=
.bind 1 [] (
.tick <|
.ex [.adr] (c1 λa0=>0<=pivot/\pivot<((data.len:Nat):Int)/\data.a=some a0) (u1 λa1 =>
.read (True) (ld I.T (Addr.add a1 (Int.toNat pivot*I.sz))) (.one I.s) (λn2 =>
.ex [.adr] (c1 λa3=>0<=a/\a<((data.len:Nat):Int)/\data.a=some a3) (u1 λa4 =>
.read (True) (ld I.T (Addr.add a4 (Int.toNat a*I.sz))) (.one I.s) (λn5 =>
.ex [.adr] (c1 λa6=>0<=a/\a<((data.len:Nat):Int)/\data.a=some a6) (u1 λa7 =>
.actU (st I.T (Addr.add a7 (Int.toNat a*I.sz)) ((Sh.one I.s).mk n2)) <|
.ex [.adr] (c1 λa8=>0<=pivot/\pivot<((data.len:Nat):Int)/\data.a=some a8) (u1 λa9 =>
.actU (st I.T (Addr.add a9 (Int.toNat pivot*I.sz)) ((Sh.one I.s).mk n5)) <|
.untick <|
.done 1 []))))))) (u0 <|
.lt (.int .i64) (IntKind.wrap .i64 (a+1)) λ(n10:Int) =>
.lt (.int .i64) (IntKind.wrap .i64 (b-1)) λ(n11:Int) =>
.bind 1 [.one (.int .i64)] (
.loop 2 [.one (.int .i64)] (n10,()) (u1 λ(n12:Int) =>
.bind 3 [.one .bool] (
.tick <|
.ex [.adr] (c1 λa13=>decide (n12<=n11)=true->0<=n12/\n12<((data.len:Nat):Int)/\data.a=some a13) (u1 λa14 =>
.read ((decide (n12<=n11)=true)) (ld I.T (Addr.add a14 (Int.toNat n12*I.sz))) (.one I.s) (λn15 =>
.ex [.adr] (c1 λa16=>decide (n12<=n11)=true->0<=a/\a<((data.len:Nat):Int)/\data.a=some a16) (u1 λa17 =>
.read ((decide (n12<=n11)=true)) (ld I.T (Addr.add a17 (Int.toNat a*I.sz))) (.one I.s) (λn18 =>
.ite (decide (n12<=n11)) (
I.less n15 n18 (λb19 =>
.untick <|
.done 3 [.bool b19])) (
.untick <|
.done 3 [.bool false])))))) (u1 λb20 =>
.ite (b20) (
.lt (.int .i64) (IntKind.wrap .i64 (n12+1)) λ(n21:Int) =>
.done 2 [.int .i64 n21]) (
.done 1 [.int .i64 n12])))) (u1 λ(n22:Int) =>
.bind 1 [.one (.int .i64)] (
.loop 2 [.one (.int .i64)] (n11,()) (u1 λ(n23:Int) =>
.bind 3 [.one .bool] (
.tick <|
.ex [.adr] (c1 λa24=>decide (n22<=n23)=true->0<=n23/\n23<((data.len:Nat):Int)/\data.a=some a24) (u1 λa25 =>
.read ((decide (n22<=n23)=true)) (ld I.T (Addr.add a25 (Int.toNat n23*I.sz))) (.one I.s) (λn26 =>
.ex [.adr] (c1 λa27=>decide (n22<=n23)=true->0<=a/\a<((data.len:Nat):Int)/\data.a=some a27) (u1 λa28 =>
.read ((decide (n22<=n23)=true)) (ld I.T (Addr.add a28 (Int.toNat a*I.sz))) (.one I.s) (λn29 =>
.ite (decide (n22<=n23)) (
I.less n26 n29 (λb30 =>
.untick <|
.done 3 [.bool (not b30)])) (
.untick <|
.done 3 [.bool false])))))) (u1 λb31 =>
.ite (b31) (
.lt (.int .i64) (IntKind.wrap .i64 (n23-1)) λ(n32:Int) =>
.done 2 [.int .i64 n32]) (
.done 1 [.int .i64 n23])))) (u1 λ(n33:Int) =>
.ite (decide (n22>n33)) (
.bind 1 [] (
.tick <|
.ex [.adr] (c1 λa34=>0<=a/\a<((data.len:Nat):Int)/\data.a=some a34) (u1 λa35 =>
.read (True) (ld I.T (Addr.add a35 (Int.toNat a*I.sz))) (.one I.s) (λn36 =>
.ex [.adr] (c1 λa37=>0<=n33/\n33<((data.len:Nat):Int)/\data.a=some a37) (u1 λa38 =>
.read (True) (ld I.T (Addr.add a38 (Int.toNat n33*I.sz))) (.one I.s) (λn39 =>
.ex [.adr] (c1 λa40=>0<=n33/\n33<((data.len:Nat):Int)/\data.a=some a40) (u1 λa41 =>
.actU (st I.T (Addr.add a41 (Int.toNat n33*I.sz)) ((Sh.one I.s).mk n36)) <|
.ex [.adr] (c1 λa42=>0<=a/\a<((data.len:Nat):Int)/\data.a=some a42) (u1 λa43 =>
.actU (st I.T (Addr.add a43 (Int.toNat a*I.sz)) ((Sh.one I.s).mk n39)) <|
.untick <|
.done 1 []))))))) (u0 <|
.lt (.int .i64) (n33) λ(n44:Int) =>
.done 0 [.int .i64 n44,.bool true])) (
.bind 1 [] (
.tick <|
.ex [.adr] (c1 λa45=>0<=n33/\n33<((data.len:Nat):Int)/\data.a=some a45) (u1 λa46 =>
.read (True) (ld I.T (Addr.add a46 (Int.toNat n33*I.sz))) (.one I.s) (λn47 =>
.ex [.adr] (c1 λa48=>0<=n22/\n22<((data.len:Nat):Int)/\data.a=some a48) (u1 λa49 =>
.read (True) (ld I.T (Addr.add a49 (Int.toNat n22*I.sz))) (.one I.s) (λn50 =>
.ex [.adr] (c1 λa51=>0<=n22/\n22<((data.len:Nat):Int)/\data.a=some a51) (u1 λa52 =>
.actU (st I.T (Addr.add a52 (Int.toNat n22*I.sz)) ((Sh.one I.s).mk n47)) <|
.ex [.adr] (c1 λa53=>0<=n33/\n33<((data.len:Nat):Int)/\data.a=some a53) (u1 λa54 =>
.actU (st I.T (Addr.add a54 (Int.toNat n33*I.sz)) ((Sh.one I.s).mk n50)) <|
.untick <|
.done 1 []))))))) (u0 <|
.lt (.int .i64) (IntKind.wrap .i64 (n22+1)) λ(n55:Int) =>
.lt (.int .i64) (IntKind.wrap .i64 (n33-1)) λ(n56:Int) =>
.bind 1 [.one (.int .i64)] (
.loop 2 [.one (.int .i64),.one (.int .i64)] (n55,(n56,())) (u2 λ(n57 n58:Int) =>
.bind 3 [.one (.int .i64),.one (.int .i64)] (
.bind 4 [.one (.int .i64)] (
.loop 5 [.one (.int .i64)] (n57,()) (u1 λ(n59:Int) =>
.bind 6 [.one .bool] (
.tick <|
.ex [.adr] (c1 λa60=>decide (n59<=n58)=true->0<=n59/\n59<((data.len:Nat):Int)/\data.a=some a60) (u1 λa61 =>
.read ((decide (n59<=n58)=true)) (ld I.T (Addr.add a61 (Int.toNat n59*I.sz))) (.one I.s) (λn62 =>
.ex [.adr] (c1 λa63=>decide (n59<=n58)=true->0<=a/\a<((data.len:Nat):Int)/\data.a=some a63) (u1 λa64 =>
.read ((decide (n59<=n58)=true)) (ld I.T (Addr.add a64 (Int.toNat a*I.sz))) (.one I.s) (λn65 =>
.ite (decide (n59<=n58)) (
I.less n62 n65 (λb66 =>
.untick <|
.done 6 [.bool b66])) (
.untick <|
.done 6 [.bool false])))))) (u1 λb67 =>
.ite (b67) (
.lt (.int .i64) (IntKind.wrap .i64 (n59+1)) λ(n68:Int) =>
.done 5 [.int .i64 n68]) (
.done 4 [.int .i64 n59])))) (u1 λ(n69:Int) =>
.bind 4 [.one (.int .i64)] (
.loop 5 [.one (.int .i64)] (n58,()) (u1 λ(n70:Int) =>
.bind 6 [.one .bool] (
.tick <|
.ex [.adr] (c1 λa71=>decide (n69<=n70)=true->0<=n70/\n70<((data.len:Nat):Int)/\data.a=some a71) (u1 λa72 =>
.read ((decide (n69<=n70)=true)) (ld I.T (Addr.add a72 (Int.toNat n70*I.sz))) (.one I.s) (λn73 =>
.ex [.adr] (c1 λa74=>decide (n69<=n70)=true->0<=a/\a<((data.len:Nat):Int)/\data.a=some a74) (u1 λa75 =>
.read ((decide (n69<=n70)=true)) (ld I.T (Addr.add a75 (Int.toNat a*I.sz))) (.one I.s) (λn76 =>
.ite (decide (n69<=n70)) (
I.less n73 n76 (λb77 =>
.untick <|
.done 6 [.bool (not b77)])) (
.untick <|
.done 6 [.bool false])))))) (u1 λb78 =>
.ite (b78) (
.lt (.int .i64) (IntKind.wrap .i64 (n70-1)) λ(n79:Int) =>
.done 5 [.int .i64 n79]) (
.done 4 [.int .i64 n70])))) (u1 λ(n80:Int) =>
.ite (decide (n69>n80)) (
.done 1 [.int .i64 n80]) (
.bind 4 [] (
.tick <|
.ex [.adr] (c1 λa81=>0<=n80/\n80<((data.len:Nat):Int)/\data.a=some a81) (u1 λa82 =>
.read (True) (ld I.T (Addr.add a82 (Int.toNat n80*I.sz))) (.one I.s) (λn83 =>
.ex [.adr] (c1 λa84=>0<=n69/\n69<((data.len:Nat):Int)/\data.a=some a84) (u1 λa85 =>
.read (True) (ld I.T (Addr.add a85 (Int.toNat n69*I.sz))) (.one I.s) (λn86 =>
.ex [.adr] (c1 λa87=>0<=n69/\n69<((data.len:Nat):Int)/\data.a=some a87) (u1 λa88 =>
.actU (st I.T (Addr.add a88 (Int.toNat n69*I.sz)) ((Sh.one I.s).mk n83)) <|
.ex [.adr] (c1 λa89=>0<=n80/\n80<((data.len:Nat):Int)/\data.a=some a89) (u1 λa90 =>
.actU (st I.T (Addr.add a90 (Int.toNat n80*I.sz)) ((Sh.one I.s).mk n86)) <|
.untick <|
.done 4 []))))))) (u0 <|
.lt (.int .i64) (IntKind.wrap .i64 (n69+1)) λ(n91:Int) =>
.lt (.int .i64) (IntKind.wrap .i64 (n80-1)) λ(n92:Int) =>
.done 3 [.int .i64 n91,.int .i64 n92]))))) (u2 λ(n93 n94:Int) =>
.done 2 [.int .i64 n93,.int .i64 n94]))) (u1 λ(n95:Int) =>
.bind 1 [] (
.tick <|
.ex [.adr] (c1 λa96=>0<=a/\a<((data.len:Nat):Int)/\data.a=some a96) (u1 λa97 =>
.read (True) (ld I.T (Addr.add a97 (Int.toNat a*I.sz))) (.one I.s) (λn98 =>
.ex [.adr] (c1 λa99=>0<=n95/\n95<((data.len:Nat):Int)/\data.a=some a99) (u1 λa100 =>
.read (True) (ld I.T (Addr.add a100 (Int.toNat n95*I.sz))) (.one I.s) (λn101 =>
.ex [.adr] (c1 λa102=>0<=n95/\n95<((data.len:Nat):Int)/\data.a=some a102) (u1 λa103 =>
.actU (st I.T (Addr.add a103 (Int.toNat n95*I.sz)) ((Sh.one I.s).mk n98)) <|
.ex [.adr] (c1 λa104=>0<=a/\a<((data.len:Nat):Int)/\data.a=some a104) (u1 λa105 =>
.actU (st I.T (Addr.add a105 (Int.toNat a*I.sz)) ((Sh.one I.s).mk n101)) <|
.untick <|
.done 1 []))))))) (u0 <|
.lt (.int .i64) (n95) λ(n106:Int) =>
.done 0 [.int .i64 n106,.bool false])))))))
def SortI.ord2 (I:SortI) (data:Sl) (a b:Int) (swaps:Option Addr):Prog :=
.tick <|
.ex [.adr] (c1 λa0=>0<=b/\b<((data.len:Nat):Int)/\data.a=some a0) (u1 λa1 =>
.read (True) (ld I.T (Addr.add a1 (Int.toNat b*I.sz))) (.one I.s) (λn2 =>
.ex [.adr] (c1 λa3=>0<=a/\a<((data.len:Nat):Int)/\data.a=some a3) (u1 λa4 =>
.read (True) (ld I.T (Addr.add a4 (Int.toNat a*I.sz))) (.one I.s) (λn5 =>
I.less n2 n5 (λb6 =>
.untick <|
.ite (b6) (
.ex [.adr] (c1 λa7=>swaps=some a7) (u1 λa8 =>
.read True (ld I.ti a8) (sI .i64) (u1 λ(n9:Int) =>
.ex [.adr] (c1 λa10=>swaps=some a10) (u1 λa11 =>
.actU (st I.ti a11 (.int .i64 (IntKind.wrap .i64 (n9+1)))) <|
.lt (.int .i64) (b) λ(n12:Int) =>
.lt (.int .i64) (a) λ(n13:Int) =>
.done 0 [.int .i64 n12,.int .i64 n13])))) (
.lt (.int .i64) (a) λ(n14:Int) =>
.lt (.int .i64) (b) λ(n15:Int) =>
.done 0 [.int .i64 n14,.int .i64 n15]))))))
def SortI.med (I:SortI) (data:Sl) (a b c:Int) (swaps:Option Addr):Prog :=
.call I.f_ord2 ([data.v,.int .i64 a,.int .i64 b,.pointer swaps]++I.ex) (.tup [.one (.int .i64),.one (.int .i64)]) (u2 λ(n0 n1:Int) =>
.lt (.int .i64) (n0) λ(n2:Int) =>
.lt (.int .i64) (n1) λ(n3:Int) =>
.call I.f_ord2 ([data.v,.int .i64 n3,.int .i64 c,.pointer swaps]++I.ex) (.tup [.one (.int .i64),.one (.int .i64)]) (u2 λ(n4 n5:Int) =>
.lt (.int .i64) (n4) λ(n6:Int) =>
.lt (.int .i64) (n5) λ(n7:Int) =>
.call I.f_ord2 ([data.v,.int .i64 n2,.int .i64 n6,.pointer swaps]++I.ex) (.tup [.one (.int .i64),.one (.int .i64)]) (u2 λ(n8 n9:Int) =>
.lt (.int .i64) (n8) λ(n10:Int) =>
.lt (.int .i64) (n9) λ(n11:Int) =>
.lt (.int .i64) (n11) λ(n12:Int) =>
.done 0 [.int .i64 n12])))
def SortI.medj (I:SortI) (data:Sl) (a:Int) (swaps:Option Addr):Prog :=
.call I.f_med ([data.v,.int .i64 (IntKind.wrap .i64 (a-1)),.int .i64 a,.int .i64 (IntKind.wrap .i64 (a+1)),.pointer swaps]++I.ex) (sI .i64) (u1 λ(n0:Int) =>
.lt (.int .i64) (n0) λ(n1:Int) =>
.done 0 [.int .i64 n1])
def SortI.piv (I:SortI) (data:Sl) (a:Int) (b:Int):Prog :=
.lt (.int .i64) (IntKind.wrap .i64 (b-a)) λ(n0:Int) =>
.act (new I.ti) sA (u1 λa1 =>
.lt (.int .i64) (IntKind.wrap .i64 (a+IntKind.wrap .i64 (IntKind.wrap .i64 (Int.tdiv n0 4)*1))) λ(n2:Int) =>
.lt (.int .i64) (IntKind.wrap .i64 (a+IntKind.wrap .i64 (IntKind.wrap .i64 (Int.tdiv n0 4)*2))) λ(n3:Int) =>
.lt (.int .i64) (IntKind.wrap .i64 (a+IntKind.wrap .i64 (IntKind.wrap .i64 (Int.tdiv n0 4)*3))) λ(n4:Int) =>
.bind 1 [.one (.int .i64)] (
.ite (decide (n0>=8)) (
.bind 2 [.one (.int .i64),.one (.int .i64),.one (.int .i64)] (
.ite (decide (n0>=50)) (
.call I.f_medj ([data.v,.int .i64 n2,.pointer (some a1)]++I.ex) (sI .i64) (u1 λ(n5:Int) =>
.lt (.int .i64) (n5) λ(n6:Int) =>
.call I.f_medj ([data.v,.int .i64 n3,.pointer (some a1)]++I.ex) (sI .i64) (u1 λ(n7:Int) =>
.lt (.int .i64) (n7) λ(n8:Int) =>
.call I.f_medj ([data.v,.int .i64 n4,.pointer (some a1)]++I.ex) (sI .i64) (u1 λ(n9:Int) =>
.lt (.int .i64) (n9) λ(n10:Int) =>
.done 2 [.int .i64 n6,.int .i64 n8,.int .i64 n10])))) (
.done 2 [.int .i64 n2,.int .i64 n3,.int .i64 n4])) (u3 λ(n11 n12 n13:Int) =>
.call I.f_med ([data.v,.int .i64 n11,.int .i64 n12,.int .i64 n13,.pointer (some a1)]++I.ex) (sI .i64) (u1 λ(n14:Int) =>
.lt (.int .i64) (n14) λ(n15:Int) =>
.done 1 [.int .i64 n15]))) (
.done 1 [.int .i64 n3])) (u1 λ(n16:Int) =>
.read True (ld I.ti a1) (sI .i64) (u1 λ(n17:Int) =>
.lt (.bool) (n17 == 0) λb18 =>
.ite (b18) (
.lt (.int .i64) (n16) λ(n19:Int) =>
.done 0 [.int .i64 n19,.int .i64 1]) (
.lt (.bool) (n17 == 12) λb20 =>
.ite (b20) (
.lt (.int .i64) (n16) λ(n21:Int) =>
.done 0 [.int .i64 n21,.int .i64 2]) (
.lt (.int .i64) (n16) λ(n22:Int) =>
.done 0 [.int .i64 n22,.int .i64 0])))))
def SortI.pdq (I:SortI) (data:Sl) (a b:Int) (limit:Int):Prog :=
.loop 1 [.one (.int .i64),.one (.int .i64),.one (.int .i64),.one .bool,.one .bool] (a,(b,(limit,(true,(true,()))))) (u5 λ(n0 n1 n2:Int) b3 b4 =>
.bind 2 [.one (.int .i64),.one (.int .i64),.one (.int .i64),.one .bool,.one .bool] (
.lt (.int .i64) (IntKind.wrap .i64 (n1-n0)) λ(n5:Int) =>
.ite (decide (n5<=12)) (
.call I.f_ins ([data.v,.int .i64 n0,.int .i64 n1]++I.ex) (.tup []) (u0 <|
.done 0 [])) (
.ite (n2 == 0) (
.call I.f_heap ([data.v,.int .i64 n0,.int .i64 n1]++I.ex) (.tup []) (u0 <|
.done 0 [])) (
.bind 3 [.one (.int .i64)] (
.ite (not b3) (
.call I.f_brk ([data.v,.int .i64 n0,.int .i64 n1]++I.ex) (.tup []) (u0 <|
.lt (.int .i64) (IntKind.wrap .i64 (n2-1)) λ(n6:Int) =>
.done 3 [.int .i64 n6])) (
.done 3 [.int .i64 n2])) (u1 λ(n7:Int) =>
.call I.f_piv ([data.v,.int .i64 n0,.int .i64 n1]++I.ex) (.tup [.one (.int .i64),.one (.int .i64)]) (u2 λ(n8 n9:Int) =>
.lt (.int .i64) (n8) λ(n10:Int) =>
.lt (.int .i64) (n9) λ(n11:Int) =>
.bind 3 [.one (.int .i64),.one (.int .i64)] (
.ite (n11 == 2) (
.call I.f_rev ([data.v,.int .i64 n0,.int .i64 n1]++I.ex) (.tup []) (u0 <|
.lt (.int .i64) (IntKind.wrap .i64 (IntKind.wrap .i64 (n1-1)-IntKind.wrap .i64 (n10-n0))) λ(n12:Int) =>
.done 3 [.int .i64 n12,.int .i64 1])) (
.done 3 [.int .i64 n10,.int .i64 n11])) (u2 λ(n13 n14:Int) =>
.bind 3 [] (
.ite (b3 && b4 && n14 == 1) (
.call I.f_pins ([data.v,.int .i64 n0,.int .i64 n1]++I.ex) sB (u1 λb15 =>
.ite (b15) (
.done 0 []) (
.done 3 []))) (
.done 3 [])) (u0 <|
.bind 3 [.one .bool] (
.tick <|
.ex [.adr] (c1 λa16=>decide (n0>0)=true->0<=IntKind.wrap .i64 (n0-1)/\IntKind.wrap .i64 (n0-1)<((data.len:Nat):Int)/\data.a=some a16) (u1 λa17 =>
.read ((decide (n0>0)=true)) (ld I.T (Addr.add a17 (Int.toNat (IntKind.wrap .i64 (n0-1))*I.sz))) (.one I.s) (λn18 =>
.ex [.adr] (c1 λa19=>decide (n0>0)=true->0<=n13/\n13<((data.len:Nat):Int)/\data.a=some a19) (u1 λa20 =>
.read ((decide (n0>0)=true)) (ld I.T (Addr.add a20 (Int.toNat n13*I.sz))) (.one I.s) (λn21 =>
.ite (decide (n0>0)) (
I.less n18 n21 (λb22 =>
.untick <|
.done 3 [.bool (not b22)])) (
.untick <|
.done 3 [.bool false])))))) (u1 λb23 =>
.ite (b23) (
.call I.f_peq ([data.v,.int .i64 n0,.int .i64 n1,.int .i64 n13]++I.ex) (sI .i64) (u1 λ(n24:Int) =>
.lt (.int .i64) (n24) λ(n25:Int) =>
.lt (.int .i64) (n25) λ(n26:Int) =>
.done 2 [.int .i64 n26,.int .i64 n1,.int .i64 n7,.bool b3,.bool b4])) (
.call I.f_part ([data.v,.int .i64 n0,.int .i64 n1,.int .i64 n13]++I.ex) (.tup [.one (.int .i64),.one .bool]) (u2 λ(n27:Int) b28 =>
.lt (.int .i64) (n27) λ(n29:Int) =>
.lt (.bool) (b28) λb30 =>
.lt (.bool) (b30) λb31 =>
.lt (.int .i64) (IntKind.wrap .i64 (n29-n0)) λ(n32:Int) =>
.lt (.int .i64) (IntKind.wrap .i64 (n1-n29)) λ(n33:Int) =>
.lt (.int .i64) (IntKind.wrap .i64 (Int.tdiv n5 8)) λ(n34:Int) =>
.bind 3 [.one (.int .i64),.one (.int .i64),.one .bool] (
.ite (decide (n32<n33)) (
.lt (.bool) (decide (n32>=n34)) λb35 =>
.call I.f_pdq ([data.v,.int .i64 n0,.int .i64 n29,.int .i64 n7]++I.ex) (.tup []) (u0 <|
.lt (.int .i64) (IntKind.wrap .i64 (n29+1)) λ(n36:Int) =>
.done 3 [.int .i64 n36,.int .i64 n1,.bool b35])) (
.lt (.bool) (decide (n33>=n34)) λb37 =>
.call I.f_pdq ([data.v,.int .i64 (IntKind.wrap .i64 (n29+1)),.int .i64 n1,.int .i64 n7]++I.ex) (.tup []) (u0 <|
.lt (.int .i64) (n29) λ(n38:Int) =>
.done 3 [.int .i64 n0,.int .i64 n38,.bool b37]))) (u3 λ(n39 n40:Int) b41 =>
.done 2 [.int .i64 n39,.int .i64 n40,.int .i64 n7,.bool b41,.bool b31]))))))))))) (u5 λ(n42 n43 n44:Int) b45 b46 =>
.done 1 [.int .i64 n42,.int .i64 n43,.int .i64 n44,.bool b45,.bool b46]))
abbrev SortI.E (I:SortI):Type:=HL I.s.prims
abbrev SortI.enc (I:SortI) (x:I.E):List Value:=HL.vals I.s.prims x
abbrev SortI.arr (I:SortI) (d:Sl) (xs:List I.E):HP:=slc I.T I.sz d (xs.flatMap I.enc)
structure SortI.Ok (P:Program) (I:SortI) (lt:I.E->I.E->Bool):Prop where
 pos:0<I.sz
 enc:∀ x,(I.enc x).length=I.sz
 ld:∀ w A (x:I.E),At w A (I.enc x)->(ld I.T A).run P w=.ok ((Sh.one I.s).mk x) w
 size:sizeOf? P I.T=some I.sz
 cells:∀ x:I.E,((Sh.one I.s).mk x).cells.toList=I.enc x
 one:∀ (x:I.E),∀ u ∈ I.enc x,u.oneCell'=true
 less:∀ {x y:I.E} {k:Bool->Prog} {w:World} {l:List HP} {Q:Post},Sat w l->(∀ w',Sat w' l->(k (lt x y)).wp P tt w' Q)->(I.less x y k).wp P tt w Q
def z1w {α:Type} (xs:List α) (i j:Nat):List α:=match xs[i]?,xs[j]? with
 | some x,some y=>(xs.set i y).set j x
 | _,_=>xs
def z01 {α:Type} (lt:α->α->Bool) (xs:List α) (i j:Nat):Bool:=match xs[i]?,xs[j]? with
 | some x,some y=>lt x y
 | _,_=>false
section
variable {P:Program} {I:SortI} {lt:I.E->I.E->Bool} {w:World} {l:List HP} {Q:Post} {d:Sl} {xs:List I.E}
theorem SortI.Ok.len (ok:I.Ok P lt) (hs:Sat w (I.arr d xs::l)):d.len=xs.length:=hs.rd.len ok.enc ok.pos
theorem zbw (ok:I.Ok P lt) {i j:Int} {k:Bool->Prog} (ni nj:Nat) (hi:i=ni) (hj:j=nj) (hil:ni<xs.length) (hjl:nj<xs.length) (hs:Sat w (I.arr d xs::l))
  (h:∀ w',Sat w' (I.arr d xs::l)->(k (z01 lt xs ni nj)).wp P tt w' Q) :
  (Prog.tick <| .ex [.adr] (c1 λa=>0<=i/\i<((d.len:Nat):Int)/\d.a=some a) (u1 λa=>.read True (ld I.T (Addr.add a (Int.toNat i*I.sz))) (.one I.s) (λx =>
   .ex [.adr] (c1 λa=>0<=j/\j<((d.len:Nat):Int)/\d.a=some a) (u1 λa=>.read True (ld I.T (Addr.add a (Int.toNat j*I.sz))) (.one I.s) (λy =>
   I.less x y (λb=>.untick (k b))))))).wp P tt w Q:=by
 subst hi hj
 have hl:=ok.len hs
 refine zb0 λw2 hw=>?_
 have hs:=hs.heap hw
 obtain ⟨a,ha,ea⟩:=hs.rd.el ok.enc (by omega)
 refine z4r (a,()) ⟨by omega,by omega,ha⟩ ?_
 refine z7b xs[ni] (λ_=>ok.ld _ _ _ (ea ni hil)) ?_
 refine z4r (a,()) ⟨by omega,by omega,ha⟩ ?_
 refine z7b xs[nj] (λ_=>ok.ld _ _ _ (ea nj hjl)) ?_
 refine ok.less hs λw' hs=>?_
 have:=h w' hs
 simp only [z01,List.getElem?_eq_getElem hil,List.getElem?_eq_getElem hjl] at this
 exact this
theorem z79 (ok:I.Ok P lt) {e:Nat} {g:Bool} {i j:Int} {f:Bool->Bool} {k:Bool × Unit->Prog} (ni nj:Nat) (hi:g=true->i=ni/\ni<xs.length) (hj:g=true->j=nj/\nj<xs.length) (x0:I.E) (hs:Sat w (I.arr d xs::l))
  (h:∀ w',Sat w' (I.arr d xs::l)->(k (g && f (z01 lt xs ni nj),())).wp P tt w' Q) :
  (Prog.bind e [.one .bool] (.tick <| .ex [.adr] (c1 λa=>g=true->0<=i/\i<((d.len:Nat):Int)/\d.a=some a) (u1 λa=>.read (g=true) (ld I.T (Addr.add a (Int.toNat i*I.sz))) (.one I.s) (λx =>
   .ex [.adr] (c1 λa=>g=true->0<=j/\j<((d.len:Nat):Int)/\d.a=some a) (u1 λa=>.read (g=true) (ld I.T (Addr.add a (Int.toNat j*I.sz))) (.one I.s) (λy =>
   .ite g (I.less x y (λb=>.untick (.done e [.bool (f b)]))) (.untick (.done e [.bool false]))))))) k).wp P tt w Q:=by
 refine zf (λv w'=>v=(g && f (z01 lt xs ni nj),())/\Sat w' (I.arr d xs::l)) ?_ (by rintro _ w' ⟨rfl,hs⟩;exact h w' hs)
 refine zb0 λw2 hw=>?_
 have hs:=hs.heap hw
 have hl:=ok.len hs
 cases hg:g with
 | false =>
  refine z4r (⟨0,0,none⟩,()) (λh=>by cases h) ?_
  refine z7b x0 (λh=>by cases h) ?_
  refine z4r (⟨0,0,none⟩,()) (λh=>by cases h) ?_
  refine z7b x0 (λh=>by cases h) ?_
  exact z80 rfl (zd (zp ⟨(false,()),rfl,rfl,hs⟩))
 | true =>
  obtain ⟨rfl,hil⟩:=hi hg
  obtain ⟨rfl,hjl⟩:=hj hg
  obtain ⟨a,ha,ea⟩:=hs.rd.el ok.enc (by omega)
  refine z4r (a,()) (λ_=>⟨by omega,by omega,ha⟩) ?_
  refine z7b xs[ni] (λ_=>ok.ld _ _ _ (ea ni hil)) ?_
  refine z4r (a,()) (λ_=>⟨by omega,by omega,ha⟩) ?_
  refine z7b xs[nj] (λ_=>ok.ld _ _ _ (ea nj hjl)) ?_
  refine zfg rfl ?_
  refine ok.less hs λw' hs=>?_
  refine zd (zp ⟨(f (lt xs[ni] xs[nj]),()),rfl,?_,hs⟩)
  simp only [z01,List.getElem?_eq_getElem hil,List.getElem?_eq_getElem hjl,Bool.true_and]
theorem z32 (ok:I.Ok P lt) {e:Nat} {i j:Int} {k:Unit->Prog} (ni nj:Nat) (hi:i=ni) (hj:j=nj) (hil:ni<xs.length) (hjl:nj<xs.length) (hs:Sat w (I.arr d xs::l))
  (h:∀ w',Sat w' (I.arr d (z1w xs ni nj)::l)->(k ()).wp P tt w' Q) :
  (Prog.bind e [] (.tick <| .ex [.adr] (c1 λa=>0<=j/\j<((d.len:Nat):Int)/\d.a=some a) (u1 λa=>.read True (ld I.T (Addr.add a (Int.toNat j*I.sz))) (.one I.s) (λx =>
   .ex [.adr] (c1 λa=>0<=i/\i<((d.len:Nat):Int)/\d.a=some a) (u1 λa=>.read True (ld I.T (Addr.add a (Int.toNat i*I.sz))) (.one I.s) (λy =>
   .ex [.adr] (c1 λa=>0<=i/\i<((d.len:Nat):Int)/\d.a=some a) (u1 λa=>.actU (st I.T (Addr.add a (Int.toNat i*I.sz)) ((Sh.one I.s).mk x)) <|
   .ex [.adr] (c1 λa=>0<=j/\j<((d.len:Nat):Int)/\d.a=some a) (u1 λa=>.actU (st I.T (Addr.add a (Int.toNat j*I.sz)) ((Sh.one I.s).mk y)) <|
   .untick (.done e [])))))))) k).wp P tt w Q:=by
 subst hi hj
 refine zf (λv w'=>Sat w' (I.arr d (z1w xs ni nj)::l)) ?_ (by rintro _ w' hs;exact h w' hs)
 refine zb0 λw2 hw=>?_
 have hs:=hs.heap hw
 have hl:=ok.len hs
 obtain ⟨a,ha,ea⟩:=hs.rd.el ok.enc (by omega)
 refine z4r (a,()) ⟨by omega,by omega,ha⟩ ?_
 refine z7b xs[nj] (λ_=>ok.ld _ _ _ (ea nj hjl)) ?_
 refine z4r (a,()) ⟨by omega,by omega,ha⟩ ?_
 refine z7b xs[ni] (λ_=>ok.ld _ _ _ (ea ni hil)) ?_
 refine z4r (a,()) ⟨by omega,by omega,ha⟩ ?_
 refine zgm (enc:=I.enc) (i:=ni) (y:=xs[nj]) ok.enc hs ha hil (λb o h=>by subst h;exact z3g ..) ok.size (ok.cells _) (ok.one _) λw' hs=>⟨trivial,?_⟩
 refine z4r (a,()) ⟨by omega,by omega,ha⟩ ?_
 refine zgm (enc:=I.enc) (i:=nj) (y:=xs[ni]) ok.enc hs ha (by simp;omega) (λb o h=>by subst h;exact z3g ..) ok.size (ok.cells _) (ok.one _) λw' hs=>⟨trivial,?_⟩
 refine zd (zp ⟨(),rfl,?_⟩)
 simpa only [z1w,List.getElem?_eq_getElem hil,List.getElem?_eq_getElem hjl] using hs
end
inductive Sw {α:Type} (a b:Nat):List α->List α->Prop
 | refl (xs:List α):Sw a b xs xs
 | step {xs ys:List α} {i j:Nat} (h:Sw a b xs ys) (hi:a<=i) (hi':i<b) (hj:a<=j) (hj':j<b):Sw a b xs (z1w ys i j)
def tr (i j p:Nat):Nat:=if p=i then j else if p=j then i else p
structure LtOk {α:Type} (lt:α->α->Bool):Prop where
 asymm:∀ {x y},lt x y=true->lt y x=false
 trans:∀ {x y z},lt x y=false->lt y z=false->lt x z=false
section
variable {α:Type} {lt:α->α->Bool} {xs ys zs:List α} {a b:Nat}
theorem z7k (xs:List α) (i j:Nat):(z1w xs i j).length=xs.length:=by
 unfold z1w;split <;> simp
theorem za3 {i j:Nat} (hi:i<xs.length) (hj:j<xs.length) (p:Nat):(z1w xs i j)[p]? = xs[tr i j p]? := by
 simp only [z1w,List.getElem?_eq_getElem hi,List.getElem?_eq_getElem hj,tr]
 rw [List.getElem?_set]
 by_cases h1:p=i
 ·subst h1
  rw [if_pos rfl]
  by_cases h2:j=p
  ·subst h2;rw [if_pos rfl,if_pos (by simpa using hi),List.getElem?_eq_getElem hi]
  ·rw [if_neg h2,List.getElem?_set,if_pos rfl,if_pos hi,List.getElem?_eq_getElem hj]
 ·rw [if_neg h1]
  by_cases h2:j=p
  ·subst h2;rw [if_pos rfl,if_pos rfl,if_pos (by simpa using hj),List.getElem?_eq_getElem hi]
  ·rw [if_neg h2,if_neg (Ne.symm h2),List.getElem?_set,if_neg (Ne.symm h1)]
theorem z2n {i j:Nat} (hi:i<xs.length) (hj:j<xs.length) (p q:Nat):z01 lt (z1w xs i j) p q=z01 lt xs (tr i j p) (tr i j q):=by
 simp only [z01,za3 hi hj]
theorem LtOk.asymmAt (h:LtOk lt) {p q:Nat} (hl:z01 lt xs p q=true):z01 lt xs q p=false:=by
 unfold z01 at *
 split at hl
 ·rename_i x y hx hy;rw [hx,hy];exact h.asymm hl
 ·cases hl
theorem LtOk.transAt (h:LtOk lt) {p q r:Nat} (hq:q<xs.length) (h1:z01 lt xs p q=false) (h2:z01 lt xs q r=false):z01 lt xs p r=false:=by
 unfold z01 at *
 rw [List.getElem?_eq_getElem hq] at h1 h2
 cases hp:xs[p]? with
 | none=>rfl
 | some x =>
  cases hr:xs[r]? with
  | none=>rfl
  | some z=>rw [hp] at h1;rw [hr] at h2;exact h.trans h1 h2
theorem LtOk.irrefl (h:LtOk lt) (p:Nat):z01 lt xs p p=false:=by
 cases hc:z01 lt xs p p with
 | false=>rfl
 | true=>have:=h.asymmAt hc;rw [hc] at this;cases this
theorem Sw.length (h:Sw a b xs ys):ys.length=xs.length:=by
 induction h with
 | refl=>rfl
 | step _ _ _ _ _ ih=>rw [z7k,ih]
theorem Sw.trans (h1:Sw a b xs ys) (h2:Sw a b ys zs):Sw a b xs zs:=by
 induction h2 with
 | refl=>exact h1
 | step _ hi hi' hj hj' ih=>exact .step ih hi hi' hj hj'
theorem Sw.mono {a' b':Nat} (h:Sw a b xs ys) (ha:a'<=a) (hb:b<=b'):Sw a' b' xs ys:=by
 induction h with
 | refl=>exact .refl _
 | step _ hi hi' hj hj' ih=>exact .step ih (by omega) (by omega) (by omega) (by omega)
theorem Sw.out (h:Sw a b xs ys) {k:Nat} (hk:k<a\/b<=k):ys[k]? = xs[k]? := by
 induction h with
 | refl=>rfl
 | @step ys' i j h1 hi hi' hj hj' ih =>
  rw [<- ih]
  unfold z1w
  split
  ·rw [List.getElem?_set_ne (by omega),List.getElem?_set_ne (by omega)]
  ·rfl
theorem zss (xs:List α) (i j:Nat):(z1w xs i j).Perm xs:=by
 unfold z1w
 split
 ·rename_i x y hx hy
  obtain ⟨hi,rfl⟩:=List.getElem?_eq_some_iff.1 hx
  obtain ⟨hj,rfl⟩:=List.getElem?_eq_some_iff.1 hy
  exact List.set_set_perm hi hj
 ·exact .refl _
theorem Sw.perm (h:Sw a b xs ys):ys.Perm xs:=by
 induction h with
 | refl=>exact .refl _
 | step _ _ _ _ _ ih=>exact (zss _ _ _).trans ih
theorem Sw.all (h:Sw a b xs ys) (hb:b<=xs.length) {p:α->Prop} (hp:∀ k x,a<=k->k<b->xs[k]? = some x->p x):∀ k x,a<=k->k<b->ys[k]? = some x->p x:=by
 induction h with
 | refl=>exact hp
 | @step ys' i j h1 hi hi' hj hj' ih =>
  intro k x h2 h3 hx
  have hl:=h1.length
  rw [za3 (by omega) (by omega)] at hx
  unfold tr at hx
  split at hx
  ·exact ih j x hj hj' hx
  ·split at hx
   ·exact ih i x hi hi' hx
   ·exact ih k x h2 h3 hx
def z12 (lt:α->α->Bool) (xs:List α) (a b:Nat):Prop:=∀ p q,a<=p->p<q->q<b->z01 lt xs q p=false
end
section
variable {P:Program} {I:SortI} {lt:I.E->I.E->Bool} {w:World} {l:List HP} {Q:Post} {d:Sl} {xs:List I.E}
theorem z087 (ok:I.Ok P lt) (lo:LtOk lt) (x0:I.E) (a b:Nat) (hab:a<=b) (hb:b<=xs.length) (h63:xs.length<4611686018427387904) (hs:Sat w (I.arr d xs::l)) :
  (I.ins d a b).wp P tt w λe vs w'=>e=0/\vs=[]/\∃ ys,Sw a b xs ys/\z12 lt ys a b/\Sat w' (I.arr d ys::l):=by
 unfold SortI.ins
 refine z0p (y:=((a+1:Nat):Int)) (by rw [w64 (by omega) (by omega)];rfl) ?_
 refine zf (λv w'=>∃ ys,Sw a b xs ys/\z12 lt ys a b/\Sat w' (I.arr d ys::l)) ?_ (λ_ w' h=>⟨rfl,rfl,h⟩)
 refine z03 (λn v w=>∃ (i:Nat) (ys:List I.E),v=((i:Int),())/\a+1<=i/\b+1-i=n/\(i<=b\/b<a+1)/\Sw a b xs ys/\z12 lt ys a i/\Sat w (I.arr d ys::l)) (b+1-(a+1)) ?_ ?_
 ·exact ⟨a+1,xs,rfl,by omega,rfl,by omega,.refl _,λp q h1 h2 h3=>by omega,hs⟩
 rintro n _ w ⟨i,ys,rfl,hi,hn,hib,hsw,hso,hs⟩
 have hyl:=hsw.length
 refine z0r (λhc=>?_) λhc=>?_
 ·have hc:(i:Int)<b:=of_decide_eq_true hc
  refine zf (λv w'=>∃ ys,Sw a b xs ys/\z12 lt ys a (i+1)/\Sat w' (I.arr d ys::l)) ?_ ?_
  ·refine wp_lt ?_
   refine zf (λv w'=>∃ ys,Sw a b xs ys/\z12 lt ys a (i+1)/\Sat w' (I.arr d ys::l)) ?_ (λ_ w' h=>zp ⟨(),rfl,h⟩)
   refine z03 (λn v w=>∃ (j:Nat) (ys:List I.E),v=((j:Int),())/\a<=j/\j<=i/\j=n/\Sw a b xs ys/\(∀ p q,a<=p->p<q->q<=i->q≠j->z01 lt ys q p=false)/\Sat w (I.arr d ys::l)) i ?_ ?_
   ·exact ⟨i,ys,rfl,by omega,by omega,rfl,hsw,λp q h1 h2 h3 h4=>hso p q h1 h2 (by omega),hs⟩
   rintro n _ w ⟨j,ys,rfl,hj,hji,rfl,hsw,hso,hs⟩
   have hyl:=hsw.length
   refine z79 ok (f:=id) j (j-1) (λ_=>⟨rfl,by omega⟩) (λh=>?_) x0 hs λw' hs=>?_
   ·have h:(j:Int)>a:=of_decide_eq_true h
    exact ⟨by rw [w64 (by omega) (by omega)];omega,by omega⟩
   refine z0r (λhc2=>?_) λhc2=>?_
   ·have hc2:(decide ((j:Int)>a) && z01 lt ys j (j-1))=true:=hc2
    simp only [Bool.and_eq_true,decide_eq_true_eq] at hc2
    obtain ⟨h1,h2⟩:=hc2
    refine z32 ok j (j-1) rfl (by rw [w64 (by omega) (by omega)];omega) (by omega) (by omega) hs λw' hs=>?_
    refine z0p (y:=((j-1:Nat):Int)) (by rw [w64 (by omega) (by omega)];omega) ?_
    refine zp ⟨(((j-1:Nat):Int),()),j-1,by omega,rfl,j-1,_,rfl,by omega,by omega,rfl,.step hsw (by omega) (by omega) (by omega) (by omega),λp q p1 p2 p3 p4=>?_,hs⟩
    rw [z2n (by omega) (by omega)]
    unfold tr
    by_cases q1:q=j
    ·subst q1
     rw [if_pos rfl]
     by_cases q2:p=q-1
     ·subst q2
      rw [if_neg (by omega),if_pos rfl]
      exact lo.asymmAt h2
     ·rw [if_neg (by omega),if_neg q2]
      exact hso p (q-1) p1 (by omega) (by omega) (by omega)
    ·rw [if_neg q1,if_neg p4]
     by_cases q2:p=j
     ·subst q2
      rw [if_pos rfl]
      exact hso (p-1) q (by omega) (by omega) p3 q1
     ·rw [if_neg q2]
      by_cases q3:p=j-1
      ·subst q3
       rw [if_pos rfl]
       exact hso j q (by omega) (by omega) p3 q1
      ·rw [if_neg q3];exact hso p q p1 p2 p3 q1
   ·have hc2:(decide ((j:Int)>a) && z01 lt ys j (j-1))=false:=hc2
    refine zh ?_
    refine zp ⟨(),rfl,ys,hsw,λp q p1 p2 p3=>?_,hs⟩
    by_cases hq:q=j
    ·subst hq
     rw [decide_eq_true (show (q:Int)>a by omega),Bool.true_and] at hc2
     by_cases hp:p=q-1
     ·subst hp;exact hc2
     ·exact lo.transAt (q:=q-1) (by omega) hc2 (hso p (q-1) p1 (by omega) (by omega) (by omega))
    ·exact hso p q p1 p2 (by omega) hq
  ·rintro _ w' ⟨zs,hsw,hso,hs⟩
   refine z0p (y:=((i+1:Nat):Int)) (by rw [w64 (by omega) (by omega)];rfl) ?_
   exact zp ⟨(((i+1:Nat):Int),()),b+1-(i+1),by omega,rfl,i+1,zs,rfl,by omega,rfl,by omega,hsw,hso,hs⟩
 ·have hc:¬ (i:Int)<b:=of_decide_eq_false hc
  refine zh ?_
  refine zp ⟨(),rfl,ys,hsw,λp q p1 p2 p3=>hso p q p1 p2 (by omega),hs⟩
end
structure SortI.Impl (P:Program) (I:SortI):Prop where
 sift:∀ {d:Sl} {lo hi first:Int} {w:World} {R:List Value->World->Prop},((I.sift d lo hi first).wp P tt w λe vs w'=>e=0/\R vs w')->Ret P I.f_sift ([d.v,.int .i64 lo,.int .i64 hi,.int .i64 first]++I.ex).toArray w R
 ins:∀ {d:Sl} {a b:Int} {w:World} {R:List Value->World->Prop},((I.ins d a b).wp P tt w λe vs w'=>e=0/\R vs w')->Ret P I.f_ins ([d.v,.int .i64 a,.int .i64 b]++I.ex).toArray w R
 heap:∀ {d:Sl} {a b:Int} {w:World} {R:List Value->World->Prop},((I.heap d a b).wp P tt w λe vs w'=>e=0/\R vs w')->Ret P I.f_heap ([d.v,.int .i64 a,.int .i64 b]++I.ex).toArray w R
 brk:∀ {d:Sl} {a b:Int} {w:World} {R:List Value->World->Prop},((I.brk d a b).wp P tt w λe vs w'=>e=0/\R vs w')->Ret P I.f_brk ([d.v,.int .i64 a,.int .i64 b]++I.ex).toArray w R
 rev:∀ {d:Sl} {a b:Int} {w:World} {R:List Value->World->Prop},((I.rev d a b).wp P tt w λe vs w'=>e=0/\R vs w')->Ret P I.f_rev ([d.v,.int .i64 a,.int .i64 b]++I.ex).toArray w R
 pins:∀ {d:Sl} {a b:Int} {w:World} {R:List Value->World->Prop},((I.pins d a b).wp P tt w λe vs w'=>e=0/\R vs w')->Ret P I.f_pins ([d.v,.int .i64 a,.int .i64 b]++I.ex).toArray w R
 peq:∀ {d:Sl} {a b p:Int} {w:World} {R:List Value->World->Prop},((I.peq d a b p).wp P tt w λe vs w'=>e=0/\R vs w')->Ret P I.f_peq ([d.v,.int .i64 a,.int .i64 b,.int .i64 p]++I.ex).toArray w R
 part:∀ {d:Sl} {a b p:Int} {w:World} {R:List Value->World->Prop},((I.part d a b p).wp P tt w λe vs w'=>e=0/\R vs w')->Ret P I.f_part ([d.v,.int .i64 a,.int .i64 b,.int .i64 p]++I.ex).toArray w R
 pdq:∀ {d:Sl} {a b p:Int} {w:World} {R:List Value->World->Prop},((I.pdq d a b p).wp P tt w λe vs w'=>e=0/\R vs w')->Ret P I.f_pdq ([d.v,.int .i64 a,.int .i64 b,.int .i64 p]++I.ex).toArray w R
 piv:∀ {d:Sl} {a b:Int} {w:World} {R:List Value->World->Prop},((I.piv d a b).wp P tt w λe vs w'=>e=0/\R vs w')->Ret P I.f_piv ([d.v,.int .i64 a,.int .i64 b]++I.ex).toArray w R
 ord2:∀ {d:Sl} {a b:Int} {s:Option Addr} {w:World} {R:List Value->World->Prop},((I.ord2 d a b s).wp P tt w λe vs w'=>e=0/\R vs w')->Ret P I.f_ord2 ([d.v,.int .i64 a,.int .i64 b,.pointer s]++I.ex).toArray w R
 med:∀ {d:Sl} {a b c:Int} {s:Option Addr} {w:World} {R:List Value->World->Prop},((I.med d a b c s).wp P tt w λe vs w'=>e=0/\R vs w')->Ret P I.f_med ([d.v,.int .i64 a,.int .i64 b,.int .i64 c,.pointer s]++I.ex).toArray w R
 medj:∀ {d:Sl} {a:Int} {s:Option Addr} {w:World} {R:List Value->World->Prop},((I.medj d a s).wp P tt w λe vs w'=>e=0/\R vs w')->Ret P I.f_medj ([d.v,.int .i64 a,.pointer s]++I.ex).toArray w R
section
variable {P:Program} {I:SortI} {lt:I.E->I.E->Bool} {w:World} {l:List HP} {Q:Post} {d:Sl} {xs:List I.E}
theorem z08i (ok:I.Ok P lt) (im:I.Impl P) (x0:I.E) (a b:Nat) (hab:a<b) (hb:b<=xs.length) (h63:xs.length<4611686018427387904) (hs:Sat w (I.arr d xs::l)) :
  Ret P I.f_rev ([d.v,.int .i64 a,.int .i64 b]++I.ex).toArray w λvs w'=>vs=[]/\∃ ys,Sw a b xs ys/\Sat w' (I.arr d ys::l):=im.rev <| by
 unfold SortI.rev
 refine wp_lt ?_
 refine z0p (y:=((b-1:Nat):Int)) (by rw [w64 (by omega) (by omega)];omega) ?_
 refine zf (λv w'=>∃ ys,Sw a b xs ys/\Sat w' (I.arr d ys::l)) ?_ (λ_ w' h=>⟨rfl,rfl,h⟩)
 refine z03 (λn v w=>∃ (i j:Nat) (ys:List I.E),v=((i:Int),(j:Int),())/\a<=i/\j<b/\i+j=a+b-1/\j=n/\Sw a b xs ys/\Sat w (I.arr d ys::l)) (b-1) ?_ ?_
 ·exact ⟨a,b-1,xs,rfl,by omega,by omega,by omega,rfl,.refl _,hs⟩
 rintro n _ w ⟨i,j,ys,rfl,hi,hj,hij,rfl,hsw,hs⟩
 have hyl:=hsw.length
 refine z0r (λhc=>?_) λhc=>?_
 ·have hc:(i:Int)<j:=of_decide_eq_true hc
  refine z32 ok i j rfl rfl (by omega) (by omega) hs λw' hs=>?_
  refine z0p (y:=((i+1:Nat):Int)) (by rw [w64 (by omega) (by omega)];omega) ?_
  refine z0p (y:=((j-1:Nat):Int)) (by dsimp only;rw [w64 (by omega) (by omega)];omega) ?_
  exact zp ⟨(((i+1:Nat):Int),((j-1:Nat):Int),()),j-1,by omega,rfl,i+1,j-1,_,rfl,by omega,by omega,by omega,rfl,.step hsw (by omega) (by omega) (by omega) (by omega),hs⟩
 ·refine zh ?_
  exact zp ⟨(),rfl,ys,hsw,hs⟩
def kid (p c:Nat):Prop:=c=2*p+1\/c=2*p+2
def z8x (lt:I.E->I.E->Bool) (ys:List I.E) (f lo hi r:Nat):Prop :=
 (∀ p c,lo<=p->kid p c->c<hi->p≠r->z01 lt ys (f+p) (f+c)=false) /\
 (∀ q c,lo<=q->kid q r->kid r c->c<hi->z01 lt ys (f+q) (f+c)=false)
def zed (lt:I.E->I.E->Bool) (ys:List I.E) (f lo hi:Nat):Prop:=∀ p c,lo<=p->kid p c->c<hi->z01 lt ys (f+p) (f+c)=false
theorem zvl (lo':LtOk lt) {ys:List I.E} {f lo hi r c:Nat} (hf:f+hi<=ys.length) (h:z8x lt ys f lo hi r) (hlr:lo<=r) (hc:kid r c) (hch:c<hi)
  (hbig:∀ c',kid r c'->c'<hi->z01 lt ys (f+c) (f+c')=false) (hlt:z01 lt ys (f+r) (f+c)=true):z8x lt (z1w ys (f+r) (f+c)) f lo hi c:=by
 have hrc:r<c:=by rcases hc with h|h <;> omega
 refine ⟨λp k hp hk hkh hpc=>?_,λq k hq hqc hck hkh=>?_⟩
 ·rw [z2n (by omega) (by omega)]
  unfold tr
  by_cases h1:p=r
  ·subst h1
   rw [if_pos rfl,if_neg (by rcases hk with h|h <;> omega)]
   by_cases h2:k=c
   ·subst h2;rw [if_pos rfl];exact lo'.asymmAt hlt
   ·rw [if_neg (by omega)];exact hbig k hk hkh
  ·rw [if_neg (show ¬ f+p=f+r by omega),if_neg (show ¬ f+p=f+c by omega)]
   by_cases h2:k=r
   ·subst h2
    rw [if_pos rfl]
    exact h.2 p c hp hk hc hch
   ·rw [if_neg (show ¬ f+k=f+r by omega)]
    by_cases h3:k=c
    ·exfalso;subst h3;rcases hk with h|h <;> rcases hc with h'|h' <;> omega
    ·rw [if_neg (show ¬ f+k=f+c by omega)];exact h.1 p k hp hk hkh h1
 ·have hqr:q=r:=by rcases hqc with h|h <;> rcases hc with h'|h' <;> omega
  subst hqr
  have hck':c<k:=by rcases hck with h|h <;> omega
  rw [z2n (by omega) (by omega)]
  unfold tr
  rw [if_pos rfl,if_neg (show ¬ f+k=f+q by omega),if_neg (show ¬ f+k=f+c by omega)]
  exact h.1 c k (by omega) hck hkh (by omega)
theorem zwk (ok:I.Ok P lt) (im:I.Impl P) (lo':LtOk lt) (x0:I.E) (lo hi f:Nat) (hlo:lo<=hi) (hf:f+hi<=xs.length) (h63:xs.length<2305843009213693952) (hh:z8x lt xs f lo hi lo) (hs:Sat w (I.arr d xs::l)) :
  Ret P I.f_sift ([d.v,.int .i64 lo,.int .i64 hi,.int .i64 f]++I.ex).toArray w λvs w'=>vs=[]/\∃ ys,Sw (f+lo) (f+hi) xs ys/\zed lt ys f lo hi/\Sat w' (I.arr d ys::l):=im.sift <| by
 unfold SortI.sift
 refine wp_lt ?_
 refine zf (λv w'=>∃ ys,Sw (f+lo) (f+hi) xs ys/\zed lt ys f lo hi/\Sat w' (I.arr d ys::l)) ?_ (λ_ w' h=>⟨rfl,rfl,h⟩)
 refine z03 (λn v w=>∃ (r:Nat) (ys:List I.E),v=((r:Int),())/\lo<=r/\r<=hi/\hi-r=n/\Sw (f+lo) (f+hi) xs ys/\z8x lt ys f lo hi r/\Sat w (I.arr d ys::l)) (hi-lo) ?_ ?_
 ·exact ⟨lo,xs,rfl,by omega,hlo,rfl,.refl _,hh,hs⟩
 rintro n _ w ⟨r,ys,rfl,hr,hrh,hn,hsw,hh,hs⟩
 have hyl:=hsw.length
 refine z0p (y:=((2*r+1:Nat):Int)) (by rw [w64 (x:=2*(r:Int)) (by omega) (by omega),w64 (by omega) (by omega)];omega) ?_
 refine z0r (λhc=>?_) λhc=>?_
 ·have hc:((2*r+1:Nat):Int)>=hi:=of_decide_eq_true hc
  refine zh ?_
  refine zp ⟨(),rfl,ys,hsw,λp c h1 h2 h3=>hh.1 p c h1 h2 h3 ?_,hs⟩
  rintro rfl
  rcases h2 with h|h <;> omega
 have hc:¬ ((2*r+1:Nat):Int)>=hi:=of_decide_eq_false hc
 have e1:IntKind.wrap .i64 (((2*r+1:Nat):Int)+1)=((2*r+2:Nat):Int):=by rw [w64 (by omega) (by omega)];omega
 have e2:IntKind.wrap .i64 ((f:Int)+((2*r+1:Nat):Int))=((f+(2*r+1):Nat):Int):=by rw [w64 (by omega) (by omega)];omega
 refine z79 ok (f:=id) (f+(2*r+1)) (f+(2*r+2)) (λh=>⟨e2,by omega⟩) (λh=>?_) x0 hs λw' hs=>?_
 ·have h:IntKind.wrap .i64 (((2*r+1:Nat):Int)+1)<(hi:Int):=of_decide_eq_true h
  rw [e1] at h
  refine ⟨?_,by omega⟩
  rw [e2,w64 (by omega) (by omega)];omega
 have key:∃ c,(if decide (IntKind.wrap .i64 (((2*r+1:Nat):Int)+1)<(hi:Int)) && id (z01 lt ys (f+(2*r+1)) (f+(2*r+2))) then ((2*r+2:Nat):Int) else ((2*r+1:Nat):Int))=((c:Nat):Int)/\kid r c/\c<hi/\∀ c',kid r c'->c'<hi->z01 lt ys (f+c) (f+c')=false:=by
  rw [e1]
  by_cases h1:((2*r+2:Nat):Int)<hi
  ·cases h2:z01 lt ys (f+(2*r+1)) (f+(2*r+2)) with
   | true =>
    refine ⟨2*r+2,by rw [decide_eq_true h1];rfl,.inr rfl,by omega,λc' hk _=>?_⟩
    rcases hk with rfl|rfl
    ·exact lo'.asymmAt h2
    ·exact lo'.irrefl _
   | false =>
    refine ⟨2*r+1,by simp,.inl rfl,by omega,λc' hk _=>?_⟩
    rcases hk with rfl|rfl
    ·exact lo'.irrefl _
    ·exact h2
  ·refine ⟨2*r+1,by rw [decide_eq_false h1];simp,.inl rfl,by omega,λc' hk hc'=>?_⟩
   rcases hk with rfl|rfl
   ·exact lo'.irrefl _
   ·omega
 obtain ⟨c,hce,hck,hch,hbig⟩:=key
 have hrc:r<c:=by rcases hck with h|h <;> omega
 have hcb:c<=2*r+2:=by rcases hck with h|h <;> omega
 refine zf (λv w'=>v=((c:Int),())/\Sat w' (I.arr d ys::l)) ?_ ?_
 ·refine z0r (λh=>?_) λh=>?_
  ·have h:(decide (IntKind.wrap .i64 (((2*r+1:Nat):Int)+1)<(hi:Int)) && id (z01 lt ys (f+(2*r+1)) (f+(2*r+2))))=true:=h
   rw [h,if_pos rfl] at hce
   exact z0p (e1.trans hce) (zp ⟨((c:Int),()),rfl,rfl,hs⟩)
  ·have h:(decide (IntKind.wrap .i64 (((2*r+1:Nat):Int)+1)<(hi:Int)) && id (z01 lt ys (f+(2*r+1)) (f+(2*r+2))))=false:=h
   rw [h,if_neg (by simp)] at hce
   rw [hce]
   exact zp ⟨((c:Int),()),rfl,rfl,hs⟩
 rintro _ w ⟨rfl,hs⟩
 have e3:IntKind.wrap .i64 ((f:Int)+(r:Int))=((f+r:Nat):Int):=by rw [w64 (by omega) (by omega)];omega
 have e4:IntKind.wrap .i64 ((f:Int)+(c:Int))=((f+c:Nat):Int):=by rw [w64 (by omega) (by omega)];omega
 refine zbw ok (f+r) (f+c) e3 e4 (by omega) (by omega) hs λw' hs=>?_
 refine z0r (λh=>?_) λh=>?_
 ·have h:(!z01 lt ys (f+r) (f+c))=true:=h
  simp only [Bool.not_eq_true'] at h
  refine zh ?_
  refine zh ?_
  refine ⟨rfl,rfl,ys,hsw,λp k h1 h2 h3=>?_,hs⟩
  by_cases hp:p=r
  ·subst hp;exact lo'.transAt (q:=f+c) (by omega) h (hbig k h2 h3)
  ·exact hh.1 p k h1 h2 h3 hp
 ·have h:(!z01 lt ys (f+r) (f+c))=false:=h
  simp only [Bool.not_eq_false'] at h
  refine z32 ok (f+r) (f+c) e3 e4 (by omega) (by omega) hs λw' hs=>?_
  refine wp_lt ?_
  exact zp ⟨((c:Int),()),hi-c,by omega,rfl,c,_,rfl,by omega,by omega,rfl,.step hsw (by omega) (by omega) (by omega) (by omega),zvl lo' (by omega) hh hr hck hch hbig h,hs⟩
theorem zme {ys:List I.E} {f lo hi:Nat} (h:zed lt ys f (lo+1) hi):z8x lt ys f lo hi lo :=
 ⟨λp c h1 h2 h3 h4=>h p c (by omega) h2 h3,λq c h1 h2 h3 h4=>by rcases h2 with h|h <;> omega⟩
theorem zvk (lo':LtOk lt) {ys:List I.E} {f hi:Nat} (hf:f+hi<=ys.length) (h:zed lt ys f 0 hi):∀ k,k<hi->z01 lt ys f (f+k)=false:=by
 intro k
 induction k using Nat.strongRecOn with
 | _ k ih =>
  intro hk
  by_cases h0:k=0
  ·subst h0;exact lo'.irrefl _
  ·have hp:kid ((k-1) / 2) k:=by unfold kid;omega
   have h1:=ih ((k-1) / 2) (by omega) (by omega)
   have h2:=h ((k-1) / 2) k (by omega) hp hk
   exact lo'.transAt (q:=f+(k-1) / 2) (by omega) h1 h2
theorem z055 (ok:I.Ok P lt) (im:I.Impl P) (lo':LtOk lt) (x0:I.E) (a b:Nat) (hab:a<=b) (hb:b<=xs.length) (h63:xs.length<2305843009213693952) (hs:Sat w (I.arr d xs::l)) :
  Ret P I.f_heap ([d.v,.int .i64 a,.int .i64 b]++I.ex).toArray w λvs w'=>vs=[]/\∃ ys,Sw a b xs ys/\z12 lt ys a b/\Sat w' (I.arr d ys::l):=im.heap <| by
 unfold SortI.heap
 refine wp_lt ?_
 obtain ⟨n,rfl⟩:∃ n,b=a+n:=⟨b-a,by omega⟩
 refine z0p (y:=(n:Int)) (by rw [w64 (by omega) (by omega)];omega) ?_
 refine z0p (y:=if n=0 then 0 else (((n-1) / 2:Nat):Int)) ?_ ?_
 ·rw [w64 (x:=(n:Int)-1) (by omega) (by omega)]
  split
  ·rename_i h;subst h;decide
  ·rw [Int.tdiv_eq_ediv_of_nonneg (by omega),w64 (by omega) (by omega)];omega
 refine zf (λv w'=>∃ ys,Sw a (a+n) xs ys/\zed lt ys a 0 n/\Sat w' (I.arr d ys::l)) ?_ ?_
 ·refine z03 (λm v w=>∃ (i:Nat) (ys:List I.E),v=((i:Int)-1,())/\i=m/\i<=n+1/\Sw a (a+n) xs ys/\zed lt ys a i n/\Sat w (I.arr d ys::l)) (if n=0 then 1 else (n-1) / 2+1) ?_ ?_
  ·refine ⟨_,xs,?_,rfl,?_,.refl _,λp c h1 h2 h3=>?_,hs⟩
   ·split <;> simp
   ·split <;> omega
   ·exfalso
    split at h1 <;> rcases h2 with h|h <;> omega
  rintro m _ w ⟨i,ys,rfl,rfl,hi,hsw,hh,hs⟩
  have hyl:=hsw.length
  refine z0r (λhc=>?_) λhc=>?_
  ·have hc:(i:Int)-1>=0:=of_decide_eq_true hc
   obtain ⟨j,rfl⟩:∃ j,i=j+1:=⟨i-1,by omega⟩
   have e:((j+1:Nat):Int)-1=j:=by omega
   rw [e]
   refine wp_callS () (zwk ok im lo' x0 j n a (by omega) (by omega) (by omega) (zme hh) hs) rfl λw' h=>?_
   obtain ⟨zs,hz,hzh,hs⟩:=h
   refine ⟨trivial,?_⟩
   refine z0p (y:=(j:Int)-1) (w64 (by dsimp only;omega) (by dsimp only;omega)) ?_
   exact zp ⟨((j:Int)-1,()),j,by omega,rfl,j,zs,rfl,rfl,by omega,hsw.trans (hz.mono (by omega) (by omega)),hzh,hs⟩
  ·have hc:¬ (i:Int)-1>=0:=of_decide_eq_false hc
   refine zh ?_
   refine zp ⟨(),rfl,ys,hsw,?_,hs⟩
   rwa [show i=0 by omega] at hh
 rintro _ w ⟨ys,hsw,hh,hs⟩
 refine z0p (y:=(n:Int)-1) (w64 (by omega) (by omega)) ?_
 refine zf (λv w'=>∃ ys,Sw a (a+n) xs ys/\z12 lt ys a (a+n)/\Sat w' (I.arr d ys::l)) ?_ (λ_ w' h=>⟨rfl,rfl,h⟩)
 refine z03 (λm v w=>∃ (i:Nat) (ys:List I.E),v=((i:Int)-1,())/\i=m/\i<=n/\Sw a (a+n) xs ys/\zed lt ys a 0 i/\z12 lt ys (a+i) (a+n)/\(∀ p q,p<i->i<=q->q<n->z01 lt ys (a+q) (a+p)=false)/\Sat w (I.arr d ys::l)) n ?_ ?_
 ·exact ⟨n,ys,rfl,rfl,by omega,hsw,hh,λp q h1 h2 h3=>by omega,λp q h1 h2 h3=>by omega,hs⟩
 rintro m _ w ⟨i,ys,rfl,rfl,hi,hsw,hh,hso,hpq,hs⟩
 have hyl:=hsw.length
 refine z0r (λhc=>?_) λhc=>?_
 ·have hc:(i:Int)-1>=0:=of_decide_eq_true hc
  obtain ⟨j,rfl⟩:∃ j,i=j+1:=⟨i-1,by omega⟩
  have e:((j+1:Nat):Int)-1=j:=by omega
  rw [e]
  refine z32 ok a (a+j) rfl (by dsimp only;rw [w64 (by omega) (by omega)];omega) (by omega) (by omega) hs λw' hs=>?_
  have hroot:=zvk lo' (by omega) hh
  have hat:∀ p q,z01 lt (z1w ys a (a+j)) p q=z01 lt ys (tr a (a+j) p) (tr a (a+j) q):=λp q=>z2n (by omega) (by omega) p q
  have hbut:z8x lt (z1w ys a (a+j)) a 0 j 0:=by
   refine ⟨λp c h1 h2 h3 h4=>?_,λq c h1 h2 h3 h4=>by rcases h2 with h|h <;> omega⟩
   rw [hat]
   unfold tr
   rw [if_neg (show ¬ a+p=a by omega),if_neg (show ¬ a+p=a+j by rcases h2 with h|h <;> omega),if_neg (show ¬ a+c=a by rcases h2 with h|h <;> omega),if_neg (show ¬ a+c=a+j by omega)]
   exact hh p c h1 h2 (by omega)
  have hso':z12 lt (z1w ys a (a+j)) (a+j) (a+n):=λp q h1 h2 h3=>by
   rw [hat]
   unfold tr
   rw [if_neg (show ¬ q=a by omega),if_neg (show ¬ q=a+j by omega)]
   by_cases hp:p=a+j
   ·subst hp
    by_cases hj:j=0
    ·subst hj
     simp only [Nat.add_zero,if_true]
     obtain ⟨q',rfl⟩:∃ q',q=a+q':=⟨q-a,by omega⟩
     exact hpq 0 q' (by omega) (by omega) (by omega)
    ·rw [if_neg (by omega),if_pos rfl]
     obtain ⟨q',rfl⟩:∃ q',q=a+q':=⟨q-a,by omega⟩
     exact hpq 0 q' (by omega) (by omega) (by omega)
   ·rw [if_neg (show ¬ p=a by omega),if_neg hp]
    exact hso p q (by omega) h2 h3
  have hpq':∀ p q,p<j->j<=q->q<n->z01 lt (z1w ys a (a+j)) (a+q) (a+p)=false:=λp q h1 h2 h3=>by
   have hp':∃ p',tr a (a+j) (a+p)=a+p'/\p'<j+1:=by
    unfold tr
    split
    ·exact ⟨j,rfl,by omega⟩
    ·exact ⟨p,by rw [if_neg (by omega)],by omega⟩
   obtain ⟨p',hp',hlt⟩:=hp'
   rw [hat,hp']
   unfold tr
   rw [if_neg (show ¬ a+q=a by omega)]
   by_cases hq:a+q=a+j
   ·rw [if_pos hq];exact hroot p' hlt
   ·rw [if_neg hq];exact hpq p' q hlt (by omega) h3
  refine wp_callS () (zwk ok im lo' x0 0 j a (by omega) (by rw [z7k];omega) (by rw [z7k];omega) hbut hs) rfl λw' h=>?_
  obtain ⟨zs,hz,hzh,hs⟩:=h
  refine ⟨trivial,?_⟩
  refine z0p (y:=(j:Int)-1) (w64 (by dsimp only;omega) (by dsimp only;omega)) ?_
  have hz1:Sw a (a+n) (z1w ys a (a+j)) zs:=hz.mono (by omega) (by omega)
  refine zp ⟨((j:Int)-1,()),j,by omega,rfl,j,zs,rfl,rfl,by omega,(Sw.step hsw (by omega) (by omega) (by omega) (by omega)).trans hz1,hzh,λp q h1 h2 h3=>?_,λp q h1 h2 h3=>?_,hs⟩
  ·have hso':=hso' p q h1 h2 h3
   unfold z01 at *
   rw [hz.out (by omega),hz.out (by omega)]
   exact hso'
  ·
   have hall:=Sw.all hz (by rw [z7k];omega) (p:=λx=>∀ q y,j<=q->q<n->(z1w ys a (a+j))[a+q]? = some y->lt y x=false) (λk x hk1 hk2 hx q y hq1 hq2 hy=>by
    obtain ⟨k',rfl⟩:∃ k',k=a+k':=⟨k-a,by omega⟩
    have:=hpq' k' q (by omega) hq1 hq2
    unfold z01 at this
    rw [hx,hy] at this
    exact this)
   unfold z01
   cases hx:zs[a+p]? with
   | none=>split <;> simp_all
   | some x =>
    cases hy:zs[a+q]? with
    | none=>rfl
    | some y =>
     rw [hz.out (by omega)] at hy
     exact hall (a+p) x (by omega) (by omega) hx q y h2 h3 hy
 ·have hc:¬ (i:Int)-1>=0:=of_decide_eq_false hc
  refine zh ?_
  refine zp ⟨(),rfl,ys,hsw,?_,hs⟩
  have:i=0:=by omega
  subst this
  exact hso
end
section
variable {P:Program} {I:SortI} {lt:I.E->I.E->Bool} {w:World} {l:List HP} {Q:Post} {d:Sl} {xs:List I.E}
theorem zlr (ok:I.Ok P lt) (x0:I.E) {e e1 e2:Nat} {f:Bool->Bool} (i j a:Nat) {K:Int × Unit->Prog} (h12:Nat.beq e e1=false:=by rfl) (hij:i<=j+1) (hj:j<xs.length) (ha:a<xs.length) (h63:xs.length<2305843009213693952) (hs:Sat w (I.arr d xs::l))
  (h:∀ (r:Nat) w',i<=r->r<=j+1->(∀ k,i<=k->k<r->f (z01 lt xs k a)=true)->(r<=j->f (z01 lt xs r a)=false)->Sat w' (I.arr d xs::l)->(K ((r:Int),())).wp P tt w' Q) :
  (Prog.bind e [.one (.int .i64)] (.loop e1 [.one (.int .i64)] ((i:Int),()) (u1 λ(n:Int)=>(.bind e2 [.one .bool] (.tick <| .ex [.adr] (c1 λz=>decide (n<=(j:Int))=true->0<=n/\n<((d.len:Nat):Int)/\d.a=some z) (u1 λa'=>.read (decide (n<=(j:Int))=true) (ld I.T (Addr.add a' (Int.toNat n*I.sz))) (.one I.s) (λx =>
   .ex [.adr] (c1 λz=>decide (n<=(j:Int))=true->0<=(a:Int)/\(a:Int)<((d.len:Nat):Int)/\d.a=some z) (u1 λa'=>.read (decide (n<=(j:Int))=true) (ld I.T (Addr.add a' (Int.toNat (a:Int)*I.sz))) (.one I.s) (λy =>
   .ite (decide (n<=(j:Int))) (I.less x y (λb=>.untick (.done e2 [.bool (f b)]))) (.untick (.done e2 [.bool false]))))))) (u1 λb=>.ite b (.lt (.int .i64) (IntKind.wrap .i64 (n+1)) λn'=>.done e1 [.int .i64 n']) (.done e [.int .i64 n]))))) K).wp P tt w Q:=by
 refine zf (λv w'=>∃ r:Nat,v=((r:Int),())/\i<=r/\r<=j+1/\(∀ k,i<=k->k<r->f (z01 lt xs k a)=true)/\(r<=j->f (z01 lt xs r a)=false)/\Sat w' (I.arr d xs::l)) ?_ (by rintro _ w' ⟨r,rfl,h1,h2,h3,h4,hs⟩;exact h r w' h1 h2 h3 h4 hs)
 refine z03 (λm v w=>∃ r:Nat,v=((r:Int),())/\i<=r/\r<=j+1/\j+1-r=m/\(∀ k,i<=k->k<r->f (z01 lt xs k a)=true)/\Sat w (I.arr d xs::l)) (j+1-i) ⟨i,rfl,by omega,hij,rfl,λk h1 h2=>by omega,hs⟩ ?_
 rintro m _ w ⟨r,rfl,h1,h2,h3,h4,hs⟩
 refine z79 ok (f:=f) r a (λhg=>⟨rfl,by have hg:(r:Int)<=(j:Int):=of_decide_eq_true hg;omega⟩) (λ_=>⟨rfl,ha⟩) x0 hs λw' hs=>?_
 refine z0r (λhc=>?_) λhc=>?_
 ·have hc:(decide ((r:Int)<=(j:Int)) && f (z01 lt xs r a))=true:=hc
  simp only [Bool.and_eq_true,decide_eq_true_eq] at hc
  refine z0p (y:=((r+1:Nat):Int)) (by dsimp only;rw [w64 (by omega) (by omega)];omega) ?_
  refine zp ⟨(((r+1:Nat):Int),()),j+1-(r+1),by omega,rfl,r+1,rfl,by omega,by omega,rfl,λk k1 k2=>?_,hs⟩
  by_cases hk:k=r
  ·subst hk;exact hc.2
  ·exact h4 k (by omega) (by omega)
 ·have hc:(decide ((r:Int)<=(j:Int)) && f (z01 lt xs r a))=false:=hc
  refine zh ?_ h12
  refine zp ⟨((r:Int),()),rfl,r,rfl,h1,h2,h4,λhr=>?_,hs⟩
  rwa [decide_eq_true (show (r:Int)<=(j:Int) by omega),Bool.true_and] at hc
theorem zlp (ok:I.Ok P lt) (x0:I.E) {e e1 e2:Nat} {f:Bool->Bool} (i j a:Nat) {K:Int × Unit->Prog} (h12:Nat.beq e e1=false:=by rfl) (hij:i<=j+1) (hi1:1<=i) (hj:j<xs.length) (ha:a<xs.length) (h63:xs.length<2305843009213693952) (hs:Sat w (I.arr d xs::l))
  (h:∀ (r:Nat) w',i<=r+1->r<=j->(∀ k,r<k->k<=j->f (z01 lt xs k a)=true)->(i<=r->f (z01 lt xs r a)=false)->Sat w' (I.arr d xs::l)->(K ((r:Int),())).wp P tt w' Q) :
  (Prog.bind e [.one (.int .i64)] (.loop e1 [.one (.int .i64)] ((j:Int),()) (u1 λ(n:Int)=>(.bind e2 [.one .bool] (.tick <| .ex [.adr] (c1 λz=>decide ((i:Int)<=n)=true->0<=n/\n<((d.len:Nat):Int)/\d.a=some z) (u1 λa'=>.read (decide ((i:Int)<=n)=true) (ld I.T (Addr.add a' (Int.toNat n*I.sz))) (.one I.s) (λx =>
   .ex [.adr] (c1 λz=>decide ((i:Int)<=n)=true->0<=(a:Int)/\(a:Int)<((d.len:Nat):Int)/\d.a=some z) (u1 λa'=>.read (decide ((i:Int)<=n)=true) (ld I.T (Addr.add a' (Int.toNat (a:Int)*I.sz))) (.one I.s) (λy =>
   .ite (decide ((i:Int)<=n)) (I.less x y (λb=>.untick (.done e2 [.bool (f b)]))) (.untick (.done e2 [.bool false]))))))) (u1 λb=>.ite b (.lt (.int .i64) (IntKind.wrap .i64 (n-1)) λn'=>.done e1 [.int .i64 n']) (.done e [.int .i64 n]))))) K).wp P tt w Q:=by
 refine zf (λv w'=>∃ r:Nat,v=((r:Int),())/\i<=r+1/\r<=j/\(∀ k,r<k->k<=j->f (z01 lt xs k a)=true)/\(i<=r->f (z01 lt xs r a)=false)/\Sat w' (I.arr d xs::l)) ?_ (by rintro _ w' ⟨r,rfl,h1,h2,h3,h4,hs⟩;exact h r w' h1 h2 h3 h4 hs)
 refine z03 (λm v w=>∃ r:Nat,v=((r:Int),())/\i<=r+1/\r<=j/\r=m/\(∀ k,r<k->k<=j->f (z01 lt xs k a)=true)/\Sat w (I.arr d xs::l)) j ⟨j,rfl,hij,by omega,rfl,λk h1 h2=>by omega,hs⟩ ?_
 rintro m _ w ⟨r,rfl,h1,h2,h3,h4,hs⟩
 refine z79 ok (f:=f) r a (λhg=>⟨rfl,by have hg:(i:Int)<=(r:Int):=of_decide_eq_true hg;omega⟩) (λ_=>⟨rfl,ha⟩) x0 hs λw' hs=>?_
 refine z0r (λhc=>?_) λhc=>?_
 ·have hc:(decide ((i:Int)<=(r:Int)) && f (z01 lt xs r a))=true:=hc
  simp only [Bool.and_eq_true,decide_eq_true_eq] at hc
  refine z0p (y:=((r-1:Nat):Int)) (by dsimp only;rw [w64 (by omega) (by omega)];omega) ?_
  refine zp ⟨(((r-1:Nat):Int),()),r-1,by omega,rfl,r-1,rfl,by omega,by omega,rfl,λk k1 k2=>?_,hs⟩
  by_cases hk:k=r
  ·subst hk;exact hc.2
  ·exact h4 k (by omega) (by omega)
 ·have hc:(decide ((i:Int)<=(r:Int)) && f (z01 lt xs r a))=false:=hc
  refine zh ?_ h12
  refine zp ⟨((r:Int),()),rfl,r,rfl,h1,h2,h4,λhr=>?_,hs⟩
  rwa [decide_eq_true (show (i:Int)<=(r:Int) by omega),Bool.true_and] at hc
theorem zz0 (ok:I.Ok P lt) (x0:I.E) {e e1 e2:Nat} {f:Bool->Bool} (i j a:Nat) {K:Int × Unit->Prog} (h12:Nat.beq e e1=false:=by rfl) (hij:i<=j+1) (hj:j<xs.length) (ha:a<xs.length) (h63:xs.length<2305843009213693952) (hs:Sat w (I.arr d xs::l))
  (h:∀ (r:Nat) w',i<=r->r<=j+1->(∀ k,i<=k->k<r->f (z01 lt xs a k)=true)->(r<=j->f (z01 lt xs a r)=false)->Sat w' (I.arr d xs::l)->(K ((r:Int),())).wp P tt w' Q) :
  (Prog.bind e [.one (.int .i64)] (.loop e1 [.one (.int .i64)] ((i:Int),()) (u1 λ(n:Int)=>(.bind e2 [.one .bool] (.tick <| .ex [.adr] (c1 λz=>decide (n<=(j:Int))=true->0<=(a:Int)/\(a:Int)<((d.len:Nat):Int)/\d.a=some z) (u1 λa'=>.read (decide (n<=(j:Int))=true) (ld I.T (Addr.add a' (Int.toNat (a:Int)*I.sz))) (.one I.s) (λx =>
   .ex [.adr] (c1 λz=>decide (n<=(j:Int))=true->0<=n/\n<((d.len:Nat):Int)/\d.a=some z) (u1 λa'=>.read (decide (n<=(j:Int))=true) (ld I.T (Addr.add a' (Int.toNat n*I.sz))) (.one I.s) (λy =>
   .ite (decide (n<=(j:Int))) (I.less x y (λb=>.untick (.done e2 [.bool (f b)]))) (.untick (.done e2 [.bool false]))))))) (u1 λb=>.ite b (.lt (.int .i64) (IntKind.wrap .i64 (n+1)) λn'=>.done e1 [.int .i64 n']) (.done e [.int .i64 n]))))) K).wp P tt w Q:=by
 refine zf (λv w'=>∃ r:Nat,v=((r:Int),())/\i<=r/\r<=j+1/\(∀ k,i<=k->k<r->f (z01 lt xs a k)=true)/\(r<=j->f (z01 lt xs a r)=false)/\Sat w' (I.arr d xs::l)) ?_ (by rintro _ w' ⟨r,rfl,h1,h2,h3,h4,hs⟩;exact h r w' h1 h2 h3 h4 hs)
 refine z03 (λm v w=>∃ r:Nat,v=((r:Int),())/\i<=r/\r<=j+1/\j+1-r=m/\(∀ k,i<=k->k<r->f (z01 lt xs a k)=true)/\Sat w (I.arr d xs::l)) (j+1-i) ⟨i,rfl,by omega,hij,rfl,λk h1 h2=>by omega,hs⟩ ?_
 rintro m _ w ⟨r,rfl,h1,h2,h3,h4,hs⟩
 refine z79 ok (f:=f) a r (λ_=>⟨rfl,ha⟩) (λhg=>⟨rfl,by have hg:(r:Int)<=(j:Int):=of_decide_eq_true hg;omega⟩) x0 hs λw' hs=>?_
 refine z0r (λhc=>?_) λhc=>?_
 ·have hc:(decide ((r:Int)<=(j:Int)) && f (z01 lt xs a r))=true:=hc
  simp only [Bool.and_eq_true,decide_eq_true_eq] at hc
  refine z0p (y:=((r+1:Nat):Int)) (by dsimp only;rw [w64 (by omega) (by omega)];omega) ?_
  refine zp ⟨(((r+1:Nat):Int),()),j+1-(r+1),by omega,rfl,r+1,rfl,by omega,by omega,rfl,λk k1 k2=>?_,hs⟩
  by_cases hk:k=r
  ·subst hk;exact hc.2
  ·exact h4 k (by omega) (by omega)
 ·have hc:(decide ((r:Int)<=(j:Int)) && f (z01 lt xs a r))=false:=hc
  refine zh ?_ h12
  refine zp ⟨((r:Int),()),rfl,r,rfl,h1,h2,h4,λhr=>?_,hs⟩
  rwa [decide_eq_true (show (r:Int)<=(j:Int) by omega),Bool.true_and] at hc
theorem zyz (ok:I.Ok P lt) (x0:I.E) {e e1 e2:Nat} {f:Bool->Bool} (i j a:Nat) {K:Int × Unit->Prog} (h12:Nat.beq e e1=false:=by rfl) (hij:i<=j+1) (hi1:1<=i) (hj:j<xs.length) (ha:a<xs.length) (h63:xs.length<2305843009213693952) (hs:Sat w (I.arr d xs::l))
  (h:∀ (r:Nat) w',i<=r+1->r<=j->(∀ k,r<k->k<=j->f (z01 lt xs a k)=true)->(i<=r->f (z01 lt xs a r)=false)->Sat w' (I.arr d xs::l)->(K ((r:Int),())).wp P tt w' Q) :
  (Prog.bind e [.one (.int .i64)] (.loop e1 [.one (.int .i64)] ((j:Int),()) (u1 λ(n:Int)=>(.bind e2 [.one .bool] (.tick <| .ex [.adr] (c1 λz=>decide ((i:Int)<=n)=true->0<=(a:Int)/\(a:Int)<((d.len:Nat):Int)/\d.a=some z) (u1 λa'=>.read (decide ((i:Int)<=n)=true) (ld I.T (Addr.add a' (Int.toNat (a:Int)*I.sz))) (.one I.s) (λx =>
   .ex [.adr] (c1 λz=>decide ((i:Int)<=n)=true->0<=n/\n<((d.len:Nat):Int)/\d.a=some z) (u1 λa'=>.read (decide ((i:Int)<=n)=true) (ld I.T (Addr.add a' (Int.toNat n*I.sz))) (.one I.s) (λy =>
   .ite (decide ((i:Int)<=n)) (I.less x y (λb=>.untick (.done e2 [.bool (f b)]))) (.untick (.done e2 [.bool false]))))))) (u1 λb=>.ite b (.lt (.int .i64) (IntKind.wrap .i64 (n-1)) λn'=>.done e1 [.int .i64 n']) (.done e [.int .i64 n]))))) K).wp P tt w Q:=by
 refine zf (λv w'=>∃ r:Nat,v=((r:Int),())/\i<=r+1/\r<=j/\(∀ k,r<k->k<=j->f (z01 lt xs a k)=true)/\(i<=r->f (z01 lt xs a r)=false)/\Sat w' (I.arr d xs::l)) ?_ (by rintro _ w' ⟨r,rfl,h1,h2,h3,h4,hs⟩;exact h r w' h1 h2 h3 h4 hs)
 refine z03 (λm v w=>∃ r:Nat,v=((r:Int),())/\i<=r+1/\r<=j/\r=m/\(∀ k,r<k->k<=j->f (z01 lt xs a k)=true)/\Sat w (I.arr d xs::l)) j ⟨j,rfl,hij,by omega,rfl,λk h1 h2=>by omega,hs⟩ ?_
 rintro m _ w ⟨r,rfl,h1,h2,h3,h4,hs⟩
 refine z79 ok (f:=f) a r (λ_=>⟨rfl,ha⟩) (λhg=>⟨rfl,by have hg:(i:Int)<=(r:Int):=of_decide_eq_true hg;omega⟩) x0 hs λw' hs=>?_
 refine z0r (λhc=>?_) λhc=>?_
 ·have hc:(decide ((i:Int)<=(r:Int)) && f (z01 lt xs a r))=true:=hc
  simp only [Bool.and_eq_true,decide_eq_true_eq] at hc
  refine z0p (y:=((r-1:Nat):Int)) (by dsimp only;rw [w64 (by omega) (by omega)];omega) ?_
  refine zp ⟨(((r-1:Nat):Int),()),r-1,by omega,rfl,r-1,rfl,by omega,by omega,rfl,λk k1 k2=>?_,hs⟩
  by_cases hk:k=r
  ·subst hk;exact hc.2
  ·exact h4 k (by omega) (by omega)
 ·have hc:(decide ((i:Int)<=(r:Int)) && f (z01 lt xs a r))=false:=hc
  refine zh ?_ h12
  refine zp ⟨((r:Int),()),rfl,r,rfl,h1,h2,h4,λhr=>?_,hs⟩
  rwa [decide_eq_true (show (i:Int)<=(r:Int) by omega),Bool.true_and] at hc
end
section
variable {P:Program} {I:SortI} {lt:I.E->I.E->Bool} {w:World} {l:List HP} {Q:Post} {d:Sl} {xs ys:List I.E}
def z9o (lt:I.E->I.E->Bool) (ys:List I.E) (a b i j:Nat):Prop :=
 a+1<=i/\i<=j+1/\j<b/\(∀ k,a+1<=k->k<i->z01 lt ys k a=true)/\(∀ k,j<k->k<b->z01 lt ys k a=false)
def zzs (lt:I.E->I.E->Bool) (ys:List I.E) (a b m:Nat):Prop :=
 a<=m/\m<b/\(∀ k,a<=k->k<m->z01 lt ys k m=true)/\(∀ k,m<k->k<b->z01 lt ys k m=false)
theorem ziv {a b i j:Nat} (hb:b<=ys.length) (h:z9o lt ys a b i j) (hij:i<j) (hi:z01 lt ys i a=false) (hj:z01 lt ys j a=true):z9o lt (z1w ys i j) a b (i+1) (j-1):=by
 obtain ⟨h1,h2,h3,h4,h5⟩:=h
 have ha:tr i j a=a:=by unfold tr;rw [if_neg (by omega),if_neg (by omega)]
 refine ⟨by omega,by omega,by omega,λk k1 k2=>?_,λk k1 k2=>?_⟩
 ·rw [z2n (by omega) (by omega),ha]
  unfold tr
  split
  ·exact hj
  ·rw [if_neg (by omega)];exact h4 k k1 (by omega)
 ·rw [z2n (by omega) (by omega),ha]
  unfold tr
  rw [if_neg (by omega)]
  split
  ·exact hi
  ·exact h5 k (by omega) k2
theorem zlb {a b i j:Nat} (hb:b<=ys.length) (h:z9o lt ys a b i j) (hij:j<i):zzs lt (z1w ys j a) a b j:=by
 obtain ⟨h1,h2,h3,h4,h5⟩:=h
 have hj:tr j a j=a:=by unfold tr;rw [if_pos rfl]
 refine ⟨by omega,h3,λk k1 k2=>?_,λk k1 k2=>?_⟩
 ·rw [z2n (by omega) (by omega),hj]
  unfold tr
  rw [if_neg (by omega)]
  split
  ·exact h4 j (by omega) (by omega)
  ·exact h4 k (by omega) (by omega)
 ·rw [z2n (by omega) (by omega),hj]
  unfold tr
  rw [if_neg (by omega),if_neg (by omega)]
  exact h5 k k1 k2
theorem z05p (ok:I.Ok P lt) (im:I.Impl P) (x0:I.E) (a b p:Nat) (hap:a<=p) (hpb:p<b) (hb:b<=xs.length) (h63:xs.length<2305843009213693952) (hs:Sat w (I.arr d xs::l)) :
  Ret P I.f_part ([d.v,.int .i64 a,.int .i64 b,.int .i64 p]++I.ex).toArray w λvs w'=>∃ (m:Nat) (q:Bool) (ys:List I.E),vs=[.int .i64 m,.bool q]/\Sw a b xs ys/\zzs lt ys a b m/\Sat w' (I.arr d ys::l):=im.part <| by
 unfold SortI.part
 refine z32 ok a p rfl rfl (by omega) (by omega) hs λw' hs=>?_
 have hsw:Sw a b xs (z1w xs a p):=.step (.refl _) (by omega) (by omega) (by omega) (by omega)
 generalize z1w xs a p=ys at *
 have hyl:=hsw.length
 refine z0p (y:=((a+1:Nat):Int)) (by rw [w64 (by omega) (by omega)];omega) ?_
 refine z0p (y:=((b-1:Nat):Int)) (by rw [w64 (by omega) (by omega)];omega) ?_
 refine zlr ok x0 (f:=id) (a+1) (b-1) a rfl (by omega) (by omega) (by omega) (by omega) hs λi w' i1 i2 i3 i4 hs=>?_
 refine zlp ok x0 (f:=not) i (b-1) a rfl (by omega) (by omega) (by omega) (by omega) (by omega) hs λj w' j1 j2 j3 j4 hs=>?_
 have hI:z9o lt ys a b i j:=⟨i1,j1,by omega,i3,λk k1 k2=>by simpa using j3 k k1 (by omega)⟩
 refine z0r (λhc=>?_) λhc=>?_
 ·have hc:(i:Int)>j:=of_decide_eq_true hc
  refine z32 ok j a rfl rfl (by omega) (by omega) hs λw' hs=>?_
  refine wp_lt ?_
  exact ⟨rfl,j,true,_,rfl,.step hsw (by omega) (by omega) (by omega) (by omega),zlb (by omega) hI (by omega),hs⟩
 ·have hc:¬ (i:Int)>j:=of_decide_eq_false hc
  have hia:=i4 (by omega)
  have hja:z01 lt ys j a=true:=by simpa using j4 (by omega)
  have hne:i≠j:=by rintro rfl;rw [id,hja] at hia;cases hia
  refine z32 ok i j rfl rfl (by omega) (by omega) hs λw' hs=>?_
  have hI2:=ziv (by omega) hI (by omega) hia hja
  have hsw2:Sw a b xs (z1w ys i j):=.step hsw (by omega) (by omega) (by omega) (by omega)
  refine z0p (y:=((i+1:Nat):Int)) (by dsimp only;rw [w64 (by omega) (by omega)];omega) ?_
  refine z0p (y:=((j-1:Nat):Int)) (by dsimp only;rw [w64 (by omega) (by omega)];omega) ?_
  refine zf (λv w'=>∃ (i j:Nat) (ys:List I.E),v=((j:Int),())/\j<i/\z9o lt ys a b i j/\Sw a b xs ys/\Sat w' (I.arr d ys::l)) ?_ ?_
  ·refine z03 (λn v w=>∃ (i j:Nat) (ys:List I.E),v=((i:Int),(j:Int),())/\z9o lt ys a b i j/\j=n/\Sw a b xs ys/\Sat w (I.arr d ys::l)) (j-1) ⟨i+1,j-1,_,rfl,hI2,rfl,hsw2,hs⟩ ?_
   clear hI hI2 hsw hsw2 hs i1 i2 i3 i4 j1 j2 j3 j4 hc hia hja hne hyl
   rintro n _ w ⟨i',j',ys,rfl,⟨h1,h2,h3,h4,h5⟩,rfl,hsw,hs⟩
   have hyl:=hsw.length
   refine zf (λv w'=>∃ (i j:Nat) (ys:List I.E),v=((i:Int),(j:Int),())/\z9o lt ys a b i j/\j<j'/\Sw a b xs ys/\Sat w' (I.arr d ys::l)) ?_ ?_
   ·refine zlr ok x0 (f:=id) i' j' a rfl (by omega) (by omega) (by omega) (by omega) hs λi w' i1 i2 i3 i4 hs=>?_
    refine zlp ok x0 (f:=not) i j' a rfl (by omega) (by omega) (by omega) (by omega) (by omega) hs λj w' j1 j2 j3 j4 hs=>?_
    have hI:z9o lt ys a b i j:=⟨by omega,j1,by omega,λk k1 k2=>if hk:k<i' then h4 k k1 hk else i3 k (by omega) k2,λk k1 k2=>if hk:j'<k then h5 k hk k2 else by simpa using j3 k k1 (by omega)⟩
    refine z0r (λhc=>?_) λhc=>?_
    ·have hc:(i:Int)>j:=of_decide_eq_true hc
     refine zh ?_
     refine zh ?_
     exact zp ⟨((j:Int),()),rfl,i,j,ys,rfl,by omega,hI,hsw,hs⟩
    ·have hc:¬ (i:Int)>j:=of_decide_eq_false hc
     have hia:=i4 (by omega)
     have hja:z01 lt ys j a=true:=by simpa using j4 (by omega)
     have hne:i≠j:=by rintro rfl;rw [id,hja] at hia;cases hia
     refine z32 ok i j rfl rfl (by omega) (by omega) hs λw' hs=>?_
     refine z0p (y:=((i+1:Nat):Int)) (by dsimp only;rw [w64 (by omega) (by omega)];omega) ?_
     refine z0p (y:=((j-1:Nat):Int)) (by dsimp only;rw [w64 (by omega) (by omega)];omega) ?_
     exact zp ⟨(((i+1:Nat):Int),((j-1:Nat):Int),()),rfl,i+1,j-1,_,rfl,ziv (by omega) hI (by omega) hia hja,by omega,.step hsw (by omega) (by omega) (by omega) (by omega),hs⟩
   ·rintro _ w' ⟨i,j,ys,rfl,hI,hlt,hsw,hs⟩
    exact zp ⟨((i:Int),(j:Int),()),j,hlt,rfl,i,j,ys,rfl,hI,rfl,hsw,hs⟩
  ·rintro _ w' ⟨i,j,ys,rfl,hij,hI,hsw,hs⟩
   have hyl:=hsw.length
   have hjb:=hI.2.2.1
   have h1:=hI.1
   have h2:=hI.2.1
   refine z32 ok j a rfl rfl (by omega) (by omega) hs λw' hs=>?_
   refine wp_lt ?_
   exact ⟨rfl,j,false,_,rfl,.step hsw (by omega) (by omega) (by omega) (by omega),zlb (by omega) hI hij,hs⟩
def EqI (lt:I.E->I.E->Bool) (ys:List I.E) (a b i j:Nat):Prop :=
 a+1<=i/\i<=j+1/\j<b/\(∀ k,a+1<=k->k<i->z01 lt ys a k=false)/\(∀ k,j<k->k<b->z01 lt ys a k=true)
theorem z02w {a b i j:Nat} (hb:b<=ys.length) (h:EqI lt ys a b i j) (hij:i<j) (hi:z01 lt ys a i=true) (hj:z01 lt ys a j=false):EqI lt (z1w ys i j) a b (i+1) (j-1):=by
 obtain ⟨h1,h2,h3,h4,h5⟩:=h
 have ha:tr i j a=a:=by unfold tr;rw [if_neg (by omega),if_neg (by omega)]
 refine ⟨by omega,by omega,by omega,λk k1 k2=>?_,λk k1 k2=>?_⟩
 ·rw [z2n (by omega) (by omega),ha]
  unfold tr
  split
  ·exact hj
  ·rw [if_neg (by omega)];exact h4 k k1 (by omega)
 ·rw [z2n (by omega) (by omega),ha]
  unfold tr
  rw [if_neg (by omega)]
  split
  ·exact hi
  ·exact h5 k (by omega) k2
theorem z08f (ok:I.Ok P lt) (im:I.Impl P) (x0:I.E) (a b p:Nat) (hap:a<=p) (hpb:p<b) (hb:b<=xs.length) (h63:xs.length<2305843009213693952) (hs:Sat w (I.arr d xs::l)) :
  Ret P I.f_peq ([d.v,.int .i64 a,.int .i64 b,.int .i64 p]++I.ex).toArray w λvs w'=>∃ (m:Nat) (ys:List I.E),vs=[.int .i64 m]/\Sw a b xs ys/\ys[a]? = xs[p]? /\ a<m/\m<=b/\(∀ k,a+1<=k->k<m->z01 lt ys a k=false)/\(∀ k,m<=k->k<b->z01 lt ys a k=true)/\Sat w' (I.arr d ys::l):=im.peq <| by
 unfold SortI.peq
 refine z32 ok a p rfl rfl (by omega) (by omega) hs λw' hs=>?_
 have hsw:Sw a b xs (z1w xs a p):=.step (.refl _) (by omega) (by omega) (by omega) (by omega)
 have hya:(z1w xs a p)[a]? = xs[p]? := by rw [za3 (by omega) (by omega)];unfold tr;rw [if_pos rfl]
 generalize z1w xs a p=ys at *
 have hyl:=hsw.length
 refine z0p (y:=((a+1:Nat):Int)) (by rw [w64 (by omega) (by omega)];omega) ?_
 refine z0p (y:=((b-1:Nat):Int)) (by rw [w64 (by omega) (by omega)];omega) ?_
 refine zf (λv w'=>∃ (i j:Nat) (ys:List I.E),v=((i:Int),())/\j<i/\EqI lt ys a b i j/\Sw a b xs ys/\ys[a]? = xs[p]? /\ Sat w' (I.arr d ys::l)) ?_ ?_
 ·refine z03 (λn v w=>∃ (i j:Nat) (ys:List I.E),v=((i:Int),(j:Int),())/\EqI lt ys a b i j/\j=n/\Sw a b xs ys/\ys[a]? = xs[p]? /\ Sat w (I.arr d ys::l)) (b-1) ⟨a+1,b-1,_,rfl,⟨by omega,by omega,by omega,λk k1 k2=>by omega,λk k1 k2=>by omega⟩,rfl,hsw,hya,hs⟩ ?_
  clear hsw hs hya hyl
  rintro n _ w ⟨i',j',ys,rfl,⟨h1,h2,h3,h4,h5⟩,rfl,hsw,hya,hs⟩
  have hyl:=hsw.length
  refine zf (λv w'=>∃ (i j:Nat) (ys:List I.E),v=((i:Int),(j:Int),())/\EqI lt ys a b i j/\j<j'/\Sw a b xs ys/\ys[a]? = xs[p]? /\ Sat w' (I.arr d ys::l)) ?_ ?_
  ·refine zz0 ok x0 (f:=not) i' j' a rfl (by omega) (by omega) (by omega) (by omega) hs λi w' i1 i2 i3 i4 hs=>?_
   refine zyz ok x0 (f:=id) i j' a rfl (by omega) (by omega) (by omega) (by omega) (by omega) hs λj w' j1 j2 j3 j4 hs=>?_
   have hI:EqI lt ys a b i j:=⟨by omega,j1,by omega,λk k1 k2=>if hk:k<i' then h4 k k1 hk else by simpa using i3 k (by omega) k2,λk k1 k2=>if hk:j'<k then h5 k hk k2 else j3 k k1 (by omega)⟩
   refine z0r (λhc=>?_) λhc=>?_
   ·have hc:(i:Int)>j:=of_decide_eq_true hc
    refine zh ?_
    refine zh ?_
    exact zp ⟨((i:Int),()),rfl,i,j,ys,rfl,by omega,hI,hsw,hya,hs⟩
   ·have hc:¬ (i:Int)>j:=of_decide_eq_false hc
    have hia:z01 lt ys a i=true:=by simpa using i4 (by omega)
    have hja:=j4 (by omega)
    have hne:i≠j:=by rintro rfl;rw [id,hia] at hja;cases hja
    refine z32 ok i j rfl rfl (by omega) (by omega) hs λw' hs=>?_
    refine z0p (y:=((i+1:Nat):Int)) (by dsimp only;rw [w64 (by omega) (by omega)];omega) ?_
    refine z0p (y:=((j-1:Nat):Int)) (by dsimp only;rw [w64 (by omega) (by omega)];omega) ?_
    refine zp ⟨(((i+1:Nat):Int),((j-1:Nat):Int),()),rfl,i+1,j-1,_,rfl,z02w (by omega) hI (by omega) hia hja,by omega,.step hsw (by omega) (by omega) (by omega) (by omega),?_,hs⟩
    rw [za3 (by omega) (by omega)]
    unfold tr
    rw [if_neg (by omega),if_neg (by omega)]
    exact hya
  ·rintro _ w' ⟨i,j,ys,rfl,hI,hlt,hsw,hya,hs⟩
   exact zp ⟨((i:Int),(j:Int),()),j,hlt,rfl,i,j,ys,rfl,hI,rfl,hsw,hya,hs⟩
 ·rintro _ w' ⟨i,j,ys,rfl,hij,⟨h1,h2,h3,h4,h5⟩,hsw,hya,hs⟩
  refine wp_lt ?_
  exact ⟨rfl,i,ys,rfl,hsw,hya,by omega,by omega,h4,λk k1 k2=>h5 k (by omega) k2,hs⟩
end
section
variable {P:Program} {I:SortI} {lt:I.E->I.E->Bool} {w:World} {l:List HP} {Q:Post} {d:Sl} {xs ys:List I.E}
def Pre (lt:I.E->I.E->Bool) (xs:List I.E) (a b:Nat):Prop:=0<a->∀ k,a<=k->k<b->z01 lt xs k (a-1)=false
theorem z6d {p q:Nat}:z01 lt xs p q=false↔∀ x y,xs[p]? = some x->xs[q]? = some y->lt x y=false:=by
 unfold z01
 constructor
 ·intro h x y hx hy;rw [hx,hy] at h;exact h
 ·intro h
  split
  ·rename_i x y hx hy;exact h x y hx hy
  ·rfl
theorem Sw.outer {a b r:Nat} (h:Sw a b xs ys) (hb:b<=xs.length) (hr:r<a\/b<=r) (hk:∀ k,a<=k->k<b->z01 lt xs k r=false):∀ k,a<=k->k<b->z01 lt ys k r=false:=by
 intro k k1 k2
 rw [z6d]
 intro x y hx hy
 rw [h.out hr] at hy
 exact Sw.all h hb (p:=λx=>lt x y=false) (λk x k1 k2 hx=>z6d.1 (hk k k1 k2) x y hx hy) k x k1 k2 hx
theorem Sw.outer' {a b r:Nat} (h:Sw a b xs ys) (hb:b<=xs.length) (hr:r<a\/b<=r) (hk:∀ k,a<=k->k<b->z01 lt xs r k=false):∀ k,a<=k->k<b->z01 lt ys r k=false:=by
 intro k k1 k2
 rw [z6d]
 intro y x hy hx
 rw [h.out hr] at hy
 exact Sw.all h hb (p:=λx=>lt y x=false) (λk x k1 k2 hx=>z6d.1 (hk k k1 k2) y x hy hx) k x k1 k2 hx
theorem Pre.sw {a b:Nat} (h:Pre lt xs a b) (hb:b<=xs.length) (hs:Sw a b xs ys):Pre lt ys a b:=λh0=>hs.outer hb (.inl (by omega)) (h h0)
theorem z05r   (ok : I.Ok P lt) (im : I.Impl P) (lo : LtOk lt) (x0 : I.E) (a b : Nat) (hab : a < b) (hb : b ≤ xs.length) (h63 : xs.length < 2305843009213693952) (hpre : Pre lt xs a b) (hs : Sat w (I.arr d xs :: l)) :
    Ret P I.f_pins ([d.v, .int .i64 a, .int .i64 b] ++ I.ex).toArray w fun vs w' => ∃ (q : Bool) (ys : List I.E), vs = [.bool q] ∧ Sw a b xs ys ∧ (q = true → z12     lt ys a b) ∧ Sat w' (I.arr d ys :: l) := im.pins <| by
  unfold SortI.pins
  refine z0p   (y := ((a + 1 : Nat) : Int)) (by rw [w64 (by omega) (by omega)]; omega) ?_
  refine zf     (fun v w' => ∃ ys, Sw a b xs ys ∧ Sat w' (I.arr d ys :: l)) ?_ (fun _ w' ⟨ys, hsw, hs⟩ => ⟨rfl, false, ys, rfl, hsw, (fun h => by cases h), hs⟩)
  refine z03     (fun n v w => ∃ (i c : Nat) (ys : List I.E), v = ((i : Int), (c : Int), ()) ∧ a + 1 ≤ i ∧ i ≤ b ∧ c ≤ 5 ∧ 5 - c = n ∧ Sw a b xs ys ∧ z12     lt ys a i ∧ Sat w (I.arr d ys :: l)) 5 ⟨a + 1, 0, xs, rfl, by omega, by omega, by omega, rfl, .refl _, fun p q h1 h2 h3 => by omega, hs⟩ ?_
  rintro n _ w ⟨i, c, ys, rfl, hi, hib, hc5, hn, hsw, hso, hs⟩
  have hyl := hsw.length
  refine z0r    (fun hc => ?_) fun hc => ?_
  · have hc : (c : Int) < 5 := of_decide_eq_true hc
    refine zf     (fun v w' => ∃ (i : Nat) (ys : List I.E), v = ((i : Int), ()) ∧ a + 1 ≤ i ∧ i ≤ b ∧ Sw a b xs ys ∧ z12     lt ys a i ∧ Sat w' (I.arr d ys :: l)) ?_ ?_
    · refine zf     (fun v w' => ∃ (i : Nat), v = ((i : Int), ()) ∧ a + 1 ≤ i ∧ i ≤ b ∧ z12     lt ys a i ∧ Sat w' (I.arr d ys :: l)) ?_ ?_
      · refine z03     (fun n v w => ∃ (i : Nat), v = ((i : Int), ()) ∧ a + 1 ≤ i ∧ i ≤ b ∧ b - i = n ∧ z12     lt ys a i ∧ Sat w (I.arr d ys :: l)) (b - i) ⟨i, rfl, hi, hib, rfl, hso, hs⟩ ?_
        clear hs hso hib hi hn
        rintro n _ w ⟨i, rfl, hi, hib, hn, hso, hs⟩
        refine z79     ok (f := not) i (i - 1) (fun h => ⟨rfl, by have h : (i : Int) < b := of_decide_eq_true h; omega⟩) (fun h => ⟨by rw [w64 (by omega) (by omega)]; omega, by have h : (i : Int) < b := of_decide_eq_true h; omega⟩) x0 hs fun w' hs => ?_
        refine z0r    (fun hc2 => ?_) fun hc2 => ?_
        · have hc2 : (decide ((i : Int) < b) && !z01  lt ys i (i - 1)) = true := hc2
          simp only [Bool.and_eq_true, decide_eq_true_eq, Bool.not_eq_true'] at hc2
          refine z0p   (y := ((i + 1 : Nat) : Int)) (by rw [w64 (by omega) (by omega)]; omega) ?_
          refine zp       ⟨(((i + 1 : Nat) : Int), ()), b - (i + 1), by omega, rfl, i + 1, rfl, by omega, by omega, rfl, fun p q h1 h2 h3 => ?_, hs⟩
          by_cases hq : q = i
          · subst hq
            by_cases hp : p = q - 1
            · subst hp; exact hc2.2
            · exact lo.transAt (q := q - 1) (by omega) hc2.2 (hso p (q - 1) h1 (by omega) (by omega))
          · exact hso p q h1 h2 (by omega)
        · refine zh      ?_
          exact zp       ⟨((i : Int), ()), rfl, i, rfl, hi, hib, hso, hs⟩
      · clear hs hso hib hi
        rintro _ w ⟨i, rfl, hi, hib, hso, hs⟩
        refine z0r    (fun hc2 => ?_) fun hc2 => ?_
        · have hc2 : ((i : Int) == (b : Int)) = true := hc2
          have hc2 : i = b := by have : (i : Int) = b := by simpa using hc2
                                 omega
          subst hc2
          refine zh      ?_
          refine zh      ?_
          refine zh      ?_
          exact ⟨rfl, true, ys, rfl, hsw, fun _ => hso, hs⟩
        have hc2 : ((i : Int) == (b : Int)) = false := hc2
        have hc2 : i < b := by have : ¬ (i : Int) = b := by simpa using hc2
                               omega
        refine z0r    (fun hc3 => ?_) fun hc3 => ?_
        · refine zh      ?_
          refine zh      ?_
          refine zh      ?_
          exact ⟨rfl, false, ys, rfl, hsw, (fun h => by cases h), hs⟩
        refine z32     ok i (i - 1) rfl (by dsimp only; rw [w64 (by omega) (by omega)]; omega) (by omega) (by omega) hs fun w' hs => ?_
        have hsw2 : Sw a b xs (z1w   ys i (i - 1)) := .step hsw (by omega) (by omega) (by omega) (by omega)
        have hbut : ∀ p q, a ≤ p → p < q → q < i → q ≠ i - 1 → z01  lt (z1w   ys i (i - 1)) q p = false := fun p q h1 h2 h3 h4 => by
          rw [z2n       (by omega) (by omega)]
          unfold tr
          rw [if_neg (by omega), if_neg (by omega), if_neg (by omega), if_neg (by omega)]
          exact hso p q h1 h2 (by omega)
        clear hso
        generalize z1w   ys i (i - 1) = ys at *
        have hyl := hsw2.length
        refine zf     (fun v w' => ∃ ys, Sw a b xs ys ∧ z12     lt ys a i ∧ Sat w' (I.arr d ys :: l)) ?_ ?_
        · refine z0r    (fun hc4 => ?_) fun hc4 => ?_
          · refine z0p   (y := ((i - 1 : Nat) : Int)) (by dsimp only; rw [w64 (by omega) (by omega)]; omega) ?_
            refine zf     (fun v w' => ∃ ys, Sw a b xs ys ∧ z12     lt ys a i ∧ Sat w' (I.arr d ys :: l)) ?_ (fun _ w' h => zp       ⟨(), rfl, h⟩)
            refine z03     (fun n v w => ∃ (j : Nat) (ys : List I.E), v = ((j : Int), ()) ∧ a ≤ j ∧ j < i ∧ j = n ∧ Sw a b xs ys ∧ (∀ p q, a ≤ p → p < q → q < i → q ≠ j → z01  lt ys q p = false) ∧ Sat w (I.arr d ys :: l)) (i - 1) ⟨i - 1, ys, rfl, by omega, by omega, rfl, hsw2, hbut, hs⟩ ?_
            clear hs hbut hyl hsw2 hsw
            rintro n _ w ⟨j, ys, rfl, hj, hji, rfl, hsw, hso, hs⟩
            have hyl := hsw.length
            refine z0r    (fun hc5 => ?_) fun hc5 => ?_
            · have hc5 : (j : Int) ≥ 1 := of_decide_eq_true hc5
              refine zbw      ok j (j - 1) rfl (by dsimp only; rw [w64 (by omega) (by omega)]; omega) (by omega) (by omega) hs fun w' hs => ?_
              refine z0r    (fun hc6 => ?_) fun hc6 => ?_
              · have hc6 : (!z01  lt ys j (j - 1)) = true := hc6
                simp only [Bool.not_eq_true'] at hc6
                refine zh      ?_
                refine zp       ⟨(), rfl, ys, hsw, fun p q h1 h2 h3 => ?_, hs⟩
                by_cases hq : q = j
                · subst hq
                  by_cases hp : p = q - 1
                  · subst hp; exact hc6
                  · exact lo.transAt (q := q - 1) (by omega) hc6 (hso p (q - 1) h1 (by omega) (by omega) (by omega))
                · exact hso p q h1 h2 h3 hq
              · have hc6 : (!z01  lt ys j (j - 1)) = false := hc6
                simp only [Bool.not_eq_false'] at hc6
                have hja : a < j := by
                  rcases Nat.lt_or_ge a j with h | h
                  · exact h
                  · exfalso
                    have e : j = a := by omega
                    subst e
                    have := (hpre.sw hb hsw) (by omega) j (by omega) (by omega)
                    rw [this] at hc6; cases hc6
                refine z32     ok j (j - 1) rfl (by dsimp only; rw [w64 (by omega) (by omega)]; omega) (by omega) (by omega) hs fun w' hs => ?_
                refine z0p   (y := ((j - 1 : Nat) : Int)) (by dsimp only; rw [w64 (by omega) (by omega)]; omega) ?_
                refine zp       ⟨(((j - 1 : Nat) : Int), ()), j - 1, by omega, rfl, j - 1, _, rfl, by omega, by omega, rfl, .step hsw (by omega) (by omega) (by omega) (by omega), fun p q p1 p2 p3 p4 => ?_, hs⟩
                rw [z2n       (by omega) (by omega)]
                unfold tr
                by_cases q1 : q = j
                · subst q1
                  rw [if_pos rfl]
                  by_cases q2 : p = q - 1
                  · subst q2
                    rw [if_neg (by omega), if_pos rfl]
                    exact lo.asymmAt hc6
                  · rw [if_neg (by omega), if_neg q2]
                    exact hso p (q - 1) p1 (by omega) (by omega) (by omega)
                · rw [if_neg q1, if_neg p4]
                  by_cases q2 : p = j
                  · subst q2
                    rw [if_pos rfl]
                    exact hso (p - 1) q (by omega) (by omega) p3 q1
                  · rw [if_neg q2]
                    by_cases q3 : p = j - 1
                    · subst q3
                      rw [if_pos rfl]
                      exact hso j q (by omega) (by omega) p3 q1
                    · rw [if_neg q3]; exact hso p q p1 p2 p3 q1
            · have hc5 : ¬ (j : Int) ≥ 1 := of_decide_eq_false hc5
              refine zh      ?_
              exact zp       ⟨(), rfl, ys, hsw, fun p q h1 h2 h3 => hso p q h1 h2 h3 (by omega), hs⟩
          · have hc4 : ¬ IntKind.wrap .i64 ((i : Int) - a) ≥ 2 := of_decide_eq_false hc4
            rw [w64 (by omega) (by omega)] at hc4
            exact zp       ⟨(), rfl, ys, hsw2, fun p q h1 h2 h3 => by omega, hs⟩
        · clear hs hbut hyl hsw2 hsw
          rintro _ w ⟨ys, hsw, hso, hs⟩
          refine zf     (fun v w' => ∃ ys, Sw a b xs ys ∧ z12     lt ys a i ∧ Sat w' (I.arr d ys :: l)) ?_ ?_
          · refine z0r    (fun hc4 => ?_) fun hc4 => ?_
            · refine z0p   (y := ((i + 1 : Nat) : Int)) (by dsimp only; rw [w64 (by omega) (by omega)]; omega) ?_
              refine zf     (fun v w' => ∃ ys, Sw a b xs ys ∧ z12     lt ys a i ∧ Sat w' (I.arr d ys :: l)) ?_ (fun _ w' h => zp       ⟨(), rfl, h⟩)
              refine z03     (fun n v w => ∃ (j : Nat) (ys : List I.E), v = ((j : Int), ()) ∧ i + 1 ≤ j ∧ j ≤ b ∧ b - j = n ∧ Sw a b xs ys ∧ z12     lt ys a i ∧ Sat w (I.arr d ys :: l)) (b - (i + 1)) ⟨i + 1, ys, rfl, by omega, by omega, rfl, hsw, hso, hs⟩ ?_
              clear hs hso hsw
              rintro n _ w ⟨j, ys, rfl, hj, hji, hn, hsw, hso, hs⟩
              have hyl := hsw.length
              refine z0r    (fun hc5 => ?_) fun hc5 => ?_
              · have hc5 : (j : Int) < b := of_decide_eq_true hc5
                refine zbw      ok j (j - 1) rfl (by dsimp only; rw [w64 (by omega) (by omega)]; omega) (by omega) (by omega) hs fun w' hs => ?_
                refine z0r    (fun hc6 => ?_) fun hc6 => ?_
                · refine zh      ?_
                  exact zp       ⟨(), rfl, ys, hsw, hso, hs⟩
                · refine z32     ok j (j - 1) rfl (by dsimp only; rw [w64 (by omega) (by omega)]; omega) (by omega) (by omega) hs fun w' hs => ?_
                  refine z0p   (y := ((j + 1 : Nat) : Int)) (by dsimp only; rw [w64 (by omega) (by omega)]; omega) ?_
                  refine zp       ⟨(((j + 1 : Nat) : Int), ()), b - (j + 1), by omega, rfl, j + 1, _, rfl, by omega, by omega, rfl, .step hsw (by omega) (by omega) (by omega) (by omega), fun p q p1 p2 p3 => ?_, hs⟩
                  rw [z2n       (by omega) (by omega)]
                  unfold tr
                  rw [if_neg (by omega), if_neg (by omega), if_neg (by omega), if_neg (by omega)]
                  exact hso p q p1 p2 p3
              · refine zh      ?_
                exact zp       ⟨(), rfl, ys, hsw, hso, hs⟩
            · exact zp       ⟨(), rfl, ys, hsw, hso, hs⟩
          · clear hs hso hsw
            rintro _ w ⟨ys, hsw, hso, hs⟩
            exact zp       ⟨((i : Int), ()), rfl, i, ys, rfl, hi, hib, hsw, hso, hs⟩
    · clear hs hso hib hi hsw
      rintro _ w ⟨i, ys, rfl, hi, hib, hsw, hso, hs⟩
      refine z0p   (y := ((c + 1 : Nat) : Int)) (by dsimp only; rw [w64 (by omega) (by omega)]; omega) ?_
      exact zp       ⟨((i : Int), ((c + 1 : Nat) : Int), ()), 5 - (c + 1), by omega, rfl, i, c + 1, ys, rfl, hi, hib, by omega, rfl, hsw, hso, hs⟩
  · refine zh      ?_
    exact zp       ⟨(), rfl, ys, hsw, hs⟩
end
structure SortI.Ok2 (P:Program) (I:SortI):Prop where
 one:One P I.ti
 zer:Zer P I.ti (.int .i64 0)
 xone:One P I.xs
 xzer:Zer P I.xs (.int .u64 0)
 next:∀ {b:Nat} {u:Int} {w:World} {l:List HP},Sat w (pt b (.cells #[.int .u64 u] I.xs)::l)->Ret P I.fNext #[.pointer (some ⟨b,0,none⟩)] w λvs w'=>∃ v u',vs=[.int .u64 v]/\Sat w' (pt b (.cells #[.int .u64 u'] I.xs)::l)
 pow:∀ {n:Nat} {w:World} {l:List HP},8<=n->n<1152921504606846976->Sat w l->Ret P I.fPow #[.int .i64 n] w λvs w'=>∃ m:Nat,vs=[.int .u64 m]/\1<=m/\m<=2*n/\Sat w' l
section
variable {P:Program} {I:SortI} {lt:I.E->I.E->Bool} {w:World} {l:List HP} {Q:Post} {d:Sl} {xs ys:List I.E}
abbrev SortI.ctr (I:SortI) (c:Nat) (n:Int):HP:=pt c (.cells #[.int .i64 n] I.ti)
theorem zl9 (ok:I.Ok P lt) (im:I.Impl P) (ok2:I.Ok2 P) (a b c:Nat) (n:Int) (ha:a<xs.length) (hb:b<xs.length) (h63:xs.length<2305843009213693952) (hs:Sat w (I.arr d xs::I.ctr c n::l)) :
  Ret P I.f_ord2 ([d.v,.int .i64 a,.int .i64 b,.pointer (some ⟨c,0,none⟩)]++I.ex).toArray w λvs w'=>∃ (x y:Nat) (n:Int),vs=[.int .i64 x,.int .i64 y]/\((x=a/\y=b)\/(x=b/\y=a))/\Sat w' (I.arr d xs::I.ctr c n::l):=im.ord2 <| by
 haveI:=ok2.one
 unfold SortI.ord2
 refine zbw ok b a rfl rfl hb ha hs λw' hs=>?_
 refine z0r (λhc=>?_) λhc=>?_
 ·refine z4r (⟨c,0,none⟩,()) rfl ?_
  refine zgl (x:=n) hs rfl ?_
  refine z4r (⟨c,0,none⟩,()) rfl ?_
  refine zm8 hs rfl rfl rfl λw' hs=>⟨trivial,?_⟩
  refine wp_lt (wp_lt ?_)
  exact ⟨rfl,b,a,_,rfl,.inr ⟨rfl,rfl⟩,(hs.focS d)⟩
 ·refine wp_lt (wp_lt ?_)
  exact ⟨rfl,a,b,n,rfl,.inl ⟨rfl,rfl⟩,hs⟩
theorem zzy (ok:I.Ok P lt) (im:I.Impl P) (ok2:I.Ok2 P) (a b e c:Nat) (n:Int) (ha:a<xs.length) (hb:b<xs.length) (he:e<xs.length) (h63:xs.length<2305843009213693952) (hs:Sat w (I.arr d xs::I.ctr c n::l)) :
  Ret P I.f_med ([d.v,.int .i64 a,.int .i64 b,.int .i64 e,.pointer (some ⟨c,0,none⟩)]++I.ex).toArray w λvs w'=>∃ (x:Nat) (n:Int),vs=[.int .i64 x]/\(x=a\/x=b\/x=e)/\Sat w' (I.arr d xs::I.ctr c n::l):=im.med <| by
 unfold SortI.med
 refine z8 (zl9 ok im ok2 a b c n ha hb h63 hs) λvs w' h=>?_
 obtain ⟨x,y,n,rfl,h1,hs⟩:=h
 refine ⟨((x:Int),(y:Int),()),rfl,trivial,wp_lt (wp_lt ?_)⟩
 refine z8 (zl9 ok im ok2 y e c n (by omega) he h63 hs) λvs w' h=>?_
 obtain ⟨x2,y2,n,rfl,h2,hs⟩:=h
 refine ⟨((x2:Int),(y2:Int),()),rfl,trivial,wp_lt (wp_lt ?_)⟩
 refine z8 (zl9 ok im ok2 x x2 c n (by omega) (by omega) h63 hs) λvs w' h=>?_
 obtain ⟨x3,y3,n,rfl,h3,hs⟩:=h
 refine ⟨((x3:Int),(y3:Int),()),rfl,trivial,wp_lt (wp_lt (wp_lt ?_))⟩
 exact ⟨rfl,y3,n,rfl,by omega,hs⟩
theorem zkz (ok:I.Ok P lt) (im:I.Impl P) (ok2:I.Ok2 P) (a c:Nat) (n:Int) (h0:1<=a) (ha:a+1<xs.length) (h63:xs.length<2305843009213693952) (hs:Sat w (I.arr d xs::I.ctr c n::l)) :
  Ret P I.f_medj ([d.v,.int .i64 a,.pointer (some ⟨c,0,none⟩)]++I.ex).toArray w λvs w'=>∃ (x:Nat) (n:Int),vs=[.int .i64 x]/\a-1<=x/\x<=a+1/\Sat w' (I.arr d xs::I.ctr c n::l):=im.medj <| by
 unfold SortI.medj
 have e1:IntKind.wrap .i64 ((a:Int)-1)=((a-1:Nat):Int):=by rw [w64 (by omega) (by omega)];omega
 have e2:IntKind.wrap .i64 ((a:Int)+1)=((a+1:Nat):Int):=by rw [w64 (by omega) (by omega)];omega
 rw [e1,e2]
 refine z8 (zzy ok im ok2 (a-1) a (a+1) c n (by omega) (by omega) (by omega) h63 hs) λvs w' h=>?_
 obtain ⟨x,n,rfl,h1,hs⟩:=h
 refine ⟨((x:Int),()),rfl,trivial,wp_lt ?_⟩
 exact ⟨rfl,x,n,rfl,by omega,by omega,hs⟩
theorem z08g (ok:I.Ok P lt) (im:I.Impl P) (ok2:I.Ok2 P) (a b:Nat) (hab:a+8<=b) (hb:b<=xs.length) (h63:xs.length<1152921504606846976) (hs:Sat w (I.arr d xs::l)) :
  Ret P I.f_piv ([d.v,.int .i64 a,.int .i64 b]++I.ex).toArray w λvs w'=>∃ (x:Nat) (h:Int),vs=[.int .i64 x,.int .i64 h]/\a<=x/\x<b/\Sat w' (I.arr d xs::l):=im.piv <| by
 haveI:=ok2.one
 haveI:=ok2.zer
 unfold SortI.piv
 obtain ⟨n,rfl⟩:∃ n,b=a+n:=⟨b-a,by omega⟩
 refine z0p (y:=(n:Int)) (by rw [w64 (by omega) (by omega)];omega) ?_
 refine zhp hs λc w' hs=>⟨trivial,?_⟩
 have hs:Sat w' (I.arr d xs::I.ctr c 0::l):=hs.focS d
 have e4:Int.tdiv (n:Int) 4=((n / 4:Nat):Int):=by rw [Int.tdiv_eq_ediv_of_nonneg (by omega)];omega
 have e0:IntKind.wrap .i64 (Int.tdiv (n:Int) 4)=((n / 4:Nat):Int):=by rw [e4,w64 (by omega) (by omega)]
 refine z0p (y:=((a+n / 4:Nat):Int)) (by rw [e0,w64 (x:=_*_) (by omega) (by omega),w64 (by omega) (by omega)];omega) ?_
 refine z0p (y:=((a+n / 4*2:Nat):Int)) (by rw [e0,w64 (x:=_*_) (by omega) (by omega),w64 (by omega) (by omega)];omega) ?_
 refine z0p (y:=((a+n / 4*3:Nat):Int)) (by rw [e0,w64 (x:=_*_) (by omega) (by omega),w64 (by omega) (by omega)];omega) ?_
 refine zf (λv w'=>∃ (x:Nat) (m:Int),v=((x:Int),())/\a<=x/\x<a+n/\Sat w' (I.arr d xs::I.ctr c m::l)) ?_ ?_
 ·refine z0r (λhc=>?_) λhc=>?_
  ·refine zf (λv w'=>∃ (x y z:Nat) (m:Int),v=((x:Int),(y:Int),(z:Int),())/\a<=x/\x<a+n/\a<=y/\y<a+n/\a<=z/\z<a+n/\Sat w' (I.arr d xs::I.ctr c m::l)) ?_ ?_
   ·refine z0r (λhc=>?_) λhc=>?_
    ·have hc:(n:Int)>=50:=of_decide_eq_true hc
     refine z8 (zkz ok im ok2 (a+n / 4) c _ (by omega) (by omega) (by omega) hs) λvs w' h=>?_
     obtain ⟨x,m,rfl,h1,h2,hs⟩:=h
     refine ⟨((x:Int),()),rfl,trivial,wp_lt ?_⟩
     refine z8 (zkz ok im ok2 (a+n / 4*2) c _ (by omega) (by omega) (by omega) hs) λvs w' h=>?_
     obtain ⟨y,m,rfl,h3,h4,hs⟩:=h
     refine ⟨((y:Int),()),rfl,trivial,wp_lt ?_⟩
     refine z8 (zkz ok im ok2 (a+n / 4*3) c _ (by omega) (by omega) (by omega) hs) λvs w' h=>?_
     obtain ⟨z,m,rfl,h5,h6,hs⟩:=h
     refine ⟨((z:Int),()),rfl,trivial,wp_lt ?_⟩
     exact zp ⟨((x:Int),(y:Int),(z:Int),()),rfl,x,y,z,m,rfl,by omega,by omega,by omega,by omega,by omega,by omega,hs⟩
    ·exact zp ⟨(((a+n / 4:Nat):Int),((a+n / 4*2:Nat):Int),((a+n / 4*3:Nat):Int),()),rfl,a+n / 4,a+n / 4*2,a+n / 4*3,_,rfl,by omega,by omega,by omega,by omega,by omega,by omega,hs⟩
   ·rintro _ w' ⟨x,y,z,m,rfl,h1,h2,h3,h4,h5,h6,hs⟩
    refine z8 (zzy ok im ok2 x y z c m (by omega) (by omega) (by omega) (by omega) hs) λvs w' h=>?_
    obtain ⟨r,m,rfl,h7,hs⟩:=h
    refine ⟨((r:Int),()),rfl,trivial,wp_lt ?_⟩
    exact zp ⟨((r:Int),()),rfl,r,m,rfl,by omega,by omega,hs⟩
  ·exact zp ⟨(((a+n / 4*2:Nat):Int),()),rfl,a+n / 4*2,_,rfl,by omega,by omega,hs⟩
 ·rintro _ w' ⟨x,m,rfl,h1,h2,hs⟩
  refine zgl (x:=m) hs rfl ?_
  refine wp_lt ?_
  refine z0r (λhc=>?_) λhc=>?_
  ·exact wp_lt ⟨rfl,x,_,rfl,h1,h2,(hs.focB c).tail⟩
  ·refine wp_lt ?_
   refine z0r (λhc=>?_) λhc=>?_
   ·exact wp_lt ⟨rfl,x,_,rfl,h1,h2,(hs.focB c).tail⟩
   ·exact wp_lt ⟨rfl,x,_,rfl,h1,h2,(hs.focB c).tail⟩
theorem z04n {x:Int} {m:Nat} (hm:1<=m) (hm2:m<=2305843009213693952):IntKind.wrap .i64 (IntKind.wrap .u64 (((BitVec.toNat (BitVec.ofInt 64 x &&& BitVec.ofInt 64 (IntKind.wrap .u64 ((m:Int)-1))):Nat):Int)))=(((BitVec.toNat (BitVec.ofInt 64 x &&& BitVec.ofInt 64 (IntKind.wrap .u64 ((m:Int)-1))):Nat):Int)) /\
  (BitVec.toNat (BitVec.ofInt 64 x &&& BitVec.ofInt 64 (IntKind.wrap .u64 ((m:Int)-1))))<m:=by
 have hu:∀ z:Int,IntKind.wrap .u64 z=z % 18446744073709551616:=λz=>by simp [IntKind.wrap,IntKind.bits,IntKind.signed]
 have h1:IntKind.wrap .u64 ((m:Int)-1)=((m-1:Nat):Int):=by rw [hu];omega
 rw [h1]
 have h2:(BitVec.toNat (BitVec.ofInt 64 x &&& BitVec.ofInt 64 ((m-1:Nat):Int)))<m:=by
  rw [BitVec.toNat_and]
  have:(BitVec.ofInt 64 ((m-1:Nat):Int)).toNat=m-1:=by rw [BitVec.toNat_ofInt];omega
  rw [this]
  have:=Nat.and_le_right (n:=(BitVec.ofInt 64 x).toNat) (m:=m-1)
  omega
 refine ⟨?_,h2⟩
 generalize (BitVec.toNat (BitVec.ofInt 64 x &&& BitVec.ofInt 64 ((m-1:Nat):Int)))=r at *
 rw [hu,w64 (by omega) (by omega)];omega
theorem z082 (ok:I.Ok P lt) (im:I.Impl P) (ok2:I.Ok2 P) (a b:Nat) (hab:a<=b) (hb:b<=xs.length) (h63:xs.length<576460752303423488) (hs:Sat w (I.arr d xs::l)) :
  Ret P I.f_brk ([d.v,.int .i64 a,.int .i64 b]++I.ex).toArray w λvs w'=>vs=[]/\∃ ys,Sw a b xs ys/\Sat w' (I.arr d ys::l):=im.brk <| by
 haveI:=ok2.xone
 haveI:=ok2.xzer
 unfold SortI.brk
 obtain ⟨n,rfl⟩:∃ n,b=a+n:=⟨b-a,by omega⟩
 refine z0p (y:=(n:Int)) (by rw [w64 (by omega) (by omega)];omega) ?_
 refine zf (λv w'=>∃ ys,Sw a (a+n) xs ys/\Sat w' (I.arr d ys::l)) ?_ (λ_ w' h=>⟨rfl,rfl,h⟩)
 refine z0r (λhc=>?_) λhc=>?_
 ·have hc:(n:Int)>=8:=of_decide_eq_true hc
  refine zhp hs λc w' hs=>⟨trivial,?_⟩
  refine zm8 hs rfl rfl rfl λw' hs=>⟨trivial,?_⟩
  refine z8 (ok2.pow (n:=n) (by omega) (by omega) hs) λvs w' h=>?_
  obtain ⟨m,rfl,hm1,hm2,hs⟩:=h
  refine ⟨((m:Int),()),rfl,trivial,wp_lt ?_⟩
  have e4:Int.tdiv (n:Int) 4=((n / 4:Nat):Int):=by rw [Int.tdiv_eq_ediv_of_nonneg (by omega)];omega
  have e0:IntKind.wrap .i64 ((a:Int)+IntKind.wrap .i64 (IntKind.wrap .i64 (Int.tdiv n 4)*2))=((a+n / 4*2:Nat):Int):=by
   rw [e4,w64 (x:=((n / 4:Nat):Int)) (by omega) (by omega),w64 (x:=_*_) (by omega) (by omega),w64 (by omega) (by omega)];omega
  rw [e0]
  refine z0p (y:=((a+n / 4*2-1:Nat):Int)) (by rw [w64 (by omega) (by omega)];omega) ?_
  have e1:IntKind.wrap .i64 (((a+n / 4*2:Nat):Int)+1)=((a+n / 4*2+1:Nat):Int):=by rw [w64 (by omega) (by omega)];omega
  rw [e1]
  refine zf (λv w'=>∃ ys,Sw a (a+n) xs ys/\Sat w' (I.arr d ys::l)) ?_ (λ_ w' h=>zp ⟨(),rfl,h⟩)
  have hs:∃ u,Sat w' (pt c (.cells #[.int .u64 u] I.xs)::I.arr d xs::l):=⟨_,hs⟩
  obtain ⟨u,hs⟩:=hs
  refine z03 (λk v w=>∃ (i:Nat) (u:Int) (ys:List I.E),v=((i:Int),())/\a+n / 4*2-1<=i/\i<=a+n / 4*2+2/\a+n / 4*2+2-i=k/\Sw a (a+n) xs ys/\Sat w (pt c (.cells #[.int .u64 u] I.xs)::I.arr d ys::l)) 3 ⟨a+n / 4*2-1,u,xs,rfl,by omega,by omega,by omega,.refl _,hs⟩ ?_
  clear hs
  rintro k _ w ⟨i,u,ys,rfl,hi1,hi2,hk,hsw,hs⟩
  have hyl:=hsw.length
  refine z0r (λhc2=>?_) λhc2=>?_
  ·have hc2:(i:Int)<=((a+n / 4*2+1:Nat):Int):=of_decide_eq_true hc2
   refine z8 (ok2.next hs) λvs w' h=>?_
   obtain ⟨v,u',rfl,hs⟩:=h
   refine ⟨(v,()),rfl,trivial,?_⟩
   obtain ⟨ea,el⟩:=z04n (x:=v) hm1 (by omega)
   refine z0p ea ?_
   generalize BitVec.toNat (BitVec.ofInt 64 v &&& BitVec.ofInt 64 (IntKind.wrap .u64 ((m:Int)-1)))=r at *
   refine zf (λv w'=>∃ q:Nat,v=((q:Int),())/\q<n/\Sat w' (pt c (.cells #[.int .u64 u'] I.xs)::I.arr d ys::l)) ?_ ?_
   ·refine z0r (λhc3=>?_) λhc3=>?_
    ·have hc3:(r:Int)>=n:=of_decide_eq_true hc3
     refine z0p (y:=((r-n:Nat):Int)) (by rw [w64 (by omega) (by omega)];omega) ?_
     exact zp ⟨(((r-n:Nat):Int),()),rfl,r-n,rfl,by omega,hs⟩
    ·have hc3:¬ (r:Int)>=n:=of_decide_eq_false hc3
     exact zp ⟨((r:Int),()),rfl,r,rfl,by omega,hs⟩
   ·rintro _ w' ⟨q,rfl,hq,hs⟩
    have hs:=hs.focS d
    refine z32 ok i (a+q) rfl (by dsimp only;rw [w64 (by omega) (by omega)];omega) (by omega) (by omega) hs λw' hs=>?_
    refine z0p (y:=((i+1:Nat):Int)) (by dsimp only;rw [w64 (by omega) (by omega)];omega) ?_
    exact zp ⟨(((i+1:Nat):Int),()),a+n / 4*2+2-(i+1),by omega,rfl,i+1,u',_,rfl,by omega,by omega,rfl,.step hsw (by omega) (by omega) (by omega) (by omega),hs.focB c⟩
  ·refine zh ?_
   exact zp ⟨(),rfl,ys,hsw,(hs.focS d).perm (List.Perm.swap _ _ _) |>.tail⟩
 ·exact zp ⟨(),rfl,xs,.refl _,hs⟩
end
section
variable {P:Program} {I:SortI} {lt:I.E->I.E->Bool} {w:World} {l:List HP} {Q:Post} {d:Sl} {xs ys zs us:List I.E}
theorem z7p {a b p q:Nat} (h:Sw a b xs ys) (hp:p<a\/b<=p) (hq:q<a\/b<=q):z01 lt ys p q=z01 lt xs p q:=by
 unfold z01;rw [h.out hp,h.out hq]
theorem z12.out {a b c e:Nat} (h:z12 lt xs c e) (hs:Sw a b xs ys) (hd:e<=a\/b<=c):z12 lt ys c e:=λp q h1 h2 h3=>by
 rw [z7p hs (by omega) (by omega)];exact h p q h1 h2 h3
def z9p (lt:I.E->I.E->Bool) (vs:List I.E) (a b m:Nat):Prop:=(∀ k,a<=k->k<m->z01 lt vs m k=false)/\(∀ k,m<k->k<b->z01 lt vs k m=false)
theorem z9p.left {a b m:Nat} (h:z9p lt xs a b m) (hm:m<=xs.length) (hs:Sw a m xs ys):z9p lt ys a b m :=
 ⟨hs.outer' hm (.inr (by omega)) h.1,λk h1 h2=>by rw [z7p hs (by omega) (by omega)];exact h.2 k h1 h2⟩
theorem z9p.right {a b m:Nat} (h:z9p lt xs a b m) (hb:b<=xs.length) (hs:Sw (m+1) b xs ys):z9p lt ys a b m :=
 ⟨λk h1 h2=>by rw [z7p hs (by omega) (by omega)];exact h.1 k h1 h2,λk h1 h2=>hs.outer hb (.inl (by omega)) (λk k1 k2=>h.2 k (by omega) k2) k (by omega) h2⟩
theorem zd4 (lo:LtOk lt) {a b m:Nat} (hm:m<xs.length) (h:z9p lt xs a b m) (h1:z12 lt xs a m) (h2:z12 lt xs (m+1) b):z12 lt xs a b:=by
 intro p q hp hpq hq
 by_cases c1:q<m
 ·exact h1 p q hp hpq c1
 by_cases c2:m<p
 ·exact h2 p q (by omega) hpq hq
 by_cases c3:q=m
 ·subst c3;exact h.1 p hp hpq
 by_cases c4:p=m
 ·subst c4;exact h.2 q hpq hq
 exact lo.transAt hm (h.2 q (by omega) hq) (h.1 p hp (by omega))
structure Stand (lt:I.E->I.E->Bool) (xs:List I.E) (a b:Nat) (ys:List I.E) (c e:Nat):Prop where
 h1:a<=c
 h2:c<=e
 h3:e<=b
 sw:Sw a b xs ys
 pre:Pre lt ys c e
 fin:∀ zs,Sw c e ys zs->z12 lt zs c e->z12 lt zs a b
theorem Stand.step {a b c e:Nat} (h:Stand lt xs a b ys c e) (hb:b<=xs.length) (hs:Sw c e ys zs):Stand lt xs a b zs c e :=
 ⟨h.h1,h.h2,h.h3,h.sw.trans (hs.mono h.h1 h.h3),h.pre.sw (by rw [h.sw.length];have:=h.h3;omega) hs,λus h1 h2=>h.fin us (hs.trans h1) h2⟩
theorem Stand.end {a b c e:Nat} (h:Stand lt xs a b ys c e) (hs:Sw c e ys zs) (hso:z12 lt zs c e):Sw a b xs zs/\z12 lt zs a b :=
 ⟨h.sw.trans (hs.mono h.h1 h.h3),h.fin zs hs hso⟩
theorem Stand.equals (lo:LtOk lt) {a b c e p m:Nat} (h:Stand lt xs a b ys c e) (hb:b<=xs.length) (hc:0<c) (hp:z01 lt ys (c-1) p=false) (hs:Sw c e ys zs) (he:zs[c]? = ys[p]?) (h1:c<m) (h2:m<=e)
  (h3:∀ k,c+1<=k->k<m->z01 lt zs c k=false) (h4:∀ k,m<=k->k<e->z01 lt zs c k=true):Stand lt xs a b zs m e:=by
 have hst:=h.step hb hs
 obtain ⟨g1,g2,g3,gsw,gpre,gfin⟩:=hst
 have hl:=gsw.length
 have h3':∀ k,c<=k->k<m->z01 lt zs c k=false:=λk k1 k2=>if hk:k=c then by subst hk;exact lo.irrefl _ else h3 k (by omega) k2
 have h4':∀ k,m<=k->k<e->z01 lt zs k c=false:=λk k1 k2=>lo.asymmAt (h4 k k1 k2)
 have hcc:z01 lt zs (c-1) c=false:=by
  unfold z01 at *
  rw [hs.out (k:=c-1) (by omega),he];exact hp
 have hkp:∀ k p,m<=k->k<e->c<=p->p<m->z01 lt zs k p=false:=λk p k1 k2 p1 p2=>lo.transAt (q:=c) (by omega) (h4' k k1 k2) (h3' p p1 p2)
 refine ⟨by omega,h2,g3,gsw,λ_ k k1 k2=>hkp k (m-1) k1 k2 (by omega) (by omega),λus hu hso=>gfin us (hu.mono (by omega) (Nat.le_refl _)) λp q p1 p2 p3=>?_⟩
 by_cases c1:q<m
 ·rw [z7p hu (by omega) (by omega)]
  exact lo.transAt (q:=c-1) (by omega) (gpre hc q (by omega) (by omega)) (lo.transAt (q:=c) (by omega) hcc (h3' p p1 (by omega)))
 by_cases c2:p<m
 ·exact hu.outer (by omega) (.inl c2) (λk k1 k2=>hkp k p k1 k2 p1 c2) q (by omega) p3
 ·exact hso p q (by omega) p2 p3
theorem z08e (ok:I.Ok P lt) (im:I.Impl P) (ok2:I.Ok2 P) (lo:LtOk lt) (x0:I.E):∀ (N a b:Nat) (lim:Int) {w:World} {l:List HP} {d:Sl} {xs:List I.E},b-a<=N->a<=b->b<=xs.length->xs.length<576460752303423488->Pre lt xs a b->Sat w (I.arr d xs::l) ->
  Ret P I.f_pdq ([d.v,.int .i64 a,.int .i64 b,.int .i64 lim]++I.ex).toArray w λvs w'=>vs=[]/\∃ ys,Sw a b xs ys/\z12 lt ys a b/\Sat w' (I.arr d ys::l):=by
 intro N
 induction N using Nat.strongRecOn with
 | _ N ih =>
 intro a b lim w l d xs hN hab hb h63 hpre hs
 refine im.pdq ?_
 unfold SortI.pdq
 refine z03 (λn v w=>∃ (c e:Nat) (lim:Int) (wb wp:Bool) (ys:List I.E),v=((c:Int),(e:Int),lim,wb,wp,())/\e-c=n/\Stand lt xs a b ys c e/\Sat w (I.arr d ys::l)) (b-a) ⟨a,b,lim,true,true,xs,rfl,rfl,⟨by omega,hab,by omega,.refl _,hpre,λ_ _ h=>h⟩,hs⟩ ?_
 clear hs
 rintro n _ w ⟨c,e,lim,wb,wp,ys,rfl,hn,hst,hs⟩
 have hce:=hst.h2
 have heb:=hst.h3
 have hac:=hst.h1
 have hyl:=hst.sw.length
 refine zf (λv w'=>∃ (c' e':Nat) (lim:Int) (wb wp:Bool) (ys:List I.E),v=((c':Int),(e':Int),lim,wb,wp,())/\e'-c'<e-c/\Stand lt xs a b ys c' e'/\Sat w' (I.arr d ys::l)) ?_ (by
  rintro _ w' ⟨c',e',lim,wb,wp,ys,rfl,hlt,hst,hs⟩
  exact zp ⟨((c':Int),(e':Int),lim,wb,wp,()),e'-c',by omega,rfl,c',e',lim,wb,wp,ys,rfl,rfl,hst,hs⟩)
 refine z0p (y:=((e-c:Nat):Int)) (by dsimp only;rw [w64 (by omega) (by omega)];omega) ?_
 refine z0r (λhc=>?_) λhc=>?_
 ·refine z8 (im.ins (z087 ok lo x0 c e hce (by omega) (by omega) hs)) λvs w' h=>?_
  obtain ⟨rfl,zs,hsw,hso,hs⟩:=h
  refine ⟨(),rfl,trivial,?_⟩
  refine zh ?_
  refine zh ?_
  exact ⟨rfl,rfl,zs,(hst.end hsw hso).1,(hst.end hsw hso).2,hs⟩
 have hc:¬ ((e-c:Nat):Int)<=12:=of_decide_eq_false hc
 refine z0r (λhc2=>?_) λhc2=>?_
 ·refine wp_callS () (z055 ok im lo x0 c e hce (by omega) (by omega) hs) rfl λw' h=>?_
  obtain ⟨zs,hsw,hso,hs⟩:=h
  refine ⟨trivial,?_⟩
  refine zh ?_
  refine zh ?_
  exact ⟨rfl,rfl,zs,(hst.end hsw hso).1,(hst.end hsw hso).2,hs⟩
 refine zf (λv w'=>∃ (lim:Int) (ys:List I.E),v=(lim,())/\Stand lt xs a b ys c e/\Sat w' (I.arr d ys::l)) ?_ ?_
 ·refine z0r (λhc3=>?_) λhc3=>?_
  ·refine wp_callS () (z082 ok im ok2 c e hce (by omega) (by omega) hs) rfl λw' h=>?_
   obtain ⟨zs,hsw,hs⟩:=h
   refine ⟨trivial,wp_lt ?_⟩
   exact zp ⟨(_,()),rfl,_,zs,rfl,hst.step hb hsw,hs⟩
  ·exact zp ⟨(lim,()),rfl,lim,ys,rfl,hst,hs⟩
 clear hs hst hyl
 rintro _ w ⟨lim,ys,rfl,hst,hs⟩
 have hyl:=hst.sw.length
 refine z8 (z08g ok im ok2 c e (by omega) (by omega) (by omega) hs) λvs w' h=>?_
 obtain ⟨x,hint,rfl,hx1,hx2,hs⟩:=h
 refine ⟨((x:Int),hint,()),rfl,trivial,wp_lt (wp_lt ?_)⟩
 refine zf (λv w'=>∃ (x:Nat) (hint:Int) (ys:List I.E),v=((x:Int),hint,())/\c<=x/\x<e/\Stand lt xs a b ys c e/\Sat w' (I.arr d ys::l)) ?_ ?_
 ·refine z0r (λhc3=>?_) λhc3=>?_
  ·refine wp_callS () (z08i ok im x0 c e (by omega) (by omega) (by omega) hs) rfl λw' h=>?_
   obtain ⟨zs,hsw,hs⟩:=h
   refine ⟨trivial,?_⟩
   refine z0p (y:=((e-1-(x-c):Nat):Int)) (by dsimp only;rw [w64 (x:=(e:Int)-1) (by omega) (by omega),w64 (x:=(x:Int)-c) (by omega) (by omega),w64 (by omega) (by omega)];omega) ?_
   exact zp ⟨(((e-1-(x-c):Nat):Int),1,()),rfl,_,_,zs,rfl,by omega,by omega,hst.step hb hsw,hs⟩
  ·exact zp ⟨((x:Int),hint,()),rfl,x,hint,ys,rfl,hx1,hx2,hst,hs⟩
 clear hs hst hyl hx1 hx2
 rintro _ w ⟨x,hint,ys,rfl,hx1,hx2,hst,hs⟩
 have hyl:=hst.sw.length
 refine zf (λv w'=>∃ (ys:List I.E),Stand lt xs a b ys c e/\Sat w' (I.arr d ys::l)) ?_ ?_
 ·refine z0r (λhc3=>?_) λhc3=>?_
  ·refine z8 (z05r ok im lo x0 c e (by omega) (by omega) (by omega) hst.pre hs) λvs w' h=>?_
   obtain ⟨q,zs,rfl,hsw,hso,hs⟩:=h
   refine ⟨(q,()),rfl,trivial,?_⟩
   refine z0r (λhc4=>?_) λhc4=>?_
   ·have hso:=hso hc4
    refine zh ?_
    refine zh ?_
    refine zh ?_
    exact ⟨rfl,rfl,zs,(hst.end hsw hso).1,(hst.end hsw hso).2,hs⟩
   ·exact zp ⟨(),rfl,zs,hst.step hb hsw,hs⟩
  ·exact zp ⟨(),rfl,ys,hst,hs⟩
 clear hs hst hyl
 rintro _ w ⟨ys,hst,hs⟩
 have hyl:=hst.sw.length
 refine z79 ok (f:=not) (c-1) x (λh=>⟨by have h:(c:Int)>0:=of_decide_eq_true h;dsimp only;rw [w64 (by omega) (by omega)];omega,by omega⟩) (λh=>⟨rfl,by omega⟩) x0 hs λw' hs=>?_
 refine z0r (λhc3=>?_) λhc3=>?_
 ·have hc3:(decide ((c:Int)>0) && !z01 lt ys (c-1) x)=true:=hc3
  simp only [Bool.and_eq_true,decide_eq_true_eq,Bool.not_eq_true'] at hc3
  refine z8 (z08f ok im x0 c e x hx1 hx2 (by omega) (by omega) hs) λvs w' h=>?_
  obtain ⟨m,zs,rfl,hsw,he,h1,h2,h3,h4,hs⟩:=h
  refine ⟨((m:Int),()),rfl,trivial,wp_lt (wp_lt ?_)⟩
  exact zp ⟨((m:Int),(e:Int),lim,wb,wp,()),rfl,m,e,lim,wb,wp,zs,rfl,by omega,hst.equals lo hb (by omega) hc3.2 hsw he h1 h2 h3 h4,hs⟩
 ·refine z8 (z05p ok im x0 c e x hx1 hx2 (by omega) (by omega) hs) λvs w' h=>?_
  obtain ⟨m,q,zs,rfl,hsw,⟨h1,h2,h3,h4⟩,hs⟩:=h
  have hst2:=hst.step hb hsw
  have hzl:=hst2.sw.length
  have hPQ:z9p lt zs c e m:=⟨λk k1 k2=>lo.asymmAt (h3 k k1 k2),h4⟩
  refine ⟨((m:Int),q,()),rfl,trivial,wp_lt (wp_lt (wp_lt ?_))⟩
  refine z0p (y:=((m-c:Nat):Int)) (by dsimp only;rw [w64 (by omega) (by omega)];omega) ?_
  refine z0p (y:=((e-m:Nat):Int)) (by dsimp only;rw [w64 (by omega) (by omega)];omega) ?_
  refine wp_lt ?_
  refine zf (λv w'=>∃ (c' e':Nat) (bb:Bool) (us:List I.E),v=((c':Int),(e':Int),bb,())/\e'-c'<e-c/\Stand lt xs a b us c' e'/\Sat w' (I.arr d us::l)) ?_ ?_
  ·refine z0r (λhc5=>?_) λhc5=>?_
   ·refine wp_lt ?_
    refine wp_callS () (ih (m-c) (by omega) c m lim (Nat.le_refl _) h1 (by omega) (by omega) (λh0 k k1 k2=>hst2.pre h0 k k1 (by omega)) hs) rfl λw' h=>?_
    obtain ⟨us,husw,huso,hs⟩:=h
    have hul:=husw.length
    refine ⟨trivial,?_⟩
    refine z0p (y:=((m+1:Nat):Int)) (by dsimp only;rw [w64 (by omega) (by omega)];omega) ?_
    refine zp ⟨(((m+1:Nat):Int),(e:Int),_,()),rfl,m+1,e,_,us,rfl,by omega,⟨by omega,by omega,heb,hst2.sw.trans (husw.mono (by omega) (by omega)),λ_ k k1 k2=>?_,λvs hv hvs=>?_⟩,hs⟩
    ·rw [z7p husw (by omega) (by omega)];exact h4 k (by omega) k2
    ·refine hst2.fin vs ((husw.mono (by omega) (by omega)).trans (hv.mono (by omega) (by omega))) ?_
     have hQ1:=hPQ.left (by omega) husw
     have hQ2:=hQ1.right (by omega) hv
     exact zd4 lo (by rw [hv.length];omega) hQ2 (huso.out hv (by omega)) hvs
   ·refine wp_lt ?_
    have em:IntKind.wrap .i64 ((m:Int)+1)=((m+1:Nat):Int):=by rw [w64 (by omega) (by omega)];omega
    rw [em]
    refine wp_callS () (ih (e-(m+1)) (by omega) (m+1) e lim (Nat.le_refl _) (by omega) (by omega) (by omega) (λ_ k k1 k2=>h4 k (by omega) k2) hs) rfl λw' h=>?_
    obtain ⟨us,husw,huso,hs⟩:=h
    have hul:=husw.length
    refine ⟨trivial,wp_lt ?_⟩
    refine zp ⟨((c:Int),(m:Int),decide (((e-m:Nat):Int)>=IntKind.wrap .i64 (Int.tdiv ((e-c:Nat):Int) 8)),()),rfl,c,m,_,us,rfl,by omega,⟨by omega,by omega,by omega,hst2.sw.trans (husw.mono (by omega) (by omega)),λh0 k k1 k2=>?_,λvs hv hvs=>?_⟩,hs⟩
    ·rw [z7p husw (by omega) (by omega)];exact hst2.pre h0 k k1 (by omega)
    ·refine hst2.fin vs ((husw.mono (by omega) (by omega)).trans (hv.mono (by omega) (by omega))) ?_
     have hQ1:=hPQ.right (by omega) husw
     have hQ2:=hQ1.left (by omega) hv
     exact zd4 lo (by rw [hv.length];omega) hQ2 hvs (huso.out hv (by omega))
  ·rintro _ w' ⟨c',e',bb,us,rfl,hlt,hst3,hs⟩
   exact zp ⟨((c':Int),(e':Int),lim,bb,q,()),rfl,c',e',lim,bb,q,us,rfl,hlt,hst3,hs⟩
theorem z03l (ok:I.Ok P lt) (im:I.Impl P) (ok2:I.Ok2 P) (lo:LtOk lt) (x0:I.E) (lim:Int) (h63:xs.length<576460752303423488) (hs:Sat w (I.arr d xs::l)) :
  Ret P I.f_pdq ([d.v,.int .i64 0,.int .i64 xs.length,.int .i64 lim]++I.ex).toArray w λvs w'=>vs=[]/\∃ ys,ys.Perm xs/\ys.Pairwise (λx y=>lt y x=false)/\Sat w' (I.arr d ys::l):=by
 refine Calls.mono (z08e ok im ok2 lo x0 xs.length 0 xs.length lim (by omega) (by omega) (Nat.le_refl _) h63 (λh=>absurd h (by omega)) hs) λe w' ⟨vs,he,hv,ys,hsw,hso,hs⟩=>⟨vs,he,hv,ys,hsw.perm,?_,hs⟩
 rw [List.pairwise_iff_getElem]
 intro i j hi hj hij
 have hl:=hsw.length
 have:=hso i j (by omega) hij (by omega)
 unfold z01 at this
 rwa [List.getElem?_eq_getElem hi,List.getElem?_eq_getElem hj] at this
end
set_option maxRecDepth 4000
def z99:ByteArray:=ByteArray.mk #[0,1,2,2,3,3,3,3,4,4,4,4,4,4,4,4,5,5,5,5,5,5,5,5,5,5,5,5,5,5,5,5,6,6,6,6,6,6,6,6,6,6,6,6,6,6,6,6,6,6,6,6,6,6,6,6,6,6,6,6,6,6,6,6,7,7,7,7,7,7,7,7,7,7,7,7,7,7,7,7,7,7,7,7,7,7,7,7,7,7,7,7,7,7,7,7,7,7,7,7,7,7,7,7,7,7,7,7,7,7,7,7,7,7,7,7,7,7,7,7,7,7,7,7,7,7,7,7,8,8,8,8,8,8,8,8,8,8,8,8,8,8,8,8,8,8,8,8,8,8,8,8,8,8,8,8,8,8,8,8,8,8,8,8,8,8,8,8,8,8,8,8,8,8,8,8,8,8,8,8,8,8,8,8,8,8,8,8,8,8,8,8,8,8,8,8,8,8,8,8,8,8,8,8,8,8,8,8,8,8,8,8,8,8,8,8,8,8,8,8,8,8,8,8,8,8,8,8,8,8,8,8,8,8,8,8,8,8,8,8,8,8,8,8,8,8,8,8,8,8,8,8,8,8,8,8]
theorem zs7:∀ i:Fin 256,∃ k:Nat,bt z99 (i.val:Int)=k/\k<=8/\(1<=i.val->2 ^ k<=2*i.val):=by
 have h:∀ i:Fin 256,0<=bt z99 (i.val:Int)/\(bt z99 (i.val:Int)).toNat<=8/\(1<=i.val->2 ^ (bt z99 (i.val:Int)).toNat<=2*i.val):=by decide
 intro i
 obtain ⟨h1,h2,h3⟩:=h i
 exact ⟨(bt z99 (i.val:Int)).toNat,by omega,h2,h3⟩
theorem zt2 (x:Int):IntKind.wrap .u64 x=x % 18446744073709551616:=by simp [IntKind.wrap,IntKind.bits,IntKind.signed]
theorem z06j (x:Int):IntKind.wrap .u8 x=x % 256:=by simp [IntKind.wrap,IntKind.bits,IntKind.signed]
section
variable {w:World} {l:List HP}
structure LenS (n x s B:Nat):Prop where
 h1:x*2 ^ s<=n
 h2:1<=x
 h3:x<B
 h4:s<=64
theorem LenS.shift {n x s:Nat} (a b:Nat) (h:LenS n x s (2 ^ (a+b))) (hx:2 ^ a<=x) (hs:s+a<=64):LenS n (x / 2 ^ a) (s+a) (2 ^ b):=by
 obtain ⟨h1,h2,h3,h4⟩:=h
 have hp:0<2 ^ a:=Nat.two_pow_pos a
 refine ⟨?_,Nat.div_pos hx hp,?_,hs⟩
 ·rw [Nat.pow_add,<- Nat.mul_assoc,Nat.mul_right_comm]
  exact Nat.le_trans (Nat.mul_le_mul_right _ (Nat.div_mul_le_self x (2 ^ a))) h1
 ·rw [Nat.div_lt_iff_lt_mul hp,Nat.mul_comm,<- Nat.pow_add];exact h3
theorem z03f (n:Nat) (h0:1<=n) (h1:n<18446744073709551616) (hs:Sat w l):Ret P F.a97 #[.int .u64 n] w λvs w'=>(∃ k:Nat,vs=[.int .i64 k]/\k<=64/\2 ^ k<=2*n)/\Sat w' l :=
 zeb n <| by
  delta zt5 Ac Af Ai An Aq BM Bj
  refine zf (λv w'=>(∃ x s:Nat,v=((x:Int),(s:Int),())/\LenS n x s (2 ^ 32)/\s<=32)/\Sat w' l) ?_ ?_
  ·refine z0r (λhc=>?_) λhc=>?_
   ·have hc:(n:Int)>=4294967296:=of_decide_eq_true hc
    refine z0p (y:=((n / 2 ^ 32:Nat):Int)) (by rw [Int.fdiv_eq_ediv_of_nonneg _ (by omega)];omega) ?_
    exact zp ⟨(((n / 2 ^ 32:Nat):Int),((32:Nat):Int),()),rfl,⟨_,32,rfl,by have:=LenS.shift (n:=n) (x:=n) (s:=0) 32 32 ⟨by omega,h0,by omega,by omega⟩ (by omega) (by omega);simpa using this,by omega⟩,hs⟩
   ·have hc:¬ (n:Int)>=4294967296:=of_decide_eq_false hc
    exact zp ⟨((n:Int),((0:Nat):Int),()),rfl,⟨n,0,rfl,⟨by omega,h0,by omega,by omega⟩,by omega⟩,hs⟩
  rintro _ w ⟨⟨x,s,rfl,hx,hs1⟩,hs⟩
  refine zf (λv w'=>(∃ x s:Nat,v=((x:Int),(s:Int),())/\LenS n x s (2 ^ 16)/\s<=48)/\Sat w' l) ?_ ?_
  ·refine z0r (λhc=>?_) λhc=>?_
   ·have hc:(x:Int)>=65536:=of_decide_eq_true hc
    refine z0p (y:=((x / 2 ^ 16:Nat):Int)) (by dsimp only;rw [Int.fdiv_eq_ediv_of_nonneg _ (by omega)];omega) ?_
    refine z0p (y:=((s+16:Nat):Int)) (by dsimp only;rw [w64 (by omega) (by omega)];omega) ?_
    exact zp ⟨(((x / 2 ^ 16:Nat):Int),((s+16:Nat):Int),()),rfl,⟨_,_,rfl,LenS.shift 16 16 hx (by omega) (by omega),by omega⟩,hs⟩
   ·have hc:¬ (x:Int)>=65536:=of_decide_eq_false hc
    exact zp ⟨((x:Int),(s:Int),()),rfl,⟨x,s,rfl,⟨hx.h1,hx.h2,by omega,hx.h4⟩,by omega⟩,hs⟩
  clear hs hx hs1
  rintro _ w ⟨⟨x,s,rfl,hx,hs1⟩,hs⟩
  refine zf (λv w'=>(∃ x s:Nat,v=((x:Int),(s:Int),())/\LenS n x s (2 ^ 8)/\s<=56)/\Sat w' l) ?_ ?_
  ·refine z0r (λhc=>?_) λhc=>?_
   ·have hc:(x:Int)>=256:=of_decide_eq_true hc
    refine z0p (y:=((x / 2 ^ 8:Nat):Int)) (by dsimp only;rw [Int.fdiv_eq_ediv_of_nonneg _ (by omega)];omega) ?_
    refine z0p (y:=((s+8:Nat):Int)) (by dsimp only;rw [w64 (by omega) (by omega)];omega) ?_
    exact zp ⟨(((x / 2 ^ 8:Nat):Int),((s+8:Nat):Int),()),rfl,⟨_,_,rfl,LenS.shift 8 8 hx (by omega) (by omega),by omega⟩,hs⟩
   ·have hc:¬ (x:Int)>=256:=of_decide_eq_false hc
    exact zp ⟨((x:Int),(s:Int),()),rfl,⟨x,s,rfl,⟨hx.h1,hx.h2,by omega,hx.h4⟩,by omega⟩,hs⟩
  clear hs hx hs1
  rintro _ w ⟨⟨x,s,rfl,hx,hs1⟩,hs⟩
  have hx3:=hx.h3
  have e:IntKind.wrap .u8 (x:Int)=x:=by rw [z06j];omega
  have e':IntKind.wrap .u8 ((x:Int),(s:Int),()).1=x:=e
  obtain ⟨k,hk1,hk2,hk3⟩:=zs7 ⟨x,by omega⟩
  refine wp_must (by rw [e'];omega) ?_
  refine z0p (y:=((s+k:Nat):Int)) ?_ ?_
  ·show IntKind.wrap .i64 ((s:Int)+IntKind.wrap .i64 (bt z99 (IntKind.wrap .u8 (x:Int))))=_
   rw [e,hk1,w64 (x:=(k:Int)) (by omega) (by omega),w64 (by omega) (by omega)];omega
  ·refine ⟨rfl,⟨s+k,rfl,by omega,?_⟩,hs⟩
   have h5:=hk3 hx.h2
   have h6:=hx.h1
   rw [Nat.pow_add]
   calc 2 ^ s*2 ^ k<=2 ^ s*(2*x):=Nat.mul_le_mul_left _ h5
    _=2*(x*2 ^ s):=by rw [Nat.mul_comm (2 ^ s),Nat.mul_assoc]
    _<=2*n:=by omega
theorem zzx (n:Nat) (h0:1<=n) (h1:n<18446744073709551616) (hs:Sat w l):Ret P F.a96 #[.int .u64 n] w λvs w'=>(∃ k:Nat,vs=[.int .i64 k]/\k<=64/\2 ^ k<=2*n)/\Sat w' l :=
 zgu n <| by
  delta zzq Ac Af Aj An
  refine z8 (z03f n h0 h1 hs) λvs w' ⟨⟨k,hv,h2,h3⟩,hs⟩=>?_
  subst hv
  exact ⟨((k:Int),()),rfl,trivial,rfl,⟨k,rfl,h2,h3⟩,hs⟩
theorem z05d (hs:Sat w l):Ret P F.a96 #[.int .u64 0] w λvs w'=>vs=[.int .i64 0]/\Sat w' l :=
 zgu 0 <| by
  delta zzq Ac Af Aj An
  refine wp_callS (0,()) (vs₀:=[.int .i64 0]) (R:=λw'=>Sat w' l) ?_ rfl λw' hs=>⟨trivial,rfl,rfl,hs⟩
  refine zeb 0 ?_
  delta zt5 Ac Af Ai An Aq BM Bj
  refine zf (λv w'=>v=(0,0,())/\Sat w' l) (z80 rfl (zp ⟨(0,0,()),rfl,rfl,hs⟩)) ?_
  rintro _ w ⟨rfl,hs⟩
  refine zf (λv w'=>v=(0,0,())/\Sat w' l) (z80 rfl (zp ⟨(0,0,()),rfl,rfl,hs⟩)) ?_
  clear hs
  rintro _ w ⟨rfl,hs⟩
  refine zf (λv w'=>v=(0,0,())/\Sat w' l) (z80 rfl (zp ⟨(0,0,()),rfl,rfl,hs⟩)) ?_
  clear hs
  rintro _ w ⟨rfl,hs⟩
  refine wp_must (by decide) (z0p (y:=0) ?_ ⟨rfl,rfl,hs⟩)
  show IntKind.wrap .i64 (0+IntKind.wrap .i64 (bt z99 (IntKind.wrap .u8 0)))=0
  decide
theorem z08h (n:Nat) (h0:8<=n) (h1:n<1152921504606846976) (hs:Sat w l):Ret P F.a190 #[.int .i64 n] w λvs w'=>∃ m:Nat,vs=[.int .u64 m]/\1<=m/\m<=2*n/\Sat w' l :=
 zoq n <| by
  delta z01x Aj An Bj
  have e:IntKind.wrap .u64 (n:Int)=n:=by rw [zt2];omega
  rw [e]
  refine z8 (zzx n (by omega) (by omega) hs) λvs w' ⟨⟨k,hv,h2,h3⟩,hs⟩=>?_
  subst hv
  refine ⟨((k:Int),()),rfl,trivial,wp_must (by dsimp only;omega) ?_⟩
  have hp:=Nat.two_pow_pos k
  refine z0p (y:=((2 ^ k:Nat):Int)) ?_ ?_
  ·show IntKind.wrap .u64 (1*2 ^ min (Int.toNat (k:Int)) 64)=_
   rw [Int.toNat_natCast,Nat.min_eq_left h2,Int.one_mul]
   have:((2:Int) ^ k)=((2 ^ k:Nat):Int):=by simp
   rw [this]
   generalize 2 ^ k=p at *
   rw [zt2];omega
  ·exact ⟨rfl,2 ^ k,rfl,hp,h3,hs⟩
theorem z05j {b:Nat} {u:Int} (hs:Sat w (pt b (.cells #[.int .u64 u] T.a50)::l)):Ret P F.a212 #[.pointer (some ⟨b,0,none⟩)] w λvs w'=>∃ v u',vs=[.int .u64 v]/\Sat w' (pt b (.cells #[.int .u64 u'] T.a50)::l) :=
 zoy (some ⟨b,0,none⟩) <| by
  delta z01y AA AG AI An Ar BQ Bj
  have step:∀ {w:World} {u:Int} {Q:Post} {k:Prog} {f:Int->Int->Int},Sat w (pt b (.cells #[.int .u64 u] T.a50)::l)->(∀ w' u',Sat w' (pt b (.cells #[.int .u64 u'] T.a50)::l)->k.wp P tt w' Q) ->
    (Prog.tick <| .ex [.adr] (c1 λa=>some (Addr.mk b 0 none)=some a) (u1 λa1=>.read True (ld T.a50 a1) (sI .u64) (u1 λ(n2:Int)=>.ex [.adr] (c1 λa=>some (Addr.mk b 0 none)=some a) (u1 λa4=>.read True (ld T.a50 a4) (sI .u64) (u1 λ(n5:Int) =>
     .ex [.adr] (c1 λa=>some (Addr.mk b 0 none)=some a) (u1 λa7=>.actU (st T.a50 a7 (.int .u64 (f n2 n5))) <| .untick k)))))).wp P tt w Q:=λhs h=>by
   refine zb0 λw2 hw=>?_
   have hs:=hs.heap hw
   refine z4r (⟨b,0,none⟩,()) rfl ?_
   refine zgl hs rfl ?_
   refine z4r (⟨b,0,none⟩,()) rfl ?_
   refine zgl hs rfl ?_
   refine z4r (⟨b,0,none⟩,()) rfl ?_
   refine zm8 hs rfl rfl rfl λw' hs=>⟨trivial,?_⟩
   exact zd (h w' _ hs)
  refine step (f:=λn2 n5=>IntKind.wrap .u64 (((BitVec.toNat (BitVec.ofInt 64 n2 ^^^ BitVec.ofInt 64 (IntKind.wrap .u64 (n5*8192))):Nat):Int))) hs λw' u' hs=>?_
  refine step (f:=λn2 n5=>IntKind.wrap .u64 (((BitVec.toNat (BitVec.ofInt 64 n2 ^^^ BitVec.ofInt 64 (Int.fdiv n5 128)):Nat):Int))) hs λw' u' hs=>?_
  refine step (f:=λn2 n5=>IntKind.wrap .u64 (((BitVec.toNat (BitVec.ofInt 64 n2 ^^^ BitVec.ofInt 64 (IntKind.wrap .u64 (n5*131072))):Nat):Int))) hs λw' u' hs=>?_
  refine z4r (⟨b,0,none⟩,()) rfl ?_
  refine zgl hs rfl ?_
  exact wp_lt ⟨rfl,_,_,rfl,hs⟩
end
def zb3 (x y:Int):Int:=if x<y then -1 else if x>y then 1 else 0
section
variable {w:World} {l:List HP} {Q:Post} {S:World->Prop}
theorem zzd {f : FuncId} {args : List Value} {s : Sh} {k : HL s.prims → Prog} {vs₀ : List Value} {R : World → Prop} (hok : (P.funcs[f]?).any (fun fn => fn.body.isSome && fn.name != "runtime.NumGoroutine") = true) (x : HL s.prims)
  (hc:Ret P f args.toArray w λvs w'=>vs=vs₀/\R w') (hx:z7v vs₀=s.mk x) (h:∀ w',R w'->S w'/\(k x).wp P S w' Q):(Prog.callv (.func (.func f) #[] #[]) args s k).wp P S w Q:=by
 refine ⟨f,#[],#[],rfl,hok,?_⟩
 have e:(#[]:Array Value)++args.toArray++#[]=args.toArray:=by simp
 rw [e]
 refine Calls.mono hc λe w' ⟨vs,he,hv,hR⟩=>?_
 exact ⟨x,by rw [he,hv,hx],h w' hR⟩
theorem zq4 (x:Int) (hs:Sat w l):Ret P F.a3 #[.int .i64 x] w λvs w'=>vs=[.bool false]/\Sat w' l :=
 zx2 x <| by
  delta zf3 Ag An
  refine wp_lt ?_
  exact ⟨rfl,by simp,hs⟩
theorem zi1 (x y:Int) (hs:Sat w l):Ret P F.a1 #[.int .i64 x,.int .i64 y] w λvs w'=>vs=[.int .i64 (zb3 x y)]/\Sat w' l :=
 zx1 x y <| by
  delta zf1 Ac Ag Ai Am An
  refine z8 (zq4 x hs) λ_ _ hs=>?_
  obtain ⟨rfl,hs⟩:=hs
  refine zb ?_
  refine wp_lt ?_
  refine z8 (zq4 y hs) λ_ _ hs=>?_
  obtain ⟨rfl,hs⟩:=hs
  refine zb ?_
  refine wp_lt ?_
  refine zy ?_ (by simp)
  refine zy ?_ (by simp)
  unfold zb3
  refine ze (λh=>?_) λh=>?_
  ·rw [if_pos h];exact ⟨rfl,rfl,hs⟩
  rw [if_neg h]
  refine ze (λh2=>?_) λh2=>?_
  ·rw [if_pos h2];exact ⟨rfl,rfl,hs⟩
  ·rw [if_neg h2];exact ⟨rfl,rfl,hs⟩
end
abbrev fnV (g:FuncId):Value:=.func (.func g) #[] #[]
structure TxnA where
 pid:Int
 epoch:Int
 first:Int
 last:Int
def z2r (t:TxnA):List Value:=[.int .i64 t.pid,.int .i64 t.epoch,.int .i64 t.first,.int .i64 t.last]
instance:EncA z2r [.int .i64,.int .i64,.int .i64,.int .i64] (λt=>(t.pid,t.epoch,t.first,t.last,())):=⟨λ_=>rfl⟩
instance:EncN z2r 4:=⟨λ_=>rfl,by decide,by simp [z2r,Value.oneCell']⟩
instance:EncF z2r 0 (.int .i64) (λt=>t.pid):=⟨λ_=>rfl⟩
instance:EncF z2r 1 (.int .i64) (λt=>t.epoch):=⟨λ_=>rfl⟩
instance:EncF z2r 2 (.int .i64) (λt=>t.first):=⟨λ_=>rfl⟩
instance:EncF z2r 3 (.int .i64) (λt=>t.last):=⟨λ_=>rfl⟩
def z49 (cmp:Value):SortI where
 T:=T.a15
 s:=.agg [.int .i64,.int .i64,.int .i64,.int .i64]
 sz:=4
 less:=λx y k=>.callv cmp [.agg #[.int .i64 x.1,.int .i64 x.2.1,.int .i64 x.2.2.1,.int .i64 x.2.2.2.1],.agg #[.int .i64 y.1,.int .i64 y.2.1,.int .i64 y.2.2.1,.int .i64 y.2.2.2.1]] (sI .i64) (u1 λn=>k (decide (n<0)))
 ex:=[cmp]
 xs:=T.a50
 ti:=T.a13
 fNext:=F.a212
 fPow:=F.a190
 f_sift:=F.a210
 f_heap:=F.a179
 f_ins:=F.a182
 f_brk:=F.a173
 f_rev:=F.a207
 f_pins:=F.a195
 f_peq:=F.a200
 f_part:=F.a198
 f_ord2:=F.a192
 f_med:=F.a188
 f_medj:=F.a185
 f_piv:=F.a176
 f_pdq:=F.a204
theorem zlw (cmp:Value):(z49 cmp).Impl P where
 sift h:=zox _ _ _ _ _ h
 heap h:=zom _ _ _ _ h
 ins h:=zon _ _ _ _ h
 brk h:=zok _ _ _ _ h
 rev h:=zow _ _ _ _ h
 pins h:=zos _ _ _ _ h
 peq h:=zou _ _ _ _ _ h
 part h:=zot _ _ _ _ _ h
 ord2 h:=zor _ _ _ _ _ h
 med h:=zop _ _ _ _ _ _ h
 medj h:=zoo _ _ _ _ h
 piv h:=zol _ _ _ _ h
 pdq h:=zov _ _ _ _ _ h
theorem zmr (cmp:Value):(z49 cmp).Ok2 P where
 one:=inferInstanceAs (One P T.a13)
 zer:=inferInstanceAs (Zer P T.a13 _)
 xone:=inferInstanceAs (One P T.a50)
 xzer:=inferInstanceAs (Zer P T.a50 _)
 next h:=z05j h
 pow h1 h2 h:=z08h _ h1 h2 h
section
variable {w:World} {l:List HP} {Q:Post} {S:World->Prop}
theorem zuv (a b:TxnA) (hs:Sat w l):Ret P F.a74 #[.agg (z2r a).toArray,.agg (z2r b).toArray] w λvs w'=>vs=[.int .i64 (zb3 a.first b.first)]/\Sat w' l :=
 zuh a.pid a.epoch a.first a.last b.pid b.epoch b.first b.last <| by
  delta z07t AP Ac Af Aj An Av Bp
  refine zn hs λa0 w' hs=>?_
  refine zn hs λa1 w' hs=>?_
  refine za hs ?_
  refine za hs ?_
  refine z8 (zi1 a.first b.first hs) λ_ _ hs=>?_
  obtain ⟨rfl,hs⟩:=hs
  refine zb ?_
  refine wp_lt ?_
  exact ⟨rfl,rfl,hs.tail.tail⟩
theorem zxa (a b:TxnA) (hs:Sat w l):Ret P F.a68 #[.agg (z2r a).toArray,.agg (z2r b).toArray] w λvs w'=>vs=[.int .i64 (zb3 a.last b.last)]/\Sat w' l :=
 zud a.pid a.epoch a.first a.last b.pid b.epoch b.first b.last <| by
  delta z07q AP Ac Af Aj An Av Bp
  refine zn hs λa0 w' hs=>?_
  refine zn hs λa1 w' hs=>?_
  refine za hs ?_
  refine za hs ?_
  refine z8 (zi1 a.last b.last hs) λ_ _ hs=>?_
  obtain ⟨rfl,hs⟩:=hs
  refine zb ?_
  refine wp_lt ?_
  exact ⟨rfl,rfl,hs.tail.tail⟩
def toX (cmp:Value) (t:TxnA):(z49 cmp).E:=(t.pid,t.epoch,t.first,t.last,())
def ofX (cmp:Value) (e:(z49 cmp).E):TxnA:=⟨e.1,e.2.1,e.2.2.1,e.2.2.2.1⟩
theorem zko (cmp:Value):∀ xs:List TxnA,(xs.map (toX cmp)).flatMap (z49 cmp).enc=xs.flatMap z2r
 | []=>rfl
 | x::r=>by rw [List.map_cons,List.flatMap_cons,List.flatMap_cons,zko cmp r];rfl
theorem zkl (cmp:Value):∀ xs:List (z49 cmp).E,(xs.map (ofX cmp)).flatMap z2r=xs.flatMap (z49 cmp).enc
 | []=>rfl
 | x::r=>by rw [List.map_cons,List.flatMap_cons,List.flatMap_cons,zkl cmp r];rfl
theorem z05m (cmp:Value) (xs:List TxnA):(xs.map (toX cmp)).map (ofX cmp)=xs:=by rw [List.map_map];exact List.map_id xs
def zji (f : TxnA → Int) (g : FuncId) : Prop := (P.funcs[g]?).any (fun fn => fn.body.isSome && fn.name != "runtime.NumGoroutine") = true ∧
 ∀ (w:World) (l:List HP) (a b:TxnA),Sat w l->Ret P g #[.agg (z2r a).toArray,.agg (z2r b).toArray] w λvs w'=>vs=[.int .i64 (zb3 (f a) (f b))]/\Sat w' l
theorem byFirst:zji TxnA.first F.a74:=⟨by kernel_rfl,λw l a b hs=>zuv a b hs⟩
theorem byLast:zji TxnA.last F.a68:=⟨by kernel_rfl,λw l a b hs=>zxa a b hs⟩
def ltX (f:TxnA->Int) (g:FuncId) (x y:(z49 (fnV g)).E):Bool:=decide (f (ofX _ x)<f (ofX _ y))
theorem z05f (f:TxnA->Int) (g:FuncId):LtOk (ltX f g) where
 asymm {x y} h:=by
  have h:decide (f (ofX _ x)<f (ofX _ y))=true:=h
  rw [decide_eq_true_iff] at h
  show decide (f (ofX _ y)<f (ofX _ x))=false
  rw [decide_eq_false_iff_not];omega
 trans {x y z} h1 h2:=by
  have h1:decide (f (ofX _ x)<f (ofX _ y))=false:=h1
  have h2:decide (f (ofX _ y)<f (ofX _ z))=false:=h2
  rw [decide_eq_false_iff_not] at h1 h2
  show decide (f (ofX _ x)<f (ofX _ z))=false
  rw [decide_eq_false_iff_not];omega
theorem zsr {f:TxnA->Int} {g:FuncId} (hg:zji f g):(z49 (fnV g)).Ok P (ltX f g) where
 pos:=Nat.zero_lt_succ 3
 enc _:=rfl
 ld w A x h:=At.ldA (T:=T.a15) (n:=4) h rfl
 size:=(inferInstance:Agg P T.a15 4).ok.2
 cells _:=rfl
 one x:=by intro u hu;exact (inferInstance:EncN z2r 4).one (ofX _ x) u hu
 less {x y k w l Q} hs h:=by
  refine zzd hg.1 (zb3 (f (ofX _ x)) (f (ofX _ y)),()) (hg.2 w l (ofX _ x) (ofX _ y) hs) rfl λw' hs=>⟨trivial,?_⟩
  have e:decide (zb3 (f (ofX _ x)) (f (ofX _ y))<0)=ltX f g x y:=by
   unfold zb3 ltX
   rw [decide_eq_decide]
   split
   ·simp [*]
   ·split <;> simp [*]
  show (k (decide (zb3 (f (ofX _ x)) (f (ofX _ y))<0))).wp P tt w' Q
  rw [e]
  exact h w' hs
theorem z047 {f:TxnA->Int} {g:FuncId} (hg:zji f g) (x:Sl) (xs:List TxnA) (h63:xs.length<576460752303423488) (hs:Sat w (slc T.a15 4 x (xs.flatMap z2r)::l)) :
  Ret P F.a170 #[x.v,fnV g] w λvs w'=>vs=[]/\∃ ys:List TxnA,ys.Perm xs/\ys.Pairwise (λa b=>f a<=f b)/\Sat w' (slc T.a15 4 x (ys.flatMap z2r)::l) :=
 zoj x (fnV g) <| by
  delta z01w AU Ac Af Aj Al An
  have hl:x.len=xs.length:=hs.rd.len (enc:=z2r) (λ_=>rfl) (by decide)
  refine wp_lt ?_
  rw [hl]
  have hs:Sat w ((z49 (fnV g)).arr x (xs.map (toX _))::l):=by
   refine hs.imp λp hp=>?_
   rw [SortI.arr,zko];exact hp
  have hfin:∀ {w':World},(∃ ys,ys.Perm (xs.map (toX _))/\ys.Pairwise (λx y=>ltX f g y x=false)/\Sat w' ((z49 (fnV g)).arr x ys::l))->∃ ys:List TxnA,ys.Perm xs/\ys.Pairwise (λa b=>f a<=f b)/\Sat w' (slc T.a15 4 x (ys.flatMap z2r)::l):=by
   rintro w' ⟨ys,hp,hso,hs⟩
   refine ⟨ys.map (ofX _),?_,?_,?_⟩
   ·have:=hp.map (ofX _)
    rwa [z05m] at this
   ·rw [List.pairwise_map]
    refine hso.imp λ{a b} h=>?_
    have h:decide (f (ofX _ b)<f (ofX _ a))=false:=h
    rw [decide_eq_false_iff_not] at h;omega
   ·refine hs.imp λp hp=>?_
    rw [zkl];exact hp
  have hlen:Ret P F.a96 #[.int .u64 (IntKind.wrap .u64 (xs.length:Int))] w λvs w'=>(∃ k:Int,vs=[.int .i64 k])/\Sat w' ((z49 (fnV g)).arr x (xs.map (toX _))::l):=by
   by_cases h0:xs.length=0
   ·rw [h0]
    exact Calls.mono (z05d hs) λe w' ⟨vs,he,hv,hs⟩=>⟨vs,he,⟨0,hv⟩,hs⟩
   ·have e:IntKind.wrap .u64 (xs.length:Int)=xs.length:=by rw [zt2];omega
    rw [e]
    exact Calls.mono (zzx xs.length (by omega) (by omega) hs) λe w' ⟨vs,he,⟨k,hv,_,_⟩,hs⟩=>⟨vs,he,⟨k,hv⟩,hs⟩
  refine z8 hlen λvs w' ⟨⟨k,hv⟩,hs⟩=>?_
  subst hv
  refine ⟨(k,()),rfl,trivial,?_⟩
  have:=z03l (zsr hg) (zlw _) (zmr _) (z05f f g) (toX _ ⟨0,0,0,0⟩) k (by rw [List.length_map];exact h63) hs
  rw [List.length_map] at this
  refine wp_callS () this rfl λw' h=>⟨trivial,rfl,rfl,hfin h⟩
end
structure AtM where
 off:Int
 r:RecM
def z0a (a:AtM):List Value:=[.int .i64 a.off,.string a.r.key,.string a.r.value,.bool a.r.gone,.int .i64 a.r.time]
instance:EncA z0a [.int .i64,.str,.str,.bool,.int .i64] (λa=>(a.off,a.r.key,a.r.value,a.r.gone,a.r.time,())):=⟨λ_=>rfl⟩
instance:EncN z0a 5:=⟨λ_=>rfl,by decide,by simp [z0a,Value.oneCell']⟩
def atF (base:Int) (i:Nat) (r:RecM):AtM:=⟨IntKind.wrap .i64 (base+i),r⟩
def z1x (b:BatM):List AtM:=if z0i b then [] else b.rs.mapIdx λi r=>atF b.base i r
def z3y (bs:List BatM):List AtM:=bs.flatMap z1x
theorem zcj (b:BatM):(z1x b).length<=b.rs.length:=by unfold z1x;split <;> simp
theorem zid {n:Nat}:∀ (bs:List BatM),(∀ b ∈ bs,b.rs.length<=n)->(z3y bs).length<=bs.length*n
 | [],_=>by simp [z3y]
 | b::r,h=>by
  have h1:=zid r λc hc=>h c (List.mem_cons_of_mem _ hc)
  have h2:=zcj b
  have h3:=h b (List.mem_cons_self ..)
  unfold z3y at h1 ⊢
  rw [List.flatMap_cons,List.length_append,List.length_cons,Nat.succ_mul]
  omega
theorem zml {α β:Type} (f:Nat->α->β) {xs:List α} {i:Nat} (hi:i<xs.length):(xs.take (i+1)).mapIdx f=(xs.take i).mapIdx f++[f i xs[i]]:=by
 rw [List.take_add_one,List.getElem?_eq_getElem hi,Option.toList_some,List.mapIdx_append]
 simp only [List.mapIdx_cons,List.mapIdx_nil,List.length_take]
 rw [Nat.min_eq_left (by omega),Nat.zero_add]
section
variable {w:World} {l r:List HP} {b:BatM}
theorem zq3 (b:BatM) (hs:Sat w l):Ret P F.a81 #[.agg (zv b).toArray] w λvs w'=>vs=[.bool (z0i b)]/\Sat w' l :=
 zum b.base b.pid b.epoch b.seq b.kind b.time b.x <| by
  delta z07x AF AP AQ Ag An Av
  refine zn hs λa0 w' hs=>?_
  refine za hs ?_
  refine za hs ?_
  refine wp_lt ?_
  exact ⟨rfl,rfl,hs.tail⟩
theorem zvg (x:Sl) (bs:List BatM) [hx:FocR l x 7 (bs.flatMap zv)] (hbs:∀ b ∈ bs,FocR l b.x 4 (b.rs.flatMap z04)) (hn:bs.length<=1000) (hr:∀ b ∈ bs,b.rs.length<=1000) (hs:Sat w l) :
  Ret P F.a120 #[x.v] w λvs w'=>∃ z:Sl,vs=[z.v]/\Sat w' (slc T.a36 5 z ((z3y bs).flatMap z0a)::l) :=
 znc x <| by
  delta z00p AD AE AF AH AN AO AP AZ Ac Af Ai Al Am An Ao Aq Ar BZ Bf By
  have hl:=hs.slen x (xs:=bs) (enc:=zv)
  refine zf (λv w'=>∃ z:Sl,v=(z,())/\Sat w' (slc T.a36 5 z ((z3y bs).flatMap z0a)::l)) ?_ (by rintro _ w' ⟨z,rfl,hs⟩;refine zm ?_;exact ⟨rfl,z,rfl,hs⟩)
  refine z03 (λk v w=>∃ (i:Nat) (z:Sl),v=(z,(i:Int),())/\i<=bs.length/\bs.length-i=k/\Sat w (slc T.a36 5 z ((z3y (bs.take i)).flatMap z0a)::l)) bs.length ⟨0,⟨none,0,0⟩,rfl,by omega,rfl,hs.slc_nil⟩ ?_
  clear hs
  rintro k _ w ⟨i,z,rfl,hi,hk,hs⟩
  refine zm ?_
  refine ze (λhc=>?_) λhc=>?_
  rotate_left
  ·refine zh (zj ⟨z,rfl,?_⟩)
   rw [List.take_of_length_le (by omega)] at hs
   exact hs
  have hil:i<bs.length:=by omega
  have hbx:=hbs _ (List.getElem_mem hil)
  have hbr:=hr _ (List.getElem_mem hil)
  have hto:z3y (bs.take (i+1))=z3y (bs.take i)++z1x bs[i]:=by
   unfold z3y
   rw [List.take_add_one,List.getElem?_eq_getElem hil,Option.toList_some,List.flatMap_append,List.flatMap_singleton]
  have hzl:(z3y (bs.take i)).length<=1000000:=by
   have h1:=zid (n:=1000) (bs.take i) λb hb=>hr b (List.mem_of_mem_take hb)
   have h2:(bs.take i).length<=1000:=by rw [List.length_take];omega
   have:=Nat.mul_le_mul_right 1000 h2
   omega
  refine zf (λv w'=>∃ z:Sl,v=(z,())/\Sat w' (slc T.a36 5 z ((z3y (bs.take (i+1))).flatMap z0a)::l)) ?_ ?_
  rotate_left
  ·rintro _ w' ⟨z,rfl,hs⟩
   refine zm ?_
   refine z2z (us':=[z.v,.int .i64 ((i+1:Nat):Int)]) (by (try simp (disch:=omega) only [w64]);first|rfl|(congr;omega)) ?_
   refine z11 (bs.length-(i+1)) ?_
   exact ⟨i+1,z,rfl,by omega,rfl,hs⟩
  refine z4l hs i hil ?_
  refine zq hs λc w' hs=>?_
  refine zr hs λw' hs=>?_
  refine zk hs ?_
  refine z8 (z6h bs[i] hs) λ_ _ hs=>?_
  obtain ⟨rfl,hs⟩:=hs
  refine zb ?_
  refine ze (λhm=>?_) λhm=>?_
  ·refine zj ⟨z,rfl,?_⟩
   rw [hto,z1x,if_pos hm,List.append_nil]
   exact hs.sub
  refine za hs ?_
  have hrl:=hs.slen bs[i].x (xs:=bs[i].rs) (enc:=z04)
  have hfl:z1x bs[i]=bs[i].rs.mapIdx λj r=>atF bs[i].base j r:=by rw [z1x,if_neg hm]
  refine zf (λv w'=>∃ z:Sl,v=(z,())/\Sat w' (slc T.a36 5 z ((z3y (bs.take i)++bs[i].rs.mapIdx λj r=>atF bs[i].base j r).flatMap z0a)::l)) ?_ ?_
  rotate_left
  ·rintro _ w' ⟨z,rfl,hs⟩
   refine zm ?_
   refine zj ⟨z,rfl,?_⟩
   rw [hto,hfl]
   exact hs
  refine z03 (λk v w=>∃ (j:Nat) (z:Sl),v=(z,(j:Int),())/\j<=bs[i].rs.length/\bs[i].rs.length-j=k/\Sat w (slc T.a36 5 z ((z3y (bs.take i)++(bs[i].rs.take j).mapIdx λj r=>atF bs[i].base j r).flatMap z0a)::pt c (.cells #[.int .i64 bs[i].base,.int .i64 bs[i].pid,.int .i64 bs[i].epoch,.int .i64 bs[i].seq,.int .i64 bs[i].kind,.int .i64 bs[i].time,.slice bs[i].x.a bs[i].x.len bs[i].x.cap] T.a0)::l)) bs[i].rs.length ⟨0,z,rfl,by omega,rfl,by rw [List.take_zero,List.mapIdx_nil,List.append_nil];exact hs.sub⟩ ?_
  clear hs
  rintro k _ w ⟨j,z,rfl,hj,hk,hs⟩
  refine zm ?_
  refine ze (λhc=>?_) λhc=>?_
  rotate_left
  ·refine zh (zj ⟨z,rfl,?_⟩)
   rw [show bs[i].rs.take j=bs[i].rs from List.take_of_length_le (by omega)] at hs
   exact hs.sub
  have hjl:j<bs[i].rs.length:=by omega
  refine z4l hs j hjl ?_
  refine zq hs λe w' hs=>?_
  refine wp_lt ?_
  refine zr hs λw' hs=>?_
  refine za hs ?_
  refine zk hs ?_
  refine z6m hs (xs:=z3y (bs.take i)++(bs[i].rs.take j).mapIdx λj r=>atF bs[i].base j r) (enc:=z0a) (atF bs[i].base j bs[i].rs[j]) (λz w' hs=>?_) rfl (by rw [List.length_append,List.length_mapIdx,List.length_take];omega)
  refine z2z (us':=[z.v,.int .i64 ((j+1:Nat):Int)]) (by (try simp (disch:=omega) only [w64]);first|rfl|(congr;omega)) ?_
  refine z11 (bs[i].rs.length-(j+1)) ?_
  refine ⟨j+1,z,rfl,by omega,rfl,?_⟩
  rw [zml _ hjl,<- List.append_assoc]
  exact hs.sub
end
structure ViewA where
 next:Int
 op:List TxnA
 fa:List TxnA
abbrev evX (t:TxnA):Value:=.agg #[.int .i64 t.pid,.int .i64 t.epoch,.int .i64 t.first,.int .i64 t.last]
def opF (A:ViewA) (pid:Int):Option TxnA:=A.op.find? λt=>decide (t.pid=pid)
def faF (A:ViewA) (pid epoch:Int):Option TxnA:=A.fa.find? λt=>decide (t.pid=pid/\t.epoch=epoch)
def z6i (A:ViewA):Int:=match A.op with
 | []=>A.next
 | t::_=>t.first
structure okT (t:TxnA) (next:Int):Prop where
 pid:1<=t.pid/\t.pid<=1048576
 epoch:0<=t.epoch/\t.epoch<=32767
 first:0<=t.first/\t.first<next
structure okV (A:ViewA):Prop where
 next:0<=A.next/\A.next<=1099511627777
 many:A.op.length<=1024/\A.fa.length<=4096
 op:∀ t ∈ A.op,okT t A.next/\t.last = -1
 fa:∀ t ∈ A.fa,okT t A.next/\t.first<t.last/\t.last<A.next
 byFirst:A.op.Pairwise λa b=>a.first<b.first
 byLast:A.fa.Pairwise λa b=>a.last<b.last
 pids:(A.op.map (·.pid)).Nodup
 keys:(A.fa.map λt=>(t.pid,t.epoch)).Nodup
 apart:∀ t ∈ A.op,∀ u ∈ A.fa,¬ (t.pid=u.pid/\t.epoch=u.epoch)
def opK (A:ViewA):List (Int × TxnA):=A.op.map λt=>(t.pid,t)
def faK (A:ViewA):List ((Int × Int) × TxnA):=A.fa.map λt=>((t.pid,t.epoch),t)
def vw (v:Nat) (A:ViewA):HP:=HP.ex λM:Nat × Nat=>HP.and (okV A) (HP.star (pt v (.cells #[.int .i64 A.next,.map (some M.1),.map (some M.2)] T.a16))
 (HP.star (z1c ekI evX M.1 (opK A)) (z1c ekK evX M.2 (faK A))))
section
variable {w:World} {l r r1 r2 r3 l':List HP} {v:Nat} {A:ViewA}
theorem z93 (hs:Sat w (vw v A::l)):∃ m1 m2:Nat,okV A/\Sat w (pt v (.cells #[.int .i64 A.next,.map (some m1),.map (some m2)] T.a16)::z1c ekI evX m1 (opK A)::z1c ekK evX m2 (faK A)::l):=by
 obtain ⟨⟨m1,m2⟩,hs⟩:=hs.ex
 obtain ⟨hok,hs⟩:=hs.and
 have hs:=hs.star
 have hs:=(hs.pick [1]).star
 exact ⟨m1,m2,hok,hs.pick [2,0,0]⟩
theorem z4o (m1 m2:Nat) (hok:okV A) (hs:Sat w l) {es1:List (Int × TxnA)} {es2:List ((Int × Int) × TxnA)} [h1:FocB l v (.cells [.int .i64 A.next,.map (some m1),.map (some m2)].toArray T.a16) r1] [h2:FoM r1 m1 ekI evX es1 r2] [h3:FoM r2 m2 ekK evX es2 r3] [h4:Sub r3 l']
  (hp1:es1.Perm (opK A):=by exact .refl _) (hp2:es2.Perm (faK A):=by exact .refl _):Sat w (vw v A::l'):=by
 have hs:=hs.perm (h1.perm.trans (.cons _ (h2.perm.trans (.cons _ h3.perm))))
 have hs:=((hs.pick [1]).mapPerm hp1)
 have hs:=((hs.pick [2]).mapPerm hp2)
 have hs:Sat w (vw v A::r3):=by
  refine .ex_mk (m1,m2) (.and_mk hok (.star_mk ?_))
  refine (Sat.star_mk (hs.pick [1,0])).pick [1]
 exact hs.sub
theorem zbj {pid:Int} {t:TxnA} (h:opF A pid=some t):t ∈ A.op/\t.pid=pid:=⟨List.mem_of_find?_eq_some h,by simpa using List.find?_some h⟩
theorem zl8 {pid:Int} (h:opF A pid=none):∀ t ∈ A.op,t.pid≠pid:=λt ht=>by simpa using List.find?_eq_none.1 h t ht
theorem zeh {pid epoch:Int} {t:TxnA} (h:faF A pid epoch=some t):t ∈ A.fa/\t.pid=pid/\t.epoch=epoch:=⟨List.mem_of_find?_eq_some h,by simpa using List.find?_some h⟩
theorem zb5 {pid epoch:Int} (h:faF A pid epoch=none):∀ t ∈ A.fa,¬ (t.pid=pid/\t.epoch=epoch):=λt ht=>by simpa using List.find?_eq_none.1 h t ht
theorem zl7 (A:ViewA) (pid:Int):(∃ t,opF A pid=some t/\(pid,t) ∈ opK A)\/(opF A pid=none/\∀ t,(pid,t) ∉ opK A):=by
 cases h:opF A pid with
 | some t=>exact .inl ⟨t,rfl,List.mem_map.2 ⟨t,(zbj h).1,by rw [(zbj h).2]⟩⟩
 | none=>exact .inr ⟨rfl,λt ht=>by
   obtain ⟨u,hu,e⟩:=List.mem_map.1 ht
   simp only [Prod.mk.injEq] at e
   exact zl8 h u hu e.1⟩
theorem zkf (A:ViewA) (pid epoch:Int):(∃ t,faF A pid epoch=some t/\((pid,epoch),t) ∈ faK A)\/(faF A pid epoch=none/\∀ t,((pid,epoch),t) ∉ faK A):=by
 cases h:faF A pid epoch with
 | some t=>exact .inl ⟨t,rfl,List.mem_map.2 ⟨t,(zeh h).1,by rw [(zeh h).2.1,(zeh h).2.2]⟩⟩
 | none=>exact .inr ⟨rfl,λt ht=>by
   obtain ⟨u,hu,e⟩:=List.mem_map.1 ht
   simp only [Prod.mk.injEq] at e
   exact zb5 h u hu e.1⟩
theorem z069 (hs:Sat w l):Ret P F.a65 #[] w λvs w'=>∃ v,vs=[.pointer (some ⟨v,0,none⟩)]/\Sat w' (vw v ⟨0,[],[]⟩::l) :=
 zjg <| by
  unfold zq6
  refine zbv ekI evX hs λm1 w' hs=>?_
  refine zbv ekK evX hs λm2 w' hs=>?_
  refine zn hs λv w' hs=>?_
  refine ⟨rfl,v,rfl,?_⟩
  exact z4o m1 m2 (A:=⟨0,[],[]⟩) ⟨by show (0:Int)<=0/\(0:Int)<=_;omega,by simp,by simp,by simp,by simp,by simp,by simp,by simp,by simp⟩ hs
end
theorem zge {f:TxnA->Int}:∀ {a b:List TxnA},a.Perm b->(a.Pairwise λx y=>f x<=f y)->(b.Pairwise λx y=>f x<f y)->a=b
 | a,[],hp,_,_=>hp.eq_nil
 | [],y::b,hp,_,_=>absurd hp.symm.eq_nil (by simp)
 | x::a,y::b,hp,ha,hb=>by
  rw [List.pairwise_cons] at ha hb
  have hxy:x=y:=by
   have hx:x ∈ y::b:=hp.mem_iff.1 (List.mem_cons_self ..)
   have hy:y ∈ x::a:=hp.mem_iff.2 (List.mem_cons_self ..)
   rcases List.mem_cons.1 hx with h|h
   ·exact h
   ·rcases List.mem_cons.1 hy with h2|h2
    ·exact h2.symm
    ·have h3:=hb.1 x h
     have h4:=ha.1 y h2
     omega
  subst hxy
  rw [zge (List.Perm.cons_inv hp) ha.2 hb.2]
theorem zwp {A:ViewA} (hok:okV A) {n:Int} (h1:n<=A.next) (h2:∀ t ∈ A.op,n<=t.first) (h3:n=A.next\/∃ t ∈ A.op,n=t.first):n=z6i A:=by
 unfold z6i
 cases hop:A.op with
 | nil =>
  rcases h3 with h|⟨t,ht,-⟩
  ·exact h
  ·rw [hop] at ht;cases ht
 | cons u us =>
  dsimp only
  have hu:u ∈ A.op:=by rw [hop];exact List.mem_cons_self ..
  have h4:=h2 u hu
  have h5:=(hok.op u hu).1.first
  rcases h3 with h|⟨t,ht,rfl⟩
  ·omega
  ·have hb:=hok.byFirst
   rw [hop] at hb ht
   rcases List.mem_cons.1 ht with rfl|ht
   ·rfl
   ·have:=(List.pairwise_cons.1 hb).1 t ht;omega
def z9x (o:Option TxnA):Int × Int × Int × Int × Bool × Unit:=((o.getD ⟨0,0,0,0⟩).pid,(o.getD ⟨0,0,0,0⟩).epoch,(o.getD ⟨0,0,0,0⟩).first,(o.getD ⟨0,0,0,0⟩).last,o.isSome,())
section
variable {w:World} {l r r1 r2 r3 l':List HP} {v:Nat} {A:ViewA}
theorem zij [hf:Fo l vw v A r] (hs:Sat w l):Ret P F.a75 #[.pointer (some ⟨v,0,none⟩)] w λvs w'=>vs=[.int .i64 (z6i A)]/\Sat w' (vw v A::r) :=
 zui _ <| by
  delta zzi AA AP AT Ac Af Ai An Ao Ap Ar Az B8 Bp Bz
  obtain ⟨m1,m2,hok,hs⟩:=z93 (hs.perm hf.perm)
  refine zy ?_ (by simp)
  refine zg ?_
  refine za hs ?_
  refine wp_lt ?_
  refine zg ?_
  refine za hs ?_
  refine zje hs λit w' hs=>?_
  refine zf (λx w'=>x=(z6i A,())/\Sat w' (vw v A::r)) ?_ (by rintro _ w' ⟨rfl,hs⟩;refine zm ?_;refine wp_lt ?_;exact ⟨rfl,rfl,hs⟩)
  refine z03 (λk x w=>∃ (n:Int) (todo:List (Int × TxnA)) (last:Option (Int × TxnA)),x=(n,())/\todo.length=k/\(∀ y ∈ todo,y ∈ opK A)/\n<=A.next/\(∀ t ∈ A.op,(t.pid,t) ∈ todo\/n<=t.first)/\(n=A.next\/∃ t ∈ A.op,n=t.first) /\
   Sat w (itP ekI evX it m1 (opK A) todo last::pt v (.cells #[.int .i64 A.next,.map (some m1),.map (some m2)] T.a16)::z1c ekK evX m2 (faK A)::r)) (opK A).length
   ⟨A.next,opK A,none,rfl,rfl,λy hy=>hy,Int.le_refl _,λt ht=>.inl (List.mem_map.2 ⟨t,ht,rfl⟩),.inl rfl,hs⟩ ?_
  clear hs
  rintro k _ w ⟨n,todo,last,rfl,hk,hsub,h1,h2,h3,hs⟩
  refine zm ?_
  refine zm7 hs (λk t=>(k,t.pid,t.epoch,t.first,t.last,())) (λkk t todo' w' hp hs=>?_) λh0=>?_
  ·refine z8w kk t.pid t.epoch t.first t.last ?_
   refine zrc hs (kk,t.pid,t.epoch,t.first,t.last,()) ?_
   refine z8w kk t.pid t.epoch t.first t.last ?_
   refine zq hs λc w' hs=>?_
   refine zr hs λw' hs=>?_
   refine za hs ?_
   refine wp_lt ?_
   have hmem:(kk,t) ∈ opK A:=hsub _ (hp.mem_iff.2 (List.mem_cons_self ..))
   obtain ⟨u,hu,e⟩:=List.mem_map.1 hmem
   simp only [Prod.mk.injEq] at e
   obtain ⟨rfl,rfl⟩:=e
   refine z11 todo'.length ?_ (by rw [<- hk,hp.length_eq,List.length_cons];omega)
   refine ⟨_,todo',some (u.pid,u),rfl,rfl,λy hy=>hsub y (hp.mem_iff.2 (List.mem_cons_of_mem _ hy)),by split <;> omega,λt ht=>?_,?_,hs.sub⟩
   ·rcases h2 t ht with h|h
    ·rcases List.mem_cons.1 (hp.mem_iff.1 h) with e|h
     ·simp only [Prod.mk.injEq] at e
      right
      rw [e.2];split <;> omega
     ·exact .inl h
    ·right;split <;> omega
   ·split
    ·exact .inr ⟨u,hu,rfl⟩
    ·exact h3
  ·refine zh (zj ?_)
   subst h0
   have e:=zwp hok h1 (λt ht=>(h2 t ht).resolve_left (by simp)) h3
   rw [e]
   exact ⟨rfl,z4o m1 m2 hok hs.itDone⟩
theorem z04c (t:TxnA) (hs:Sat w l):Ret P F.a80 #[.agg (z2r t).toArray] w λvs w'=>vs=[.agg (z2r t).toArray]/\Sat w' l :=
 zul t.pid t.epoch t.first t.last <| by
  delta z07w AP An Ao Ar Av B7 Bp
  refine zn hs λa0 w' hs=>?_
  refine zq hs λa1 w' hs=>?_
  refine za hs ?_
  refine za hs ?_
  refine za hs ?_
  refine za hs ?_
  refine zr hs λw' hs=>?_
  refine zk hs ?_
  exact ⟨rfl,rfl,hs.tail.tail⟩
instance {t:TxnA}:IsR (sG [.int .i64,.int .i64,.int .i64,.int .i64]) [.agg (z2r t).toArray] (t.pid,t.epoch,t.first,t.last,()):=⟨rfl⟩
theorem z038 [hf:Fo l vw v A r] (hs:Sat w l):Ret P F.a73 #[.pointer (some ⟨v,0,none⟩)] w λvs w'=>∃ z:Sl,vs=[z.v]/\Sat w' (slc T.a15 4 z (A.op.flatMap z2r)::vw v A::r) :=
 zug _ <| by
  delta zzh AA AE AU AZ Ai An Ao Ar Az B7 B8 Bp Bz
  obtain ⟨m1,m2,hok,hs⟩:=z93 (hs.perm hf.perm)
  have hmany:=hok.many
  refine zy ?_ (by simp)
  refine zg ?_
  refine za hs ?_
  refine zje hs λit w' hs=>?_
  refine zf (λx w'=>∃ (z:Sl) (ys:List TxnA),x=(z,())/\ys.Perm A.op/\Sat w' (slc T.a15 4 z (ys.flatMap z2r)::vw v A::r)) ?_ ?_
  ·refine z03 (λk x w=>∃ (z:Sl) (ys:List TxnA) (todo:List (Int × TxnA)) (last:Option (Int × TxnA)),x=(z,())/\todo.length=k/\(ys++todo.map Prod.snd).Perm A.op /\
    Sat w (slc T.a15 4 z (ys.flatMap z2r)::itP ekI evX it m1 (opK A) todo last::pt v (.cells #[.int .i64 A.next,.map (some m1),.map (some m2)] T.a16)::z1c ekK evX m2 (faK A)::r)) (opK A).length
    ⟨⟨none,0,0⟩,[],opK A,none,rfl,rfl,by rw [List.nil_append,opK,List.map_map];exact .of_eq (List.map_id _),hs.slc_nil⟩ ?_
   clear hs
   rintro k _ w ⟨z,ys,todo,last,rfl,hk,hperm,hs⟩
   have hlen:=hperm.length_eq
   rw [List.length_append,List.length_map] at hlen
   refine zm ?_
   refine zm7 hs (λk t=>(k,t.pid,t.epoch,t.first,t.last,())) (λkk t todo' w' hp hs=>?_) λh0=>?_
   ·refine z8w kk t.pid t.epoch t.first t.last ?_
    refine zrc hs (kk,t.pid,t.epoch,t.first,t.last,()) ?_
    refine z8w kk t.pid t.epoch t.first t.last ?_
    refine zq hs λc w' hs=>?_
    refine zr hs λw' hs=>?_
    refine zk hs ?_
    refine z8 (z04c t hs) λ_ _ hs=>?_
    obtain ⟨rfl,hs⟩:=hs
    refine zb ?_
    refine z6m hs (xs:=ys) (enc:=z2r) t (λz w' hs=>?_)
    refine z11 todo'.length ?_ (by rw [<- hk,hp.length_eq,List.length_cons];omega)
    refine ⟨z,ys++[t],todo',some (kk,t),rfl,rfl,?_,hs.sub⟩
    rw [List.append_assoc,List.singleton_append]
    exact ((List.Perm.append_left ys (hp.map Prod.snd)).symm).trans hperm
   ·refine zh (zj ⟨z,ys,rfl,?_,?_⟩)
    ·subst h0
     rw [List.map_nil,List.append_nil] at hperm
     exact hperm
    ·have hs:=(hs.pick [1]).itDone
     have hs:Sat w (vw v A::slc T.a15 4 z (ys.flatMap z2r)::r):=z4o m1 m2 hok hs
     exact hs.pick [1]
  clear hs
  rintro _ w ⟨z,ys,rfl,hperm,hs⟩
  refine zm ?_
  have hlen:=hperm.length_eq
  refine z8 (z047 byFirst z ys (by omega) hs) λ_ w' h=>?_
  obtain ⟨rfl,ys',hp',hsort,hs⟩:=h
  refine zb ?_
  rw [zge (f:=TxnA.first) (hp'.trans hperm) hsort hok.byFirst] at hs
  exact ⟨rfl,z,rfl,hs⟩
end
abbrev lkS:List Sh1:=[.agg [.int .i64,.int .i64,.int .i64,.int .i64],.one .bool]
def z6o (A:ViewA) (b:BatM):Int:=if z0i b then 3 else if b.base>=z6i A then 0 else if b.kind=1/\(faF A b.pid b.epoch).isSome=true/\b.base>=((faF A b.pid b.epoch).getD ⟨0,0,0,0⟩).first then 2 else 1
def zh8 (A:ViewA) (b:BatM):Int:=if (faF A b.pid b.epoch).isSome=true then 20 else if (opF A b.pid).isSome=true/\¬ (((opF A b.pid).getD ⟨0,0,0,0⟩).pid=b.pid/\((opF A b.pid).getD ⟨0,0,0,0⟩).epoch=b.epoch) then 22 else
 if b.kind=1/\(opF A b.pid).isSome=false/\A.op.length>=1024 then 5 else if b.kind=3/\(opF A b.pid).isSome=true/\A.fa.length>=4096 then 5 else 0
def z84 (A:ViewA) (b:BatM):Int:=if z05 b≠0 then z05 b else if b.base<A.next then 8 else if b.kind≠0 then zh8 A b else 0
section
variable {w:World} {l r r1 r2 r3 l':List HP} {v:Nat} {A:ViewA} {b:BatM}
theorem z037 (b:BatM) [hf:Fo l vw v A r] (hs:Sat w l):Ret P F.a69 #[.pointer (some ⟨v,0,none⟩),.agg (zv b).toArray] w λvs w'=>vs=[.int .i64 (z6o A b)]/\Sat w' (vw v A::r) :=
 zue _ b.base b.pid b.epoch b.seq b.kind b.time b.x <| by
  delta z07r AA AF AG AH AI AP AQ AS Ac Ad Ag Ai Aj Am An Ao Ar Av Az Ba Bk Bl Bn Bo Bp
  refine zn (hs.perm hf.perm) λa0 w' hs=>?_
  refine zy ?_ (by simp)
  have ho:=zkf A b.pid b.epoch
  refine zf (λx w'=>∃ c:Nat,x=(⟨c,0,none⟩,(faF A b.pid b.epoch).isSome,())/\Sat w' (pt c (.cells #[.int .i64 ((faF A b.pid b.epoch).getD ⟨0,0,0,0⟩).pid,.int .i64 ((faF A b.pid b.epoch).getD ⟨0,0,0,0⟩).epoch,.int .i64 ((faF A b.pid b.epoch).getD ⟨0,0,0,0⟩).first,.int .i64 ((faF A b.pid b.epoch).getD ⟨0,0,0,0⟩).last] T.a18) ::
   pt a0 (.cells #[.int .i64 b.base,.int .i64 b.pid,.int .i64 b.epoch,.int .i64 b.seq,.int .i64 b.kind,.int .i64 b.time,.slice b.x.a b.x.len b.x.cap] T.a0)::vw v A::r)) ?_ ?_
  ·obtain ⟨m1,m2,hok,hs⟩:=z93 (hs.pick [1])
   refine zx hs λw' hs=>?_
   refine zg ?_
   refine z18 hs ?_
   refine z18 hs ?_
   refine z18 hs ?_
   refine zbu hs (faF A b.pid b.epoch) ho z9x ?_
   refine z8w _ _ _ _ _ ?_
   refine zq hs (λc w' hs=>?_) (λc w' hs=>⟨⟨⟨⟨trivial,λ_=>z09 hs⟩,λ_=>z09 hs⟩,λ_=>z09 hs⟩,λ_=>z8b (ss:=lkS) hs ho z9x⟩)
   refine zd ?_
   refine zr hs λw' hs=>?_
   refine wp_lt ?_
   refine zd ?_
   refine zj ⟨c,rfl,?_⟩
   have hs:Sat w' (vw v A::pt c (.cells #[.int .i64 ((faF A b.pid b.epoch).getD ⟨0,0,0,0⟩).pid,.int .i64 ((faF A b.pid b.epoch).getD ⟨0,0,0,0⟩).epoch,.int .i64 ((faF A b.pid b.epoch).getD ⟨0,0,0,0⟩).first,.int .i64 ((faF A b.pid b.epoch).getD ⟨0,0,0,0⟩).last] T.a18) ::
    pt a0 (.cells #[.int .i64 b.base,.int .i64 b.pid,.int .i64 b.epoch,.int .i64 b.seq,.int .i64 b.kind,.int .i64 b.time,.slice b.x.a b.x.len b.x.cap] T.a0)::r):=z4o m1 m2 hok hs
   exact hs.pick [1,1]
  clear hs
  rintro _ w ⟨c,rfl,hs⟩
  refine zm ?_
  refine zk hs ?_
  refine z8 (zq3 b hs) λ_ _ hs=>?_
  obtain ⟨rfl,hs⟩:=hs
  refine zb ?_
  refine wp_lt ?_
  unfold z6o
  refine ze (λh=>?_) λh=>?_
  ·rw [if_pos h];exact ⟨rfl,rfl,hs.tail.tail⟩
  rw [if_neg h]
  refine zx hs λw' hs=>?_
  refine z18 hs ?_
  refine z8 (zij (v:=v) hs) λ_ w' hs=>?_
  obtain ⟨rfl,hs⟩:=hs
  refine zb ?_ ⟨trivial,λ_=>z09 hs⟩
  refine wp_lt ?_
  refine zd ?_
  refine ze (λh2=>?_) λh2=>?_
  ·rw [if_pos h2];exact ⟨rfl,rfl,hs.sub⟩
  rw [if_neg h2]
  refine za hs ?_
  refine za hs ?_
  refine za hs ?_
  refine wp_lt ?_
  refine ze (λh3=>?_) λh3=>?_
  ·rw [if_pos ⟨h3.1.1,h3.1.2,h3.2⟩];exact ⟨rfl,rfl,hs.sub⟩
  ·rw [if_neg (λh4=>h3 ⟨⟨h4.1,h4.2.1⟩,h4.2.2⟩)];exact ⟨rfl,rfl,hs.sub⟩
theorem z068 (b:BatM) [hf:Fo l vw v A r] (hs:Sat w l):Ret P F.a78 #[.pointer (some ⟨v,0,none⟩),.agg (zv b).toArray] w λvs w'=>vs=[.int .i64 (zh8 A b)]/\Sat w' (vw v A::r) :=
 zuk _ b.base b.pid b.epoch b.seq b.kind b.time b.x <| by
  delta z07v AA AF AG AI AP AS AX Ac Ag Ah An Ao Ar Av Az BB BC BF Ba Bk Bl Bn Bo Bp;unfold zh8
  have ho:=zkf A b.pid b.epoch
  have ho2:=zl7 A b.pid
  obtain ⟨m1,m2,hok,hs⟩:=z93 (hs.perm hf.perm)
  refine zn hs λa0 w' hs=>?_
  refine za hs ?_
  refine za hs ?_
  refine zq hs λa3 w' hs=>?_
  refine zr hs λw' hs=>?_
  refine zf (λx w'=>x=((faF A b.pid b.epoch).isSome,())/\Sat w' (pt a3 (.cells #[.int .i64 b.pid,.int .i64 b.epoch] T.a17)::pt a0 (.cells #[.int .i64 b.base,.int .i64 b.pid,.int .i64 b.epoch,.int .i64 b.seq,.int .i64 b.kind,.int .i64 b.time,.slice b.x.a b.x.len b.x.cap] T.a0) ::
   pt v (.cells #[.int .i64 A.next,.map (some m1),.map (some m2)] T.a16)::z1c ekI evX m1 (opK A)::z1c ekK evX m2 (faK A)::r)) ?_ ?_
  ·refine zx hs λw' hs=>?_
   refine zg ?_
   refine z18 hs ?_
   refine zgk hs ?_
   refine zbu hs (faF A b.pid b.epoch) ho z9x ?_
   refine z8w _ _ _ _ _ ?_
   refine zq hs (λc w' hs=>?_) (λc w' hs=>⟨⟨⟨trivial,λ_=>z09 hs⟩,λ_=>z0m hs⟩,λ_=>z8b (ss:=lkS) hs ho z9x⟩)
   refine zd ?_
   refine zr hs λw' hs=>?_
   refine wp_lt ?_
   refine zd ?_
   exact zj ⟨rfl,hs.sub⟩
  clear hs
  rintro _ w ⟨rfl,hs⟩
  refine zm ?_
  refine zf (λx w'=>∃ c:Nat,x=(⟨c,0,none⟩,(opF A b.pid).isSome,())/\Sat w' (pt c (.cells #[.int .i64 ((opF A b.pid).getD ⟨0,0,0,0⟩).pid,.int .i64 ((opF A b.pid).getD ⟨0,0,0,0⟩).epoch,.int .i64 ((opF A b.pid).getD ⟨0,0,0,0⟩).first,.int .i64 ((opF A b.pid).getD ⟨0,0,0,0⟩).last] T.a18) ::
   pt a3 (.cells #[.int .i64 b.pid,.int .i64 b.epoch] T.a17)::pt a0 (.cells #[.int .i64 b.base,.int .i64 b.pid,.int .i64 b.epoch,.int .i64 b.seq,.int .i64 b.kind,.int .i64 b.time,.slice b.x.a b.x.len b.x.cap] T.a0) ::
   pt v (.cells #[.int .i64 A.next,.map (some m1),.map (some m2)] T.a16)::z1c ekI evX m1 (opK A)::z1c ekK evX m2 (faK A)::r)) ?_ ?_
  ·refine zx hs λw' hs=>?_
   refine zg ?_
   refine z18 hs ?_
   refine z18 hs ?_
   refine zbu hs (opF A b.pid) ho2 z9x ?_
   refine z8w _ _ _ _ _ ?_
   refine zq hs (λc w' hs=>?_) (λc w' hs=>⟨⟨⟨trivial,λ_=>z09 hs⟩,λ_=>z09 hs⟩,λ_=>z8b (ss:=lkS) hs ho2 z9x⟩)
   refine zd ?_
   refine zr hs λw' hs=>?_
   refine wp_lt ?_
   refine zd ?_
   exact zj ⟨c,rfl,hs.sub⟩
  clear hs
  rintro _ w ⟨c,rfl,hs⟩
  refine zm ?_
  have hfin:∀ {w'},Sat w' (pt c (.cells #[.int .i64 ((opF A b.pid).getD ⟨0,0,0,0⟩).pid,.int .i64 ((opF A b.pid).getD ⟨0,0,0,0⟩).epoch,.int .i64 ((opF A b.pid).getD ⟨0,0,0,0⟩).first,.int .i64 ((opF A b.pid).getD ⟨0,0,0,0⟩).last] T.a18) ::
   pt a3 (.cells #[.int .i64 b.pid,.int .i64 b.epoch] T.a17)::pt a0 (.cells #[.int .i64 b.base,.int .i64 b.pid,.int .i64 b.epoch,.int .i64 b.seq,.int .i64 b.kind,.int .i64 b.time,.slice b.x.a b.x.len b.x.cap] T.a0) ::
   pt v (.cells #[.int .i64 A.next,.map (some m1),.map (some m2)] T.a16)::z1c ekI evX m1 (opK A)::z1c ekK evX m2 (faK A)::r)->Sat w' (vw v A::r):=λhs=>z4o m1 m2 hok hs
  refine wp_lt ?_
  refine ze (λh1=>?_) λh1=>?_
  ·rw [if_pos h1];exact ⟨rfl,rfl,hfin hs⟩
  rw [if_neg h1]
  refine zm6 hs (((opF A b.pid).getD ⟨0,0,0,0⟩).pid,((opF A b.pid).getD ⟨0,0,0,0⟩).epoch,()) ?_
  refine zk hs ?_
  refine wp_lt ?_
  refine ze (λh2=>?_) λh2=>?_
  ·rw [if_pos]
   ·exact ⟨rfl,rfl,hfin hs⟩
   ·exact ⟨h2.1,λh=>h2.2 h⟩
  rw [if_neg (λh=>h2 ⟨h.1,λh'=>h.2 h'⟩)]
  refine za hs ?_
  refine z0k ?_
  refine za hs ?_
  refine zdl hs ?_
  refine wp_lt ?_
  have e1:(opK A).length=A.op.length:=by simp [opK]
  have e2:(faK A).length=A.fa.length:=by simp [faK]
  rw [e1]
  refine ze (λh3=>?_) λh3=>?_
  ·rw [if_pos]
   ·exact ⟨rfl,rfl,hfin hs⟩
   ·exact ⟨h3.1.1,by simpa using h3.1.2,by omega⟩
  rw [if_neg (λh=>h3 ⟨⟨h.1,by simp [h.2.1]⟩,by omega⟩)]
  refine za hs ?_
  refine z0k ?_
  refine za hs ?_
  refine zdl hs ?_
  refine wp_lt ?_
  rw [e2]
  refine ze (λh4=>?_) λh4=>?_
  ·rw [if_pos]
   ·exact ⟨rfl,rfl,hfin hs⟩
   ·exact ⟨h4.1.1,h4.1.2,by omega⟩
  ·rw [if_neg (λh=>h4 ⟨⟨h.1,h.2.1⟩,by omega⟩)]
   exact ⟨rfl,rfl,hfin hs⟩
theorem zvm (b:BatM) [hf:Fo l vw v A r] [hb:FocR r b.x 4 (b.rs.flatMap z04)] (hs:Sat w l):Ret P F.a71 #[.pointer (some ⟨v,0,none⟩),.agg (zv b).toArray] w λvs w'=>vs=[.int .i64 (z84 A b)]/\Sat w' (vw v A::r) :=
 zuf _ b.base b.pid b.epoch b.seq b.kind b.time b.x <| by
  delta z07s AA AF AG AH AI AP Ac Ad Af Ag Ai Aj An Av Ba;unfold z84
  refine zn (hs.perm hf.perm) λa0 w' hs=>?_
  refine zy ?_ (by simp)
  refine zk hs ?_
  refine z8 (z92 b hs) λ_ _ hs=>?_
  obtain ⟨rfl,hs⟩:=hs
  refine zb ?_
  refine wp_lt ?_
  refine ze (λh=>?_) λh=>?_
  ·rw [if_pos h]
   refine wp_lt ?_
   exact ⟨rfl,rfl,hs.tail⟩
  rw [if_neg h]
  refine zx hs λw' hs=>?_
  refine za hs ?_
  obtain ⟨m1,m2,hok,hs⟩:=z93 (hs.pick [1])
  refine zg ?_
  refine za hs ?_
  refine wp_lt ?_
  refine zd ?_
  have hs:Sat w' (vw v A::pt a0 (.cells #[.int .i64 b.base,.int .i64 b.pid,.int .i64 b.epoch,.int .i64 b.seq,.int .i64 b.kind,.int .i64 b.time,.slice b.x.a b.x.len b.x.cap] T.a0)::r):=z4o m1 m2 hok hs
  refine ze (λh2=>?_) λh2=>?_
  ·rw [if_pos h2];exact ⟨rfl,rfl,hs.sub⟩
  rw [if_neg h2]
  refine za hs ?_
  refine wp_lt ?_
  refine ze (λh3=>?_) λh3=>?_
  ·rw [if_pos h3]
   refine zk hs ?_
   refine z8 (z068 (v:=v) b hs) λ_ _ hs=>?_
   obtain ⟨rfl,hs⟩:=hs
   refine zb ?_
   refine wp_lt ?_
   exact ⟨rfl,rfl,hs.sub⟩
  ·rw [if_neg h3];exact ⟨rfl,rfl,hs.sub⟩
end
def z3x (p:Int) (l:List TxnA):List TxnA:=l.filter λt=>!decide (t.pid=p)
def z5o (A:ViewA) (b:BatM):ViewA :=
 if b.kind=1/\(opF A b.pid).isSome=false then { A with next:=b.base+zo b,op:=A.op++[⟨b.pid,b.epoch,b.base,-1⟩] }
 else if z0i b=true/\(opF A b.pid).isSome=true then
  if b.kind=3 then ⟨b.base+zo b,z3x b.pid A.op,A.fa++[{ (opF A b.pid).getD ⟨0,0,0,0⟩ with last:=b.base }]⟩ else ⟨b.base+zo b,z3x b.pid A.op,A.fa⟩
 else { A with next:=b.base+zo b }
def zjr (A:ViewA) (b:BatM):Int × ViewA:=if z84 A b≠0 then (z84 A b,A) else (0,z5o A b)
theorem zi0 {A:ViewA} {b:BatM} (h:z84 A b=0):z05 b=0/\A.next<=b.base/\(b.kind≠0->zh8 A b=0):=by
 unfold z84 at h
 by_cases h1:z05 b≠0
 ·rw [if_pos h1] at h;exact absurd h h1
 rw [if_neg h1] at h
 by_cases h2:b.base<A.next
 ·rw [if_pos h2] at h;cases h
 rw [if_neg h2] at h
 refine ⟨Decidable.not_not.1 h1,by omega,λh3=>?_⟩
 rwa [if_pos h3] at h
theorem zeu {A:ViewA} {b:BatM} (h:zh8 A b=0):faF A b.pid b.epoch=none/\(∀ t,opF A b.pid=some t->t.epoch=b.epoch)/\(b.kind=1->opF A b.pid=none->A.op.length<1024)/\(b.kind=3->∀ t,opF A b.pid=some t->A.fa.length<4096):=by
 unfold zh8 at h
 by_cases h1:(faF A b.pid b.epoch).isSome=true
 ·rw [if_pos h1] at h;cases h
 rw [if_neg h1] at h
 have hn:faF A b.pid b.epoch=none:=by
  cases hc:faF A b.pid b.epoch with
  | none=>rfl
  | some t=>rw [hc] at h1;exact absurd rfl h1
 split at h
 ·cases h
 rename_i h2
 split at h
 ·cases h
 rename_i h3
 split at h
 ·cases h
 rename_i h4
 refine ⟨hn,λt ht=>?_,λhk ho=>?_,λhk t ht=>?_⟩
 ·have h5:((opF A b.pid).getD ⟨0,0,0,0⟩).pid=b.pid/\((opF A b.pid).getD ⟨0,0,0,0⟩).epoch=b.epoch:=Decidable.not_not.1 λh6=>h2 ⟨by rw [ht];rfl,h6⟩
  rw [ht] at h5
  exact h5.2
 ·apply Nat.lt_of_not_le
  intro h5
  exact h3 ⟨hk,by rw [ho];rfl,h5⟩
 ·apply Nat.lt_of_not_le
  intro h5
  exact h4 ⟨hk,by rw [ht];rfl,h5⟩
theorem z7u {t:TxnA} {n m:Int} (h:okT t n) (hnm:n<=m):okT t m:=⟨h.pid,h.epoch,h.first.1,Int.lt_of_lt_of_le h.first.2 hnm⟩
theorem zfo {t:TxnA}:∀ {l:List TxnA},(l.map (·.pid)).Nodup->t ∈ l->l.Perm (t::z3x t.pid l)
 | u::l,hnd,ht=>by
  rw [List.map_cons,List.nodup_cons] at hnd
  have hrest:∀ {p:Int},p ∉ l.map (·.pid)->z3x p l=l:=λ{p} hp=>List.filter_eq_self.2 λx hx=>by
   have:x.pid≠p:=λe=>hp (List.mem_map.2 ⟨x,hx,e⟩)
   simpa using this
  rcases List.mem_cons.1 ht with rfl|ht
  ·have:z3x t.pid (t::l)=l:=by
    show (t::l).filter _=l
    rw [List.filter_cons_of_neg (by simp)]
    exact hrest hnd.1
   rw [this]
  ·have hne:u.pid≠t.pid:=λe=>hnd.1 (List.mem_map.2 ⟨t,ht,e.symm⟩)
   have:z3x t.pid (u::l)=u::z3x t.pid l:=by
    show (u::l).filter _=_
    rw [List.filter_cons_of_pos (by simpa using hne)];rfl
   rw [this]
   exact ((zfo hnd.2 ht).cons u).trans (.swap _ _ _)
theorem zyb {A:ViewA} {b:BatM} (hok:okV A) (h:z84 A b=0):okV (z5o A b):=by
 obtain ⟨hv,hbase,hmay⟩:=zi0 h
 obtain ⟨s1,s2,hnum,hfit,s3⟩:=z16 b hv
 obtain ⟨hk,hb,hp,he,hse,ht⟩:=hnum
 have hnx:=hok.next
 unfold z5o
 split
 ·rename_i h1
  obtain ⟨hk1,ho⟩:=h1
  obtain ⟨m1,m2,m3,m4⟩:=zeu (hmay (by omega))
  have ho:opF A b.pid=none:=by
   cases hc:opF A b.pid with
   | none=>rfl
   | some t=>rw [hc] at ho;cases ho
  have hpid:1<=b.pid:=by
   have:=hfit.1
   apply Decidable.byContradiction
   intro h5
   exact this ⟨by omega,.inl (by omega)⟩
  have hlt:=m3 hk1 ho
  refine ⟨by show 0<=b.base+zo b/\b.base+zo b<=_;omega,by show (A.op++[_]).length<=1024/\_;rw [List.length_append];exact ⟨by simp;omega,hok.many.2⟩,λt ht=>?_,λt ht=>?_,?_,hok.byLast,?_,hok.keys,λt ht u hu=>?_⟩
  ·rcases List.mem_append.1 ht with ht|ht
   ·exact ⟨z7u (hok.op t ht).1 (by show A.next<=b.base+zo b;omega),(hok.op t ht).2⟩
   ·rw [List.mem_singleton.1 ht]
    exact ⟨⟨⟨hpid,hp.2⟩,he,hb.1,by show b.base<b.base+zo b;omega⟩,rfl⟩
  ·obtain ⟨h1,h2,h3⟩:=hok.fa t ht
   exact ⟨z7u h1 (by show A.next<=b.base+zo b;omega),h2,by show t.last<b.base+zo b;omega⟩
  ·show (A.op++[_]).Pairwise _
   rw [List.pairwise_append]
   refine ⟨hok.byFirst,by simp,λt ht u hu=>?_⟩
   rw [List.mem_singleton.1 hu]
   have:=(hok.op t ht).1.first
   show t.first<b.base
   omega
  ·show ((A.op++[_]).map _).Nodup
   rw [List.map_append,List.nodup_append]
   refine ⟨hok.pids,by simp,λp hp q hq=>?_⟩
   obtain ⟨t,ht,rfl⟩:=List.mem_map.1 hp
   rw [List.map_singleton,List.mem_singleton] at hq
   rw [hq]
   exact zl8 ho t ht
  ·rcases List.mem_append.1 ht with ht|ht
   ·exact hok.apart t ht u hu
   ·rw [List.mem_singleton.1 ht]
    intro h5
    exact zb5 m1 u hu ⟨h5.1.symm,h5.2.symm⟩
 ·split
  ·rename_i h1 h2
   obtain ⟨hm,ho⟩:=h2
   obtain ⟨t,ho⟩:∃ t,opF A b.pid=some t:=Option.isSome_iff_exists.1 ho
   have hk0:b.kind≠0:=by
    unfold z0i at hm
    simp only [Bool.or_eq_true,decide_eq_true_eq] at hm
    omega
   obtain ⟨m1,m2,m3,m4⟩:=zeu (hmay hk0)
   obtain ⟨htm,htp⟩:=zbj ho
   have hte:=m2 t ho
   have hdrop:∀ u ∈ z3x b.pid A.op,u ∈ A.op/\u.pid≠b.pid:=λu hu=>by
    obtain ⟨h5,h6⟩:=List.mem_filter.1 hu
    exact ⟨h5,by simpa using h6⟩
   have hsub:(z3x b.pid A.op).Sublist A.op:=List.filter_sublist
   have hop:∀ u ∈ z3x b.pid A.op,okT u (b.base+zo b)/\u.last = -1:=λu hu=>⟨z7u (hok.op u (hdrop u hu).1).1 (by omega),(hok.op u (hdrop u hu).1).2⟩
   have hfa:∀ u ∈ A.fa,okT u (b.base+zo b)/\u.first<u.last/\u.last<b.base+zo b:=λu hu=>by
    obtain ⟨h5,h6,h7⟩:=hok.fa u hu
    exact ⟨z7u h5 (by omega),h6,by omega⟩
   have hlen:(z3x b.pid A.op).length<=1024:=Nat.le_trans hsub.length_le hok.many.1
   split
   ·rename_i hk3
    rw [ho]
    have htf:=(hok.op t htm).1
    refine ⟨by show 0<=b.base+zo b/\b.base+zo b<=_;omega,⟨hlen,by show (A.fa++[_]).length<=_;rw [List.length_append];have:=m4 hk3 t ho;simp;omega⟩,hop,λu hu=>?_,hok.byFirst.sublist hsub,?_,hok.pids.sublist (hsub.map _),?_,λu hu x hx=>?_⟩
    ·rcases List.mem_append.1 hu with hu|hu
     ·exact hfa u hu
     ·rw [List.mem_singleton.1 hu]
      have:=htf.first
      exact ⟨⟨htf.pid,htf.epoch,this.1,by show t.first<b.base+zo b;omega⟩,by show t.first<b.base;omega,by show b.base<b.base+zo b;omega⟩
    ·show (A.fa++[_]).Pairwise _
     rw [List.pairwise_append]
     refine ⟨hok.byLast,by simp,λu hu x hx=>?_⟩
     rw [List.mem_singleton.1 hx]
     have:=(hok.fa u hu).2.2
     show u.last<b.base
     omega
    ·show ((A.fa++[_]).map _).Nodup
     rw [List.map_append,List.nodup_append]
     refine ⟨hok.keys,by simp,λp hp q hq=>?_⟩
     obtain ⟨u,hu,rfl⟩:=List.mem_map.1 hp
     rw [List.map_singleton,List.mem_singleton] at hq
     rw [hq]
     intro h5
     simp only [Prod.mk.injEq] at h5
     exact zb5 m1 u hu ⟨h5.1.trans htp,h5.2.trans hte⟩
    ·rcases List.mem_append.1 hx with hx|hx
     ·exact hok.apart u (hdrop u hu).1 x hx
     ·rw [List.mem_singleton.1 hx]
      intro h5
      exact (hdrop u hu).2 (h5.1.trans htp)
   ·exact ⟨by show 0<=b.base+zo b/\b.base+zo b<=_;omega,⟨hlen,hok.many.2⟩,hop,hfa,hok.byFirst.sublist hsub,hok.byLast,hok.pids.sublist (hsub.map _),hok.keys,λu hu x hx=>hok.apart u (hdrop u hu).1 x hx⟩
  ·refine ⟨by show 0<=b.base+zo b/\b.base+zo b<=_;omega,hok.many,λt ht=>⟨z7u (hok.op t ht).1 (by show A.next<=b.base+zo b;omega),(hok.op t ht).2⟩,λt ht=>?_,hok.byFirst,hok.byLast,hok.pids,hok.keys,hok.apart⟩
   obtain ⟨h1,h2,h3⟩:=hok.fa t ht
   exact ⟨z7u h1 (by show A.next<=b.base+zo b;omega),h2,by show t.last<b.base+zo b;omega⟩
section
variable {w:World} {l r r1 r2 r3 l':List HP} {v:Nat} {A:ViewA} {b:BatM}
theorem z039 (b:BatM) [hf:Fo l vw v A r] [hb:FocR r b.x 4 (b.rs.flatMap z04)] (hs:Sat w l):Ret P F.a76 #[.pointer (some ⟨v,0,none⟩),.agg (zv b).toArray] w λvs w'=>vs=[.int .i64 (zjr A b).1]/\Sat w' (vw v (zjr A b).2::r) :=
 zuj _ b.base b.pid b.epoch b.seq b.kind b.time b.x <| by
  delta z07u AA AF AG AH AI AJ AK AP AR AS Ac Ad Af Ag Ai Aj Am An Ao Ar Av Az B5 B6 B7 Bk Bl Bn Bo Bp Bz;unfold zjr
  refine zn (hs.perm hf.perm) λa0 w' hs=>?_
  refine zk hs ?_
  refine z8 (zvm (v:=v) b hs) λ_ _ hs=>?_
  obtain ⟨rfl,hs⟩:=hs
  refine zb ?_
  refine wp_lt ?_
  refine ze (λh=>?_) λh=>?_
  ·rw [if_pos h]
   refine wp_lt ?_
   exact ⟨rfl,rfl,hs.sub⟩
  rw [if_neg h]
  have hc:z84 A b=0:=Decidable.not_not.1 h
  obtain ⟨hv,hbase,hmay⟩:=zi0 hc
  refine zk hs ?_
  refine z8 (z90 b hs) λ_ _ hs=>?_
  obtain ⟨rfl,hs⟩:=hs
  refine zb ?_
  have hnx:z1r b=b.base+zo b:=by unfold z1r;rw [if_neg (by rw [hv];simp)]
  rw [hnx]
  obtain ⟨m1,m2,hok,hs⟩:=z93 hs
  have hok':=zyb hok hc
  have ho:=zl7 A b.pid
  refine zg ?_
  refine z07 hs λw' hs=>?_
  refine zf (λx w'=>∃ c:Nat,x=(⟨c,0,none⟩,(opF A b.pid).isSome,())/\Sat w' (pt c (.cells #[.int .i64 ((opF A b.pid).getD ⟨0,0,0,0⟩).pid,.int .i64 ((opF A b.pid).getD ⟨0,0,0,0⟩).epoch,.int .i64 ((opF A b.pid).getD ⟨0,0,0,0⟩).first,.int .i64 ((opF A b.pid).getD ⟨0,0,0,0⟩).last] T.a18) ::
   pt a0 (.cells #[.int .i64 b.base,.int .i64 b.pid,.int .i64 b.epoch,.int .i64 b.seq,.int .i64 b.kind,.int .i64 b.time,.slice b.x.a b.x.len b.x.cap] T.a0) ::
   pt v (.cells #[.int .i64 (b.base+zo b),.map (some m1),.map (some m2)] T.a16)::z1c ekI evX m1 (opK A)::z1c ekK evX m2 (faK A)::r)) ?_ ?_
  ·refine zx hs λw' hs=>?_
   refine zg ?_
   refine z18 hs ?_
   refine z18 hs ?_
   refine zbu hs (opF A b.pid) ho z9x ?_
   refine z8w _ _ _ _ _ ?_
   refine zq hs (λc w' hs=>?_) (λc w' hs=>⟨⟨⟨trivial,λ_=>z09 hs⟩,λ_=>z09 hs⟩,λ_=>z8b (ss:=lkS) hs ho z9x⟩)
   refine zd ?_
   refine zr hs λw' hs=>?_
   refine wp_lt ?_
   refine zd ?_
   exact zj ⟨c,rfl,hs.sub⟩
  clear hs
  rintro _ w ⟨c,rfl,hs⟩
  refine zm ?_
  refine za hs ?_
  refine wp_lt ?_
  refine zf (λ_ w'=>Sat w' (vw v (z5o A b)::r)) ?_ (by rintro _ w' hs;refine zm ?_;exact ⟨rfl,rfl,hs⟩)
  refine ze (λh1=>?_) λh1=>?_
  ·have h1:b.kind=1/\(opF A b.pid).isSome=false:=⟨h1.1,by simpa using h1.2⟩
   have htk:z5o A b={ A with next:=b.base+zo b,op:=A.op++[⟨b.pid,b.epoch,b.base,-1⟩] }:=by unfold z5o;rw [if_pos h1]
   rw [htk] at hok' ⊢
   refine zx hs λw' hs=>?_
   refine zg ?_
   refine za hs ?_
   refine za hs ?_
   refine za hs ?_
   refine za hs ?_
   refine za hs ?_
   have hno:∀ u,(b.pid,u) ∉ opK A:=by
    rcases ho with ⟨t,ht,-⟩|⟨-,hno⟩
    ·rw [ht] at h1;cases h1.2
    ·exact hno
   refine zaz hs (opK A) (.inr ⟨hno,rfl⟩) (⟨b.pid,b.epoch,b.base,-1⟩:TxnA) λw' hs=>?_
   refine zd ?_
   refine zj ?_
   exact z4o m1 m2 (A:={ A with next:=b.base+zo b,op:=A.op++[⟨b.pid,b.epoch,b.base,-1⟩] }) hok' hs (by
    show List.Perm _ ((A.op++[_]).map _)
    rw [List.map_append]
    exact List.perm_append_comm (l₁:=[(b.pid,(⟨b.pid,b.epoch,b.base,-1⟩:TxnA))]))
  have h1:¬ (b.kind=1/\(opF A b.pid).isSome=false):=λh=>h1 ⟨h.1,by simpa using h.2⟩
  refine zk hs ?_
  refine z8 (zq3 b hs) λ_ _ hs=>?_
  obtain ⟨rfl,hs⟩:=hs
  refine zb ?_
  refine wp_lt ?_
  refine zf (λ_ w'=>Sat w' (vw v (z5o A b)::r)) ?_ (by rintro _ w' hs;refine zm ?_;exact zj hs)
  refine ze (λh2=>?_) λh2=>?_
  rotate_left
  ·have htk:z5o A b={ A with next:=b.base+zo b }:=by unfold z5o;rw [if_neg h1,if_neg (λh=>h2 h)]
   rw [htk] at hok' ⊢
   refine zj ?_
   exact z4o m1 m2 (A:={ A with next:=b.base+zo b }) hok' hs
  have h2:z0i b=true/\(opF A b.pid).isSome=true:=h2
  obtain ⟨t,hot⟩:∃ t,opF A b.pid=some t:=Option.isSome_iff_exists.1 h2.2
  obtain ⟨htm,htp⟩:=zbj hot
  have hdel:(opK A).Perm ((b.pid,t)::(z3x b.pid A.op).map λt=>(t.pid,t)):=by
   have:=(zfo hok.pids htm).map λt:TxnA=>(t.pid,t)
   rw [List.map_cons,htp] at this
   exact this
  rw [hot] at hs
  have hs:Sat _ (pt c (.cells #[.int .i64 t.pid,.int .i64 t.epoch,.int .i64 t.first,.int .i64 t.last] T.a18)::_):=hs
  refine zx hs λw' hs=>?_
  refine zg ?_
  refine za hs ?_
  refine za hs ?_
  refine zrb hs ((z3x b.pid A.op).map λt=>(t.pid,t)) (.inl ⟨t,hdel⟩) λw' hs=>?_
  refine zd ?_
  refine za hs ?_
  refine zf (λ_ w'=>Sat w' (vw v (z5o A b)::r)) ?_ (by rintro _ w' hs;refine zm ?_;exact zj hs)
  refine ze (λh3=>?_) λh3=>?_
  ·have htk:z5o A b=⟨b.base+zo b,z3x b.pid A.op,A.fa++[(⟨t.pid,t.epoch,t.first,b.base⟩:TxnA)]⟩:=by unfold z5o;rw [if_neg h1,if_pos h2,if_pos h3,hot];rfl
   rw [htk] at hok' ⊢
   obtain ⟨n1,n2,-,-⟩:=zeu (hmay (by omega))
   have hte:=n2 t hot
   refine za hs ?_
   refine z07 hs λw' hs=>?_
   refine zx hs λw' hs=>?_
   refine zg ?_
   refine za hs ?_
   refine zm6 hs (t.pid,t.epoch,()) ?_
   refine zk hs ?_
   have hno:∀ u,((t.pid,t.epoch),u) ∉ faK A:=λu hu=>by
    obtain ⟨y,hy,e⟩:=List.mem_map.1 hu
    simp only [Prod.mk.injEq] at e
    exact zb5 n1 y hy ⟨e.1.1.trans htp,e.1.2.trans hte⟩
   refine zaz hs (faK A) (.inr ⟨hno,rfl⟩) (⟨t.pid,t.epoch,t.first,b.base⟩:TxnA) λw' hs=>?_
   refine zd ?_
   refine zj ?_
   have hp2:(((t.pid,t.epoch),(⟨t.pid,t.epoch,t.first,b.base⟩:TxnA))::faK A).Perm (faK ⟨b.base+zo b,z3x b.pid A.op,A.fa++[(⟨t.pid,t.epoch,t.first,b.base⟩:TxnA)]⟩):=by
    show List.Perm _ ((A.fa++[_]).map _)
    rw [List.map_append]
    exact List.perm_append_comm (l₁:=[((t.pid,t.epoch),(⟨t.pid,t.epoch,t.first,b.base⟩:TxnA))])
   have hs:=hs.mapPerm hp2
   exact z4o m1 m2 (A:=⟨b.base+zo b,z3x b.pid A.op,A.fa++[(⟨t.pid,t.epoch,t.first,b.base⟩:TxnA)]⟩) hok' hs
  ·have htk:z5o A b=⟨b.base+zo b,z3x b.pid A.op,A.fa⟩:=by unfold z5o;rw [if_neg h1,if_pos h2,if_neg h3]
   rw [htk] at hok' ⊢
   refine zj ?_
   exact z4o m1 m2 (A:=⟨b.base+zo b,z3x b.pid A.op,A.fa⟩) hok' hs
end
def z4q:Nat->Nat->List UInt8
 | 0,_=>[]
 | k+1,n=>if n<128 then [UInt8.ofNat n] else UInt8.ofNat (n % 128+128)::z4q k (n / 128)
def z3p (n:Nat):List UInt8:=z4q 10 n
def z3n (i:Nat):List UInt8->Option (Nat × Nat)
 | []=>none
 | c::r=>if i>=10\/(i=9/\1<c.toNat) then none else if 128<=c.toNat then (z3n (i+1) r).map λp=>(c.toNat % 128+128*p.1,p.2+1) else if c.toNat=0/\0<i then none else some (c.toNat,1)
theorem z8d (i:Nat) (c:UInt8) (r:List UInt8):z3n i (c::r)=if i>=10\/(i=9/\1<c.toNat) then none else if 128<=c.toNat then (z3n (i+1) r).map λp=>(c.toNat % 128+128*p.1,p.2+1) else if c.toNat=0/\0<i then none else some (c.toNat,1):=rfl
theorem zgi:∀ (k n:Nat),0<k->n<128 ^ k->z4q (k+1) n=z4q k n
 | k+1,n,_,h=>by
  show (if n<128 then _ else _::z4q (k+1) (n / 128))=if n<128 then _ else _::z4q k (n / 128)
  by_cases h1:n<128
  ·rw [if_pos h1,if_pos h1]
  ·rw [if_neg h1,if_neg h1]
   have hk:0<k:=by
    apply Nat.pos_of_ne_zero
    rintro rfl
    simp at h;omega
   rw [zgi k (n / 128) hk]
   rw [Nat.pow_succ] at h
   omega
theorem zm3 {n:Nat} (h:n<18446744073709551616):z3p n=if n<128 then [UInt8.ofNat n] else UInt8.ofNat (n % 128+128)::z3p (n / 128):=by
 unfold z3p
 rw [zgi 9 (n / 128) (by decide) (by omega)]
 rfl
theorem zjc:∀ (k n:Nat),(z4q k n).length<=k
 | 0,_=>Nat.le_refl _
 | k+1,n=>by
  have:=zjc k (n / 128)
  unfold z4q
  split <;> simp <;> omega
theorem zwu (k n:Nat):0<(z4q (k+1) n).length:=by
 unfold z4q
 split <;> simp
theorem za5 (n:Nat):0<(z3p n).length/\(z3p n).length<=10:=⟨zwu 9 n,zjc 10 n⟩
theorem zl2:∀ (bs:List UInt8) (i v k:Nat),z3n i bs=some (v,k)->0<k/\k<=bs.length/\i+k<=10
 | [],i,v,k,h=>by cases h
 | c::r,i,v,k,h=>by
  unfold z3n at h
  split at h
  ·cases h
  rename_i h1
  split at h
  ·rename_i h2
   cases hr:z3n (i+1) r with
   | none=>rw [hr] at h;cases h
   | some p =>
    rw [hr] at h
    simp only [Option.map_some,Option.some.injEq,Prod.mk.injEq] at h
    have:=zl2 r (i+1) p.1 p.2 hr
    simp;omega
  ·split at h
   ·cases h
   ·simp only [Option.some.injEq,Prod.mk.injEq] at h
    simp;omega
theorem zl5:∀ (k i n:Nat) (rest:List UInt8),n<128 ^ k->0<k->n*128 ^ i<18446744073709551616->(0<i->0<n)->i<10->z3n i (z4q k n++rest)=some (n,(z4q k n).length)
 | k+1,i,n,rest,hn,_,h64,hi,hi10=>by
  have hcase:i=0\/i=1\/i=2\/i=3\/i=4\/i=5\/i=6\/i=7\/i=8\/i=9:=by omega
  have h9:i=9->n<2:=λe=>by subst e;simp at h64;omega
  unfold z4q
  by_cases h:n<128
  ·rw [if_pos h]
   show (if _ then _ else if _ then _ else if _ then _ else _)=_
   have e:(UInt8.ofNat n).toNat=n:=by simp;omega
   rw [e,if_neg (by omega),if_neg (by omega),if_neg (by omega)]
   rfl
  ·rw [if_neg h]
   have e:(UInt8.ofNat (n % 128+128)).toNat=n % 128+128:=by simp;omega
   have h64':n / 128*128 ^ (i+1)<18446744073709551616:=by
    rw [Nat.pow_succ,Nat.mul_comm (128 ^ i),<- Nat.mul_assoc]
    exact Nat.lt_of_le_of_lt (Nat.mul_le_mul_right _ (Nat.div_mul_le_self n 128)) h64
   have hk:0<k:=by
    apply Nat.pos_of_ne_zero
    rintro rfl
    simp at hn;omega
   have ih:=zl5 k (i+1) (n / 128) rest (by rw [Nat.pow_succ] at hn;omega) hk h64' (λ_=>by omega) (by omega)
   rw [List.cons_append]
   show (if _ then _ else if _ then _ else _)=_
   have e3:(n % 128+128) % 128+128*(n / 128)=n:=by omega
   rw [e,if_neg (by omega),if_pos (by omega),ih,Option.map_some,e3,List.length_cons]
theorem zir {n:Nat} (h:n<18446744073709551616) (rest:List UInt8):z3n 0 (z3p n++rest)=some (n,(z3p n).length) :=
 zl5 10 0 n rest (by omega) (by decide) (by omega) (λh=>absurd h (by decide)) (by decide)
theorem zqj:∀ (bs:List UInt8) (i v k:Nat),i<10->z3n i bs=some (v,k)->bs.take k=z4q (10-i) v/\v*128 ^ i<18446744073709551616/\(0<i->0<v)
 | [],i,v,k,_,h=>by cases h
 | c::r,i,v,k,hi10,h=>by
  have hcase:i=0\/i=1\/i=2\/i=3\/i=4\/i=5\/i=6\/i=7\/i=8\/i=9:=by omega
  have hc:=c.toNat_lt
  unfold z3n at h
  split at h
  ·cases h
  rename_i h1
  split at h
  ·rename_i h2
   cases hr:z3n (i+1) r with
   | none=>rw [hr] at h;cases h
   | some p =>
    rw [hr] at h
    simp only [Option.map_some,Option.some.injEq,Prod.mk.injEq] at h
    obtain ⟨rfl,rfl⟩:=h
    obtain ⟨g1,g2,g3⟩:=zqj r (i+1) p.1 p.2 (by omega) hr
    have hp:=g3 (by omega)
    obtain ⟨m,hm⟩:∃ m,10-i=m+1:=⟨9-i,by omega⟩
    have hm':10-(i+1)=m:=by omega
    rw [hm'] at g1
    refine ⟨?_,?_,λ_=>by omega⟩
    ·rw [hm]
     unfold z4q
     rw [if_neg (by omega),List.take_succ_cons,g1]
     have e1:(c.toNat % 128+128*p.1) % 128+128=c.toNat:=by omega
     have e2:(c.toNat % 128+128*p.1) / 128=p.1:=by omega
     rw [e1,e2]
     simp
    ·obtain ⟨m,hm⟩:∃ m,18446744073709551616=m*128 ^ (i+1):=by
      rcases hcase with rfl|rfl|rfl|rfl|rfl|rfl|rfl|rfl|rfl|rfl
      ·exact ⟨2 ^ 57,rfl⟩
      ·exact ⟨2 ^ 50,rfl⟩
      ·exact ⟨2 ^ 43,rfl⟩
      ·exact ⟨2 ^ 36,rfl⟩
      ·exact ⟨2 ^ 29,rfl⟩
      ·exact ⟨2 ^ 22,rfl⟩
      ·exact ⟨2 ^ 15,rfl⟩
      ·exact ⟨2 ^ 8,rfl⟩
      ·exact ⟨2 ^ 1,rfl⟩
      ·omega
     rw [hm] at g2 ⊢
     have hlt:=Nat.lt_of_mul_lt_mul_right g2
     have h5:(p.1+1)*128 ^ (i+1)<=m*128 ^ (i+1):=Nat.mul_le_mul_right _ hlt
     refine Nat.lt_of_lt_of_le ?_ h5
     rw [Nat.pow_succ,Nat.mul_comm (128 ^ i),<- Nat.mul_assoc]
     exact Nat.mul_lt_mul_of_pos_right (by omega) (Nat.pow_pos (by decide))
  ·split at h
   ·cases h
   ·simp only [Option.some.injEq,Prod.mk.injEq] at h
    obtain ⟨rfl,rfl⟩:=h
    obtain ⟨m,hm⟩:∃ m,10-i=m+1:=⟨9-i,by omega⟩
    refine ⟨?_,?_,λ_=>by omega⟩
    ·rw [hm]
     unfold z4q
     rw [if_pos (by omega)]
     simp
    ·rcases hcase with rfl|rfl|rfl|rfl|rfl|rfl|rfl|rfl|rfl|rfl <;> simp <;> omega
theorem zl4 {bs:List UInt8} {v k:Nat} (h:z3n 0 bs=some (v,k)):bs.take k=z3p v/\v<18446744073709551616:=by
 obtain ⟨h1,h2,-⟩:=zqj bs 0 v k (by decide) h
 exact ⟨h1,by simpa using h2⟩
def z0e (x:Sl):List Value:=[.slice x.a x.len x.cap]
instance:Enc1 z0e .slc (λx=>x):=⟨λ_=>rfl⟩
instance:EncN z0e 1:=⟨λ_=>rfl,by decide,by simp [z0e,Value.oneCell']⟩
section
variable {w:World} {l r:List HP} {sz:Nat} {x:Sl}
theorem zcb {α:Type} {enc:α->List Value} [hE:EncN enc sz]:∀ (xs:List α) (n:Nat),(xs.flatMap enc).drop (n*sz)=(xs.drop n).flatMap enc
 | [],n=>by simp
 | x::xs,0=>by simp
 | x::xs,n+1=>by
  rw [List.flatMap_cons,Nat.succ_mul,Nat.add_comm,<- List.drop_drop,List.drop_left' (hE.len x),zcb xs n,List.drop_succ_cons]
theorem FocR.post {α:Type} {enc:α->List Value} [hE:EncN enc sz] {xs:List α} [hf:FocR l x sz (xs.flatMap enc)] {n m c:Nat} (hm:x.len<=m):FocR l ⟨z14 x.a sz n m,x.len-n,c⟩ sz ((xs.drop n).flatMap enc):=⟨λw hs=>by
 obtain ⟨hlen,h0⟩:=hf.rd w hs
 have hl:x.len=xs.length:=(hf.rd w hs).len hE.len hE.pos
 refine ⟨by rw [z3t,List.length_drop,hl],?_⟩
 by_cases hn:x.len-n=0
 ·exact .inl hn
 ·right
  rcases h0 with h0|⟨b,off,arr,T,fr,ha,hb,hc⟩
  ·omega
  ·refine ⟨b,off+n*sz,arr,T,fr,?_,hb,λi hi=>?_⟩
   ·show z14 x.a sz n m=_
    unfold z14
    rw [if_neg (by omega),ha,Option.map_some,z3g]
   ·rw [<- zcb,List.length_drop] at hi
    rw [Nat.add_assoc,hc (n*sz+i) (by omega),<- zcb,List.getElem?_drop]⟩
end
section
variable {w:World} {l r:List HP} {Q:Post} {S:World->Prop}
theorem zra {P:Program} {t el:TypeId} {sz bytes:Nat} {c:Int} {k:Sl->Prog} [ht:SlT P t el sz bytes] (n:Nat) (hs:Sat w l) (h:∀ x w',Sat w' (slc el sz x []::l)->(k x).wp P S w' Q) (hc:c=n:=by first|rfl|omega) (hb:n*bytes<=281474976710656/\n<=9223372036854775807:=by omega) (hS:∀ w',S w':=by exact λ_=>trivial) :
  (Prog.act (Instr.makeSlice t (.int .i64 0) (.int .i64 c)) sL (u1 k)).wp P S w Q:=by
 subst hc
 obtain ⟨i,z,hi,h2,h3,h4,h5⟩:=ht.parts
 have hrun:=run_make (P:=P) w t el i z ht.ok.1 hi h4 .i64 .i64 0 n (Int.le_refl _) (by omega) (by rw [h3,<- Int.natCast_mul,Nat.mul_comm];omega) (by omega)
 simp only [Int.toNat_zero,Int.toNat_natCast] at hrun
 have hp:=hs.push (o:=.cells (madeCells z.cells (n*i.size)) el) (w':=w.alloc (.cells (madeCells z.cells (n*i.size)) el)) rfl
 refine ⟨(⟨some ⟨w.heap.size,0,none⟩,0,n⟩,()),_,hrun,hS _,h ⟨some ⟨w.heap.size,0,none⟩,0,n⟩ _ ?_⟩
 refine hp.imp λp hp=>.inr ⟨w.heap.size,0,_,_,rfl,hp,by simp,Nat.zero_le _,?_,λi hi=>by simp at hi,z2i _ _⟩
 rw [size_madeCells,h2];simp
theorem zr9 {P:Program} {T:TypeId} {sz:Nat} {α:Type} {enc:α->List Value} {xs:List α} {i i':Int} {x:Sl} {g g':Prop} {p:Pr} {f:p.D->Prog} (hs:Sat w l) [hf:FocR l x sz (xs.flatMap enc)] [hE:EncN enc sz] [hT:One P T]
  (y:p.D) (hg:g->∃ n,∃ hn:n<xs.length,i=(n:Int)/\enc xs[n]=[p.mk y]) (h:(f y).wp P S w Q) (hgg:g'->g:=by exact id) (hi':i'=i:=by rfl) :
  (Prog.ex [.adr] (c1 λa=>g->0<=i/\i<((x.len:Nat):Int)/\x.a=some a) (u1 λa=>.read g' (ld T (Addr.add a (Int.toNat i'*sz))) (.one (.one p)) (u1 f))).wp P S w Q:=by
 subst hi'
 have hr:=hf.rd w hs
 have hl:x.len=xs.length:=hr.len hE.len hE.pos
 by_cases hgc:g
 ·obtain ⟨n,hn,hin,hen⟩:=hg hgc
  subst hin
  obtain ⟨a,ha,he⟩:=hr.el hE.len (by omega)
  refine ⟨(a,()),λ_=>⟨by omega,by omega,ha⟩,(y,()),λ_=>?_,h⟩
  have:=he n hn
  rw [hen] at this
  have h2:=At.ld1 (P:=P) (T:=T) this rfl
  cases p <;> exact h2
 ·exact ⟨(⟨0,0,none⟩,()),λh=>absurd h hgc,(y,()),λh=>absurd (hgg h) hgc,h⟩
theorem zbt {P:Program} {T:TypeId} {sz:Nat} {α:Type} {enc:α->List Value} {xs:List α} {i i':Int} {j:Nat} {x:Sl} {g g':Prop} {p:Pr} {dec:α->p.D} {f:p.D->Prog} (hs:Sat w l) [hf:FocR l x sz (xs.flatMap enc)] [hE:EncN enc sz] [hD:EncF enc j p dec] [hT:One P T]
  (y:p.D) (hg:g->∃ n,∃ hn:n<xs.length,i=(n:Int)/\dec xs[n]=y) (h:(f y).wp P S w Q) (hgg:g'->g:=by exact id) (hi':i'=i:=by rfl) :
  (Prog.ex [.adr] (c1 λa=>g->0<=i/\i<((x.len:Nat):Int)/\x.a=some a) (u1 λa=>.read g' (ld T (Addr.add (Addr.add a (Int.toNat i'*sz)) j)) (.one (.one p)) (u1 f))).wp P S w Q:=by
 subst hi'
 by_cases hgc:g
 ·obtain ⟨n,hn,hin,hen⟩:=hg hgc
  subst hin hen
  obtain ⟨a,ha,hl,hr⟩:=zhh (P:=P) (T:=T) (j:=j) (enc:=enc) (p:=p) (dec:=dec) (x:=x) hs hn
  exact ⟨(a,()),λ_=>⟨by omega,by omega,ha⟩,(dec xs[n],()),λ_=>by rw [Int.toNat_natCast];exact hr,h⟩
 ·exact ⟨(⟨0,0,none⟩,()),λh=>absurd h hgc,(y,()),λh=>absurd (hgg h) hgc,h⟩
theorem z04g {P:Program} {T:TypeId} {sz:Nat} {α:Type} {enc:α->List Value} {xs:List α} {ii:Int} {m j:Nat} {x:Sl} {g':Prop} {p:Pr} {dec:α->p.D} {f:p.D->Prog} (hs:Sat w l) [hf:FocR l x sz (xs.flatMap enc)] [hE:EncN enc sz] [hD:EncF enc j p dec] [hT:One P T]
  (n:Nat) (hn:n<xs.length) (h:(f (dec xs[n])).wp P S w Q) (hm:m=n*sz:=by rfl) (hi:ii=n:=by rfl) :
  (Prog.ex [.adr] (c1 λa=>(0:Int)<=ii/\ii<((x.len:Nat):Int)/\x.a=some a) (u1 λa=>.read g' (ld T (Addr.add (Addr.add a m) j)) (.one (.one p)) (u1 f))).wp P S w Q:=by
 subst hm hi
 obtain ⟨a,ha,hl,hr⟩:=zhh (P:=P) (T:=T) (j:=j) (enc:=enc) (p:=p) (dec:=dec) (x:=x) hs hn
 exact ⟨(a,()),⟨by omega,by omega,ha⟩,(dec xs[n],()),λ_=>hr,h⟩
end
instance:ByE P T.a46 T.a52:=⟨by kernel_rfl,by kernel_rfl,by kernel_rfl⟩
instance:StT P T.a51:=⟨by kernel_rfl⟩
theorem z7n (m:Nat) {k:Int} (hk:0<=k):Int.fdiv (m:Int) k=((m / k.toNat:Nat):Int):=by
 obtain ⟨k,rfl⟩:=Int.eq_ofNat_of_zero_le hk
 rw [Int.fdiv_eq_ediv_of_nonneg _ hk];rfl
theorem zd6 (m:Nat):IntKind.wrap .u8 (m:Int)=((m % 256:Nat):Int):=by simp [IntKind.wrap,IntKind.bits,IntKind.signed]
theorem zju (m:Nat):IntKind.wrap .u32 (m:Int)=((m % 4294967296:Nat):Int):=by simp [IntKind.wrap,IntKind.bits,IntKind.signed]
theorem zgn (m:Nat):IntKind.wrap .u64 (m:Int)=((m % 18446744073709551616:Nat):Int):=by simp [IntKind.wrap,IntKind.bits,IntKind.signed]
theorem z08c (m:Nat):(BitVec.toNat (BitVec.ofInt 8 (IntKind.wrap .u8 (m:Int)) ||| BitVec.ofInt 8 128))=m % 128+128:=by
 rw [zd6,BitVec.ofInt_natCast]
 have h:∀ k:Fin 256,(BitVec.ofNat 8 k.val ||| BitVec.ofInt 8 128).toNat=k.val % 128+128:=by decide +kernel
 have:=h ⟨m % 256,by omega⟩
 rw [this]
 show m % 256 % 128+128=_
 omega
theorem z04l (m:Nat) (hm:m<256):(BitVec.toNat (BitVec.ofInt 8 (m:Int) &&& BitVec.ofInt 8 127))=m % 128:=by
 rw [BitVec.ofInt_natCast]
 have h:∀ k:Fin 256,(BitVec.ofNat 8 k.val &&& BitVec.ofInt 8 127).toNat=k.val % 128:=by decide +kernel
 exact h ⟨m,hm⟩
theorem z094 {n c i:Nat} (hn:n<128 ^ i) (hi:i<=9) (hc:c<256) (h9:i=9->c<=1) :
  IntKind.wrap .u64 (((BitVec.toNat (BitVec.ofInt 64 (n:Int) ||| BitVec.ofInt 64 (IntKind.wrap .u64 (IntKind.wrap .u64 (IntKind.wrap .u8 (((BitVec.toNat (BitVec.ofInt 8 (c:Int) &&& BitVec.ofInt 8 127):Nat):Int)))*2 ^ min (Int.toNat (IntKind.wrap .i64 (7*(i:Int)))) 64))):Nat):Int))=((n+128 ^ i*(c % 128):Nat):Int):=by
 have e1:min (Int.toNat (IntKind.wrap .i64 (7*(i:Int)))) 64=7*i:=by rw [w64 (by omega) (by omega)];omega
 have e2:(2:Nat) ^ (7*i)=128 ^ i:=by rw [Nat.pow_mul]
 have hle:128 ^ i*(c % 128)+128 ^ i<=18446744073709551616:=by
  have hcase:i=0\/i=1\/i=2\/i=3\/i=4\/i=5\/i=6\/i=7\/i=8\/i=9:=by omega
  rcases hcase with rfl|rfl|rfl|rfl|rfl|rfl|rfl|rfl|rfl|rfl <;> simp <;> omega
 rw [z04l c hc,e1,zd6,zgn (c % 128 % 256),show c % 128 % 256 % 18446744073709551616=c % 128 by omega]
 have e3:((c % 128:Nat):Int)*2 ^ (7*i)=((128 ^ i*(c % 128):Nat):Int):=by
  rw [<- e2,Nat.mul_comm (2 ^ (7*i)),Int.natCast_mul];simp
 rw [e3,zgn (128 ^ i*(c % 128)),BitVec.ofInt_natCast,BitVec.ofInt_natCast,BitVec.toNat_or,BitVec.toNat_ofNat,BitVec.toNat_ofNat,Nat.mod_eq_of_lt (show n<2 ^ 64 by omega),Nat.mod_mod,Nat.mod_eq_of_lt (show 128 ^ i*(c % 128)<2 ^ 64 by omega)]
 have h5:=Nat.two_pow_add_eq_or_of_lt (i:=7*i) (b:=n) (by rw [e2];exact hn) (c % 128)
 rw [e2] at h5
 rw [Nat.or_comm,<- h5,zgn,Nat.mod_eq_of_lt (by omega),Nat.add_comm]
section
variable {w:World} {l r:List HP} {Q:Post} {S:World->Prop}
theorem zre (n:Nat) (hn:n<18446744073709551616) (hs:Sat w l):Ret P F.a233 #[.int .u64 (n:Int)] w λvs w'=>∃ z:Sl,vs=[z.v]/\Sat w' (slc T.a52 1 z ((z3p n).flatMap zi)::l) :=
 zph n <| by
  delta z02h AE Ai An Bj
  refine zf (λu w'=>∃ (m:Nat) (z:Sl) (acc:List UInt8),u=((m:Int),z,())/\m<128/\acc.length<=9/\z3p n=acc++[UInt8.ofNat m]/\Sat w' (slc T.a52 1 z (acc.flatMap zi)::l)) ?_ ?_
  ·refine z03 (λk u w=>∃ (z:Sl) (acc:List UInt8),u=((k:Int),z,())/\k<18446744073709551616/\z3p n=acc++z3p k/\Sat w (slc T.a52 1 z (acc.flatMap zi)::l)) n ⟨⟨none,0,0⟩,[],rfl,hn,rfl,hs.slc_nil⟩ ?_
   clear hs
   rintro k _ w ⟨z,acc,rfl,hk,he,hs⟩
   refine zm ?_
   have hal:acc.length<=9:=by
    have h1:=congrArg List.length he
    rw [List.length_append] at h1
    have h2:=za5 n
    have h3:=za5 k
    omega
   refine ze (λh=>?_) λh=>?_
   ·rw [zm3 hk,if_neg (by omega)] at he
    refine z6m hs (xs:=acc) (enc:=zi) (UInt8.ofNat (k % 128+128)) (λz w' hs=>?_) ?_
    ·refine z23 (y:=((k / 128:Nat):Int)) ?_ (z7n k (by decide))
     refine z11 (k / 128) ?_
     exact ⟨z,acc++[UInt8.ofNat (k % 128+128)],rfl,by omega,by rw [he];simp,hs⟩
    ·unfold zi
     rw [z08c,zd6]
     simp
   ·rw [zm3 hk,if_pos (by omega)] at he
    exact zh (zj ⟨k,z,acc,rfl,by omega,hal,he,hs⟩)
  clear hs
  rintro _ w ⟨m,z,acc,rfl,hm,hal,he,hs⟩
  refine zm ?_
  refine z6m hs (xs:=acc) (enc:=zi) (UInt8.ofNat m) (λz w' hs=>?_) ?_
  ·refine ⟨rfl,z,rfl,?_⟩
   rw [he];exact hs
  ·unfold zi
   rw [zd6]
   simp
theorem zr7 (x:Sl) (ps:List (Sl × List UInt8)) [hx:FocR l x 1 ((ps.map Prod.fst).flatMap z0e)] (hps:∀ p ∈ ps,FocR l p.1 1 (p.2.flatMap zi)) (hpl:ps.length<=1000000) (hn:(ps.flatMap Prod.snd).length<=1000000000) (hs:Sat w l) :
  Ret P F.a221 #[x.v] w λvs w'=>∃ z:Sl,vs=[z.v]/\Sat w' (slc T.a52 1 z ((ps.flatMap Prod.snd).flatMap zi)::l) :=
 zp5 x <| by
  delta z025 AE AM AO AZ Ac Af Ai Al An Ap Aq Bf
  have hl:=hs.slen x (xs:=ps.map Prod.fst) (enc:=z0e)
  rw [List.length_map] at hl
  have hstep:∀ i (hi:i<ps.length),(ps.take (i+1)).flatMap Prod.snd=(ps.take i).flatMap Prod.snd++ps[i].2:=λi hi=>by
   rw [List.take_add_one,List.getElem?_eq_getElem hi,Option.toList_some,List.flatMap_append,List.flatMap_singleton]
  have hmany:∀ i,((ps.take i).flatMap Prod.snd).length<=1000000000:=λi=>by
   have:ps.flatMap Prod.snd=(ps.take i).flatMap Prod.snd++(ps.drop i).flatMap Prod.snd:=by rw [<- List.flatMap_append,List.take_append_drop]
   rw [this,List.length_append] at hn
   omega
  refine zf (λu w'=>u=((((ps.flatMap Prod.snd).length:Nat):Int),())/\Sat w' l) ?_ ?_
  ·refine z03 (λk u w=>∃ i:Nat,u=(((((ps.take i).flatMap Prod.snd).length:Nat):Int),(i:Int),())/\i<=ps.length/\ps.length-i=k/\Sat w l) ps.length ⟨0,rfl,by omega,rfl,hs⟩ ?_
   clear hs
   rintro k _ w ⟨i,rfl,hi,hk,hs⟩
   refine zm ?_
   refine ze (λhc=>?_) λhc=>?_
   rotate_left
   ·refine zh (zj ⟨?_,hs⟩)
    rw [List.take_of_length_le (by omega)]
   have hil:i<ps.length:=by omega
   refine z22 hs (xs:=ps.map Prod.fst) (enc:=z0e) i (by rw [List.length_map];exact hil) ?_
   rw [List.getElem_map]
   have hF:=hps _ (List.getElem_mem hil)
   have hpi:=hs.slen ps[i].1 (xs:=ps[i].2) (enc:=zi)
   have h1:=hmany (i+1)
   have h2:=congrArg List.length (hstep i hil)
   rw [List.length_append] at h2
   have e:IntKind.wrap .i64 (((((ps.take i).flatMap Prod.snd).length:Nat):Int)+((ps[i].1.len:Nat):Int))=((((ps.take (i+1)).flatMap Prod.snd).length:Nat):Int):=by rw [w64 (by omega) (by omega)];omega
   refine z0p e ?_
   refine z2z (us':=[.int .i64 ((((ps.take (i+1)).flatMap Prod.snd).length:Nat):Int),.int .i64 ((i+1:Nat):Int)]) (by (try simp (disch:=omega) only [w64]);first|rfl|(congr;omega)) ?_
   refine z11 (ps.length-(i+1)) ?_
   exact ⟨i+1,rfl,by omega,rfl,hs⟩
  clear hs
  rintro _ w ⟨rfl,hs⟩
  refine zm ?_
  refine zra (ps.flatMap Prod.snd).length hs λz w' hs=>?_
  refine zf (λu w'=>∃ z:Sl,u=(z,())/\Sat w' (slc T.a52 1 z ((ps.flatMap Prod.snd).flatMap zi)::l)) ?_ (by rintro _ w' ⟨z,rfl,hs⟩;refine zm ?_;exact ⟨rfl,z,rfl,hs⟩)
  refine z03 (λk u w=>∃ (i:Nat) (z:Sl),u=(z,(i:Int),())/\i<=ps.length/\ps.length-i=k/\Sat w (slc T.a52 1 z (((ps.take i).flatMap Prod.snd).flatMap zi)::l)) ps.length ⟨0,z,rfl,by omega,rfl,hs⟩ ?_
  clear hs
  rintro k _ w ⟨i,z,rfl,hi,hk,hs⟩
  refine zm ?_
  refine ze (λhc=>?_) λhc=>?_
  rotate_left
  ·refine zh (zj ⟨z,rfl,?_⟩)
   rw [List.take_of_length_le (by omega)] at hs
   exact hs
  have hil:i<ps.length:=by omega
  refine z22 hs (xs:=ps.map Prod.fst) (enc:=z0e) i (by rw [List.length_map];exact hil) ?_
  rw [List.getElem_map]
  have hF:=hps _ (List.getElem_mem hil)
  have h1:=hmany (i+1)
  rw [hstep i hil,List.length_append] at h1
  refine wp_app' (xs:=(ps.take i).flatMap Prod.snd) (ys:=ps[i].2) (enc:=zi) hs (λz w' hs=>?_)
  rw [<- hstep i hil] at hs
  refine z2z (us':=[z.v,.int .i64 ((i+1:Nat):Int)]) (by (try simp (disch:=omega) only [w64]);first|rfl|(congr;omega)) ?_
  refine z11 (ps.length-(i+1)) ?_
  exact ⟨i+1,z,rfl,by omega,rfl,hs⟩
theorem zk5 (x:Sl) (bs:List UInt8) [hx:FocR l x 1 (bs.flatMap zi)] (hn:bs.length<=1000000000) (hs:Sat w l) :
  Ret P F.a0 #[x.v] w λvs w'=>∃ z:Sl,vs=[z.v]/\Sat w' (slc T.a52 1 z (bs.flatMap zi)::l) :=
 zjf x <| by
  delta zf0 AE Ai An
  have hl:=hs.slen x (xs:=bs) (enc:=zi)
  refine ze (λh=>?_) λh=>?_
  ·have h:x.a=none:=by simpa using h
   have:bs=[]:=by
    obtain ⟨h1,h2|⟨b,off,arr,T',fr,ha,-⟩⟩:=hx.rd w hs
    ·exact List.length_eq_zero_iff.1 (by omega)
    ·rw [h] at ha;cases ha
   subst this
   exact ⟨rfl,⟨none,0,0⟩,rfl,hs.slc_nil⟩
  ·refine z94 hs (enc:=zi) [] bs0 (λb w' hs=>?_)
   refine wp_app' (xs:=[]) (ys:=bs) (enc:=zi) hs (λz w' hs=>?_) (by simp;omega)
   exact ⟨rfl,z,rfl,hs⟩
structure RdM where
 bs:List UInt8
 at_:Nat
 e:Int
def RdM.fail (R:RdM) (e:Int):RdM:=⟨R.bs,R.at_,if R.e=0 then e else R.e⟩
def RdM.uint (R:RdM):Nat × RdM:=if R.e≠0 then (0,R) else match z3n 0 (R.bs.drop R.at_) with
 | some p=>(p.1,⟨R.bs,R.at_+p.2,R.e⟩)
 | none=>(0,⟨R.bs,R.at_,6⟩)
def RdM.done (R:RdM):RdM:=if R.at_<R.bs.length then R.fail 6 else R
def rdP (T':TypeId) (p:Nat) (R:RdM):HP:=HP.ex λx:Sl=>HP.and (R.at_<=R.bs.length/\R.bs.length<=1000000000) (HP.star (pt p (.cells #[.slice x.a x.len x.cap,.int .i64 R.at_,.int .i64 R.e] T')) (slc T.a52 1 x (R.bs.flatMap zi)))
theorem z25 {T':TypeId} {p:Nat} {R:RdM} (hs:Sat w (rdP T' p R::l)):∃ x:Sl,(R.at_<=R.bs.length/\R.bs.length<=1000000000)/\Sat w (pt p (.cells #[.slice x.a x.len x.cap,.int .i64 R.at_,.int .i64 R.e] T')::slc T.a52 1 x (R.bs.flatMap zi)::l):=by
 obtain ⟨x,hs⟩:=hs.ex
 obtain ⟨h,hs⟩:=hs.and
 exact ⟨x,h,hs.star⟩
theorem z13 {T':TypeId} {p:Nat} (R:RdM) {x:Sl} (h:R.at_<=R.bs.length/\R.bs.length<=1000000000) (hs:Sat w (pt p (.cells #[.slice x.a x.len x.cap,.int .i64 R.at_,.int .i64 R.e] T')::slc T.a52 1 x (R.bs.flatMap zi)::l)):Sat w (rdP T' p R::l) :=
 .ex_mk x (.and_mk h (.star_mk hs))
theorem zr6 (R:RdM):(R.uint.2).bs=R.bs:=by
 unfold RdM.uint
 split
 ·rfl
 ·split <;> rfl
variable {p:Nat} {R:RdM}
theorem zmm (x:Sl) (bs:List UInt8) [hx:FocR l x 1 (bs.flatMap zi)] (hn:bs.length<=1000000000) (hs:Sat w l) :
  Ret P F.a222 #[x.v] w λvs w'=>∃ p:Nat,vs=[.pointer (some ⟨p,0,none⟩)]/\Sat w' (rdP T.a54 p ⟨bs,0,0⟩::l) :=
 zp6 x <| by
  delta z026 Ac Ak An Av Az
  refine z8 (zk5 x bs hn hs) λ_ _ hs=>?_
  obtain ⟨z,rfl,hs⟩:=hs
  refine zb ?_
  refine zn hs λp w' hs=>?_
  exact ⟨rfl,p,rfl,z13 ⟨bs,0,0⟩ ⟨Nat.zero_le _,hn⟩ hs⟩
theorem zcr [hf:Fo l (rdP T.a54) p R r] (hs:Sat w l):Ret P F.a235 #[.pointer (some ⟨p,0,none⟩)] w λvs w'=>vs=[.int .i64 ((R.bs.length-R.at_:Nat):Int)]/\Sat w' (rdP T.a54 p R::r) :=
 zpj _ <| by
  delta z02j AA AG AI AO AP Ac Af Al An Aq
  obtain ⟨x,hb,hs⟩:=z25 (hs.perm hf.perm)
  have hl:=hs.slen x (xs:=R.bs) (enc:=zi)
  refine zx hs λw' hs=>?_
  refine zg ?_
  refine za hs ?_
  refine zg ?_
  refine za hs ?_
  refine z23 (y:=((R.bs.length-R.at_:Nat):Int)) ?_ (by rw [w64 (by omega) (by omega)];omega)
  refine zd ?_
  exact ⟨rfl,rfl,z13 R hb hs⟩
theorem z75 (e:Int) [hf:Fo l (rdP T.a54) p R r] (hs:Sat w l):Ret P F.a234 #[.pointer (some ⟨p,0,none⟩),.int .i64 e] w λvs w'=>vs=[]/\Sat w' (rdP T.a54 p (R.fail e)::r) :=
 zpi _ e <| by
  delta z02i AA AJ AK AP Ac Ai An
  obtain ⟨x,hb,hs⟩:=z25 (hs.perm hf.perm)
  refine zg ?_
  refine za hs ?_
  refine zf (λ_ w'=>Sat w' (rdP T.a54 p (R.fail e)::r)) ?_ (by rintro _ w' hs;refine zm ?_;exact ⟨rfl,rfl,hs⟩)
  refine ze (λh=>?_) λh=>?_
  ·refine zg ?_
   refine z07 hs λw' hs=>?_
   refine zj ?_
   have e1:R.fail e=⟨R.bs,R.at_,e⟩:=by unfold RdM.fail;rw [if_pos h]
   rw [e1]
   exact z13 ⟨R.bs,R.at_,e⟩ hb hs
  ·have e1:R.fail e=R:=by unfold RdM.fail;rw [if_neg h]
   rw [e1]
   exact zj (z13 R hb hs)
theorem zqr [hf:Fo l (rdP T.a54) p R r] (he:R.e=0) (hs:Sat w l):Ret P F.a237 #[.pointer (some ⟨p,0,none⟩)] w λvs w'=>vs=[.int .u64 ((R.uint.1:Nat):Int)]/\Sat w' (rdP T.a54 p R.uint.2::r) :=
 zpl _ <| by
  delta z02l AA AG AI AJ AK AO AP AU Ac Ad Af Ai Aj Al An Aq BN BO Bj
  have hs:=hs.perm hf.perm
  refine zf (λ_ w'=>z3n 0 (R.bs.drop R.at_)=none/\Sat w' (rdP T.a54 p R::r)) ?_ ?_
  rotate_left
  ·rintro _ w' ⟨hno,hs⟩
   refine zm ?_
   refine z8 (z75 (p:=p) 6 hs) λ_ _ hs=>?_
   obtain ⟨rfl,hs⟩:=hs
   refine zb ?_
   have e1:R.uint=(0,R.fail 6):=by unfold RdM.uint RdM.fail;rw [if_neg (by rw [he];simp),hno,if_pos he]
   rw [e1]
   exact ⟨rfl,rfl,hs⟩
  refine z03 (λk u w=>∃ i n:Nat,u=((n:Int),(i:Int),())/\i<=10/\10-i=k/\n<128 ^ i/\z3n 0 (R.bs.drop R.at_)=(z3n i ((R.bs.drop R.at_).drop i)).map (λq=>(n+128 ^ i*q.1,i+q.2))/\Sat w (rdP T.a54 p R::r)) 10
   ⟨0,0,rfl,by omega,rfl,by simp,by simp,hs⟩ ?_
  clear hs
  rintro k _ w ⟨i,n,rfl,hi,hk,hn,hnum,hs⟩
  refine zm ?_
  refine ze (λhc=>?_) λhc=>?_
  rotate_left
  ·refine zh (zj ⟨?_,hs⟩)
   rw [hnum]
   have:z3n i ((R.bs.drop R.at_).drop i)=none:=by
    cases (R.bs.drop R.at_).drop i with
    | nil=>rfl
    | cons c q=>rw [z8d,if_pos (by omega)]
   rw [this];rfl
  refine z8 (zcr (p:=p) hs) λ_ _ hs=>?_
  obtain ⟨rfl,hs⟩:=hs
  refine zb ?_
  refine ze (λhc2=>?_) λhc2=>?_
  ·refine zh (zj ⟨?_,hs⟩)
   rw [hnum,List.drop_drop,List.drop_eq_nil_of_le (by omega)];rfl
  obtain ⟨x,hb,hs⟩:=z25 hs
  have hl:=hs.slen x (xs:=R.bs) (enc:=zi)
  have hlt:R.at_+i<R.bs.length:=by omega
  refine zx hs λw' hs=>?_
  refine zg ?_
  refine za hs ?_
  refine zg ?_
  refine za hs ?_
  refine z22 hs (xs:=R.bs) (enc:=zi) (R.at_+i) hlt ?_ (by rw [w64 (by omega) (by omega)];omega)
  rw [List.drop_drop,List.drop_eq_getElem_cons hlt] at hnum
  generalize R.bs[R.at_+i]=c at hnum
  have hc256:=c.toNat_lt
  refine wp_lt ?_
  refine zd ?_
  have hz:∀ {X:Option (Nat × Nat)},z3n i (c::R.bs.drop (R.at_+i+1))=X->z3n 0 (R.bs.drop R.at_)=X.map (λq=>(n+128 ^ i*q.1,i+q.2)):=λ{X} h=>by rw [hnum,h]
  refine ze (λh9=>?_) λh9=>?_
  ·refine zh (zj ⟨?_,z13 R hb hs⟩)
   refine hz (X:=none) ?_
   rw [z8d]
   rw [if_pos (by right;omega)]
  refine wp_must (by rw [w64 (by omega) (by omega)];omega) ?_
  have h91:i=9->c.toNat<=1:=λe=>by
   apply Nat.le_of_not_lt
   intro h
   exact h9 ⟨by omega,by omega⟩
  rw [z094 hn (by omega) (by omega) h91]
  refine wp_lt ?_
  refine ze (λh128=>?_) λh128=>?_
  ·refine z23 (y:=((i+1:Nat):Int)) ?_ (by rw [w64 (by omega) (by omega)];omega)
   refine z11 (10-(i+1)) ?_
   have hpos:0<128 ^ i:=Nat.pow_pos (by decide)
   have hmul:128 ^ i*(c.toNat % 128)<=128 ^ i*127:=Nat.mul_le_mul_left _ (by omega)
   refine ⟨i+1,_,rfl,by omega,rfl,by rw [Nat.pow_succ];omega,?_,z13 R hb hs⟩
   rw [hnum]
   rw [z8d]
   rw [if_neg (by omega),if_pos (by omega),List.drop_drop,<- Nat.add_assoc]
   cases z3n (i+1) (R.bs.drop (R.at_+i+1)) with
   | none=>rfl
   | some q =>
    simp only [Option.map_some,Option.some.injEq,Prod.mk.injEq]
    refine ⟨?_,by omega⟩
    rw [Nat.pow_succ,Nat.mul_add,Nat.mul_assoc,Nat.add_assoc]
  refine ze (λh0=>?_) λh0=>?_
  ·refine zh (zj ⟨?_,z13 R hb hs⟩)
   refine hz (X:=none) ?_
   rw [z8d]
   rw [if_neg (by omega),if_neg (by omega),if_pos (by omega)]
  have hsome:=hz (X:=some (c.toNat,1)) (by rw [z8d,if_neg (by omega),if_neg (by omega),if_neg (by omega)])
  have e1:R.uint=(n+128 ^ i*c.toNat,⟨R.bs,R.at_+(i+1),R.e⟩):=by
   unfold RdM.uint
   rw [if_neg (by rw [he];simp),hsome];rfl
  rw [e1]
  refine zg ?_
  refine za hs ?_
  refine zg ?_
  have e2:IntKind.wrap .i64 ((R.at_:Int)+IntKind.wrap .i64 ((i:Int)+1))=((R.at_+(i+1):Nat):Int):=by rw [w64 (x:=(i:Int)+1) (by omega) (by omega),w64 (by omega) (by omega)];omega
  rw [e2]
  refine z07 hs λw' hs=>?_
  refine wp_lt ?_
  refine zh (zh ⟨rfl,?_,z13 ⟨R.bs,R.at_+(i+1),R.e⟩ ⟨by show R.at_+(i+1)<=R.bs.length;omega,hb.2⟩ hs⟩)
  rw [show c.toNat % 128=c.toNat by omega]
theorem zcm [hf:Fo l (rdP T.a54) p R r] (hs:Sat w l):Ret P F.a231 #[.pointer (some ⟨p,0,none⟩)] w λvs w'=>vs=[.bool (decide (R.e=0))]/\Sat w' (rdP T.a54 p R::r) :=
 zpf _ <| by
  delta z02f AQ AX Ag An
  obtain ⟨x,hb,hs⟩:=z25 (hs.perm hf.perm)
  refine z0k ?_
  refine za hs ?_
  refine wp_lt ?_
  refine ⟨rfl,?_,z13 R hb hs⟩
  by_cases h:R.e=0 <;> simp [h]
theorem zqw [hf:Fo l (rdP T.a54) p R r] (hs:Sat w l):Ret P F.a229 #[.pointer (some ⟨p,0,none⟩)] w λvs w'=>vs=[.int .u64 ((R.uint.1:Nat):Int)]/\Sat w' (rdP T.a54 p R.uint.2::r) :=
 zpd _ <| by
  delta z02d AA Ad Ai Am An BH Bi Bj
  refine z8 (zcm (p:=p) hs) λ_ _ hs=>?_
  obtain ⟨rfl,hs⟩:=hs
  refine zb ?_
  refine ze (λh=>?_) λh=>?_
  ·have h:R.e≠0:=by simpa using h
   have e1:R.uint=(0,R):=by unfold RdM.uint;rw [if_pos h]
   rw [e1]
   exact ⟨rfl,rfl,hs⟩
  ·have h:R.e=0:=by simpa using h
   refine zg ?_
   refine z8 (zqr (p:=p) h hs) λ_ _ hs=>?_
   obtain ⟨rfl,hs⟩:=hs
   refine zb ?_
   refine wp_lt ?_
   exact ⟨rfl,rfl,hs⟩
theorem z05x [hf:Fo l (rdP T.a54) p R r] (hs:Sat w l):Ret P F.a225 #[.pointer (some ⟨p,0,none⟩)] w λvs w'=>vs=[.int .i64 R.e]/\Sat w' (rdP T.a54 p R::r) :=
 zp9 _ <| by
  delta z029 AA AP Ac Af Ai An
  obtain ⟨x,hb,hs⟩:=z25 (hs.perm hf.perm)
  refine zy ?_ (by simp)
  refine zg ?_
  refine za hs ?_
  refine wp_lt ?_
  exact ⟨rfl,rfl,z13 R hb hs⟩
theorem z05w [hf:Fo l (rdP T.a54) p R r] (hs:Sat w l):Ret P F.a224 #[.pointer (some ⟨p,0,none⟩)] w λvs w'=>vs=[.int .i64 R.done.e]/\Sat w' (rdP T.a54 p R.done::r) :=
 zp8 _ <| by
  delta z028 AA AK AP AU Ac Af Ai Aj An BH
  refine zy ?_ (by simp)
  refine zg ?_
  refine z8 (zcr (p:=p) hs) λ_ _ hs=>?_
  obtain ⟨rfl,hs⟩:=hs
  refine zb ?_
  refine zf (λ_ w'=>Sat w' (rdP T.a54 p R.done::r)) ?_ ?_
  ·unfold RdM.done
   refine ze (λh=>?_) λh=>?_
   ·rw [if_pos (by omega)]
    refine zg ?_
    refine z8 (z75 (p:=p) 6 hs) λ_ _ hs=>?_
    obtain ⟨rfl,hs⟩:=hs
    refine zb ?_
    exact zj hs
   ·rw [if_neg (by omega)]
    exact zj hs
  clear hs
  rintro _ w hs
  refine zm ?_
  obtain ⟨x,hb,hs⟩:=z25 hs
  refine zg ?_
  refine za hs ?_
  refine wp_lt ?_
  exact ⟨rfl,rfl,z13 R.done hb hs⟩
end
theorem z08k {n:Int} (h:0<=n/\n<9223372036854775808):IntKind.wrap .u64 n=((n.toNat:Nat):Int):=by
 obtain ⟨m,rfl⟩:=Int.eq_ofNat_of_zero_le h.1
 show IntKind.wrap .u64 ((m:Nat):Int)=_
 rw [zgn];omega
def uI (n:Int):List UInt8:=z3p n.toNat
theorem z1u (n:Int):0<(uI n).length/\(uI n).length<=10:=za5 _
section
variable {w:World} {l r:List HP} {Q:Post} {S:World->Prop}
theorem z4z (n:Int) (hn:0<=n/\n<9223372036854775808) (hs:Sat w l):Ret P F.a233 #[.int .u64 (IntKind.wrap .u64 n)] w λvs w'=>∃ z:Sl,vs=[z.v]/\Sat w' (slc T.a52 1 z ((uI n).flatMap zi)::l):=by
 rw [z08k hn]
 exact zre n.toNat (by omega) hs
theorem zzb (x a b c:Sl) (aa bs cs:List UInt8) [hx:FocR l x 1 ([a,b,c].flatMap z0e)] [ha:FocR l a 1 (aa.flatMap zi)] [hb:FocR l b 1 (bs.flatMap zi)] [hc:FocR l c 1 (cs.flatMap zi)] (hn:aa.length+bs.length+cs.length<=1000000000) (hs:Sat w l) :
  Ret P F.a221 #[x.v] w λvs w'=>∃ z:Sl,vs=[z.v]/\Sat w' (slc T.a52 1 z ((aa++(bs++cs)).flatMap zi)::l):=by
 have:=@zr7 w l x [(a,aa),(b,bs),(c,cs)] hx (by
  intro p hp
  rcases List.mem_cons.1 hp with rfl|hp
  ·exact ha
  rcases List.mem_cons.1 hp with rfl|hp
  ·exact hb
  ·rw [List.mem_singleton.1 hp];exact hc) (by simp) (by simp;omega) hs
 simpa using this
theorem zzc (x a b c d:Sl) (aa bs cs ds:List UInt8) [hx:FocR l x 1 ([a,b,c,d].flatMap z0e)] [ha:FocR l a 1 (aa.flatMap zi)] [hb:FocR l b 1 (bs.flatMap zi)] [hc:FocR l c 1 (cs.flatMap zi)] [hd:FocR l d 1 (ds.flatMap zi)]
  (hn:aa.length+bs.length+cs.length+ds.length<=1000000000) (hs:Sat w l) :
  Ret P F.a221 #[x.v] w λvs w'=>∃ z:Sl,vs=[z.v]/\Sat w' (slc T.a52 1 z ((aa++(bs++(cs++ds))).flatMap zi)::l):=by
 have:=@zr7 w l x [(a,aa),(b,bs),(c,cs),(d,ds)] hx (by
  intro p hp
  rcases List.mem_cons.1 hp with rfl|hp
  ·exact ha
  rcases List.mem_cons.1 hp with rfl|hp
  ·exact hb
  rcases List.mem_cons.1 hp with rfl|hp
  ·exact hc
  ·rw [List.mem_singleton.1 hp];exact hd) (by simp) (by simp;omega) hs
 simpa using this
theorem zay {P:Program} {t:TypeId} {sz:Nat} {α:Type} {enc:α->List Value} {n:Nat} {ps:Array (Nat × Value)} {el:TypeId} {bytes:Nat} {k:Sl->Prog} (hs:Sat w l) [ht:SlT P t el sz bytes] [hE:EncN enc sz] (xs:List α)
  (h:∀ x w',Sat w' (slc el sz x (xs.flatMap enc)::l)->(k x).wp P S w' Q) (hc:z45 P t n ps=some (el,(xs.flatMap enc).toArray):=by kernel_rfl) (hn:xs.length=n:=by rfl) (hS:∀ w',S w':=by exact λ_=>trivial) :
  (Prog.act (Instr.buildSlice t n ps) sL (u1 k)).wp P S w Q:=z94 hs xs hc (λb w' hs=>h _ w' hs) (by simp) hn hS
end
def z4m (R:RdM):List UInt8:=R.bs.drop R.at_
theorem zsu {R:RdM} (hb:R.at_<=R.bs.length) :
  (R.e=0/\R.uint.1<18446744073709551616/\R.uint.2.e=0/\R.uint.2.at_<=R.uint.2.bs.length/\R.uint.2.bs=R.bs/\z4m R=z3p R.uint.1++z4m R.uint.2) \/
  (R.uint.1=0/\R.uint.2.e≠0/\R.uint.2.at_<=R.uint.2.bs.length/\(R.e=0->∀ m z,m<18446744073709551616->z4m R≠z3p m++z)):=by
 unfold RdM.uint z4m
 by_cases h0:R.e=0
 ·rw [if_neg (by rw [h0];simp)]
  cases hn:z3n 0 (R.bs.drop R.at_) with
  | none =>
   refine .inr ⟨rfl,(show (6:Int)≠0 by decide),hb,λ_ m z hm he=>?_⟩
   rw [he,zir hm] at hn
   cases hn
  | some p =>
   obtain ⟨v,k⟩:=p
   obtain ⟨h1,h2⟩:=zl4 hn
   have h3:=zl2 _ _ _ _ hn
   rw [List.length_drop] at h3
   refine .inl ⟨h0,h2,h0,by show R.at_+k<=R.bs.length;omega,rfl,?_⟩
   show R.bs.drop R.at_=z3p v++R.bs.drop (R.at_+k)
   rw [<- h1,<- List.drop_drop,List.take_append_drop]
 ·rw [if_pos h0]
  exact .inr ⟨rfl,h0,hb,λh=>absurd h h0⟩
theorem zlh {R:RdM}:(z4m R).length=R.bs.length-R.at_:=by unfold z4m;rw [List.length_drop]
theorem z64 {w:World} {l:List HP} {T':TypeId} {p:Nat} {R:RdM} (hs:Sat w (rdP T' p R::l)):R.at_<=R.bs.length/\R.bs.length<=1000000000:=by
 obtain ⟨x,h,-⟩:=z25 hs
 exact h
theorem zrp {R:RdM} (hb:R.at_<=R.bs.length):R.done.e=0↔R.e=0/\z4m R=[]:=by
 have hl:=zlh (R:=R)
 unfold RdM.done RdM.fail
 by_cases h:R.at_<R.bs.length
 ·rw [if_pos h]
  constructor
  ·intro h2
   by_cases h3:R.e=0
   ·simp [h3] at h2
   ·simp [h3] at h2
  ·rintro ⟨-,h2⟩
   rw [h2] at hl;simp at hl;omega
 ·rw [if_neg h]
  exact ⟨λh2=>⟨h2,List.length_eq_zero_iff.1 (by omega)⟩,λh2=>h2.1⟩
def zig (n:Int):Nat:=if 0<=n then (2*n).toNat else (-2*n-1).toNat
def zag (m:Nat):Int:=if m % 2=1 then -((m / 2:Nat):Int)-1 else ((m / 2:Nat):Int)
def z5g (n:Int):List UInt8:=z3p (zig n)
theorem z04j (n:Int):zag (zig n)=n:=by
 unfold zag zig
 split <;> split <;> omega
theorem z04k (m:Nat):zig (zag m)=m:=by
 unfold zag zig
 split <;> split <;> omega
theorem zx6 {n:Int} (h : -9223372036854775808<=n/\n<9223372036854775808):zig n<18446744073709551616:=by
 unfold zig
 split <;> omega
theorem zj5 (n:Int):0<(z5g n).length/\(z5g n).length<=10:=za5 _
theorem xor_zero (x:BitVec 64):x ^^^ BitVec.ofInt 64 0=x:=by
 have:BitVec.ofInt 64 0=0#64:=by decide
 rw [this,BitVec.xor_zero]
theorem zmb (x:BitVec 64) {n:Int} (hn:BitVec.ofInt 64 n=BitVec.allOnes 64):(x ^^^ BitVec.ofInt 64 n).toNat=18446744073709551615-x.toNat:=by
 rw [hn,BitVec.xor_allOnes,BitVec.toNat_not]
theorem toNat_ofInt (n:Int):(BitVec.ofInt 64 n).toNat=(n % 18446744073709551616).toNat:=by rw [BitVec.toNat_ofInt];rfl
theorem z82 (n:Int):IntKind.wrap .u64 n=n % 18446744073709551616:=by simp [IntKind.wrap,IntKind.bits,IntKind.signed]
theorem z04y {n:Int} (h : -9223372036854775808<=n/\n<9223372036854775808):Int.fdiv n 9223372036854775808=if 0<=n then 0 else -1:=by
 rw [Int.fdiv_eq_ediv_of_nonneg _ (by omega)]
 split <;> omega
theorem zzr {n:Int} (h : -9223372036854775808<=n/\n<9223372036854775808) :
  (BitVec.toNat (BitVec.ofInt 64 (IntKind.wrap .u64 (IntKind.wrap .u64 n*2)) ^^^ BitVec.ofInt 64 (IntKind.wrap .u64 (Int.fdiv n 9223372036854775808))))=zig n:=by
 rw [z04y h,z82,z82]
 unfold zig
 by_cases h0:0<=n
 ·rw [if_pos h0,if_pos h0,z82,Int.zero_emod,xor_zero,toNat_ofInt];omega
 ·rw [if_neg h0,if_neg h0,zmb _ (by rw [z82];decide),toNat_ofInt];omega
theorem zzg {m:Nat} (h:m<18446744073709551616) :
  IntKind.wrap .i64 (((BitVec.toNat (BitVec.ofInt 64 (IntKind.wrap .i64 (Int.fdiv (m:Int) 2)) ^^^ BitVec.ofInt 64 (IntKind.wrap .i64 (0-IntKind.wrap .i64 (IntKind.wrap .u64 (((BitVec.toNat (BitVec.ofInt 64 (m:Int) &&& BitVec.ofInt 64 1):Nat):Int)))))):Nat):Int))=zag m:=by
 have e1:(BitVec.toNat (BitVec.ofInt 64 (m:Int) &&& BitVec.ofInt 64 1))=m % 2:=by
  rw [BitVec.toNat_and,toNat_ofInt,toNat_ofInt]
  have h1:((m:Int) % 18446744073709551616).toNat=m:=by omega
  have h2:((1:Int) % 18446744073709551616).toNat=1:=by decide
  rw [h1,h2,Nat.and_one_is_mod]
 have e2:Int.fdiv (m:Int) 2=((m / 2:Nat):Int):=by rw [Int.fdiv_eq_ediv_of_nonneg _ (by omega)];omega
 rw [e1,e2,z82,w64 (x:=((m / 2:Nat):Int)) (by omega) (by omega)]
 unfold zag
 by_cases h0:m % 2=1
 ·rw [if_pos h0,h0]
  have e3:IntKind.wrap .i64 (0-IntKind.wrap .i64 ((((1:Nat):Int)) % 18446744073709551616)) = -1:=by decide
  rw [e3,zmb _ (by decide),toNat_ofInt]
  have e4:((((m / 2:Nat):Int)) % 18446744073709551616).toNat=m / 2:=by omega
  rw [e4]
  have e5:IntKind.wrap .i64 ((18446744073709551615-m / 2:Nat):Int) = -((m / 2:Nat):Int)-1:=by
   rw [zhq];split <;> omega
  exact e5
 ·rw [if_neg h0]
  have h2:m % 2=0:=by omega
  rw [h2]
  have e3:IntKind.wrap .i64 (0-IntKind.wrap .i64 ((((0:Nat):Int)) % 18446744073709551616))=0:=by decide
  rw [e3,xor_zero,toNat_ofInt]
  have e4:((((m / 2:Nat):Int)) % 18446744073709551616).toNat=m / 2:=by omega
  rw [e4,w64 (by omega) (by omega)]
def RdM.within (R:RdM) (lo hi:Int):Int × RdM :=
 if R.uint.2.e≠0 then (0,R.uint.2) else if zag R.uint.1<lo\/zag R.uint.1>hi then (0,⟨R.bs,R.at_,8⟩) else (zag R.uint.1,R.uint.2)
theorem zm4 {R:RdM} (h:R.e≠0):R.uint=(0,R):=by unfold RdM.uint;rw [if_pos h]
section
variable {w:World} {l r:List HP} {p:Nat} {R:RdM}
theorem z04i (n:Int) (hn : -9223372036854775808<=n/\n<9223372036854775808) (hs:Sat w l):Ret P F.a220 #[.int .i64 n] w λvs w'=>∃ z:Sl,vs=[z.v]/\Sat w' (slc T.a52 1 z ((z5g n).flatMap zi)::l) :=
 zp4 n <| by
  delta z024 Ak An;unfold z5g
  have hz:=zx6 hn
  rw [zzr hn]
  generalize zig n=m at hz ⊢
  rw [zgn,Nat.mod_eq_of_lt hz]
  refine z8 (zre m hz hs) λ_ _ hs=>?_
  obtain ⟨z,rfl,hs⟩:=hs
  refine zb ?_
  exact ⟨rfl,z,rfl,hs⟩
theorem z05y [hf:Fo l (rdP T.a54) p R r] (hs:Sat w l):Ret P F.a227 #[.pointer (some ⟨p,0,none⟩)] w λvs w'=>vs=[.int .i64 (zag R.uint.1)]/\Sat w' (rdP T.a54 p R.uint.2::r) :=
 zpb _ <| by
  delta z02b Ac Ad Af An Aq Bi Bj
  have hb:=(z64 (hs.perm hf.perm)).1
  have hlt:R.uint.1<18446744073709551616:=by rcases zsu hb with h|h <;> omega
  refine z8 (zqw (p:=p) hs) λ_ _ hs=>?_
  obtain ⟨rfl,hs⟩:=hs
  refine zb ?_
  refine wp_lt ?_
  rw [zzg hlt]
  refine wp_lt ?_
  exact ⟨rfl,rfl,hs⟩
theorem zwh (lo hi:Int) [hf:Fo l (rdP T.a54) p R r] (hs:Sat w l):Ret P F.a230 #[.pointer (some ⟨p,0,none⟩),.int .i64 lo,.int .i64 hi] w λvs w'=>vs=[.int .i64 (R.within lo hi).1]/\Sat w' (rdP T.a54 p (R.within lo hi).2::r) :=
 zpe _ lo hi <| by
  delta z02e AA AJ AK AP AU Ac Ad Af Ai Aj Am An BH
  have hb0:=z64 (hs.perm hf.perm)
  refine z8 (zcm (p:=p) hs) λ_ _ hs=>?_
  obtain ⟨rfl,hs⟩:=hs
  refine zb ?_
  refine ze (λh=>?_) λh=>?_
  ·have h:R.e≠0:=by simpa using h
   unfold RdM.within
   rw [zm4 h,if_pos h]
   exact ⟨rfl,rfl,hs⟩
  have h:R.e=0:=by simpa using h
  obtain ⟨x,hb,hs⟩:=z25 hs
  refine zg ?_
  refine za hs ?_
  refine wp_lt ?_
  have hs:Sat _ (rdP T.a54 p R::r):=z13 R hb hs
  refine z8 (z05y (p:=p) hs) λ_ _ hs=>?_
  obtain ⟨rfl,hs⟩:=hs
  refine zb ?_
  refine wp_lt ?_
  have hbs:=zr6 R
  unfold RdM.within
  have hb2:=z64 hs
  generalize R.uint.1=m at *
  generalize R.uint.2=R1 at *
  obtain ⟨x,-,hs⟩:=z25 hs
  refine zg ?_
  refine za hs ?_
  refine zf (λ_ w'=>Sat w' (rdP T.a54 p (if R1.e≠0 then R1 else if zag m<lo\/zag m>hi then ⟨R.bs,R.at_,8⟩ else R1)::r)) ?_ ?_
  ·refine ze (λh2=>?_) λh2=>?_
   ·obtain ⟨h3,h4⟩:=h2
    have e:(if R1.e≠0 then R1 else if zag m<lo\/zag m>hi then (⟨R.bs,R.at_,8⟩:RdM) else R1)=⟨R.bs,R.at_,8⟩:=by rw [if_neg (by rw [h3];simp),if_pos h4]
    refine zg ?_
    refine z07 hs λw' hs=>?_
    refine zg ?_
    have hs:Sat w' (rdP T.a54 p ⟨R.bs,R.at_,0⟩::r):=z13 (x:=x) ⟨R.bs,R.at_,0⟩ hb0 (by rw [hbs,h3] at hs;exact hs)
    refine z8 (z75 (p:=p) 8 hs) λ_ w' hs=>?_
    obtain ⟨rfl,hs⟩:=hs
    refine zb ?_
    refine zj ?_
    rw [e]
    exact hs
   ·refine zj ?_
    have e:(if R1.e≠0 then R1 else if zag m<lo\/zag m>hi then (⟨R.bs,R.at_,8⟩:RdM) else R1)=R1:=by
     by_cases h3:R1.e=0
     ·rw [if_neg (by rw [h3];simp),if_neg (λh4=>h2 ⟨h3,h4⟩)]
     ·rw [if_pos h3]
    rw [e]
    exact z13 R1 hb2 hs
  clear hs
  rintro _ w hs
  refine zm ?_
  by_cases h3:R1.e=0
  ·rw [if_neg (by rw [h3];simp)] at hs ⊢
   by_cases h4:zag m<lo\/zag m>hi
   ·rw [if_pos h4] at hs ⊢
    obtain ⟨x,-,hs⟩:=z25 hs
    refine zg ?_
    refine za hs ?_
    refine z0c ?_ (by simp)
    exact ⟨rfl,rfl,z13 ⟨R.bs,R.at_,8⟩ hb0 hs⟩
   ·rw [if_neg h4] at hs ⊢
    obtain ⟨x,-,hs⟩:=z25 hs
    refine zg ?_
    refine za hs ?_
    refine zy ?_ (by rw [h3];simp)
    refine wp_lt ?_
    exact ⟨rfl,rfl,z13 R1 hb2 hs⟩
  ·rw [if_pos h3] at hs ⊢
   obtain ⟨x,-,hs⟩:=z25 hs
   refine zg ?_
   refine za hs ?_
   refine z0c ?_ h3
   exact ⟨rfl,rfl,z13 R1 hb2 hs⟩
end
end Go.Dec
