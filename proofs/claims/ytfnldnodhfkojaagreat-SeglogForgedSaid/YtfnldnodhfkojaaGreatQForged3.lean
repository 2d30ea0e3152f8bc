/- What the claim of this folder leans on: our own texts, joined, without what it does not use. -/
import Derived.Test.YtfnldnodhfkojaaGreatRows
import Derived.WalkKit
import Derived.ProofKit
import Derived.OpenShut
import Derived.RowKit3
import Derived.OrdersHeld
import Derived.Scope
import Derived.KernelRfl
import Derived.Laws.Sem
import Derived.Laws.StructEq
import Derived.Deep.AppendSrc
import Derived.Laws.BytesArg
import Derived.Laws.RangeString
import Derived.Maps.RangeRun
import Derived.Lib.ConvBytes
import Derived.Lib.SlBytesConst
import Derived.ChangeSlices
import Derived.ChangeMaps5
import Derived.ChangeSame
import Derived.Deep.Slices
import Derived.Deep.Fields
import Derived.Test.YtfnldnodhfkojaaGreatProg
import Derived.Laws.MakeOwn
import Derived.Sort.MapsRangeIn
import Derived.Sort.KeysCollected
import Derived.RangeFuncNested
import Derived.RangeFuncBound
import Derived.RangeFuncCalls
import Derived.RangeFuncLeaves
import Derived.RangeFuncBox
import Derived.OwnWalkIn
import Derived.TacticsInMore
import Derived.RegionIn
import Derived.LoopNIn
import Derived.LoopIn
import Derived.Maps.AppendAt
import Derived.Shelf.Abstract
import Derived.Shelf.Sort.Plain
import Derived.Shelf.Slices.In.SortNone
import Derived.Test.YtfnldnodhfkojaaGreatQForged1
import Derived.Test.YtfnldnodhfkojaaGreatQForged2
set_option linter.unusedVariables false
set_option linter.unusedSimpArgs false
namespace Go.Dec
def z03a (l:Option Addr):Prog :=
.ex [.adr] (c1 λa0=>Option.isNone l=false->l=some a0) (u1 λa1 =>
.read (Option.isNone l=false) (ld T.a22 (Addr.add a1 4)) sL (u1 λl2 =>
.ite (Option.isNone l || ((l2.len:Nat):Int) == 0) (
.done 0 [.int .i64 0]) (
.call F.a63 [.pointer l] sP (u1 λp3 =>
.call F.a77 [.pointer p3] (sI .i64) (u1 λ(n4:Int) =>
.lt (.int .i64) (n4) λ(n5:Int) =>
.done 0 [.int .i64 n5])))))
theorem zpz (l:Option Addr) {w:World} {R:List Value->World->Prop} (h:(z03a l).wp P (λ_=>True) w λe vs w'=>e=0/\R vs w'):Ret P F.a53 #[.pointer l] w R:=dS (n:=16) (rv:=[.tmp 2]) { cnd:=[],blk:=[],reg:=[],lps:=[] } [.val (.pointer l)] Go.Proofs.Tryz.func19 (by kernel_rfl) (by kernel_rfl) (by kernel_rfl) (by kernel_rfl) h
def z00b (l:Option Addr) (offset:Int) (most:Int):Prog :=
.act (Instr.box T.a16 (.pointer l)) sA (u1 λa0 =>
.act (Instr.box T.a11 (.int .i64 offset)) sA (u1 λa1 =>
.act (Instr.box T.a10 (.int .i64 most)) sA (u1 λa2 =>
.read True (ld T.a16 a0) sP (u1 λp3 =>
.lt (.bool) (Option.isNone p3) λb4 =>
.ite (b4) (
.done 0 [.slice none 0 0,.int .i64 1]) (
.read True (ld T.a10 a2) (sI .i64) (u1 λ(n5:Int) =>
.lt (.bool) (decide (n5<1)) λb6 =>
.ite (b6) (
.done 0 [.slice none 0 0,.int .i64 2]) (
.bind 1 [.one .bool] (
.tick <|
.hold True (ld T.a11 a1) (sI .i64) (u1 λ(n7:Int) =>
.read True (ld T.a16 a0) sP (u1 λp8 =>
.call F.a52 [.pointer p8] (sI .i64) (u1 λ(n9:Int) =>
.hold (decide (n7<n9)=false) (ld T.a11 a1) (sI .i64) (u1 λ(n10:Int) =>
.read (decide (n7<n9)=false) (ld T.a16 a0) sP (u1 λp11 =>
.ite (decide (n7<n9)) (
.untick <|
.done 1 [.bool true]) (
.call F.a53 [.pointer p11] (sI .i64) (u1 λ(n12:Int) =>
.lt (.bool) (decide (n10>n12)) λb13 =>
.untick <|
.done 1 [.bool b13])))))))) (u1 λb14 =>
.ite (b14) (
.done 0 [.slice none 0 0,.int .i64 8]) (
.act (new T.a18) sA (u1 λa15 =>
.read True (ld T.a16 a0) sP (u1 λp16 =>
.ex [.adr] (c1 λa17=>p16=some a17) (u1 λa18 =>
.read True (ld T.a22 (Addr.add a18 4)) sL (u1 λl19 =>
.call F.a95 [.int .i64 (((l19.len:Nat):Int)),.func (Fn.func 66) #[] #[.pointer (some a0),.pointer (some a1)]] (sI .i64) (u1 λ(n20:Int) =>
.lt (.int .i64) (IntKind.wrap .i64 (n20-1)) λ(n21:Int) =>
.lt (.int .i64) (if 0>n21 then 0 else n21) λ(n22:Int) =>
.bind 1 [] (
.loop 2 [.one (.int .i64)] (n22,()) (u1 λ(n23:Int) =>
.read True (ld T.a16 a0) sP (u1 λp24 =>
.ex [.adr] (c1 λa25=>p24=some a25) (u1 λa26 =>
.read True (ld T.a22 (Addr.add a26 4)) sL (u1 λl27 =>
.ite (decide (n23<((l27.len:Nat):Int))) (
.read True (ld T.a16 a0) sP (u1 λp28 =>
.ex [.adr] (c1 λa29=>p28=some a29) (u1 λa30 =>
.read True (ld T.a22 (Addr.add a30 4)) sL (u1 λl31 =>
.ex [.adr] (c1 λa32=>0<=n23/\n23<((l31.len:Nat):Int)/\l31.a=some a32) (u1 λa33 =>
.read True (ld T.a17 (Addr.add a33 (Int.toNat n23*1))) sP (u1 λp34 =>
.bind 3 [.one .bool] (
.tick <|
.hold True (ld T.a16 a0) sP (u1 λp35 =>
.read True (ld T.a11 a1) (sI .i64) (u1 λ(n36:Int) =>
.call F.a76 [.pointer p34,.int .i64 n36] (sI .i64) (u1 λ(n37:Int) =>
.untick <|
.call F.a69 [.pointer p35,.pointer p34,.int .i64 n37,.func (Fn.func 69) #[] #[.pointer (some a1),.pointer (some a15),.pointer (some a2)]] sB (u1 λb38 =>
.lt (.bool) (b38) λb39 =>
.untick <|
.done 3 [.bool b39]))))) (u1 λb40 =>
.ite (not b40) (
.done 1 []) (
.lt (.int .i64) (IntKind.wrap .i64 (n23+1)) λ(n41:Int) =>
.done 2 [.int .i64 n41])))))))) (
.done 1 [])))))) (u0 <|
.read True (ld T.a18 a15) sL (u1 λl42 =>
.done 0 [l42.v,.int .i64 0]))))))))))))))))
theorem zre (l:Option Addr) (offset most:Int) {w:World} {R:List Value->World->Prop} (h:(z00b l offset most).wp P (λ_=>True) w λe vs w'=>e=0/\R vs w'):Ret P F.a54 #[.pointer l,.int .i64 offset,.int .i64 most] w R:=dS (n:=65) (rv:=[.tmp 6,.tmp 7]) { cnd:=[],blk:=[(1,[])],reg:=[(5,[(18,.one .bool)]),(13,[(11,.one .bool)])],lps:=[(1,[(9,.one (.int .i64))])] } [.val (.pointer l),.val (.int .i64 offset),.val (.int .i64 most)] Go.Proofs.Tryz.func21 (by kernel_rfl) (by kernel_rfl) (by kernel_rfl) (by kernel_rfl) h
def zwq (b_0 b_1 b_2 b_3 b_4 b_5:Int) (b_6:Sl):Prog :=
.act (Instr.box T.a1 (.agg #[.int .i64 b_0,.int .i64 b_1,.int .i64 b_2,.int .i64 b_3,.int .i64 b_4,.int .i64 b_5,b_6.v])) sA (u1 λa0 =>
.read True (ld T.a1 a0) (sG [.int .i64,.int .i64,.int .i64,.int .i64,.int .i64,.int .i64,.slc]) (u7 λ(n1 n2 n3 n4 n5 n6:Int) l7 =>
.call F.a125 [.agg #[.int .i64 n1,.int .i64 n2,.int .i64 n3,.int .i64 n4,.int .i64 n5,.int .i64 n6,l7.v]] sB (u1 λb8 =>
.ite (b8) (
.done 0 [.int .i64 1]) (
.read True (ld T.a19 (Addr.add a0 6)) sL (u1 λl9 =>
.lt (.int .i64) (((l9.len:Nat):Int)) λ(n10:Int) =>
.done 0 [.int .i64 n10])))))
theorem zm1 (b_0 b_1 b_2 b_3 b_4 b_5:Int) (b_6:Sl) {w:World} {R:List Value->World->Prop} (h:(zwq b_0 b_1 b_2 b_3 b_4 b_5 b_6).wp P (λ_=>True) w λe vs w'=>e=0/\R vs w'):Ret P F.a128 #[.agg #[.int .i64 b_0,.int .i64 b_1,.int .i64 b_2,.int .i64 b_3,.int .i64 b_4,.int .i64 b_5,.slice b_6.a b_6.len b_6.cap]] w R:=dS (n:=8) (rv:=[.tmp 2]) { cnd:=[],blk:=[],reg:=[],lps:=[] } [.val (.agg #[.int .i64 b_0,.int .i64 b_1,.int .i64 b_2,.int .i64 b_3,.int .i64 b_4,.int .i64 b_5,.slice b_6.a b_6.len b_6.cap])] Go.Proofs.Tryz.func22 (by kernel_rfl) (by kernel_rfl) (by kernel_rfl) (by kernel_rfl) h
def zy4 (a:Sl) (b:Sl):Prog :=
.ite (((a.len:Nat):Int) != ((b.len:Nat):Int)) (
.done 0 [.bool false]) (
.bind 1 [] (
.loop 2 [.one (.int .i64)] (0,()) (u1 λ(n0:Int) =>
.ite (decide (n0<((a.len:Nat):Int))) (
.lt (.int .i64) (n0) λ(n1:Int) =>
.tick <|
.ex [.adr] (c1 λa2=>0<=n1/\n1<((a.len:Nat):Int)/\a.a=some a2) (u1 λa3 =>
.read True (ld T.a1 (Addr.add a3 (Int.toNat n1*7))) (sG [.int .i64,.int .i64,.int .i64,.int .i64,.int .i64,.int .i64,.slc]) (u7 λ(n4 n5 n6 n7 n8 n9:Int) l10 =>
.ex [.adr] (c1 λa11=>0<=n1/\n1<((b.len:Nat):Int)/\b.a=some a11) (u1 λa12 =>
.read True (ld T.a1 (Addr.add a12 (Int.toNat n1*7))) (sG [.int .i64,.int .i64,.int .i64,.int .i64,.int .i64,.int .i64,.slc]) (u7 λ(n13 n14 n15 n16 n17 n18:Int) l19 =>
.call F.a126 [.agg #[.int .i64 n4,.int .i64 n5,.int .i64 n6,.int .i64 n7,.int .i64 n8,.int .i64 n9,l10.v],.agg #[.int .i64 n13,.int .i64 n14,.int .i64 n15,.int .i64 n16,.int .i64 n17,.int .i64 n18,l19.v]] sB (u1 λb20 =>
.untick <|
.ite (not b20) (
.done 0 [.bool false]) (
.done 2 [.int .i64 (IntKind.wrap .i64 (n0+1))]))))))) (
.done 1 []))) (u0 <|
.done 0 [.bool true]))
theorem zn3 (a b:Sl) {w:World} {R:List Value->World->Prop} (h:(zy4 a b).wp P (λ_=>True) w λe vs w'=>e=0/\R vs w'):Ret P F.a127 #[.slice a.a a.len a.cap,.slice b.a b.len b.cap] w R:=dS (n:=27) (rv:=[.tmp 4]) { cnd:=[],blk:=[(0,[])],reg:=[],lps:=[(0,[(13,.one (.int .i64))])] } [.val (.slice a.a a.len a.cap),.val (.slice b.a b.len b.cap)] Go.Proofs.Tryz.func23 (by kernel_rfl) (by kernel_rfl) (by kernel_rfl) (by kernel_rfl) h
def z013 (d:Option Addr) (prefix_:ByteArray) (c_0:Int) (c_1:Int):Prog :=
.act (Instr.box T.a28 (.agg #[.int .i64 c_0,.int .i64 c_1])) sA (u1 λa0 =>
.lt (.bool) (Option.isNone d) λb1 =>
.ite (b1) (
.done 0 [.pointer none,.int .i64 1]) (
.bind 1 [.one .bool] (
.call F.a71 [.string prefix_] sB (u1 λb2 =>
.read (not b2=false) (ld T.a28 a0) (sG [.int .i64,.int .i64]) (u2 λ(n3 n4:Int) =>
.ite (not b2) (
.done 1 [.bool true]) (
.call F.a75 [.agg #[.int .i64 n3,.int .i64 n4]] sB (u1 λb5 =>
.lt (.bool) (not b5) λb6 =>
.done 1 [.bool b6]))))) (u1 λb7 =>
.ite (b7) (
.done 0 [.pointer none,.int .i64 2]) (
.call F.a6 [.pointer d] sB (u1 λb8 =>
.lt (.bool) (b8) λb9 =>
.ite (b9) (
.done 0 [.pointer none,.int .i64 9]) (
.read True (ld T.a28 a0) (sG [.int .i64,.int .i64]) (u2 λ(n10 n11:Int) =>
.act (Instr.box T.a29 (.agg #[.pointer d,.string prefix_,.int .i64 n10,.int .i64 n11,.slice none 0 0])) sA (u1 λa12 =>
.call F.a61 [.pointer (some a12)] (.tup [.one .slc,.one (.int .i64)]) (u2 λl13 (n14:Int) =>
.lt (.int .i64) (n14) λ(n15:Int) =>
.ite (n15 != 0) (
.lt (.int .i64) (n15) λ(n16:Int) =>
.done 0 [.pointer none,.int .i64 n16]) (
.bind 1 [.one (.int .i64)] (
.loop 2 [.one (.int .i64),.one (.int .i64)] (n15,(0,())) (u2 λ(n17 n18:Int) =>
.ite (decide (n18<((l13.len:Nat):Int))) (
.bind 3 [.one (.int .i64)] (
.ex [.adr] (c1 λa19=>0<=n18/\n18<((l13.len:Nat):Int)/\l13.a=some a19) (u1 λa20 =>
.read True (ld T.a11 (Addr.add a20 (Int.toNat n18*1))) (sI .i64) (u1 λ(n21:Int) =>
.lt (.int .i64) (n18) λ(n22:Int) =>
.lt (.int .i64) (n21) λ(n23:Int) =>
.call F.a53 [.pointer (some a12)] (sI .i64) (u1 λ(n24:Int) =>
.ite (decide (n23<n24)) (
.call F.a64 [.pointer (some a12),.int .i64 n23,.string (ByteArray.mk #[46,108,111,103])] sS (u1 λs25 =>
.call F.a9 [.pointer d,.string s25] (sI .i64) (u1 λ(n26:Int) =>
.lt (.int .i64) (n26) λ(n27:Int) =>
.ite (n27 != 0) (
.done 1 [.int .i64 n27]) (
.done 3 [.int .i64 n27])))) (
.call F.a67 [.pointer (some a12),.int .i64 n23] (.tup [.one .bool,.one (.int .i64)]) (u2 λb28 (n29:Int) =>
.lt (.bool) (b28) λb30 =>
.lt (.int .i64) (n29) λ(n31:Int) =>
.ite (n31 == 0 && not b30) (
.must (0<=IntKind.wrap .i64 (n22+1)/\IntKind.wrap .i64 (n22+1)<=((l13.len:Nat):Int)) <|
.call F.a60 [.pointer (some a12),.slice (z1g l13.a 1 (Int.toNat (IntKind.wrap .i64 (n22+1))) l13.cap) (l13.len-Int.toNat (IntKind.wrap .i64 (n22+1))) (l13.cap-Int.toNat (IntKind.wrap .i64 (n22+1)))] (sI .i64) (u1 λ(n32:Int) =>
.lt (.int .i64) (n32) λ(n33:Int) =>
.done 1 [.int .i64 n33])) (
.ite (n31 != 0) (
.done 1 [.int .i64 n31]) (
.done 3 [.int .i64 n31])))))))) (u1 λ(n34:Int) =>
.done 2 [.int .i64 n34,.int .i64 (IntKind.wrap .i64 (n18+1))])) (
.done 1 [.int .i64 n17]))) (u1 λ(n35:Int) =>
.ite (n35 != 0) (
.lt (.int .i64) (n35) λ(n36:Int) =>
.done 0 [.pointer none,.int .i64 n36]) (
.done 0 [.pointer (some a12),.int .i64 0]))))))))))))
theorem zq5 (d:Option Addr) (prefix_:ByteArray) (c_0 c_1:Int) {w:World} {R:List Value->World->Prop} (h:(z013 d prefix_ c_0 c_1).wp P (λ_=>True) w λe vs w'=>e=0/\R vs w'):Ret P F.a70 #[.pointer d,.string prefix_,.agg #[.int .i64 c_0,.int .i64 c_1]] w R:=dS (n:=85) (rv:=[.tmp 6,.tmp 7]) { cnd:=[],blk:=[(1,[(10,.one (.int .i64))]),(2,[(10,.one (.int .i64))])],reg:=[(3,[(17,.one .bool)])],lps:=[(1,[(10,.one (.int .i64)),(44,.one (.int .i64))])] } [.val (.pointer d),.val (.string prefix_),.val (.agg #[.int .i64 c_0,.int .i64 c_1])] Go.Proofs.Tryz.func24 (by kernel_rfl) (by kernel_rfl) (by kernel_rfl) (by kernel_rfl) h
def zv2 (l:Option Addr) (bs:Sl):Prog :=
.ite (Option.isNone l) (
.done 0 [.int .i64 0,.int .i64 1]) (
.ite (((bs.len:Nat):Int) == 0) (
.done 0 [.int .i64 0,.int .i64 3]) (
.call F.a65 [.pointer l,bs.v] (.tup [.one .slc,.one .slc,.one (.int .i64)]) (u3 λl0 l1 (n2:Int) =>
.lt (.int .i64) (n2) λ(n3:Int) =>
.ite (n3 != 0) (
.lt (.int .i64) (n3) λ(n4:Int) =>
.done 0 [.int .i64 0,.int .i64 n4]) (
.bind 1 [.one (.int .i64)] (
.loop 2 [.one (.int .i64),.one (.int .i64)] (0,(0,())) (u2 λ(n5 n6:Int) =>
.ite (decide (n6<((l1.len:Nat):Int))) (
.ex [.adr] (c1 λa7=>0<=n6/\n6<((l1.len:Nat):Int)/\l1.a=some a7) (u1 λa8 =>
.read True (ld T.a27 (Addr.add a8 (Int.toNat n6*1))) sL (u1 λl9 =>
.lt (.int .i64) (IntKind.wrap .i64 (n5+((l9.len:Nat):Int))) λ(n10:Int) =>
.done 2 [.int .i64 n10,.int .i64 (IntKind.wrap .i64 (n6+1))]))) (
.done 1 [.int .i64 n5]))) (u1 λ(n11:Int) =>
.call F.a63 [.pointer l] sP (u1 λp12 =>
.call F.a62 [.pointer l,.int .i64 n11] sB (u1 λb13 =>
.bind 1 [.one .ptr] (
.ite (not b13) (
.call F.a58 [.pointer l] (sI .i64) (u1 λ(n14:Int) =>
.lt (.int .i64) (n14) λ(n15:Int) =>
.ite (n15 != 0) (
.lt (.int .i64) (n15) λ(n16:Int) =>
.done 0 [.int .i64 0,.int .i64 n16]) (
.call F.a53 [.pointer l] (sI .i64) (u1 λ(n17:Int) =>
.call F.a68 [.pointer l,.int .i64 n17,.int .i64 0] sP (u1 λp18 =>
.bind 2 [.one (.int .i64)] (
.tick <|
.ex [.adr] (c1 λa19=>l=some a19) (u1 λa20 =>
.hold True (ld T.a13 (Addr.add a20 0)) sP (u1 λp21 =>
.ex [.adr] (c1 λa22=>p18=some a22) (u1 λa23 =>
.read True (ld T.a11 (Addr.add a23 1)) (sI .i64) (u1 λ(n24:Int) =>
.ex [.adr] (c1 λa25=>p18=some a25) (u1 λa26 =>
.hold True (ld T.a11 (Addr.add a26 1)) (sI .i64) (u1 λ(n27:Int) =>
.call F.a64 [.pointer l,.int .i64 n24,.string (ByteArray.mk #[46,108,111,103])] sS (u1 λs28 =>
.call F.a72 [.int .i64 n27,.int .i64 0] sL (u1 λl29 =>
.act (Instr.buildSlice T.a23 1 #[(0,l29.v)]) sL (u1 λl30 =>
.act (app T.a23 T.a23 T.a23 l30.v l1.v) sL (u1 λl31 =>
.untick <|
.call F.a3 [.pointer p21,.string s28,l31.v] (sI .i64) (u1 λ(n32:Int) =>
.lt (.int .i64) (n32) λ(n33:Int) =>
.untick <|
.done 2 [.int .i64 n33])))))))))))) (u1 λ(n34:Int) =>
.ite (n34 != 0) (
.lt (.int .i64) (n34) λ(n35:Int) =>
.done 0 [.int .i64 0,.int .i64 n35]) (
.call F.a66 [.pointer l,.pointer p18] (.tup []) (u0 <|
.done 1 [.pointer p18])))))))) (
.bind 2 [.one (.int .i64)] (
.tick <|
.ex [.adr] (c1 λa36=>l=some a36) (u1 λa37 =>
.hold True (ld T.a13 (Addr.add a37 0)) sP (u1 λp38 =>
.ex [.adr] (c1 λa39=>p12=some a39) (u1 λa40 =>
.read True (ld T.a11 (Addr.add a40 1)) (sI .i64) (u1 λ(n41:Int) =>
.call F.a64 [.pointer l,.int .i64 n41,.string (ByteArray.mk #[46,108,111,103])] sS (u1 λs42 =>
.untick <|
.call F.a3 [.pointer p38,.string s42,l1.v] (sI .i64) (u1 λ(n43:Int) =>
.lt (.int .i64) (n43) λ(n44:Int) =>
.untick <|
.done 2 [.int .i64 n44]))))))) (u1 λ(n45:Int) =>
.ite (n45 != 0) (
.lt (.int .i64) (n45) λ(n46:Int) =>
.done 0 [.int .i64 0,.int .i64 n46]) (
.done 1 [.pointer p12])))) (u1 λp47 =>
.bind 1 [] (
.loop 2 [.one (.int .i64)] (0,()) (u1 λ(n48:Int) =>
.ite (decide (n48<((l0.len:Nat):Int))) (
.ex [.adr] (c1 λa49=>0<=n48/\n48<((l0.len:Nat):Int)/\l0.a=some a49) (u1 λa50 =>
.read True (ld T.a1 (Addr.add a50 (Int.toNat n48*7))) (sG [.int .i64,.int .i64,.int .i64,.int .i64,.int .i64,.int .i64,.slc]) (u7 λ(n51 n52 n53 n54 n55 n56:Int) l57 =>
.act (new T.a1) sA (u1 λa58 =>
.lt (.int .i64) (n48) λ(n59:Int) =>
.actU (st T.a1 a58 (.agg #[.int .i64 n51,.int .i64 n52,.int .i64 n53,.int .i64 n54,.int .i64 n55,.int .i64 n56,l57.v])) <|
.tick <|
.read True (ld T.a1 a58) (sG [.int .i64,.int .i64,.int .i64,.int .i64,.int .i64,.int .i64,.slc]) (u7 λ(n60 n61 n62 n63 n64 n65:Int) l66 =>
.ex [.adr] (c1 λa67=>0<=n59/\n59<((l1.len:Nat):Int)/\l1.a=some a67) (u1 λa68 =>
.read True (ld T.a27 (Addr.add a68 (Int.toNat n59*1))) sL (u1 λl69 =>
.call F.a78 [.pointer p47,.agg #[.int .i64 n60,.int .i64 n61,.int .i64 n62,.int .i64 n63,.int .i64 n64,.int .i64 n65,l66.v],.int .i64 (((l69.len:Nat):Int))] (.tup []) (u0 <|
.untick <|
.done 2 [.int .i64 (IntKind.wrap .i64 (n48+1))])))))))) (
.done 1 []))) (u0 <|
.ex [.adr] (c1 λa70=>(0:Int)<=0/\0<((l0.len:Nat):Int)/\l0.a=some a70) (u1 λa71 =>
.read True (ld T.a11 (Addr.add (Addr.add a71 0) 0)) (sI .i64) (u1 λ(n72:Int) =>
.lt (.int .i64) (n72) λ(n73:Int) =>
.done 0 [.int .i64 n73,.int .i64 0])))))))))))
theorem zfn (l:Option Addr) (bs:Sl) {w:World} {R:List Value->World->Prop} (h:(zv2 l bs).wp P (λ_=>True) w λe vs w'=>e=0/\R vs w'):Ret P F.a51 #[.pointer l,.slice bs.a bs.len bs.cap] w R:=dS (n:=119) (rv:=[.tmp 4,.tmp 5]) { cnd:=[(2596148429267409202579229989077041,[(12,.one .ptr)])],blk:=[(0,[(9,.one (.int .i64))]),(2,[])],reg:=[(20,[(14,.one (.int .i64))]),(24,[(15,.one (.int .i64))])],lps:=[(0,[(9,.one (.int .i64)),(35,.one (.int .i64))]),(2,[(101,.one (.int .i64))])] } [.val (.pointer l),.val (.slice bs.a bs.len bs.cap)] Go.Proofs.Tryz.func25 (by kernel_rfl) (by kernel_rfl) (by kernel_rfl) (by kernel_rfl) h
def z02k (s:ByteArray):Prog :=
.ite (decide (((ByteArray.size s:Nat):Int)<1) || decide (((ByteArray.size s:Nat):Int)>8)) (
.done 0 [.bool false]) (
.act (convert T.a32 T.a27 (.string s)) sL (u1 λl0 =>
.bind 1 [] (
.loop 2 [.one (.int .i64)] (0,()) (u1 λ(n1:Int) =>
.ite (decide (n1<((l0.len:Nat):Int))) (
.ex [.adr] (c1 λa2=>0<=n1/\n1<((l0.len:Nat):Int)/\l0.a=some a2) (u1 λa3 =>
.read True (ld T.a38 (Addr.add a3 (Int.toNat n1*1))) (sI .u8) (u1 λ(n4:Int) =>
.lt (.int .u8) (n4) λ(n5:Int) =>
.ite (not (decide (n5>=97) && decide (n5<=122) || decide (n5>=48) && decide (n5<=57))) (
.done 0 [.bool false]) (
.done 2 [.int .i64 (IntKind.wrap .i64 (n1+1))])))) (
.done 1 []))) (u0 <|
.done 0 [.bool true])))
theorem zq2 (s:ByteArray) {w:World} {R:List Value->World->Prop} (h:(z02k s).wp P (λ_=>True) w λe vs w'=>e=0/\R vs w'):Ret P F.a71 #[.string s] w R:=dS (n:=36) (rv:=[.tmp 2]) { cnd:=[],blk:=[(0,[])],reg:=[],lps:=[(0,[(16,.one (.int .i64))])] } [.val (.string s)] Go.Proofs.Tryz.func44 (by kernel_rfl) (by kernel_rfl) (by kernel_rfl) (by kernel_rfl) h
def z027 (l:Option Addr):Prog :=
.ite (Option.isNone l) (
.done 0 [.int .i64 1]) (
.call F.a63 [.pointer l] sP (u1 λp0 =>
.ite (not (Option.isNone p0)) (
.bind 1 [.one (.int .i64)] (
.tick <|
.ex [.adr] (c1 λa1=>l=some a1) (u1 λa2 =>
.hold True (ld T.a13 (Addr.add a2 0)) sP (u1 λp3 =>
.ex [.adr] (c1 λa4=>p0=some a4) (u1 λa5 =>
.read True (ld T.a11 (Addr.add a5 1)) (sI .i64) (u1 λ(n6:Int) =>
.call F.a64 [.pointer l,.int .i64 n6,.string (ByteArray.mk #[46,108,111,103])] sS (u1 λs7 =>
.act (Instr.buildSlice T.a24 1 #[(0,.string s7)]) sL (u1 λl8 =>
.untick <|
.call F.a11 [.pointer p3,l8.v] (sI .i64) (u1 λ(n9:Int) =>
.lt (.int .i64) (n9) λ(n10:Int) =>
.untick <|
.done 1 [.int .i64 n10])))))))) (u1 λ(n11:Int) =>
.done 0 [.int .i64 n11])) (
.done 0 [.int .i64 0])))
theorem zqk (l:Option Addr) {w:World} {R:List Value->World->Prop} (h:(z027 l).wp P (λ_=>True) w λe vs w'=>e=0/\R vs w'):Ret P F.a58 #[.pointer l] w R:=dS (n:=22) (rv:=[.tmp 2]) { cnd:=[],blk:=[],reg:=[(5,[(2,.one (.int .i64))])],lps:=[] } [.val (.pointer l)] Go.Proofs.Tryz.func45 (by kernel_rfl) (by kernel_rfl) (by kernel_rfl) (by kernel_rfl) h
def z01x (l:Option Addr):Prog :=
.ite (Option.isNone l) (
.done 0 [.slice none 0 0]) (
.call F.a52 [.pointer l] (sI .i64) (u1 λ(n0:Int) =>
.call F.a54 [.pointer l,.int .i64 n0,.int .i64 1099511627776] (.tup [.one .slc,.one (.int .i64)]) (u2 λl1 (n2:Int) =>
.lt (.int .i64) (n2) λ(n3:Int) =>
.done 0 [l1.v])))
theorem zqb (l:Option Addr) {w:World} {R:List Value->World->Prop} (h:(z01x l).wp P (λ_=>True) w λe vs w'=>e=0/\R vs w'):Ret P F.a50 #[.pointer l] w R:=dS (n:=15) (rv:=[.tmp 2]) { cnd:=[],blk:=[],reg:=[],lps:=[] } [.val (.pointer l)] Go.Proofs.Tryz.func50 (by kernel_rfl) (by kernel_rfl) (by kernel_rfl) (by kernel_rfl) h
def z02l (l:Option Addr):Prog :=
.ex [.adr] (c1 λa0=>Option.isNone l=false->l=some a0) (u1 λa1 =>
.read (Option.isNone l=false) (ld T.a22 (Addr.add a1 4)) sL (u1 λl2 =>
.ite (Option.isNone l || ((l2.len:Nat):Int) == 0) (
.done 0 [.int .i64 0]) (
.ex [.adr] (c1 λa3=>l=some a3) (u1 λa4 =>
.read True (ld T.a22 (Addr.add a4 4)) sL (u1 λl5 =>
.ex [.adr] (c1 λa6=>(0:Int)<=0/\0<((l5.len:Nat):Int)/\l5.a=some a6) (u1 λa7 =>
.read True (ld T.a17 (Addr.add a7 0)) sP (u1 λp8 =>
.ex [.adr] (c1 λa9=>p8=some a9) (u1 λa10 =>
.read True (ld T.a11 (Addr.add a10 1)) (sI .i64) (u1 λ(n11:Int) =>
.lt (.int .i64) (n11) λ(n12:Int) =>
.done 0 [.int .i64 n12])))))))))
theorem zqu (l:Option Addr) {w:World} {R:List Value->World->Prop} (h:(z02l l).wp P (λ_=>True) w λe vs w'=>e=0/\R vs w'):Ret P F.a52 #[.pointer l] w R:=dS (n:=22) (rv:=[.tmp 2]) { cnd:=[],blk:=[],reg:=[],lps:=[] } [.val (.pointer l)] Go.Proofs.Tryz.func56 (by kernel_rfl) (by kernel_rfl) (by kernel_rfl) (by kernel_rfl) h
def z02c (l:Option Addr):Prog :=
.ite (Option.isNone l) (
.done 0 [.slice none 0 0]) (
.ex [.adr] (c1 λa0=>l=some a0) (u1 λa1 =>
.read True (ld T.a22 (Addr.add a1 4)) sL (u1 λl2 =>
.bind 1 [.one .slc] (
.loop 2 [.one .slc,.one (.int .i64)] (⟨none,0,0⟩,(0,())) (u2 λl3 (n4:Int) =>
.ite (decide (n4<((l2.len:Nat):Int))) (
.ex [.adr] (c1 λa5=>0<=n4/\n4<((l2.len:Nat):Int)/\l2.a=some a5) (u1 λa6 =>
.read True (ld T.a17 (Addr.add a6 (Int.toNat n4*1))) sP (u1 λp7 =>
.ex [.adr] (c1 λa8=>p7=some a8) (u1 λa9 =>
.read True (ld T.a11 (Addr.add a9 1)) (sI .i64) (u1 λ(n10:Int) =>
.act (Instr.buildSlice T.a21 1 #[(0,.int .i64 n10)]) sL (u1 λl11 =>
.act (app T.a21 T.a21 T.a21 l3.v l11.v) sL (u1 λl12 =>
.done 2 [l12.v,.int .i64 (IntKind.wrap .i64 (n4+1))]))))))) (
.done 1 [l3.v]))) (u1 λl13 =>
.done 0 [l13.v]))))
theorem zqg (l:Option Addr) {w:World} {R:List Value->World->Prop} (h:(z02c l).wp P (λ_=>True) w λe vs w'=>e=0/\R vs w'):Ret P F.a57 #[.pointer l] w R:=dS (n:=26) (rv:=[.tmp 2]) { cnd:=[],blk:=[(0,[(3,.one .slc)])],reg:=[],lps:=[(0,[(3,.one .slc),(13,.one (.int .i64))])] } [.val (.pointer l)] Go.Proofs.Tryz.func57 (by kernel_rfl) (by kernel_rfl) (by kernel_rfl) (by kernel_rfl) h
def z029 (l:Option Addr):Prog :=
.ex [.adr] (c1 λa0=>l=some a0) (u1 λa1 =>
.read True (ld T.a22 (Addr.add a1 4)) sL (u1 λl2 =>
.ite (((l2.len:Nat):Int) == 0) (
.done 0 [.pointer none]) (
.tick <|
.ex [.adr] (c1 λa3=>l=some a3) (u1 λa4 =>
.read True (ld T.a22 (Addr.add a4 4)) sL (u1 λl5 =>
.ex [.adr] (c1 λa6=>l=some a6) (u1 λa7 =>
.read True (ld T.a22 (Addr.add a7 4)) sL (u1 λl8 =>
.ex [.adr] (c1 λa9=>0<=IntKind.wrap .i64 (((l8.len:Nat):Int)-1)/\IntKind.wrap .i64 (((l8.len:Nat):Int)-1)<((l5.len:Nat):Int)/\l5.a=some a9) (u1 λa10 =>
.read True (ld T.a17 (Addr.add a10 (Int.toNat (IntKind.wrap .i64 (((l8.len:Nat):Int)-1))*1))) sP (u1 λp11 =>
.untick <|
.done 0 [.pointer p11])))))))))
theorem zqs (l:Option Addr) {w:World} {R:List Value->World->Prop} (h:(z029 l).wp P (λ_=>True) w λe vs w'=>e=0/\R vs w'):Ret P F.a63 #[.pointer l] w R:=dS (n:=21) (rv:=[.tmp 2]) { cnd:=[],blk:=[],reg:=[],lps:=[] } [.val (.pointer l)] Go.Proofs.Tryz.func60 (by kernel_rfl) (by kernel_rfl) (by kernel_rfl) (by kernel_rfl) h
def z033 (s:Option Addr):Prog :=
.tick <|
.ex [.adr] (c1 λa0=>s=some a0) (u1 λa1 =>
.read True (ld T.a11 (Addr.add a1 1)) (sI .i64) (u1 λ(n2:Int) =>
.ex [.adr] (c1 λa3=>s=some a3) (u1 λa4 =>
.read True (ld T.a11 (Addr.add a4 2)) (sI .i64) (u1 λ(n5:Int) =>
.ex [.adr] (c1 λa6=>s=some a6) (u1 λa7 =>
.read True (ld T.a11 (Addr.add a7 3)) (sI .i64) (u1 λ(n8:Int) =>
.lt (.int .i64) (if n8>if n5>n2 then n5 else n2 then n8 else if n5>n2 then n5 else n2) λ(n9:Int) =>
.untick <|
.done 0 [.int .i64 n9]))))))
theorem zqf (s:Option Addr) {w:World} {R:List Value->World->Prop} (h:(z033 s).wp P (λ_=>True) w λe vs w'=>e=0/\R vs w'):Ret P F.a77 #[.pointer s] w R:=dS (n:=16) (rv:=[.tmp 2]) { cnd:=[],blk:=[],reg:=[],lps:=[] } [.val (.pointer s)] Go.Proofs.Tryz.func61 (by kernel_rfl) (by kernel_rfl) (by kernel_rfl) (by kernel_rfl) h
def zwv (b_0 b_1 b_2 b_3 b_4 b_5:Int) (b_6:Sl):Prog :=
.act (Instr.box T.a1 (.agg #[.int .i64 b_0,.int .i64 b_1,.int .i64 b_2,.int .i64 b_3,.int .i64 b_4,.int .i64 b_5,b_6.v])) sA (u1 λa0 =>
.bind 1 [.one .bool] (
.read True (ld T.a10 (Addr.add a0 4)) (sI .i64) (u1 λ(n1:Int) =>
.call F.a130 [.int .i64 n1,.int .i64 0,.int .i64 3] sB (u1 λb2 =>
.read (b2=false) (ld T.a11 (Addr.add a0 0)) (sI .i64) (u1 λ(n3:Int) =>
.ite (b2) (
.done 1 [.bool true]) (
.call F.a130 [.int .i64 n3,.int .i64 0,.int .i64 1099511627776] sB (u1 λb4 =>
.read (b4=false) (ld T.a11 (Addr.add a0 1)) (sI .i64) (u1 λ(n5:Int) =>
.ite (b4) (
.done 1 [.bool true]) (
.call F.a130 [.int .i64 n5,.int .i64 0,.int .i64 1048576] sB (u1 λb6 =>
.read (b6=false) (ld T.a10 (Addr.add a0 2)) (sI .i64) (u1 λ(n7:Int) =>
.ite (b6) (
.done 1 [.bool true]) (
.call F.a130 [.int .i64 n7,.int .i64 0,.int .i64 32767] sB (u1 λb8 =>
.read (b8=false) (ld T.a10 (Addr.add a0 3)) (sI .i64) (u1 λ(n9:Int) =>
.ite (b8) (
.done 1 [.bool true]) (
.call F.a130 [.int .i64 n9,.int .i64 0,.int .i64 2147483647] sB (u1 λb10 =>
.read (b10=false) (ld T.a11 (Addr.add a0 5)) (sI .i64) (u1 λ(n11:Int) =>
.ite (b10) (
.done 1 [.bool true]) (
.call F.a130 [.int .i64 n11,.int .i64 0,.int .i64 1099511627776] sB (u1 λb12 =>
.done 1 [.bool b12])))))))))))))))))) (u1 λb13 =>
.ite (b13) (
.done 0 [.int .i64 2]) (
.read True (ld T.a11 (Addr.add a0 1)) (sI .i64) (u1 λ(n14:Int) =>
.read ((n14 == 0)=true) (ld T.a10 (Addr.add a0 4)) (sI .i64) (u1 λ(n15:Int) =>
.read ((n14 == 0)=true/\(n15 != 0)=false) (ld T.a10 (Addr.add a0 2)) (sI .i64) (u1 λ(n16:Int) =>
.read ((n14 == 0)=true/\(n15 != 0 || n16 != 0)=false) (ld T.a10 (Addr.add a0 3)) (sI .i64) (u1 λ(n17:Int) =>
.ite (n14 == 0 && (n15 != 0 || n16 != 0 || n17 != 0)) (
.done 0 [.int .i64 2]) (
.bind 1 [.one .bool] (
.tick <|
.read True (ld T.a1 a0) (sG [.int .i64,.int .i64,.int .i64,.int .i64,.int .i64,.int .i64,.slc]) (u7 λ(n18 n19 n20 n21 n22 n23:Int) l24 =>
.hold True (ld T.a19 (Addr.add a0 6)) sL (u1 λl25 =>
.call F.a125 [.agg #[.int .i64 n18,.int .i64 n19,.int .i64 n20,.int .i64 n21,.int .i64 n22,.int .i64 n23,l24.v]] sB (u1 λb26 =>
.read (not (b26 == (((l25.len:Nat):Int) == 0))=false) (ld T.a1 a0) (sG [.int .i64,.int .i64,.int .i64,.int .i64,.int .i64,.int .i64,.slc]) (u7 λ(n27 n28 n29 n30 n31 n32:Int) l33 =>
.untick <|
.ite (not (b26 == (((l25.len:Nat):Int) == 0))) (
.untick <|
.done 1 [.bool true]) (
.call F.a125 [.agg #[.int .i64 n27,.int .i64 n28,.int .i64 n29,.int .i64 n30,.int .i64 n31,.int .i64 n32,l33.v]] sB (u1 λb34 =>
.read (b34=true) (ld T.a10 (Addr.add a0 3)) (sI .i64) (u1 λ(n35:Int) =>
.untick <|
.done 1 [.bool (b34 && n35 != 0)])))))))) (u1 λb36 =>
.ite (b36) (
.done 0 [.int .i64 2]) (
.read True (ld T.a19 (Addr.add a0 6)) sL (u1 λl37 =>
.ite (decide (((l37.len:Nat):Int)>64)) (
.done 0 [.int .i64 7]) (
.read True (ld T.a19 (Addr.add a0 6)) sL (u1 λl38 =>
.bind 1 [] (
.loop 2 [.one (.int .i64)] (0,()) (u1 λ(n39:Int) =>
.ite (decide (n39<((l38.len:Nat):Int))) (
.ex [.adr] (c1 λa40=>0<=n39/\n39<((l38.len:Nat):Int)/\l38.a=some a40) (u1 λa41 =>
.read True (ld T.a3 (Addr.add a41 (Int.toNat n39*4))) (sG [.str,.str,.bool,.int .i64]) (u4 λs42 s43 b44 (n45:Int) =>
.act (new T.a3) sA (u1 λa46 =>
.actU (st T.a3 a46 (.agg #[.string s42,.string s43,.bool b44,.int .i64 n45])) <|
.read True (ld T.a32 (Addr.add a46 0)) sS (u1 λs47 =>
.read (decide (((ByteArray.size s47:Nat):Int)>1024)=false) (ld T.a32 (Addr.add a46 1)) sS (u1 λs48 =>
.ite (decide (((ByteArray.size s47:Nat):Int)>1024) || decide (((ByteArray.size s48:Nat):Int)>1024)) (
.done 0 [.int .i64 7]) (
.read True (ld T.a11 (Addr.add a46 3)) (sI .i64) (u1 λ(n49:Int) =>
.call F.a130 [.int .i64 n49,.int .i64 0,.int .i64 1099511627776] sB (u1 λb50 =>
.read (b50=false) (ld T.a4 (Addr.add a46 2)) sB (u1 λb51 =>
.read (b50=false/\b51=true) (ld T.a32 (Addr.add a46 1)) sS (u1 λs52 =>
.ite (b50 || b51 && decide (((ByteArray.size s52:Nat):Int)>0)) (
.done 0 [.int .i64 2]) (
.done 2 [.int .i64 (IntKind.wrap .i64 (n39+1))])))))))))))) (
.done 1 []))) (u0 <|
.tick <|
.hold True (ld T.a11 (Addr.add a0 0)) (sI .i64) (u1 λ(n53:Int) =>
.read True (ld T.a1 a0) (sG [.int .i64,.int .i64,.int .i64,.int .i64,.int .i64,.int .i64,.slc]) (u7 λ(n54 n55 n56 n57 n58 n59:Int) l60 =>
.call F.a128 [.agg #[.int .i64 n54,.int .i64 n55,.int .i64 n56,.int .i64 n57,.int .i64 n58,.int .i64 n59,l60.v]] (sI .i64) (u1 λ(n61:Int) =>
.untick <|
.ite (decide (IntKind.wrap .i64 (IntKind.wrap .i64 (n53+n61)-1)>1099511627776)) (
.done 0 [.int .i64 24]) (
.bind 1 [.one .bool] (
.read True (ld T.a11 (Addr.add a0 1)) (sI .i64) (u1 λ(n62:Int) =>
.read (decide (n62>0)=true) (ld T.a1 a0) (sG [.int .i64,.int .i64,.int .i64,.int .i64,.int .i64,.int .i64,.slc]) (u7 λ(n63 n64 n65 n66 n67 n68:Int) l69 =>
.ite (decide (n62>0)) (
.call F.a125 [.agg #[.int .i64 n63,.int .i64 n64,.int .i64 n65,.int .i64 n66,.int .i64 n67,.int .i64 n68,l69.v]] sB (u1 λb70 =>
.read (not b70=true) (ld T.a10 (Addr.add a0 3)) (sI .i64) (u1 λ(n71:Int) =>
.read (not b70=true) (ld T.a19 (Addr.add a0 6)) sL (u1 λl72 =>
.done 1 [.bool (not b70 && decide (IntKind.wrap .i64 (IntKind.wrap .i64 (n71+((l72.len:Nat):Int))-1)>2147483647))])))) (
.done 1 [.bool false])))) (u1 λb73 =>
.ite (b73) (
.done 0 [.int .i64 24]) (
.done 0 [.int .i64 0]))))))))))))))))))))
theorem zln (b_0 b_1 b_2 b_3 b_4 b_5:Int) (b_6:Sl) {w:World} {R:List Value->World->Prop} (h:(zwv b_0 b_1 b_2 b_3 b_4 b_5 b_6).wp P (λ_=>True) w λe vs w'=>e=0/\R vs w'):Ret P F.a129 #[.agg #[.int .i64 b_0,.int .i64 b_1,.int .i64 b_2,.int .i64 b_3,.int .i64 b_4,.int .i64 b_5,.slice b_6.a b_6.len b_6.cap]] w R:=dS (n:=127) (rv:=[.tmp 2]) { cnd:=[],blk:=[(0,[])],reg:=[(1,[(32,.one .bool)]),(5,[(66,.one .bool)]),(19,[(126,.one .bool)])],lps:=[(0,[(74,.one (.int .i64))])] } [.val (.agg #[.int .i64 b_0,.int .i64 b_1,.int .i64 b_2,.int .i64 b_3,.int .i64 b_4,.int .i64 b_5,.slice b_6.a b_6.len b_6.cap])] Go.Proofs.Tryz.func62 (by kernel_rfl) (by kernel_rfl) (by kernel_rfl) (by kernel_rfl) h
def zwd (b_0 b_1 b_2 b_3 b_4 b_5:Int) (b_6:Sl):Prog :=
.act (Instr.box T.a1 (.agg #[.int .i64 b_0,.int .i64 b_1,.int .i64 b_2,.int .i64 b_3,.int .i64 b_4,.int .i64 b_5,b_6.v])) sA (u1 λa0 =>
.read True (ld T.a10 (Addr.add a0 4)) (sI .i64) (u1 λ(n1:Int) =>
.read ((n1 == 2)=false) (ld T.a10 (Addr.add a0 4)) (sI .i64) (u1 λ(n2:Int) =>
.lt (.bool) (n1 == 2 || n2 == 3) λb3 =>
.done 0 [.bool b3])))
theorem zn6 (b_0 b_1 b_2 b_3 b_4 b_5:Int) (b_6:Sl) {w:World} {R:List Value->World->Prop} (h:(zwd b_0 b_1 b_2 b_3 b_4 b_5 b_6).wp P (λ_=>True) w λe vs w'=>e=0/\R vs w'):Ret P F.a125 #[.agg #[.int .i64 b_0,.int .i64 b_1,.int .i64 b_2,.int .i64 b_3,.int .i64 b_4,.int .i64 b_5,.slice b_6.a b_6.len b_6.cap]] w R:=dS (n:=11) (rv:=[.tmp 2]) { cnd:=[],blk:=[],reg:=[],lps:=[] } [.val (.agg #[.int .i64 b_0,.int .i64 b_1,.int .i64 b_2,.int .i64 b_3,.int .i64 b_4,.int .i64 b_5,.slice b_6.a b_6.len b_6.cap])] Go.Proofs.Tryz.func63 (by kernel_rfl) (by kernel_rfl) (by kernel_rfl) (by kernel_rfl) h
def z014 (i:Int) (fv0:Option Addr) (fv1:Option Addr):Prog :=
.tick <|
.read True (Instr.loadAt T.a16 (.pointer fv0)) sP (u1 λp0 =>
.ex [.adr] (c1 λa1=>p0=some a1) (u1 λa2 =>
.read True (ld T.a22 (Addr.add a2 4)) sL (u1 λl3 =>
.ex [.adr] (c1 λa4=>0<=i/\i<((l3.len:Nat):Int)/\l3.a=some a4) (u1 λa5 =>
.read True (ld T.a17 (Addr.add a5 (Int.toNat i*1))) sP (u1 λp6 =>
.ex [.adr] (c1 λa7=>p6=some a7) (u1 λa8 =>
.read True (ld T.a11 (Addr.add a8 1)) (sI .i64) (u1 λ(n9:Int) =>
.read True (Instr.loadAt T.a11 (.pointer fv1)) (sI .i64) (u1 λ(n10:Int) =>
.lt (.bool) (decide (n9>n10)) λb11 =>
.untick <|
.done 0 [.bool b11]))))))))
theorem zrk (i:Int) (fv0 fv1:Option Addr) {w:World} {R:List Value->World->Prop} (h:(z014 i fv0 fv1).wp P (λ_=>True) w λe vs w'=>e=0/\R vs w'):Ret P F.a55 #[.int .i64 i,.pointer fv0,.pointer fv1] w R:=dS (n:=17) (rv:=[.tmp 4]) { cnd:=[],blk:=[],reg:=[],lps:=[] } [.val (.int .i64 i),.val (.pointer fv0),.val (.pointer fv1)] Go.Proofs.Tryz.func66 (by kernel_rfl) (by kernel_rfl) (by kernel_rfl) (by kernel_rfl) h
def z01f (l s:Option Addr) (place:Int) (told:Value):Prog :=
.bind 1 [.one .slc] (
.tick <|
.ex [.adr] (c1 λa0=>l=some a0) (u1 λa1 =>
.hold True (ld T.a13 (Addr.add a1 0)) sP (u1 λp2 =>
.ex [.adr] (c1 λa3=>s=some a3) (u1 λa4 =>
.read True (ld T.a11 (Addr.add a4 1)) (sI .i64) (u1 λ(n5:Int) =>
.call F.a64 [.pointer l,.int .i64 n5,.string (ByteArray.mk #[46,108,111,103])] sS (u1 λs6 =>
.untick <|
.call F.a8 [.pointer p2,.string s6] (.tup [.one .slc,.one (.int .i64)]) (u2 λl7 (n8:Int) =>
.lt (.int .i64) (n8) λ(n9:Int) =>
.untick <|
.done 1 [l7.v]))))))) (u1 λl10 =>
.lt (.int .i64) (place) λ(n11:Int) =>
.bind 1 [] (
.loop 2 [.one (.int .i64)] (n11,()) (u1 λ(n12:Int) =>
.ex [.adr] (c1 λa13=>decide (n12<((l10.len:Nat):Int))=true->s=some a13) (u1 λa14 =>
.read (decide (n12<((l10.len:Nat):Int))=true) (ld T.a10 (Addr.add a14 5)) (sI .i64) (u1 λ(n15:Int) =>
.ite (decide (n12<((l10.len:Nat):Int)) && decide (n12<n15)) (
.must (0<=n12/\n12<=((l10.len:Nat):Int)) <|
.call F.a18 [.slice (z1g l10.a 1 (Int.toNat n12) l10.cap) (l10.len-Int.toNat n12) (l10.cap-Int.toNat n12)] (.tup [.one .slc,.one (.int .i64),.one .bool]) (u3 λl16 (n17:Int) b18 =>
.lt (.int .i64) (n17) λ(n19:Int) =>
.lt (.bool) (b18) λb20 =>
.ite (not b20) (
.done 0 [.bool true]) (
.call F.a35 [l16.v] (.tup [.agg [.int .i64,.int .i64,.int .i64,.int .i64,.int .i64,.int .i64,.slc],.one (.int .i64)]) (u8 λ(n21 n22 n23 n24 n25 n26:Int) l27 (n28:Int) =>
.act (new T.a1) sA (u1 λa29 =>
.actU (st T.a1 a29 (.agg #[.int .i64 n21,.int .i64 n22,.int .i64 n23,.int .i64 n24,.int .i64 n25,.int .i64 n26,l27.v])) <|
.lt (.int .i64) (n28) λ(n30:Int) =>
.bind 3 [.one .bool] (
.read ((n30 != 0)=false) (ld T.a1 a29) (sG [.int .i64,.int .i64,.int .i64,.int .i64,.int .i64,.int .i64,.slc]) (u7 λ(n31 n32 n33 n34 n35 n36:Int) l37 =>
.ite (n30 != 0) (
.done 3 [.bool true]) (
.callv (told) [.agg #[.int .i64 n31,.int .i64 n32,.int .i64 n33,.int .i64 n34,.int .i64 n35,.int .i64 n36,l37.v]] sB (u1 λb38 =>
.done 3 [.bool (not b38)])))) (u1 λb39 =>
.ite (b39) (
.done 0 [.bool false]) (
.lt (.int .i64) (IntKind.wrap .i64 (n12+n19)) λ(n40:Int) =>
.done 2 [.int .i64 n40]))))))) (
.done 1 []))))) (u0 <|
.done 0 [.bool true]))
theorem zp2 (l s:Option Addr) (place:Int) (told:Value) {w:World} {R:List Value->World->Prop} (h:(z01f l s place told).wp P (λ_=>True) w λe vs w'=>e=0/\R vs w'):Ret P F.a69 #[.pointer l,.pointer s,.int .i64 place,told] w R:=dS (n:=70) (rv:=[.tmp 8]) { cnd:=[],blk:=[(0,[])],reg:=[(1,[(9,.one .slc)]),(8,[(66,.one .bool)])],lps:=[(0,[(11,.one (.int .i64))])] } [.val (.pointer l),.val (.pointer s),.val (.int .i64 place),.any told] Go.Proofs.Tryz.func67 (by kernel_rfl) (by kernel_rfl) (by kernel_rfl) (by kernel_rfl) h
def z02j (s:Option Addr) (offset:Int):Prog :=
.ex [.adr] (c1 λa0=>s=some a0) (u1 λa1 =>
.read True (ld T.a15 (Addr.add a1 0)) sP (u1 λp2 =>
.call F.a24 [.pointer p2,.int .i64 offset] (.tup [.agg [.int .i64,.int .i64,.int .i64],.one .bool]) (u4 λ(n3 n4 n5:Int) b6 =>
.act (new T.a7) sA (u1 λa7 =>
.actU (st T.a7 a7 (.agg #[.int .i64 n3,.int .i64 n4,.int .i64 n5])) <|
.lt (.bool) (b6) λb8 =>
.ite (b8) (
.read True (ld T.a10 (Addr.add a7 1)) (sI .i64) (u1 λ(n9:Int) =>
.lt (.int .i64) (n9) λ(n10:Int) =>
.done 0 [.int .i64 n10])) (
.tick <|
.ex [.adr] (c1 λa11=>s=some a11) (u1 λa12 =>
.read True (ld T.a11 (Addr.add a12 1)) (sI .i64) (u1 λ(n13:Int) =>
.ex [.adr] (c1 λa14=>s=some a14) (u1 λa15 =>
.read True (ld T.a11 (Addr.add a15 2)) (sI .i64) (u1 λ(n16:Int) =>
.call F.a72 [.int .i64 n13,.int .i64 n16] sL (u1 λl17 =>
.lt (.int .i64) (((l17.len:Nat):Int)) λ(n18:Int) =>
.untick <|
.done 0 [.int .i64 n18]))))))))))
theorem zqh (s:Option Addr) (offset:Int) {w:World} {R:List Value->World->Prop} (h:(z02j s offset).wp P (λ_=>True) w λe vs w'=>e=0/\R vs w'):Ret P F.a76 #[.pointer s,.int .i64 offset] w R:=dS (n:=29) (rv:=[.tmp 4]) { cnd:=[],blk:=[],reg:=[],lps:=[] } [.val (.pointer s),.val (.int .i64 offset)] Go.Proofs.Tryz.func68 (by kernel_rfl) (by kernel_rfl) (by kernel_rfl) (by kernel_rfl) h
def z02g (b_0 b_1 b_2 b_3 b_4 b_5:Int) (b_6:Sl) (fv0 fv1:Option Addr) (fv2:Option Addr):Prog :=
.act (Instr.box T.a1 (.agg #[.int .i64 b_0,.int .i64 b_1,.int .i64 b_2,.int .i64 b_3,.int .i64 b_4,.int .i64 b_5,b_6.v])) sA (u1 λa0 =>
.read True (ld T.a1 a0) (sG [.int .i64,.int .i64,.int .i64,.int .i64,.int .i64,.int .i64,.slc]) (u7 λ(n1 n2 n3 n4 n5 n6:Int) l7 =>
.read True (Instr.loadAt T.a11 (.pointer fv0)) (sI .i64) (u1 λ(n8:Int) =>
.call F.a37 [.agg #[.int .i64 n1,.int .i64 n2,.int .i64 n3,.int .i64 n4,.int .i64 n5,.int .i64 n6,l7.v],.int .i64 n8] (.tup [.agg [.int .i64,.int .i64,.int .i64,.int .i64,.int .i64,.int .i64,.slc],.one .bool]) (u8 λ(n9 n10 n11 n12 n13 n14:Int) l15 b16 =>
.act (new T.a1) sA (u1 λa17 =>
.actU (st T.a1 a17 (.agg #[.int .i64 n9,.int .i64 n10,.int .i64 n11,.int .i64 n12,.int .i64 n13,.int .i64 n14,l15.v])) <|
.lt (.bool) (b16) λb18 =>
.bind 1 [] (
.ite (b18) (
.read True (Instr.loadAt T.a18 (.pointer fv1)) sL (u1 λl19 =>
.read True (ld T.a1 a17) (sG [.int .i64,.int .i64,.int .i64,.int .i64,.int .i64,.int .i64,.slc]) (u7 λ(n20 n21 n22 n23 n24 n25:Int) l26 =>
.act (Instr.buildSlice T.a18 1 #[(0,.agg #[.int .i64 n20,.int .i64 n21,.int .i64 n22,.int .i64 n23,.int .i64 n24,.int .i64 n25,l26.v])]) sL (u1 λl27 =>
.act (app T.a18 T.a18 T.a18 l19.v l27.v) sL (u1 λl28 =>
.actU (Instr.storeAt T.a18 (.pointer fv1) l28.v) <|
.done 1 []))))) (
.done 1 [])) (u0 <|
.read True (Instr.loadAt T.a18 (.pointer fv1)) sL (u1 λl29 =>
.read True (Instr.loadAt T.a10 (.pointer fv2)) (sI .i64) (u1 λ(n30:Int) =>
.lt (.bool) (decide (((l29.len:Nat):Int)<n30)) λb31 =>
.done 0 [.bool b31]))))))))
theorem zr6 (b_0 b_1 b_2 b_3 b_4 b_5:Int) (b_6:Sl) (fv0 fv1 fv2:Option Addr) {w:World} {R:List Value->World->Prop} (h:(z02g b_0 b_1 b_2 b_3 b_4 b_5 b_6 fv0 fv1 fv2).wp P (λ_=>True) w λe vs w'=>e=0/\R vs w'):Ret P F.a56 #[.agg #[.int .i64 b_0,.int .i64 b_1,.int .i64 b_2,.int .i64 b_3,.int .i64 b_4,.int .i64 b_5,.slice b_6.a b_6.len b_6.cap],.pointer fv0,.pointer fv1,.pointer fv2] w R:=dS (n:=23) (rv:=[.tmp 5]) { cnd:=[(2013265934,[])],blk:=[],reg:=[],lps:=[] } [.val (.agg #[.int .i64 b_0,.int .i64 b_1,.int .i64 b_2,.int .i64 b_3,.int .i64 b_4,.int .i64 b_5,.slice b_6.a b_6.len b_6.cap]),.val (.pointer fv0),.val (.pointer fv1),.val (.pointer fv2)] Go.Proofs.Tryz.func69 (by kernel_rfl) (by kernel_rfl) (by kernel_rfl) (by kernel_rfl) h
def z020 (b_0 b_1 b_2 b_3 b_4 b_5:Int) (b_6:Sl) (offset:Int):Prog :=
.act (Instr.box T.a1 (.agg #[.int .i64 b_0,.int .i64 b_1,.int .i64 b_2,.int .i64 b_3,.int .i64 b_4,.int .i64 b_5,b_6.v])) sA (u1 λa0 =>
.act (new T.a1) sA (u1 λa1 =>
.bind 1 [.one .bool] (
.read True (ld T.a1 a0) (sG [.int .i64,.int .i64,.int .i64,.int .i64,.int .i64,.int .i64,.slc]) (u7 λ(n2 n3 n4 n5 n6 n7:Int) l8 =>
.call F.a40 [.agg #[.int .i64 n2,.int .i64 n3,.int .i64 n4,.int .i64 n5,.int .i64 n6,.int .i64 n7,l8.v]] (sI .i64) (u1 λ(n9:Int) =>
.read ((n9 != 0)=false) (ld T.a1 a0) (sG [.int .i64,.int .i64,.int .i64,.int .i64,.int .i64,.int .i64,.slc]) (u7 λ(n10 n11 n12 n13 n14 n15:Int) l16 =>
.ite (n9 != 0) (
.done 1 [.bool true]) (
.call F.a38 [.agg #[.int .i64 n10,.int .i64 n11,.int .i64 n12,.int .i64 n13,.int .i64 n14,.int .i64 n15,l16.v]] (sI .i64) (u1 λ(n17:Int) =>
.lt (.bool) (decide (offset>=n17)) λb18 =>
.done 1 [.bool b18])))))) (u1 λb19 =>
.ite (b19) (
.actU (st T.a1 a1 (.agg #[.int .i64 0,.int .i64 0,.int .i64 0,.int .i64 0,.int .i64 0,.int .i64 0,.slice none 0 0])) <|
.read True (ld T.a1 a1) (sG [.int .i64,.int .i64,.int .i64,.int .i64,.int .i64,.int .i64,.slc]) (u7 λ(n20 n21 n22 n23 n24 n25:Int) l26 =>
.done 0 [.agg #[.int .i64 n20,.int .i64 n21,.int .i64 n22,.int .i64 n23,.int .i64 n24,.int .i64 n25,l26.v],.bool false])) (
.read True (ld T.a1 a0) (sG [.int .i64,.int .i64,.int .i64,.int .i64,.int .i64,.int .i64,.slc]) (u7 λ(n27 n28 n29 n30 n31 n32:Int) l33 =>
.call F.a43 [.agg #[.int .i64 n27,.int .i64 n28,.int .i64 n29,.int .i64 n30,.int .i64 n31,.int .i64 n32,l33.v]] sB (u1 λb34 =>
.read (b34=false) (ld T.a11 (Addr.add a0 0)) (sI .i64) (u1 λ(n35:Int) =>
.lt (.bool) (b34 || decide (offset<=n35)) λb36 =>
.ite (b36) (
.read True (ld T.a1 a0) (sG [.int .i64,.int .i64,.int .i64,.int .i64,.int .i64,.int .i64,.slc]) (u7 λ(n37 n38 n39 n40 n41 n42:Int) l43 =>
.call F.a34 [.agg #[.int .i64 n37,.int .i64 n38,.int .i64 n39,.int .i64 n40,.int .i64 n41,.int .i64 n42,l43.v]] (sG [.int .i64,.int .i64,.int .i64,.int .i64,.int .i64,.int .i64,.slc]) (u7 λ(n44 n45 n46 n47 n48 n49:Int) l50 =>
.actU (st T.a1 a1 (.agg #[.int .i64 n44,.int .i64 n45,.int .i64 n46,.int .i64 n47,.int .i64 n48,.int .i64 n49,l50.v])) <|
.read True (ld T.a1 a1) (sG [.int .i64,.int .i64,.int .i64,.int .i64,.int .i64,.int .i64,.slc]) (u7 λ(n51 n52 n53 n54 n55 n56:Int) l57 =>
.done 0 [.agg #[.int .i64 n51,.int .i64 n52,.int .i64 n53,.int .i64 n54,.int .i64 n55,.int .i64 n56,l57.v],.bool true])))) (
.read True (ld T.a1 a0) (sG [.int .i64,.int .i64,.int .i64,.int .i64,.int .i64,.int .i64,.slc]) (u7 λ(n58 n59 n60 n61 n62 n63:Int) l64 =>
.read True (ld T.a11 (Addr.add a0 0)) (sI .i64) (u1 λ(n65:Int) =>
.read True (ld T.a19 (Addr.add a0 6)) sL (u1 λl66 =>
.call F.a45 [.agg #[.int .i64 n58,.int .i64 n59,.int .i64 n60,.int .i64 n61,.int .i64 n62,.int .i64 n63,l64.v],.int .i64 (IntKind.wrap .i64 (offset-n65)),.int .i64 (((l66.len:Nat):Int))] (sG [.int .i64,.int .i64,.int .i64,.int .i64,.int .i64,.int .i64,.slc]) (u7 λ(n67 n68 n69 n70 n71 n72:Int) l73 =>
.actU (st T.a1 a1 (.agg #[.int .i64 n67,.int .i64 n68,.int .i64 n69,.int .i64 n70,.int .i64 n71,.int .i64 n72,l73.v])) <|
.read True (ld T.a1 a1) (sG [.int .i64,.int .i64,.int .i64,.int .i64,.int .i64,.int .i64,.slc]) (u7 λ(n74 n75 n76 n77 n78 n79:Int) l80 =>
.done 0 [.agg #[.int .i64 n74,.int .i64 n75,.int .i64 n76,.int .i64 n77,.int .i64 n78,.int .i64 n79,l80.v],.bool true])))))))))))))
theorem zrg (b_0 b_1 b_2 b_3 b_4 b_5:Int) (b_6:Sl) (offset:Int) {w:World} {R:List Value->World->Prop} (h:(z020 b_0 b_1 b_2 b_3 b_4 b_5 b_6 offset).wp P (λ_=>True) w λe vs w'=>e=0/\R vs w'):Ret P F.a37 #[.agg #[.int .i64 b_0,.int .i64 b_1,.int .i64 b_2,.int .i64 b_3,.int .i64 b_4,.int .i64 b_5,.slice b_6.a b_6.len b_6.cap],.int .i64 offset] w R:=dS (n:=37) (rv:=[.cell 4 38,.tmp 5]) { cnd:=[],blk:=[],reg:=[(1,[(6,.one .bool)])],lps:=[] } [.val (.agg #[.int .i64 b_0,.int .i64 b_1,.int .i64 b_2,.int .i64 b_3,.int .i64 b_4,.int .i64 b_5,.slice b_6.a b_6.len b_6.cap]),.val (.int .i64 offset)] Go.Proofs.Tryz.func70 (by kernel_rfl) (by kernel_rfl) (by kernel_rfl) (by kernel_rfl) h
def zwx (a_0 a_1 a_2 a_3 a_4 a_5:Int) (a_6:Sl) (b_0 b_1 b_2 b_3 b_4 b_5:Int) (b_6:Sl):Prog :=
.act (Instr.box T.a1 (.agg #[.int .i64 a_0,.int .i64 a_1,.int .i64 a_2,.int .i64 a_3,.int .i64 a_4,.int .i64 a_5,a_6.v])) sA (u1 λa0 =>
.act (Instr.box T.a1 (.agg #[.int .i64 b_0,.int .i64 b_1,.int .i64 b_2,.int .i64 b_3,.int .i64 b_4,.int .i64 b_5,b_6.v])) sA (u1 λa1 =>
.read True (ld T.a19 (Addr.add a0 6)) sL (u1 λl2 =>
.read True (ld T.a19 (Addr.add a1 6)) sL (u1 λl3 =>
.ite (((l2.len:Nat):Int) != ((l3.len:Nat):Int)) (
.done 0 [.bool false]) (
.read True (ld T.a19 (Addr.add a0 6)) sL (u1 λl4 =>
.bind 1 [] (
.loop 2 [.one (.int .i64)] (0,()) (u1 λ(n5:Int) =>
.ite (decide (n5<((l4.len:Nat):Int))) (
.lt (.int .i64) (n5) λ(n6:Int) =>
.tick <|
.read True (ld T.a19 (Addr.add a0 6)) sL (u1 λl7 =>
.ex [.adr] (c1 λa8=>0<=n6/\n6<((l7.len:Nat):Int)/\l7.a=some a8) (u1 λa9 =>
.read True (ld T.a3 (Addr.add a9 (Int.toNat n6*4))) (sG [.str,.str,.bool,.int .i64]) (u4 λs10 s11 b12 (n13:Int) =>
.read True (ld T.a19 (Addr.add a1 6)) sL (u1 λl14 =>
.ex [.adr] (c1 λa15=>0<=n6/\n6<((l14.len:Nat):Int)/\l14.a=some a15) (u1 λa16 =>
.read True (ld T.a3 (Addr.add a16 (Int.toNat n6*4))) (sG [.str,.str,.bool,.int .i64]) (u4 λs17 s18 b19 (n20:Int) =>
.untick <|
.ite (not (s10 == s17 && (s11 == s18 && (b12 == b19 && n13 == n20)))) (
.done 0 [.bool false]) (
.done 2 [.int .i64 (IntKind.wrap .i64 (n5+1))])))))))) (
.done 1 []))) (u0 <|
.read True (ld T.a11 (Addr.add a0 0)) (sI .i64) (u1 λ(n21:Int) =>
.read True (ld T.a11 (Addr.add a1 0)) (sI .i64) (u1 λ(n22:Int) =>
.read ((n21 == n22)=true) (ld T.a11 (Addr.add a0 1)) (sI .i64) (u1 λ(n23:Int) =>
.read ((n21 == n22)=true) (ld T.a11 (Addr.add a1 1)) (sI .i64) (u1 λ(n24:Int) =>
.read ((n21 == n22 && n23 == n24)=true) (ld T.a10 (Addr.add a0 2)) (sI .i64) (u1 λ(n25:Int) =>
.read ((n21 == n22 && n23 == n24)=true) (ld T.a10 (Addr.add a1 2)) (sI .i64) (u1 λ(n26:Int) =>
.read ((n21 == n22 && n23 == n24 && n25 == n26)=true) (ld T.a10 (Addr.add a0 3)) (sI .i64) (u1 λ(n27:Int) =>
.read ((n21 == n22 && n23 == n24 && n25 == n26)=true) (ld T.a10 (Addr.add a1 3)) (sI .i64) (u1 λ(n28:Int) =>
.read ((n21 == n22 && n23 == n24 && n25 == n26 && n27 == n28)=true) (ld T.a10 (Addr.add a0 4)) (sI .i64) (u1 λ(n29:Int) =>
.read ((n21 == n22 && n23 == n24 && n25 == n26 && n27 == n28)=true) (ld T.a10 (Addr.add a1 4)) (sI .i64) (u1 λ(n30:Int) =>
.read ((n21 == n22 && n23 == n24 && n25 == n26 && n27 == n28 && n29 == n30)=true) (ld T.a11 (Addr.add a0 5)) (sI .i64) (u1 λ(n31:Int) =>
.read ((n21 == n22 && n23 == n24 && n25 == n26 && n27 == n28 && n29 == n30)=true) (ld T.a11 (Addr.add a1 5)) (sI .i64) (u1 λ(n32:Int) =>
.lt (.bool) (n21 == n22 && n23 == n24 && n25 == n26 && n27 == n28 && n29 == n30 && n31 == n32) λb33 =>
.done 0 [.bool b33])))))))))))))))))))
theorem zms (a_0 a_1 a_2 a_3 a_4 a_5:Int) (a_6:Sl) (b_0 b_1 b_2 b_3 b_4 b_5:Int) (b_6:Sl) {w:World} {R:List Value->World->Prop} (h:(zwx a_0 a_1 a_2 a_3 a_4 a_5 a_6 b_0 b_1 b_2 b_3 b_4 b_5 b_6).wp P (λ_=>True) w λe vs w'=>e=0/\R vs w'):Ret P F.a126 #[.agg #[.int .i64 a_0,.int .i64 a_1,.int .i64 a_2,.int .i64 a_3,.int .i64 a_4,.int .i64 a_5,.slice a_6.a a_6.len a_6.cap],.agg #[.int .i64 b_0,.int .i64 b_1,.int .i64 b_2,.int .i64 b_3,.int .i64 b_4,.int .i64 b_5,.slice b_6.a b_6.len b_6.cap]] w R:=dS (n:=71) (rv:=[.tmp 4]) { cnd:=[],blk:=[(0,[])],reg:=[],lps:=[(0,[(16,.one (.int .i64))])] } [.val (.agg #[.int .i64 a_0,.int .i64 a_1,.int .i64 a_2,.int .i64 a_3,.int .i64 a_4,.int .i64 a_5,.slice a_6.a a_6.len a_6.cap]),.val (.agg #[.int .i64 b_0,.int .i64 b_1,.int .i64 b_2,.int .i64 b_3,.int .i64 b_4,.int .i64 b_5,.slice b_6.a b_6.len b_6.cap])] Go.Proofs.Tryz.func71 (by kernel_rfl) (by kernel_rfl) (by kernel_rfl) (by kernel_rfl) h
def z005 (c_0:Int) (c_1:Int):Prog :=
.act (Instr.box T.a28 (.agg #[.int .i64 c_0,.int .i64 c_1])) sA (u1 λa0 =>
.read True (ld T.a10 (Addr.add a0 0)) (sI .i64) (u1 λ(n1:Int) =>
.read (decide (n1>=64)=true) (ld T.a10 (Addr.add a0 0)) (sI .i64) (u1 λ(n2:Int) =>
.read ((decide (n1>=64) && decide (n2<=4194304))=true) (ld T.a10 (Addr.add a0 1)) (sI .i64) (u1 λ(n3:Int) =>
.read ((decide (n1>=64) && decide (n2<=4194304) && decide (n3>=1))=true) (ld T.a10 (Addr.add a0 1)) (sI .i64) (u1 λ(n4:Int) =>
.lt (.bool) (decide (n1>=64) && decide (n2<=4194304) && decide (n3>=1) && decide (n4<=4194304)) λb5 =>
.done 0 [.bool b5])))))
theorem zq8 (c_0 c_1:Int) {w:World} {R:List Value->World->Prop} (h:(z005 c_0 c_1).wp P (λ_=>True) w λe vs w'=>e=0/\R vs w'):Ret P F.a75 #[.agg #[.int .i64 c_0,.int .i64 c_1]] w R:=dS (n:=21) (rv:=[.tmp 2]) { cnd:=[],blk:=[],reg:=[],lps:=[] } [.val (.agg #[.int .i64 c_0,.int .i64 c_1])] Go.Proofs.Tryz.func72 (by kernel_rfl) (by kernel_rfl) (by kernel_rfl) (by kernel_rfl) h
def z02o (l:Option Addr):Prog :=
.tick <|
.ex [.adr] (c1 λa0=>l=some a0) (u1 λa1 =>
.read True (ld T.a13 (Addr.add a1 0)) sP (u1 λp2 =>
.ex [.adr] (c1 λa3=>l=some a3) (u1 λa4 =>
.read True (ld T.a32 (Addr.add a4 1)) sS (u1 λs5 =>
.must (((ByteArray.size s5+1:Nat):Int)<=9223372036854775807) <|
.call F.a7 [.pointer p2,.string (s5++(ByteArray.mk #[45]))] sL (u1 λl6 =>
.untick <|
.bind 1 [.one .slc] (
.loop 2 [.one .slc,.one (.int .i64)] (⟨none,0,0⟩,(0,())) (u2 λl7 (n8:Int) =>
.ite (decide (n8<((l6.len:Nat):Int))) (
.ex [.adr] (c1 λa9=>0<=n8/\n8<((l6.len:Nat):Int)/\l6.a=some a9) (u1 λa10 =>
.read True (ld T.a32 (Addr.add a10 (Int.toNat n8*1))) sS (u1 λs11 =>
.lt (.str) (s11) λs12 =>
.call F.a59 [.pointer l,.string s12,.string (ByteArray.mk #[46,108,111,103])] (.tup [.one (.int .i64),.one .bool]) (u2 λ(n13:Int) b14 =>
.lt (.int .i64) (n13) λ(n15:Int) =>
.lt (.bool) (b14) λb16 =>
.bind 3 [.one .slc] (
.ite (b16) (
.act (Instr.buildSlice T.a21 1 #[(0,.int .i64 n15)]) sL (u1 λl17 =>
.act (app T.a21 T.a21 T.a21 l7.v l17.v) sL (u1 λl18 =>
.done 3 [l18.v]))) (
.done 3 [l7.v])) (u1 λl19 =>
.call F.a59 [.pointer l,.string s12,.string (ByteArray.mk #[46,110,101,119])] (.tup [.one (.int .i64),.one .bool]) (u2 λ(n20:Int) b21 =>
.lt (.int .i64) (n20) λ(n22:Int) =>
.lt (.bool) (b21) λb23 =>
.bind 3 [] (
.ite (b23) (
.ex [.adr] (c1 λa24=>l=some a24) (u1 λa25 =>
.read True (ld T.a13 (Addr.add a25 0)) sP (u1 λp26 =>
.call F.a9 [.pointer p26,.string s12] (sI .i64) (u1 λ(n27:Int) =>
.lt (.int .i64) (n27) λ(n28:Int) =>
.ite (n28 != 0) (
.lt (.int .i64) (n28) λ(n29:Int) =>
.done 0 [.slice none 0 0,.int .i64 n29]) (
.done 3 []))))) (
.done 3 [])) (u0 <|
.done 2 [l19.v,.int .i64 (IntKind.wrap .i64 (n8+1))]))))))) (
.done 1 [l7.v]))) (u1 λl30 =>
.done 0 [l30.v,.int .i64 0]))))))
theorem zrc (l:Option Addr) {w:World} {R:List Value->World->Prop} (h:(z02o l).wp P (λ_=>True) w λe vs w'=>e=0/\R vs w'):Ret P F.a61 #[.pointer l] w R:=dS (n:=56) (rv:=[.tmp 2,.tmp 3]) { cnd:=[(1055531162730529,[(4,.one .slc)]),(73642861106770788396,[])],blk:=[(0,[(4,.one .slc)])],reg:=[],lps:=[(0,[(4,.one .slc),(23,.one (.int .i64))])] } [.val (.pointer l)] Go.Proofs.Tryz.func73 (by kernel_rfl) (by kernel_rfl) (by kernel_rfl) (by kernel_rfl) h
def z03d (l:Option Addr) (base:Int) (end_:ByteArray):Prog :=
.act (Instr.makeSlice T.a27 (.int .i64 11) (.int .i64 11)) sL (u1 λl0 =>
.bind 1 [] (
.loop 2 [.one (.int .i64),.one (.int .i64)] (base,(10,())) (u2 λ(n1 n2:Int) =>
.ite (decide (n2>=0)) (
.must (0<=IntKind.wrap .i64 (((BitVec.toNat (BitVec.ofInt 64 n1 &&& BitVec.ofInt 64 15):Nat):Int))/\IntKind.wrap .i64 (((BitVec.toNat (BitVec.ofInt 64 n1 &&& BitVec.ofInt 64 15):Nat):Int))<16) <|
.ex [.adr] (c1 λa3=>0<=n2/\n2<((l0.len:Nat):Int)/\l0.a=some a3) (u1 λa4 =>
.actU (st T.a38 (Addr.add a4 (Int.toNat n2*1)) (.int .u8 (bt (ByteArray.mk #[48,49,50,51,52,53,54,55,56,57,97,98,99,100,101,102]) (IntKind.wrap .i64 (((BitVec.toNat (BitVec.ofInt 64 n1 &&& BitVec.ofInt 64 15):Nat):Int)))))) <|
.lt (.int .i64) (Int.fdiv n1 16) λ(n5:Int) =>
.lt (.int .i64) (IntKind.wrap .i64 (n2-1)) λ(n6:Int) =>
.done 2 [.int .i64 n5,.int .i64 n6])) (
.done 1 []))) (u0 <|
.tick <|
.ex [.adr] (c1 λa7=>l=some a7) (u1 λa8 =>
.read True (ld T.a32 (Addr.add a8 1)) sS (u1 λs9 =>
.must (((ByteArray.size s9+1:Nat):Int)<=9223372036854775807) <|
.read True (convert T.a27 T.a32 l0.v) sS (u1 λs10 =>
.must (((ByteArray.size (s9++(ByteArray.mk #[45]))+ByteArray.size s10:Nat):Int)<=9223372036854775807) <|
.must (((ByteArray.size (s9++(ByteArray.mk #[45])++s10)+ByteArray.size end_:Nat):Int)<=9223372036854775807) <|
.lt (.str) (s9++(ByteArray.mk #[45])++s10++end_) λs11 =>
.untick <|
.done 0 [.string s11])))))
theorem zrz (l:Option Addr) (base:Int) (end_:ByteArray) {w:World} {R:List Value->World->Prop} (h:(z03d l base end_).wp P (λ_=>True) w λe vs w'=>e=0/\R vs w'):Ret P F.a64 #[.pointer l,.int .i64 base,.string end_] w R:=dS (n:=32) (rv:=[.tmp 6]) { cnd:=[],blk:=[(0,[])],reg:=[],lps:=[(0,[(1,.one (.int .i64)),(8,.one (.int .i64))])] } [.val (.pointer l),.val (.int .i64 base),.val (.string end_)] Go.Proofs.Tryz.func75 (by kernel_rfl) (by kernel_rfl) (by kernel_rfl) (by kernel_rfl) h
def z01c (l:Option Addr) (base:Int):Prog :=
.call F.a64 [.pointer l,.int .i64 base,.string (ByteArray.mk #[46,108,111,103])] sS (u1 λs0 =>
.lt (.str) (s0) λs1 =>
.ex [.adr] (c1 λa2=>l=some a2) (u1 λa3 =>
.read True (ld T.a13 (Addr.add a3 0)) sP (u1 λp4 =>
.call F.a8 [.pointer p4,.string s1] (.tup [.one .slc,.one (.int .i64)]) (u2 λl5 (n6:Int) =>
.lt (.int .i64) (n6) λ(n7:Int) =>
.ite (n7 != 0) (
.lt (.int .i64) (n7) λ(n8:Int) =>
.done 0 [.bool false,.int .i64 n8]) (
.call F.a18 [l5.v] (.tup [.one .slc,.one (.int .i64),.one .bool]) (u3 λl9 (n10:Int) b11 =>
.lt (.int .i64) (n10) λ(n12:Int) =>
.lt (.bool) (b11) λb13 =>
.bind 1 [.one (.int .i64),.one .bool] (
.ite (b13) (
.call F.a73 [l9.v,.int .i64 base] (.tup [.one (.int .i64),.one .bool]) (u2 λ(n14:Int) b15 =>
.lt (.int .i64) (n14) λ(n16:Int) =>
.lt (.bool) (b15) λb17 =>
.done 1 [.int .i64 n16,.bool b17])) (
.done 1 [.int .i64 0,.bool false])) (u2 λ(n18:Int) b19 =>
.ite (not b19) (
.ex [.adr] (c1 λa20=>l=some a20) (u1 λa21 =>
.read True (ld T.a13 (Addr.add a21 0)) sP (u1 λp22 =>
.call F.a9 [.pointer p22,.string s1] (sI .i64) (u1 λ(n23:Int) =>
.lt (.int .i64) (n23) λ(n24:Int) =>
.done 0 [.bool false,.int .i64 n24])))) (
.call F.a68 [.pointer l,.int .i64 base,.int .i64 n18] sP (u1 λp25 =>
.lt (.int .i64) (base) λ(n26:Int) =>
.bind 1 [.one (.int .i64)] (
.loop 2 [.one (.int .i64),.one (.int .i64)] (n12,(n26,())) (u2 λ(n27 n28:Int) =>
.must (0<=n27/\n27<=((l5.len:Nat):Int)) <|
.call F.a18 [.slice (z1g l5.a 1 (Int.toNat n27) l5.cap) (l5.len-Int.toNat n27) (l5.cap-Int.toNat n27)] (.tup [.one .slc,.one (.int .i64),.one .bool]) (u3 λl29 (n30:Int) b31 =>
.lt (.int .i64) (n30) λ(n32:Int) =>
.lt (.bool) (b31) λb33 =>
.ite (not b33) (
.done 1 [.int .i64 n27]) (
.call F.a35 [l29.v] (.tup [.agg [.int .i64,.int .i64,.int .i64,.int .i64,.int .i64,.int .i64,.slc],.one (.int .i64)]) (u8 λ(n34 n35 n36 n37 n38 n39:Int) l40 (n41:Int) =>
.act (new T.a1) sA (u1 λa42 =>
.actU (st T.a1 a42 (.agg #[.int .i64 n34,.int .i64 n35,.int .i64 n36,.int .i64 n37,.int .i64 n38,.int .i64 n39,l40.v])) <|
.lt (.int .i64) (n41) λ(n43:Int) =>
.read ((n43 != 0)=false) (ld T.a11 (Addr.add a42 0)) (sI .i64) (u1 λ(n44:Int) =>
.ite (n43 != 0 || decide (n44<n28)) (
.done 1 [.int .i64 n27]) (
.read True (ld T.a1 a42) (sG [.int .i64,.int .i64,.int .i64,.int .i64,.int .i64,.int .i64,.slc]) (u7 λ(n45 n46 n47 n48 n49 n50:Int) l51 =>
.call F.a78 [.pointer p25,.agg #[.int .i64 n45,.int .i64 n46,.int .i64 n47,.int .i64 n48,.int .i64 n49,.int .i64 n50,l51.v],.int .i64 n32] (.tup []) (u0 <|
.ex [.adr] (c1 λa52=>p25=some a52) (u1 λa53 =>
.read True (ld T.a11 (Addr.add a53 3)) (sI .i64) (u1 λ(n54:Int) =>
.lt (.int .i64) (n54) λ(n55:Int) =>
.lt (.int .i64) (IntKind.wrap .i64 (n27+n32)) λ(n56:Int) =>
.done 2 [.int .i64 n56,.int .i64 n55])))))))))))) (u1 λ(n57:Int) =>
.call F.a66 [.pointer l,.pointer p25] (.tup []) (u0 <|
.ite (n57 == ((l5.len:Nat):Int)) (
.done 0 [.bool true,.int .i64 0]) (
.ex [.adr] (c1 λa58=>l=some a58) (u1 λa59 =>
.read True (ld T.a13 (Addr.add a59 0)) sP (u1 λp60 =>
.call F.a4 [.pointer p60,.string s1,.int .i64 n57] (sI .i64) (u1 λ(n61:Int) =>
.lt (.int .i64) (n61) λ(n62:Int) =>
.done 0 [.bool false,.int .i64 n62])))))))))))))))
theorem zpp (l:Option Addr) (base:Int) {w:World} {R:List Value->World->Prop} (h:(z01c l base).wp P (λ_=>True) w λe vs w'=>e=0/\R vs w'):Ret P F.a67 #[.pointer l,.int .i64 base] w R:=dS (n:=110) (rv:=[.tmp 4,.tmp 5]) { cnd:=[(2269814212245061674,[(12,.one (.int .i64)),(13,.one .bool)])],blk:=[(0,[(10,.one (.int .i64))])],reg:=[],lps:=[(0,[(10,.one (.int .i64)),(15,.one (.int .i64))])] } [.val (.pointer l),.val (.int .i64 base)] Go.Proofs.Tryz.func76 (by kernel_rfl) (by kernel_rfl) (by kernel_rfl) (by kernel_rfl) h
def z036 (l:Option Addr) (bases:Sl):Prog :=
.bind 1 [] (
.loop 2 [.one (.int .i64)] (0,()) (u1 λ(n0:Int) =>
.ite (decide (n0<((bases.len:Nat):Int))) (
.ex [.adr] (c1 λa1=>0<=n0/\n0<((bases.len:Nat):Int)/\bases.a=some a1) (u1 λa2 =>
.read True (ld T.a11 (Addr.add a2 (Int.toNat n0*1))) (sI .i64) (u1 λ(n3:Int) =>
.lt (.int .i64) (n3) λ(n4:Int) =>
.bind 3 [.one (.int .i64)] (
.tick <|
.ex [.adr] (c1 λa5=>l=some a5) (u1 λa6 =>
.hold True (ld T.a13 (Addr.add a6 0)) sP (u1 λp7 =>
.call F.a64 [.pointer l,.int .i64 n4,.string (ByteArray.mk #[46,108,111,103])] sS (u1 λs8 =>
.untick <|
.call F.a9 [.pointer p7,.string s8] (sI .i64) (u1 λ(n9:Int) =>
.lt (.int .i64) (n9) λ(n10:Int) =>
.untick <|
.done 3 [.int .i64 n10]))))) (u1 λ(n11:Int) =>
.ite (n11 != 0) (
.lt (.int .i64) (n11) λ(n12:Int) =>
.done 0 [.int .i64 n12]) (
.done 2 [.int .i64 (IntKind.wrap .i64 (n0+1))]))))) (
.done 1 []))) (u0 <|
.done 0 [.int .i64 0])
theorem zp0 (l:Option Addr) (bases:Sl) {w:World} {R:List Value->World->Prop} (h:(z036 l bases).wp P (λ_=>True) w λe vs w'=>e=0/\R vs w'):Ret P F.a60 #[.pointer l,.slice bases.a bases.len bases.cap] w R:=dS (n:=26) (rv:=[.tmp 4]) { cnd:=[],blk:=[(0,[])],reg:=[(4,[(7,.one (.int .i64))])],lps:=[(0,[(10,.one (.int .i64))])] } [.val (.pointer l),.val (.slice bases.a bases.len bases.cap)] Go.Proofs.Tryz.func77 (by kernel_rfl) (by kernel_rfl) (by kernel_rfl) (by kernel_rfl) h
def z01b (l:Option Addr) (bs:Sl):Prog :=
.call F.a53 [.pointer l] (sI .i64) (u1 λ(n0:Int) =>
.lt (.int .i64) (n0) λ(n1:Int) =>
.bind 1 [.one .slc,.one .slc] (
.loop 2 [.one (.int .i64),.one .slc,.one .slc,.one (.int .i64)] (n1,(⟨none,0,0⟩,(⟨none,0,0⟩,(0,())))) (u4 λ(n2:Int) l3 l4 (n5:Int) =>
.ite (decide (n5<((bs.len:Nat):Int))) (
.ex [.adr] (c1 λa6=>0<=n5/\n5<((bs.len:Nat):Int)/\bs.a=some a6) (u1 λa7 =>
.read True (ld T.a1 (Addr.add a7 (Int.toNat n5*7))) (sG [.int .i64,.int .i64,.int .i64,.int .i64,.int .i64,.int .i64,.slc]) (u7 λ(n8 n9 n10 n11 n12 n13:Int) l14 =>
.act (new T.a1) sA (u1 λa15 =>
.actU (st T.a1 a15 (.agg #[.int .i64 n8,.int .i64 n9,.int .i64 n10,.int .i64 n11,.int .i64 n12,.int .i64 n13,l14.v])) <|
.actU (st T.a11 (Addr.add a15 0) (.int .i64 n2)) <|
.read True (ld T.a1 a15) (sG [.int .i64,.int .i64,.int .i64,.int .i64,.int .i64,.int .i64,.slc]) (u7 λ(n16 n17 n18 n19 n20 n21:Int) l22 =>
.call F.a36 [.agg #[.int .i64 n16,.int .i64 n17,.int .i64 n18,.int .i64 n19,.int .i64 n20,.int .i64 n21,l22.v]] (.tup [.one .slc,.one (.int .i64)]) (u2 λl23 (n24:Int) =>
.lt (.int .i64) (n24) λ(n25:Int) =>
.ite (n25 != 0) (
.lt (.int .i64) (n25) λ(n26:Int) =>
.done 0 [.slice none 0 0,.slice none 0 0,.int .i64 n26]) (
.read True (ld T.a1 a15) (sG [.int .i64,.int .i64,.int .i64,.int .i64,.int .i64,.int .i64,.slc]) (u7 λ(n27 n28 n29 n30 n31 n32:Int) l33 =>
.act (Instr.buildSlice T.a18 1 #[(0,.agg #[.int .i64 n27,.int .i64 n28,.int .i64 n29,.int .i64 n30,.int .i64 n31,.int .i64 n32,l33.v])]) sL (u1 λl34 =>
.act (app T.a18 T.a18 T.a18 l3.v l34.v) sL (u1 λl35 =>
.act (Instr.buildSlice T.a23 1 #[(0,l23.v)]) sL (u1 λl36 =>
.call F.a20 [l36.v] sL (u1 λl37 =>
.act (Instr.buildSlice T.a23 1 #[(0,l37.v)]) sL (u1 λl38 =>
.act (app T.a23 T.a23 T.a23 l4.v l38.v) sL (u1 λl39 =>
.read True (ld T.a1 a15) (sG [.int .i64,.int .i64,.int .i64,.int .i64,.int .i64,.int .i64,.slc]) (u7 λ(n40 n41 n42 n43 n44 n45:Int) l46 =>
.call F.a38 [.agg #[.int .i64 n40,.int .i64 n41,.int .i64 n42,.int .i64 n43,.int .i64 n44,.int .i64 n45,l46.v]] (sI .i64) (u1 λ(n47:Int) =>
.lt (.int .i64) (n47) λ(n48:Int) =>
.done 2 [.int .i64 n48,l35.v,l39.v,.int .i64 (IntKind.wrap .i64 (n5+1))])))))))))))))))) (
.done 1 [l3.v,l4.v]))) (u2 λl49 l50 =>
.done 0 [l49.v,l50.v,.int .i64 0]))
theorem zpd (l:Option Addr) (bs:Sl) {w:World} {R:List Value->World->Prop} (h:(z01b l bs).wp P (λ_=>True) w λe vs w'=>e=0/\R vs w'):Ret P F.a65 #[.pointer l,.slice bs.a bs.len bs.cap] w R:=dS (n:=47) (rv:=[.tmp 4,.tmp 5,.tmp 6]) { cnd:=[],blk:=[(0,[(8,.one .slc),(9,.one .slc)])],reg:=[],lps:=[(0,[(7,.one (.int .i64)),(8,.one .slc),(9,.one .slc),(18,.one (.int .i64))])] } [.val (.pointer l),.val (.slice bs.a bs.len bs.cap)] Go.Proofs.Tryz.func78 (by kernel_rfl) (by kernel_rfl) (by kernel_rfl) (by kernel_rfl) h
def z017 (l:Option Addr) (n:Int):Prog :=
.call F.a63 [.pointer l] sP (u1 λp0 =>
.tick <|
.ex [.adr] (c1 λa1=>not (Option.isNone p0)=true->p0=some a1) (u1 λa2 =>
.read (not (Option.isNone p0)=true) (ld T.a11 (Addr.add a2 3)) (sI .i64) (u1 λ(n3:Int) =>
.ex [.adr] (c1 λa4=>not (Option.isNone p0)=true/\(n3 == 0)=false->p0=some a4) (u1 λa5 =>
.read (not (Option.isNone p0)=true/\(n3 == 0)=false) (ld T.a10 (Addr.add a5 5)) (sI .i64) (u1 λ(n6:Int) =>
.ex [.adr] (c1 λa7=>not (Option.isNone p0)=true/\(n3 == 0)=false->l=some a7) (u1 λa8 =>
.read (not (Option.isNone p0)=true/\(n3 == 0)=false) (ld T.a10 (Addr.add (Addr.add a8 2) 0)) (sI .i64) (u1 λ(n9:Int) =>
.lt (.bool) (not (Option.isNone p0) && (n3 == 0 || decide (IntKind.wrap .i64 (n6+n)<=n9))) λb10 =>
.untick <|
.done 0 [.bool b10])))))))
theorem zqq (l:Option Addr) (n:Int) {w:World} {R:List Value->World->Prop} (h:(z017 l n).wp P (λ_=>True) w λe vs w'=>e=0/\R vs w'):Ret P F.a62 #[.pointer l,.int .i64 n] w R:=dS (n:=31) (rv:=[.tmp 4]) { cnd:=[],blk:=[],reg:=[],lps:=[] } [.val (.pointer l),.val (.int .i64 n)] Go.Proofs.Tryz.func79 (by kernel_rfl) (by kernel_rfl) (by kernel_rfl) (by kernel_rfl) h
def z01g (l:Option Addr) (base:Int) (end_:Int):Prog :=
.ex [.adr] (c1 λa0=>l=some a0) (u1 λa1 =>
.read True (ld T.a10 (Addr.add (Addr.add a1 2) 1)) (sI .i64) (u1 λ(n2:Int) =>
.call F.a28 [.int .i64 n2] (.tup [.one .ptr,.one (.int .i64)]) (u2 λp3 (n4:Int) =>
.lt (.int .i64) (n4) λ(n5:Int) =>
.call F.a72 [.int .i64 base,.int .i64 end_] sL (u1 λl6 =>
.act (Instr.box T.a30 (.agg #[.pointer p3,.int .i64 base,.int .i64 end_,.int .i64 0,.int .i64 (-1),.int .i64 (((l6.len:Nat):Int))])) sA (u1 λa7 =>
.done 0 [.pointer (some a7)])))))
theorem zqw (l:Option Addr) (base end_:Int) {w:World} {R:List Value->World->Prop} (h:(z01g l base end_).wp P (λ_=>True) w λe vs w'=>e=0/\R vs w'):Ret P F.a68 #[.pointer l,.int .i64 base,.int .i64 end_] w R:=dS (n:=27) (rv:=[.tmp 6]) { cnd:=[],blk:=[],reg:=[],lps:=[] } [.val (.pointer l),.val (.int .i64 base),.val (.int .i64 end_)] Go.Proofs.Tryz.func80 (by kernel_rfl) (by kernel_rfl) (by kernel_rfl) (by kernel_rfl) h
def z022 (base:Int) (end_:Int):Prog :=
.act (Instr.buildSlice T.a27 1 #[(0,.int .u8 83)]) sL (u1 λl0 =>
.call F.a159 [.int .u64 (IntKind.wrap .u64 base)] sL (u1 λl1 =>
.call F.a159 [.int .u64 (IntKind.wrap .u64 end_)] sL (u1 λl2 =>
.act (Instr.buildSlice T.a23 3 #[(0,l0.v),(1,l1.v),(2,l2.v)]) sL (u1 λl3 =>
.call F.a20 [l3.v] sL (u1 λl4 =>
.done 0 [l4.v])))))
theorem zrh (base end_:Int) {w:World} {R:List Value->World->Prop} (h:(z022 base end_).wp P (λ_=>True) w λe vs w'=>e=0/\R vs w'):Ret P F.a72 #[.int .i64 base,.int .i64 end_] w R:=dS (n:=14) (rv:=[.tmp 4]) { cnd:=[],blk:=[],reg:=[],lps:=[] } [.val (.int .i64 base),.val (.int .i64 end_)] Go.Proofs.Tryz.func81 (by kernel_rfl) (by kernel_rfl) (by kernel_rfl) (by kernel_rfl) h
def z00t (l:Option Addr) (s:Option Addr):Prog :=
.ex [.adr] (c1 λa0=>l=some a0) (u1 λa1 =>
.read True (ld T.a22 (Addr.add a1 4)) sL (u1 λl2 =>
.act (Instr.buildSlice T.a22 1 #[(0,.pointer s)]) sL (u1 λl3 =>
.act (app T.a22 T.a22 T.a22 l2.v l3.v) sL (u1 λl4 =>
.ex [.adr] (c1 λa5=>l=some a5) (u1 λa6 =>
.actU (st T.a22 (Addr.add a6 4) l4.v) <|
.done 0 [])))))
theorem zr5 (l s:Option Addr) {w:World} {R:List Value->World->Prop} (h:(z00t l s).wp P (λ_=>True) w λe vs w'=>e=0/\R vs w'):Ret P F.a66 #[.pointer l,.pointer s] w R:=dS (n:=16) (rv:=[]) { cnd:=[],blk:=[],reg:=[],lps:=[] } [.val (.pointer l),.val (.pointer s)] Go.Proofs.Tryz.func82 (by kernel_rfl) (by kernel_rfl) (by kernel_rfl) (by kernel_rfl) h
def z00s (s:Option Addr) (b_0 b_1 b_2 b_3 b_4 b_5:Int) (b_6:Sl) (size:Int):Prog :=
.act (Instr.box T.a1 (.agg #[.int .i64 b_0,.int .i64 b_1,.int .i64 b_2,.int .i64 b_3,.int .i64 b_4,.int .i64 b_5,b_6.v])) sA (u1 λa0 =>
.read True (ld T.a1 a0) (sG [.int .i64,.int .i64,.int .i64,.int .i64,.int .i64,.int .i64,.slc]) (u7 λ(n1 n2 n3 n4 n5 n6:Int) l7 =>
.call F.a74 [.agg #[.int .i64 n1,.int .i64 n2,.int .i64 n3,.int .i64 n4,.int .i64 n5,.int .i64 n6,l7.v]] (sI .i64) (u1 λ(n8:Int) =>
.lt (.int .i64) (n8) λ(n9:Int) =>
.tick <|
.ex [.adr] (c1 λa10=>s=some a10) (u1 λa11 =>
.read True (ld T.a15 (Addr.add a11 0)) sP (u1 λp12 =>
.read True (ld T.a11 (Addr.add a0 0)) (sI .i64) (u1 λ(n13:Int) =>
.ex [.adr] (c1 λa14=>s=some a14) (u1 λa15 =>
.read True (ld T.a10 (Addr.add a15 5)) (sI .i64) (u1 λ(n16:Int) =>
.call F.a26 [.pointer p12,.int .i64 n13,.int .i64 n16,.int .i64 n9] (sI .i64) (u1 λ(n17:Int) =>
.untick <|
.read True (ld T.a1 a0) (sG [.int .i64,.int .i64,.int .i64,.int .i64,.int .i64,.int .i64,.slc]) (u7 λ(n18 n19 n20 n21 n22 n23:Int) l24 =>
.call F.a38 [.agg #[.int .i64 n18,.int .i64 n19,.int .i64 n20,.int .i64 n21,.int .i64 n22,.int .i64 n23,l24.v]] (sI .i64) (u1 λ(n25:Int) =>
.ex [.adr] (c1 λa26=>s=some a26) (u1 λa27 =>
.actU (st T.a11 (Addr.add a27 3) (.int .i64 n25)) <|
.ex [.adr] (c1 λa28=>s=some a28) (u1 λa29 =>
.read True (ld T.a11 (Addr.add a29 4)) (sI .i64) (u1 λ(n30:Int) =>
.ex [.adr] (c1 λa31=>s=some a31) (u1 λa32 =>
.actU (st T.a11 (Addr.add a32 4) (.int .i64 (if n9>n30 then n9 else n30))) <|
.ex [.adr] (c1 λa33=>s=some a33) (u1 λa34 =>
.read True (ld T.a10 (Addr.add a34 5)) (sI .i64) (u1 λ(n35:Int) =>
.ex [.adr] (c1 λa36=>s=some a36) (u1 λa37 =>
.actU (st T.a10 (Addr.add a37 5) (.int .i64 (IntKind.wrap .i64 (n35+size)))) <|
.done 0 []))))))))))))))))))
theorem zqd (s:Option Addr) (b_0 b_1 b_2 b_3 b_4 b_5:Int) (b_6:Sl) (size:Int) {w:World} {R:List Value->World->Prop} (h:(z00s s b_0 b_1 b_2 b_3 b_4 b_5 b_6 size).wp P (λ_=>True) w λe vs w'=>e=0/\R vs w'):Ret P F.a78 #[.pointer s,.agg #[.int .i64 b_0,.int .i64 b_1,.int .i64 b_2,.int .i64 b_3,.int .i64 b_4,.int .i64 b_5,.slice b_6.a b_6.len b_6.cap],.int .i64 size] w R:=dS (n:=43) (rv:=[]) { cnd:=[],blk:=[],reg:=[],lps:=[] } [.val (.pointer s),.val (.agg #[.int .i64 b_0,.int .i64 b_1,.int .i64 b_2,.int .i64 b_3,.int .i64 b_4,.int .i64 b_5,.slice b_6.a b_6.len b_6.cap]),.val (.int .i64 size)] Go.Proofs.Tryz.func83 (by kernel_rfl) (by kernel_rfl) (by kernel_rfl) (by kernel_rfl) h
def zxz (b_0 b_1 b_2 b_3 b_4 b_5:Int) (b_6:Sl):Prog :=
.act (Instr.box T.a1 (.agg #[.int .i64 b_0,.int .i64 b_1,.int .i64 b_2,.int .i64 b_3,.int .i64 b_4,.int .i64 b_5,b_6.v])) sA (u1 λa0 =>
.read True (ld T.a1 a0) (sG [.int .i64,.int .i64,.int .i64,.int .i64,.int .i64,.int .i64,.slc]) (u7 λ(n1 n2 n3 n4 n5 n6:Int) l7 =>
.call F.a129 [.agg #[.int .i64 n1,.int .i64 n2,.int .i64 n3,.int .i64 n4,.int .i64 n5,.int .i64 n6,l7.v]] (sI .i64) (u1 λ(n8:Int) =>
.lt (.int .i64) (n8) λ(n9:Int) =>
.ite (n9 != 0) (
.lt (.int .i64) (n9) λ(n10:Int) =>
.done 0 [.slice none 0 0,.int .i64 n10]) (
.read True (ld T.a10 (Addr.add a0 4)) (sI .i64) (u1 λ(n11:Int) =>
.act (Instr.buildSlice T.a27 2 #[(0,.int .u8 1),(1,.int .u8 (IntKind.wrap .u8 n11))]) sL (u1 λl12 =>
.read True (ld T.a11 (Addr.add a0 0)) (sI .i64) (u1 λ(n13:Int) =>
.call F.a117 [.int .u64 (IntKind.wrap .u64 n13)] sL (u1 λl14 =>
.act (app T.a27 T.a27 T.a27 l12.v l14.v) sL (u1 λl15 =>
.read True (ld T.a11 (Addr.add a0 1)) (sI .i64) (u1 λ(n16:Int) =>
.call F.a117 [.int .u64 (IntKind.wrap .u64 n16)] sL (u1 λl17 =>
.act (app T.a27 T.a27 T.a27 l15.v l17.v) sL (u1 λl18 =>
.read True (ld T.a11 (Addr.add a0 1)) (sI .i64) (u1 λ(n19:Int) =>
.bind 1 [.one .slc] (
.ite (decide (n19>0)) (
.read True (ld T.a10 (Addr.add a0 2)) (sI .i64) (u1 λ(n20:Int) =>
.call F.a117 [.int .u64 (IntKind.wrap .u64 n20)] sL (u1 λl21 =>
.act (app T.a27 T.a27 T.a27 l18.v l21.v) sL (u1 λl22 =>
.done 1 [l22.v])))) (
.done 1 [l18.v])) (u1 λl23 =>
.bind 1 [.one .bool] (
.read True (ld T.a11 (Addr.add a0 1)) (sI .i64) (u1 λ(n24:Int) =>
.read (decide (n24>0)=true) (ld T.a1 a0) (sG [.int .i64,.int .i64,.int .i64,.int .i64,.int .i64,.int .i64,.slc]) (u7 λ(n25 n26 n27 n28 n29 n30:Int) l31 =>
.ite (decide (n24>0)) (
.call F.a125 [.agg #[.int .i64 n25,.int .i64 n26,.int .i64 n27,.int .i64 n28,.int .i64 n29,.int .i64 n30,l31.v]] sB (u1 λb32 =>
.done 1 [.bool (not b32)])) (
.done 1 [.bool false])))) (u1 λb33 =>
.bind 1 [.one .slc] (
.ite (b33) (
.read True (ld T.a10 (Addr.add a0 3)) (sI .i64) (u1 λ(n34:Int) =>
.call F.a117 [.int .u64 (IntKind.wrap .u64 n34)] sL (u1 λl35 =>
.act (app T.a27 T.a27 T.a27 l23.v l35.v) sL (u1 λl36 =>
.done 1 [l36.v])))) (
.done 1 [l23.v])) (u1 λl37 =>
.read True (ld T.a11 (Addr.add a0 5)) (sI .i64) (u1 λ(n38:Int) =>
.call F.a117 [.int .u64 (IntKind.wrap .u64 n38)] sL (u1 λl39 =>
.act (app T.a27 T.a27 T.a27 l37.v l39.v) sL (u1 λl40 =>
.read True (ld T.a1 a0) (sG [.int .i64,.int .i64,.int .i64,.int .i64,.int .i64,.int .i64,.slc]) (u7 λ(n41 n42 n43 n44 n45 n46:Int) l47 =>
.call F.a125 [.agg #[.int .i64 n41,.int .i64 n42,.int .i64 n43,.int .i64 n44,.int .i64 n45,.int .i64 n46,l47.v]] sB (u1 λb48 =>
.ite (b48) (
.done 0 [l40.v,.int .i64 0]) (
.read True (ld T.a19 (Addr.add a0 6)) sL (u1 λl49 =>
.call F.a117 [.int .u64 (IntKind.wrap .u64 (((l49.len:Nat):Int)))] sL (u1 λl50 =>
.act (app T.a27 T.a27 T.a27 l40.v l50.v) sL (u1 λl51 =>
.read True (ld T.a19 (Addr.add a0 6)) sL (u1 λl52 =>
.bind 1 [.one .slc] (
.loop 2 [.one .slc,.one (.int .i64)] ({ a:=l51.a,len:=l51.len,cap:=l51.cap },(0,())) (u2 λl53 (n54:Int) =>
.ite (decide (n54<((l52.len:Nat):Int))) (
.bind 3 [.one .slc] (
.ex [.adr] (c1 λa55=>0<=n54/\n54<((l52.len:Nat):Int)/\l52.a=some a55) (u1 λa56 =>
.read True (ld T.a3 (Addr.add a56 (Int.toNat n54*4))) (sG [.str,.str,.bool,.int .i64]) (u4 λs57 s58 b59 (n60:Int) =>
.act (new T.a3) sA (u1 λa61 =>
.lt (.int .i64) (n54) λ(n62:Int) =>
.actU (st T.a3 a61 (.agg #[.string s57,.string s58,.bool b59,.int .i64 n60])) <|
.bind 4 [.one (.int .i64)] (
.loop 5 [.one (.int .i64)] (0,()) (u1 λ(n63:Int) =>
.tick <|
.read (decide (n62>0)=true) (ld T.a32 (Addr.add a61 0)) sS (u1 λs64 =>
.read ((decide (n62>0) && decide (n63<((ByteArray.size s64:Nat):Int)))=true) (ld T.a19 (Addr.add a0 6)) sL (u1 λl65 =>
.ex [.adr] (c1 λa66=>(decide (n62>0) && decide (n63<((ByteArray.size s64:Nat):Int)))=true->0<=IntKind.wrap .i64 (n62-1)/\IntKind.wrap .i64 (n62-1)<((l65.len:Nat):Int)/\l65.a=some a66) (u1 λa67 =>
.read ((decide (n62>0) && decide (n63<((ByteArray.size s64:Nat):Int)))=true) (ld T.a32 (Addr.add (Addr.add a67 (Int.toNat (IntKind.wrap .i64 (n62-1))*4)) 0)) sS (u1 λs68 =>
.read ((decide (n62>0) && decide (n63<((ByteArray.size s64:Nat):Int)) && decide (n63<((ByteArray.size s68:Nat):Int)))=true) (ld T.a32 (Addr.add a61 0)) sS (u1 λs69 =>
.must ((decide (n62>0) && decide (n63<((ByteArray.size s64:Nat):Int)) && decide (n63<((ByteArray.size s68:Nat):Int)))=true->0<=n63/\n63<((ByteArray.size s69:Nat):Int)) <|
.read ((decide (n62>0) && decide (n63<((ByteArray.size s64:Nat):Int)) && decide (n63<((ByteArray.size s68:Nat):Int)))=true) (ld T.a19 (Addr.add a0 6)) sL (u1 λl70 =>
.ex [.adr] (c1 λa71=>(decide (n62>0) && decide (n63<((ByteArray.size s64:Nat):Int)) && decide (n63<((ByteArray.size s68:Nat):Int)))=true->0<=IntKind.wrap .i64 (n62-1)/\IntKind.wrap .i64 (n62-1)<((l70.len:Nat):Int)/\l70.a=some a71) (u1 λa72 =>
.read ((decide (n62>0) && decide (n63<((ByteArray.size s64:Nat):Int)) && decide (n63<((ByteArray.size s68:Nat):Int)))=true) (ld T.a32 (Addr.add (Addr.add a72 (Int.toNat (IntKind.wrap .i64 (n62-1))*4)) 0)) sS (u1 λs73 =>
.must ((decide (n62>0) && decide (n63<((ByteArray.size s64:Nat):Int)) && decide (n63<((ByteArray.size s68:Nat):Int)))=true->0<=n63/\n63<((ByteArray.size s73:Nat):Int)) <|
.untick <|
.ite (decide (n62>0) && decide (n63<((ByteArray.size s64:Nat):Int)) && decide (n63<((ByteArray.size s68:Nat):Int)) && bt s69 n63 == bt s73 n63) (
.lt (.int .i64) (IntKind.wrap .i64 (n63+1)) λ(n74:Int) =>
.done 5 [.int .i64 n74]) (
.done 4 [.int .i64 n63]))))))))))) (u1 λ(n75:Int) =>
.read True (ld T.a11 (Addr.add a61 3)) (sI .i64) (u1 λ(n76:Int) =>
.read True (ld T.a11 (Addr.add a0 5)) (sI .i64) (u1 λ(n77:Int) =>
.call F.a107 [.int .i64 (IntKind.wrap .i64 (n76-n77))] sL (u1 λl78 =>
.act (app T.a27 T.a27 T.a27 l53.v l78.v) sL (u1 λl79 =>
.read True (ld T.a4 (Addr.add a61 2)) sB (u1 λb80 =>
.call F.a106 [.bool b80] sL (u1 λl81 =>
.act (app T.a27 T.a27 T.a27 l79.v l81.v) sL (u1 λl82 =>
.call F.a117 [.int .u64 (IntKind.wrap .u64 n75)] sL (u1 λl83 =>
.act (app T.a27 T.a27 T.a27 l82.v l83.v) sL (u1 λl84 =>
.read True (ld T.a32 (Addr.add a61 0)) sS (u1 λs85 =>
.must (0<=n75/\n75<=((ByteArray.size s85:Nat):Int)) <|
.call F.a116 [.string (ByteArray.extract s85 (Int.toNat n75) (ByteArray.size s85))] sL (u1 λl86 =>
.act (app T.a27 T.a27 T.a27 l84.v l86.v) sL (u1 λl87 =>
.read True (ld T.a4 (Addr.add a61 2)) sB (u1 λb88 =>
.bind 4 [.one .slc] (
.ite (not b88) (
.read True (ld T.a32 (Addr.add a61 1)) sS (u1 λs89 =>
.call F.a116 [.string s89] sL (u1 λl90 =>
.act (app T.a27 T.a27 T.a27 l87.v l90.v) sL (u1 λl91 =>
.done 4 [l91.v])))) (
.done 4 [l87.v])) (u1 λl92 =>
.done 3 [l92.v]))))))))))))))))))) (u1 λl93 =>
.done 2 [l93.v,.int .i64 (IntKind.wrap .i64 (n54+1))])) (
.done 1 [l53.v]))) (u1 λl94 =>
.done 0 [l94.v,.int .i64 0])))))))))))))))))))))))))))
theorem zn8 (b_0 b_1 b_2 b_3 b_4 b_5:Int) (b_6:Sl) {w:World} {R:List Value->World->Prop} (h:(zxz b_0 b_1 b_2 b_3 b_4 b_5 b_6).wp P (λ_=>True) w λe vs w'=>e=0/\R vs w'):Ret P F.a124 #[.agg #[.int .i64 b_0,.int .i64 b_1,.int .i64 b_2,.int .i64 b_3,.int .i64 b_4,.int .i64 b_5,.slice b_6.a b_6.len b_6.cap]] w R:=dS (n:=151) (rv:=[.tmp 2,.tmp 3]) { cnd:=[(2216615441727520,[(5,.one .slc)]),(36317027395115810862,[(5,.one .slc)]),(2831659422328624404019639363387798350583369433231,[(5,.one .slc)])],blk:=[(0,[(5,.one .slc)]),(1,[(5,.one .slc)]),(2,[(8,.one (.int .i64))])],reg:=[(9,[(46,.one .bool)])],lps:=[(0,[(5,.one .slc),(72,.one (.int .i64))]),(2,[(8,.one (.int .i64))])] } [.val (.agg #[.int .i64 b_0,.int .i64 b_1,.int .i64 b_2,.int .i64 b_3,.int .i64 b_4,.int .i64 b_5,.slice b_6.a b_6.len b_6.cap])] Go.Proofs.Tryz.func87 (by kernel_rfl) (by kernel_rfl) (by kernel_rfl) (by kernel_rfl) h
def zwb (body:Sl):Prog :=
.ite (decide (((body.len:Nat):Int)>262144)) (
.done 0 [.slice none 0 0]) (
.call F.a122 [.int .u32 (IntKind.wrap .u32 (((body.len:Nat):Int)))] sL (u1 λl0 =>
.act (app T.a27 T.a27 T.a27 l0.v body.v) sL (u1 λl1 =>
.call F.a121 [l1.v] (sI .u32) (u1 λ(n2:Int) =>
.call F.a122 [.int .u32 n2] sL (u1 λl3 =>
.act (app T.a27 T.a27 T.a27 l1.v l3.v) sL (u1 λl4 =>
.done 0 [l4.v]))))))
theorem zmo (body:Sl) {w:World} {R:List Value->World->Prop} (h:(zwb body).wp P (λ_=>True) w λe vs w'=>e=0/\R vs w'):Ret P F.a120 #[.slice body.a body.len body.cap] w R:=dS (n:=19) (rv:=[.tmp 2]) { cnd:=[],blk:=[],reg:=[],lps:=[] } [.val (.slice body.a body.len body.cap)] Go.Proofs.Tryz.func88 (by kernel_rfl) (by kernel_rfl) (by kernel_rfl) (by kernel_rfl) h
def zxc (b:Sl):Prog :=
.ite (decide (((b.len:Nat):Int)<8)) (
.done 0 [.slice none 0 0,.int .i64 0]) (
.bind 1 [.one (.int .i64)] (
.loop 2 [.one (.int .i64),.one (.int .i64)] (0,(3,())) (u2 λ(n0 n1:Int) =>
.ite (decide (n1>=0)) (
.ex [.adr] (c1 λa2=>0<=n1/\n1<((b.len:Nat):Int)/\b.a=some a2) (u1 λa3 =>
.read True (ld T.a38 (Addr.add a3 (Int.toNat n1*1))) (sI .u8) (u1 λ(n4:Int) =>
.lt (.int .i64) (IntKind.wrap .i64 (IntKind.wrap .i64 (n0*256)+IntKind.wrap .i64 n4)) λ(n5:Int) =>
.lt (.int .i64) (IntKind.wrap .i64 (n1-1)) λ(n6:Int) =>
.done 2 [.int .i64 n5,.int .i64 n6]))) (
.done 1 [.int .i64 n0]))) (u1 λ(n7:Int) =>
.ite (decide (n7>262144) || decide (IntKind.wrap .i64 (n7+8)>((b.len:Nat):Int))) (
.done 0 [.slice none 0 0,.int .i64 0]) (
.must ((0:Int)<=4/\4<=IntKind.wrap .i64 (4+n7)/\IntKind.wrap .i64 (4+n7)<=((b.cap:Nat):Int)) <|
.act (app T.a27 T.a27 T.a27 (.slice none 0 0) (.slice (z1g b.a 1 4 b.cap) (Int.toNat (IntKind.wrap .i64 (4+n7))-4) (b.cap-4))) sL (u1 λl8 =>
.tick <|
.must (0<=IntKind.wrap .i64 (n7+8)/\IntKind.wrap .i64 (n7+8)<=((b.cap:Nat):Int)) <|
.hold True (convert T.a27 T.a32 (.slice b.a (Int.toNat (IntKind.wrap .i64 (n7+8))) b.cap)) sS (u1 λs9 =>
.call F.a120 [l8.v] sL (u1 λl10 =>
.read True (convert T.a27 T.a32 l10.v) sS (u1 λs11 =>
.untick <|
.ite (not (ByteArray.toList s11 == ByteArray.toList s9)) (
.done 0 [.slice none 0 0,.int .i64 0]) (
.lt (.int .i64) (IntKind.wrap .i64 (n7+8)) λ(n12:Int) =>
.done 0 [l8.v,.int .i64 n12]))))))))
theorem zmm (b:Sl) {w:World} {R:List Value->World->Prop} (h:(zxc b).wp P (λ_=>True) w λe vs w'=>e=0/\R vs w'):Ret P F.a119 #[.slice b.a b.len b.cap] w R:=dS (n:=49) (rv:=[.tmp 2,.tmp 3]) { cnd:=[],blk:=[(0,[(4,.one (.int .i64))])],reg:=[],lps:=[(0,[(4,.one (.int .i64)),(5,.one (.int .i64))])] } [.val (.slice b.a b.len b.cap)] Go.Proofs.Tryz.func93 (by kernel_rfl) (by kernel_rfl) (by kernel_rfl) (by kernel_rfl) h
def zxp (b:Sl):Prog :=
.act (new T.a1) sA (u1 λa0 =>
.act (Instr.box T.a34 (.agg #[b.v,.int .i64 0,.int .i64 0])) sA (u1 λa1 =>
.call F.a108 [.pointer (some a1)] (sI .i64) (u1 λ(n2:Int) =>
.call F.a108 [.pointer (some a1)] (sI .i64) (u1 λ(n3:Int) =>
.act (new T.a1) sA (u1 λa4 =>
.actU (st T.a1 a4 (.agg #[.int .i64 0,.int .i64 0,.int .i64 0,.int .i64 0,.int .i64 n3,.int .i64 0,.slice none 0 0])) <|
.call F.a132 [.pointer (some a1)] (sI .i64) (u1 λ(n5:Int) =>
.actU (st T.a11 (Addr.add a4 0) (.int .i64 n5)) <|
.call F.a132 [.pointer (some a1)] (sI .i64) (u1 λ(n6:Int) =>
.actU (st T.a11 (Addr.add a4 1) (.int .i64 n6)) <|
.read True (ld T.a11 (Addr.add a4 1)) (sI .i64) (u1 λ(n7:Int) =>
.bind 1 [] (
.ite (decide (n7>0)) (
.call F.a132 [.pointer (some a1)] (sI .i64) (u1 λ(n8:Int) =>
.actU (st T.a10 (Addr.add a4 2) (.int .i64 n8)) <|
.done 1 [])) (
.done 1 [])) (u0 <|
.bind 1 [.one .bool] (
.read True (ld T.a11 (Addr.add a4 1)) (sI .i64) (u1 λ(n9:Int) =>
.read (decide (n9>0)=true) (ld T.a1 a4) (sG [.int .i64,.int .i64,.int .i64,.int .i64,.int .i64,.int .i64,.slc]) (u7 λ(n10 n11 n12 n13 n14 n15:Int) l16 =>
.ite (decide (n9>0)) (
.call F.a125 [.agg #[.int .i64 n10,.int .i64 n11,.int .i64 n12,.int .i64 n13,.int .i64 n14,.int .i64 n15,l16.v]] sB (u1 λb17 =>
.done 1 [.bool (not b17)])) (
.done 1 [.bool false])))) (u1 λb18 =>
.bind 1 [] (
.ite (b18) (
.call F.a132 [.pointer (some a1)] (sI .i64) (u1 λ(n19:Int) =>
.actU (st T.a10 (Addr.add a4 3) (.int .i64 n19)) <|
.done 1 [])) (
.done 1 [])) (u0 <|
.call F.a132 [.pointer (some a1)] (sI .i64) (u1 λ(n20:Int) =>
.actU (st T.a11 (Addr.add a4 5) (.int .i64 n20)) <|
.bind 1 [.one .bool] (
.read True (ld T.a2 (Addr.add a1 2)) (sI .i64) (u1 λ(n21:Int) =>
.read ((n21 == 0)=true) (ld T.a11 (Addr.add a4 5)) (sI .i64) (u1 λ(n22:Int) =>
.read ((n21 == 0 && decide (n22>=0))=true) (ld T.a1 a4) (sG [.int .i64,.int .i64,.int .i64,.int .i64,.int .i64,.int .i64,.slc]) (u7 λ(n23 n24 n25 n26 n27 n28:Int) l29 =>
.ite (n21 == 0 && decide (n22>=0)) (
.call F.a125 [.agg #[.int .i64 n23,.int .i64 n24,.int .i64 n25,.int .i64 n26,.int .i64 n27,.int .i64 n28,l29.v]] sB (u1 λb30 =>
.done 1 [.bool (not b30)])) (
.done 1 [.bool false]))))) (u1 λb31 =>
.bind 1 [] (
.ite (b31) (
.read True (ld T.a11 (Addr.add a4 5)) (sI .i64) (u1 λ(n32:Int) =>
.call F.a131 [.pointer (some a1),.int .i64 n32] sL (u1 λl33 =>
.actU (st T.a19 (Addr.add a4 6) l33.v) <|
.done 1 []))) (
.done 1 [])) (u0 <|
.read True (ld T.a1 a4) (sG [.int .i64,.int .i64,.int .i64,.int .i64,.int .i64,.int .i64,.slc]) (u7 λ(n34 n35 n36 n37 n38 n39:Int) l40 =>
.call F.a124 [.agg #[.int .i64 n34,.int .i64 n35,.int .i64 n36,.int .i64 n37,.int .i64 n38,.int .i64 n39,l40.v]] (.tup [.one .slc,.one (.int .i64)]) (u2 λl41 (n42:Int) =>
.lt (.int .i64) (n42) λ(n43:Int) =>
.read ((n43 != 0)=false) (convert T.a27 T.a32 l41.v) sS (u1 λs44 =>
.read ((n43 != 0)=false) (convert T.a27 T.a32 b.v) sS (u1 λs45 =>
.ite (n43 != 0 || not (ByteArray.toList s44 == ByteArray.toList s45)) (
.actU (st T.a1 a0 (.agg #[.int .i64 0,.int .i64 0,.int .i64 0,.int .i64 0,.int .i64 0,.int .i64 0,.slice none 0 0])) <|
.read True (ld T.a1 a0) (sG [.int .i64,.int .i64,.int .i64,.int .i64,.int .i64,.int .i64,.slc]) (u7 λ(n46 n47 n48 n49 n50 n51:Int) l52 =>
.done 0 [.agg #[.int .i64 n46,.int .i64 n47,.int .i64 n48,.int .i64 n49,.int .i64 n50,.int .i64 n51,l52.v],.int .i64 6])) (
.read True (ld T.a1 a4) (sG [.int .i64,.int .i64,.int .i64,.int .i64,.int .i64,.int .i64,.slc]) (u7 λ(n53 n54 n55 n56 n57 n58:Int) l59 =>
.actU (st T.a1 a0 (.agg #[.int .i64 n53,.int .i64 n54,.int .i64 n55,.int .i64 n56,.int .i64 n57,.int .i64 n58,l59.v])) <|
.read True (ld T.a1 a0) (sG [.int .i64,.int .i64,.int .i64,.int .i64,.int .i64,.int .i64,.slc]) (u7 λ(n60 n61 n62 n63 n64 n65:Int) l66 =>
.done 0 [.agg #[.int .i64 n60,.int .i64 n61,.int .i64 n62,.int .i64 n63,.int .i64 n64,.int .i64 n65,l66.v],.int .i64 0])))))))))))))))))))))
theorem znn (b:Sl) {w:World} {R:List Value->World->Prop} (h:(zxp b).wp P (λ_=>True) w λe vs w'=>e=0/\R vs w'):Ret P F.a123 #[.slice b.a b.len b.cap] w R:=dS (n:=78) (rv:=[.cell 2 38,.tmp 3]) { cnd:=[(962072674328,[]),(1970324836974627,[]),(18299170121119875203128,[])],blk:=[],reg:=[(8,[(35,.one .bool)]),(11,[(56,.one .bool)])],lps:=[] } [.val (.slice b.a b.len b.cap)] Go.Proofs.Tryz.func95 (by kernel_rfl) (by kernel_rfl) (by kernel_rfl) (by kernel_rfl) h
def zf0 (b:Sl):Prog :=
.ite (Option.isNone b.a) (
.done 0 [.slice none 0 0]) (
.act (Instr.buildSlice T.a27 0 #[]) sL (u1 λl0 =>
.act (app T.a27 T.a27 T.a27 l0.v b.v) sL (u1 λl1 =>
.done 0 [l1.v])))
theorem zhq (b:Sl) {w:World} {R:List Value->World->Prop} (h:(zf0 b).wp P (λ_=>True) w λe vs w'=>e=0/\R vs w'):Ret P F.a0 #[.slice b.a b.len b.cap] w R:=dS (n:=8) (rv:=[.tmp 2]) { cnd:=[],blk:=[],reg:=[],lps:=[] } [.val (.slice b.a b.len b.cap)] Go.Proofs.Tryz.func100 (by kernel_rfl) (by kernel_rfl) (by kernel_rfl) (by kernel_rfl) h
def zpb (n:Int):Prog :=
.ite (decide (n<128)) (
.act (Instr.buildSlice T.a27 1 #[(0,.int .u8 (IntKind.wrap .u8 n))]) sL (u1 λl0 =>
.done 0 [l0.v])) (
.act (Instr.buildSlice T.a27 1 #[(0,.int .u8 (IntKind.wrap .u8 (IntKind.wrap .u64 (Int.tmod n 128+128))))]) sL (u1 λl1 =>
.call F.a117 [.int .u64 (IntKind.wrap .u64 (Int.tdiv n 128))] sL (u1 λl2 =>
.act (app T.a27 T.a27 T.a27 l1.v l2.v) sL (u1 λl3 =>
.done 0 [l3.v]))))
theorem ze1 (n:Int) {w:World} {R:List Value->World->Prop} (h:(zpb n).wp P (λ_=>True) w λe vs w'=>e=0/\R vs w'):Ret P F.a117 #[.int .u64 n] w R:=dS (n:=19) (rv:=[.tmp 2]) { cnd:=[],blk:=[],reg:=[],lps:=[] } [.val (.int .u64 n)] Go.Proofs.Tryz.func101 (by kernel_rfl) (by kernel_rfl) (by kernel_rfl) (by kernel_rfl) h
def z01z (x:Option Addr) (i:Int):Prog :=
.act (new T.a7) sA (u1 λa0 =>
.ite (decide (i<0)) (
.actU (st T.a7 a0 (.agg #[.int .i64 0,.int .i64 0,.int .i64 0])) <|
.read True (ld T.a7 a0) (sG [.int .i64,.int .i64,.int .i64]) (u3 λ(n1 n2 n3:Int) =>
.done 0 [.agg #[.int .i64 n1,.int .i64 n2,.int .i64 n3],.bool false])) (
.ex [.adr] (c1 λa4=>x=some a4) (u1 λa5 =>
.read True (ld T.a20 (Addr.add a5 4)) sL (u1 λl6 =>
.ex [.adr] (c1 λa7=>0<=i/\i<((l6.len:Nat):Int)/\l6.a=some a7) (u1 λa8 =>
.read True (ld T.a7 (Addr.add a8 (Int.toNat i*3))) (sG [.int .i64,.int .i64,.int .i64]) (u3 λ(n9 n10 n11:Int) =>
.actU (st T.a7 a0 (.agg #[.int .i64 n9,.int .i64 n10,.int .i64 n11])) <|
.read True (ld T.a7 a0) (sG [.int .i64,.int .i64,.int .i64]) (u3 λ(n12 n13 n14:Int) =>
.done 0 [.agg #[.int .i64 n12,.int .i64 n13,.int .i64 n14],.bool true])))))))
theorem zr1 (x:Option Addr) (i:Int) {w:World} {R:List Value->World->Prop} (h:(z01z x i).wp P (λ_=>True) w λe vs w'=>e=0/\R vs w'):Ret P F.a27 #[.pointer x,.int .i64 i] w R:=dS (n:=16) (rv:=[.cell 4 121,.tmp 5]) { cnd:=[],blk:=[],reg:=[],lps:=[] } [.val (.pointer x),.val (.int .i64 i)] Go.Proofs.Tryz.func112 (by kernel_rfl) (by kernel_rfl) (by kernel_rfl) (by kernel_rfl) h
def zwa (n lo:Int) (hi:Int):Prog :=
.lt (.bool) (decide (n<lo) || decide (n>hi)) λb0 =>
.done 0 [.bool b0]
theorem zn9 (n lo hi:Int) {w:World} {R:List Value->World->Prop} (h:(zwa n lo hi).wp P (λ_=>True) w λe vs w'=>e=0/\R vs w'):Ret P F.a130 #[.int .i64 n,.int .i64 lo,.int .i64 hi] w R:=dS (n:=15) (rv:=[.tmp 6]) { cnd:=[],blk:=[],reg:=[],lps:=[] } [.val (.int .i64 n),.val (.int .i64 lo),.val (.int .i64 hi)] Go.Proofs.Tryz.func114 (by kernel_rfl) (by kernel_rfl) (by kernel_rfl) (by kernel_rfl) h
def z01v (b:Sl):Prog :=
.ite (decide (((b.len:Nat):Int)<8)) (
.done 0 [.slice none 0 0,.int .i64 0,.bool false]) (
.call F.a23 [b.v] (sI .u32) (u1 λ(n0:Int) =>
.lt (.int .u32) (n0) λ(n1:Int) =>
.ite (decide (n1>262144) || decide (IntKind.wrap .i64 n1>IntKind.wrap .i64 (((b.len:Nat):Int)-8))) (
.done 0 [.slice none 0 0,.int .i64 0,.bool false]) (
.lt (.int .i64) (IntKind.wrap .i64 (IntKind.wrap .i64 n1+4)) λ(n2:Int) =>
.bind 1 [.one .bool] (
.tick <|
.must (0<=n2/\n2<=((b.len:Nat):Int)) <|
.must (0<=n2/\n2<=((b.cap:Nat):Int)) <|
.both (
.call F.a23 [.slice (z1g b.a 1 (Int.toNat n2) b.cap) (b.len-Int.toNat n2) (b.cap-Int.toNat n2)] (sI .u32) (u1 λ(n3:Int) =>
.act (Instr.buildSlice T.a23 1 #[(0,.slice b.a (Int.toNat n2) b.cap)]) sL (u1 λl4 =>
.call F.a21 [l4.v] (sI .u32) (u1 λ(n5:Int) =>
.untick <|
.done 1 [.bool (n3 != n5)])))) (
.act (Instr.buildSlice T.a23 1 #[(0,.slice b.a (Int.toNat n2) b.cap)]) sL (u1 λl6 =>
.call F.a23 [.slice (z1g b.a 1 (Int.toNat n2) b.cap) (b.len-Int.toNat n2) (b.cap-Int.toNat n2)] (sI .u32) (u1 λ(n7:Int) =>
.call F.a21 [l6.v] (sI .u32) (u1 λ(n8:Int) =>
.untick <|
.done 1 [.bool (n7 != n8)]))))) (u1 λb9 =>
.ite (b9) (
.done 0 [.slice none 0 0,.int .i64 0,.bool false]) (
.must ((0:Int)<=4/\4<=n2/\n2<=((b.cap:Nat):Int)) <|
.call F.a0 [.slice (z1g b.a 1 4 b.cap) (Int.toNat n2-4) (b.cap-4)] sL (u1 λl10 =>
.lt (.int .i64) (IntKind.wrap .i64 (n2+4)) λ(n11:Int) =>
.done 0 [l10.v,.int .i64 n11,.bool true]))))))
theorem zr3 (b:Sl) {w:World} {R:List Value->World->Prop} (h:(z01v b).wp P (λ_=>True) w λe vs w'=>e=0/\R vs w'):Ret P F.a18 #[.slice b.a b.len b.cap] w R:=dS (n:=41) (rv:=[.tmp 2,.tmp 3,.tmp 4]) { cnd:=[],blk:=[],reg:=[(7,[(34,.one .bool)])],lps:=[] } [.val (.slice b.a b.len b.cap)] Go.Proofs.Tryz.func115 (by kernel_rfl) (by kernel_rfl) (by kernel_rfl) (by kernel_rfl) h
def z01d (raw:Sl):Prog :=
.act (new T.a1) sA (u1 λa0 =>
.act (new T.a1) sA (u1 λa1 =>
.actU (st T.a1 a1 (.agg #[.int .i64 0,.int .i64 0,.int .i64 0,.int .i64 0,.int .i64 0,.int .i64 0,.slice none 0 0])) <|
.call F.a148 [raw.v] sP (u1 λp2 =>
.call F.a149 [.pointer p2] (sI .i64) (u1 λ(n3:Int) =>
.ite (n3 != 1) (
.read True (ld T.a1 a1) (sG [.int .i64,.int .i64,.int .i64,.int .i64,.int .i64,.int .i64,.slc]) (u7 λ(n4 n5 n6 n7 n8 n9:Int) l10 =>
.actU (st T.a1 a0 (.agg #[.int .i64 n4,.int .i64 n5,.int .i64 n6,.int .i64 n7,.int .i64 n8,.int .i64 n9,l10.v])) <|
.read True (ld T.a1 a0) (sG [.int .i64,.int .i64,.int .i64,.int .i64,.int .i64,.int .i64,.slc]) (u7 λ(n11 n12 n13 n14 n15 n16:Int) l17 =>
.done 0 [.agg #[.int .i64 n11,.int .i64 n12,.int .i64 n13,.int .i64 n14,.int .i64 n15,.int .i64 n16,l17.v],.int .i64 6]))) (
.call F.a149 [.pointer p2] (sI .i64) (u1 λ(n18:Int) =>
.call F.a48 [.pointer p2,.int .i64 1099511627776] (sI .i64) (u1 λ(n19:Int) =>
.call F.a48 [.pointer p2,.int .i64 1048576] (sI .i64) (u1 λ(n20:Int) =>
.act (new T.a1) sA (u1 λa21 =>
.actU (st T.a1 a21 (.agg #[.int .i64 n19,.int .i64 n20,.int .i64 0,.int .i64 0,.int .i64 n18,.int .i64 0,.slice none 0 0])) <|
.read True (ld T.a11 (Addr.add a21 1)) (sI .i64) (u1 λ(n22:Int) =>
.bind 1 [] (
.ite (decide (n22>0)) (
.call F.a48 [.pointer p2,.int .i64 32767] (sI .i64) (u1 λ(n23:Int) =>
.actU (st T.a10 (Addr.add a21 2) (.int .i64 n23)) <|
.read True (ld T.a1 a21) (sG [.int .i64,.int .i64,.int .i64,.int .i64,.int .i64,.int .i64,.slc]) (u7 λ(n24 n25 n26 n27 n28 n29:Int) l30 =>
.call F.a43 [.agg #[.int .i64 n24,.int .i64 n25,.int .i64 n26,.int .i64 n27,.int .i64 n28,.int .i64 n29,l30.v]] sB (u1 λb31 =>
.bind 2 [] (
.ite (not b31) (
.call F.a48 [.pointer p2,.int .i64 2147483647] (sI .i64) (u1 λ(n32:Int) =>
.actU (st T.a10 (Addr.add a21 3) (.int .i64 n32)) <|
.done 2 [])) (
.done 2 [])) (u0 <|
.done 1 []))))) (
.done 1 [])) (u0 <|
.call F.a48 [.pointer p2,.int .i64 1099511627776] (sI .i64) (u1 λ(n33:Int) =>
.actU (st T.a11 (Addr.add a21 5) (.int .i64 n33)) <|
.call F.a151 [.pointer p2] (sI .i64) (u1 λ(n34:Int) =>
.read ((n34 != 0)=false) (ld T.a11 (Addr.add a21 5)) (sI .i64) (u1 λ(n35:Int) =>
.ite (n34 != 0 || decide (n35>1099511627776)) (
.read True (ld T.a1 a1) (sG [.int .i64,.int .i64,.int .i64,.int .i64,.int .i64,.int .i64,.slc]) (u7 λ(n36 n37 n38 n39 n40 n41:Int) l42 =>
.actU (st T.a1 a0 (.agg #[.int .i64 n36,.int .i64 n37,.int .i64 n38,.int .i64 n39,.int .i64 n40,.int .i64 n41,l42.v])) <|
.read True (ld T.a1 a0) (sG [.int .i64,.int .i64,.int .i64,.int .i64,.int .i64,.int .i64,.slc]) (u7 λ(n43 n44 n45 n46 n47 n48:Int) l49 =>
.done 0 [.agg #[.int .i64 n43,.int .i64 n44,.int .i64 n45,.int .i64 n46,.int .i64 n47,.int .i64 n48,l49.v],.int .i64 6]))) (
.read True (ld T.a1 a21) (sG [.int .i64,.int .i64,.int .i64,.int .i64,.int .i64,.int .i64,.slc]) (u7 λ(n50 n51 n52 n53 n54 n55:Int) l56 =>
.call F.a43 [.agg #[.int .i64 n50,.int .i64 n51,.int .i64 n52,.int .i64 n53,.int .i64 n54,.int .i64 n55,l56.v]] sB (u1 λb57 =>
.bind 1 [] (
.ite (not b57) (
.call F.a48 [.pointer p2,.int .i64 64] (sI .i64) (u1 λ(n58:Int) =>
.lt (.int .i64) (n58) λ(n59:Int) =>
.ite (decide (n59>64)) (
.read True (ld T.a1 a1) (sG [.int .i64,.int .i64,.int .i64,.int .i64,.int .i64,.int .i64,.slc]) (u7 λ(n60 n61 n62 n63 n64 n65:Int) l66 =>
.actU (st T.a1 a0 (.agg #[.int .i64 n60,.int .i64 n61,.int .i64 n62,.int .i64 n63,.int .i64 n64,.int .i64 n65,l66.v])) <|
.read True (ld T.a1 a0) (sG [.int .i64,.int .i64,.int .i64,.int .i64,.int .i64,.int .i64,.slc]) (u7 λ(n67 n68 n69 n70 n71 n72:Int) l73 =>
.done 0 [.agg #[.int .i64 n67,.int .i64 n68,.int .i64 n69,.int .i64 n70,.int .i64 n71,.int .i64 n72,l73.v],.int .i64 6]))) (
.bind 2 [] (
.loop 3 [.one .str,.one (.int .i64)] ((ByteArray.mk #[]),(0,())) (u2 λs74 (n75:Int) =>
.ite (decide (n75<n59)) (
.read True (ld T.a11 (Addr.add a21 5)) (sI .i64) (u1 λ(n76:Int) =>
.call F.a46 [.pointer p2,.int .i64 n76,.string s74] (.tup [.agg [.str,.str,.bool,.int .i64],.one .bool]) (u5 λs77 s78 b79 (n80:Int) b81 =>
.act (new T.a3) sA (u1 λa82 =>
.actU (st T.a3 a82 (.agg #[.string s77,.string s78,.bool b79,.int .i64 n80])) <|
.lt (.bool) (b81) λb83 =>
.ite (not b83) (
.read True (ld T.a1 a1) (sG [.int .i64,.int .i64,.int .i64,.int .i64,.int .i64,.int .i64,.slc]) (u7 λ(n84 n85 n86 n87 n88 n89:Int) l90 =>
.actU (st T.a1 a0 (.agg #[.int .i64 n84,.int .i64 n85,.int .i64 n86,.int .i64 n87,.int .i64 n88,.int .i64 n89,l90.v])) <|
.read True (ld T.a1 a0) (sG [.int .i64,.int .i64,.int .i64,.int .i64,.int .i64,.int .i64,.slc]) (u7 λ(n91 n92 n93 n94 n95 n96:Int) l97 =>
.done 0 [.agg #[.int .i64 n91,.int .i64 n92,.int .i64 n93,.int .i64 n94,.int .i64 n95,.int .i64 n96,l97.v],.int .i64 6]))) (
.read True (ld T.a19 (Addr.add a21 6)) sL (u1 λl98 =>
.read True (ld T.a3 a82) (sG [.str,.str,.bool,.int .i64]) (u4 λs99 s100 b101 (n102:Int) =>
.act (Instr.buildSlice T.a19 1 #[(0,.agg #[.string s99,.string s100,.bool b101,.int .i64 n102])]) sL (u1 λl103 =>
.act (app T.a19 T.a19 T.a19 l98.v l103.v) sL (u1 λl104 =>
.actU (st T.a19 (Addr.add a21 6) l104.v) <|
.read True (ld T.a32 (Addr.add a82 0)) sS (u1 λs105 =>
.lt (.str) (s105) λs106 =>
.done 3 [.string s106,.int .i64 (IntKind.wrap .i64 (n75+1))])))))))))) (
.done 2 []))) (u0 <|
.done 1 [])))) (
.done 1 [])) (u0 <|
.bind 1 [.one .bool] (
.call F.a150 [.pointer p2] (sI .i64) (u1 λ(n107:Int) =>
.read ((n107 != 0)=false) (ld T.a1 a21) (sG [.int .i64,.int .i64,.int .i64,.int .i64,.int .i64,.int .i64,.slc]) (u7 λ(n108 n109 n110 n111 n112 n113:Int) l114 =>
.ite (n107 != 0) (
.done 1 [.bool true]) (
.call F.a40 [.agg #[.int .i64 n108,.int .i64 n109,.int .i64 n110,.int .i64 n111,.int .i64 n112,.int .i64 n113,l114.v]] (sI .i64) (u1 λ(n115:Int) =>
.done 1 [.bool (n115 != 0)]))))) (u1 λb116 =>
.ite (b116) (
.read True (ld T.a1 a1) (sG [.int .i64,.int .i64,.int .i64,.int .i64,.int .i64,.int .i64,.slc]) (u7 λ(n117 n118 n119 n120 n121 n122:Int) l123 =>
.actU (st T.a1 a0 (.agg #[.int .i64 n117,.int .i64 n118,.int .i64 n119,.int .i64 n120,.int .i64 n121,.int .i64 n122,l123.v])) <|
.read True (ld T.a1 a0) (sG [.int .i64,.int .i64,.int .i64,.int .i64,.int .i64,.int .i64,.slc]) (u7 λ(n124 n125 n126 n127 n128 n129:Int) l130 =>
.done 0 [.agg #[.int .i64 n124,.int .i64 n125,.int .i64 n126,.int .i64 n127,.int .i64 n128,.int .i64 n129,l130.v],.int .i64 6]))) (
.read True (ld T.a1 a21) (sG [.int .i64,.int .i64,.int .i64,.int .i64,.int .i64,.int .i64,.slc]) (u7 λ(n131 n132 n133 n134 n135 n136:Int) l137 =>
.actU (st T.a1 a0 (.agg #[.int .i64 n131,.int .i64 n132,.int .i64 n133,.int .i64 n134,.int .i64 n135,.int .i64 n136,l137.v])) <|
.read True (ld T.a1 a0) (sG [.int .i64,.int .i64,.int .i64,.int .i64,.int .i64,.int .i64,.slc]) (u7 λ(n138 n139 n140 n141 n142 n143:Int) l144 =>
.done 0 [.agg #[.int .i64 n138,.int .i64 n139,.int .i64 n140,.int .i64 n141,.int .i64 n142,.int .i64 n143,l144.v],.int .i64 0]))))))))))))))))))))))
theorem zpx (raw:Sl) {w:World} {R:List Value->World->Prop} (h:(z01d raw).wp P (λ_=>True) w λe vs w'=>e=0/\R vs w'):Ret P F.a35 #[.slice raw.a raw.len raw.cap] w R:=dS (n:=92) (rv:=[.cell 2 38,.tmp 3]) { cnd:=[(985162418487330,[]),(1123700883587100,[]),(19807040591672596250983170100,[])],blk:=[(0,[])],reg:=[(27,[(89,.one .bool)])],lps:=[(0,[(8,.one .str),(59,.one (.int .i64))])] } [.val (.slice raw.a raw.len raw.cap)] Go.Proofs.Tryz.func116 (by kernel_rfl) (by kernel_rfl) (by kernel_rfl) (by kernel_rfl) h
def z02d (x:Option Addr) (offset:Int):Prog :=
.act (Instr.box T.a15 (.pointer x)) sA (u1 λa0 =>
.act (Instr.box T.a11 (.int .i64 offset)) sA (u1 λa1 =>
.act (new T.a7) sA (u1 λa2 =>
.read True (ld T.a15 a0) sP (u1 λp3 =>
.ite (Option.isNone p3) (
.actU (st T.a7 a2 (.agg #[.int .i64 0,.int .i64 0,.int .i64 0])) <|
.read True (ld T.a7 a2) (sG [.int .i64,.int .i64,.int .i64]) (u3 λ(n4 n5 n6:Int) =>
.done 0 [.agg #[.int .i64 n4,.int .i64 n5,.int .i64 n6],.bool false])) (
.bind 1 [.one .bool] (
.tick <|
.hold True (ld T.a15 a0) sP (u1 λp7 =>
.read True (ld T.a15 a0) sP (u1 λp8 =>
.ex [.adr] (c1 λa9=>p8=some a9) (u1 λa10 =>
.read True (ld T.a20 (Addr.add a10 4)) sL (u1 λl11 =>
.call F.a95 [.int .i64 (((l11.len:Nat):Int)),.func (Fn.func 158) #[] #[.pointer (some a0),.pointer (some a1)]] (sI .i64) (u1 λ(n12:Int) =>
.untick <|
.call F.a27 [.pointer p7,.int .i64 (IntKind.wrap .i64 (n12-1))] (.tup [.agg [.int .i64,.int .i64,.int .i64],.one .bool]) (u4 λ(n13 n14 n15:Int) b16 =>
.actU (st T.a7 a2 (.agg #[.int .i64 n13,.int .i64 n14,.int .i64 n15])) <|
.lt (.bool) (b16) λb17 =>
.untick <|
.done 1 [.bool b17]))))))) (u1 λb18 =>
.read True (ld T.a7 a2) (sG [.int .i64,.int .i64,.int .i64]) (u3 λ(n19 n20 n21:Int) =>
.done 0 [.agg #[.int .i64 n19,.int .i64 n20,.int .i64 n21],.bool b18])))))))
theorem zqy (x:Option Addr) (offset:Int) {w:World} {R:List Value->World->Prop} (h:(z02d x offset).wp P (λ_=>True) w λe vs w'=>e=0/\R vs w'):Ret P F.a24 #[.pointer x,.int .i64 offset] w R:=dS (n:=21) (rv:=[.cell 4 121,.tmp 5]) { cnd:=[],blk:=[],reg:=[(3,[(5,.one .bool)])],lps:=[] } [.val (.pointer x),.val (.int .i64 offset)] Go.Proofs.Tryz.func117 (by kernel_rfl) (by kernel_rfl) (by kernel_rfl) (by kernel_rfl) h
def z035 (b_0 b_1 b_2 b_3 b_4 b_5:Int) (b_6:Sl):Prog :=
.act (Instr.box T.a1 (.agg #[.int .i64 b_0,.int .i64 b_1,.int .i64 b_2,.int .i64 b_3,.int .i64 b_4,.int .i64 b_5,b_6.v])) sA (u1 λa0 =>
.bind 1 [.one .bool] (
.read True (ld T.a1 a0) (sG [.int .i64,.int .i64,.int .i64,.int .i64,.int .i64,.int .i64,.slc]) (u7 λ(n1 n2 n3 n4 n5 n6:Int) l7 =>
.call F.a44 [.agg #[.int .i64 n1,.int .i64 n2,.int .i64 n3,.int .i64 n4,.int .i64 n5,.int .i64 n6,l7.v]] sB (u1 λb8 =>
.read (not b8=false) (ld T.a1 a0) (sG [.int .i64,.int .i64,.int .i64,.int .i64,.int .i64,.int .i64,.slc]) (u7 λ(n9 n10 n11 n12 n13 n14:Int) l15 =>
.ite (not b8) (
.done 1 [.bool true]) (
.call F.a42 [.agg #[.int .i64 n9,.int .i64 n10,.int .i64 n11,.int .i64 n12,.int .i64 n13,.int .i64 n14,l15.v]] sB (u1 λb16 =>
.lt (.bool) (not b16) λb17 =>
.done 1 [.bool b17])))))) (u1 λb18 =>
.ite (b18) (
.done 0 [.int .i64 2]) (
.read True (ld T.a19 (Addr.add a0 6)) sL (u1 λl19 =>
.lt (.bool) (decide (((l19.len:Nat):Int)>64)) λb20 =>
.ite (b20) (
.done 0 [.int .i64 7]) (
.read True (ld T.a19 (Addr.add a0 6)) sL (u1 λl21 =>
.bind 1 [] (
.loop 2 [.one (.int .i64)] (0,()) (u1 λ(n22:Int) =>
.ite (decide (n22<((l21.len:Nat):Int))) (
.ex [.adr] (c1 λa23=>0<=n22/\n22<((l21.len:Nat):Int)/\l21.a=some a23) (u1 λa24 =>
.read True (ld T.a3 (Addr.add a24 (Int.toNat n22*4))) (sG [.str,.str,.bool,.int .i64]) (u4 λs25 s26 b27 (n28:Int) =>
.act (new T.a3) sA (u1 λa29 =>
.actU (st T.a3 a29 (.agg #[.string s25,.string s26,.bool b27,.int .i64 n28])) <|
.read True (ld T.a3 a29) (sG [.str,.str,.bool,.int .i64]) (u4 λs30 s31 b32 (n33:Int) =>
.call F.a47 [.agg #[.string s30,.string s31,.bool b32,.int .i64 n33]] (sI .i64) (u1 λ(n34:Int) =>
.lt (.int .i64) (n34) λ(n35:Int) =>
.ite (n35 != 0) (
.lt (.int .i64) (n35) λ(n36:Int) =>
.done 0 [.int .i64 n36]) (
.done 2 [.int .i64 (IntKind.wrap .i64 (n22+1))]))))))) (
.done 1 []))) (u0 <|
.read True (ld T.a1 a0) (sG [.int .i64,.int .i64,.int .i64,.int .i64,.int .i64,.int .i64,.slc]) (u7 λ(n37 n38 n39 n40 n41 n42:Int) l43 =>
.call F.a39 [.agg #[.int .i64 n37,.int .i64 n38,.int .i64 n39,.int .i64 n40,.int .i64 n41,.int .i64 n42,l43.v]] (sI .i64) (u1 λ(n44:Int) =>
.lt (.int .i64) (IntKind.wrap .i64 (n44-1)) λ(n45:Int) =>
.bind 1 [.one .bool] (
.read True (ld T.a11 (Addr.add a0 0)) (sI .i64) (u1 λ(n46:Int) =>
.read (decide (n46>IntKind.wrap .i64 (1099511627776-n45))=false) (ld T.a11 (Addr.add a0 1)) (sI .i64) (u1 λ(n47:Int) =>
.read (decide (n46>IntKind.wrap .i64 (1099511627776-n45))=false/\decide (n47>0)=true) (ld T.a1 a0) (sG [.int .i64,.int .i64,.int .i64,.int .i64,.int .i64,.int .i64,.slc]) (u7 λ(n48 n49 n50 n51 n52 n53:Int) l54 =>
.ite (decide (n46>IntKind.wrap .i64 (1099511627776-n45))) (
.done 1 [.bool true]) (
.ite (decide (n47>0)) (
.call F.a43 [.agg #[.int .i64 n48,.int .i64 n49,.int .i64 n50,.int .i64 n51,.int .i64 n52,.int .i64 n53,l54.v]] sB (u1 λb55 =>
.read (not b55=true) (ld T.a10 (Addr.add a0 3)) (sI .i64) (u1 λ(n56:Int) =>
.done 1 [.bool (not b55 && decide (n56>IntKind.wrap .i64 (2147483647-n45)))]))) (
.done 1 [.bool false])))))) (u1 λb57 =>
.ite (b57) (
.done 0 [.int .i64 24]) (
.done 0 [.int .i64 0])))))))))))
theorem zqi (b_0 b_1 b_2 b_3 b_4 b_5:Int) (b_6:Sl) {w:World} {R:List Value->World->Prop} (h:(z035 b_0 b_1 b_2 b_3 b_4 b_5 b_6).wp P (λ_=>True) w λe vs w'=>e=0/\R vs w'):Ret P F.a40 #[.agg #[.int .i64 b_0,.int .i64 b_1,.int .i64 b_2,.int .i64 b_3,.int .i64 b_4,.int .i64 b_5,.slice b_6.a b_6.len b_6.cap]] w R:=dS (n:=59) (rv:=[.tmp 2]) { cnd:=[],blk:=[(1,[])],reg:=[(1,[(7,.one .bool)]),(13,[(58,.one .bool)])],lps:=[(1,[(24,.one (.int .i64))])] } [.val (.agg #[.int .i64 b_0,.int .i64 b_1,.int .i64 b_2,.int .i64 b_3,.int .i64 b_4,.int .i64 b_5,.slice b_6.a b_6.len b_6.cap])] Go.Proofs.Tryz.func118 (by kernel_rfl) (by kernel_rfl) (by kernel_rfl) (by kernel_rfl) h
def z00n (b_0 b_1 b_2 b_3 b_4 b_5:Int) (b_6:Sl):Prog :=
.act (Instr.box T.a1 (.agg #[.int .i64 b_0,.int .i64 b_1,.int .i64 b_2,.int .i64 b_3,.int .i64 b_4,.int .i64 b_5,b_6.v])) sA (u1 λa0 =>
.read True (ld T.a1 a0) (sG [.int .i64,.int .i64,.int .i64,.int .i64,.int .i64,.int .i64,.slc]) (u7 λ(n1 n2 n3 n4 n5 n6:Int) l7 =>
.call F.a40 [.agg #[.int .i64 n1,.int .i64 n2,.int .i64 n3,.int .i64 n4,.int .i64 n5,.int .i64 n6,l7.v]] (sI .i64) (u1 λ(n8:Int) =>
.ite (n8 != 0) (
.done 0 [.int .i64 0]) (
.tick <|
.hold True (ld T.a11 (Addr.add a0 0)) (sI .i64) (u1 λ(n9:Int) =>
.read True (ld T.a1 a0) (sG [.int .i64,.int .i64,.int .i64,.int .i64,.int .i64,.int .i64,.slc]) (u7 λ(n10 n11 n12 n13 n14 n15:Int) l16 =>
.call F.a39 [.agg #[.int .i64 n10,.int .i64 n11,.int .i64 n12,.int .i64 n13,.int .i64 n14,.int .i64 n15,l16.v]] (sI .i64) (u1 λ(n17:Int) =>
.lt (.int .i64) (IntKind.wrap .i64 (n9+n17)) λ(n18:Int) =>
.untick <|
.done 0 [.int .i64 n18])))))))
theorem zpq (b_0 b_1 b_2 b_3 b_4 b_5:Int) (b_6:Sl) {w:World} {R:List Value->World->Prop} (h:(z00n b_0 b_1 b_2 b_3 b_4 b_5 b_6).wp P (λ_=>True) w λe vs w'=>e=0/\R vs w'):Ret P F.a38 #[.agg #[.int .i64 b_0,.int .i64 b_1,.int .i64 b_2,.int .i64 b_3,.int .i64 b_4,.int .i64 b_5,.slice b_6.a b_6.len b_6.cap]] w R:=dS (n:=11) (rv:=[.tmp 2]) { cnd:=[],blk:=[],reg:=[],lps:=[] } [.val (.agg #[.int .i64 b_0,.int .i64 b_1,.int .i64 b_2,.int .i64 b_3,.int .i64 b_4,.int .i64 b_5,.slice b_6.a b_6.len b_6.cap])] Go.Proofs.Tryz.func119 (by kernel_rfl) (by kernel_rfl) (by kernel_rfl) (by kernel_rfl) h
def z019 (b_0 b_1 b_2 b_3 b_4 b_5:Int) (b_6:Sl):Prog :=
.act (Instr.box T.a1 (.agg #[.int .i64 b_0,.int .i64 b_1,.int .i64 b_2,.int .i64 b_3,.int .i64 b_4,.int .i64 b_5,b_6.v])) sA (u1 λa0 =>
.read True (ld T.a10 (Addr.add a0 4)) (sI .i64) (u1 λ(n1:Int) =>
.read ((n1 == 2)=false) (ld T.a10 (Addr.add a0 4)) (sI .i64) (u1 λ(n2:Int) =>
.lt (.bool) (n1 == 2 || n2 == 3) λb3 =>
.done 0 [.bool b3])))
theorem zru (b_0 b_1 b_2 b_3 b_4 b_5:Int) (b_6:Sl) {w:World} {R:List Value->World->Prop} (h:(z019 b_0 b_1 b_2 b_3 b_4 b_5 b_6).wp P (λ_=>True) w λe vs w'=>e=0/\R vs w'):Ret P F.a43 #[.agg #[.int .i64 b_0,.int .i64 b_1,.int .i64 b_2,.int .i64 b_3,.int .i64 b_4,.int .i64 b_5,.slice b_6.a b_6.len b_6.cap]] w R:=dS (n:=11) (rv:=[.tmp 2]) { cnd:=[],blk:=[],reg:=[],lps:=[] } [.val (.agg #[.int .i64 b_0,.int .i64 b_1,.int .i64 b_2,.int .i64 b_3,.int .i64 b_4,.int .i64 b_5,.slice b_6.a b_6.len b_6.cap])] Go.Proofs.Tryz.func120 (by kernel_rfl) (by kernel_rfl) (by kernel_rfl) (by kernel_rfl) h
def z00e (b_0 b_1 b_2 b_3 b_4 b_5:Int) (b_6:Sl):Prog :=
.act (Instr.box T.a1 (.agg #[.int .i64 b_0,.int .i64 b_1,.int .i64 b_2,.int .i64 b_3,.int .i64 b_4,.int .i64 b_5,b_6.v])) sA (u1 λa0 =>
.act (new T.a1) sA (u1 λa1 =>
.read True (ld T.a19 (Addr.add a0 6)) sL (u1 λl2 =>
.act (app T.a19 T.a19 T.a19 (.slice none 0 0) l2.v) sL (u1 λl3 =>
.actU (st T.a19 (Addr.add a0 6) l3.v) <|
.read True (ld T.a1 a0) (sG [.int .i64,.int .i64,.int .i64,.int .i64,.int .i64,.int .i64,.slc]) (u7 λ(n4 n5 n6 n7 n8 n9:Int) l10 =>
.actU (st T.a1 a1 (.agg #[.int .i64 n4,.int .i64 n5,.int .i64 n6,.int .i64 n7,.int .i64 n8,.int .i64 n9,l10.v])) <|
.read True (ld T.a1 a1) (sG [.int .i64,.int .i64,.int .i64,.int .i64,.int .i64,.int .i64,.slc]) (u7 λ(n11 n12 n13 n14 n15 n16:Int) l17 =>
.done 0 [.agg #[.int .i64 n11,.int .i64 n12,.int .i64 n13,.int .i64 n14,.int .i64 n15,.int .i64 n16,l17.v]]))))))
theorem zp1 (b_0 b_1 b_2 b_3 b_4 b_5:Int) (b_6:Sl) {w:World} {R:List Value->World->Prop} (h:(z00e b_0 b_1 b_2 b_3 b_4 b_5 b_6).wp P (λ_=>True) w λe vs w'=>e=0/\R vs w'):Ret P F.a34 #[.agg #[.int .i64 b_0,.int .i64 b_1,.int .i64 b_2,.int .i64 b_3,.int .i64 b_4,.int .i64 b_5,.slice b_6.a b_6.len b_6.cap]] w R:=dS (n:=8) (rv:=[.cell 2 38]) { cnd:=[],blk:=[],reg:=[],lps:=[] } [.val (.agg #[.int .i64 b_0,.int .i64 b_1,.int .i64 b_2,.int .i64 b_3,.int .i64 b_4,.int .i64 b_5,.slice b_6.a b_6.len b_6.cap])] Go.Proofs.Tryz.func121 (by kernel_rfl) (by kernel_rfl) (by kernel_rfl) (by kernel_rfl) h
def z00m (b_0 b_1 b_2 b_3 b_4 b_5:Int) (b_6:Sl) (from_:Int) (to_:Int):Prog :=
.act (Instr.box T.a1 (.agg #[.int .i64 b_0,.int .i64 b_1,.int .i64 b_2,.int .i64 b_3,.int .i64 b_4,.int .i64 b_5,b_6.v])) sA (u1 λa0 =>
.act (new T.a1) sA (u1 λa1 =>
.read True (ld T.a1 a0) (sG [.int .i64,.int .i64,.int .i64,.int .i64,.int .i64,.int .i64,.slc]) (u7 λ(n2 n3 n4 n5 n6 n7:Int) l8 =>
.act (new T.a1) sA (u1 λa9 =>
.actU (st T.a1 a9 (.agg #[.int .i64 n2,.int .i64 n3,.int .i64 n4,.int .i64 n5,.int .i64 n6,.int .i64 n7,l8.v])) <|
.read True (ld T.a19 (Addr.add a0 6)) sL (u1 λl10 =>
.must (0<=from_/\from_<=to_/\to_<=((l10.cap:Nat):Int)) <|
.act (app T.a19 T.a19 T.a19 (.slice none 0 0) (.slice (z1g l10.a 4 (Int.toNat from_) l10.cap) (Int.toNat to_-Int.toNat from_) (l10.cap-Int.toNat from_))) sL (u1 λl11 =>
.actU (st T.a19 (Addr.add a9 6) l11.v) <|
.read True (ld T.a11 (Addr.add a9 0)) (sI .i64) (u1 λ(n12:Int) =>
.actU (st T.a11 (Addr.add a9 0) (.int .i64 (IntKind.wrap .i64 (n12+from_)))) <|
.read True (ld T.a11 (Addr.add a9 1)) (sI .i64) (u1 λ(n13:Int) =>
.bind 1 [] (
.ite (decide (n13>0)) (
.read True (ld T.a10 (Addr.add a9 3)) (sI .i64) (u1 λ(n14:Int) =>
.actU (st T.a10 (Addr.add a9 3) (.int .i64 (IntKind.wrap .i64 (n14+from_)))) <|
.done 1 [])) (
.done 1 [])) (u0 <|
.read True (ld T.a1 a9) (sG [.int .i64,.int .i64,.int .i64,.int .i64,.int .i64,.int .i64,.slc]) (u7 λ(n15 n16 n17 n18 n19 n20:Int) l21 =>
.actU (st T.a1 a1 (.agg #[.int .i64 n15,.int .i64 n16,.int .i64 n17,.int .i64 n18,.int .i64 n19,.int .i64 n20,l21.v])) <|
.read True (ld T.a1 a1) (sG [.int .i64,.int .i64,.int .i64,.int .i64,.int .i64,.int .i64,.slc]) (u7 λ(n22 n23 n24 n25 n26 n27:Int) l28 =>
.done 0 [.agg #[.int .i64 n22,.int .i64 n23,.int .i64 n24,.int .i64 n25,.int .i64 n26,.int .i64 n27,l28.v]])))))))))))
theorem zry (b_0 b_1 b_2 b_3 b_4 b_5:Int) (b_6:Sl) (from_ to_:Int) {w:World} {R:List Value->World->Prop} (h:(z00m b_0 b_1 b_2 b_3 b_4 b_5 b_6 from_ to_).wp P (λ_=>True) w λe vs w'=>e=0/\R vs w'):Ret P F.a45 #[.agg #[.int .i64 b_0,.int .i64 b_1,.int .i64 b_2,.int .i64 b_3,.int .i64 b_4,.int .i64 b_5,.slice b_6.a b_6.len b_6.cap],.int .i64 from_,.int .i64 to_] w R:=dS (n:=30) (rv:=[.cell 6 38]) { cnd:=[(2130303778839,[])],blk:=[],reg:=[],lps:=[] } [.val (.agg #[.int .i64 b_0,.int .i64 b_1,.int .i64 b_2,.int .i64 b_3,.int .i64 b_4,.int .i64 b_5,.slice b_6.a b_6.len b_6.cap]),.val (.int .i64 from_),.val (.int .i64 to_)] Go.Proofs.Tryz.func122 (by kernel_rfl) (by kernel_rfl) (by kernel_rfl) (by kernel_rfl) h
def z03j (l:Option Addr) (name:ByteArray) (end_:ByteArray):Prog :=
.ex [.adr] (c1 λa0=>l=some a0) (u1 λa1 =>
.read True (ld T.a32 (Addr.add a1 1)) sS (u1 λs2 =>
.lt (.int .i64) (IntKind.wrap .i64 (((ByteArray.size s2:Nat):Int)+1)) λ(n3:Int) =>
.must ((((ByteArray.size name:Nat):Int) != IntKind.wrap .i64 (IntKind.wrap .i64 (n3+11)+((ByteArray.size end_:Nat):Int)))=false->0<=IntKind.wrap .i64 (n3+11)/\IntKind.wrap .i64 (n3+11)<=((ByteArray.size name:Nat):Int)) <|
.ite (((ByteArray.size name:Nat):Int) != IntKind.wrap .i64 (IntKind.wrap .i64 (n3+11)+((ByteArray.size end_:Nat):Int)) || not (ByteArray.toList (ByteArray.extract name (Int.toNat (IntKind.wrap .i64 (n3+11))) (ByteArray.size name)) == ByteArray.toList end_)) (
.done 0 [.int .i64 0,.bool false]) (
.must (0<=n3/\n3<=IntKind.wrap .i64 (n3+11)/\IntKind.wrap .i64 (n3+11)<=((ByteArray.size name:Nat):Int)) <|
.act (convert T.a32 T.a27 (.string (ByteArray.extract name (Int.toNat n3) (Int.toNat (IntKind.wrap .i64 (n3+11)))))) sL (u1 λl4 =>
.bind 1 [.one (.int .i64)] (
.loop 2 [.one (.int .i64),.one (.int .i64)] (0,(0,())) (u2 λ(n5 n6:Int) =>
.ite (decide (n6<((l4.len:Nat):Int))) (
.ex [.adr] (c1 λa7=>0<=n6/\n6<((l4.len:Nat):Int)/\l4.a=some a7) (u1 λa8 =>
.read True (ld T.a38 (Addr.add a8 (Int.toNat n6*1))) (sI .u8) (u1 λ(n9:Int) =>
.lt (.int .u8) (n9) λ(n10:Int) =>
.lt (.bool) (decide (n10>=48) && decide (n10<=57)) λb11 =>
.bind 3 [.one (.int .i64)] (
.ite (b11) (
.lt (.int .i64) (IntKind.wrap .i64 (((BitVec.toNat (BitVec.ofInt 64 (IntKind.wrap .i64 (n5*16)) ||| BitVec.ofInt 64 (IntKind.wrap .i64 (IntKind.wrap .u8 (n10-48)))):Nat):Int))) λ(n12:Int) =>
.done 3 [.int .i64 n12]) (
.lt (.bool) (decide (n10>=97) && decide (n10<=102)) λb13 =>
.ite (b13) (
.lt (.int .i64) (IntKind.wrap .i64 (((BitVec.toNat (BitVec.ofInt 64 (IntKind.wrap .i64 (n5*16)) ||| BitVec.ofInt 64 (IntKind.wrap .i64 (IntKind.wrap .u8 (IntKind.wrap .u8 (n10-97)+10)))):Nat):Int))) λ(n14:Int) =>
.done 3 [.int .i64 n14]) (
.done 0 [.int .i64 0,.bool false]))) (u1 λ(n15:Int) =>
.done 2 [.int .i64 n15,.int .i64 (IntKind.wrap .i64 (n6+1))])))) (
.done 1 [.int .i64 n5]))) (u1 λ(n16:Int) =>
.lt (.int .i64) (n16) λ(n17:Int) =>
.done 0 [.int .i64 n17,.bool true])))))
theorem zr4 (l:Option Addr) (name end_:ByteArray) {w:World} {R:List Value->World->Prop} (h:(z03j l name end_).wp P (λ_=>True) w λe vs w'=>e=0/\R vs w'):Ret P F.a59 #[.pointer l,.string name,.string end_] w R:=dS (n:=74) (rv:=[.tmp 6,.tmp 7]) { cnd:=[(19342794667089993088630829,[(9,.one (.int .i64))])],blk:=[(0,[(9,.one (.int .i64))])],reg:=[],lps:=[(0,[(9,.one (.int .i64)),(41,.one (.int .i64))])] } [.val (.pointer l),.val (.string name),.val (.string end_)] Go.Proofs.Tryz.func123 (by kernel_rfl) (by kernel_rfl) (by kernel_rfl) (by kernel_rfl) h
def z00u (body:Sl) (base:Int):Prog :=
.call F.a148 [body.v] sP (u1 λp0 =>
.call F.a149 [.pointer p0] (sI .i64) (u1 λ(n1:Int) =>
.call F.a155 [.pointer p0] (sI .u64) (u1 λ(n2:Int) =>
.call F.a155 [.pointer p0] (sI .u64) (u1 λ(n3:Int) =>
.lt (.int .i64) (n1) λ(n4:Int) =>
.lt (.int .u64) (n2) λ(n5:Int) =>
.lt (.int .u64) (n3) λ(n6:Int) =>
.call F.a150 [.pointer p0] (sI .i64) (u1 λ(n7:Int) =>
.ite (n7 != 0 || n4 != 83 || n5 != IntKind.wrap .u64 base || decide (base>1099511627776) || decide (n6>1099511627776)) (
.done 0 [.int .i64 0,.bool false]) (
.lt (.int .i64) (IntKind.wrap .i64 n6) λ(n8:Int) =>
.lt (.bool) (n6 == 0 || decide (IntKind.wrap .i64 n6>base)) λb9 =>
.done 0 [.int .i64 n8,.bool b9]))))))
theorem zs4 (body:Sl) (base:Int) {w:World} {R:List Value->World->Prop} (h:(z00u body base).wp P (λ_=>True) w λe vs w'=>e=0/\R vs w'):Ret P F.a73 #[.slice body.a body.len body.cap,.int .i64 base] w R:=dS (n:=49) (rv:=[.tmp 4,.tmp 5]) { cnd:=[],blk:=[],reg:=[],lps:=[] } [.val (.slice body.a body.len body.cap),.val (.int .i64 base)] Go.Proofs.Tryz.func125 (by kernel_rfl) (by kernel_rfl) (by kernel_rfl) (by kernel_rfl) h
def z01n (b_0 b_1 b_2 b_3 b_4 b_5:Int) (b_6:Sl):Prog :=
.act (Instr.box T.a1 (.agg #[.int .i64 b_0,.int .i64 b_1,.int .i64 b_2,.int .i64 b_3,.int .i64 b_4,.int .i64 b_5,b_6.v])) sA (u1 λa0 =>
.read True (ld T.a1 a0) (sG [.int .i64,.int .i64,.int .i64,.int .i64,.int .i64,.int .i64,.slc]) (u7 λ(n1 n2 n3 n4 n5 n6:Int) l7 =>
.call F.a40 [.agg #[.int .i64 n1,.int .i64 n2,.int .i64 n3,.int .i64 n4,.int .i64 n5,.int .i64 n6,l7.v]] (sI .i64) (u1 λ(n8:Int) =>
.lt (.int .i64) (n8) λ(n9:Int) =>
.ite (n9 != 0) (
.lt (.int .i64) (n9) λ(n10:Int) =>
.done 0 [.slice none 0 0,.int .i64 n10]) (
.bind 1 [.one .slc] (
.tick <|
.hold True (ld T.a10 (Addr.add a0 4)) (sI .i64) (u1 λ(n11:Int) =>
.hold True (ld T.a11 (Addr.add a0 0)) (sI .i64) (u1 λ(n12:Int) =>
.hold True (ld T.a11 (Addr.add a0 1)) (sI .i64) (u1 λ(n13:Int) =>
.both (
.act (Instr.buildSlice T.a27 2 #[(0,.int .u8 1),(1,.int .u8 (IntKind.wrap .u8 n11))]) sL (u1 λl14 =>
.call F.a159 [.int .u64 (IntKind.wrap .u64 n12)] sL (u1 λl15 =>
.call F.a159 [.int .u64 (IntKind.wrap .u64 n13)] sL (u1 λl16 =>
.untick <|
.act (Instr.buildSlice T.a23 3 #[(0,l14.v),(1,l15.v),(2,l16.v)]) sL (u1 λl17 =>
.call F.a147 [l17.v] sL (u1 λl18 =>
.untick <|
.done 1 [l18.v])))))) (
.call F.a159 [.int .u64 (IntKind.wrap .u64 n12)] sL (u1 λl19 =>
.both (
.act (Instr.buildSlice T.a27 2 #[(0,.int .u8 1),(1,.int .u8 (IntKind.wrap .u8 n11))]) sL (u1 λl20 =>
.call F.a159 [.int .u64 (IntKind.wrap .u64 n13)] sL (u1 λl21 =>
.untick <|
.act (Instr.buildSlice T.a23 3 #[(0,l20.v),(1,l19.v),(2,l21.v)]) sL (u1 λl22 =>
.call F.a147 [l22.v] sL (u1 λl23 =>
.untick <|
.done 1 [l23.v]))))) (
.call F.a159 [.int .u64 (IntKind.wrap .u64 n13)] sL (u1 λl24 =>
.act (Instr.buildSlice T.a27 2 #[(0,.int .u8 1),(1,.int .u8 (IntKind.wrap .u8 n11))]) sL (u1 λl25 =>
.untick <|
.act (Instr.buildSlice T.a23 3 #[(0,l25.v),(1,l19.v),(2,l24.v)]) sL (u1 λl26 =>
.call F.a147 [l26.v] sL (u1 λl27 =>
.untick <|
.done 1 [l27.v]))))))))))) (u1 λl28 =>
.read True (ld T.a11 (Addr.add a0 1)) (sI .i64) (u1 λ(n29:Int) =>
.bind 1 [.one .slc] (
.ite (decide (n29>0)) (
.read True (ld T.a10 (Addr.add a0 2)) (sI .i64) (u1 λ(n30:Int) =>
.call F.a159 [.int .u64 (IntKind.wrap .u64 n30)] sL (u1 λl31 =>
.act (app T.a27 T.a27 T.a27 l28.v l31.v) sL (u1 λl32 =>
.read True (ld T.a1 a0) (sG [.int .i64,.int .i64,.int .i64,.int .i64,.int .i64,.int .i64,.slc]) (u7 λ(n33 n34 n35 n36 n37 n38:Int) l39 =>
.call F.a43 [.agg #[.int .i64 n33,.int .i64 n34,.int .i64 n35,.int .i64 n36,.int .i64 n37,.int .i64 n38,l39.v]] sB (u1 λb40 =>
.bind 2 [.one .slc] (
.ite (not b40) (
.read True (ld T.a10 (Addr.add a0 3)) (sI .i64) (u1 λ(n41:Int) =>
.call F.a159 [.int .u64 (IntKind.wrap .u64 n41)] sL (u1 λl42 =>
.act (app T.a27 T.a27 T.a27 l32.v l42.v) sL (u1 λl43 =>
.done 2 [l43.v])))) (
.done 2 [l32.v])) (u1 λl44 =>
.done 1 [l44.v]))))))) (
.done 1 [l28.v])) (u1 λl45 =>
.read True (ld T.a11 (Addr.add a0 5)) (sI .i64) (u1 λ(n46:Int) =>
.call F.a159 [.int .u64 (IntKind.wrap .u64 n46)] sL (u1 λl47 =>
.act (app T.a27 T.a27 T.a27 l45.v l47.v) sL (u1 λl48 =>
.read True (ld T.a1 a0) (sG [.int .i64,.int .i64,.int .i64,.int .i64,.int .i64,.int .i64,.slc]) (u7 λ(n49 n50 n51 n52 n53 n54:Int) l55 =>
.call F.a43 [.agg #[.int .i64 n49,.int .i64 n50,.int .i64 n51,.int .i64 n52,.int .i64 n53,.int .i64 n54,l55.v]] sB (u1 λb56 =>
.ite (b56) (
.done 0 [l48.v,.int .i64 0]) (
.read True (ld T.a19 (Addr.add a0 6)) sL (u1 λl57 =>
.call F.a159 [.int .u64 (IntKind.wrap .u64 (((l57.len:Nat):Int)))] sL (u1 λl58 =>
.act (app T.a27 T.a27 T.a27 l48.v l58.v) sL (u1 λl59 =>
.read True (ld T.a19 (Addr.add a0 6)) sL (u1 λl60 =>
.bind 1 [.one .slc] (
.loop 2 [.one .slc,.one .str,.one (.int .i64)] ({ a:=l59.a,len:=l59.len,cap:=l59.cap },((ByteArray.mk #[]),(0,()))) (u3 λl61 s62 (n63:Int) =>
.ite (decide (n63<((l60.len:Nat):Int))) (
.ex [.adr] (c1 λa64=>0<=n63/\n63<((l60.len:Nat):Int)/\l60.a=some a64) (u1 λa65 =>
.read True (ld T.a3 (Addr.add a65 (Int.toNat n63*4))) (sG [.str,.str,.bool,.int .i64]) (u4 λs66 s67 b68 (n69:Int) =>
.act (new T.a3) sA (u1 λa70 =>
.actU (st T.a3 a70 (.agg #[.string s66,.string s67,.bool b68,.int .i64 n69])) <|
.read True (ld T.a32 (Addr.add a70 0)) sS (u1 λs71 =>
.call F.a41 [.string s62,.string s71] (sI .i64) (u1 λ(n72:Int) =>
.lt (.int .i64) (n72) λ(n73:Int) =>
.bind 3 [.one .slc] (
.tick <|
.read True (ld T.a11 (Addr.add a70 3)) (sI .i64) (u1 λ(n74:Int) =>
.read True (ld T.a11 (Addr.add a0 5)) (sI .i64) (u1 λ(n75:Int) =>
.hold True (ld T.a4 (Addr.add a70 2)) sB (u1 λb76 =>
.hold True (ld T.a32 (Addr.add a70 0)) sS (u1 λs77 =>
.must (0<=n73/\n73<=((ByteArray.size s77:Nat):Int)) <|
.call F.a146 [.int .i64 (IntKind.wrap .i64 (n74-n75))] sL (u1 λl78 =>
.call F.a145 [.bool b76] sL (u1 λl79 =>
.call F.a159 [.int .u64 (IntKind.wrap .u64 n73)] sL (u1 λl80 =>
.untick <|
.call F.a158 [.string (ByteArray.extract s77 (Int.toNat n73) (ByteArray.size s77))] sL (u1 λl81 =>
.act (Instr.buildSlice T.a23 4 #[(0,l78.v),(1,l79.v),(2,l80.v),(3,l81.v)]) sL (u1 λl82 =>
.call F.a147 [l82.v] sL (u1 λl83 =>
.act (app T.a27 T.a27 T.a27 l61.v l83.v) sL (u1 λl84 =>
.untick <|
.done 3 [l84.v])))))))))))) (u1 λl85 =>
.read True (ld T.a4 (Addr.add a70 2)) sB (u1 λb86 =>
.bind 3 [.one .slc] (
.ite (not b86) (
.read True (ld T.a32 (Addr.add a70 1)) sS (u1 λs87 =>
.call F.a158 [.string s87] sL (u1 λl88 =>
.act (app T.a27 T.a27 T.a27 l85.v l88.v) sL (u1 λl89 =>
.done 3 [l89.v])))) (
.done 3 [l85.v])) (u1 λl90 =>
.read True (ld T.a32 (Addr.add a70 0)) sS (u1 λs91 =>
.lt (.str) (s91) λs92 =>
.done 2 [l90.v,.string s92,.int .i64 (IntKind.wrap .i64 (n63+1))])))))))))) (
.done 1 [l61.v]))) (u1 λl93 =>
.done 0 [l93.v,.int .i64 0]))))))))))))))))))
theorem zq7 (b_0 b_1 b_2 b_3 b_4 b_5:Int) (b_6:Sl) {w:World} {R:List Value->World->Prop} (h:(z01n b_0 b_1 b_2 b_3 b_4 b_5 b_6).wp P (λ_=>True) w λe vs w'=>e=0/\R vs w'):Ret P F.a36 #[.agg #[.int .i64 b_0,.int .i64 b_1,.int .i64 b_2,.int .i64 b_3,.int .i64 b_4,.int .i64 b_5,.slice b_6.a b_6.len b_6.cap]] w R:=dS (n:=107) (rv:=[.tmp 2,.tmp 3]) { cnd:=[(567453553048813608,[(5,.one .slc)]),(576443160117510175,[(5,.one .slc)]),(40240300653644914121111346551586913,[(5,.one .slc)])],blk:=[(0,[(5,.one .slc)])],reg:=[(4,[(5,.one .slc)]),(18,[(5,.one .slc)])],lps:=[(0,[(5,.one .slc),(6,.one .str),(66,.one (.int .i64))])] } [.val (.agg #[.int .i64 b_0,.int .i64 b_1,.int .i64 b_2,.int .i64 b_3,.int .i64 b_4,.int .i64 b_5,.slice b_6.a b_6.len b_6.cap])] Go.Proofs.Tryz.func127 (by kernel_rfl) (by kernel_rfl) (by kernel_rfl) (by kernel_rfl) h
def z01w (parts:Sl):Prog :=
.bind 1 [.one (.int .i64)] (
.loop 2 [.one (.int .i64),.one (.int .i64)] (0,(0,())) (u2 λ(n0 n1:Int) =>
.ite (decide (n1<((parts.len:Nat):Int))) (
.ex [.adr] (c1 λa2=>0<=n1/\n1<((parts.len:Nat):Int)/\parts.a=some a2) (u1 λa3 =>
.read True (ld T.a27 (Addr.add a3 (Int.toNat n1*1))) sL (u1 λl4 =>
.lt (.int .i64) (IntKind.wrap .i64 (n0+((l4.len:Nat):Int))) λ(n5:Int) =>
.ite (decide (n5>262144)) (
.done 0 [.slice none 0 0]) (
.done 2 [.int .i64 n5,.int .i64 (IntKind.wrap .i64 (n1+1))])))) (
.done 1 [.int .i64 n0]))) (u1 λ(n6:Int) =>
.act (Instr.makeSlice T.a27 (.int .i64 0) (.int .i64 (IntKind.wrap .i64 (n6+8)))) sL (u1 λl7 =>
.call F.a22 [.int .u32 (IntKind.wrap .u32 n6)] sL (u1 λl8 =>
.act (app T.a27 T.a27 T.a27 l7.v l8.v) sL (u1 λl9 =>
.bind 1 [.one .slc] (
.loop 2 [.one .slc,.one (.int .i64)] ({ a:=l9.a,len:=l9.len,cap:=l9.cap },(0,())) (u2 λl10 (n11:Int) =>
.ite (decide (n11<((parts.len:Nat):Int))) (
.ex [.adr] (c1 λa12=>0<=n11/\n11<((parts.len:Nat):Int)/\parts.a=some a12) (u1 λa13 =>
.read True (ld T.a27 (Addr.add a13 (Int.toNat n11*1))) sL (u1 λl14 =>
.act (app T.a27 T.a27 T.a27 l10.v l14.v) sL (u1 λl15 =>
.done 2 [l15.v,.int .i64 (IntKind.wrap .i64 (n11+1))])))) (
.done 1 [l10.v]))) (u1 λl16 =>
.act (Instr.buildSlice T.a23 1 #[(0,l16.v)]) sL (u1 λl17 =>
.call F.a21 [l17.v] (sI .u32) (u1 λ(n18:Int) =>
.call F.a22 [.int .u32 n18] sL (u1 λl19 =>
.act (app T.a27 T.a27 T.a27 l16.v l19.v) sL (u1 λl20 =>
.done 0 [l20.v])))))))))
theorem zpa (parts:Sl) {w:World} {R:List Value->World->Prop} (h:(z01w parts).wp P (λ_=>True) w λe vs w'=>e=0/\R vs w'):Ret P F.a20 #[.slice parts.a parts.len parts.cap] w R:=dS (n:=46) (rv:=[.tmp 2]) { cnd:=[],blk:=[(0,[(3,.one (.int .i64))]),(2,[(6,.one .slc)])],reg:=[],lps:=[(0,[(3,.one (.int .i64)),(11,.one (.int .i64))]),(2,[(6,.one .slc),(32,.one (.int .i64))])] } [.val (.slice parts.a parts.len parts.cap)] Go.Proofs.Tryz.func128 (by kernel_rfl) (by kernel_rfl) (by kernel_rfl) (by kernel_rfl) h
def z032 (gap:Int):Prog :=
.ite (decide (gap<1) || decide (gap>4194304)) (
.done 0 [.pointer none,.int .i64 2]) (
.act (Instr.box T.a8 (.agg #[.int .i64 (-1),.int .i64 (-1),.int .i64 (-1),.int .i64 gap,.slice none 0 0])) sA (u1 λa0 =>
.done 0 [.pointer (some a0),.int .i64 0]))
theorem zri (gap:Int) {w:World} {R:List Value->World->Prop} (h:(z032 gap).wp P (λ_=>True) w λe vs w'=>e=0/\R vs w'):Ret P F.a28 #[.int .i64 gap] w R:=dS (n:=14) (rv:=[.tmp 2,.tmp 3]) { cnd:=[],blk:=[],reg:=[],lps:=[] } [.val (.int .i64 gap)] Go.Proofs.Tryz.func129 (by kernel_rfl) (by kernel_rfl) (by kernel_rfl) (by kernel_rfl) h
def zw4 (n:Int):Prog :=
.bind 1 [.one (.int .u64),.one .slc] (
.loop 2 [.one (.int .u64),.one .slc] (n,(⟨none,0,0⟩,())) (u2 λ(n0:Int) l1 =>
.ite (decide (n0>=128)) (
.act (Instr.buildSlice T.a27 1 #[(0,.int .u8 (IntKind.wrap .u8 (((BitVec.toNat (BitVec.ofInt 8 (IntKind.wrap .u8 n0) ||| BitVec.ofInt 8 128):Nat):Int))))]) sL (u1 λl2 =>
.act (app T.a27 T.a27 T.a27 l1.v l2.v) sL (u1 λl3 =>
.lt (.int .u64) (Int.fdiv n0 128) λ(n4:Int) =>
.done 2 [.int .u64 n4,l3.v]))) (
.done 1 [.int .u64 n0,l1.v]))) (u2 λ(n5:Int) l6 =>
.act (Instr.buildSlice T.a27 1 #[(0,.int .u8 (IntKind.wrap .u8 n5))]) sL (u1 λl7 =>
.act (app T.a27 T.a27 T.a27 l6.v l7.v) sL (u1 λl8 =>
.done 0 [l8.v])))
theorem zni (n:Int) {w:World} {R:List Value->World->Prop} (h:(zw4 n).wp P (λ_=>True) w λe vs w'=>e=0/\R vs w'):Ret P F.a159 #[.int .u64 n] w R:=dS (n:=19) (rv:=[.tmp 2]) { cnd:=[],blk:=[(0,[(0,.one (.int .u64)),(3,.one .slc)])],reg:=[],lps:=[(0,[(0,.one (.int .u64)),(3,.one .slc)])] } [.val (.int .u64 n)] Go.Proofs.Tryz.func130 (by kernel_rfl) (by kernel_rfl) (by kernel_rfl) (by kernel_rfl) h
def z015 (b_0 b_1 b_2 b_3 b_4 b_5:Int) (b_6:Sl):Prog :=
.act (Instr.box T.a1 (.agg #[.int .i64 b_0,.int .i64 b_1,.int .i64 b_2,.int .i64 b_3,.int .i64 b_4,.int .i64 b_5,b_6.v])) sA (u1 λa0 =>
.read True (ld T.a19 (Addr.add a0 6)) sL (u1 λl1 =>
.bind 1 [.one (.int .i64)] (
.loop 2 [.one (.int .i64),.one (.int .i64)] (-1,(0,())) (u2 λ(n2 n3:Int) =>
.ite (decide (n3<((l1.len:Nat):Int))) (
.ex [.adr] (c1 λa4=>0<=n3/\n3<((l1.len:Nat):Int)/\l1.a=some a4) (u1 λa5 =>
.read True (ld T.a3 (Addr.add a5 (Int.toNat n3*4))) (sG [.str,.str,.bool,.int .i64]) (u4 λs6 s7 b8 (n9:Int) =>
.act (new T.a3) sA (u1 λa10 =>
.actU (st T.a3 a10 (.agg #[.string s6,.string s7,.bool b8,.int .i64 n9])) <|
.read True (ld T.a11 (Addr.add a10 3)) (sI .i64) (u1 λ(n11:Int) =>
.lt (.int .i64) (if n11>n2 then n11 else n2) λ(n12:Int) =>
.done 2 [.int .i64 n12,.int .i64 (IntKind.wrap .i64 (n3+1))]))))) (
.done 1 [.int .i64 n2]))) (u1 λ(n13:Int) =>
.read True (ld T.a19 (Addr.add a0 6)) sL (u1 λl14 =>
.bind 1 [.one (.int .i64)] (
.ite (((l14.len:Nat):Int) == 0) (
.read True (ld T.a11 (Addr.add a0 5)) (sI .i64) (u1 λ(n15:Int) =>
.lt (.int .i64) (n15) λ(n16:Int) =>
.done 1 [.int .i64 n16])) (
.done 1 [.int .i64 n13])) (u1 λ(n17:Int) =>
.lt (.int .i64) (n17) λ(n18:Int) =>
.done 0 [.int .i64 n18])))))
theorem zr8 (b_0 b_1 b_2 b_3 b_4 b_5:Int) (b_6:Sl) {w:World} {R:List Value->World->Prop} (h:(z015 b_0 b_1 b_2 b_3 b_4 b_5 b_6).wp P (λ_=>True) w λe vs w'=>e=0/\R vs w'):Ret P F.a74 #[.agg #[.int .i64 b_0,.int .i64 b_1,.int .i64 b_2,.int .i64 b_3,.int .i64 b_4,.int .i64 b_5,.slice b_6.a b_6.len b_6.cap]] w R:=dS (n:=25) (rv:=[.tmp 2]) { cnd:=[(51539640341,[(3,.one (.int .i64))])],blk:=[(0,[(3,.one (.int .i64))])],reg:=[],lps:=[(0,[(3,.one (.int .i64)),(9,.one (.int .i64))])] } [.val (.agg #[.int .i64 b_0,.int .i64 b_1,.int .i64 b_2,.int .i64 b_3,.int .i64 b_4,.int .i64 b_5,.slice b_6.a b_6.len b_6.cap])] Go.Proofs.Tryz.func131 (by kernel_rfl) (by kernel_rfl) (by kernel_rfl) (by kernel_rfl) h
def z02q (x:Option Addr) (offset place:Int) (time:Int):Prog :=
.lt (.bool) (Option.isNone x) λb0 =>
.ite (b0) (
.done 0 [.int .i64 1]) (
.call F.a29 [.int .i64 offset,.int .i64 place,.int .i64 time] sB (u1 λb1 =>
.lt (.bool) (not b1) λb2 =>
.ite (b2) (
.done 0 [.int .i64 2]) (
.ex [.adr] (c1 λa3=>x=some a3) (u1 λa4 =>
.read True (ld T.a11 (Addr.add (Addr.add a4 0) 0)) (sI .i64) (u1 λ(n5:Int) =>
.ex [.adr] (c1 λa6=>decide (offset<=n5)=false->x=some a6) (u1 λa7 =>
.read (decide (offset<=n5)=false) (ld T.a10 (Addr.add (Addr.add a7 0) 1)) (sI .i64) (u1 λ(n8:Int) =>
.lt (.bool) (decide (offset<=n5) || decide (place<=n8)) λb9 =>
.ite (b9) (
.done 0 [.int .i64 21]) (
.ex [.adr] (c1 λa10=>x=some a10) (u1 λa11 =>
.read True (ld T.a20 (Addr.add a11 4)) sL (u1 λl12 =>
.lt (.int .i64) (((l12.len:Nat):Int)) λ(n13:Int) =>
.tick <|
.ex [.adr] (c1 λa14=>(n13 == 0)=false->x=some a14) (u1 λa15 =>
.read ((n13 == 0)=false) (ld T.a20 (Addr.add a15 4)) sL (u1 λl16 =>
.ex [.adr] (c1 λa17=>(n13 == 0)=false->0<=IntKind.wrap .i64 (n13-1)/\IntKind.wrap .i64 (n13-1)<((l16.len:Nat):Int)/\l16.a=some a17) (u1 λa18 =>
.read ((n13 == 0)=false) (ld T.a10 (Addr.add (Addr.add a18 (Int.toNat (IntKind.wrap .i64 (n13-1))*3)) 1)) (sI .i64) (u1 λ(n19:Int) =>
.ex [.adr] (c1 λa20=>(n13 == 0)=false->x=some a20) (u1 λa21 =>
.read ((n13 == 0)=false) (ld T.a10 (Addr.add a21 3)) (sI .i64) (u1 λ(n22:Int) =>
.untick <|
.bind 1 [] (
.ite (n13 == 0 || decide (IntKind.wrap .i64 (place-n19)>=n22)) (
.bind 2 [.one .slc] (
.tick <|
.ex [.adr] (c1 λa23=>x=some a23) (u1 λa24 =>
.hold True (ld T.a20 (Addr.add a24 4)) sL (u1 λl25 =>
.ex [.adr] (c1 λa26=>x=some a26) (u1 λa27 =>
.read True (ld T.a11 (Addr.add (Addr.add a27 0) 2)) (sI .i64) (u1 λ(n28:Int) =>
.act (Instr.buildSlice T.a20 1 #[(0,.agg #[.int .i64 offset,.int .i64 place,.int .i64 n28])]) sL (u1 λl29 =>
.untick <|
.act (app T.a20 T.a20 T.a20 l25.v l29.v) sL (u1 λl30 =>
.untick <|
.done 2 [l30.v]))))))) (u1 λl31 =>
.ex [.adr] (c1 λa32=>x=some a32) (u1 λa33 =>
.actU (st T.a20 (Addr.add a33 4) l31.v) <|
.done 1 []))) (
.done 1 [])) (u0 <|
.ex [.adr] (c1 λa34=>x=some a34) (u1 λa35 =>
.read True (ld T.a11 (Addr.add (Addr.add a35 0) 2)) (sI .i64) (u1 λ(n36:Int) =>
.ex [.adr] (c1 λa37=>x=some a37) (u1 λa38 =>
.actU (st T.a9 (Addr.add a38 0) (.agg #[.int .i64 offset,.int .i64 place,.int .i64 (if time>n36 then time else n36)])) <|
.done 0 [.int .i64 0]))))))))))))))))))))
theorem zq9 (x:Option Addr) (offset place time:Int) {w:World} {R:List Value->World->Prop} (h:(z02q x offset place time).wp P (λ_=>True) w λe vs w'=>e=0/\R vs w'):Ret P F.a26 #[.pointer x,.int .i64 offset,.int .i64 place,.int .i64 time] w R:=dS (n:=93) (rv:=[.tmp 8]) { cnd:=[(4951741267675589621019836477,[])],blk:=[],reg:=[(9,[(10,.one .slc)])],lps:=[] } [.val (.pointer x),.val (.int .i64 offset),.val (.int .i64 place),.val (.int .i64 time)] Go.Proofs.Tryz.func132 (by kernel_rfl) (by kernel_rfl) (by kernel_rfl) (by kernel_rfl) h
def zxx (n:Int):Prog :=
.ite (decide (n>=0)) (
.call F.a117 [.int .u64 (IntKind.wrap .u64 (2*IntKind.wrap .u64 n))] sL (u1 λl0 =>
.done 0 [l0.v])) (
.call F.a117 [.int .u64 (IntKind.wrap .u64 (IntKind.wrap .u64 (2*IntKind.wrap .u64 (IntKind.wrap .i64 (0-IntKind.wrap .i64 (n+1))))+1))] sL (u1 λl1 =>
.done 0 [l1.v]))
theorem zm9 (n:Int) {w:World} {R:List Value->World->Prop} (h:(zxx n).wp P (λ_=>True) w λe vs w'=>e=0/\R vs w'):Ret P F.a107 #[.int .i64 n] w R:=dS (n:=16) (rv:=[.tmp 2]) { cnd:=[],blk:=[],reg:=[],lps:=[] } [.val (.int .i64 n)] Go.Proofs.Tryz.func133 (by kernel_rfl) (by kernel_rfl) (by kernel_rfl) (by kernel_rfl) h
def zx2 (on:Bool):Prog :=
.ite (on) (
.act (Instr.buildSlice T.a27 1 #[(0,.int .u8 1)]) sL (u1 λl0 =>
.done 0 [l0.v])) (
.act (Instr.buildSlice T.a27 1 #[(0,.int .u8 0)]) sL (u1 λl1 =>
.done 0 [l1.v]))
theorem zll (on:Bool) {w:World} {R:List Value->World->Prop} (h:(zx2 on).wp P (λ_=>True) w λe vs w'=>e=0/\R vs w'):Ret P F.a106 #[.bool on] w R:=dS (n:=6) (rv:=[.tmp 2]) { cnd:=[],blk:=[],reg:=[],lps:=[] } [.val (.bool on)] Go.Proofs.Tryz.func134 (by kernel_rfl) (by kernel_rfl) (by kernel_rfl) (by kernel_rfl) h
def zy5 (s:ByteArray):Prog :=
.call F.a117 [.int .u64 (IntKind.wrap .u64 (((ByteArray.size s:Nat):Int)))] sL (u1 λl0 =>
.act (app T.a27 T.a32 T.a27 l0.v (.string s)) sL (u1 λl1 =>
.done 0 [l1.v]))
theorem zmq (s:ByteArray) {w:World} {R:List Value->World->Prop} (h:(zy5 s).wp P (λ_=>True) w λe vs w'=>e=0/\R vs w'):Ret P F.a116 #[.string s] w R:=dS (n:=11) (rv:=[.tmp 2]) { cnd:=[],blk:=[],reg:=[],lps:=[] } [.val (.string s)] Go.Proofs.Tryz.func135 (by kernel_rfl) (by kernel_rfl) (by kernel_rfl) (by kernel_rfl) h
def zw9 (n:Int):Prog :=
.bind 1 [.one .slc] (
.loop 2 [.one (.int .u32),.one .slc,.one (.int .i64)] (n,(⟨none,0,0⟩,(0,()))) (u3 λ(n0:Int) l1 (n2:Int) =>
.ite (decide (n2<4)) (
.act (Instr.buildSlice T.a27 1 #[(0,.int .u8 (IntKind.wrap .u8 (Int.tmod n0 256)))]) sL (u1 λl3 =>
.act (app T.a27 T.a27 T.a27 l1.v l3.v) sL (u1 λl4 =>
.lt (.int .u32) (IntKind.wrap .u32 (Int.tdiv n0 256)) λ(n5:Int) =>
.lt (.int .i64) (IntKind.wrap .i64 (n2+1)) λ(n6:Int) =>
.done 2 [.int .u32 n5,l4.v,.int .i64 n6]))) (
.done 1 [l1.v]))) (u1 λl7 =>
.done 0 [l7.v])
theorem zmb (n:Int) {w:World} {R:List Value->World->Prop} (h:(zw9 n).wp P (λ_=>True) w λe vs w'=>e=0/\R vs w'):Ret P F.a122 #[.int .u32 n] w R:=dS (n:=18) (rv:=[.tmp 2]) { cnd:=[],blk:=[(0,[(3,.one .slc)])],reg:=[],lps:=[(0,[(0,.one (.int .u32)),(3,.one .slc),(4,.one (.int .i64))])] } [.val (.int .u32 n)] Go.Proofs.Tryz.func136 (by kernel_rfl) (by kernel_rfl) (by kernel_rfl) (by kernel_rfl) h
def zxl (b:Sl):Prog :=
.act (new T.a0) sA (u1 λa0 =>
.bind 1 [] (
.loop 2 [.one (.int .i64)] (0,()) (u1 λ(n1:Int) =>
.ite (decide (n1<32)) (
.must (0<=n1/\n1<32) <|
.actU (st T.a4 (Addr.add a0 (Int.toNat n1*1)) (.bool true)) <|
.lt (.int .i64) (IntKind.wrap .i64 (n1+1)) λ(n2:Int) =>
.done 2 [.int .i64 n2]) (
.done 1 []))) (u0 <|
.bind 1 [] (
.loop 2 [.one (.int .i64)] (0,()) (u1 λ(n3:Int) =>
.ite (decide (n3<((b.len:Nat):Int))) (
.bind 3 [] (
.ex [.adr] (c1 λa4=>0<=n3/\n3<((b.len:Nat):Int)/\b.a=some a4) (u1 λa5 =>
.read True (ld T.a38 (Addr.add a5 (Int.toNat n3*1))) (sI .u8) (u1 λ(n6:Int) =>
.lt (.int .u8) (n6) λ(n7:Int) =>
.bind 4 [] (
.loop 5 [.one (.int .i64)] (0,()) (u1 λ(n8:Int) =>
.ite (decide (n8<8)) (
.bind 6 [] (
.must ((0:Int)<=0/\(0:Int)<32) <|
.read True (ld T.a4 (Addr.add a0 0)) sB (u1 λb9 =>
.must (0<=IntKind.wrap .u64 n8) <|
.lt (.bool) (not (b9 == (Int.tmod (Int.fdiv n7 (2 ^ min (Int.toNat (IntKind.wrap .u64 n8)) 8)) (2:Int) == 1))) λb10 =>
.bind 7 [] (
.loop 8 [.one (.int .i64)] (0,()) (u1 λ(n11:Int) =>
.ite (decide (n11<31)) (
.must (0<=IntKind.wrap .i64 (n11+1)/\IntKind.wrap .i64 (n11+1)<32) <|
.read True (ld T.a4 (Addr.add a0 (Int.toNat (IntKind.wrap .i64 (n11+1))*1))) sB (u1 λb12 =>
.must (0<=n11/\n11<32) <|
.actU (st T.a4 (Addr.add a0 (Int.toNat n11*1)) (.bool b12)) <|
.lt (.int .i64) (IntKind.wrap .i64 (n11+1)) λ(n13:Int) =>
.done 8 [.int .i64 n13])) (
.done 7 []))) (u0 <|
.must ((0:Int)<=31/\(31:Int)<32) <|
.actU (st T.a4 (Addr.add a0 31) (.bool false)) <|
.bind 7 [] (
.loop 8 [.one (.int .i64)] (0,()) (u1 λ(n14:Int) =>
.ite (decide (n14<32)) (
.must (b10=true->0<=IntKind.wrap .u64 n14) <|
.bind 9 [] (
.ite (b10 && Int.tmod (Int.fdiv 3988292384 (2 ^ min (Int.toNat (IntKind.wrap .u64 n14)) 32)) (2:Int) == 1) (
.must (0<=n14/\n14<32) <|
.read True (ld T.a4 (Addr.add a0 (Int.toNat n14*1))) sB (u1 λb15 =>
.must (0<=n14/\n14<32) <|
.actU (st T.a4 (Addr.add a0 (Int.toNat n14*1)) (.bool (not b15))) <|
.done 9 [])) (
.done 9 [])) (u0 <|
.lt (.int .i64) (IntKind.wrap .i64 (n14+1)) λ(n16:Int) =>
.done 8 [.int .i64 n16])) (
.done 7 []))) (u0 <|
.done 6 [])))) (u0 <|
.lt (.int .i64) (IntKind.wrap .i64 (n8+1)) λ(n17:Int) =>
.done 5 [.int .i64 n17])) (
.done 4 []))) (u0 <|
.done 3 [])))) (u0 <|
.done 2 [.int .i64 (IntKind.wrap .i64 (n3+1))])) (
.done 1 []))) (u0 <|
.bind 1 [.one (.int .u32)] (
.loop 2 [.one (.int .u32),.one (.int .i64)] (0,(0,())) (u2 λ(n18 n19:Int) =>
.ite (decide (n19<32)) (
.must (0<=n19/\n19<32) <|
.read True (ld T.a4 (Addr.add a0 (Int.toNat n19*1))) sB (u1 λb20 =>
.bind 3 [.one (.int .u32)] (
.ite (not b20) (
.must (0<=IntKind.wrap .u64 n19) <|
.lt (.int .u32) (IntKind.wrap .u32 (n18+IntKind.wrap .u32 (1*2 ^ min (Int.toNat (IntKind.wrap .u64 n19)) 32))) λ(n21:Int) =>
.done 3 [.int .u32 n21]) (
.done 3 [.int .u32 n18])) (u1 λ(n22:Int) =>
.lt (.int .i64) (IntKind.wrap .i64 (n19+1)) λ(n23:Int) =>
.done 2 [.int .u32 n22,.int .i64 n23]))) (
.done 1 [.int .u32 n18]))) (u1 λ(n24:Int) =>
.lt (.int .u32) (n24) λ(n25:Int) =>
.done 0 [.int .u32 n25]))))
theorem zlf (b:Sl) {w:World} {R:List Value->World->Prop} (h:(zxl b).wp P (λ_=>True) w λe vs w'=>e=0/\R vs w'):Ret P F.a121 #[.slice b.a b.len b.cap] w R:=dS (n:=82) (rv:=[.tmp 2]) { cnd:=[(595018176841575296925756,[]),(9594035304461697130476601419,[(11,.one (.int .u32))])],blk:=[(0,[]),(2,[]),(3,[]),(4,[]),(5,[]),(6,[]),(8,[]),(10,[(11,.one (.int .u32))])],reg:=[],lps:=[(0,[(4,.one (.int .i64))]),(2,[(21,.one (.int .i64))]),(4,[(7,.one (.int .i64))]),(6,[(9,.one (.int .i64))]),(8,[(10,.one (.int .i64))]),(10,[(11,.one (.int .u32)),(12,.one (.int .i64))])] } [.val (.slice b.a b.len b.cap)] Go.Proofs.Tryz.func137 (by kernel_rfl) (by kernel_rfl) (by kernel_rfl) (by kernel_rfl) h
def zwk (r:Option Addr):Prog :=
.call F.a109 [.pointer r,.int .i64 1] sL (u1 λl0 =>
.ite (((l0.len:Nat):Int) == 0) (
.done 0 [.int .i64 0]) (
.ex [.adr] (c1 λa1=>(0:Int)<=0/\0<((l0.len:Nat):Int)/\l0.a=some a1) (u1 λa2 =>
.read True (ld T.a38 (Addr.add a2 0)) (sI .u8) (u1 λ(n3:Int) =>
.lt (.int .i64) (IntKind.wrap .i64 n3) λ(n4:Int) =>
.done 0 [.int .i64 n4]))))
theorem zmf (r:Option Addr) {w:World} {R:List Value->World->Prop} (h:(zwk r).wp P (λ_=>True) w λe vs w'=>e=0/\R vs w'):Ret P F.a108 #[.pointer r] w R:=dS (n:=13) (rv:=[.tmp 2]) { cnd:=[],blk:=[],reg:=[],lps:=[] } [.val (.pointer r)] Go.Proofs.Tryz.func138 (by kernel_rfl) (by kernel_rfl) (by kernel_rfl) (by kernel_rfl) h
def zx4 (r:Option Addr):Prog :=
.ex [.adr] (c1 λa0=>r=some a0) (u1 λa1 =>
.read True (ld T.a2 (Addr.add a1 2)) (sI .i64) (u1 λ(n2:Int) =>
.ite (n2 != 0) (
.done 0 [.int .u64 0]) (
.tick <|
.ex [.adr] (c1 λa3=>r=some a3) (u1 λa4 =>
.read True (ld T.a27 (Addr.add a4 0)) sL (u1 λl5 =>
.ex [.adr] (c1 λa6=>r=some a6) (u1 λa7 =>
.read True (ld T.a10 (Addr.add a7 1)) (sI .i64) (u1 λ(n8:Int) =>
.must (0<=n8/\n8<=((l5.len:Nat):Int)) <|
.call F.a118 [.slice (z1g l5.a 1 (Int.toNat n8) l5.cap) (l5.len-Int.toNat n8) (l5.cap-Int.toNat n8)] (.tup [.one (.int .u64),.one (.int .i64)]) (u2 λ(n9 n10:Int) =>
.lt (.int .u64) (n9) λ(n11:Int) =>
.lt (.int .i64) (n10) λ(n12:Int) =>
.untick <|
.ite (n12 == 0) (
.call F.a115 [.pointer r,.int .i64 6] (.tup []) (u0 <|
.done 0 [.int .u64 0])) (
.ex [.adr] (c1 λa13=>r=some a13) (u1 λa14 =>
.read True (ld T.a10 (Addr.add a14 1)) (sI .i64) (u1 λ(n15:Int) =>
.ex [.adr] (c1 λa16=>r=some a16) (u1 λa17 =>
.actU (st T.a10 (Addr.add a17 1) (.int .i64 (IntKind.wrap .i64 (n15+n12)))) <|
.lt (.int .u64) (n11) λ(n18:Int) =>
.done 0 [.int .u64 n18]))))))))))))
theorem zlw (r:Option Addr) {w:World} {R:List Value->World->Prop} (h:(zx4 r).wp P (λ_=>True) w λe vs w'=>e=0/\R vs w'):Ret P F.a114 #[.pointer r] w R:=dS (n:=36) (rv:=[.tmp 2]) { cnd:=[],blk:=[],reg:=[],lps:=[] } [.val (.pointer r)] Go.Proofs.Tryz.func139 (by kernel_rfl) (by kernel_rfl) (by kernel_rfl) (by kernel_rfl) h
def zws (r:Option Addr):Prog :=
.tick <|
.ex [.adr] (c1 λa0=>r=some a0) (u1 λa1 =>
.read True (ld T.a10 (Addr.add a1 1)) (sI .i64) (u1 λ(n2:Int) =>
.ex [.adr] (c1 λa3=>r=some a3) (u1 λa4 =>
.read True (ld T.a27 (Addr.add a4 0)) sL (u1 λl5 =>
.untick <|
.bind 1 [] (
.ite (decide (n2<((l5.len:Nat):Int))) (
.call F.a115 [.pointer r,.int .i64 6] (.tup []) (u0 <|
.done 1 [])) (
.done 1 [])) (u0 <|
.ex [.adr] (c1 λa6=>r=some a6) (u1 λa7 =>
.read True (ld T.a2 (Addr.add a7 2)) (sI .i64) (u1 λ(n8:Int) =>
.lt (.int .i64) (n8) λ(n9:Int) =>
.done 0 [.int .i64 n9])))))))
theorem znc (r:Option Addr) {w:World} {R:List Value->World->Prop} (h:(zws r).wp P (λ_=>True) w λe vs w'=>e=0/\R vs w'):Ret P F.a110 #[.pointer r] w R:=dS (n:=19) (rv:=[.tmp 2]) { cnd:=[(100663308,[])],blk:=[],reg:=[],lps:=[] } [.val (.pointer r)] Go.Proofs.Tryz.func140 (by kernel_rfl) (by kernel_rfl) (by kernel_rfl) (by kernel_rfl) h
def zxv (r:Option Addr):Prog :=
.call F.a114 [.pointer r] (sI .u64) (u1 λ(n0:Int) =>
.lt (.int .u64) (n0) λ(n1:Int) =>
.ite (decide (n1>2199023255552)) (
.done 0 [.int .i64 (-1)]) (
.lt (.int .i64) (IntKind.wrap .i64 n1) λ(n2:Int) =>
.done 0 [.int .i64 n2]))
theorem zls (r:Option Addr) {w:World} {R:List Value->World->Prop} (h:(zxv r).wp P (λ_=>True) w λe vs w'=>e=0/\R vs w'):Ret P F.a132 #[.pointer r] w R:=dS (n:=10) (rv:=[.tmp 2]) { cnd:=[],blk:=[],reg:=[],lps:=[] } [.val (.pointer r)] Go.Proofs.Tryz.func141 (by kernel_rfl) (by kernel_rfl) (by kernel_rfl) (by kernel_rfl) h
def zxf (r:Option Addr) (time:Int):Prog :=
.call F.a132 [.pointer r] (sI .i64) (u1 λ(n0:Int) =>
.lt (.int .i64) (n0) λ(n1:Int) =>
.bind 1 [.one .slc] (
.loop 2 [.one .slc,.one .str,.one (.int .i64)] (⟨none,0,0⟩,((ByteArray.mk #[]),(0,()))) (u3 λl2 s3 (n4:Int) =>
.ex [.adr] (c1 λa5=>(decide (n4<n1) && decide (n4<65))=true->r=some a5) (u1 λa6 =>
.read ((decide (n4<n1) && decide (n4<65))=true) (ld T.a2 (Addr.add a6 2)) (sI .i64) (u1 λ(n7:Int) =>
.ite (decide (n4<n1) && decide (n4<65) && n7 == 0) (
.call F.a112 [.pointer r] (sI .i64) (u1 λ(n8:Int) =>
.lt (.int .i64) (n8) λ(n9:Int) =>
.ite (decide (n9>2199023255552) || decide (n9 < -2199023255552)) (
.done 0 [.slice none 0 0]) (
.call F.a111 [.pointer r] sB (u1 λb10 =>
.act (new T.a3) sA (u1 λa11 =>
.actU (st T.a3 a11 (.agg #[.string (ByteArray.mk #[]),.string (ByteArray.mk #[]),.bool b10,.int .i64 (IntKind.wrap .i64 (time+n9))])) <|
.call F.a132 [.pointer r] (sI .i64) (u1 λ(n12:Int) =>
.lt (.int .i64) (n12) λ(n13:Int) =>
.call F.a113 [.pointer r,.int .i64 2000] sS (u1 λs14 =>
.lt (.str) (s14) λs15 =>
.ite (decide (n13<0) || decide (n13>((ByteArray.size s3:Nat):Int))) (
.done 0 [.slice none 0 0]) (
.must (0<=n13/\n13<=((ByteArray.size s3:Nat):Int)) <|
.must (((ByteArray.size (ByteArray.extract s3 0 (Int.toNat n13))+ByteArray.size s15:Nat):Int)<=9223372036854775807) <|
.lt (.str) (ByteArray.extract s3 0 (Int.toNat n13)++s15) λs16 =>
.actU (st T.a32 (Addr.add a11 0) (.string s16)) <|
.read True (ld T.a4 (Addr.add a11 2)) sB (u1 λb17 =>
.bind 3 [] (
.ite (not b17) (
.call F.a113 [.pointer r,.int .i64 2000] sS (u1 λs18 =>
.actU (st T.a32 (Addr.add a11 1) (.string s18)) <|
.done 3 [])) (
.done 3 [])) (u0 <|
.read True (ld T.a3 a11) (sG [.str,.str,.bool,.int .i64]) (u4 λs19 s20 b21 (n22:Int) =>
.act (Instr.buildSlice T.a19 1 #[(0,.agg #[.string s19,.string s20,.bool b21,.int .i64 n22])]) sL (u1 λl23 =>
.act (app T.a19 T.a19 T.a19 l2.v l23.v) sL (u1 λl24 =>
.lt (.int .i64) (IntKind.wrap .i64 (n4+1)) λ(n25:Int) =>
.done 2 [l24.v,.string s16,.int .i64 n25]))))))))))))) (
.done 1 [l2.v]))))) (u1 λl26 =>
.done 0 [l26.v]))
theorem zlx (r:Option Addr) (time:Int) {w:World} {R:List Value->World->Prop} (h:(zxf r time).wp P (λ_=>True) w λe vs w'=>e=0/\R vs w'):Ret P F.a131 #[.pointer r,.int .i64 time] w R:=dS (n:=75) (rv:=[.tmp 4]) { cnd:=[(4231240368651202111471682,[])],blk:=[(0,[(6,.one .slc)])],reg:=[],lps:=[(0,[(6,.one .slc),(7,.one .str),(8,.one (.int .i64))])] } [.val (.pointer r),.val (.int .i64 time)] Go.Proofs.Tryz.func142 (by kernel_rfl) (by kernel_rfl) (by kernel_rfl) (by kernel_rfl) h
def z00f (b:Sl):Prog :=
.tick <|
.ex [.adr] (c1 λa0=>(0:Int)<=0/\0<((b.len:Nat):Int)/\b.a=some a0) (u1 λa1 =>
.read True (ld T.a38 (Addr.add a1 0)) (sI .u8) (u1 λ(n2:Int) =>
.ex [.adr] (c1 λa3=>(0:Int)<=1/\1<((b.len:Nat):Int)/\b.a=some a3) (u1 λa4 =>
.read True (ld T.a38 (Addr.add a4 1)) (sI .u8) (u1 λ(n5:Int) =>
.ex [.adr] (c1 λa6=>(0:Int)<=2/\2<((b.len:Nat):Int)/\b.a=some a6) (u1 λa7 =>
.read True (ld T.a38 (Addr.add a7 2)) (sI .u8) (u1 λ(n8:Int) =>
.ex [.adr] (c1 λa9=>(0:Int)<=3/\3<((b.len:Nat):Int)/\b.a=some a9) (u1 λa10 =>
.read True (ld T.a38 (Addr.add a10 3)) (sI .u8) (u1 λ(n11:Int) =>
.lt (.int .u32) (IntKind.wrap .u32 (((BitVec.toNat (BitVec.ofInt 32 (IntKind.wrap .u32 (((BitVec.toNat (BitVec.ofInt 32 (IntKind.wrap .u32 (((BitVec.toNat (BitVec.ofInt 32 (IntKind.wrap .u32 n2) ||| BitVec.ofInt 32 (IntKind.wrap .u32 (IntKind.wrap .u32 n5*256))):Nat):Int))) ||| BitVec.ofInt 32 (IntKind.wrap .u32 (IntKind.wrap .u32 n8*65536))):Nat):Int))) ||| BitVec.ofInt 32 (IntKind.wrap .u32 (IntKind.wrap .u32 n11*16777216))):Nat):Int))) λ(n12:Int) =>
.untick <|
.done 0 [.int .u32 n12]))))))))
theorem zpk (b:Sl) {w:World} {R:List Value->World->Prop} (h:(z00f b).wp P (λ_=>True) w λe vs w'=>e=0/\R vs w'):Ret P F.a23 #[.slice b.a b.len b.cap] w R:=dS (n:=25) (rv:=[.tmp 2]) { cnd:=[],blk:=[],reg:=[],lps:=[] } [.val (.slice b.a b.len b.cap)] Go.Proofs.Tryz.func150 (by kernel_rfl) (by kernel_rfl) (by kernel_rfl) (by kernel_rfl) h
def z01i (parts:Sl):Prog :=
.call F.a19 [.int .u32 0,parts.v] (sI .u32) (u1 λ(n0:Int) =>
.lt (.int .u32) (n0) λ(n1:Int) =>
.done 0 [.int .u32 n1])
theorem zr9 (parts:Sl) {w:World} {R:List Value->World->Prop} (h:(z01i parts).wp P (λ_=>True) w λe vs w'=>e=0/\R vs w'):Ret P F.a21 #[.slice parts.a parts.len parts.cap] w R:=dS (n:=5) (rv:=[.tmp 2]) { cnd:=[],blk:=[],reg:=[],lps:=[] } [.val (.slice parts.a parts.len parts.cap)] Go.Proofs.Tryz.func151 (by kernel_rfl) (by kernel_rfl) (by kernel_rfl) (by kernel_rfl) h
def zx6 (b:Sl):Prog :=
.call F.a0 [b.v] sL (u1 λl0 =>
.act (Instr.box T.a40 (.agg #[l0.v,.int .i64 0,.int .i64 0])) sA (u1 λa1 =>
.done 0 [.pointer (some a1)]))
theorem zmv (b:Sl) {w:World} {R:List Value->World->Prop} (h:(zx6 b).wp P (λ_=>True) w λe vs w'=>e=0/\R vs w'):Ret P F.a148 #[.slice b.a b.len b.cap] w R:=dS (n:=8) (rv:=[.tmp 2]) { cnd:=[],blk:=[],reg:=[],lps:=[] } [.val (.slice b.a b.len b.cap)] Go.Proofs.Tryz.func152 (by kernel_rfl) (by kernel_rfl) (by kernel_rfl) (by kernel_rfl) h
def zw7 (r:Option Addr):Prog :=
.call F.a157 [.pointer r] sB (u1 λb0 =>
.ite (not b0) (
.done 0 [.int .i64 0]) (
.ex [.adr] (c1 λa1=>r=some a1) (u1 λa2 =>
.call F.a161 [.pointer (some (Addr.add a2 0))] (sI .i64) (u1 λ(n3:Int) =>
.ite (n3 == 0) (
.ex [.adr] (c1 λa4=>r=some a4) (u1 λa5 =>
.call F.a160 [.pointer (some (Addr.add a5 0)),.int .i64 6] (.tup []) (u0 <|
.done 0 [.int .i64 0]))) (
.ex [.adr] (c1 λa6=>r=some a6) (u1 λa7 =>
.call F.a162 [.pointer (some (Addr.add a7 0)),.int .i64 1] sL (u1 λl8 =>
.ex [.adr] (c1 λa9=>(0:Int)<=0/\0<((l8.len:Nat):Int)/\l8.a=some a9) (u1 λa10 =>
.read True (ld T.a38 (Addr.add a10 0)) (sI .u8) (u1 λ(n11:Int) =>
.lt (.int .i64) (IntKind.wrap .i64 n11) λ(n12:Int) =>
.done 0 [.int .i64 n12])))))))))
theorem zmh (r:Option Addr) {w:World} {R:List Value->World->Prop} (h:(zw7 r).wp P (λ_=>True) w λe vs w'=>e=0/\R vs w'):Ret P F.a149 #[.pointer r] w R:=dS (n:=22) (rv:=[.tmp 2]) { cnd:=[],blk:=[],reg:=[],lps:=[] } [.val (.pointer r)] Go.Proofs.Tryz.func153 (by kernel_rfl) (by kernel_rfl) (by kernel_rfl) (by kernel_rfl) h
def z034 (r:Option Addr) (most:Int):Prog :=
.call F.a155 [.pointer r] (sI .u64) (u1 λ(n0:Int) =>
.lt (.int .u64) (n0) λ(n1:Int) =>
.ite (decide (n1>IntKind.wrap .u64 most)) (
.lt (.int .i64) (IntKind.wrap .i64 (most+1)) λ(n2:Int) =>
.done 0 [.int .i64 n2]) (
.lt (.int .i64) (IntKind.wrap .i64 n1) λ(n3:Int) =>
.done 0 [.int .i64 n3]))
theorem zq6 (r:Option Addr) (most:Int) {w:World} {R:List Value->World->Prop} (h:(z034 r most).wp P (λ_=>True) w λe vs w'=>e=0/\R vs w'):Ret P F.a48 #[.pointer r,.int .i64 most] w R:=dS (n:=16) (rv:=[.tmp 4]) { cnd:=[],blk:=[],reg:=[],lps:=[] } [.val (.pointer r),.val (.int .i64 most)] Go.Proofs.Tryz.func154 (by kernel_rfl) (by kernel_rfl) (by kernel_rfl) (by kernel_rfl) h
def zxw (r:Option Addr):Prog :=
.ite (Option.isNone r) (
.done 0 [.int .i64 1]) (
.ex [.adr] (c1 λa0=>r=some a0) (u1 λa1 =>
.read True (ld T.a2 (Addr.add (Addr.add a1 0) 2)) (sI .i64) (u1 λ(n2:Int) =>
.lt (.int .i64) (n2) λ(n3:Int) =>
.done 0 [.int .i64 n3])))
theorem zmp (r:Option Addr) {w:World} {R:List Value->World->Prop} (h:(zxw r).wp P (λ_=>True) w λe vs w'=>e=0/\R vs w'):Ret P F.a151 #[.pointer r] w R:=dS (n:=10) (rv:=[.tmp 2]) { cnd:=[],blk:=[],reg:=[],lps:=[] } [.val (.pointer r)] Go.Proofs.Tryz.func155 (by kernel_rfl) (by kernel_rfl) (by kernel_rfl) (by kernel_rfl) h
def z02r (r:Option Addr) (time:Int) (ahead:ByteArray):Prog :=
.act (new T.a3) sA (u1 λa0 =>
.call F.a156 [.pointer r,.int .i64 (-1099511627776),.int .i64 1099511627776] (sI .i64) (u1 λ(n1:Int) =>
.lt (.int .i64) (n1) λ(n2:Int) =>
.call F.a152 [.pointer r] sB (u1 λb3 =>
.act (new T.a3) sA (u1 λa4 =>
.actU (st T.a3 a4 (.agg #[.string (ByteArray.mk #[]),.string (ByteArray.mk #[]),.bool b3,.int .i64 (IntKind.wrap .i64 (time+n2))])) <|
.call F.a48 [.pointer r,.int .i64 1024] (sI .i64) (u1 λ(n5:Int) =>
.lt (.int .i64) (n5) λ(n6:Int) =>
.call F.a154 [.pointer r,.int .i64 1024] sS (u1 λs7 =>
.lt (.str) (s7) λs8 =>
.ite (decide (n6>((ByteArray.size ahead:Nat):Int))) (
.read True (ld T.a3 a4) (sG [.str,.str,.bool,.int .i64]) (u4 λs9 s10 b11 (n12:Int) =>
.actU (st T.a3 a0 (.agg #[.string s9,.string s10,.bool b11,.int .i64 n12])) <|
.read True (ld T.a3 a0) (sG [.str,.str,.bool,.int .i64]) (u4 λs13 s14 b15 (n16:Int) =>
.done 0 [.agg #[.string s13,.string s14,.bool b15,.int .i64 n16],.bool false]))) (
.must (0<=n6/\n6<=((ByteArray.size ahead:Nat):Int)) <|
.must (((ByteArray.size (ByteArray.extract ahead 0 (Int.toNat n6))+ByteArray.size s8:Nat):Int)<=9223372036854775807) <|
.actU (st T.a32 (Addr.add a4 0) (.string (ByteArray.extract ahead 0 (Int.toNat n6)++s8))) <|
.read True (ld T.a4 (Addr.add a4 2)) sB (u1 λb17 =>
.bind 1 [] (
.ite (not b17) (
.call F.a154 [.pointer r,.int .i64 1024] sS (u1 λs18 =>
.actU (st T.a32 (Addr.add a4 1) (.string s18)) <|
.done 1 [])) (
.done 1 [])) (u0 <|
.bind 1 [.one .bool] (
.tick <|
.hold True (ld T.a3 a4) (sG [.str,.str,.bool,.int .i64]) (u4 λs19 s20 b21 (n22:Int) =>
.call F.a151 [.pointer r] (sI .i64) (u1 λ(n23:Int) =>
.read ((n23 == 0)=true) (ld T.a32 (Addr.add a4 0)) sS (u1 λs24 =>
.ite (n23 == 0) (
.call F.a41 [.string ahead,.string s24] (sI .i64) (u1 λ(n25:Int) =>
.untick <|
.actU (st T.a3 a0 (.agg #[.string s19,.string s20,.bool b21,.int .i64 n22])) <|
.lt (.bool) (n25 == n6) λb26 =>
.untick <|
.done 1 [.bool b26])) (
.untick <|
.actU (st T.a3 a0 (.agg #[.string s19,.string s20,.bool b21,.int .i64 n22])) <|
.untick <|
.done 1 [.bool false]))))) (u1 λb27 =>
.read True (ld T.a3 a0) (sG [.str,.str,.bool,.int .i64]) (u4 λs28 s29 b30 (n31:Int) =>
.done 0 [.agg #[.string s28,.string s29,.bool b30,.int .i64 n31],.bool b27])))))))))))
theorem zpw (r:Option Addr) (time:Int) (ahead:ByteArray) {w:World} {R:List Value->World->Prop} (h:(z02r r time ahead).wp P (λ_=>True) w λe vs w'=>e=0/\R vs w'):Ret P F.a46 #[.pointer r,.int .i64 time,.string ahead] w R:=dS (n:=53) (rv:=[.cell 6 125,.tmp 7]) { cnd:=[(7881299347898405,[])],blk:=[],reg:=[(10,[(7,.one .bool)])],lps:=[] } [.val (.pointer r),.val (.int .i64 time),.val (.string ahead)] Go.Proofs.Tryz.func156 (by kernel_rfl) (by kernel_rfl) (by kernel_rfl) (by kernel_rfl) h
def zx1 (r:Option Addr):Prog :=
.ite (Option.isNone r) (
.done 0 [.int .i64 1]) (
.ex [.adr] (c1 λa0=>r=some a0) (u1 λa1 =>
.call F.a161 [.pointer (some (Addr.add a1 0))] (sI .i64) (u1 λ(n2:Int) =>
.bind 1 [] (
.ite (decide (n2>0)) (
.ex [.adr] (c1 λa3=>r=some a3) (u1 λa4 =>
.call F.a160 [.pointer (some (Addr.add a4 0)),.int .i64 6] (.tup []) (u0 <|
.done 1 []))) (
.done 1 [])) (u0 <|
.ex [.adr] (c1 λa5=>r=some a5) (u1 λa6 =>
.read True (ld T.a2 (Addr.add (Addr.add a6 0) 2)) (sI .i64) (u1 λ(n7:Int) =>
.lt (.int .i64) (n7) λ(n8:Int) =>
.done 0 [.int .i64 n8]))))))
theorem zma (r:Option Addr) {w:World} {R:List Value->World->Prop} (h:(zx1 r).wp P (λ_=>True) w λe vs w'=>e=0/\R vs w'):Ret P F.a150 #[.pointer r] w R:=dS (n:=19) (rv:=[.tmp 2]) { cnd:=[(62914569,[])],blk:=[],reg:=[],lps:=[] } [.val (.pointer r)] Go.Proofs.Tryz.func157 (by kernel_rfl) (by kernel_rfl) (by kernel_rfl) (by kernel_rfl) h
def z01m (i:Int) (fv0:Option Addr) (fv1:Option Addr):Prog :=
.tick <|
.read True (Instr.loadAt T.a15 (.pointer fv0)) sP (u1 λp0 =>
.ex [.adr] (c1 λa1=>p0=some a1) (u1 λa2 =>
.read True (ld T.a20 (Addr.add a2 4)) sL (u1 λl3 =>
.ex [.adr] (c1 λa4=>0<=i/\i<((l3.len:Nat):Int)/\l3.a=some a4) (u1 λa5 =>
.read True (ld T.a11 (Addr.add (Addr.add a5 (Int.toNat i*3)) 0)) (sI .i64) (u1 λ(n6:Int) =>
.read True (Instr.loadAt T.a11 (.pointer fv1)) (sI .i64) (u1 λ(n7:Int) =>
.lt (.bool) (decide (n6>n7)) λb8 =>
.untick <|
.done 0 [.bool b8]))))))
theorem zph (i:Int) (fv0 fv1:Option Addr) {w:World} {R:List Value->World->Prop} (h:(z01m i fv0 fv1).wp P (λ_=>True) w λe vs w'=>e=0/\R vs w'):Ret P F.a25 #[.int .i64 i,.pointer fv0,.pointer fv1] w R:=dS (n:=15) (rv:=[.tmp 4]) { cnd:=[],blk:=[],reg:=[],lps:=[] } [.val (.int .i64 i),.val (.pointer fv0),.val (.pointer fv1)] Go.Proofs.Tryz.func158 (by kernel_rfl) (by kernel_rfl) (by kernel_rfl) (by kernel_rfl) h
def z00c (b_0 b_1 b_2 b_3 b_4 b_5:Int) (b_6:Sl):Prog :=
.act (Instr.box T.a1 (.agg #[.int .i64 b_0,.int .i64 b_1,.int .i64 b_2,.int .i64 b_3,.int .i64 b_4,.int .i64 b_5,b_6.v])) sA (u1 λa0 =>
.bind 1 [.one .bool] (
.read True (ld T.a10 (Addr.add a0 4)) (sI .i64) (u1 λ(n1:Int) =>
.read (decide (n1>=0)=true) (ld T.a10 (Addr.add a0 4)) (sI .i64) (u1 λ(n2:Int) =>
.read ((decide (n1>=0) && decide (n2<=3))=true) (ld T.a11 (Addr.add a0 0)) (sI .i64) (u1 λ(n3:Int) =>
.ite (decide (n1>=0) && decide (n2<=3)) (
.call F.a49 [.int .i64 n3,.int .i64 0,.int .i64 1099511627776] sB (u1 λb4 =>
.read (b4=true) (ld T.a11 (Addr.add a0 1)) (sI .i64) (u1 λ(n5:Int) =>
.ite (b4) (
.call F.a49 [.int .i64 n5,.int .i64 0,.int .i64 1048576] sB (u1 λb6 =>
.read (b6=true) (ld T.a10 (Addr.add a0 2)) (sI .i64) (u1 λ(n7:Int) =>
.read ((b6 && decide (n7>=0))=true) (ld T.a10 (Addr.add a0 2)) (sI .i64) (u1 λ(n8:Int) =>
.read ((b6 && decide (n7>=0) && decide (n8<=32767))=true) (ld T.a10 (Addr.add a0 3)) (sI .i64) (u1 λ(n9:Int) =>
.read ((b6 && decide (n7>=0) && decide (n8<=32767) && decide (n9>=0))=true) (ld T.a10 (Addr.add a0 3)) (sI .i64) (u1 λ(n10:Int) =>
.read ((b6 && decide (n7>=0) && decide (n8<=32767) && decide (n9>=0) && decide (n10<=2147483647))=true) (ld T.a11 (Addr.add a0 5)) (sI .i64) (u1 λ(n11:Int) =>
.ite (b6 && decide (n7>=0) && decide (n8<=32767) && decide (n9>=0) && decide (n10<=2147483647)) (
.call F.a49 [.int .i64 n11,.int .i64 0,.int .i64 1099511627776] sB (u1 λb12 =>
.lt (.bool) (b12) λb13 =>
.done 1 [.bool b13])) (
.done 1 [.bool false])))))))) (
.done 1 [.bool false])))) (
.done 1 [.bool false]))))) (u1 λb14 =>
.done 0 [.bool b14]))
theorem zqo (b_0 b_1 b_2 b_3 b_4 b_5:Int) (b_6:Sl) {w:World} {R:List Value->World->Prop} (h:(z00c b_0 b_1 b_2 b_3 b_4 b_5 b_6).wp P (λ_=>True) w λe vs w'=>e=0/\R vs w'):Ret P F.a44 #[.agg #[.int .i64 b_0,.int .i64 b_1,.int .i64 b_2,.int .i64 b_3,.int .i64 b_4,.int .i64 b_5,.slice b_6.a b_6.len b_6.cap]] w R:=dS (n:=46) (rv:=[.tmp 2]) { cnd:=[],blk:=[],reg:=[(1,[(2,.one .bool)])],lps:=[] } [.val (.agg #[.int .i64 b_0,.int .i64 b_1,.int .i64 b_2,.int .i64 b_3,.int .i64 b_4,.int .i64 b_5,.slice b_6.a b_6.len b_6.cap])] Go.Proofs.Tryz.func159 (by kernel_rfl) (by kernel_rfl) (by kernel_rfl) (by kernel_rfl) h
def z006 (b_0 b_1 b_2 b_3 b_4 b_5:Int) (b_6:Sl):Prog :=
.act (Instr.box T.a1 (.agg #[.int .i64 b_0,.int .i64 b_1,.int .i64 b_2,.int .i64 b_3,.int .i64 b_4,.int .i64 b_5,b_6.v])) sA (u1 λa0 =>
.read True (ld T.a11 (Addr.add a0 1)) (sI .i64) (u1 λ(n1:Int) =>
.read ((n1 == 0)=true) (ld T.a10 (Addr.add a0 4)) (sI .i64) (u1 λ(n2:Int) =>
.read ((n1 == 0)=true/\(n2 != 0)=false) (ld T.a10 (Addr.add a0 2)) (sI .i64) (u1 λ(n3:Int) =>
.read ((n1 == 0)=true/\(n2 != 0 || n3 != 0)=false) (ld T.a10 (Addr.add a0 3)) (sI .i64) (u1 λ(n4:Int) =>
.ite (n1 == 0 && (n2 != 0 || n3 != 0 || n4 != 0)) (
.done 0 [.bool false]) (
.read True (ld T.a1 a0) (sG [.int .i64,.int .i64,.int .i64,.int .i64,.int .i64,.int .i64,.slc]) (u7 λ(n5 n6 n7 n8 n9 n10:Int) l11 =>
.call F.a43 [.agg #[.int .i64 n5,.int .i64 n6,.int .i64 n7,.int .i64 n8,.int .i64 n9,.int .i64 n10,l11.v]] sB (u1 λb12 =>
.ite (b12) (
.read True (ld T.a10 (Addr.add a0 3)) (sI .i64) (u1 λ(n13:Int) =>
.read ((n13 == 0)=true) (ld T.a19 (Addr.add a0 6)) sL (u1 λl14 =>
.lt (.bool) (n13 == 0 && ((l14.len:Nat):Int) == 0) λb15 =>
.done 0 [.bool b15]))) (
.read True (ld T.a19 (Addr.add a0 6)) sL (u1 λl16 =>
.lt (.bool) (decide (((l16.len:Nat):Int)>0)) λb17 =>
.done 0 [.bool b17]))))))))))
theorem zrj (b_0 b_1 b_2 b_3 b_4 b_5:Int) (b_6:Sl) {w:World} {R:List Value->World->Prop} (h:(z006 b_0 b_1 b_2 b_3 b_4 b_5 b_6).wp P (λ_=>True) w λe vs w'=>e=0/\R vs w'):Ret P F.a42 #[.agg #[.int .i64 b_0,.int .i64 b_1,.int .i64 b_2,.int .i64 b_3,.int .i64 b_4,.int .i64 b_5,.slice b_6.a b_6.len b_6.cap]] w R:=dS (n:=36) (rv:=[.tmp 2]) { cnd:=[],blk:=[],reg:=[],lps:=[] } [.val (.agg #[.int .i64 b_0,.int .i64 b_1,.int .i64 b_2,.int .i64 b_3,.int .i64 b_4,.int .i64 b_5,.slice b_6.a b_6.len b_6.cap])] Go.Proofs.Tryz.func160 (by kernel_rfl) (by kernel_rfl) (by kernel_rfl) (by kernel_rfl) h
def z01h (r_0 r_1:ByteArray) (r_2:Bool) (r_3:Int):Prog :=
.act (Instr.box T.a3 (.agg #[.string r_0,.string r_1,.bool r_2,.int .i64 r_3])) sA (u1 λa0 =>
.read True (ld T.a32 (Addr.add a0 0)) sS (u1 λs1 =>
.read (decide (((ByteArray.size s1:Nat):Int)>1024)=false) (ld T.a32 (Addr.add a0 1)) sS (u1 λs2 =>
.lt (.bool) (decide (((ByteArray.size s1:Nat):Int)>1024) || decide (((ByteArray.size s2:Nat):Int)>1024)) λb3 =>
.ite (b3) (
.done 0 [.int .i64 7]) (
.read True (ld T.a11 (Addr.add a0 3)) (sI .i64) (u1 λ(n4:Int) =>
.call F.a49 [.int .i64 n4,.int .i64 0,.int .i64 1099511627776] sB (u1 λb5 =>
.read (not b5=false) (ld T.a4 (Addr.add a0 2)) sB (u1 λb6 =>
.read (not b5=false/\b6=true) (ld T.a32 (Addr.add a0 1)) sS (u1 λs7 =>
.lt (.bool) (not b5 || b6 && not (ByteArray.toList s7 == ByteArray.toList (ByteArray.mk #[]))) λb8 =>
.ite (b8) (
.done 0 [.int .i64 2]) (
.done 0 [.int .i64 0])))))))))
theorem zqp (r_0 r_1:ByteArray) (r_2:Bool) (r_3:Int) {w:World} {R:List Value->World->Prop} (h:(z01h r_0 r_1 r_2 r_3).wp P (λ_=>True) w λe vs w'=>e=0/\R vs w'):Ret P F.a47 #[.agg #[.string r_0,.string r_1,.bool r_2,.int .i64 r_3]] w R:=dS (n:=28) (rv:=[.tmp 2]) { cnd:=[],blk:=[],reg:=[],lps:=[] } [.val (.agg #[.string r_0,.string r_1,.bool r_2,.int .i64 r_3])] Go.Proofs.Tryz.func161 (by kernel_rfl) (by kernel_rfl) (by kernel_rfl) (by kernel_rfl) h
def z00i (b_0 b_1 b_2 b_3 b_4 b_5:Int) (b_6:Sl):Prog :=
.act (Instr.box T.a1 (.agg #[.int .i64 b_0,.int .i64 b_1,.int .i64 b_2,.int .i64 b_3,.int .i64 b_4,.int .i64 b_5,b_6.v])) sA (u1 λa0 =>
.read True (ld T.a1 a0) (sG [.int .i64,.int .i64,.int .i64,.int .i64,.int .i64,.int .i64,.slc]) (u7 λ(n1 n2 n3 n4 n5 n6:Int) l7 =>
.call F.a43 [.agg #[.int .i64 n1,.int .i64 n2,.int .i64 n3,.int .i64 n4,.int .i64 n5,.int .i64 n6,l7.v]] sB (u1 λb8 =>
.ite (b8) (
.done 0 [.int .i64 1]) (
.read True (ld T.a19 (Addr.add a0 6)) sL (u1 λl9 =>
.lt (.int .i64) (((l9.len:Nat):Int)) λ(n10:Int) =>
.done 0 [.int .i64 n10])))))
theorem zpl (b_0 b_1 b_2 b_3 b_4 b_5:Int) (b_6:Sl) {w:World} {R:List Value->World->Prop} (h:(z00i b_0 b_1 b_2 b_3 b_4 b_5 b_6).wp P (λ_=>True) w λe vs w'=>e=0/\R vs w'):Ret P F.a39 #[.agg #[.int .i64 b_0,.int .i64 b_1,.int .i64 b_2,.int .i64 b_3,.int .i64 b_4,.int .i64 b_5,.slice b_6.a b_6.len b_6.cap]] w R:=dS (n:=8) (rv:=[.tmp 2]) { cnd:=[],blk:=[],reg:=[],lps:=[] } [.val (.agg #[.int .i64 b_0,.int .i64 b_1,.int .i64 b_2,.int .i64 b_3,.int .i64 b_4,.int .i64 b_5,.slice b_6.a b_6.len b_6.cap])] Go.Proofs.Tryz.func162 (by kernel_rfl) (by kernel_rfl) (by kernel_rfl) (by kernel_rfl) h
def zwm (r:Option Addr):Prog :=
.call F.a157 [.pointer r] sB (u1 λb0 =>
.ite (not b0) (
.done 0 [.int .u64 0]) (
.ex [.adr] (c1 λa1=>r=some a1) (u1 λa2 =>
.call F.a163 [.pointer (some (Addr.add a2 0))] (sI .u64) (u1 λ(n3:Int) =>
.lt (.int .u64) (n3) λ(n4:Int) =>
.done 0 [.int .u64 n4]))))
theorem zlg (r:Option Addr) {w:World} {R:List Value->World->Prop} (h:(zwm r).wp P (λ_=>True) w λe vs w'=>e=0/\R vs w'):Ret P F.a155 #[.pointer r] w R:=dS (n:=10) (rv:=[.tmp 2]) { cnd:=[],blk:=[],reg:=[],lps:=[] } [.val (.pointer r)] Go.Proofs.Tryz.func163 (by kernel_rfl) (by kernel_rfl) (by kernel_rfl) (by kernel_rfl) h
def zxn (parts:Sl):Prog :=
.bind 1 [.one (.int .i64)] (
.loop 2 [.one (.int .i64),.one (.int .i64)] (0,(0,())) (u2 λ(n0 n1:Int) =>
.ite (decide (n1<((parts.len:Nat):Int))) (
.ex [.adr] (c1 λa2=>0<=n1/\n1<((parts.len:Nat):Int)/\parts.a=some a2) (u1 λa3 =>
.read True (ld T.a27 (Addr.add a3 (Int.toNat n1*1))) sL (u1 λl4 =>
.lt (.int .i64) (IntKind.wrap .i64 (n0+((l4.len:Nat):Int))) λ(n5:Int) =>
.done 2 [.int .i64 n5,.int .i64 (IntKind.wrap .i64 (n1+1))]))) (
.done 1 [.int .i64 n0]))) (u1 λ(n6:Int) =>
.act (Instr.makeSlice T.a27 (.int .i64 0) (.int .i64 n6)) sL (u1 λl7 =>
.bind 1 [.one .slc] (
.loop 2 [.one .slc,.one (.int .i64)] ({ a:=l7.a,len:=l7.len,cap:=l7.cap },(0,())) (u2 λl8 (n9:Int) =>
.ite (decide (n9<((parts.len:Nat):Int))) (
.ex [.adr] (c1 λa10=>0<=n9/\n9<((parts.len:Nat):Int)/\parts.a=some a10) (u1 λa11 =>
.read True (ld T.a27 (Addr.add a11 (Int.toNat n9*1))) sL (u1 λl12 =>
.act (app T.a27 T.a27 T.a27 l8.v l12.v) sL (u1 λl13 =>
.done 2 [l13.v,.int .i64 (IntKind.wrap .i64 (n9+1))])))) (
.done 1 [l8.v]))) (u1 λl14 =>
.done 0 [l14.v])))
theorem zm8 (parts:Sl) {w:World} {R:List Value->World->Prop} (h:(zxn parts).wp P (λ_=>True) w λe vs w'=>e=0/\R vs w'):Ret P F.a147 #[.slice parts.a parts.len parts.cap] w R:=dS (n:=33) (rv:=[.tmp 2]) { cnd:=[],blk:=[(0,[(3,.one (.int .i64))]),(2,[(6,.one .slc)])],reg:=[],lps:=[(0,[(3,.one (.int .i64)),(11,.one (.int .i64))]),(2,[(6,.one .slc),(24,.one (.int .i64))])] } [.val (.slice parts.a parts.len parts.cap)] Go.Proofs.Tryz.func164 (by kernel_rfl) (by kernel_rfl) (by kernel_rfl) (by kernel_rfl) h
def z00a (a:ByteArray) (b:ByteArray):Prog :=
.lt (.int .i64) (if ((ByteArray.size b:Nat):Int)<((ByteArray.size a:Nat):Int) then ((ByteArray.size b:Nat):Int) else ((ByteArray.size a:Nat):Int)) λ(n0:Int) =>
.bind 1 [] (
.loop 2 [.one (.int .i64)] (0,()) (u1 λ(n1:Int) =>
.ite (decide (n1<n0)) (
.lt (.int .i64) (n1) λ(n2:Int) =>
.tick <|
.must (0<=n2/\n2<((ByteArray.size a:Nat):Int)) <|
.must (0<=n2/\n2<((ByteArray.size b:Nat):Int)) <|
.untick <|
.ite (bt a n2 != bt b n2) (
.lt (.int .i64) (n2) λ(n3:Int) =>
.done 0 [.int .i64 n3]) (
.done 2 [.int .i64 (IntKind.wrap .i64 (n1+1))])) (
.done 1 []))) (u0 <|
.lt (.int .i64) (n0) λ(n4:Int) =>
.done 0 [.int .i64 n4])
theorem zqj (a b:ByteArray) {w:World} {R:List Value->World->Prop} (h:(z00a a b).wp P (λ_=>True) w λe vs w'=>e=0/\R vs w'):Ret P F.a41 #[.string a,.string b] w R:=dS (n:=26) (rv:=[.tmp 4]) { cnd:=[],blk:=[(0,[])],reg:=[],lps:=[(0,[(13,.one (.int .i64))])] } [.val (.string a),.val (.string b)] Go.Proofs.Tryz.func165 (by kernel_rfl) (by kernel_rfl) (by kernel_rfl) (by kernel_rfl) h
def zwu (n:Int):Prog :=
.call F.a159 [.int .u64 (IntKind.wrap .u64 (((BitVec.toNat (BitVec.ofInt 64 (IntKind.wrap .u64 (IntKind.wrap .u64 n*2)) ^^^ BitVec.ofInt 64 (IntKind.wrap .u64 (Int.fdiv n 9223372036854775808))):Nat):Int)))] sL (u1 λl0 =>
.done 0 [l0.v])
theorem zmw (n:Int) {w:World} {R:List Value->World->Prop} (h:(zwu n).wp P (λ_=>True) w λe vs w'=>e=0/\R vs w'):Ret P F.a146 #[.int .i64 n] w R:=dS (n:=11) (rv:=[.tmp 2]) { cnd:=[],blk:=[],reg:=[],lps:=[] } [.val (.int .i64 n)] Go.Proofs.Tryz.func166 (by kernel_rfl) (by kernel_rfl) (by kernel_rfl) (by kernel_rfl) h
def zwc (on:Bool):Prog :=
.ite (on) (
.act (Instr.buildSlice T.a27 1 #[(0,.int .u8 1)]) sL (u1 λl0 =>
.done 0 [l0.v])) (
.act (Instr.buildSlice T.a27 1 #[(0,.int .u8 0)]) sL (u1 λl1 =>
.done 0 [l1.v]))
theorem zn4 (on:Bool) {w:World} {R:List Value->World->Prop} (h:(zwc on).wp P (λ_=>True) w λe vs w'=>e=0/\R vs w'):Ret P F.a145 #[.bool on] w R:=dS (n:=6) (rv:=[.tmp 2]) { cnd:=[],blk:=[],reg:=[],lps:=[] } [.val (.bool on)] Go.Proofs.Tryz.func167 (by kernel_rfl) (by kernel_rfl) (by kernel_rfl) (by kernel_rfl) h
def zwn (s:ByteArray):Prog :=
.call F.a159 [.int .u64 (IntKind.wrap .u64 (((ByteArray.size s:Nat):Int)))] sL (u1 λl0 =>
.act (app T.a27 T.a32 T.a27 l0.v (.string s)) sL (u1 λl1 =>
.done 0 [l1.v]))
theorem zmy (s:ByteArray) {w:World} {R:List Value->World->Prop} (h:(zwn s).wp P (λ_=>True) w λe vs w'=>e=0/\R vs w'):Ret P F.a158 #[.string s] w R:=dS (n:=9) (rv:=[.tmp 2]) { cnd:=[],blk:=[],reg:=[],lps:=[] } [.val (.string s)] Go.Proofs.Tryz.func168 (by kernel_rfl) (by kernel_rfl) (by kernel_rfl) (by kernel_rfl) h
def z00h (n:Int):Prog :=
.act (Instr.buildSlice T.a27 4 #[(0,.int .u8 (IntKind.wrap .u8 n)),(1,.int .u8 (IntKind.wrap .u8 (Int.fdiv n 256))),(2,.int .u8 (IntKind.wrap .u8 (Int.fdiv n 65536))),(3,.int .u8 (IntKind.wrap .u8 (Int.fdiv n 16777216)))]) sL (u1 λl0 =>
.done 0 [l0.v])
theorem zp6 (n:Int) {w:World} {R:List Value->World->Prop} (h:(z00h n).wp P (λ_=>True) w λe vs w'=>e=0/\R vs w'):Ret P F.a22 #[.int .u32 n] w R:=dS (n:=15) (rv:=[.tmp 2]) { cnd:=[],blk:=[],reg:=[],lps:=[] } [.val (.int .u32 n)] Go.Proofs.Tryz.func169 (by kernel_rfl) (by kernel_rfl) (by kernel_rfl) (by kernel_rfl) h
def z02s (offset place:Int) (time:Int):Prog :=
.lt (.bool) (decide (offset>=0) && decide (offset<=1099511627776) && decide (place>=0) && decide (place<=4194304) && decide (time>=0) && decide (time<=1099511627776)) λb0 =>
.done 0 [.bool b0]
theorem zqm (offset place time:Int) {w:World} {R:List Value->World->Prop} (h:(z02s offset place time).wp P (λ_=>True) w λe vs w'=>e=0/\R vs w'):Ret P F.a29 #[.int .i64 offset,.int .i64 place,.int .i64 time] w R:=dS (n:=29) (rv:=[.tmp 6]) { cnd:=[],blk:=[],reg:=[],lps:=[] } [.val (.int .i64 offset),.val (.int .i64 place),.val (.int .i64 time)] Go.Proofs.Tryz.func170 (by kernel_rfl) (by kernel_rfl) (by kernel_rfl) (by kernel_rfl) h
def zwp (r:Option Addr) (n:Int):Prog :=
.bind 1 [] (
.ite (decide (n<0)) (
.call F.a115 [.pointer r,.int .i64 2] (.tup []) (u0 <|
.done 1 [])) (
.done 1 [])) (u0 <|
.tick <|
.ex [.adr] (c1 λa0=>r=some a0) (u1 λa1 =>
.read True (ld T.a27 (Addr.add a1 0)) sL (u1 λl2 =>
.ex [.adr] (c1 λa3=>r=some a3) (u1 λa4 =>
.read True (ld T.a10 (Addr.add a4 1)) (sI .i64) (u1 λ(n5:Int) =>
.untick <|
.bind 1 [] (
.ite (decide (n>IntKind.wrap .i64 (((l2.len:Nat):Int)-n5))) (
.call F.a115 [.pointer r,.int .i64 6] (.tup []) (u0 <|
.done 1 [])) (
.done 1 [])) (u0 <|
.ex [.adr] (c1 λa6=>r=some a6) (u1 λa7 =>
.read True (ld T.a2 (Addr.add a7 2)) (sI .i64) (u1 λ(n8:Int) =>
.ite (n8 != 0) (
.done 0 [.slice none 0 0]) (
.tick <|
.ex [.adr] (c1 λa9=>r=some a9) (u1 λa10 =>
.read True (ld T.a27 (Addr.add a10 0)) sL (u1 λl11 =>
.ex [.adr] (c1 λa12=>r=some a12) (u1 λa13 =>
.read True (ld T.a10 (Addr.add a13 1)) (sI .i64) (u1 λ(n14:Int) =>
.ex [.adr] (c1 λa15=>r=some a15) (u1 λa16 =>
.read True (ld T.a10 (Addr.add a16 1)) (sI .i64) (u1 λ(n17:Int) =>
.must (0<=n14/\n14<=IntKind.wrap .i64 (n17+n)/\IntKind.wrap .i64 (n17+n)<=((l11.cap:Nat):Int)) <|
.act (app T.a27 T.a27 T.a27 (.slice none 0 0) (.slice (z1g l11.a 1 (Int.toNat n14) l11.cap) (Int.toNat (IntKind.wrap .i64 (n17+n))-Int.toNat n14) (l11.cap-Int.toNat n14))) sL (u1 λl18 =>
.untick <|
.ex [.adr] (c1 λa19=>r=some a19) (u1 λa20 =>
.read True (ld T.a10 (Addr.add a20 1)) (sI .i64) (u1 λ(n21:Int) =>
.ex [.adr] (c1 λa22=>r=some a22) (u1 λa23 =>
.actU (st T.a10 (Addr.add a23 1) (.int .i64 (IntKind.wrap .i64 (n21+n)))) <|
.done 0 [l18.v])))))))))))))))))))
theorem zm0 (r:Option Addr) (n:Int) {w:World} {R:List Value->World->Prop} (h:(zwp r n).wp P (λ_=>True) w λe vs w'=>e=0/\R vs w'):Ret P F.a109 #[.pointer r,.int .i64 n] w R:=dS (n:=55) (rv:=[.tmp 4]) { cnd:=[(3145735,[]),(51539607573,[])],blk:=[],reg:=[],lps:=[] } [.val (.pointer r),.val (.int .i64 n)] Go.Proofs.Tryz.func171 (by kernel_rfl) (by kernel_rfl) (by kernel_rfl) (by kernel_rfl) h
def zxd (b:Sl):Prog :=
.bind 1 [.one (.int .i64)] (
.loop 2 [.one (.int .i64)] (0,()) (u1 λ(n0:Int) =>
.ex [.adr] (c1 λa1=>(decide (n0<((b.len:Nat):Int)) && decide (n0<10))=true->0<=n0/\n0<((b.len:Nat):Int)/\b.a=some a1) (u1 λa2 =>
.read ((decide (n0<((b.len:Nat):Int)) && decide (n0<10))=true) (ld T.a38 (Addr.add a2 (Int.toNat n0*1))) (sI .u8) (u1 λ(n3:Int) =>
.ite (decide (n0<((b.len:Nat):Int)) && decide (n0<10) && decide (n3>=128)) (
.lt (.int .i64) (IntKind.wrap .i64 (n0+1)) λ(n4:Int) =>
.done 2 [.int .i64 n4]) (
.done 1 [.int .i64 n0]))))) (u1 λ(n5:Int) =>
.ite (decide (n5>=((b.len:Nat):Int)) || decide (n5>=10)) (
.done 0 [.int .u64 0,.int .i64 0]) (
.ex [.adr] (c1 λa6=>decide (n5>0)=true->0<=n5/\n5<((b.len:Nat):Int)/\b.a=some a6) (u1 λa7 =>
.read (decide (n5>0)=true) (ld T.a38 (Addr.add a7 (Int.toNat n5*1))) (sI .u8) (u1 λ(n8:Int) =>
.ex [.adr] (c1 λa9=>(decide (n5>0) && n8 == 0)=false/\(n5 == 9)=true->0<=n5/\n5<((b.len:Nat):Int)/\b.a=some a9) (u1 λa10 =>
.read ((decide (n5>0) && n8 == 0)=false/\(n5 == 9)=true) (ld T.a38 (Addr.add a10 (Int.toNat n5*1))) (sI .u8) (u1 λ(n11:Int) =>
.ite (decide (n5>0) && n8 == 0 || n5 == 9 && decide (n11>1)) (
.done 0 [.int .u64 0,.int .i64 0]) (
.lt (.int .i64) (n5) λ(n12:Int) =>
.bind 1 [.one (.int .u64)] (
.loop 2 [.one (.int .u64),.one (.int .i64)] (0,(n12,())) (u2 λ(n13 n14:Int) =>
.ite (decide (n14>=0)) (
.ex [.adr] (c1 λa15=>0<=n14/\n14<((b.len:Nat):Int)/\b.a=some a15) (u1 λa16 =>
.read True (ld T.a38 (Addr.add a16 (Int.toNat n14*1))) (sI .u8) (u1 λ(n17:Int) =>
.lt (.int .u64) (IntKind.wrap .u64 (IntKind.wrap .u64 (n13*128)+IntKind.wrap .u64 (Int.tmod n17 128))) λ(n18:Int) =>
.lt (.int .i64) (IntKind.wrap .i64 (n14-1)) λ(n19:Int) =>
.done 2 [.int .u64 n18,.int .i64 n19]))) (
.done 1 [.int .u64 n13]))) (u1 λ(n20:Int) =>
.lt (.int .u64) (n20) λ(n21:Int) =>
.lt (.int .i64) (IntKind.wrap .i64 (n5+1)) λ(n22:Int) =>
.done 0 [.int .u64 n21,.int .i64 n22]))))))))
theorem zmt (b:Sl) {w:World} {R:List Value->World->Prop} (h:(zxd b).wp P (λ_=>True) w λe vs w'=>e=0/\R vs w'):Ret P F.a118 #[.slice b.a b.len b.cap] w R:=dS (n:=69) (rv:=[.tmp 2,.tmp 3]) { cnd:=[],blk:=[(0,[(4,.one (.int .i64))]),(2,[(5,.one (.int .u64))])],reg:=[],lps:=[(0,[(4,.one (.int .i64))]),(2,[(5,.one (.int .u64)),(6,.one (.int .i64))])] } [.val (.slice b.a b.len b.cap)] Go.Proofs.Tryz.func172 (by kernel_rfl) (by kernel_rfl) (by kernel_rfl) (by kernel_rfl) h
def zwy (r:Option Addr) (e_:Int):Prog :=
.ex [.adr] (c1 λa0=>r=some a0) (u1 λa1 =>
.read True (ld T.a2 (Addr.add a1 2)) (sI .i64) (u1 λ(n2:Int) =>
.bind 1 [] (
.ite (n2 == 0) (
.ex [.adr] (c1 λa3=>r=some a3) (u1 λa4 =>
.actU (st T.a2 (Addr.add a4 2) (.int .i64 e_)) <|
.done 1 [])) (
.done 1 [])) (u0 <|
.done 0 [])))
theorem znf (r:Option Addr) (e_:Int) {w:World} {R:List Value->World->Prop} (h:(zwy r e_).wp P (λ_=>True) w λe vs w'=>e=0/\R vs w'):Ret P F.a115 #[.pointer r,.int .i64 e_] w R:=dS (n:=13) (rv:=[]) { cnd:=[(31457288,[])],blk:=[],reg:=[],lps:=[] } [.val (.pointer r),.val (.int .i64 e_)] Go.Proofs.Tryz.func173 (by kernel_rfl) (by kernel_rfl) (by kernel_rfl) (by kernel_rfl) h
def zwt (r:Option Addr):Prog :=
.call F.a114 [.pointer r] (sI .u64) (u1 λ(n0:Int) =>
.lt (.int .u64) (n0) λ(n1:Int) =>
.ite (Int.tmod n1 (2:Int) == 1) (
.lt (.int .i64) (IntKind.wrap .i64 (IntKind.wrap .i64 (0-IntKind.wrap .i64 (IntKind.wrap .u64 (Int.tdiv n1 2)))-1)) λ(n2:Int) =>
.done 0 [.int .i64 n2]) (
.lt (.int .i64) (IntKind.wrap .i64 (IntKind.wrap .u64 (Int.tdiv n1 2))) λ(n3:Int) =>
.done 0 [.int .i64 n3]))
theorem zly (r:Option Addr) {w:World} {R:List Value->World->Prop} (h:(zwt r).wp P (λ_=>True) w λe vs w'=>e=0/\R vs w'):Ret P F.a112 #[.pointer r] w R:=dS (n:=17) (rv:=[.tmp 2]) { cnd:=[],blk:=[],reg:=[],lps:=[] } [.val (.pointer r)] Go.Proofs.Tryz.func174 (by kernel_rfl) (by kernel_rfl) (by kernel_rfl) (by kernel_rfl) h
def zxu (r:Option Addr):Prog :=
.tick <|
.ex [.adr] (c1 λa0=>r=some a0) (u1 λa1 =>
.read True (ld T.a2 (Addr.add a1 2)) (sI .i64) (u1 λ(n2:Int) =>
.ex [.adr] (c1 λa3=>(n2 == 0)=true->r=some a3) (u1 λa4 =>
.read ((n2 == 0)=true) (ld T.a10 (Addr.add a4 1)) (sI .i64) (u1 λ(n5:Int) =>
.ex [.adr] (c1 λa6=>(n2 == 0)=true->r=some a6) (u1 λa7 =>
.read ((n2 == 0)=true) (ld T.a27 (Addr.add a7 0)) sL (u1 λl8 =>
.ex [.adr] (c1 λa9=>(n2 == 0)=true/\decide (n5>=((l8.len:Nat):Int))=false->r=some a9) (u1 λa10 =>
.read ((n2 == 0)=true/\decide (n5>=((l8.len:Nat):Int))=false) (ld T.a27 (Addr.add a10 0)) sL (u1 λl11 =>
.ex [.adr] (c1 λa12=>(n2 == 0)=true/\decide (n5>=((l8.len:Nat):Int))=false->r=some a12) (u1 λa13 =>
.read ((n2 == 0)=true/\decide (n5>=((l8.len:Nat):Int))=false) (ld T.a10 (Addr.add a13 1)) (sI .i64) (u1 λ(n14:Int) =>
.ex [.adr] (c1 λa15=>(n2 == 0)=true/\decide (n5>=((l8.len:Nat):Int))=false->0<=n14/\n14<((l11.len:Nat):Int)/\l11.a=some a15) (u1 λa16 =>
.read ((n2 == 0)=true/\decide (n5>=((l8.len:Nat):Int))=false) (ld T.a38 (Addr.add a16 (Int.toNat n14*1))) (sI .u8) (u1 λ(n17:Int) =>
.untick <|
.bind 1 [] (
.ite (n2 == 0 && (decide (n5>=((l8.len:Nat):Int)) || decide (n17>1))) (
.call F.a115 [.pointer r,.int .i64 6] (.tup []) (u0 <|
.done 1 [])) (
.done 1 [])) (u0 <|
.call F.a108 [.pointer r] (sI .i64) (u1 λ(n18:Int) =>
.lt (.bool) (n18 == 1) λb19 =>
.done 0 [.bool b19]))))))))))))))
theorem zlu (r:Option Addr) {w:World} {R:List Value->World->Prop} (h:(zxu r).wp P (λ_=>True) w λe vs w'=>e=0/\R vs w'):Ret P F.a111 #[.pointer r] w R:=dS (n:=38) (rv:=[.tmp 2]) { cnd:=[(105553116266528,[])],blk:=[],reg:=[],lps:=[] } [.val (.pointer r)] Go.Proofs.Tryz.func175 (by kernel_rfl) (by kernel_rfl) (by kernel_rfl) (by kernel_rfl) h
def zx7 (r:Option Addr) (most:Int):Prog :=
.ex [.adr] (c1 λa0=>r=some a0) (u1 λa1 =>
.read True (ld T.a10 (Addr.add a1 1)) (sI .i64) (u1 λ(n2:Int) =>
.lt (.int .i64) (n2) λ(n3:Int) =>
.call F.a114 [.pointer r] (sI .u64) (u1 λ(n4:Int) =>
.lt (.int .u64) (n4) λ(n5:Int) =>
.ex [.adr] (c1 λa6=>r=some a6) (u1 λa7 =>
.read True (ld T.a2 (Addr.add a7 2)) (sI .i64) (u1 λ(n8:Int) =>
.bind 1 [] (
.ite (n8 == 0 && (decide (most<0) && decide (n5>0) || decide (most>=0) && decide (n5>IntKind.wrap .u64 most))) (
.call F.a115 [.pointer r,.int .i64 7] (.tup []) (u0 <|
.done 1 [])) (
.done 1 [])) (u0 <|
.tick <|
.ex [.adr] (c1 λa9=>r=some a9) (u1 λa10 =>
.read True (ld T.a2 (Addr.add a10 2)) (sI .i64) (u1 λ(n11:Int) =>
.ex [.adr] (c1 λa12=>(n11 == 0)=true->r=some a12) (u1 λa13 =>
.read ((n11 == 0)=true) (ld T.a27 (Addr.add a13 0)) sL (u1 λl14 =>
.ex [.adr] (c1 λa15=>(n11 == 0)=true->r=some a15) (u1 λa16 =>
.read ((n11 == 0)=true) (ld T.a10 (Addr.add a16 1)) (sI .i64) (u1 λ(n17:Int) =>
.untick <|
.bind 1 [] (
.ite (n11 == 0 && decide (n5>IntKind.wrap .u64 (IntKind.wrap .i64 (((l14.len:Nat):Int)-n17)))) (
.call F.a115 [.pointer r,.int .i64 6] (.tup []) (u0 <|
.done 1 [])) (
.done 1 [])) (u0 <|
.ex [.adr] (c1 λa18=>r=some a18) (u1 λa19 =>
.read True (ld T.a2 (Addr.add a19 2)) (sI .i64) (u1 λ(n20:Int) =>
.ite (n20 != 0) (
.ex [.adr] (c1 λa21=>r=some a21) (u1 λa22 =>
.actU (st T.a10 (Addr.add a22 1) (.int .i64 n3)) <|
.done 0 [.string (ByteArray.mk #[])])) (
.call F.a109 [.pointer r,.int .i64 (IntKind.wrap .i64 n5)] sL (u1 λl23 =>
.read True (convert T.a27 T.a32 l23.v) sS (u1 λs24 =>
.lt (.str) (s24) λs25 =>
.done 0 [.string s25]))))))))))))))))))
theorem znl (r:Option Addr) (most:Int) {w:World} {R:List Value->World->Prop} (h:(zx7 r most).wp P (λ_=>True) w λe vs w'=>e=0/\R vs w'):Ret P F.a113 #[.pointer r,.int .i64 most] w R:=dS (n:=74) (rv:=[.tmp 4]) { cnd:=[(844424930132003,[]),(3541774862152233910329,[])],blk:=[],reg:=[],lps:=[] } [.val (.pointer r),.val (.int .i64 most)] Go.Proofs.Tryz.func176 (by kernel_rfl) (by kernel_rfl) (by kernel_rfl) (by kernel_rfl) h
def z00q (sum:Int) (parts:Sl):Prog :=
.lt (.int .u32) (IntKind.wrap .u32 (((BitVec.toNat (BitVec.ofInt 32 4294967295 ^^^ BitVec.ofInt 32 sum):Nat):Int))) λ(n0:Int) =>
.bind 1 [.one (.int .u32)] (
.loop 2 [.one (.int .u32),.one (.int .i64)] (n0,(0,())) (u2 λ(n1 n2:Int) =>
.ite (decide (n2<((parts.len:Nat):Int))) (
.bind 3 [.one (.int .u32)] (
.ex [.adr] (c1 λa3=>0<=n2/\n2<((parts.len:Nat):Int)/\parts.a=some a3) (u1 λa4 =>
.read True (ld T.a27 (Addr.add a4 (Int.toNat n2*1))) sL (u1 λl5 =>
.bind 4 [.one (.int .u32)] (
.loop 5 [.one (.int .u32),.one (.int .i64)] (n1,(0,())) (u2 λ(n6 n7:Int) =>
.ite (decide (n7<((l5.len:Nat):Int))) (
.bind 6 [.one (.int .u32)] (
.ex [.adr] (c1 λa8=>0<=n7/\n7<((l5.len:Nat):Int)/\l5.a=some a8) (u1 λa9 =>
.read True (ld T.a38 (Addr.add a9 (Int.toNat n7*1))) (sI .u8) (u1 λ(n10:Int) =>
.lt (.int .u8) (n10) λ(n11:Int) =>
.lt (.int .u32) (IntKind.wrap .u32 (((BitVec.toNat (BitVec.ofInt 32 n6 ^^^ BitVec.ofInt 32 (IntKind.wrap .u32 n11)):Nat):Int))) λ(n12:Int) =>
.bind 7 [.one (.int .u32)] (
.loop 8 [.one (.int .u32),.one (.int .i64)] (n12,(0,())) (u2 λ(n13 n14:Int) =>
.ite (decide (n14<8)) (
.lt (.int .u32) (IntKind.wrap .u32 (((BitVec.toNat (BitVec.ofInt 32 (Int.fdiv n13 2) ^^^ BitVec.ofInt 32 (IntKind.wrap .u32 (((BitVec.toNat (BitVec.ofInt 32 3988292384 &&& BitVec.ofInt 32 (IntKind.wrap .u32 (0-IntKind.wrap .u32 (((BitVec.toNat (BitVec.ofInt 32 n13 &&& BitVec.ofInt 32 1):Nat):Int))))):Nat):Int)))):Nat):Int))) λ(n15:Int) =>
.done 8 [.int .u32 n15,.int .i64 (IntKind.wrap .i64 (n14+1))]) (
.done 7 [.int .u32 n13]))) (u1 λ(n16:Int) =>
.done 6 [.int .u32 n16])))) (u1 λ(n17:Int) =>
.done 5 [.int .u32 n17,.int .i64 (IntKind.wrap .i64 (n7+1))])) (
.done 4 [.int .u32 n6]))) (u1 λ(n18:Int) =>
.done 3 [.int .u32 n18])))) (u1 λ(n19:Int) =>
.done 2 [.int .u32 n19,.int .i64 (IntKind.wrap .i64 (n2+1))])) (
.done 1 [.int .u32 n1]))) (u1 λ(n20:Int) =>
.lt (.int .u32) (IntKind.wrap .u32 (((BitVec.toNat (BitVec.ofInt 32 4294967295 ^^^ BitVec.ofInt 32 n20):Nat):Int))) λ(n21:Int) =>
.done 0 [.int .u32 n21])
theorem zrf (sum:Int) (parts:Sl) {w:World} {R:List Value->World->Prop} (h:(z00q sum parts).wp P (λ_=>True) w λe vs w'=>e=0/\R vs w'):Ret P F.a19 #[.int .u32 sum,.slice parts.a parts.len parts.cap] w R:=dS (n:=42) (rv:=[.tmp 4]) { cnd:=[],blk:=[(0,[(5,.one (.int .u32))]),(1,[(5,.one (.int .u32))]),(2,[(5,.one (.int .u32))]),(3,[(5,.one (.int .u32))]),(4,[(5,.one (.int .u32))])],reg:=[],lps:=[(0,[(5,.one (.int .u32)),(14,.one (.int .i64))]),(2,[(5,.one (.int .u32)),(20,.one (.int .i64))]),(4,[(5,.one (.int .u32)),(28,.one (.int .i64))])] } [.val (.int .u32 sum),.val (.slice parts.a parts.len parts.cap)] Go.Proofs.Tryz.func188 (by kernel_rfl) (by kernel_rfl) (by kernel_rfl) (by kernel_rfl) h
def zwr (r:Option Addr):Prog :=
.ex [.adr] (c1 λa0=>not (Option.isNone r)=true->r=some a0) (u1 λa1 =>
.read (not (Option.isNone r)=true) (ld T.a2 (Addr.add (Addr.add a1 0) 2)) (sI .i64) (u1 λ(n2:Int) =>
.lt (.bool) (not (Option.isNone r) && n2 == 0) λb3 =>
.done 0 [.bool b3]))
theorem zna (r:Option Addr) {w:World} {R:List Value->World->Prop} (h:(zwr r).wp P (λ_=>True) w λe vs w'=>e=0/\R vs w'):Ret P F.a157 #[.pointer r] w R:=dS (n:=13) (rv:=[.tmp 2]) { cnd:=[],blk:=[],reg:=[],lps:=[] } [.val (.pointer r)] Go.Proofs.Tryz.func189 (by kernel_rfl) (by kernel_rfl) (by kernel_rfl) (by kernel_rfl) h
def zxy (p:Option Addr):Prog :=
.tick <|
.ex [.adr] (c1 λa0=>p=some a0) (u1 λa1 =>
.read True (ld T.a27 (Addr.add a1 0)) sL (u1 λl2 =>
.ex [.adr] (c1 λa3=>p=some a3) (u1 λa4 =>
.read True (ld T.a10 (Addr.add a4 1)) (sI .i64) (u1 λ(n5:Int) =>
.lt (.int .i64) (IntKind.wrap .i64 (((l2.len:Nat):Int)-n5)) λ(n6:Int) =>
.untick <|
.done 0 [.int .i64 n6]))))
theorem zli (p:Option Addr) {w:World} {R:List Value->World->Prop} (h:(zxy p).wp P (λ_=>True) w λe vs w'=>e=0/\R vs w'):Ret P F.a161 #[.pointer p] w R:=dS (n:=13) (rv:=[.tmp 2]) { cnd:=[],blk:=[],reg:=[],lps:=[] } [.val (.pointer p)] Go.Proofs.Tryz.func190 (by kernel_rfl) (by kernel_rfl) (by kernel_rfl) (by kernel_rfl) h
def zxr (p:Option Addr) (e_:Int):Prog :=
.ex [.adr] (c1 λa0=>p=some a0) (u1 λa1 =>
.read True (ld T.a2 (Addr.add a1 2)) (sI .i64) (u1 λ(n2:Int) =>
.bind 1 [] (
.ite (n2 == 0) (
.ex [.adr] (c1 λa3=>p=some a3) (u1 λa4 =>
.actU (st T.a2 (Addr.add a4 2) (.int .i64 e_)) <|
.done 1 [])) (
.done 1 [])) (u0 <|
.done 0 [])))
theorem zm5 (p:Option Addr) (e_:Int) {w:World} {R:List Value->World->Prop} (h:(zxr p e_).wp P (λ_=>True) w λe vs w'=>e=0/\R vs w'):Ret P F.a160 #[.pointer p,.int .i64 e_] w R:=dS (n:=13) (rv:=[]) { cnd:=[(31457288,[])],blk:=[],reg:=[],lps:=[] } [.val (.pointer p),.val (.int .i64 e_)] Go.Proofs.Tryz.func191 (by kernel_rfl) (by kernel_rfl) (by kernel_rfl) (by kernel_rfl) h
def zxs (p:Option Addr) (n:Int):Prog :=
.ex [.adr] (c1 λa0=>p=some a0) (u1 λa1 =>
.read True (ld T.a10 (Addr.add a1 1)) (sI .i64) (u1 λ(n2:Int) =>
.ex [.adr] (c1 λa3=>p=some a3) (u1 λa4 =>
.actU (st T.a10 (Addr.add a4 1) (.int .i64 (IntKind.wrap .i64 (n2+n)))) <|
.tick <|
.ex [.adr] (c1 λa5=>p=some a5) (u1 λa6 =>
.read True (ld T.a27 (Addr.add a6 0)) sL (u1 λl7 =>
.ex [.adr] (c1 λa8=>p=some a8) (u1 λa9 =>
.read True (ld T.a10 (Addr.add a9 1)) (sI .i64) (u1 λ(n10:Int) =>
.ex [.adr] (c1 λa11=>p=some a11) (u1 λa12 =>
.read True (ld T.a10 (Addr.add a12 1)) (sI .i64) (u1 λ(n13:Int) =>
.must (0<=IntKind.wrap .i64 (n10-n)/\IntKind.wrap .i64 (n10-n)<=n13/\n13<=((l7.cap:Nat):Int)) <|
.untick <|
.done 0 [.slice (z1g l7.a 1 (Int.toNat (IntKind.wrap .i64 (n10-n))) l7.cap) (Int.toNat n13-Int.toNat (IntKind.wrap .i64 (n10-n))) (l7.cap-Int.toNat (IntKind.wrap .i64 (n10-n)))])))))))))
theorem zlr (p:Option Addr) (n:Int) {w:World} {R:List Value->World->Prop} (h:(zxs p n).wp P (λ_=>True) w λe vs w'=>e=0/\R vs w'):Ret P F.a162 #[.pointer p,.int .i64 n] w R:=dS (n:=28) (rv:=[.tmp 4]) { cnd:=[],blk:=[],reg:=[],lps:=[] } [.val (.pointer p),.val (.int .i64 n)] Go.Proofs.Tryz.func192 (by kernel_rfl) (by kernel_rfl) (by kernel_rfl) (by kernel_rfl) h
def zww (r:Option Addr) (lo:Int) (hi:Int):Prog :=
.call F.a157 [.pointer r] sB (u1 λb0 =>
.ite (not b0) (
.done 0 [.int .i64 0]) (
.ex [.adr] (c1 λa1=>r=some a1) (u1 λa2 =>
.read True (ld T.a10 (Addr.add (Addr.add a2 0) 1)) (sI .i64) (u1 λ(n3:Int) =>
.lt (.int .i64) (n3) λ(n4:Int) =>
.call F.a153 [.pointer r] (sI .i64) (u1 λ(n5:Int) =>
.lt (.int .i64) (n5) λ(n6:Int) =>
.ex [.adr] (c1 λa7=>r=some a7) (u1 λa8 =>
.read True (ld T.a2 (Addr.add (Addr.add a8 0) 2)) (sI .i64) (u1 λ(n9:Int) =>
.bind 1 [] (
.ite (n9 == 0 && (decide (n6<lo) || decide (n6>hi))) (
.ex [.adr] (c1 λa10=>r=some a10) (u1 λa11 =>
.actU (st T.a10 (Addr.add (Addr.add a11 0) 1) (.int .i64 n4)) <|
.ex [.adr] (c1 λa12=>r=some a12) (u1 λa13 =>
.call F.a160 [.pointer (some (Addr.add a13 0)),.int .i64 8] (.tup []) (u0 <|
.done 1 [])))) (
.done 1 [])) (u0 <|
.ex [.adr] (c1 λa14=>r=some a14) (u1 λa15 =>
.read True (ld T.a2 (Addr.add (Addr.add a15 0) 2)) (sI .i64) (u1 λ(n16:Int) =>
.ite (n16 != 0) (
.done 0 [.int .i64 0]) (
.lt (.int .i64) (n6) λ(n17:Int) =>
.done 0 [.int .i64 n17])))))))))))
theorem zmx (r:Option Addr) (lo hi:Int) {w:World} {R:List Value->World->Prop} (h:(zww r lo hi).wp P (λ_=>True) w λe vs w'=>e=0/\R vs w'):Ret P F.a156 #[.pointer r,.int .i64 lo,.int .i64 hi] w R:=dS (n:=51) (rv:=[.tmp 6]) { cnd:=[(71916856549572642,[])],blk:=[],reg:=[],lps:=[] } [.val (.pointer r),.val (.int .i64 lo),.val (.int .i64 hi)] Go.Proofs.Tryz.func193 (by kernel_rfl) (by kernel_rfl) (by kernel_rfl) (by kernel_rfl) h
def zwz (r:Option Addr):Prog :=
.call F.a157 [.pointer r] sB (u1 λb0 =>
.ite (not b0) (
.done 0 [.bool false]) (
.tick <|
.ex [.adr] (c1 λa1=>r=some a1) (u1 λa2 =>
.call F.a161 [.pointer (some (Addr.add a2 0))] (sI .i64) (u1 λ(n3:Int) =>
.ex [.adr] (c1 λa4=>(n3 == 0)=false->r=some a4) (u1 λa5 =>
.read ((n3 == 0)=false) (ld T.a27 (Addr.add (Addr.add a5 0) 0)) sL (u1 λl6 =>
.ex [.adr] (c1 λa7=>(n3 == 0)=false->r=some a7) (u1 λa8 =>
.read ((n3 == 0)=false) (ld T.a10 (Addr.add (Addr.add a8 0) 1)) (sI .i64) (u1 λ(n9:Int) =>
.ex [.adr] (c1 λa10=>(n3 == 0)=false->0<=n9/\n9<((l6.len:Nat):Int)/\l6.a=some a10) (u1 λa11 =>
.read ((n3 == 0)=false) (ld T.a38 (Addr.add a11 (Int.toNat n9*1))) (sI .u8) (u1 λ(n12:Int) =>
.untick <|
.ite (n3 == 0 || decide (n12>1)) (
.ex [.adr] (c1 λa13=>r=some a13) (u1 λa14 =>
.call F.a160 [.pointer (some (Addr.add a14 0)),.int .i64 6] (.tup []) (u0 <|
.done 0 [.bool false]))) (
.ex [.adr] (c1 λa15=>r=some a15) (u1 λa16 =>
.call F.a162 [.pointer (some (Addr.add a16 0)),.int .i64 1] sL (u1 λl17 =>
.ex [.adr] (c1 λa18=>(0:Int)<=0/\0<((l17.len:Nat):Int)/\l17.a=some a18) (u1 λa19 =>
.read True (ld T.a38 (Addr.add a19 0)) (sI .u8) (u1 λ(n20:Int) =>
.lt (.bool) (n20 == 1) λb21 =>
.done 0 [.bool b21])))))))))))))))
theorem zm3 (r:Option Addr) {w:World} {R:List Value->World->Prop} (h:(zwz r).wp P (λ_=>True) w λe vs w'=>e=0/\R vs w'):Ret P F.a152 #[.pointer r] w R:=dS (n:=37) (rv:=[.tmp 2]) { cnd:=[],blk:=[],reg:=[],lps:=[] } [.val (.pointer r)] Go.Proofs.Tryz.func194 (by kernel_rfl) (by kernel_rfl) (by kernel_rfl) (by kernel_rfl) h
def zw8 (r:Option Addr) (most:Int):Prog :=
.call F.a157 [.pointer r] sB (u1 λb0 =>
.ite (not b0) (
.done 0 [.string (ByteArray.mk #[])]) (
.ex [.adr] (c1 λa1=>r=some a1) (u1 λa2 =>
.read True (ld T.a10 (Addr.add (Addr.add a2 0) 1)) (sI .i64) (u1 λ(n3:Int) =>
.lt (.int .i64) (n3) λ(n4:Int) =>
.ex [.adr] (c1 λa5=>r=some a5) (u1 λa6 =>
.call F.a163 [.pointer (some (Addr.add a6 0))] (sI .u64) (u1 λ(n7:Int) =>
.lt (.int .u64) (n7) λ(n8:Int) =>
.ex [.adr] (c1 λa9=>r=some a9) (u1 λa10 =>
.read True (ld T.a2 (Addr.add (Addr.add a10 0) 2)) (sI .i64) (u1 λ(n11:Int) =>
.lt (.bool) (n11 != 0) λb12 =>
.bind 1 [] (
.ite (b12) (
.done 1 []) (
.lt (.bool) (decide (n8>IntKind.wrap .u64 (if 0>most then 0 else most))) λb13 =>
.bind 2 [] (
.ite (b13) (
.ex [.adr] (c1 λa14=>r=some a14) (u1 λa15 =>
.call F.a160 [.pointer (some (Addr.add a15 0)),.int .i64 7] (.tup []) (u0 <|
.done 2 []))) (
.ex [.adr] (c1 λa16=>r=some a16) (u1 λa17 =>
.call F.a161 [.pointer (some (Addr.add a17 0))] (sI .i64) (u1 λ(n18:Int) =>
.lt (.bool) (decide (n8>IntKind.wrap .u64 n18)) λb19 =>
.ite (b19) (
.ex [.adr] (c1 λa20=>r=some a20) (u1 λa21 =>
.call F.a160 [.pointer (some (Addr.add a21 0)),.int .i64 6] (.tup []) (u0 <|
.done 2 []))) (
.ex [.adr] (c1 λa22=>r=some a22) (u1 λa23 =>
.call F.a162 [.pointer (some (Addr.add a23 0)),.int .i64 (IntKind.wrap .i64 n8)] sL (u1 λl24 =>
.read True (convert T.a27 T.a32 l24.v) sS (u1 λs25 =>
.lt (.str) (s25) λs26 =>
.done 0 [.string s26])))))))) (u0 <|
.done 1 []))) (u0 <|
.ex [.adr] (c1 λa27=>r=some a27) (u1 λa28 =>
.actU (st T.a10 (Addr.add (Addr.add a28 0) 1) (.int .i64 n4)) <|
.done 0 [.string (ByteArray.mk #[])]))))))))))
theorem zme (r:Option Addr) (most:Int) {w:World} {R:List Value->World->Prop} (h:(zw8 r most).wp P (λ_=>True) w λe vs w'=>e=0/\R vs w'):Ret P F.a154 #[.pointer r,.int .i64 most] w R:=dS (n:=60) (rv:=[.tmp 4]) { cnd:=[(147571701062593216545,[]),(147573917678034812954,[])],blk:=[],reg:=[],lps:=[] } [.val (.pointer r),.val (.int .i64 most)] Go.Proofs.Tryz.func195 (by kernel_rfl) (by kernel_rfl) (by kernel_rfl) (by kernel_rfl) h
def z03f (n lo:Int) (hi:Int):Prog :=
.lt (.bool) (decide (n>=lo) && decide (n<=hi)) λb0 =>
.done 0 [.bool b0]
theorem zqe (n lo hi:Int) {w:World} {R:List Value->World->Prop} (h:(z03f n lo hi).wp P (λ_=>True) w λe vs w'=>e=0/\R vs w'):Ret P F.a49 #[.int .i64 n,.int .i64 lo,.int .i64 hi] w R:=dS (n:=15) (rv:=[.tmp 6]) { cnd:=[],blk:=[],reg:=[],lps:=[] } [.val (.int .i64 n),.val (.int .i64 lo),.val (.int .i64 hi)] Go.Proofs.Tryz.func196 (by kernel_rfl) (by kernel_rfl) (by kernel_rfl) (by kernel_rfl) h
def zw6 (p:Option Addr):Prog :=
.bind 1 [] (
.loop 2 [.one (.int .u64),.one (.int .i64)] (0,(0,())) (u2 λ(n0 n1:Int) =>
.ite (decide (n1<10)) (
.call F.a161 [.pointer p] (sI .i64) (u1 λ(n2:Int) =>
.ite (decide (n1>=n2)) (
.done 1 []) (
.tick <|
.ex [.adr] (c1 λa3=>p=some a3) (u1 λa4 =>
.read True (ld T.a27 (Addr.add a4 0)) sL (u1 λl5 =>
.ex [.adr] (c1 λa6=>p=some a6) (u1 λa7 =>
.read True (ld T.a10 (Addr.add a7 1)) (sI .i64) (u1 λ(n8:Int) =>
.ex [.adr] (c1 λa9=>0<=IntKind.wrap .i64 (n8+n1)/\IntKind.wrap .i64 (n8+n1)<((l5.len:Nat):Int)/\l5.a=some a9) (u1 λa10 =>
.read True (ld T.a38 (Addr.add a10 (Int.toNat (IntKind.wrap .i64 (n8+n1))*1))) (sI .u8) (u1 λ(n11:Int) =>
.lt (.int .u8) (n11) λ(n12:Int) =>
.untick <|
.ite (n1 == 9 && decide (n12>1)) (
.done 1 []) (
.must (0<=IntKind.wrap .i64 (7*n1)) <|
.lt (.int .u64) (IntKind.wrap .u64 (((BitVec.toNat (BitVec.ofInt 64 n0 ||| BitVec.ofInt 64 (IntKind.wrap .u64 (IntKind.wrap .u64 (IntKind.wrap .u8 (((BitVec.toNat (BitVec.ofInt 8 n12 &&& BitVec.ofInt 8 127):Nat):Int)))*2 ^ min (Int.toNat (IntKind.wrap .i64 (7*n1))) 64))):Nat):Int))) λ(n13:Int) =>
.ite (decide (n12>=128)) (
.lt (.int .i64) (IntKind.wrap .i64 (n1+1)) λ(n14:Int) =>
.done 2 [.int .u64 n13,.int .i64 n14]) (
.ite (n12 == 0 && decide (n1>0)) (
.done 1 []) (
.ex [.adr] (c1 λa15=>p=some a15) (u1 λa16 =>
.read True (ld T.a10 (Addr.add a16 1)) (sI .i64) (u1 λ(n17:Int) =>
.ex [.adr] (c1 λa18=>p=some a18) (u1 λa19 =>
.actU (st T.a10 (Addr.add a19 1) (.int .i64 (IntKind.wrap .i64 (n17+IntKind.wrap .i64 (n1+1))))) <|
.lt (.int .u64) (n13) λ(n20:Int) =>
.done 0 [.int .u64 n20]))))))))))))))) (
.done 1 []))) (u0 <|
.call F.a160 [.pointer p,.int .i64 6] (.tup []) (u0 <|
.done 0 [.int .u64 0]))
theorem zlt (p:Option Addr) {w:World} {R:List Value->World->Prop} (h:(zw6 p).wp P (λ_=>True) w λe vs w'=>e=0/\R vs w'):Ret P F.a163 #[.pointer p] w R:=dS (n:=60) (rv:=[.tmp 2]) { cnd:=[],blk:=[(0,[])],reg:=[],lps:=[(0,[(3,.one (.int .u64)),(4,.one (.int .i64))])] } [.val (.pointer p)] Go.Proofs.Tryz.func197 (by kernel_rfl) (by kernel_rfl) (by kernel_rfl) (by kernel_rfl) h
def zxo (r:Option Addr):Prog :=
.call F.a155 [.pointer r] (sI .u64) (u1 λ(n0:Int) =>
.lt (.int .u64) (n0) λ(n1:Int) =>
.lt (.int .i64) (IntKind.wrap .i64 (((BitVec.toNat (BitVec.ofInt 64 (IntKind.wrap .i64 (Int.fdiv n1 2)) ^^^ BitVec.ofInt 64 (IntKind.wrap .i64 (0-IntKind.wrap .i64 (IntKind.wrap .u64 (((BitVec.toNat (BitVec.ofInt 64 n1 &&& BitVec.ofInt 64 1):Nat):Int)))))):Nat):Int))) λ(n2:Int) =>
.done 0 [.int .i64 n2])
theorem zlh (r:Option Addr) {w:World} {R:List Value->World->Prop} (h:(zxo r).wp P (λ_=>True) w λe vs w'=>e=0/\R vs w'):Ret P F.a153 #[.pointer r] w R:=dS (n:=14) (rv:=[.tmp 2]) { cnd:=[],blk:=[],reg:=[],lps:=[] } [.val (.pointer r)] Go.Proofs.Tryz.func204 (by kernel_rfl) (by kernel_rfl) (by kernel_rfl) (by kernel_rfl) h
instance:One P T.a11:=⟨by kernel_rfl,by kernel_rfl⟩
instance:One P T.a10:=⟨by kernel_rfl,by kernel_rfl⟩
instance:One P T.a4:=⟨by kernel_rfl,by kernel_rfl⟩
instance:One P T.a38:=⟨by kernel_rfl,by kernel_rfl⟩
instance:One P T.a32:=⟨by kernel_rfl,by kernel_rfl⟩
instance:One P T.a18:=⟨by kernel_rfl,by kernel_rfl⟩
instance:Agg P T.a28 2:=⟨by kernel_rfl,by kernel_rfl⟩
instance:One P T.a13:=⟨by kernel_rfl,by kernel_rfl⟩
instance:One P T.a2:=⟨by kernel_rfl,by kernel_rfl⟩
instance:One P T.a16:=⟨by kernel_rfl,by kernel_rfl⟩
instance:One P T.a19:=⟨by kernel_rfl,by kernel_rfl⟩
instance:Agg P T.a1 7:=⟨by kernel_rfl,by kernel_rfl⟩
instance:One P T.a26:=⟨by kernel_rfl,by kernel_rfl⟩
instance:Agg P T.a35 3:=⟨by kernel_rfl,by kernel_rfl⟩
instance:One P T.a25:=⟨by kernel_rfl,by kernel_rfl⟩
instance:One P T.a27:=⟨by kernel_rfl,by kernel_rfl⟩
instance:One P T.a24:=⟨by kernel_rfl,by kernel_rfl⟩
instance:Agg P T.a37 3:=⟨by kernel_rfl,by kernel_rfl⟩
instance:One P T.a21:=⟨by kernel_rfl,by kernel_rfl⟩
instance:One P T.a12:=⟨by kernel_rfl,by kernel_rfl⟩
instance:Agg P T.a5 5:=⟨by kernel_rfl,by kernel_rfl⟩
instance:One P T.a22:=⟨by kernel_rfl,by kernel_rfl⟩
instance:Agg P T.a29 5:=⟨by kernel_rfl,by kernel_rfl⟩
instance:One P T.a17:=⟨by kernel_rfl,by kernel_rfl⟩
instance:One P T.a15:=⟨by kernel_rfl,by kernel_rfl⟩
instance:Agg P T.a30 6:=⟨by kernel_rfl,by kernel_rfl⟩
instance:Agg P T.a7 3:=⟨by kernel_rfl,by kernel_rfl⟩
instance:Agg P T.a3 4:=⟨by kernel_rfl,by kernel_rfl⟩
instance:One P T.a23:=⟨by kernel_rfl,by kernel_rfl⟩
instance:Agg P T.a33 6:=⟨by kernel_rfl,by kernel_rfl⟩
instance:Agg P T.a36 2:=⟨by kernel_rfl,by kernel_rfl⟩
instance:One P T.a14:=⟨by kernel_rfl,by kernel_rfl⟩
instance:Agg P T.a6 2:=⟨by kernel_rfl,by kernel_rfl⟩
instance:Agg P T.a9 3:=⟨by kernel_rfl,by kernel_rfl⟩
instance:One P T.a20:=⟨by kernel_rfl,by kernel_rfl⟩
instance:Agg P T.a8 5:=⟨by kernel_rfl,by kernel_rfl⟩
instance:Agg P T.a34 3:=⟨by kernel_rfl,by kernel_rfl⟩
instance:Agg P T.a0 32:=⟨by kernel_rfl,by kernel_rfl⟩
instance:Agg P T.a40 3:=⟨by kernel_rfl,by kernel_rfl⟩
instance:One P T.a31:=⟨by kernel_rfl,by kernel_rfl⟩
instance:Zer P T.a11 (.int .i64 0):=⟨by kernel_rfl⟩
instance:Zer P T.a10 (.int .i64 0):=⟨by kernel_rfl⟩
instance:Zer P T.a4 (.bool false):=⟨by kernel_rfl⟩
instance:Zer P T.a38 (.int .u8 0):=⟨by kernel_rfl⟩
instance:Zer P T.a32 (.string ⟨#[]⟩):=⟨by kernel_rfl⟩
instance:Zer P T.a18 (.slice none 0 0):=⟨by kernel_rfl⟩
instance:Zer P T.a28 (.agg #[.int .i64 0,.int .i64 0]):=⟨by kernel_rfl⟩
instance:Zer P T.a13 (.pointer none):=⟨by kernel_rfl⟩
instance:Zer P T.a2 (.int .i64 0):=⟨by kernel_rfl⟩
instance:Zer P T.a16 (.pointer none):=⟨by kernel_rfl⟩
instance:Zer P T.a19 (.slice none 0 0):=⟨by kernel_rfl⟩
instance:Zer P T.a1 (.agg #[.int .i64 0,.int .i64 0,.int .i64 0,.int .i64 0,.int .i64 0,.int .i64 0,.slice none 0 0]):=⟨by kernel_rfl⟩
instance:Zer P T.a26 (.slice none 0 0):=⟨by kernel_rfl⟩
instance:Zer P T.a35 (.agg #[.int .i64 0,.int .i64 0,.slice none 0 0]):=⟨by kernel_rfl⟩
instance:Zer P T.a25 (.slice none 0 0):=⟨by kernel_rfl⟩
instance:Zer P T.a27 (.slice none 0 0):=⟨by kernel_rfl⟩
instance:Zer P T.a24 (.slice none 0 0):=⟨by kernel_rfl⟩
instance:Zer P T.a37 (.agg #[.int .i64 0,.int .i64 0,.slice none 0 0]):=⟨by kernel_rfl⟩
instance:Zer P T.a21 (.slice none 0 0):=⟨by kernel_rfl⟩
instance:Zer P T.a12 (.map none):=⟨by kernel_rfl⟩
instance:Zer P T.a5 (.agg #[.int .i64 0,.bool false,.int .i64 0,.int .i64 0,.map none]):=⟨by kernel_rfl⟩
instance:Zer P T.a22 (.slice none 0 0):=⟨by kernel_rfl⟩
instance:Zer P T.a29 (.agg #[.pointer none,.string ⟨#[]⟩,.int .i64 0,.int .i64 0,.slice none 0 0]):=⟨by kernel_rfl⟩
instance:Zer P T.a17 (.pointer none):=⟨by kernel_rfl⟩
instance:Zer P T.a15 (.pointer none):=⟨by kernel_rfl⟩
instance:Zer P T.a30 (.agg #[.pointer none,.int .i64 0,.int .i64 0,.int .i64 0,.int .i64 0,.int .i64 0]):=⟨by kernel_rfl⟩
instance:Zer P T.a7 (.agg #[.int .i64 0,.int .i64 0,.int .i64 0]):=⟨by kernel_rfl⟩
instance:Zer P T.a3 (.agg #[.string ⟨#[]⟩,.string ⟨#[]⟩,.bool false,.int .i64 0]):=⟨by kernel_rfl⟩
instance:Zer P T.a23 (.slice none 0 0):=⟨by kernel_rfl⟩
instance:Zer P T.a33 (.agg #[.int .i64 0,.bool false,.int .i64 0,.int .i64 0,.slice none 0 0,.slice none 0 0]):=⟨by kernel_rfl⟩
instance:Zer P T.a36 (.agg #[.int .i64 0,.slice none 0 0]):=⟨by kernel_rfl⟩
instance:Zer P T.a14 (.pointer none):=⟨by kernel_rfl⟩
instance:Zer P T.a6 (.agg #[.slice none 0 0,.int .i64 0]):=⟨by kernel_rfl⟩
instance:Zer P T.a9 (.agg #[.int .i64 0,.int .i64 0,.int .i64 0]):=⟨by kernel_rfl⟩
instance:Zer P T.a20 (.slice none 0 0):=⟨by kernel_rfl⟩
instance:Zer P T.a8 (.agg #[.int .i64 0,.int .i64 0,.int .i64 0,.int .i64 0,.slice none 0 0]):=⟨by kernel_rfl⟩
instance:Zer P T.a34 (.agg #[.slice none 0 0,.int .i64 0,.int .i64 0]):=⟨by kernel_rfl⟩
instance:Zer P T.a0 (.agg #[.bool false,.bool false,.bool false,.bool false,.bool false,.bool false,.bool false,.bool false,.bool false,.bool false,.bool false,.bool false,.bool false,.bool false,.bool false,.bool false,.bool false,.bool false,.bool false,.bool false,.bool false,.bool false,.bool false,.bool false,.bool false,.bool false,.bool false,.bool false,.bool false,.bool false,.bool false,.bool false]):=⟨by kernel_rfl⟩
instance:Zer P T.a40 (.agg #[.slice none 0 0,.int .i64 0,.int .i64 0]):=⟨by kernel_rfl⟩
instance:Zer P T.a31 (.int .u64 0):=⟨by kernel_rfl⟩
instance:SlT P T.a18 T.a1 7 72:=⟨by kernel_rfl,by kernel_rfl⟩
instance:SlT P T.a19 T.a3 4 48:=⟨by kernel_rfl,by kernel_rfl⟩
instance:SlT P T.a26 T.a37 3 40:=⟨by kernel_rfl,by kernel_rfl⟩
instance:SlT P T.a25 T.a36 2 32:=⟨by kernel_rfl,by kernel_rfl⟩
instance:SlT P T.a27 T.a38 1 1:=⟨by kernel_rfl,by kernel_rfl⟩
instance:SlT P T.a24 T.a32 1 16:=⟨by kernel_rfl,by kernel_rfl⟩
instance:SlT P T.a21 T.a11 1 8:=⟨by kernel_rfl,by kernel_rfl⟩
instance:SlT P T.a22 T.a17 1 8:=⟨by kernel_rfl,by kernel_rfl⟩
instance:SlT P T.a23 T.a27 1 24:=⟨by kernel_rfl,by kernel_rfl⟩
instance:SlT P T.a20 T.a7 3 24:=⟨by kernel_rfl,by kernel_rfl⟩
structure RecM where
 key:ByteArray
 value:ByteArray
 gone:Bool
 time:Int
def z03 (r:RecM):List Value:=[.string r.key,.string r.value,.bool r.gone,.int .i64 r.time]
instance:EncA z03 [.str,.str,.bool,.int .i64] (λr=>(r.key,r.value,r.gone,r.time,())):=⟨λ_=>rfl⟩
instance:EncN z03 4:=⟨λ_=>rfl,by decide,by simp [z03,Value.oneCell']⟩
structure BatM where
 base:Int
 pid:Int
 epoch:Int
 seq:Int
 kind:Int
 time:Int
 x:Sl
 rs:List RecM
def zw (b:BatM):List Value:=[.int .i64 b.base,.int .i64 b.pid,.int .i64 b.epoch,.int .i64 b.seq,.int .i64 b.kind,.int .i64 b.time,.slice b.x.a b.x.len b.x.cap]
instance:EncA zw [.int .i64,.int .i64,.int .i64,.int .i64,.int .i64,.int .i64,.slc] (λb=>(b.base,b.pid,b.epoch,b.seq,b.kind,b.time,b.x,())):=⟨λ_=>rfl⟩
instance:EncN zw 7:=⟨λ_=>rfl,by decide,by simp [zw,Value.oneCell']⟩
def z0y (b:BatM):Bool:=decide (b.kind=2) || decide (b.kind=3)
def z4q (b:BatM):Prop:=(0<=b.kind/\b.kind<=3)/\(0<=b.base/\b.base<=1099511627776)/\(0<=b.pid/\b.pid<=1048576)/\(0<=b.epoch/\b.epoch<=32767)/\(0<=b.seq/\b.seq<=2147483647)/\(0<=b.time/\b.time<=1099511627776)
instance (b:BatM):Decidable (z4q b):=by unfold z4q;infer_instance
def z49 (b:BatM):Prop:=¬ (b.pid=0/\(b.kind≠0\/b.epoch≠0\/b.seq≠0))/\if z0y b then b.seq=0/\b.rs.length=0 else 0<b.rs.length
instance (b:BatM):Decidable (z49 b):=by unfold z49;infer_instance
def z28 (r:RecM):Int:=if r.key.size>1024\/r.value.size>1024 then 7 else if ¬ (0<=r.time/\r.time<=1099511627776)\/(r.gone=true/\r.value.size>0) then 2 else 0
def z5t:List RecM->Int
 | []=>0
 | r::rs=>if z28 r≠0 then z28 r else z5t rs
def z0d (b:BatM):Int:=if z0y b then 1 else (b.rs.length:Nat)
def z0c (b:BatM):Int:=if ¬ z4q b\/¬ z49 b then 2 else if b.rs.length>64 then 7 else if z5t b.rs≠0 then z5t b.rs else
 if b.base>1099511627776-(z0d b-1)\/(b.pid>0/\z0y b=false/\b.seq>2147483647-(z0d b-1)) then 24 else 0
def z4a (b:BatM):Int:=if z0c b≠0 then 0 else b.base+z0d b
theorem zd4:∀ (rs:List RecM) (i:Nat) (hi:i<rs.length),z5t (rs.take i)=0->z28 rs[i]≠0->z5t rs=z28 rs[i]
 | r::rs,0,_,_,h=>by
  have h:z28 r≠0:=h
  show (if z28 r≠0 then z28 r else z5t rs)=z28 r
  rw [if_pos h]
 | r::rs,i+1,hi,h1,h2=>by
  have h1:(if z28 r≠0 then z28 r else z5t (rs.take i))=0:=h1
  by_cases h:z28 r≠0
  ·rw [if_pos h] at h1;exact absurd h1 h
  ·rw [if_neg h] at h1
   show (if z28 r≠0 then z28 r else z5t rs)=_
   rw [if_neg h]
   exact zd4 rs i (by simpa using hi) h1 h2
theorem zcq:∀ (rs:List RecM) (i:Nat) (hi:i<rs.length),z5t (rs.take i)=0->z28 rs[i]=0->z5t (rs.take (i+1))=0
 | r::rs,0,_,_,h=>by
  have h:z28 r=0:=h
  show (if z28 r≠0 then z28 r else z5t (rs.take 0))=0
  rw [if_neg (by rw [h];simp)];rfl
 | r::rs,i+1,hi,h1,h2=>by
  have h1:(if z28 r≠0 then z28 r else z5t (rs.take i))=0:=h1
  by_cases h:z28 r≠0
  ·rw [if_pos h] at h1;exact absurd h1 h
  ·rw [if_neg h] at h1
   show (if z28 r≠0 then z28 r else z5t (rs.take (i+1)))=0
   rw [if_neg h]
   exact zcq rs i (by simpa using hi) h1 h2
theorem zjf {s:ByteArray}:s.size>0↔s≠ByteArray.mk #[]:=by
 constructor
 ·rintro h rfl;exact absurd h (Nat.lt_irrefl 0)
 ·intro h
  rcases Nat.eq_zero_or_pos s.size with h0|h0
  ·exfalso
   apply h
   obtain ⟨⟨l⟩⟩:=s
   have h0:l.length=0:=h0
   rw [List.length_eq_zero_iff.1 h0]
  ·exact h0
section
variable {w:World} {l r:List HP} {b:BatM}
theorem z7f (b:BatM) (hs:Sat w l):Ret P F.a43 #[.agg (zw b).toArray] w λvs w'=>vs=[.bool (z0y b)]/\Sat w' l :=
 zru b.base b.pid b.epoch b.seq b.kind b.time b.x <| by
  unfold z019
  refine z0b hs λa0 w' hs=>?_
  refine zd hs ?_
  refine zd hs ?_
  refine wp_lt ?_
  exact ⟨rfl,rfl,hs.tail⟩
theorem z7b (b:BatM) (hs:Sat w l):Ret P F.a125 #[.agg (zw b).toArray] w λvs w'=>vs=[.bool (z0y b)]/\Sat w' l :=
 zn6 b.base b.pid b.epoch b.seq b.kind b.time b.x <| by
  unfold zwd
  refine z0b hs λa0 w' hs=>?_
  refine zd hs ?_
  refine zd hs ?_
  refine wp_lt ?_
  exact ⟨rfl,rfl,hs.tail⟩
theorem zbx (n lo hi:Int) (hs:Sat w l):Ret P F.a49 #[.int .i64 n,.int .i64 lo,.int .i64 hi] w λvs w'=>vs=[.bool (decide (lo<=n/\n<=hi))]/\Sat w' l :=
 zqe n lo hi <| by
  unfold z03f
  refine wp_lt ?_
  exact ⟨rfl,by rw [Bool.decide_and],hs⟩
theorem zsn (b:BatM) [hb:FocR l b.x 4 (b.rs.flatMap z03)] (hs:Sat w l):Ret P F.a39 #[.agg (zw b).toArray] w λvs w'=>vs=[.int .i64 (z0d b)]/\Sat w' l :=
 zpl b.base b.pid b.epoch b.seq b.kind b.time b.x <| by
  unfold z00i z0d
  have hl:=hs.slen b.x (xs:=b.rs) (enc:=z03)
  refine z0b hs λa0 w' hs=>?_
  refine z02 hs ?_
  refine za (z7f b hs) λ_ _ hs=>?_
  obtain ⟨rfl,hs⟩:=hs
  refine ze ?_
  refine zk (λh=>?_) λh=>?_
  ·rw [if_pos h];exact ⟨rfl,rfl,hs.tail⟩
  ·rw [if_neg h]
   refine zd hs ?_
   refine wp_lt ?_
   rw [hl]
   exact ⟨rfl,rfl,hs.tail⟩
theorem zu7 (r:RecM) (hs:Sat w l):Ret P F.a47 #[.agg (z03 r).toArray] w λvs w'=>vs=[.int .i64 (z28 r)]/\Sat w' l :=
 zqp r.key r.value r.gone r.time <| by
  unfold z01h z28
  refine z0b hs λa0 w' hs=>?_
  refine zd hs ?_
  refine zd hs ?_
  refine wp_lt ?_
  refine zk (λh=>?_) λh=>?_
  ·rw [if_pos (by omega)];exact ⟨rfl,rfl,hs.tail⟩
  rw [if_neg (by omega)]
  refine zd hs ?_
  refine za (zbx r.time 0 1099511627776 hs) λ_ _ hs=>?_
  obtain ⟨rfl,hs⟩:=hs
  refine ze ?_
  refine zd hs ?_
  refine zd hs ?_
  refine wp_lt ?_
  have e:(¬ (0<=r.time/\r.time<=1099511627776)\/(r.gone=true/\r.value.size>0))↔(¬ (0<=r.time/\r.time<=1099511627776)\/(r.gone=true/\¬ r.value=ByteArray.mk #[])):=by rw [zjf]
  refine zk (λh=>?_) λh=>?_
  ·rw [if_pos (e.2 h)];exact ⟨rfl,rfl,hs.tail⟩
  ·rw [if_neg (λh2=>h (e.1 h2))];exact ⟨rfl,rfl,hs.tail⟩
theorem zt1 (b:BatM) (hs:Sat w l):Ret P F.a44 #[.agg (zw b).toArray] w λvs w'=>vs=[.bool (decide (z4q b))]/\Sat w' l :=
 zqo b.base b.pid b.epoch b.seq b.kind b.time b.x <| by
  unfold z00c
  refine z0b hs λa0 w' hs=>?_
  refine zx (λv w'=>v=(decide (z4q b),())/\Sat w' l) ?_ (by rintro _ w' ⟨rfl,hs⟩;refine zt ?_;exact ⟨rfl,rfl,hs⟩)
  have hno:∀ {w'},¬ z4q b->Sat w' (pt a0 (.cells #[.int .i64 b.base,.int .i64 b.pid,.int .i64 b.epoch,.int .i64 b.seq,.int .i64 b.kind,.int .i64 b.time,.slice b.x.a b.x.len b.x.cap] T.a1)::l)->((false,()):Bool × Unit)=(decide (z4q b),())/\Sat w' l:=λh hs=>⟨by rw [decide_eq_false h],hs.tail⟩
  refine zd hs ?_
  refine zd hs ?_
  refine zd hs ?_
  refine zk (λh1=>?_) λh1=>?_
  rotate_left
  ·exact zj (hno (λh=>h1 h.1) hs)
  refine za (zbx b.base 0 1099511627776 hs) λ_ _ hs=>?_
  obtain ⟨rfl,hs⟩:=hs
  refine ze ?_
  refine zd hs ?_
  refine zk (λh2=>?_) λh2=>?_
  rotate_left
  ·exact zj (hno (λh=>h2 h.2.1) hs)
  refine za (zbx b.pid 0 1048576 hs) λ_ _ hs=>?_
  obtain ⟨rfl,hs⟩:=hs
  refine ze ?_
  refine zd hs ?_
  refine zd hs ?_
  refine zd hs ?_
  refine zd hs ?_
  refine zd hs ?_
  refine zk (λh3=>?_) λh3=>?_
  rotate_left
  ·exact zj (hno (λh=>h3 ⟨⟨⟨⟨h.2.2.1,h.2.2.2.1.1⟩,h.2.2.2.1.2⟩,h.2.2.2.2.1.1⟩,h.2.2.2.2.1.2⟩) hs)
  refine za (zbx b.time 0 1099511627776 hs) λ_ _ hs=>?_
  obtain ⟨rfl,hs⟩:=hs
  refine ze ?_
  refine wp_lt ?_
  refine zj ⟨?_,hs.tail⟩
  have:(z4q b)↔(0<=b.time/\b.time<=1099511627776):=⟨λh=>h.2.2.2.2.2,λh=>⟨h1,h2,h3.1.1.1.1,⟨h3.1.1.1.2,h3.1.1.2⟩,⟨h3.1.2,h3.2⟩,h⟩⟩
  rw [decide_eq_decide.2 this]
theorem z00v (b:BatM) [hb:FocR l b.x 4 (b.rs.flatMap z03)] (hs:Sat w l):Ret P F.a42 #[.agg (zw b).toArray] w λvs w'=>vs=[.bool (decide (z49 b))]/\Sat w' l :=
 zrj b.base b.pid b.epoch b.seq b.kind b.time b.x <| by
  unfold z006
  have hl:=hs.slen b.x (xs:=b.rs) (enc:=z03)
  refine z0b hs λa0 w' hs=>?_
  refine zd hs ?_
  refine zd hs ?_
  refine zd hs ?_
  refine zd hs ?_
  refine zk (λh1=>?_) λh1=>?_
  ·have:¬ z49 b:=λh=>h.1 ⟨h1.1,or_assoc.1 h1.2⟩
   exact ⟨rfl,by rw [decide_eq_false this],hs.tail⟩
  have h1:¬ (b.pid=0/\(b.kind≠0\/b.epoch≠0\/b.seq≠0)):=λh=>h1 ⟨h.1,or_assoc.2 h.2⟩
  refine z02 hs ?_
  refine za (z7f b hs) λ_ _ hs=>?_
  obtain ⟨rfl,hs⟩:=hs
  refine ze ?_
  refine zk (λh2=>?_) λh2=>?_
  ·refine zd hs ?_
   refine zd hs ?_
   refine wp_lt ?_
   refine ⟨rfl,?_,hs.tail⟩
   have:z49 b↔(b.seq=0/\b.rs.length=0):=by
    unfold z49
    rw [if_pos h2]
    exact ⟨λh=>h.2,λh=>⟨h1,h⟩⟩
   congr 2
   rw [Bool.eq_iff_iff,decide_eq_true_iff,this,Bool.and_eq_true,beq_iff_eq,beq_iff_eq,hl]
   omega
  ·refine zd hs ?_
   refine wp_lt ?_
   refine ⟨rfl,?_,hs.tail⟩
   have:z49 b↔0<b.rs.length:=by
    unfold z49
    rw [if_neg h2]
    exact ⟨λh=>h.2,λh=>⟨h1,h⟩⟩
   congr 2
   rw [Bool.eq_iff_iff,decide_eq_true_iff,decide_eq_true_iff,this,hl]
   omega
theorem zdq (b:BatM) [hb:FocR l b.x 4 (b.rs.flatMap z03)] (hs:Sat w l):Ret P F.a40 #[.agg (zw b).toArray] w λvs w'=>vs=[.int .i64 (z0c b)]/\Sat w' l :=
 zqi b.base b.pid b.epoch b.seq b.kind b.time b.x <| by
  unfold z035 z0c
  have hl:=hs.slen b.x (xs:=b.rs) (enc:=z03)
  refine z0b hs λa0 w' hs=>?_
  refine zx (λv w'=>v=(decide (¬ z4q b\/¬ z49 b),())/\Sat w' (pt a0 (.cells #[.int .i64 b.base,.int .i64 b.pid,.int .i64 b.epoch,.int .i64 b.seq,.int .i64 b.kind,.int .i64 b.time,.slice b.x.a b.x.len b.x.cap] T.a1)::l)) ?_ ?_
  ·refine z02 hs ?_
   refine za (zt1 b hs) λ_ _ hs=>?_
   obtain ⟨rfl,hs⟩:=hs
   refine ze ?_
   refine z02 hs ?_
   refine zk (λh1=>?_) λh1=>?_
   ·exact zj ⟨by rw [decide_eq_true (.inl h1)],hs⟩
   refine za (z00v b hs) λ_ _ hs=>?_
   obtain ⟨rfl,hs⟩:=hs
   refine ze ?_
   refine wp_lt ?_
   refine zj ⟨?_,hs⟩
   have:(¬ z4q b\/¬ z49 b)↔¬ z49 b:=⟨λh=>h.resolve_left h1,.inr⟩
   rw [decide_eq_decide.2 this,decide_not]
  clear hs
  rintro _ w ⟨rfl,hs⟩
  refine zt ?_
  refine zk (λh1=>?_) λh1=>?_
  ·rw [if_pos h1];exact ⟨rfl,rfl,hs.tail⟩
  rw [if_neg h1]
  have hnum:z4q b:=Decidable.not_not.1 λh=>h1 (.inl h)
  have hfit:z49 b:=Decidable.not_not.1 λh=>h1 (.inr h)
  refine zd hs ?_
  refine wp_lt ?_
  refine zk (λh2=>?_) λh2=>?_
  ·rw [if_pos (by omega)];exact ⟨rfl,rfl,hs.tail⟩
  rw [if_neg (by omega)]
  refine zd hs ?_
  refine zx (λv w'=>z5t b.rs=0/\Sat w' (pt a0 (.cells #[.int .i64 b.base,.int .i64 b.pid,.int .i64 b.epoch,.int .i64 b.seq,.int .i64 b.kind,.int .i64 b.time,.slice b.x.a b.x.len b.x.cap] T.a1)::l)) ?_ ?_
  ·refine z0e (λk v w=>∃ i:Nat,v=((i:Int),())/\i<=b.rs.length/\b.rs.length-i=k/\z5t (b.rs.take i)=0/\Sat w (pt a0 (.cells #[.int .i64 b.base,.int .i64 b.pid,.int .i64 b.epoch,.int .i64 b.seq,.int .i64 b.kind,.int .i64 b.time,.slice b.x.a b.x.len b.x.cap] T.a1)::l)) b.rs.length ⟨0,rfl,by omega,rfl,rfl,hs⟩ ?_
   clear hs
   rintro k _ w ⟨i,rfl,hi,hk,hbad,hs⟩
   refine zt ?_
   refine zk (λhc=>?_) λhc=>?_
   rotate_left
   ·refine zv (zj ⟨?_,hs⟩)
    rwa [List.take_of_length_le (by omega)] at hbad
   have hil:i<b.rs.length:=by omega
   refine z23 hs i hil ?_
   refine z05 hs λc w' hs=>?_
   refine z09 hs λw' hs=>?_
   refine z02 hs ?_
   refine za (zu7 b.rs[i] hs) λ_ _ hs=>?_
   obtain ⟨rfl,hs⟩:=hs
   refine ze ?_
   refine wp_lt ?_
   refine zk (λh3=>?_) λh3=>?_
   ·refine wp_lt ?_
    refine zv (zv ?_)
    have:=zd4 b.rs i hil hbad h3
    rw [if_pos (by rw [this];exact h3),this]
    exact ⟨rfl,rfl,hs.tail.tail⟩
   ·refine z57 (us':=[.int .i64 ((i+1:Nat):Int)]) (by (try simp (disch:=omega) only [w64]);first|rfl|(congr;omega)) ?_
    refine z0q (b.rs.length-(i+1)) ?_
    exact ⟨i+1,rfl,by omega,rfl,zcq b.rs i hil hbad (Decidable.not_not.1 h3),hs.sub⟩
  clear hs
  rintro _ w ⟨hbad,hs⟩
  refine zt ?_
  rw [if_neg (by rw [hbad];simp)]
  refine z02 hs ?_
  refine za (zsn b hs) λ_ _ hs=>?_
  obtain ⟨rfl,hs⟩:=hs
  refine ze ?_
  have hsp:1<=z0d b/\z0d b<=64:=by
   unfold z0d
   have h3:=hfit.2
   split
   ·omega
   ·rename_i hm
    rw [if_neg hm] at h3
    omega
  obtain ⟨-,hba,-,-,hse,-⟩:=hnum
  refine z1l (y:=z0d b-1) ?_ (by rw [w64 (by omega) (by omega)])
  refine zx (λv w'=>v=(decide (b.base>1099511627776-(z0d b-1)\/(b.pid>0/\z0y b=false/\b.seq>2147483647-(z0d b-1))),())/\Sat w' l) ?_ ?_
  ·rw [w64 (x:=1099511627776-(z0d b-1)) (by omega) (by omega)]
   refine zd hs ?_
   refine zd hs ?_
   refine z02 hs ?_
   refine zk (λh3=>?_) λh3=>?_
   ·exact zj ⟨by rw [decide_eq_true (.inl h3)],hs.tail⟩
   refine zk (λh4=>?_) λh4=>?_
   rotate_left
   ·exact zj ⟨by rw [decide_eq_false (λh=>h.elim h3 λh=>h4 h.1)],hs.tail⟩
   refine za (z7f b hs) λ_ _ hs=>?_
   obtain ⟨rfl,hs⟩:=hs
   refine ze ?_
   refine zd hs ?_
   rw [w64 (x:=2147483647-(z0d b-1)) (by omega) (by omega)]
   refine zj ⟨?_,hs.tail⟩
   have:(b.base>1099511627776-(z0d b-1)\/(b.pid>0/\z0y b=false/\b.seq>2147483647-(z0d b-1)))↔(z0y b=false/\b.seq>2147483647-(z0d b-1)):=⟨λh=>(h.resolve_left h3).2,λh=>.inr ⟨h4,h⟩⟩
   rw [decide_eq_decide.2 this,Bool.decide_and]
   cases z0y b <;> rfl
  clear hs
  rintro _ w ⟨rfl,hs⟩
  refine zt ?_
  refine zk (λh3=>?_) λh3=>?_
  ·rw [if_pos h3];exact ⟨rfl,rfl,hs⟩
  ·rw [if_neg h3];exact ⟨rfl,rfl,hs⟩
theorem z1e (b:BatM) (hv:z0c b=0):1<=z0d b/\z0d b<=64/\z4q b/\z49 b/\b.base+z0d b<=1099511627777:=by
 unfold z0c at hv
 split at hv
 ·cases hv
 rename_i h1
 have hnum:z4q b:=Decidable.not_not.1 λh=>h1 (.inl h)
 have hfit:z49 b:=Decidable.not_not.1 λh=>h1 (.inr h)
 split at hv
 ·cases hv
 rename_i h2
 split at hv
 ·rename_i h3;exact absurd hv h3
 split at hv
 ·cases hv
 rename_i h4
 have hsp:1<=z0d b/\z0d b<=64:=by
  unfold z0d
  have h3:=hfit.2
  split
  ·omega
  ·rename_i hm
   rw [if_neg hm] at h3
   omega
 refine ⟨hsp.1,hsp.2,hnum,hfit,?_⟩
 apply Decidable.byContradiction
 intro h5
 exact h4 (.inl (by omega))
theorem zgv (b:BatM) [hb:FocR l b.x 4 (b.rs.flatMap z03)] (hs:Sat w l):Ret P F.a38 #[.agg (zw b).toArray] w λvs w'=>vs=[.int .i64 (z4a b)]/\Sat w' l :=
 zpq b.base b.pid b.epoch b.seq b.kind b.time b.x <| by
  unfold z00n z4a
  refine z0b hs λa0 w' hs=>?_
  refine z02 hs ?_
  refine za (zdq b hs) λ_ _ hs=>?_
  obtain ⟨rfl,hs⟩:=hs
  refine ze ?_
  refine zk (λh=>?_) λh=>?_
  ·rw [if_pos h];exact ⟨rfl,rfl,hs.tail⟩
  rw [if_neg h]
  obtain ⟨h1,h2,h3,-⟩:=z1e b (Decidable.not_not.1 h)
  have h3:=h3.2.1
  refine z0i hs λw' hs=>?_
  refine z2c hs ?_
  refine z02 hs ?_
  refine za (zsn b hs) λ_ w' hs=>?_
  obtain ⟨rfl,hs⟩:=hs
  refine ze ?_ ⟨trivial,λ_=>z0w hs⟩
  refine z1l (y:=b.base+z0d b) ?_ (by rw [w64 (by omega) (by omega)])
  refine zm ?_
  exact ⟨rfl,rfl,hs.tail⟩
end
def z5c:Nat->Nat->List UInt8
 | 0,_=>[]
 | k+1,n=>if n<128 then [UInt8.ofNat n] else UInt8.ofNat (n % 128+128)::z5c k (n / 128)
def z2i (n:Nat):List UInt8:=z5c 10 n
def z35 (i:Nat):List UInt8->Option (Nat × Nat)
 | []=>none
 | c::r=>if i>=10\/(i=9/\1<c.toNat) then none else if 128<=c.toNat then (z35 (i+1) r).map λp=>(c.toNat % 128+128*p.1,p.2+1) else if c.toNat=0/\0<i then none else some (c.toNat,1)
theorem z86 (i:Nat) (c:UInt8) (r:List UInt8):z35 i (c::r)=if i>=10\/(i=9/\1<c.toNat) then none else if 128<=c.toNat then (z35 (i+1) r).map λp=>(c.toNat % 128+128*p.1,p.2+1) else if c.toNat=0/\0<i then none else some (c.toNat,1):=rfl
theorem zgb:∀ (k n:Nat),0<k->n<128 ^ k->z5c (k+1) n=z5c k n
 | k+1,n,_,h=>by
  show (if n<128 then _ else _::z5c (k+1) (n / 128))=if n<128 then _ else _::z5c k (n / 128)
  by_cases h1:n<128
  ·rw [if_pos h1,if_pos h1]
  ·rw [if_neg h1,if_neg h1]
   have hk:0<k:=by
    apply Nat.pos_of_ne_zero
    rintro rfl
    simp at h;omega
   rw [zgb k (n / 128) hk]
   rw [Nat.pow_succ] at h
   omega
theorem zbm {n:Nat} (h:n<18446744073709551616):z2i n=if n<128 then [UInt8.ofNat n] else UInt8.ofNat (n % 128+128)::z2i (n / 128):=by
 unfold z2i
 rw [zgb 9 (n / 128) (by decide) (by omega)]
 rfl
theorem ziw:∀ (k n:Nat),(z5c k n).length<=k
 | 0,_=>Nat.le_refl _
 | k+1,n=>by
  have:=ziw k (n / 128)
  unfold z5c
  split <;> simp <;> omega
theorem zto (k n:Nat):0<(z5c (k+1) n).length:=by
 unfold z5c
 split <;> simp
theorem z69 (n:Nat):0<(z2i n).length/\(z2i n).length<=10:=⟨zto 9 n,ziw 10 n⟩
theorem zem:∀ (bs:List UInt8) (i v k:Nat),z35 i bs=some (v,k)->0<k/\k<=bs.length/\i+k<=10
 | [],i,v,k,h=>by cases h
 | c::r,i,v,k,h=>by
  unfold z35 at h
  split at h
  ·cases h
  rename_i h1
  split at h
  ·rename_i h2
   cases hr:z35 (i+1) r with
   | none=>rw [hr] at h;cases h
   | some p =>
    rw [hr] at h
    simp only [Option.map_some,Option.some.injEq,Prod.mk.injEq] at h
    have:=zem r (i+1) p.1 p.2 hr
    simp;omega
  ·split at h
   ·cases h
   ·simp only [Option.some.injEq,Prod.mk.injEq] at h
    simp;omega
theorem zjp:∀ (k i n:Nat) (rest:List UInt8),n<128 ^ k->0<k->n*128 ^ i<18446744073709551616->(0<i->0<n)->i<10->z35 i (z5c k n++rest)=some (n,(z5c k n).length)
 | k+1,i,n,rest,hn,_,h64,hi,hi10=>by
  have hcase:i=0\/i=1\/i=2\/i=3\/i=4\/i=5\/i=6\/i=7\/i=8\/i=9:=by omega
  have h9:i=9->n<2:=λe=>by subst e;simp at h64;omega
  unfold z5c
  by_cases h:n<128
  ·rw [if_pos h]
   show (if _ then _ else if _ then _ else if _ then _ else _)=_
   have e:(UInt8.ofNat n).toNat=n:=by simp;omega
   rw [e,if_neg (by omega),if_neg (by omega),if_neg (by omega)]
   rfl
  ·rw [if_neg h]
   have e:(UInt8.ofNat (n % 128+128)).toNat=n % 128+128:=by simp;omega
   have h64':n / 128*128 ^ (i+1)<18446744073709551616:=by
    rw [Nat.pow_succ,Nat.mul_comm (128 ^ i),<- Nat.mul_assoc]
    exact Nat.lt_of_le_of_lt (Nat.mul_le_mul_right _ (Nat.div_mul_le_self n 128)) h64
   have hk:0<k:=by
    apply Nat.pos_of_ne_zero
    rintro rfl
    simp at hn;omega
   have ih:=zjp k (i+1) (n / 128) rest (by rw [Nat.pow_succ] at hn;omega) hk h64' (λ_=>by omega) (by omega)
   rw [List.cons_append]
   show (if _ then _ else if _ then _ else _)=_
   have e3:(n % 128+128) % 128+128*(n / 128)=n:=by omega
   rw [e,if_neg (by omega),if_pos (by omega),ih,Option.map_some,e3,List.length_cons]
theorem zis {n:Nat} (h:n<18446744073709551616) (rest:List UInt8):z35 0 (z2i n++rest)=some (n,(z2i n).length) :=
 zjp 10 0 n rest (by omega) (by decide) (by omega) (λh=>absurd h (by decide)) (by decide)
theorem zof:∀ (bs:List UInt8) (i v k:Nat),i<10->z35 i bs=some (v,k)->bs.take k=z5c (10-i) v/\v*128 ^ i<18446744073709551616/\(0<i->0<v)
 | [],i,v,k,_,h=>by cases h
 | c::r,i,v,k,hi10,h=>by
  have hcase:i=0\/i=1\/i=2\/i=3\/i=4\/i=5\/i=6\/i=7\/i=8\/i=9:=by omega
  have hc:=c.toNat_lt
  unfold z35 at h
  split at h
  ·cases h
  rename_i h1
  split at h
  ·rename_i h2
   cases hr:z35 (i+1) r with
   | none=>rw [hr] at h;cases h
   | some p =>
    rw [hr] at h
    simp only [Option.map_some,Option.some.injEq,Prod.mk.injEq] at h
    obtain ⟨rfl,rfl⟩:=h
    obtain ⟨g1,g2,g3⟩:=zof r (i+1) p.1 p.2 (by omega) hr
    have hp:=g3 (by omega)
    obtain ⟨m,hm⟩:∃ m,10-i=m+1:=⟨9-i,by omega⟩
    have hm':10-(i+1)=m:=by omega
    rw [hm'] at g1
    refine ⟨?_,?_,λ_=>by omega⟩
    ·rw [hm]
     unfold z5c
     rw [if_neg (by omega),List.take_succ_cons,g1]
     have e1:(c.toNat % 128+128*p.1) % 128+128=c.toNat:=by omega
     have e2:(c.toNat % 128+128*p.1) / 128=p.1:=by omega
     rw [e1,e2]
     simp
    ·obtain ⟨m,hm⟩:∃ m,18446744073709551616=m*128 ^ (i+1):=by
      rcases hcase with rfl|rfl|rfl|rfl|rfl|rfl|rfl|rfl|rfl|rfl
      ·exact ⟨2 ^ 57,rfl⟩
      ·exact ⟨2 ^ 50,rfl⟩
      ·exact ⟨2 ^ 43,rfl⟩
      ·exact ⟨2 ^ 36,rfl⟩
      ·exact ⟨2 ^ 29,rfl⟩
      ·exact ⟨2 ^ 22,rfl⟩
      ·exact ⟨2 ^ 15,rfl⟩
      ·exact ⟨2 ^ 8,rfl⟩
      ·exact ⟨2 ^ 1,rfl⟩
      ·omega
     rw [hm] at g2 ⊢
     have hlt:=Nat.lt_of_mul_lt_mul_right g2
     have h5:(p.1+1)*128 ^ (i+1)<=m*128 ^ (i+1):=Nat.mul_le_mul_right _ hlt
     refine Nat.lt_of_lt_of_le ?_ h5
     rw [Nat.pow_succ,Nat.mul_comm (128 ^ i),<- Nat.mul_assoc]
     exact Nat.mul_lt_mul_of_pos_right (by omega) (Nat.pow_pos (by decide))
  ·split at h
   ·cases h
   ·simp only [Option.some.injEq,Prod.mk.injEq] at h
    obtain ⟨rfl,rfl⟩:=h
    obtain ⟨m,hm⟩:∃ m,10-i=m+1:=⟨9-i,by omega⟩
    refine ⟨?_,?_,λ_=>by omega⟩
    ·rw [hm]
     unfold z5c
     rw [if_pos (by omega)]
     simp
    ·rcases hcase with rfl|rfl|rfl|rfl|rfl|rfl|rfl|rfl|rfl|rfl <;> simp <;> omega
theorem zer {bs:List UInt8} {v k:Nat} (h:z35 0 bs=some (v,k)):bs.take k=z2i v/\v<18446744073709551616:=by
 obtain ⟨h1,h2,-⟩:=zof bs 0 v k (by decide) h
 exact ⟨h1,by simpa using h2⟩
def z1a:List UInt8->Nat
 | []=>0
 | c::r=>if 128<=c.toNat then z1a r+1 else 0
def z6p:List UInt8->Nat
 | []=>0
 | c::r=>c.toNat % 128+128*z6p r
theorem zbp:∀ bs:List UInt8,z1a bs<=bs.length
 | []=>Nat.le_refl _
 | c::r=>by
  have:=zbp r
  unfold z1a
  split <;> simp <;> omega
theorem zhk:∀ (bs:List UInt8) (i:Nat) (h:i<z1a bs),128<=(bs[i]'(Nat.lt_of_lt_of_le h (zbp bs))).toNat
 | [],i,h=>by cases h
 | c::r,i,h=>by
  unfold z1a at h
  split at h
  ·rename_i h1
   cases i with
   | zero=>exact h1
   | succ i=>exact zhk r i (by omega)
  ·cases h
theorem zde:∀ (bs:List UInt8) (h:z1a bs<bs.length),(bs[z1a bs]'h).toNat<128
 | [],h=>by cases h
 | c::r,h=>by
  by_cases h1:128<=c.toNat
  ·have e:z1a (c::r)=z1a r+1:=by show (if _ then _ else _)=_;rw [if_pos h1]
   simp only [e,List.getElem_cons_succ]
   exact zde r (by rw [e] at h;simpa using h)
  ·have e:z1a (c::r)=0:=by show (if _ then _ else _)=_;rw [if_neg h1]
   simp only [e,List.getElem_cons_zero]
   omega
theorem zjh:∀ (bs:List UInt8) (i:Nat),z35 i bs=if h:z1a bs<bs.length/\i+z1a bs<10 then
  if ((bs[z1a bs]'h.1).toNat=0/\0<i+z1a bs)\/(i+z1a bs=9/\1<(bs[z1a bs]'h.1).toNat) then none else some (z6p (bs.take (z1a bs+1)),z1a bs+1) else none
 | [],i=>by simp [z35,z1a]
 | c::r,i=>by
  have ih:=zjh r (i+1)
  have hl:=zbp r
  unfold z35
  by_cases h1:128<=c.toNat
  ·have e:z1a (c::r)=z1a r+1:=by show (if _ then _ else _)=_;rw [if_pos h1]
   rw [if_pos h1,ih]
   simp only [e,List.length_cons,List.getElem_cons_succ,List.take_succ_cons,z6p]
   by_cases h2:z1a r<r.length/\i+1+z1a r<10
   ·rw [if_neg (by omega),dif_pos h2,dif_pos (by omega)]
    have e2:i+(z1a r+1)=i+1+z1a r:=by omega
    simp only [e2]
    split <;> rfl
   ·rw [dif_neg h2,dif_neg (by omega)]
    split <;> rfl
  ·have e:z1a (c::r)=0:=by show (if _ then _ else _)=_;rw [if_neg h1]
   rw [if_neg h1]
   simp only [e,List.length_cons,List.getElem_cons_zero,List.take_succ_cons,z6p,List.take_zero,Nat.add_zero]
   by_cases h2:i<10
   ·rw [dif_pos ⟨by omega,h2⟩]
    by_cases h3:i=9/\1<c.toNat
    ·rw [if_pos (.inr h3),if_pos (.inr h3)]
    ·rw [if_neg (by omega)]
     by_cases h4:c.toNat=0/\0<i
     ·rw [if_pos h4,if_pos (.inl h4)]
     ·rw [if_neg h4,if_neg (by omega)]
      have:c.toNat % 128=c.toNat:=by omega
      simp [this]
   ·rw [if_pos (by omega),dif_neg (by omega)]
def z0r (x:Sl):List Value:=[.slice x.a x.len x.cap]
instance:Enc1 z0r .slc (λx=>x):=⟨λ_=>rfl⟩
instance:EncN z0r 1:=⟨λ_=>rfl,by decide,by simp [z0r,Value.oneCell']⟩
section
variable {w:World} {l r:List HP} {sz:Nat} {x:Sl}
theorem zd6 {α:Type} {enc:α->List Value} [hE:EncN enc sz]:∀ (xs:List α) (n:Nat),(xs.flatMap enc).drop (n*sz)=(xs.drop n).flatMap enc
 | [],n=>by simp
 | x::xs,0=>by simp
 | x::xs,n+1=>by
  rw [List.flatMap_cons,Nat.succ_mul,Nat.add_comm,<- List.drop_drop,List.drop_left' (hE.len x),zd6 xs n,List.drop_succ_cons]
theorem FocR.post {α:Type} {enc:α->List Value} [hE:EncN enc sz] {xs:List α} [hf:FocR l x sz (xs.flatMap enc)] {n m c:Nat} (hm:x.len<=m):FocR l ⟨z1g x.a sz n m,x.len-n,c⟩ sz ((xs.drop n).flatMap enc):=⟨λw hs=>by
 obtain ⟨hlen,h0⟩:=hf.rd w hs
 have hl:x.len=xs.length:=(hf.rd w hs).len hE.len hE.pos
 refine ⟨by rw [z3s,List.length_drop,hl],?_⟩
 by_cases hn:x.len-n=0
 ·exact .inl hn
 ·right
  rcases h0 with h0|⟨b,off,arr,T,fr,ha,hb,hc⟩
  ·omega
  ·refine ⟨b,off+n*sz,arr,T,fr,?_,hb,λi hi=>?_⟩
   ·show z1g x.a sz n m=_
    unfold z1g
    rw [if_neg (by omega),ha,Option.map_some,z3m]
   ·rw [<- zd6,List.length_drop] at hi
    rw [Nat.add_assoc,hc (n*sz+i) (by omega),<- zd6,List.getElem?_drop]⟩
end
section
variable {w:World} {l r:List HP} {Q:Post} {S:World->Prop}
theorem zoo {P:Program} {t el:TypeId} {sz bytes:Nat} {c:Int} {k:Sl->Prog} [ht:SlT P t el sz bytes] (n:Nat) (hs:Sat w l) (h:∀ x w',Sat w' (slc el sz x []::l)->(k x).wp P S w' Q) (hc:c=n:=by first|rfl|omega) (hb:n*bytes<=281474976710656/\n<=9223372036854775807:=by omega) (hS:∀ w',S w':=by exact λ_=>trivial) :
  (Prog.act (Instr.makeSlice t (.int .i64 0) (.int .i64 c)) sL (u1 k)).wp P S w Q:=by
 subst hc
 obtain ⟨i,z,hi,h2,h3,h4,h5⟩:=ht.parts
 have hrun:=run_make (P:=P) w t el i z ht.ok.1 hi h4 .i64 .i64 0 n (Int.le_refl _) (by omega) (by rw [h3,<- Int.natCast_mul,Nat.mul_comm];omega) (by omega)
 simp only [Int.toNat_zero,Int.toNat_natCast] at hrun
 have hp:=hs.push (o:=.cells (madeCells z.cells (n*i.size)) el) (w':=w.alloc (.cells (madeCells z.cells (n*i.size)) el)) rfl
 refine ⟨(⟨some ⟨w.heap.size,0,none⟩,0,n⟩,()),_,hrun,hS _,h ⟨some ⟨w.heap.size,0,none⟩,0,n⟩ _ ?_⟩
 refine hp.imp λp hp=>.inr ⟨w.heap.size,0,_,_,rfl,hp,by simp,Nat.zero_le _,?_,λi hi=>by simp at hi,z2z _ _⟩
 rw [size_madeCells,h2];simp
theorem z8y {P:Program} {T:TypeId} {sz:Nat} {α:Type} {enc:α->List Value} {xs:List α} {i i':Int} {x:Sl} {g g':Prop} {p:Pr} {f:p.D->Prog} (hs:Sat w l) [hf:FocR l x sz (xs.flatMap enc)] [hE:EncN enc sz] [hT:One P T]
  (y:p.D) (hg:g->∃ n,∃ hn:n<xs.length,i=(n:Int)/\enc xs[n]=[p.mk y]) (h:(f y).wp P S w Q) (hgg:g'->g:=by exact id) (hi':i'=i:=by rfl) :
  (Prog.ex [.adr] (c1 λa=>g->0<=i/\i<((x.len:Nat):Int)/\x.a=some a) (u1 λa=>.read g' (ld T (Addr.add a (Int.toNat i'*sz))) (.one (.one p)) (u1 f))).wp P S w Q:=by
 subst hi'
 have hr:=hf.rd w hs
 have hl:x.len=xs.length:=hr.len hE.len hE.pos
 by_cases hgc:g
 ·obtain ⟨n,hn,hin,hen⟩:=hg hgc
  subst hin
  obtain ⟨a,ha,he⟩:=hr.el hE.len (by omega)
  refine ⟨(a,()),λ_=>⟨by omega,by omega,ha⟩,(y,()),λ_=>?_,h⟩
  have:=he n hn
  rw [hen] at this
  have h2:=At.ld1 (P:=P) (T:=T) this rfl
  cases p <;> exact h2
 ·exact ⟨(⟨0,0,none⟩,()),λh=>absurd h hgc,(y,()),λh=>absurd (hgg h) hgc,h⟩
theorem zej {P:Program} {T:TypeId} {sz:Nat} {α:Type} {enc:α->List Value} {xs:List α} {i i':Int} {j:Nat} {x:Sl} {g g':Prop} {p:Pr} {dec:α->p.D} {f:p.D->Prog} (hs:Sat w l) [hf:FocR l x sz (xs.flatMap enc)] [hE:EncN enc sz] [hD:EncF enc j p dec] [hT:One P T]
  (y:p.D) (hg:g->∃ n,∃ hn:n<xs.length,i=(n:Int)/\dec xs[n]=y) (h:(f y).wp P S w Q) (hgg:g'->g:=by exact id) (hi':i'=i:=by rfl) :
  (Prog.ex [.adr] (c1 λa=>g->0<=i/\i<((x.len:Nat):Int)/\x.a=some a) (u1 λa=>.read g' (ld T (Addr.add (Addr.add a (Int.toNat i'*sz)) j)) (.one (.one p)) (u1 f))).wp P S w Q:=by
 subst hi'
 by_cases hgc:g
 ·obtain ⟨n,hn,hin,hen⟩:=hg hgc
  subst hin hen
  obtain ⟨a,ha,hl,hr⟩:=zds (P:=P) (T:=T) (j:=j) (enc:=enc) (p:=p) (dec:=dec) (x:=x) hs hn
  exact ⟨(a,()),λ_=>⟨by omega,by omega,ha⟩,(dec xs[n],()),λ_=>by rw [Int.toNat_natCast];exact hr,h⟩
 ·exact ⟨(⟨0,0,none⟩,()),λh=>absurd h hgc,(y,()),λh=>absurd (hgg h) hgc,h⟩
theorem zgu {P:Program} {T:TypeId} {sz:Nat} {α:Type} {enc:α->List Value} {xs:List α} {ii:Int} {m j:Nat} {x:Sl} {g':Prop} {p:Pr} {dec:α->p.D} {f:p.D->Prog} (hs:Sat w l) [hf:FocR l x sz (xs.flatMap enc)] [hE:EncN enc sz] [hD:EncF enc j p dec] [hT:One P T]
  (n:Nat) (hn:n<xs.length) (h:(f (dec xs[n])).wp P S w Q) (hm:m=n*sz:=by rfl) (hi:ii=n:=by rfl) :
  (Prog.ex [.adr] (c1 λa=>(0:Int)<=ii/\ii<((x.len:Nat):Int)/\x.a=some a) (u1 λa=>.read g' (ld T (Addr.add (Addr.add a m) j)) (.one (.one p)) (u1 f))).wp P S w Q:=by
 subst hm hi
 obtain ⟨a,ha,hl,hr⟩:=zds (P:=P) (T:=T) (j:=j) (enc:=enc) (p:=p) (dec:=dec) (x:=x) hs hn
 exact ⟨(a,()),⟨by omega,by omega,ha⟩,(dec xs[n],()),λ_=>hr,h⟩
end
end Go.Dec
