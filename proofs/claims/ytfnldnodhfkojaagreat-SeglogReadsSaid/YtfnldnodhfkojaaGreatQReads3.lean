/- What the claim of this folder leans on: our own texts, joined, without what it does not use. -/
import Derived.Test.YtfnldnodhfkojaaGreatRows
import Derived.WalkKit
import Derived.ProofKit
import Derived.OpenShut
import Derived.RowKit3
import Derived.OrdersHeld
import Derived.Scope
import Derived.KernelRfl
import Derived.Laws.Sem
import Derived.Laws.StructEq
import Derived.Deep.AppendSrc
import Derived.Laws.BytesArg
import Derived.Laws.RangeString
import Derived.Maps.RangeRun
import Derived.Lib.ConvBytes
import Derived.Lib.SlBytesConst
import Derived.ChangeSlices
import Derived.ChangeMaps5
import Derived.ChangeSame
import Derived.Deep.Slices
import Derived.Deep.Fields
import Derived.Test.YtfnldnodhfkojaaGreatProg
import Derived.Laws.MakeOwn
import Derived.Sort.MapsRangeIn
import Derived.Sort.KeysCollected
import Derived.RangeFuncNested
import Derived.RangeFuncBound
import Derived.RangeFuncCalls
import Derived.RangeFuncLeaves
import Derived.RangeFuncBox
import Derived.OwnWalkIn
import Derived.TacticsInMore
import Derived.RegionIn
import Derived.LoopNIn
import Derived.LoopIn
import Derived.Maps.AppendAt
import Derived.Shelf.Abstract
import Derived.Test.YtfnldnodhfkojaaGreatQReads1
import Derived.Test.YtfnldnodhfkojaaGreatQReads2
set_option linter.unusedVariables false
set_option linter.unusedSimpArgs false
namespace Go.Dec
def zf58 (l:Option Addr):Prog :=
.ex [.adr] (c1 fun a0=>Option.isNone l=false→l=some a0) (u1 fun a1 =>
.read (Option.isNone l=false) (ld T.a22 (Addr.add a1 4)) sL (u1 fun l2 =>
.ite (Option.isNone l || ((l2.len:Nat):Int) == 0) (
.done 0 [.int .i64 0]) (
.call F.a60 [.pointer l] sP (u1 fun p3 =>
.call F.a74 [.pointer p3] (sI .i64) (u1 fun (n4:Int) =>
.lt (.int .i64) (n4) fun (n5:Int) =>
.done 0 [.int .i64 n5])))))
theorem zf58_calls (l:Option Addr) {w:World} {R:List Value→World→Prop} (h:(zf58 l).wp P (fun _=>True) w fun e vs w'=>e=0∧R vs w'):Ret P F.a50 #[.pointer l] w R:=dS (n:=16) (rv:=[.tmp 2]) { cnd:=[],blk:=[],reg:=[],lps:=[] } [.val (.pointer l)] Go.Proofs.Tryz.func19 (by kernel_rfl) (by kernel_rfl) (by kernel_rfl) (by kernel_rfl) h
def zf117 (b_0 b_1 b_2 b_3 b_4 b_5:Int) (b_6:Sl) (offset:Int):Prog :=
.act (Instr.box T.a1 (.agg #[.int .i64 b_0,.int .i64 b_1,.int .i64 b_2,.int .i64 b_3,.int .i64 b_4,.int .i64 b_5,b_6.v])) sA (u1 fun a0 =>
.act (new T.a1) sA (u1 fun a1 =>
.bind 1 [.one .bool] (
.tick <|
.read True (ld T.a1 a0) (sG [.int .i64,.int .i64,.int .i64,.int .i64,.int .i64,.int .i64,.slc]) (u7 fun (n2 n3 n4 n5 n6 n7:Int) l8 =>
.call F.a114 [.agg #[.int .i64 n2,.int .i64 n3,.int .i64 n4,.int .i64 n5,.int .i64 n6,.int .i64 n7,l8.v]] (sI .i64) (u1 fun (n9:Int) =>
.hold ((n9 != 0)=false) (ld T.a11 (Addr.add a0 0)) (sI .i64) (u1 fun (n10:Int) =>
.read ((n9 != 0)=false) (ld T.a1 a0) (sG [.int .i64,.int .i64,.int .i64,.int .i64,.int .i64,.int .i64,.slc]) (u7 fun (n11 n12 n13 n14 n15 n16:Int) l17 =>
.ite (n9 != 0) (
.untick <|
.done 1 [.bool true]) (
.call F.a113 [.agg #[.int .i64 n11,.int .i64 n12,.int .i64 n13,.int .i64 n14,.int .i64 n15,.int .i64 n16,l17.v]] (sI .i64) (u1 fun (n18:Int) =>
.untick <|
.done 1 [.bool (decide (offset>IntKind.wrap .i64 (IntKind.wrap .i64 (n10+n18)-1)))]))))))) (u1 fun b19 =>
.ite (b19) (
.actU (st T.a1 a1 (.agg #[.int .i64 0,.int .i64 0,.int .i64 0,.int .i64 0,.int .i64 0,.int .i64 0,.slice none 0 0])) <|
.read True (ld T.a1 a1) (sG [.int .i64,.int .i64,.int .i64,.int .i64,.int .i64,.int .i64,.slc]) (u7 fun (n20 n21 n22 n23 n24 n25:Int) l26 =>
.done 0 [.agg #[.int .i64 n20,.int .i64 n21,.int .i64 n22,.int .i64 n23,.int .i64 n24,.int .i64 n25,l26.v],.bool false])) (
.read True (ld T.a1 a0) (sG [.int .i64,.int .i64,.int .i64,.int .i64,.int .i64,.int .i64,.slc]) (u7 fun (n27 n28 n29 n30 n31 n32:Int) l33 =>
.call F.a109 [.agg #[.int .i64 n27,.int .i64 n28,.int .i64 n29,.int .i64 n30,.int .i64 n31,.int .i64 n32,l33.v]] sB (u1 fun b34 =>
.ite (b34) (
.read True (ld T.a1 a0) (sG [.int .i64,.int .i64,.int .i64,.int .i64,.int .i64,.int .i64,.slc]) (u7 fun (n35 n36 n37 n38 n39 n40:Int) l41 =>
.actU (st T.a1 a1 (.agg #[.int .i64 n35,.int .i64 n36,.int .i64 n37,.int .i64 n38,.int .i64 n39,.int .i64 n40,l41.v])) <|
.read True (ld T.a1 a1) (sG [.int .i64,.int .i64,.int .i64,.int .i64,.int .i64,.int .i64,.slc]) (u7 fun (n42 n43 n44 n45 n46 n47:Int) l48 =>
.done 0 [.agg #[.int .i64 n42,.int .i64 n43,.int .i64 n44,.int .i64 n45,.int .i64 n46,.int .i64 n47,l48.v],.bool true]))) (
.bind 1 [.one (.int .i64)] (
.loop 2 [.one (.int .i64)] (0,()) (u1 fun (n49:Int) =>
.read True (ld T.a11 (Addr.add a0 0)) (sI .i64) (u1 fun (n50:Int) =>
.ite (decide (IntKind.wrap .i64 (n50+n49)<offset)) (
.lt (.int .i64) (IntKind.wrap .i64 (n49+1)) fun (n51:Int) =>
.done 2 [.int .i64 n51]) (
.done 1 [.int .i64 n49])))) (u1 fun (n52:Int) =>
.read True (ld T.a1 a0) (sG [.int .i64,.int .i64,.int .i64,.int .i64,.int .i64,.int .i64,.slc]) (u7 fun (n53 n54 n55 n56 n57 n58:Int) l59 =>
.read True (ld T.a19 (Addr.add a0 6)) sL (u1 fun l60 =>
.call F.a110 [.agg #[.int .i64 n53,.int .i64 n54,.int .i64 n55,.int .i64 n56,.int .i64 n57,.int .i64 n58,l59.v],.int .i64 n52,.int .i64 (((l60.len:Nat):Int))] (sG [.int .i64,.int .i64,.int .i64,.int .i64,.int .i64,.int .i64,.slc]) (u7 fun (n61 n62 n63 n64 n65 n66:Int) l67 =>
.actU (st T.a1 a1 (.agg #[.int .i64 n61,.int .i64 n62,.int .i64 n63,.int .i64 n64,.int .i64 n65,.int .i64 n66,l67.v])) <|
.read True (ld T.a1 a1) (sG [.int .i64,.int .i64,.int .i64,.int .i64,.int .i64,.int .i64,.slc]) (u7 fun (n68 n69 n70 n71 n72 n73:Int) l74 =>
.done 0 [.agg #[.int .i64 n68,.int .i64 n69,.int .i64 n70,.int .i64 n71,.int .i64 n72,.int .i64 n73,l74.v],.bool true]))))))))))))
theorem zf117_calls (b_0 b_1 b_2 b_3 b_4 b_5:Int) (b_6:Sl) (offset:Int) {w:World} {R:List Value→World→Prop} (h:(zf117 b_0 b_1 b_2 b_3 b_4 b_5 b_6 offset).wp P (fun _=>True) w fun e vs w'=>e=0∧R vs w'):Ret P F.a108 #[.agg #[.int .i64 b_0,.int .i64 b_1,.int .i64 b_2,.int .i64 b_3,.int .i64 b_4,.int .i64 b_5,.slice b_6.a b_6.len b_6.cap],.int .i64 offset] w R:=dS (n:=38) (rv:=[.cell 4 38,.tmp 5]) { cnd:=[],blk:=[(0,[(6,.one (.int .i64))])],reg:=[(1,[(19,.one .bool)])],lps:=[(0,[(6,.one (.int .i64))])] } [.val (.agg #[.int .i64 b_0,.int .i64 b_1,.int .i64 b_2,.int .i64 b_3,.int .i64 b_4,.int .i64 b_5,.slice b_6.a b_6.len b_6.cap]),.val (.int .i64 offset)] Go.Proofs.Tryz.func20 (by kernel_rfl) (by kernel_rfl) (by kernel_rfl) (by kernel_rfl) h
def zf59 (l:Option Addr) (offset:Int) (most:Int):Prog :=
.act (Instr.box T.a16 (.pointer l)) sA (u1 fun a0 =>
.act (Instr.box T.a11 (.int .i64 offset)) sA (u1 fun a1 =>
.act (Instr.box T.a10 (.int .i64 most)) sA (u1 fun a2 =>
.read True (ld T.a16 a0) sP (u1 fun p3 =>
.lt (.bool) (Option.isNone p3) fun b4 =>
.ite (b4) (
.done 0 [.slice none 0 0,.int .i64 1]) (
.read True (ld T.a10 a2) (sI .i64) (u1 fun (n5:Int) =>
.lt (.bool) (decide (n5<1)) fun b6 =>
.ite (b6) (
.done 0 [.slice none 0 0,.int .i64 2]) (
.bind 1 [.one .bool] (
.tick <|
.hold True (ld T.a11 a1) (sI .i64) (u1 fun (n7:Int) =>
.read True (ld T.a16 a0) sP (u1 fun p8 =>
.call F.a49 [.pointer p8] (sI .i64) (u1 fun (n9:Int) =>
.hold (decide (n7<n9)=false) (ld T.a11 a1) (sI .i64) (u1 fun (n10:Int) =>
.read (decide (n7<n9)=false) (ld T.a16 a0) sP (u1 fun p11 =>
.ite (decide (n7<n9)) (
.untick <|
.done 1 [.bool true]) (
.call F.a50 [.pointer p11] (sI .i64) (u1 fun (n12:Int) =>
.lt (.bool) (decide (n10>n12)) fun b13 =>
.untick <|
.done 1 [.bool b13])))))))) (u1 fun b14 =>
.ite (b14) (
.done 0 [.slice none 0 0,.int .i64 8]) (
.act (new T.a18) sA (u1 fun a15 =>
.read True (ld T.a16 a0) sP (u1 fun p16 =>
.ex [.adr] (c1 fun a17=>p16=some a17) (u1 fun a18 =>
.read True (ld T.a22 (Addr.add a18 4)) sL (u1 fun l19 =>
.call F.a92 [.int .i64 (((l19.len:Nat):Int)),.func (Fn.func 66) #[] #[.pointer (some a0),.pointer (some a1)]] (sI .i64) (u1 fun (n20:Int) =>
.lt (.int .i64) (IntKind.wrap .i64 (n20-1)) fun (n21:Int) =>
.lt (.int .i64) (if 0>n21 then 0 else n21) fun (n22:Int) =>
.bind 1 [] (
.loop 2 [.one (.int .i64)] (n22,()) (u1 fun (n23:Int) =>
.read True (ld T.a16 a0) sP (u1 fun p24 =>
.ex [.adr] (c1 fun a25=>p24=some a25) (u1 fun a26 =>
.read True (ld T.a22 (Addr.add a26 4)) sL (u1 fun l27 =>
.ite (decide (n23<((l27.len:Nat):Int))) (
.read True (ld T.a16 a0) sP (u1 fun p28 =>
.ex [.adr] (c1 fun a29=>p28=some a29) (u1 fun a30 =>
.read True (ld T.a22 (Addr.add a30 4)) sL (u1 fun l31 =>
.ex [.adr] (c1 fun a32=>0≤n23∧n23<((l31.len:Nat):Int)∧l31.a=some a32) (u1 fun a33 =>
.read True (ld T.a17 (Addr.add a33 (Int.toNat n23*1))) sP (u1 fun p34 =>
.bind 3 [.one .bool] (
.tick <|
.hold True (ld T.a16 a0) sP (u1 fun p35 =>
.read True (ld T.a11 a1) (sI .i64) (u1 fun (n36:Int) =>
.call F.a73 [.pointer p34,.int .i64 n36] (sI .i64) (u1 fun (n37:Int) =>
.untick <|
.call F.a66 [.pointer p35,.pointer p34,.int .i64 n37,.func (Fn.func 69) #[] #[.pointer (some a1),.pointer (some a15),.pointer (some a2)]] sB (u1 fun b38 =>
.lt (.bool) (b38) fun b39 =>
.untick <|
.done 3 [.bool b39]))))) (u1 fun b40 =>
.ite (not b40) (
.done 1 []) (
.lt (.int .i64) (IntKind.wrap .i64 (n23+1)) fun (n41:Int) =>
.done 2 [.int .i64 n41])))))))) (
.done 1 [])))))) (u0 <|
.read True (ld T.a18 a15) sL (u1 fun l42 =>
.done 0 [l42.v,.int .i64 0]))))))))))))))))
theorem zf59_calls (l:Option Addr) (offset most:Int) {w:World} {R:List Value→World→Prop} (h:(zf59 l offset most).wp P (fun _=>True) w fun e vs w'=>e=0∧R vs w'):Ret P F.a51 #[.pointer l,.int .i64 offset,.int .i64 most] w R:=dS (n:=65) (rv:=[.tmp 6,.tmp 7]) { cnd:=[],blk:=[(1,[])],reg:=[(5,[(18,.one .bool)]),(13,[(11,.one .bool)])],lps:=[(1,[(9,.one (.int .i64))])] } [.val (.pointer l),.val (.int .i64 offset),.val (.int .i64 most)] Go.Proofs.Tryz.func21 (by kernel_rfl) (by kernel_rfl) (by kernel_rfl) (by kernel_rfl) h
def zf122 (b_0 b_1 b_2 b_3 b_4 b_5:Int) (b_6:Sl):Prog :=
.act (Instr.box T.a1 (.agg #[.int .i64 b_0,.int .i64 b_1,.int .i64 b_2,.int .i64 b_3,.int .i64 b_4,.int .i64 b_5,b_6.v])) sA (u1 fun a0 =>
.read True (ld T.a1 a0) (sG [.int .i64,.int .i64,.int .i64,.int .i64,.int .i64,.int .i64,.slc]) (u7 fun (n1 n2 n3 n4 n5 n6:Int) l7 =>
.call F.a109 [.agg #[.int .i64 n1,.int .i64 n2,.int .i64 n3,.int .i64 n4,.int .i64 n5,.int .i64 n6,l7.v]] sB (u1 fun b8 =>
.ite (b8) (
.done 0 [.int .i64 1]) (
.read True (ld T.a19 (Addr.add a0 6)) sL (u1 fun l9 =>
.lt (.int .i64) (((l9.len:Nat):Int)) fun (n10:Int) =>
.done 0 [.int .i64 n10])))))
theorem zf122_calls (b_0 b_1 b_2 b_3 b_4 b_5:Int) (b_6:Sl) {w:World} {R:List Value→World→Prop} (h:(zf122 b_0 b_1 b_2 b_3 b_4 b_5 b_6).wp P (fun _=>True) w fun e vs w'=>e=0∧R vs w'):Ret P F.a113 #[.agg #[.int .i64 b_0,.int .i64 b_1,.int .i64 b_2,.int .i64 b_3,.int .i64 b_4,.int .i64 b_5,.slice b_6.a b_6.len b_6.cap]] w R:=dS (n:=8) (rv:=[.tmp 2]) { cnd:=[],blk:=[],reg:=[],lps:=[] } [.val (.agg #[.int .i64 b_0,.int .i64 b_1,.int .i64 b_2,.int .i64 b_3,.int .i64 b_4,.int .i64 b_5,.slice b_6.a b_6.len b_6.cap])] Go.Proofs.Tryz.func22 (by kernel_rfl) (by kernel_rfl) (by kernel_rfl) (by kernel_rfl) h
def zf121 (a:Sl) (b:Sl):Prog :=
.ite (((a.len:Nat):Int) != ((b.len:Nat):Int)) (
.done 0 [.bool false]) (
.bind 1 [] (
.loop 2 [.one (.int .i64)] (0,()) (u1 fun (n0:Int) =>
.ite (decide (n0<((a.len:Nat):Int))) (
.lt (.int .i64) (n0) fun (n1:Int) =>
.tick <|
.ex [.adr] (c1 fun a2=>0≤n1∧n1<((a.len:Nat):Int)∧a.a=some a2) (u1 fun a3 =>
.read True (ld T.a1 (Addr.add a3 (Int.toNat n1*7))) (sG [.int .i64,.int .i64,.int .i64,.int .i64,.int .i64,.int .i64,.slc]) (u7 fun (n4 n5 n6 n7 n8 n9:Int) l10 =>
.ex [.adr] (c1 fun a11=>0≤n1∧n1<((b.len:Nat):Int)∧b.a=some a11) (u1 fun a12 =>
.read True (ld T.a1 (Addr.add a12 (Int.toNat n1*7))) (sG [.int .i64,.int .i64,.int .i64,.int .i64,.int .i64,.int .i64,.slc]) (u7 fun (n13 n14 n15 n16 n17 n18:Int) l19 =>
.call F.a111 [.agg #[.int .i64 n4,.int .i64 n5,.int .i64 n6,.int .i64 n7,.int .i64 n8,.int .i64 n9,l10.v],.agg #[.int .i64 n13,.int .i64 n14,.int .i64 n15,.int .i64 n16,.int .i64 n17,.int .i64 n18,l19.v]] sB (u1 fun b20 =>
.untick <|
.ite (not b20) (
.done 0 [.bool false]) (
.done 2 [.int .i64 (IntKind.wrap .i64 (n0+1))]))))))) (
.done 1 []))) (u0 <|
.done 0 [.bool true]))
theorem zf121_calls (a b:Sl) {w:World} {R:List Value→World→Prop} (h:(zf121 a b).wp P (fun _=>True) w fun e vs w'=>e=0∧R vs w'):Ret P F.a112 #[.slice a.a a.len a.cap,.slice b.a b.len b.cap] w R:=dS (n:=27) (rv:=[.tmp 4]) { cnd:=[],blk:=[(0,[])],reg:=[],lps:=[(0,[(13,.one (.int .i64))])] } [.val (.slice a.a a.len a.cap),.val (.slice b.a b.len b.cap)] Go.Proofs.Tryz.func23 (by kernel_rfl) (by kernel_rfl) (by kernel_rfl) (by kernel_rfl) h
def zf75 (d:Option Addr) (prefix_:ByteArray) (c_0:Int) (c_1:Int):Prog :=
.act (Instr.box T.a27 (.agg #[.int .i64 c_0,.int .i64 c_1])) sA (u1 fun a0 =>
.lt (.bool) (Option.isNone d) fun b1 =>
.ite (b1) (
.done 0 [.pointer none,.int .i64 1]) (
.bind 1 [.one .bool] (
.call F.a68 [.string prefix_] sB (u1 fun b2 =>
.read (not b2=false) (ld T.a27 a0) (sG [.int .i64,.int .i64]) (u2 fun (n3 n4:Int) =>
.ite (not b2) (
.done 1 [.bool true]) (
.call F.a72 [.agg #[.int .i64 n3,.int .i64 n4]] sB (u1 fun b5 =>
.lt (.bool) (not b5) fun b6 =>
.done 1 [.bool b6]))))) (u1 fun b7 =>
.ite (b7) (
.done 0 [.pointer none,.int .i64 2]) (
.call F.a6 [.pointer d] sB (u1 fun b8 =>
.lt (.bool) (b8) fun b9 =>
.ite (b9) (
.done 0 [.pointer none,.int .i64 9]) (
.read True (ld T.a27 a0) (sG [.int .i64,.int .i64]) (u2 fun (n10 n11:Int) =>
.act (Instr.box T.a28 (.agg #[.pointer d,.string prefix_,.int .i64 n10,.int .i64 n11,.slice none 0 0])) sA (u1 fun a12 =>
.call F.a58 [.pointer (some a12)] (.tup [.one .slc,.one (.int .i64)]) (u2 fun l13 (n14:Int) =>
.lt (.int .i64) (n14) fun (n15:Int) =>
.ite (n15 != 0) (
.lt (.int .i64) (n15) fun (n16:Int) =>
.done 0 [.pointer none,.int .i64 n16]) (
.bind 1 [.one (.int .i64)] (
.loop 2 [.one (.int .i64),.one (.int .i64)] (n15,(0,())) (u2 fun (n17 n18:Int) =>
.ite (decide (n18<((l13.len:Nat):Int))) (
.bind 3 [.one (.int .i64)] (
.ex [.adr] (c1 fun a19=>0≤n18∧n18<((l13.len:Nat):Int)∧l13.a=some a19) (u1 fun a20 =>
.read True (ld T.a11 (Addr.add a20 (Int.toNat n18*1))) (sI .i64) (u1 fun (n21:Int) =>
.lt (.int .i64) (n18) fun (n22:Int) =>
.lt (.int .i64) (n21) fun (n23:Int) =>
.call F.a50 [.pointer (some a12)] (sI .i64) (u1 fun (n24:Int) =>
.ite (decide (n23<n24)) (
.call F.a61 [.pointer (some a12),.int .i64 n23,.string (ByteArray.mk #[46,108,111,103])] sS (u1 fun s25 =>
.call F.a9 [.pointer d,.string s25] (sI .i64) (u1 fun (n26:Int) =>
.lt (.int .i64) (n26) fun (n27:Int) =>
.ite (n27 != 0) (
.done 1 [.int .i64 n27]) (
.done 3 [.int .i64 n27])))) (
.call F.a64 [.pointer (some a12),.int .i64 n23] (.tup [.one .bool,.one (.int .i64)]) (u2 fun b28 (n29:Int) =>
.lt (.bool) (b28) fun b30 =>
.lt (.int .i64) (n29) fun (n31:Int) =>
.ite (n31 == 0 && not b30) (
.must (0≤IntKind.wrap .i64 (n22+1)∧IntKind.wrap .i64 (n22+1)≤((l13.len:Nat):Int)) <|
.call F.a57 [.pointer (some a12),.slice (cutA l13.a 1 (Int.toNat (IntKind.wrap .i64 (n22+1))) l13.cap) (l13.len-Int.toNat (IntKind.wrap .i64 (n22+1))) (l13.cap-Int.toNat (IntKind.wrap .i64 (n22+1)))] (sI .i64) (u1 fun (n32:Int) =>
.lt (.int .i64) (n32) fun (n33:Int) =>
.done 1 [.int .i64 n33])) (
.ite (n31 != 0) (
.done 1 [.int .i64 n31]) (
.done 3 [.int .i64 n31])))))))) (u1 fun (n34:Int) =>
.done 2 [.int .i64 n34,.int .i64 (IntKind.wrap .i64 (n18+1))])) (
.done 1 [.int .i64 n17]))) (u1 fun (n35:Int) =>
.ite (n35 != 0) (
.lt (.int .i64) (n35) fun (n36:Int) =>
.done 0 [.pointer none,.int .i64 n36]) (
.done 0 [.pointer (some a12),.int .i64 0]))))))))))))
theorem zf75_calls (d:Option Addr) (prefix_:ByteArray) (c_0 c_1:Int) {w:World} {R:List Value→World→Prop} (h:(zf75 d prefix_ c_0 c_1).wp P (fun _=>True) w fun e vs w'=>e=0∧R vs w'):Ret P F.a67 #[.pointer d,.string prefix_,.agg #[.int .i64 c_0,.int .i64 c_1]] w R:=dS (n:=85) (rv:=[.tmp 6,.tmp 7]) { cnd:=[],blk:=[(1,[(10,.one (.int .i64))]),(2,[(10,.one (.int .i64))])],reg:=[(3,[(17,.one .bool)])],lps:=[(1,[(10,.one (.int .i64)),(44,.one (.int .i64))])] } [.val (.pointer d),.val (.string prefix_),.val (.agg #[.int .i64 c_0,.int .i64 c_1])] Go.Proofs.Tryz.func24 (by kernel_rfl) (by kernel_rfl) (by kernel_rfl) (by kernel_rfl) h
def zf56 (l:Option Addr) (bs:Sl):Prog :=
.ite (Option.isNone l) (
.done 0 [.int .i64 0,.int .i64 1]) (
.ite (((bs.len:Nat):Int) == 0) (
.done 0 [.int .i64 0,.int .i64 3]) (
.call F.a62 [.pointer l,bs.v] (.tup [.one .slc,.one .slc,.one (.int .i64)]) (u3 fun l0 l1 (n2:Int) =>
.lt (.int .i64) (n2) fun (n3:Int) =>
.ite (n3 != 0) (
.lt (.int .i64) (n3) fun (n4:Int) =>
.done 0 [.int .i64 0,.int .i64 n4]) (
.bind 1 [.one (.int .i64)] (
.loop 2 [.one (.int .i64),.one (.int .i64)] (0,(0,())) (u2 fun (n5 n6:Int) =>
.ite (decide (n6<((l1.len:Nat):Int))) (
.ex [.adr] (c1 fun a7=>0≤n6∧n6<((l1.len:Nat):Int)∧l1.a=some a7) (u1 fun a8 =>
.read True (ld T.a26 (Addr.add a8 (Int.toNat n6*1))) sL (u1 fun l9 =>
.lt (.int .i64) (IntKind.wrap .i64 (n5+((l9.len:Nat):Int))) fun (n10:Int) =>
.done 2 [.int .i64 n10,.int .i64 (IntKind.wrap .i64 (n6+1))]))) (
.done 1 [.int .i64 n5]))) (u1 fun (n11:Int) =>
.call F.a60 [.pointer l] sP (u1 fun p12 =>
.call F.a59 [.pointer l,.int .i64 n11] sB (u1 fun b13 =>
.bind 1 [.one .ptr] (
.ite (not b13) (
.call F.a55 [.pointer l] (sI .i64) (u1 fun (n14:Int) =>
.lt (.int .i64) (n14) fun (n15:Int) =>
.ite (n15 != 0) (
.lt (.int .i64) (n15) fun (n16:Int) =>
.done 0 [.int .i64 0,.int .i64 n16]) (
.call F.a50 [.pointer l] (sI .i64) (u1 fun (n17:Int) =>
.call F.a65 [.pointer l,.int .i64 n17,.int .i64 0] sP (u1 fun p18 =>
.bind 2 [.one (.int .i64)] (
.tick <|
.ex [.adr] (c1 fun a19=>l=some a19) (u1 fun a20 =>
.hold True (ld T.a13 (Addr.add a20 0)) sP (u1 fun p21 =>
.ex [.adr] (c1 fun a22=>p18=some a22) (u1 fun a23 =>
.read True (ld T.a11 (Addr.add a23 1)) (sI .i64) (u1 fun (n24:Int) =>
.ex [.adr] (c1 fun a25=>p18=some a25) (u1 fun a26 =>
.hold True (ld T.a11 (Addr.add a26 1)) (sI .i64) (u1 fun (n27:Int) =>
.call F.a61 [.pointer l,.int .i64 n24,.string (ByteArray.mk #[46,108,111,103])] sS (u1 fun s28 =>
.call F.a69 [.int .i64 n27,.int .i64 0] sL (u1 fun l29 =>
.act (Instr.buildSlice T.a23 1 #[(0,l29.v)]) sL (u1 fun l30 =>
.act (app T.a23 T.a23 T.a23 l30.v l1.v) sL (u1 fun l31 =>
.untick <|
.call F.a3 [.pointer p21,.string s28,l31.v] (sI .i64) (u1 fun (n32:Int) =>
.lt (.int .i64) (n32) fun (n33:Int) =>
.untick <|
.done 2 [.int .i64 n33])))))))))))) (u1 fun (n34:Int) =>
.ite (n34 != 0) (
.lt (.int .i64) (n34) fun (n35:Int) =>
.done 0 [.int .i64 0,.int .i64 n35]) (
.call F.a63 [.pointer l,.pointer p18] (.tup []) (u0 <|
.done 1 [.pointer p18])))))))) (
.bind 2 [.one (.int .i64)] (
.tick <|
.ex [.adr] (c1 fun a36=>l=some a36) (u1 fun a37 =>
.hold True (ld T.a13 (Addr.add a37 0)) sP (u1 fun p38 =>
.ex [.adr] (c1 fun a39=>p12=some a39) (u1 fun a40 =>
.read True (ld T.a11 (Addr.add a40 1)) (sI .i64) (u1 fun (n41:Int) =>
.call F.a61 [.pointer l,.int .i64 n41,.string (ByteArray.mk #[46,108,111,103])] sS (u1 fun s42 =>
.untick <|
.call F.a3 [.pointer p38,.string s42,l1.v] (sI .i64) (u1 fun (n43:Int) =>
.lt (.int .i64) (n43) fun (n44:Int) =>
.untick <|
.done 2 [.int .i64 n44]))))))) (u1 fun (n45:Int) =>
.ite (n45 != 0) (
.lt (.int .i64) (n45) fun (n46:Int) =>
.done 0 [.int .i64 0,.int .i64 n46]) (
.done 1 [.pointer p12])))) (u1 fun p47 =>
.bind 1 [] (
.loop 2 [.one (.int .i64)] (0,()) (u1 fun (n48:Int) =>
.ite (decide (n48<((l0.len:Nat):Int))) (
.ex [.adr] (c1 fun a49=>0≤n48∧n48<((l0.len:Nat):Int)∧l0.a=some a49) (u1 fun a50 =>
.read True (ld T.a1 (Addr.add a50 (Int.toNat n48*7))) (sG [.int .i64,.int .i64,.int .i64,.int .i64,.int .i64,.int .i64,.slc]) (u7 fun (n51 n52 n53 n54 n55 n56:Int) l57 =>
.act (new T.a1) sA (u1 fun a58 =>
.lt (.int .i64) (n48) fun (n59:Int) =>
.actU (st T.a1 a58 (.agg #[.int .i64 n51,.int .i64 n52,.int .i64 n53,.int .i64 n54,.int .i64 n55,.int .i64 n56,l57.v])) <|
.tick <|
.read True (ld T.a1 a58) (sG [.int .i64,.int .i64,.int .i64,.int .i64,.int .i64,.int .i64,.slc]) (u7 fun (n60 n61 n62 n63 n64 n65:Int) l66 =>
.ex [.adr] (c1 fun a67=>0≤n59∧n59<((l1.len:Nat):Int)∧l1.a=some a67) (u1 fun a68 =>
.read True (ld T.a26 (Addr.add a68 (Int.toNat n59*1))) sL (u1 fun l69 =>
.call F.a75 [.pointer p47,.agg #[.int .i64 n60,.int .i64 n61,.int .i64 n62,.int .i64 n63,.int .i64 n64,.int .i64 n65,l66.v],.int .i64 (((l69.len:Nat):Int))] (.tup []) (u0 <|
.untick <|
.done 2 [.int .i64 (IntKind.wrap .i64 (n48+1))])))))))) (
.done 1 []))) (u0 <|
.ex [.adr] (c1 fun a70=>(0:Int)≤0∧0<((l0.len:Nat):Int)∧l0.a=some a70) (u1 fun a71 =>
.read True (ld T.a11 (Addr.add (Addr.add a71 0) 0)) (sI .i64) (u1 fun (n72:Int) =>
.lt (.int .i64) (n72) fun (n73:Int) =>
.done 0 [.int .i64 n73,.int .i64 0])))))))))))
theorem zf56_calls (l:Option Addr) (bs:Sl) {w:World} {R:List Value→World→Prop} (h:(zf56 l bs).wp P (fun _=>True) w fun e vs w'=>e=0∧R vs w'):Ret P F.a48 #[.pointer l,.slice bs.a bs.len bs.cap] w R:=dS (n:=119) (rv:=[.tmp 4,.tmp 5]) { cnd:=[(2596148429267409202579229989077041,[(12,.one .ptr)])],blk:=[(0,[(9,.one (.int .i64))]),(2,[])],reg:=[(20,[(14,.one (.int .i64))]),(24,[(15,.one (.int .i64))])],lps:=[(0,[(9,.one (.int .i64)),(35,.one (.int .i64))]),(2,[(101,.one (.int .i64))])] } [.val (.pointer l),.val (.slice bs.a bs.len bs.cap)] Go.Proofs.Tryz.func25 (by kernel_rfl) (by kernel_rfl) (by kernel_rfl) (by kernel_rfl) h
def zf76 (s:ByteArray):Prog :=
.ite (decide (((ByteArray.size s:Nat):Int)<1) || decide (((ByteArray.size s:Nat):Int)>8)) (
.done 0 [.bool false]) (
.act (convert T.a31 T.a26 (.string s)) sL (u1 fun l0 =>
.bind 1 [] (
.loop 2 [.one (.int .i64)] (0,()) (u1 fun (n1:Int) =>
.ite (decide (n1<((l0.len:Nat):Int))) (
.ex [.adr] (c1 fun a2=>0≤n1∧n1<((l0.len:Nat):Int)∧l0.a=some a2) (u1 fun a3 =>
.read True (ld T.a34 (Addr.add a3 (Int.toNat n1*1))) (sI .u8) (u1 fun (n4:Int) =>
.lt (.int .u8) (n4) fun (n5:Int) =>
.ite (not (decide (n5≥97) && decide (n5≤122) || decide (n5≥48) && decide (n5≤57))) (
.done 0 [.bool false]) (
.done 2 [.int .i64 (IntKind.wrap .i64 (n1+1))])))) (
.done 1 []))) (u0 <|
.done 0 [.bool true])))
theorem zf76_calls (s:ByteArray) {w:World} {R:List Value→World→Prop} (h:(zf76 s).wp P (fun _=>True) w fun e vs w'=>e=0∧R vs w'):Ret P F.a68 #[.string s] w R:=dS (n:=36) (rv:=[.tmp 2]) { cnd:=[],blk:=[(0,[])],reg:=[],lps:=[(0,[(16,.one (.int .i64))])] } [.val (.string s)] Go.Proofs.Tryz.func44 (by kernel_rfl) (by kernel_rfl) (by kernel_rfl) (by kernel_rfl) h
def zf63 (l:Option Addr):Prog :=
.ite (Option.isNone l) (
.done 0 [.int .i64 1]) (
.call F.a60 [.pointer l] sP (u1 fun p0 =>
.ite (not (Option.isNone p0)) (
.bind 1 [.one (.int .i64)] (
.tick <|
.ex [.adr] (c1 fun a1=>l=some a1) (u1 fun a2 =>
.hold True (ld T.a13 (Addr.add a2 0)) sP (u1 fun p3 =>
.ex [.adr] (c1 fun a4=>p0=some a4) (u1 fun a5 =>
.read True (ld T.a11 (Addr.add a5 1)) (sI .i64) (u1 fun (n6:Int) =>
.call F.a61 [.pointer l,.int .i64 n6,.string (ByteArray.mk #[46,108,111,103])] sS (u1 fun s7 =>
.act (Instr.buildSlice T.a24 1 #[(0,.string s7)]) sL (u1 fun l8 =>
.untick <|
.call F.a10 [.pointer p3,l8.v] (sI .i64) (u1 fun (n9:Int) =>
.lt (.int .i64) (n9) fun (n10:Int) =>
.untick <|
.done 1 [.int .i64 n10])))))))) (u1 fun (n11:Int) =>
.done 0 [.int .i64 n11])) (
.done 0 [.int .i64 0])))
theorem zf63_calls (l:Option Addr) {w:World} {R:List Value→World→Prop} (h:(zf63 l).wp P (fun _=>True) w fun e vs w'=>e=0∧R vs w'):Ret P F.a55 #[.pointer l] w R:=dS (n:=22) (rv:=[.tmp 2]) { cnd:=[],blk:=[],reg:=[(5,[(2,.one (.int .i64))])],lps:=[] } [.val (.pointer l)] Go.Proofs.Tryz.func45 (by kernel_rfl) (by kernel_rfl) (by kernel_rfl) (by kernel_rfl) h
def zf57 (l:Option Addr):Prog :=
.ex [.adr] (c1 fun a0=>Option.isNone l=false→l=some a0) (u1 fun a1 =>
.read (Option.isNone l=false) (ld T.a22 (Addr.add a1 4)) sL (u1 fun l2 =>
.ite (Option.isNone l || ((l2.len:Nat):Int) == 0) (
.done 0 [.int .i64 0]) (
.ex [.adr] (c1 fun a3=>l=some a3) (u1 fun a4 =>
.read True (ld T.a22 (Addr.add a4 4)) sL (u1 fun l5 =>
.ex [.adr] (c1 fun a6=>(0:Int)≤0∧0<((l5.len:Nat):Int)∧l5.a=some a6) (u1 fun a7 =>
.read True (ld T.a17 (Addr.add a7 0)) sP (u1 fun p8 =>
.ex [.adr] (c1 fun a9=>p8=some a9) (u1 fun a10 =>
.read True (ld T.a11 (Addr.add a10 1)) (sI .i64) (u1 fun (n11:Int) =>
.lt (.int .i64) (n11) fun (n12:Int) =>
.done 0 [.int .i64 n12])))))))))
theorem zf57_calls (l:Option Addr) {w:World} {R:List Value→World→Prop} (h:(zf57 l).wp P (fun _=>True) w fun e vs w'=>e=0∧R vs w'):Ret P F.a49 #[.pointer l] w R:=dS (n:=22) (rv:=[.tmp 2]) { cnd:=[],blk:=[],reg:=[],lps:=[] } [.val (.pointer l)] Go.Proofs.Tryz.func56 (by kernel_rfl) (by kernel_rfl) (by kernel_rfl) (by kernel_rfl) h
def zf62 (l:Option Addr):Prog :=
.ite (Option.isNone l) (
.done 0 [.slice none 0 0]) (
.ex [.adr] (c1 fun a0=>l=some a0) (u1 fun a1 =>
.read True (ld T.a22 (Addr.add a1 4)) sL (u1 fun l2 =>
.bind 1 [.one .slc] (
.loop 2 [.one .slc,.one (.int .i64)] (⟨none,0,0⟩,(0,())) (u2 fun l3 (n4:Int) =>
.ite (decide (n4<((l2.len:Nat):Int))) (
.ex [.adr] (c1 fun a5=>0≤n4∧n4<((l2.len:Nat):Int)∧l2.a=some a5) (u1 fun a6 =>
.read True (ld T.a17 (Addr.add a6 (Int.toNat n4*1))) sP (u1 fun p7 =>
.ex [.adr] (c1 fun a8=>p7=some a8) (u1 fun a9 =>
.read True (ld T.a11 (Addr.add a9 1)) (sI .i64) (u1 fun (n10:Int) =>
.act (Instr.buildSlice T.a21 1 #[(0,.int .i64 n10)]) sL (u1 fun l11 =>
.act (app T.a21 T.a21 T.a21 l3.v l11.v) sL (u1 fun l12 =>
.done 2 [l12.v,.int .i64 (IntKind.wrap .i64 (n4+1))]))))))) (
.done 1 [l3.v]))) (u1 fun l13 =>
.done 0 [l13.v]))))
theorem zf62_calls (l:Option Addr) {w:World} {R:List Value→World→Prop} (h:(zf62 l).wp P (fun _=>True) w fun e vs w'=>e=0∧R vs w'):Ret P F.a54 #[.pointer l] w R:=dS (n:=26) (rv:=[.tmp 2]) { cnd:=[],blk:=[(0,[(3,.one .slc)])],reg:=[],lps:=[(0,[(3,.one .slc),(13,.one (.int .i64))])] } [.val (.pointer l)] Go.Proofs.Tryz.func57 (by kernel_rfl) (by kernel_rfl) (by kernel_rfl) (by kernel_rfl) h
def zf68 (l:Option Addr):Prog :=
.ex [.adr] (c1 fun a0=>l=some a0) (u1 fun a1 =>
.read True (ld T.a22 (Addr.add a1 4)) sL (u1 fun l2 =>
.ite (((l2.len:Nat):Int) == 0) (
.done 0 [.pointer none]) (
.tick <|
.ex [.adr] (c1 fun a3=>l=some a3) (u1 fun a4 =>
.read True (ld T.a22 (Addr.add a4 4)) sL (u1 fun l5 =>
.ex [.adr] (c1 fun a6=>l=some a6) (u1 fun a7 =>
.read True (ld T.a22 (Addr.add a7 4)) sL (u1 fun l8 =>
.ex [.adr] (c1 fun a9=>0≤IntKind.wrap .i64 (((l8.len:Nat):Int)-1)∧IntKind.wrap .i64 (((l8.len:Nat):Int)-1)<((l5.len:Nat):Int)∧l5.a=some a9) (u1 fun a10 =>
.read True (ld T.a17 (Addr.add a10 (Int.toNat (IntKind.wrap .i64 (((l8.len:Nat):Int)-1))*1))) sP (u1 fun p11 =>
.untick <|
.done 0 [.pointer p11])))))))))
theorem zf68_calls (l:Option Addr) {w:World} {R:List Value→World→Prop} (h:(zf68 l).wp P (fun _=>True) w fun e vs w'=>e=0∧R vs w'):Ret P F.a60 #[.pointer l] w R:=dS (n:=21) (rv:=[.tmp 2]) { cnd:=[],blk:=[],reg:=[],lps:=[] } [.val (.pointer l)] Go.Proofs.Tryz.func60 (by kernel_rfl) (by kernel_rfl) (by kernel_rfl) (by kernel_rfl) h
def zf82 (s:Option Addr):Prog :=
.tick <|
.ex [.adr] (c1 fun a0=>s=some a0) (u1 fun a1 =>
.read True (ld T.a11 (Addr.add a1 1)) (sI .i64) (u1 fun (n2:Int) =>
.ex [.adr] (c1 fun a3=>s=some a3) (u1 fun a4 =>
.read True (ld T.a11 (Addr.add a4 2)) (sI .i64) (u1 fun (n5:Int) =>
.ex [.adr] (c1 fun a6=>s=some a6) (u1 fun a7 =>
.read True (ld T.a11 (Addr.add a7 3)) (sI .i64) (u1 fun (n8:Int) =>
.lt (.int .i64) (if n8>if n5>n2 then n5 else n2 then n8 else if n5>n2 then n5 else n2) fun (n9:Int) =>
.untick <|
.done 0 [.int .i64 n9]))))))
theorem zf82_calls (s:Option Addr) {w:World} {R:List Value→World→Prop} (h:(zf82 s).wp P (fun _=>True) w fun e vs w'=>e=0∧R vs w'):Ret P F.a74 #[.pointer s] w R:=dS (n:=16) (rv:=[.tmp 2]) { cnd:=[],blk:=[],reg:=[],lps:=[] } [.val (.pointer s)] Go.Proofs.Tryz.func61 (by kernel_rfl) (by kernel_rfl) (by kernel_rfl) (by kernel_rfl) h
def zf123 (b_0 b_1 b_2 b_3 b_4 b_5:Int) (b_6:Sl):Prog :=
.act (Instr.box T.a1 (.agg #[.int .i64 b_0,.int .i64 b_1,.int .i64 b_2,.int .i64 b_3,.int .i64 b_4,.int .i64 b_5,b_6.v])) sA (u1 fun a0 =>
.bind 1 [.one .bool] (
.read True (ld T.a10 (Addr.add a0 4)) (sI .i64) (u1 fun (n1:Int) =>
.call F.a115 [.int .i64 n1,.int .i64 0,.int .i64 3] sB (u1 fun b2 =>
.read (b2=false) (ld T.a11 (Addr.add a0 0)) (sI .i64) (u1 fun (n3:Int) =>
.ite (b2) (
.done 1 [.bool true]) (
.call F.a115 [.int .i64 n3,.int .i64 0,.int .i64 1099511627776] sB (u1 fun b4 =>
.read (b4=false) (ld T.a11 (Addr.add a0 1)) (sI .i64) (u1 fun (n5:Int) =>
.ite (b4) (
.done 1 [.bool true]) (
.call F.a115 [.int .i64 n5,.int .i64 0,.int .i64 1048576] sB (u1 fun b6 =>
.read (b6=false) (ld T.a10 (Addr.add a0 2)) (sI .i64) (u1 fun (n7:Int) =>
.ite (b6) (
.done 1 [.bool true]) (
.call F.a115 [.int .i64 n7,.int .i64 0,.int .i64 32767] sB (u1 fun b8 =>
.read (b8=false) (ld T.a10 (Addr.add a0 3)) (sI .i64) (u1 fun (n9:Int) =>
.ite (b8) (
.done 1 [.bool true]) (
.call F.a115 [.int .i64 n9,.int .i64 0,.int .i64 2147483647] sB (u1 fun b10 =>
.read (b10=false) (ld T.a11 (Addr.add a0 5)) (sI .i64) (u1 fun (n11:Int) =>
.ite (b10) (
.done 1 [.bool true]) (
.call F.a115 [.int .i64 n11,.int .i64 0,.int .i64 1099511627776] sB (u1 fun b12 =>
.done 1 [.bool b12])))))))))))))))))) (u1 fun b13 =>
.ite (b13) (
.done 0 [.int .i64 2]) (
.read True (ld T.a11 (Addr.add a0 1)) (sI .i64) (u1 fun (n14:Int) =>
.read ((n14 == 0)=true) (ld T.a10 (Addr.add a0 4)) (sI .i64) (u1 fun (n15:Int) =>
.read ((n14 == 0)=true∧(n15 != 0)=false) (ld T.a10 (Addr.add a0 2)) (sI .i64) (u1 fun (n16:Int) =>
.read ((n14 == 0)=true∧(n15 != 0 || n16 != 0)=false) (ld T.a10 (Addr.add a0 3)) (sI .i64) (u1 fun (n17:Int) =>
.ite (n14 == 0 && (n15 != 0 || n16 != 0 || n17 != 0)) (
.done 0 [.int .i64 2]) (
.bind 1 [.one .bool] (
.tick <|
.read True (ld T.a1 a0) (sG [.int .i64,.int .i64,.int .i64,.int .i64,.int .i64,.int .i64,.slc]) (u7 fun (n18 n19 n20 n21 n22 n23:Int) l24 =>
.hold True (ld T.a19 (Addr.add a0 6)) sL (u1 fun l25 =>
.call F.a109 [.agg #[.int .i64 n18,.int .i64 n19,.int .i64 n20,.int .i64 n21,.int .i64 n22,.int .i64 n23,l24.v]] sB (u1 fun b26 =>
.read (not (b26 == (((l25.len:Nat):Int) == 0))=false) (ld T.a1 a0) (sG [.int .i64,.int .i64,.int .i64,.int .i64,.int .i64,.int .i64,.slc]) (u7 fun (n27 n28 n29 n30 n31 n32:Int) l33 =>
.untick <|
.ite (not (b26 == (((l25.len:Nat):Int) == 0))) (
.untick <|
.done 1 [.bool true]) (
.call F.a109 [.agg #[.int .i64 n27,.int .i64 n28,.int .i64 n29,.int .i64 n30,.int .i64 n31,.int .i64 n32,l33.v]] sB (u1 fun b34 =>
.read (b34=true) (ld T.a10 (Addr.add a0 3)) (sI .i64) (u1 fun (n35:Int) =>
.untick <|
.done 1 [.bool (b34 && n35 != 0)])))))))) (u1 fun b36 =>
.ite (b36) (
.done 0 [.int .i64 2]) (
.read True (ld T.a19 (Addr.add a0 6)) sL (u1 fun l37 =>
.ite (decide (((l37.len:Nat):Int)>64)) (
.done 0 [.int .i64 7]) (
.read True (ld T.a19 (Addr.add a0 6)) sL (u1 fun l38 =>
.bind 1 [] (
.loop 2 [.one (.int .i64)] (0,()) (u1 fun (n39:Int) =>
.ite (decide (n39<((l38.len:Nat):Int))) (
.ex [.adr] (c1 fun a40=>0≤n39∧n39<((l38.len:Nat):Int)∧l38.a=some a40) (u1 fun a41 =>
.read True (ld T.a3 (Addr.add a41 (Int.toNat n39*4))) (sG [.str,.str,.bool,.int .i64]) (u4 fun s42 s43 b44 (n45:Int) =>
.act (new T.a3) sA (u1 fun a46 =>
.actU (st T.a3 a46 (.agg #[.string s42,.string s43,.bool b44,.int .i64 n45])) <|
.read True (ld T.a31 (Addr.add a46 0)) sS (u1 fun s47 =>
.read (decide (((ByteArray.size s47:Nat):Int)>1024)=false) (ld T.a31 (Addr.add a46 1)) sS (u1 fun s48 =>
.ite (decide (((ByteArray.size s47:Nat):Int)>1024) || decide (((ByteArray.size s48:Nat):Int)>1024)) (
.done 0 [.int .i64 7]) (
.read True (ld T.a11 (Addr.add a46 3)) (sI .i64) (u1 fun (n49:Int) =>
.call F.a115 [.int .i64 n49,.int .i64 0,.int .i64 1099511627776] sB (u1 fun b50 =>
.read (b50=false) (ld T.a4 (Addr.add a46 2)) sB (u1 fun b51 =>
.read (b50=false∧b51=true) (ld T.a31 (Addr.add a46 1)) sS (u1 fun s52 =>
.ite (b50 || b51 && decide (((ByteArray.size s52:Nat):Int)>0)) (
.done 0 [.int .i64 2]) (
.done 2 [.int .i64 (IntKind.wrap .i64 (n39+1))])))))))))))) (
.done 1 []))) (u0 <|
.tick <|
.hold True (ld T.a11 (Addr.add a0 0)) (sI .i64) (u1 fun (n53:Int) =>
.read True (ld T.a1 a0) (sG [.int .i64,.int .i64,.int .i64,.int .i64,.int .i64,.int .i64,.slc]) (u7 fun (n54 n55 n56 n57 n58 n59:Int) l60 =>
.call F.a113 [.agg #[.int .i64 n54,.int .i64 n55,.int .i64 n56,.int .i64 n57,.int .i64 n58,.int .i64 n59,l60.v]] (sI .i64) (u1 fun (n61:Int) =>
.untick <|
.ite (decide (IntKind.wrap .i64 (IntKind.wrap .i64 (n53+n61)-1)>1099511627776)) (
.done 0 [.int .i64 24]) (
.bind 1 [.one .bool] (
.read True (ld T.a11 (Addr.add a0 1)) (sI .i64) (u1 fun (n62:Int) =>
.read (decide (n62>0)=true) (ld T.a1 a0) (sG [.int .i64,.int .i64,.int .i64,.int .i64,.int .i64,.int .i64,.slc]) (u7 fun (n63 n64 n65 n66 n67 n68:Int) l69 =>
.ite (decide (n62>0)) (
.call F.a109 [.agg #[.int .i64 n63,.int .i64 n64,.int .i64 n65,.int .i64 n66,.int .i64 n67,.int .i64 n68,l69.v]] sB (u1 fun b70 =>
.read (not b70=true) (ld T.a10 (Addr.add a0 3)) (sI .i64) (u1 fun (n71:Int) =>
.read (not b70=true) (ld T.a19 (Addr.add a0 6)) sL (u1 fun l72 =>
.done 1 [.bool (not b70 && decide (IntKind.wrap .i64 (IntKind.wrap .i64 (n71+((l72.len:Nat):Int))-1)>2147483647))])))) (
.done 1 [.bool false])))) (u1 fun b73 =>
.ite (b73) (
.done 0 [.int .i64 24]) (
.done 0 [.int .i64 0]))))))))))))))))))))
theorem zf123_calls (b_0 b_1 b_2 b_3 b_4 b_5:Int) (b_6:Sl) {w:World} {R:List Value→World→Prop} (h:(zf123 b_0 b_1 b_2 b_3 b_4 b_5 b_6).wp P (fun _=>True) w fun e vs w'=>e=0∧R vs w'):Ret P F.a114 #[.agg #[.int .i64 b_0,.int .i64 b_1,.int .i64 b_2,.int .i64 b_3,.int .i64 b_4,.int .i64 b_5,.slice b_6.a b_6.len b_6.cap]] w R:=dS (n:=127) (rv:=[.tmp 2]) { cnd:=[],blk:=[(0,[])],reg:=[(1,[(32,.one .bool)]),(5,[(66,.one .bool)]),(19,[(126,.one .bool)])],lps:=[(0,[(74,.one (.int .i64))])] } [.val (.agg #[.int .i64 b_0,.int .i64 b_1,.int .i64 b_2,.int .i64 b_3,.int .i64 b_4,.int .i64 b_5,.slice b_6.a b_6.len b_6.cap])] Go.Proofs.Tryz.func62 (by kernel_rfl) (by kernel_rfl) (by kernel_rfl) (by kernel_rfl) h
def zf118 (b_0 b_1 b_2 b_3 b_4 b_5:Int) (b_6:Sl):Prog :=
.act (Instr.box T.a1 (.agg #[.int .i64 b_0,.int .i64 b_1,.int .i64 b_2,.int .i64 b_3,.int .i64 b_4,.int .i64 b_5,b_6.v])) sA (u1 fun a0 =>
.read True (ld T.a10 (Addr.add a0 4)) (sI .i64) (u1 fun (n1:Int) =>
.read ((n1 == 2)=false) (ld T.a10 (Addr.add a0 4)) (sI .i64) (u1 fun (n2:Int) =>
.lt (.bool) (n1 == 2 || n2 == 3) fun b3 =>
.done 0 [.bool b3])))
theorem zf118_calls (b_0 b_1 b_2 b_3 b_4 b_5:Int) (b_6:Sl) {w:World} {R:List Value→World→Prop} (h:(zf118 b_0 b_1 b_2 b_3 b_4 b_5 b_6).wp P (fun _=>True) w fun e vs w'=>e=0∧R vs w'):Ret P F.a109 #[.agg #[.int .i64 b_0,.int .i64 b_1,.int .i64 b_2,.int .i64 b_3,.int .i64 b_4,.int .i64 b_5,.slice b_6.a b_6.len b_6.cap]] w R:=dS (n:=11) (rv:=[.tmp 2]) { cnd:=[],blk:=[],reg:=[],lps:=[] } [.val (.agg #[.int .i64 b_0,.int .i64 b_1,.int .i64 b_2,.int .i64 b_3,.int .i64 b_4,.int .i64 b_5,.slice b_6.a b_6.len b_6.cap])] Go.Proofs.Tryz.func63 (by kernel_rfl) (by kernel_rfl) (by kernel_rfl) (by kernel_rfl) h
def zf119 (b_0 b_1 b_2 b_3 b_4 b_5:Int) (b_6:Sl) (from_:Int) (to_:Int):Prog :=
.act (Instr.box T.a1 (.agg #[.int .i64 b_0,.int .i64 b_1,.int .i64 b_2,.int .i64 b_3,.int .i64 b_4,.int .i64 b_5,b_6.v])) sA (u1 fun a0 =>
.act (new T.a1) sA (u1 fun a1 =>
.read True (ld T.a11 (Addr.add a0 0)) (sI .i64) (u1 fun (n2:Int) =>
.read True (ld T.a11 (Addr.add a0 1)) (sI .i64) (u1 fun (n3:Int) =>
.read True (ld T.a10 (Addr.add a0 2)) (sI .i64) (u1 fun (n4:Int) =>
.read True (ld T.a10 (Addr.add a0 4)) (sI .i64) (u1 fun (n5:Int) =>
.read True (ld T.a11 (Addr.add a0 5)) (sI .i64) (u1 fun (n6:Int) =>
.act (new T.a1) sA (u1 fun a7 =>
.actU (st T.a1 a7 (.agg #[.int .i64 (IntKind.wrap .i64 (n2+from_)),.int .i64 n3,.int .i64 n4,.int .i64 0,.int .i64 n5,.int .i64 n6,.slice none 0 0])) <|
.read True (ld T.a11 (Addr.add a0 1)) (sI .i64) (u1 fun (n8:Int) =>
.bind 1 [] (
.ite (decide (n8>0)) (
.read True (ld T.a10 (Addr.add a0 3)) (sI .i64) (u1 fun (n9:Int) =>
.actU (st T.a10 (Addr.add a7 3) (.int .i64 (IntKind.wrap .i64 (n9+from_)))) <|
.done 1 [])) (
.done 1 [])) (u0 <|
.lt (.int .i64) (from_) fun (n10:Int) =>
.bind 1 [] (
.loop 2 [.one (.int .i64)] (n10,()) (u1 fun (n11:Int) =>
.ite (decide (n11<to_)) (
.bind 3 [] (
.tick <|
.hold True (ld T.a19 (Addr.add a7 6)) sL (u1 fun l12 =>
.read True (ld T.a19 (Addr.add a0 6)) sL (u1 fun l13 =>
.ex [.adr] (c1 fun a14=>0≤n11∧n11<((l13.len:Nat):Int)∧l13.a=some a14) (u1 fun a15 =>
.read True (ld T.a3 (Addr.add a15 (Int.toNat n11*4))) (sG [.str,.str,.bool,.int .i64]) (u4 fun s16 s17 b18 (n19:Int) =>
.act (Instr.buildSlice T.a19 1 #[(0,.agg #[.string s16,.string s17,.bool b18,.int .i64 n19])]) sL (u1 fun l20 =>
.untick <|
.act (app T.a19 T.a19 T.a19 l12.v l20.v) sL (u1 fun l21 =>
.actU (st T.a19 (Addr.add a7 6) l21.v) <|
.untick <|
.done 3 []))))))) (u0 <|
.lt (.int .i64) (IntKind.wrap .i64 (n11+1)) fun (n22:Int) =>
.done 2 [.int .i64 n22])) (
.done 1 []))) (u0 <|
.read True (ld T.a1 a7) (sG [.int .i64,.int .i64,.int .i64,.int .i64,.int .i64,.int .i64,.slc]) (u7 fun (n23 n24 n25 n26 n27 n28:Int) l29 =>
.actU (st T.a1 a1 (.agg #[.int .i64 n23,.int .i64 n24,.int .i64 n25,.int .i64 n26,.int .i64 n27,.int .i64 n28,l29.v])) <|
.read True (ld T.a1 a1) (sG [.int .i64,.int .i64,.int .i64,.int .i64,.int .i64,.int .i64,.slc]) (u7 fun (n30 n31 n32 n33 n34 n35:Int) l36 =>
.done 0 [.agg #[.int .i64 n30,.int .i64 n31,.int .i64 n32,.int .i64 n33,.int .i64 n34,.int .i64 n35,l36.v]])))))))))))))
theorem zf119_calls (b_0 b_1 b_2 b_3 b_4 b_5:Int) (b_6:Sl) (from_ to_:Int) {w:World} {R:List Value→World→Prop} (h:(zf119 b_0 b_1 b_2 b_3 b_4 b_5 b_6 from_ to_).wp P (fun _=>True) w fun e vs w'=>e=0∧R vs w'):Ret P F.a110 #[.agg #[.int .i64 b_0,.int .i64 b_1,.int .i64 b_2,.int .i64 b_3,.int .i64 b_4,.int .i64 b_5,.slice b_6.a b_6.len b_6.cap],.int .i64 from_,.int .i64 to_] w R:=dS (n:=47) (rv:=[.cell 6 38]) { cnd:=[(4260607557656,[])],blk:=[(0,[])],reg:=[(7,[])],lps:=[(0,[(8,.one (.int .i64))])] } [.val (.agg #[.int .i64 b_0,.int .i64 b_1,.int .i64 b_2,.int .i64 b_3,.int .i64 b_4,.int .i64 b_5,.slice b_6.a b_6.len b_6.cap]),.val (.int .i64 from_),.val (.int .i64 to_)] Go.Proofs.Tryz.func64 (by kernel_rfl) (by kernel_rfl) (by kernel_rfl) (by kernel_rfl) h
def zf60 (i:Int) (fv0:Option Addr) (fv1:Option Addr):Prog :=
.tick <|
.read True (Instr.loadAt T.a16 (.pointer fv0)) sP (u1 fun p0 =>
.ex [.adr] (c1 fun a1=>p0=some a1) (u1 fun a2 =>
.read True (ld T.a22 (Addr.add a2 4)) sL (u1 fun l3 =>
.ex [.adr] (c1 fun a4=>0≤i∧i<((l3.len:Nat):Int)∧l3.a=some a4) (u1 fun a5 =>
.read True (ld T.a17 (Addr.add a5 (Int.toNat i*1))) sP (u1 fun p6 =>
.ex [.adr] (c1 fun a7=>p6=some a7) (u1 fun a8 =>
.read True (ld T.a11 (Addr.add a8 1)) (sI .i64) (u1 fun (n9:Int) =>
.read True (Instr.loadAt T.a11 (.pointer fv1)) (sI .i64) (u1 fun (n10:Int) =>
.lt (.bool) (decide (n9>n10)) fun b11 =>
.untick <|
.done 0 [.bool b11]))))))))
theorem zf60_calls (i:Int) (fv0 fv1:Option Addr) {w:World} {R:List Value→World→Prop} (h:(zf60 i fv0 fv1).wp P (fun _=>True) w fun e vs w'=>e=0∧R vs w'):Ret P F.a52 #[.int .i64 i,.pointer fv0,.pointer fv1] w R:=dS (n:=17) (rv:=[.tmp 4]) { cnd:=[],blk:=[],reg:=[],lps:=[] } [.val (.int .i64 i),.val (.pointer fv0),.val (.pointer fv1)] Go.Proofs.Tryz.func66 (by kernel_rfl) (by kernel_rfl) (by kernel_rfl) (by kernel_rfl) h
def zf74 (l s:Option Addr) (place:Int) (told:Value):Prog :=
.bind 1 [.one .slc] (
.tick <|
.ex [.adr] (c1 fun a0=>l=some a0) (u1 fun a1 =>
.hold True (ld T.a13 (Addr.add a1 0)) sP (u1 fun p2 =>
.ex [.adr] (c1 fun a3=>s=some a3) (u1 fun a4 =>
.read True (ld T.a11 (Addr.add a4 1)) (sI .i64) (u1 fun (n5:Int) =>
.call F.a61 [.pointer l,.int .i64 n5,.string (ByteArray.mk #[46,108,111,103])] sS (u1 fun s6 =>
.untick <|
.call F.a8 [.pointer p2,.string s6] (.tup [.one .slc,.one (.int .i64)]) (u2 fun l7 (n8:Int) =>
.lt (.int .i64) (n8) fun (n9:Int) =>
.untick <|
.done 1 [l7.v]))))))) (u1 fun l10 =>
.lt (.int .i64) (place) fun (n11:Int) =>
.bind 1 [] (
.loop 2 [.one (.int .i64)] (n11,()) (u1 fun (n12:Int) =>
.ex [.adr] (c1 fun a13=>decide (n12<((l10.len:Nat):Int))=true→s=some a13) (u1 fun a14 =>
.read (decide (n12<((l10.len:Nat):Int))=true) (ld T.a10 (Addr.add a14 5)) (sI .i64) (u1 fun (n15:Int) =>
.ite (decide (n12<((l10.len:Nat):Int)) && decide (n12<n15)) (
.must (0≤n12∧n12≤((l10.len:Nat):Int)) <|
.call F.a16 [.slice (cutA l10.a 1 (Int.toNat n12) l10.cap) (l10.len-Int.toNat n12) (l10.cap-Int.toNat n12)] (.tup [.one .slc,.one (.int .i64),.one .bool]) (u3 fun l16 (n17:Int) b18 =>
.lt (.int .i64) (n17) fun (n19:Int) =>
.lt (.bool) (b18) fun b20 =>
.ite (not b20) (
.done 0 [.bool true]) (
.call F.a33 [l16.v] (.tup [.agg [.int .i64,.int .i64,.int .i64,.int .i64,.int .i64,.int .i64,.slc],.one (.int .i64)]) (u8 fun (n21 n22 n23 n24 n25 n26:Int) l27 (n28:Int) =>
.act (new T.a1) sA (u1 fun a29 =>
.actU (st T.a1 a29 (.agg #[.int .i64 n21,.int .i64 n22,.int .i64 n23,.int .i64 n24,.int .i64 n25,.int .i64 n26,l27.v])) <|
.lt (.int .i64) (n28) fun (n30:Int) =>
.bind 3 [.one .bool] (
.read ((n30 != 0)=false) (ld T.a1 a29) (sG [.int .i64,.int .i64,.int .i64,.int .i64,.int .i64,.int .i64,.slc]) (u7 fun (n31 n32 n33 n34 n35 n36:Int) l37 =>
.ite (n30 != 0) (
.done 3 [.bool true]) (
.callv (told) [.agg #[.int .i64 n31,.int .i64 n32,.int .i64 n33,.int .i64 n34,.int .i64 n35,.int .i64 n36,l37.v]] sB (u1 fun b38 =>
.done 3 [.bool (not b38)])))) (u1 fun b39 =>
.ite (b39) (
.done 0 [.bool false]) (
.lt (.int .i64) (IntKind.wrap .i64 (n12+n19)) fun (n40:Int) =>
.done 2 [.int .i64 n40]))))))) (
.done 1 []))))) (u0 <|
.done 0 [.bool true]))
theorem zf74_calls (l s:Option Addr) (place:Int) (told:Value) {w:World} {R:List Value→World→Prop} (h:(zf74 l s place told).wp P (fun _=>True) w fun e vs w'=>e=0∧R vs w'):Ret P F.a66 #[.pointer l,.pointer s,.int .i64 place,told] w R:=dS (n:=70) (rv:=[.tmp 8]) { cnd:=[],blk:=[(0,[])],reg:=[(1,[(9,.one .slc)]),(8,[(66,.one .bool)])],lps:=[(0,[(11,.one (.int .i64))])] } [.val (.pointer l),.val (.pointer s),.val (.int .i64 place),.any told] Go.Proofs.Tryz.func67 (by kernel_rfl) (by kernel_rfl) (by kernel_rfl) (by kernel_rfl) h
def zf81 (s:Option Addr) (offset:Int):Prog :=
.ex [.adr] (c1 fun a0=>s=some a0) (u1 fun a1 =>
.read True (ld T.a15 (Addr.add a1 0)) sP (u1 fun p2 =>
.call F.a22 [.pointer p2,.int .i64 offset] (.tup [.agg [.int .i64,.int .i64,.int .i64],.one .bool]) (u4 fun (n3 n4 n5:Int) b6 =>
.act (new T.a7) sA (u1 fun a7 =>
.actU (st T.a7 a7 (.agg #[.int .i64 n3,.int .i64 n4,.int .i64 n5])) <|
.lt (.bool) (b6) fun b8 =>
.ite (b8) (
.read True (ld T.a10 (Addr.add a7 1)) (sI .i64) (u1 fun (n9:Int) =>
.lt (.int .i64) (n9) fun (n10:Int) =>
.done 0 [.int .i64 n10])) (
.tick <|
.ex [.adr] (c1 fun a11=>s=some a11) (u1 fun a12 =>
.read True (ld T.a11 (Addr.add a12 1)) (sI .i64) (u1 fun (n13:Int) =>
.ex [.adr] (c1 fun a14=>s=some a14) (u1 fun a15 =>
.read True (ld T.a11 (Addr.add a15 2)) (sI .i64) (u1 fun (n16:Int) =>
.call F.a69 [.int .i64 n13,.int .i64 n16] sL (u1 fun l17 =>
.lt (.int .i64) (((l17.len:Nat):Int)) fun (n18:Int) =>
.untick <|
.done 0 [.int .i64 n18]))))))))))
theorem zf81_calls (s:Option Addr) (offset:Int) {w:World} {R:List Value→World→Prop} (h:(zf81 s offset).wp P (fun _=>True) w fun e vs w'=>e=0∧R vs w'):Ret P F.a73 #[.pointer s,.int .i64 offset] w R:=dS (n:=29) (rv:=[.tmp 4]) { cnd:=[],blk:=[],reg:=[],lps:=[] } [.val (.pointer s),.val (.int .i64 offset)] Go.Proofs.Tryz.func68 (by kernel_rfl) (by kernel_rfl) (by kernel_rfl) (by kernel_rfl) h
def zf61 (b_0 b_1 b_2 b_3 b_4 b_5:Int) (b_6:Sl) (fv0 fv1:Option Addr) (fv2:Option Addr):Prog :=
.act (Instr.box T.a1 (.agg #[.int .i64 b_0,.int .i64 b_1,.int .i64 b_2,.int .i64 b_3,.int .i64 b_4,.int .i64 b_5,b_6.v])) sA (u1 fun a0 =>
.read True (ld T.a1 a0) (sG [.int .i64,.int .i64,.int .i64,.int .i64,.int .i64,.int .i64,.slc]) (u7 fun (n1 n2 n3 n4 n5 n6:Int) l7 =>
.read True (Instr.loadAt T.a11 (.pointer fv0)) (sI .i64) (u1 fun (n8:Int) =>
.call F.a35 [.agg #[.int .i64 n1,.int .i64 n2,.int .i64 n3,.int .i64 n4,.int .i64 n5,.int .i64 n6,l7.v],.int .i64 n8] (.tup [.agg [.int .i64,.int .i64,.int .i64,.int .i64,.int .i64,.int .i64,.slc],.one .bool]) (u8 fun (n9 n10 n11 n12 n13 n14:Int) l15 b16 =>
.act (new T.a1) sA (u1 fun a17 =>
.actU (st T.a1 a17 (.agg #[.int .i64 n9,.int .i64 n10,.int .i64 n11,.int .i64 n12,.int .i64 n13,.int .i64 n14,l15.v])) <|
.lt (.bool) (b16) fun b18 =>
.bind 1 [] (
.ite (b18) (
.read True (Instr.loadAt T.a18 (.pointer fv1)) sL (u1 fun l19 =>
.read True (ld T.a1 a17) (sG [.int .i64,.int .i64,.int .i64,.int .i64,.int .i64,.int .i64,.slc]) (u7 fun (n20 n21 n22 n23 n24 n25:Int) l26 =>
.act (Instr.buildSlice T.a18 1 #[(0,.agg #[.int .i64 n20,.int .i64 n21,.int .i64 n22,.int .i64 n23,.int .i64 n24,.int .i64 n25,l26.v])]) sL (u1 fun l27 =>
.act (app T.a18 T.a18 T.a18 l19.v l27.v) sL (u1 fun l28 =>
.actU (Instr.storeAt T.a18 (.pointer fv1) l28.v) <|
.done 1 []))))) (
.done 1 [])) (u0 <|
.read True (Instr.loadAt T.a18 (.pointer fv1)) sL (u1 fun l29 =>
.read True (Instr.loadAt T.a10 (.pointer fv2)) (sI .i64) (u1 fun (n30:Int) =>
.lt (.bool) (decide (((l29.len:Nat):Int)<n30)) fun b31 =>
.done 0 [.bool b31]))))))))
theorem zf61_calls (b_0 b_1 b_2 b_3 b_4 b_5:Int) (b_6:Sl) (fv0 fv1 fv2:Option Addr) {w:World} {R:List Value→World→Prop} (h:(zf61 b_0 b_1 b_2 b_3 b_4 b_5 b_6 fv0 fv1 fv2).wp P (fun _=>True) w fun e vs w'=>e=0∧R vs w'):Ret P F.a53 #[.agg #[.int .i64 b_0,.int .i64 b_1,.int .i64 b_2,.int .i64 b_3,.int .i64 b_4,.int .i64 b_5,.slice b_6.a b_6.len b_6.cap],.pointer fv0,.pointer fv1,.pointer fv2] w R:=dS (n:=23) (rv:=[.tmp 5]) { cnd:=[(2013265934,[])],blk:=[],reg:=[],lps:=[] } [.val (.agg #[.int .i64 b_0,.int .i64 b_1,.int .i64 b_2,.int .i64 b_3,.int .i64 b_4,.int .i64 b_5,.slice b_6.a b_6.len b_6.cap]),.val (.pointer fv0),.val (.pointer fv1),.val (.pointer fv2)] Go.Proofs.Tryz.func69 (by kernel_rfl) (by kernel_rfl) (by kernel_rfl) (by kernel_rfl) h
def zf42 (b_0 b_1 b_2 b_3 b_4 b_5:Int) (b_6:Sl) (offset:Int):Prog :=
.act (Instr.box T.a1 (.agg #[.int .i64 b_0,.int .i64 b_1,.int .i64 b_2,.int .i64 b_3,.int .i64 b_4,.int .i64 b_5,b_6.v])) sA (u1 fun a0 =>
.act (new T.a1) sA (u1 fun a1 =>
.bind 1 [.one .bool] (
.read True (ld T.a1 a0) (sG [.int .i64,.int .i64,.int .i64,.int .i64,.int .i64,.int .i64,.slc]) (u7 fun (n2 n3 n4 n5 n6 n7:Int) l8 =>
.call F.a38 [.agg #[.int .i64 n2,.int .i64 n3,.int .i64 n4,.int .i64 n5,.int .i64 n6,.int .i64 n7,l8.v]] (sI .i64) (u1 fun (n9:Int) =>
.read ((n9 != 0)=false) (ld T.a1 a0) (sG [.int .i64,.int .i64,.int .i64,.int .i64,.int .i64,.int .i64,.slc]) (u7 fun (n10 n11 n12 n13 n14 n15:Int) l16 =>
.ite (n9 != 0) (
.done 1 [.bool true]) (
.call F.a36 [.agg #[.int .i64 n10,.int .i64 n11,.int .i64 n12,.int .i64 n13,.int .i64 n14,.int .i64 n15,l16.v]] (sI .i64) (u1 fun (n17:Int) =>
.lt (.bool) (decide (offset≥n17)) fun b18 =>
.done 1 [.bool b18])))))) (u1 fun b19 =>
.ite (b19) (
.actU (st T.a1 a1 (.agg #[.int .i64 0,.int .i64 0,.int .i64 0,.int .i64 0,.int .i64 0,.int .i64 0,.slice none 0 0])) <|
.read True (ld T.a1 a1) (sG [.int .i64,.int .i64,.int .i64,.int .i64,.int .i64,.int .i64,.slc]) (u7 fun (n20 n21 n22 n23 n24 n25:Int) l26 =>
.done 0 [.agg #[.int .i64 n20,.int .i64 n21,.int .i64 n22,.int .i64 n23,.int .i64 n24,.int .i64 n25,l26.v],.bool false])) (
.read True (ld T.a1 a0) (sG [.int .i64,.int .i64,.int .i64,.int .i64,.int .i64,.int .i64,.slc]) (u7 fun (n27 n28 n29 n30 n31 n32:Int) l33 =>
.call F.a41 [.agg #[.int .i64 n27,.int .i64 n28,.int .i64 n29,.int .i64 n30,.int .i64 n31,.int .i64 n32,l33.v]] sB (u1 fun b34 =>
.read (b34=false) (ld T.a11 (Addr.add a0 0)) (sI .i64) (u1 fun (n35:Int) =>
.lt (.bool) (b34 || decide (offset≤n35)) fun b36 =>
.ite (b36) (
.read True (ld T.a1 a0) (sG [.int .i64,.int .i64,.int .i64,.int .i64,.int .i64,.int .i64,.slc]) (u7 fun (n37 n38 n39 n40 n41 n42:Int) l43 =>
.call F.a32 [.agg #[.int .i64 n37,.int .i64 n38,.int .i64 n39,.int .i64 n40,.int .i64 n41,.int .i64 n42,l43.v]] (sG [.int .i64,.int .i64,.int .i64,.int .i64,.int .i64,.int .i64,.slc]) (u7 fun (n44 n45 n46 n47 n48 n49:Int) l50 =>
.actU (st T.a1 a1 (.agg #[.int .i64 n44,.int .i64 n45,.int .i64 n46,.int .i64 n47,.int .i64 n48,.int .i64 n49,l50.v])) <|
.read True (ld T.a1 a1) (sG [.int .i64,.int .i64,.int .i64,.int .i64,.int .i64,.int .i64,.slc]) (u7 fun (n51 n52 n53 n54 n55 n56:Int) l57 =>
.done 0 [.agg #[.int .i64 n51,.int .i64 n52,.int .i64 n53,.int .i64 n54,.int .i64 n55,.int .i64 n56,l57.v],.bool true])))) (
.read True (ld T.a1 a0) (sG [.int .i64,.int .i64,.int .i64,.int .i64,.int .i64,.int .i64,.slc]) (u7 fun (n58 n59 n60 n61 n62 n63:Int) l64 =>
.read True (ld T.a11 (Addr.add a0 0)) (sI .i64) (u1 fun (n65:Int) =>
.read True (ld T.a19 (Addr.add a0 6)) sL (u1 fun l66 =>
.call F.a43 [.agg #[.int .i64 n58,.int .i64 n59,.int .i64 n60,.int .i64 n61,.int .i64 n62,.int .i64 n63,l64.v],.int .i64 (IntKind.wrap .i64 (offset-n65)),.int .i64 (((l66.len:Nat):Int))] (sG [.int .i64,.int .i64,.int .i64,.int .i64,.int .i64,.int .i64,.slc]) (u7 fun (n67 n68 n69 n70 n71 n72:Int) l73 =>
.actU (st T.a1 a1 (.agg #[.int .i64 n67,.int .i64 n68,.int .i64 n69,.int .i64 n70,.int .i64 n71,.int .i64 n72,l73.v])) <|
.read True (ld T.a1 a1) (sG [.int .i64,.int .i64,.int .i64,.int .i64,.int .i64,.int .i64,.slc]) (u7 fun (n74 n75 n76 n77 n78 n79:Int) l80 =>
.done 0 [.agg #[.int .i64 n74,.int .i64 n75,.int .i64 n76,.int .i64 n77,.int .i64 n78,.int .i64 n79,l80.v],.bool true])))))))))))))
theorem zf42_calls (b_0 b_1 b_2 b_3 b_4 b_5:Int) (b_6:Sl) (offset:Int) {w:World} {R:List Value→World→Prop} (h:(zf42 b_0 b_1 b_2 b_3 b_4 b_5 b_6 offset).wp P (fun _=>True) w fun e vs w'=>e=0∧R vs w'):Ret P F.a35 #[.agg #[.int .i64 b_0,.int .i64 b_1,.int .i64 b_2,.int .i64 b_3,.int .i64 b_4,.int .i64 b_5,.slice b_6.a b_6.len b_6.cap],.int .i64 offset] w R:=dS (n:=37) (rv:=[.cell 4 38,.tmp 5]) { cnd:=[],blk:=[],reg:=[(1,[(6,.one .bool)])],lps:=[] } [.val (.agg #[.int .i64 b_0,.int .i64 b_1,.int .i64 b_2,.int .i64 b_3,.int .i64 b_4,.int .i64 b_5,.slice b_6.a b_6.len b_6.cap]),.val (.int .i64 offset)] Go.Proofs.Tryz.func70 (by kernel_rfl) (by kernel_rfl) (by kernel_rfl) (by kernel_rfl) h
def zf120 (a_0 a_1 a_2 a_3 a_4 a_5:Int) (a_6:Sl) (b_0 b_1 b_2 b_3 b_4 b_5:Int) (b_6:Sl):Prog :=
.act (Instr.box T.a1 (.agg #[.int .i64 a_0,.int .i64 a_1,.int .i64 a_2,.int .i64 a_3,.int .i64 a_4,.int .i64 a_5,a_6.v])) sA (u1 fun a0 =>
.act (Instr.box T.a1 (.agg #[.int .i64 b_0,.int .i64 b_1,.int .i64 b_2,.int .i64 b_3,.int .i64 b_4,.int .i64 b_5,b_6.v])) sA (u1 fun a1 =>
.read True (ld T.a19 (Addr.add a0 6)) sL (u1 fun l2 =>
.read True (ld T.a19 (Addr.add a1 6)) sL (u1 fun l3 =>
.ite (((l2.len:Nat):Int) != ((l3.len:Nat):Int)) (
.done 0 [.bool false]) (
.read True (ld T.a19 (Addr.add a0 6)) sL (u1 fun l4 =>
.bind 1 [] (
.loop 2 [.one (.int .i64)] (0,()) (u1 fun (n5:Int) =>
.ite (decide (n5<((l4.len:Nat):Int))) (
.lt (.int .i64) (n5) fun (n6:Int) =>
.tick <|
.read True (ld T.a19 (Addr.add a0 6)) sL (u1 fun l7 =>
.ex [.adr] (c1 fun a8=>0≤n6∧n6<((l7.len:Nat):Int)∧l7.a=some a8) (u1 fun a9 =>
.read True (ld T.a3 (Addr.add a9 (Int.toNat n6*4))) (sG [.str,.str,.bool,.int .i64]) (u4 fun s10 s11 b12 (n13:Int) =>
.read True (ld T.a19 (Addr.add a1 6)) sL (u1 fun l14 =>
.ex [.adr] (c1 fun a15=>0≤n6∧n6<((l14.len:Nat):Int)∧l14.a=some a15) (u1 fun a16 =>
.read True (ld T.a3 (Addr.add a16 (Int.toNat n6*4))) (sG [.str,.str,.bool,.int .i64]) (u4 fun s17 s18 b19 (n20:Int) =>
.untick <|
.ite (not (s10 == s17 && (s11 == s18 && (b12 == b19 && n13 == n20)))) (
.done 0 [.bool false]) (
.done 2 [.int .i64 (IntKind.wrap .i64 (n5+1))])))))))) (
.done 1 []))) (u0 <|
.read True (ld T.a11 (Addr.add a0 0)) (sI .i64) (u1 fun (n21:Int) =>
.read True (ld T.a11 (Addr.add a1 0)) (sI .i64) (u1 fun (n22:Int) =>
.read ((n21 == n22)=true) (ld T.a11 (Addr.add a0 1)) (sI .i64) (u1 fun (n23:Int) =>
.read ((n21 == n22)=true) (ld T.a11 (Addr.add a1 1)) (sI .i64) (u1 fun (n24:Int) =>
.read ((n21 == n22 && n23 == n24)=true) (ld T.a10 (Addr.add a0 2)) (sI .i64) (u1 fun (n25:Int) =>
.read ((n21 == n22 && n23 == n24)=true) (ld T.a10 (Addr.add a1 2)) (sI .i64) (u1 fun (n26:Int) =>
.read ((n21 == n22 && n23 == n24 && n25 == n26)=true) (ld T.a10 (Addr.add a0 3)) (sI .i64) (u1 fun (n27:Int) =>
.read ((n21 == n22 && n23 == n24 && n25 == n26)=true) (ld T.a10 (Addr.add a1 3)) (sI .i64) (u1 fun (n28:Int) =>
.read ((n21 == n22 && n23 == n24 && n25 == n26 && n27 == n28)=true) (ld T.a10 (Addr.add a0 4)) (sI .i64) (u1 fun (n29:Int) =>
.read ((n21 == n22 && n23 == n24 && n25 == n26 && n27 == n28)=true) (ld T.a10 (Addr.add a1 4)) (sI .i64) (u1 fun (n30:Int) =>
.read ((n21 == n22 && n23 == n24 && n25 == n26 && n27 == n28 && n29 == n30)=true) (ld T.a11 (Addr.add a0 5)) (sI .i64) (u1 fun (n31:Int) =>
.read ((n21 == n22 && n23 == n24 && n25 == n26 && n27 == n28 && n29 == n30)=true) (ld T.a11 (Addr.add a1 5)) (sI .i64) (u1 fun (n32:Int) =>
.lt (.bool) (n21 == n22 && n23 == n24 && n25 == n26 && n27 == n28 && n29 == n30 && n31 == n32) fun b33 =>
.done 0 [.bool b33])))))))))))))))))))
theorem zf120_calls (a_0 a_1 a_2 a_3 a_4 a_5:Int) (a_6:Sl) (b_0 b_1 b_2 b_3 b_4 b_5:Int) (b_6:Sl) {w:World} {R:List Value→World→Prop} (h:(zf120 a_0 a_1 a_2 a_3 a_4 a_5 a_6 b_0 b_1 b_2 b_3 b_4 b_5 b_6).wp P (fun _=>True) w fun e vs w'=>e=0∧R vs w'):Ret P F.a111 #[.agg #[.int .i64 a_0,.int .i64 a_1,.int .i64 a_2,.int .i64 a_3,.int .i64 a_4,.int .i64 a_5,.slice a_6.a a_6.len a_6.cap],.agg #[.int .i64 b_0,.int .i64 b_1,.int .i64 b_2,.int .i64 b_3,.int .i64 b_4,.int .i64 b_5,.slice b_6.a b_6.len b_6.cap]] w R:=dS (n:=71) (rv:=[.tmp 4]) { cnd:=[],blk:=[(0,[])],reg:=[],lps:=[(0,[(16,.one (.int .i64))])] } [.val (.agg #[.int .i64 a_0,.int .i64 a_1,.int .i64 a_2,.int .i64 a_3,.int .i64 a_4,.int .i64 a_5,.slice a_6.a a_6.len a_6.cap]),.val (.agg #[.int .i64 b_0,.int .i64 b_1,.int .i64 b_2,.int .i64 b_3,.int .i64 b_4,.int .i64 b_5,.slice b_6.a b_6.len b_6.cap])] Go.Proofs.Tryz.func71 (by kernel_rfl) (by kernel_rfl) (by kernel_rfl) (by kernel_rfl) h
def zf80 (c_0:Int) (c_1:Int):Prog :=
.act (Instr.box T.a27 (.agg #[.int .i64 c_0,.int .i64 c_1])) sA (u1 fun a0 =>
.read True (ld T.a10 (Addr.add a0 0)) (sI .i64) (u1 fun (n1:Int) =>
.read (decide (n1≥64)=true) (ld T.a10 (Addr.add a0 0)) (sI .i64) (u1 fun (n2:Int) =>
.read ((decide (n1≥64) && decide (n2≤4194304))=true) (ld T.a10 (Addr.add a0 1)) (sI .i64) (u1 fun (n3:Int) =>
.read ((decide (n1≥64) && decide (n2≤4194304) && decide (n3≥1))=true) (ld T.a10 (Addr.add a0 1)) (sI .i64) (u1 fun (n4:Int) =>
.lt (.bool) (decide (n1≥64) && decide (n2≤4194304) && decide (n3≥1) && decide (n4≤4194304)) fun b5 =>
.done 0 [.bool b5])))))
theorem zf80_calls (c_0 c_1:Int) {w:World} {R:List Value→World→Prop} (h:(zf80 c_0 c_1).wp P (fun _=>True) w fun e vs w'=>e=0∧R vs w'):Ret P F.a72 #[.agg #[.int .i64 c_0,.int .i64 c_1]] w R:=dS (n:=21) (rv:=[.tmp 2]) { cnd:=[],blk:=[],reg:=[],lps:=[] } [.val (.agg #[.int .i64 c_0,.int .i64 c_1])] Go.Proofs.Tryz.func72 (by kernel_rfl) (by kernel_rfl) (by kernel_rfl) (by kernel_rfl) h
def zf66 (l:Option Addr):Prog :=
.tick <|
.ex [.adr] (c1 fun a0=>l=some a0) (u1 fun a1 =>
.read True (ld T.a13 (Addr.add a1 0)) sP (u1 fun p2 =>
.ex [.adr] (c1 fun a3=>l=some a3) (u1 fun a4 =>
.read True (ld T.a31 (Addr.add a4 1)) sS (u1 fun s5 =>
.must (((ByteArray.size s5+1:Nat):Int)≤9223372036854775807) <|
.call F.a7 [.pointer p2,.string (s5++(ByteArray.mk #[45]))] sL (u1 fun l6 =>
.untick <|
.bind 1 [.one .slc] (
.loop 2 [.one .slc,.one (.int .i64)] (⟨none,0,0⟩,(0,())) (u2 fun l7 (n8:Int) =>
.ite (decide (n8<((l6.len:Nat):Int))) (
.ex [.adr] (c1 fun a9=>0≤n8∧n8<((l6.len:Nat):Int)∧l6.a=some a9) (u1 fun a10 =>
.read True (ld T.a31 (Addr.add a10 (Int.toNat n8*1))) sS (u1 fun s11 =>
.lt (.str) (s11) fun s12 =>
.call F.a56 [.pointer l,.string s12,.string (ByteArray.mk #[46,108,111,103])] (.tup [.one (.int .i64),.one .bool]) (u2 fun (n13:Int) b14 =>
.lt (.int .i64) (n13) fun (n15:Int) =>
.lt (.bool) (b14) fun b16 =>
.bind 3 [.one .slc] (
.ite (b16) (
.act (Instr.buildSlice T.a21 1 #[(0,.int .i64 n15)]) sL (u1 fun l17 =>
.act (app T.a21 T.a21 T.a21 l7.v l17.v) sL (u1 fun l18 =>
.done 3 [l18.v]))) (
.done 3 [l7.v])) (u1 fun l19 =>
.call F.a56 [.pointer l,.string s12,.string (ByteArray.mk #[46,110,101,119])] (.tup [.one (.int .i64),.one .bool]) (u2 fun (n20:Int) b21 =>
.lt (.int .i64) (n20) fun (n22:Int) =>
.lt (.bool) (b21) fun b23 =>
.bind 3 [] (
.ite (b23) (
.ex [.adr] (c1 fun a24=>l=some a24) (u1 fun a25 =>
.read True (ld T.a13 (Addr.add a25 0)) sP (u1 fun p26 =>
.call F.a9 [.pointer p26,.string s12] (sI .i64) (u1 fun (n27:Int) =>
.lt (.int .i64) (n27) fun (n28:Int) =>
.ite (n28 != 0) (
.lt (.int .i64) (n28) fun (n29:Int) =>
.done 0 [.slice none 0 0,.int .i64 n29]) (
.done 3 []))))) (
.done 3 [])) (u0 <|
.done 2 [l19.v,.int .i64 (IntKind.wrap .i64 (n8+1))]))))))) (
.done 1 [l7.v]))) (u1 fun l30 =>
.done 0 [l30.v,.int .i64 0]))))))
theorem zf66_calls (l:Option Addr) {w:World} {R:List Value→World→Prop} (h:(zf66 l).wp P (fun _=>True) w fun e vs w'=>e=0∧R vs w'):Ret P F.a58 #[.pointer l] w R:=dS (n:=56) (rv:=[.tmp 2,.tmp 3]) { cnd:=[(1055531162730529,[(4,.one .slc)]),(73642861106770788396,[])],blk:=[(0,[(4,.one .slc)])],reg:=[],lps:=[(0,[(4,.one .slc),(23,.one (.int .i64))])] } [.val (.pointer l)] Go.Proofs.Tryz.func73 (by kernel_rfl) (by kernel_rfl) (by kernel_rfl) (by kernel_rfl) h
def zf69 (l:Option Addr) (base:Int) (end_:ByteArray):Prog :=
.act (Instr.makeSlice T.a26 (.int .i64 11) (.int .i64 11)) sL (u1 fun l0 =>
.bind 1 [] (
.loop 2 [.one (.int .i64),.one (.int .i64)] (base,(10,())) (u2 fun (n1 n2:Int) =>
.ite (decide (n2≥0)) (
.must (0≤IntKind.wrap .i64 (((BitVec.toNat (BitVec.ofInt 64 n1 &&& BitVec.ofInt 64 15):Nat):Int))∧IntKind.wrap .i64 (((BitVec.toNat (BitVec.ofInt 64 n1 &&& BitVec.ofInt 64 15):Nat):Int))<16) <|
.ex [.adr] (c1 fun a3=>0≤n2∧n2<((l0.len:Nat):Int)∧l0.a=some a3) (u1 fun a4 =>
.actU (st T.a34 (Addr.add a4 (Int.toNat n2*1)) (.int .u8 (bt (ByteArray.mk #[48,49,50,51,52,53,54,55,56,57,97,98,99,100,101,102]) (IntKind.wrap .i64 (((BitVec.toNat (BitVec.ofInt 64 n1 &&& BitVec.ofInt 64 15):Nat):Int)))))) <|
.lt (.int .i64) (Int.fdiv n1 16) fun (n5:Int) =>
.lt (.int .i64) (IntKind.wrap .i64 (n2-1)) fun (n6:Int) =>
.done 2 [.int .i64 n5,.int .i64 n6])) (
.done 1 []))) (u0 <|
.tick <|
.ex [.adr] (c1 fun a7=>l=some a7) (u1 fun a8 =>
.read True (ld T.a31 (Addr.add a8 1)) sS (u1 fun s9 =>
.must (((ByteArray.size s9+1:Nat):Int)≤9223372036854775807) <|
.read True (convert T.a26 T.a31 l0.v) sS (u1 fun s10 =>
.must (((ByteArray.size (s9++(ByteArray.mk #[45]))+ByteArray.size s10:Nat):Int)≤9223372036854775807) <|
.must (((ByteArray.size (s9++(ByteArray.mk #[45])++s10)+ByteArray.size end_:Nat):Int)≤9223372036854775807) <|
.lt (.str) (s9++(ByteArray.mk #[45])++s10++end_) fun s11 =>
.untick <|
.done 0 [.string s11])))))
theorem zf69_calls (l:Option Addr) (base:Int) (end_:ByteArray) {w:World} {R:List Value→World→Prop} (h:(zf69 l base end_).wp P (fun _=>True) w fun e vs w'=>e=0∧R vs w'):Ret P F.a61 #[.pointer l,.int .i64 base,.string end_] w R:=dS (n:=32) (rv:=[.tmp 6]) { cnd:=[],blk:=[(0,[])],reg:=[],lps:=[(0,[(1,.one (.int .i64)),(8,.one (.int .i64))])] } [.val (.pointer l),.val (.int .i64 base),.val (.string end_)] Go.Proofs.Tryz.func75 (by kernel_rfl) (by kernel_rfl) (by kernel_rfl) (by kernel_rfl) h
def zf72 (l:Option Addr) (base:Int):Prog :=
.call F.a61 [.pointer l,.int .i64 base,.string (ByteArray.mk #[46,108,111,103])] sS (u1 fun s0 =>
.lt (.str) (s0) fun s1 =>
.ex [.adr] (c1 fun a2=>l=some a2) (u1 fun a3 =>
.read True (ld T.a13 (Addr.add a3 0)) sP (u1 fun p4 =>
.call F.a8 [.pointer p4,.string s1] (.tup [.one .slc,.one (.int .i64)]) (u2 fun l5 (n6:Int) =>
.lt (.int .i64) (n6) fun (n7:Int) =>
.ite (n7 != 0) (
.lt (.int .i64) (n7) fun (n8:Int) =>
.done 0 [.bool false,.int .i64 n8]) (
.call F.a16 [l5.v] (.tup [.one .slc,.one (.int .i64),.one .bool]) (u3 fun l9 (n10:Int) b11 =>
.lt (.int .i64) (n10) fun (n12:Int) =>
.lt (.bool) (b11) fun b13 =>
.bind 1 [.one (.int .i64),.one .bool] (
.ite (b13) (
.call F.a70 [l9.v,.int .i64 base] (.tup [.one (.int .i64),.one .bool]) (u2 fun (n14:Int) b15 =>
.lt (.int .i64) (n14) fun (n16:Int) =>
.lt (.bool) (b15) fun b17 =>
.done 1 [.int .i64 n16,.bool b17])) (
.done 1 [.int .i64 0,.bool false])) (u2 fun (n18:Int) b19 =>
.ite (not b19) (
.ex [.adr] (c1 fun a20=>l=some a20) (u1 fun a21 =>
.read True (ld T.a13 (Addr.add a21 0)) sP (u1 fun p22 =>
.call F.a9 [.pointer p22,.string s1] (sI .i64) (u1 fun (n23:Int) =>
.lt (.int .i64) (n23) fun (n24:Int) =>
.done 0 [.bool false,.int .i64 n24])))) (
.call F.a65 [.pointer l,.int .i64 base,.int .i64 n18] sP (u1 fun p25 =>
.lt (.int .i64) (base) fun (n26:Int) =>
.bind 1 [.one (.int .i64)] (
.loop 2 [.one (.int .i64),.one (.int .i64)] (n12,(n26,())) (u2 fun (n27 n28:Int) =>
.must (0≤n27∧n27≤((l5.len:Nat):Int)) <|
.call F.a16 [.slice (cutA l5.a 1 (Int.toNat n27) l5.cap) (l5.len-Int.toNat n27) (l5.cap-Int.toNat n27)] (.tup [.one .slc,.one (.int .i64),.one .bool]) (u3 fun l29 (n30:Int) b31 =>
.lt (.int .i64) (n30) fun (n32:Int) =>
.lt (.bool) (b31) fun b33 =>
.ite (not b33) (
.done 1 [.int .i64 n27]) (
.call F.a33 [l29.v] (.tup [.agg [.int .i64,.int .i64,.int .i64,.int .i64,.int .i64,.int .i64,.slc],.one (.int .i64)]) (u8 fun (n34 n35 n36 n37 n38 n39:Int) l40 (n41:Int) =>
.act (new T.a1) sA (u1 fun a42 =>
.actU (st T.a1 a42 (.agg #[.int .i64 n34,.int .i64 n35,.int .i64 n36,.int .i64 n37,.int .i64 n38,.int .i64 n39,l40.v])) <|
.lt (.int .i64) (n41) fun (n43:Int) =>
.read ((n43 != 0)=false) (ld T.a11 (Addr.add a42 0)) (sI .i64) (u1 fun (n44:Int) =>
.ite (n43 != 0 || decide (n44<n28)) (
.done 1 [.int .i64 n27]) (
.read True (ld T.a1 a42) (sG [.int .i64,.int .i64,.int .i64,.int .i64,.int .i64,.int .i64,.slc]) (u7 fun (n45 n46 n47 n48 n49 n50:Int) l51 =>
.call F.a75 [.pointer p25,.agg #[.int .i64 n45,.int .i64 n46,.int .i64 n47,.int .i64 n48,.int .i64 n49,.int .i64 n50,l51.v],.int .i64 n32] (.tup []) (u0 <|
.ex [.adr] (c1 fun a52=>p25=some a52) (u1 fun a53 =>
.read True (ld T.a11 (Addr.add a53 3)) (sI .i64) (u1 fun (n54:Int) =>
.lt (.int .i64) (n54) fun (n55:Int) =>
.lt (.int .i64) (IntKind.wrap .i64 (n27+n32)) fun (n56:Int) =>
.done 2 [.int .i64 n56,.int .i64 n55])))))))))))) (u1 fun (n57:Int) =>
.call F.a63 [.pointer l,.pointer p25] (.tup []) (u0 <|
.ite (n57 == ((l5.len:Nat):Int)) (
.done 0 [.bool true,.int .i64 0]) (
.ex [.adr] (c1 fun a58=>l=some a58) (u1 fun a59 =>
.read True (ld T.a13 (Addr.add a59 0)) sP (u1 fun p60 =>
.call F.a4 [.pointer p60,.string s1,.int .i64 n57] (sI .i64) (u1 fun (n61:Int) =>
.lt (.int .i64) (n61) fun (n62:Int) =>
.done 0 [.bool false,.int .i64 n62])))))))))))))))
theorem zf72_calls (l:Option Addr) (base:Int) {w:World} {R:List Value→World→Prop} (h:(zf72 l base).wp P (fun _=>True) w fun e vs w'=>e=0∧R vs w'):Ret P F.a64 #[.pointer l,.int .i64 base] w R:=dS (n:=110) (rv:=[.tmp 4,.tmp 5]) { cnd:=[(2269814212245061674,[(12,.one (.int .i64)),(13,.one .bool)])],blk:=[(0,[(10,.one (.int .i64))])],reg:=[],lps:=[(0,[(10,.one (.int .i64)),(15,.one (.int .i64))])] } [.val (.pointer l),.val (.int .i64 base)] Go.Proofs.Tryz.func76 (by kernel_rfl) (by kernel_rfl) (by kernel_rfl) (by kernel_rfl) h
def zf65 (l:Option Addr) (bases:Sl):Prog :=
.bind 1 [] (
.loop 2 [.one (.int .i64)] (0,()) (u1 fun (n0:Int) =>
.ite (decide (n0<((bases.len:Nat):Int))) (
.ex [.adr] (c1 fun a1=>0≤n0∧n0<((bases.len:Nat):Int)∧bases.a=some a1) (u1 fun a2 =>
.read True (ld T.a11 (Addr.add a2 (Int.toNat n0*1))) (sI .i64) (u1 fun (n3:Int) =>
.lt (.int .i64) (n3) fun (n4:Int) =>
.bind 3 [.one (.int .i64)] (
.tick <|
.ex [.adr] (c1 fun a5=>l=some a5) (u1 fun a6 =>
.hold True (ld T.a13 (Addr.add a6 0)) sP (u1 fun p7 =>
.call F.a61 [.pointer l,.int .i64 n4,.string (ByteArray.mk #[46,108,111,103])] sS (u1 fun s8 =>
.untick <|
.call F.a9 [.pointer p7,.string s8] (sI .i64) (u1 fun (n9:Int) =>
.lt (.int .i64) (n9) fun (n10:Int) =>
.untick <|
.done 3 [.int .i64 n10]))))) (u1 fun (n11:Int) =>
.ite (n11 != 0) (
.lt (.int .i64) (n11) fun (n12:Int) =>
.done 0 [.int .i64 n12]) (
.done 2 [.int .i64 (IntKind.wrap .i64 (n0+1))]))))) (
.done 1 []))) (u0 <|
.done 0 [.int .i64 0])
theorem zf65_calls (l:Option Addr) (bases:Sl) {w:World} {R:List Value→World→Prop} (h:(zf65 l bases).wp P (fun _=>True) w fun e vs w'=>e=0∧R vs w'):Ret P F.a57 #[.pointer l,.slice bases.a bases.len bases.cap] w R:=dS (n:=26) (rv:=[.tmp 4]) { cnd:=[],blk:=[(0,[])],reg:=[(4,[(7,.one (.int .i64))])],lps:=[(0,[(10,.one (.int .i64))])] } [.val (.pointer l),.val (.slice bases.a bases.len bases.cap)] Go.Proofs.Tryz.func77 (by kernel_rfl) (by kernel_rfl) (by kernel_rfl) (by kernel_rfl) h
def zf70 (l:Option Addr) (bs:Sl):Prog :=
.call F.a50 [.pointer l] (sI .i64) (u1 fun (n0:Int) =>
.lt (.int .i64) (n0) fun (n1:Int) =>
.bind 1 [.one .slc,.one .slc] (
.loop 2 [.one (.int .i64),.one .slc,.one .slc,.one (.int .i64)] (n1,(⟨none,0,0⟩,(⟨none,0,0⟩,(0,())))) (u4 fun (n2:Int) l3 l4 (n5:Int) =>
.ite (decide (n5<((bs.len:Nat):Int))) (
.ex [.adr] (c1 fun a6=>0≤n5∧n5<((bs.len:Nat):Int)∧bs.a=some a6) (u1 fun a7 =>
.read True (ld T.a1 (Addr.add a7 (Int.toNat n5*7))) (sG [.int .i64,.int .i64,.int .i64,.int .i64,.int .i64,.int .i64,.slc]) (u7 fun (n8 n9 n10 n11 n12 n13:Int) l14 =>
.act (new T.a1) sA (u1 fun a15 =>
.actU (st T.a1 a15 (.agg #[.int .i64 n8,.int .i64 n9,.int .i64 n10,.int .i64 n11,.int .i64 n12,.int .i64 n13,l14.v])) <|
.actU (st T.a11 (Addr.add a15 0) (.int .i64 n2)) <|
.read True (ld T.a1 a15) (sG [.int .i64,.int .i64,.int .i64,.int .i64,.int .i64,.int .i64,.slc]) (u7 fun (n16 n17 n18 n19 n20 n21:Int) l22 =>
.call F.a34 [.agg #[.int .i64 n16,.int .i64 n17,.int .i64 n18,.int .i64 n19,.int .i64 n20,.int .i64 n21,l22.v]] (.tup [.one .slc,.one (.int .i64)]) (u2 fun l23 (n24:Int) =>
.lt (.int .i64) (n24) fun (n25:Int) =>
.ite (n25 != 0) (
.lt (.int .i64) (n25) fun (n26:Int) =>
.done 0 [.slice none 0 0,.slice none 0 0,.int .i64 n26]) (
.read True (ld T.a1 a15) (sG [.int .i64,.int .i64,.int .i64,.int .i64,.int .i64,.int .i64,.slc]) (u7 fun (n27 n28 n29 n30 n31 n32:Int) l33 =>
.act (Instr.buildSlice T.a18 1 #[(0,.agg #[.int .i64 n27,.int .i64 n28,.int .i64 n29,.int .i64 n30,.int .i64 n31,.int .i64 n32,l33.v])]) sL (u1 fun l34 =>
.act (app T.a18 T.a18 T.a18 l3.v l34.v) sL (u1 fun l35 =>
.act (Instr.buildSlice T.a23 1 #[(0,l23.v)]) sL (u1 fun l36 =>
.call F.a18 [l36.v] sL (u1 fun l37 =>
.act (Instr.buildSlice T.a23 1 #[(0,l37.v)]) sL (u1 fun l38 =>
.act (app T.a23 T.a23 T.a23 l4.v l38.v) sL (u1 fun l39 =>
.read True (ld T.a1 a15) (sG [.int .i64,.int .i64,.int .i64,.int .i64,.int .i64,.int .i64,.slc]) (u7 fun (n40 n41 n42 n43 n44 n45:Int) l46 =>
.call F.a36 [.agg #[.int .i64 n40,.int .i64 n41,.int .i64 n42,.int .i64 n43,.int .i64 n44,.int .i64 n45,l46.v]] (sI .i64) (u1 fun (n47:Int) =>
.lt (.int .i64) (n47) fun (n48:Int) =>
.done 2 [.int .i64 n48,l35.v,l39.v,.int .i64 (IntKind.wrap .i64 (n5+1))])))))))))))))))) (
.done 1 [l3.v,l4.v]))) (u2 fun l49 l50 =>
.done 0 [l49.v,l50.v,.int .i64 0]))
theorem zf70_calls (l:Option Addr) (bs:Sl) {w:World} {R:List Value→World→Prop} (h:(zf70 l bs).wp P (fun _=>True) w fun e vs w'=>e=0∧R vs w'):Ret P F.a62 #[.pointer l,.slice bs.a bs.len bs.cap] w R:=dS (n:=47) (rv:=[.tmp 4,.tmp 5,.tmp 6]) { cnd:=[],blk:=[(0,[(8,.one .slc),(9,.one .slc)])],reg:=[],lps:=[(0,[(7,.one (.int .i64)),(8,.one .slc),(9,.one .slc),(18,.one (.int .i64))])] } [.val (.pointer l),.val (.slice bs.a bs.len bs.cap)] Go.Proofs.Tryz.func78 (by kernel_rfl) (by kernel_rfl) (by kernel_rfl) (by kernel_rfl) h
def zf67 (l:Option Addr) (n:Int):Prog :=
.call F.a60 [.pointer l] sP (u1 fun p0 =>
.tick <|
.ex [.adr] (c1 fun a1=>not (Option.isNone p0)=true→p0=some a1) (u1 fun a2 =>
.read (not (Option.isNone p0)=true) (ld T.a11 (Addr.add a2 3)) (sI .i64) (u1 fun (n3:Int) =>
.ex [.adr] (c1 fun a4=>not (Option.isNone p0)=true∧(n3 == 0)=false→p0=some a4) (u1 fun a5 =>
.read (not (Option.isNone p0)=true∧(n3 == 0)=false) (ld T.a10 (Addr.add a5 5)) (sI .i64) (u1 fun (n6:Int) =>
.ex [.adr] (c1 fun a7=>not (Option.isNone p0)=true∧(n3 == 0)=false→l=some a7) (u1 fun a8 =>
.read (not (Option.isNone p0)=true∧(n3 == 0)=false) (ld T.a10 (Addr.add (Addr.add a8 2) 0)) (sI .i64) (u1 fun (n9:Int) =>
.lt (.bool) (not (Option.isNone p0) && (n3 == 0 || decide (IntKind.wrap .i64 (n6+n)≤n9))) fun b10 =>
.untick <|
.done 0 [.bool b10])))))))
theorem zf67_calls (l:Option Addr) (n:Int) {w:World} {R:List Value→World→Prop} (h:(zf67 l n).wp P (fun _=>True) w fun e vs w'=>e=0∧R vs w'):Ret P F.a59 #[.pointer l,.int .i64 n] w R:=dS (n:=31) (rv:=[.tmp 4]) { cnd:=[],blk:=[],reg:=[],lps:=[] } [.val (.pointer l),.val (.int .i64 n)] Go.Proofs.Tryz.func79 (by kernel_rfl) (by kernel_rfl) (by kernel_rfl) (by kernel_rfl) h
def zf73 (l:Option Addr) (base:Int) (end_:Int):Prog :=
.ex [.adr] (c1 fun a0=>l=some a0) (u1 fun a1 =>
.read True (ld T.a10 (Addr.add (Addr.add a1 2) 1)) (sI .i64) (u1 fun (n2:Int) =>
.call F.a26 [.int .i64 n2] (.tup [.one .ptr,.one (.int .i64)]) (u2 fun p3 (n4:Int) =>
.lt (.int .i64) (n4) fun (n5:Int) =>
.call F.a69 [.int .i64 base,.int .i64 end_] sL (u1 fun l6 =>
.act (Instr.box T.a29 (.agg #[.pointer p3,.int .i64 base,.int .i64 end_,.int .i64 0,.int .i64 (-1),.int .i64 (((l6.len:Nat):Int))])) sA (u1 fun a7 =>
.done 0 [.pointer (some a7)])))))
theorem zf73_calls (l:Option Addr) (base end_:Int) {w:World} {R:List Value→World→Prop} (h:(zf73 l base end_).wp P (fun _=>True) w fun e vs w'=>e=0∧R vs w'):Ret P F.a65 #[.pointer l,.int .i64 base,.int .i64 end_] w R:=dS (n:=27) (rv:=[.tmp 6]) { cnd:=[],blk:=[],reg:=[],lps:=[] } [.val (.pointer l),.val (.int .i64 base),.val (.int .i64 end_)] Go.Proofs.Tryz.func80 (by kernel_rfl) (by kernel_rfl) (by kernel_rfl) (by kernel_rfl) h
def zf77 (base:Int) (end_:Int):Prog :=
.act (Instr.buildSlice T.a26 1 #[(0,.int .u8 83)]) sL (u1 fun l0 =>
.call F.a138 [.int .u64 (IntKind.wrap .u64 base)] sL (u1 fun l1 =>
.call F.a138 [.int .u64 (IntKind.wrap .u64 end_)] sL (u1 fun l2 =>
.act (Instr.buildSlice T.a23 3 #[(0,l0.v),(1,l1.v),(2,l2.v)]) sL (u1 fun l3 =>
.call F.a18 [l3.v] sL (u1 fun l4 =>
.done 0 [l4.v])))))
theorem zf77_calls (base end_:Int) {w:World} {R:List Value→World→Prop} (h:(zf77 base end_).wp P (fun _=>True) w fun e vs w'=>e=0∧R vs w'):Ret P F.a69 #[.int .i64 base,.int .i64 end_] w R:=dS (n:=14) (rv:=[.tmp 4]) { cnd:=[],blk:=[],reg:=[],lps:=[] } [.val (.int .i64 base),.val (.int .i64 end_)] Go.Proofs.Tryz.func81 (by kernel_rfl) (by kernel_rfl) (by kernel_rfl) (by kernel_rfl) h
def zf71 (l:Option Addr) (s:Option Addr):Prog :=
.ex [.adr] (c1 fun a0=>l=some a0) (u1 fun a1 =>
.read True (ld T.a22 (Addr.add a1 4)) sL (u1 fun l2 =>
.act (Instr.buildSlice T.a22 1 #[(0,.pointer s)]) sL (u1 fun l3 =>
.act (app T.a22 T.a22 T.a22 l2.v l3.v) sL (u1 fun l4 =>
.ex [.adr] (c1 fun a5=>l=some a5) (u1 fun a6 =>
.actU (st T.a22 (Addr.add a6 4) l4.v) <|
.done 0 [])))))
theorem zf71_calls (l s:Option Addr) {w:World} {R:List Value→World→Prop} (h:(zf71 l s).wp P (fun _=>True) w fun e vs w'=>e=0∧R vs w'):Ret P F.a63 #[.pointer l,.pointer s] w R:=dS (n:=16) (rv:=[]) { cnd:=[],blk:=[],reg:=[],lps:=[] } [.val (.pointer l),.val (.pointer s)] Go.Proofs.Tryz.func82 (by kernel_rfl) (by kernel_rfl) (by kernel_rfl) (by kernel_rfl) h
def zf83 (s:Option Addr) (b_0 b_1 b_2 b_3 b_4 b_5:Int) (b_6:Sl) (size:Int):Prog :=
.act (Instr.box T.a1 (.agg #[.int .i64 b_0,.int .i64 b_1,.int .i64 b_2,.int .i64 b_3,.int .i64 b_4,.int .i64 b_5,b_6.v])) sA (u1 fun a0 =>
.read True (ld T.a1 a0) (sG [.int .i64,.int .i64,.int .i64,.int .i64,.int .i64,.int .i64,.slc]) (u7 fun (n1 n2 n3 n4 n5 n6:Int) l7 =>
.call F.a71 [.agg #[.int .i64 n1,.int .i64 n2,.int .i64 n3,.int .i64 n4,.int .i64 n5,.int .i64 n6,l7.v]] (sI .i64) (u1 fun (n8:Int) =>
.lt (.int .i64) (n8) fun (n9:Int) =>
.tick <|
.ex [.adr] (c1 fun a10=>s=some a10) (u1 fun a11 =>
.read True (ld T.a15 (Addr.add a11 0)) sP (u1 fun p12 =>
.read True (ld T.a11 (Addr.add a0 0)) (sI .i64) (u1 fun (n13:Int) =>
.ex [.adr] (c1 fun a14=>s=some a14) (u1 fun a15 =>
.read True (ld T.a10 (Addr.add a15 5)) (sI .i64) (u1 fun (n16:Int) =>
.call F.a24 [.pointer p12,.int .i64 n13,.int .i64 n16,.int .i64 n9] (sI .i64) (u1 fun (n17:Int) =>
.untick <|
.read True (ld T.a1 a0) (sG [.int .i64,.int .i64,.int .i64,.int .i64,.int .i64,.int .i64,.slc]) (u7 fun (n18 n19 n20 n21 n22 n23:Int) l24 =>
.call F.a36 [.agg #[.int .i64 n18,.int .i64 n19,.int .i64 n20,.int .i64 n21,.int .i64 n22,.int .i64 n23,l24.v]] (sI .i64) (u1 fun (n25:Int) =>
.ex [.adr] (c1 fun a26=>s=some a26) (u1 fun a27 =>
.actU (st T.a11 (Addr.add a27 3) (.int .i64 n25)) <|
.ex [.adr] (c1 fun a28=>s=some a28) (u1 fun a29 =>
.read True (ld T.a11 (Addr.add a29 4)) (sI .i64) (u1 fun (n30:Int) =>
.ex [.adr] (c1 fun a31=>s=some a31) (u1 fun a32 =>
.actU (st T.a11 (Addr.add a32 4) (.int .i64 (if n9>n30 then n9 else n30))) <|
.ex [.adr] (c1 fun a33=>s=some a33) (u1 fun a34 =>
.read True (ld T.a10 (Addr.add a34 5)) (sI .i64) (u1 fun (n35:Int) =>
.ex [.adr] (c1 fun a36=>s=some a36) (u1 fun a37 =>
.actU (st T.a10 (Addr.add a37 5) (.int .i64 (IntKind.wrap .i64 (n35+size)))) <|
.done 0 []))))))))))))))))))
theorem zf83_calls (s:Option Addr) (b_0 b_1 b_2 b_3 b_4 b_5:Int) (b_6:Sl) (size:Int) {w:World} {R:List Value→World→Prop} (h:(zf83 s b_0 b_1 b_2 b_3 b_4 b_5 b_6 size).wp P (fun _=>True) w fun e vs w'=>e=0∧R vs w'):Ret P F.a75 #[.pointer s,.agg #[.int .i64 b_0,.int .i64 b_1,.int .i64 b_2,.int .i64 b_3,.int .i64 b_4,.int .i64 b_5,.slice b_6.a b_6.len b_6.cap],.int .i64 size] w R:=dS (n:=43) (rv:=[]) { cnd:=[],blk:=[],reg:=[],lps:=[] } [.val (.pointer s),.val (.agg #[.int .i64 b_0,.int .i64 b_1,.int .i64 b_2,.int .i64 b_3,.int .i64 b_4,.int .i64 b_5,.slice b_6.a b_6.len b_6.cap]),.val (.int .i64 size)] Go.Proofs.Tryz.func83 (by kernel_rfl) (by kernel_rfl) (by kernel_rfl) (by kernel_rfl) h
def zf116 (b_0 b_1 b_2 b_3 b_4 b_5:Int) (b_6:Sl):Prog :=
.act (Instr.box T.a1 (.agg #[.int .i64 b_0,.int .i64 b_1,.int .i64 b_2,.int .i64 b_3,.int .i64 b_4,.int .i64 b_5,b_6.v])) sA (u1 fun a0 =>
.read True (ld T.a1 a0) (sG [.int .i64,.int .i64,.int .i64,.int .i64,.int .i64,.int .i64,.slc]) (u7 fun (n1 n2 n3 n4 n5 n6:Int) l7 =>
.call F.a114 [.agg #[.int .i64 n1,.int .i64 n2,.int .i64 n3,.int .i64 n4,.int .i64 n5,.int .i64 n6,l7.v]] (sI .i64) (u1 fun (n8:Int) =>
.lt (.int .i64) (n8) fun (n9:Int) =>
.ite (n9 != 0) (
.lt (.int .i64) (n9) fun (n10:Int) =>
.done 0 [.slice none 0 0,.int .i64 n10]) (
.read True (ld T.a10 (Addr.add a0 4)) (sI .i64) (u1 fun (n11:Int) =>
.act (Instr.buildSlice T.a26 2 #[(0,.int .u8 1),(1,.int .u8 (IntKind.wrap .u8 n11))]) sL (u1 fun l12 =>
.read True (ld T.a11 (Addr.add a0 0)) (sI .i64) (u1 fun (n13:Int) =>
.call F.a103 [.int .u64 (IntKind.wrap .u64 n13)] sL (u1 fun l14 =>
.act (app T.a26 T.a26 T.a26 l12.v l14.v) sL (u1 fun l15 =>
.read True (ld T.a11 (Addr.add a0 1)) (sI .i64) (u1 fun (n16:Int) =>
.call F.a103 [.int .u64 (IntKind.wrap .u64 n16)] sL (u1 fun l17 =>
.act (app T.a26 T.a26 T.a26 l15.v l17.v) sL (u1 fun l18 =>
.read True (ld T.a11 (Addr.add a0 1)) (sI .i64) (u1 fun (n19:Int) =>
.bind 1 [.one .slc] (
.ite (decide (n19>0)) (
.read True (ld T.a10 (Addr.add a0 2)) (sI .i64) (u1 fun (n20:Int) =>
.call F.a103 [.int .u64 (IntKind.wrap .u64 n20)] sL (u1 fun l21 =>
.act (app T.a26 T.a26 T.a26 l18.v l21.v) sL (u1 fun l22 =>
.done 1 [l22.v])))) (
.done 1 [l18.v])) (u1 fun l23 =>
.bind 1 [.one .bool] (
.read True (ld T.a11 (Addr.add a0 1)) (sI .i64) (u1 fun (n24:Int) =>
.read (decide (n24>0)=true) (ld T.a1 a0) (sG [.int .i64,.int .i64,.int .i64,.int .i64,.int .i64,.int .i64,.slc]) (u7 fun (n25 n26 n27 n28 n29 n30:Int) l31 =>
.ite (decide (n24>0)) (
.call F.a109 [.agg #[.int .i64 n25,.int .i64 n26,.int .i64 n27,.int .i64 n28,.int .i64 n29,.int .i64 n30,l31.v]] sB (u1 fun b32 =>
.done 1 [.bool (not b32)])) (
.done 1 [.bool false])))) (u1 fun b33 =>
.bind 1 [.one .slc] (
.ite (b33) (
.read True (ld T.a10 (Addr.add a0 3)) (sI .i64) (u1 fun (n34:Int) =>
.call F.a103 [.int .u64 (IntKind.wrap .u64 n34)] sL (u1 fun l35 =>
.act (app T.a26 T.a26 T.a26 l23.v l35.v) sL (u1 fun l36 =>
.done 1 [l36.v])))) (
.done 1 [l23.v])) (u1 fun l37 =>
.read True (ld T.a11 (Addr.add a0 5)) (sI .i64) (u1 fun (n38:Int) =>
.call F.a103 [.int .u64 (IntKind.wrap .u64 n38)] sL (u1 fun l39 =>
.act (app T.a26 T.a26 T.a26 l37.v l39.v) sL (u1 fun l40 =>
.read True (ld T.a1 a0) (sG [.int .i64,.int .i64,.int .i64,.int .i64,.int .i64,.int .i64,.slc]) (u7 fun (n41 n42 n43 n44 n45 n46:Int) l47 =>
.call F.a109 [.agg #[.int .i64 n41,.int .i64 n42,.int .i64 n43,.int .i64 n44,.int .i64 n45,.int .i64 n46,l47.v]] sB (u1 fun b48 =>
.ite (b48) (
.done 0 [l40.v,.int .i64 0]) (
.read True (ld T.a19 (Addr.add a0 6)) sL (u1 fun l49 =>
.call F.a103 [.int .u64 (IntKind.wrap .u64 (((l49.len:Nat):Int)))] sL (u1 fun l50 =>
.act (app T.a26 T.a26 T.a26 l40.v l50.v) sL (u1 fun l51 =>
.read True (ld T.a19 (Addr.add a0 6)) sL (u1 fun l52 =>
.bind 1 [.one .slc] (
.loop 2 [.one .slc,.one (.int .i64)] ({ a:=l51.a,len:=l51.len,cap:=l51.cap },(0,())) (u2 fun l53 (n54:Int) =>
.ite (decide (n54<((l52.len:Nat):Int))) (
.bind 3 [.one .slc] (
.ex [.adr] (c1 fun a55=>0≤n54∧n54<((l52.len:Nat):Int)∧l52.a=some a55) (u1 fun a56 =>
.read True (ld T.a3 (Addr.add a56 (Int.toNat n54*4))) (sG [.str,.str,.bool,.int .i64]) (u4 fun s57 s58 b59 (n60:Int) =>
.act (new T.a3) sA (u1 fun a61 =>
.lt (.int .i64) (n54) fun (n62:Int) =>
.actU (st T.a3 a61 (.agg #[.string s57,.string s58,.bool b59,.int .i64 n60])) <|
.bind 4 [.one (.int .i64)] (
.loop 5 [.one (.int .i64)] (0,()) (u1 fun (n63:Int) =>
.tick <|
.read (decide (n62>0)=true) (ld T.a31 (Addr.add a61 0)) sS (u1 fun s64 =>
.read ((decide (n62>0) && decide (n63<((ByteArray.size s64:Nat):Int)))=true) (ld T.a19 (Addr.add a0 6)) sL (u1 fun l65 =>
.ex [.adr] (c1 fun a66=>(decide (n62>0) && decide (n63<((ByteArray.size s64:Nat):Int)))=true→0≤IntKind.wrap .i64 (n62-1)∧IntKind.wrap .i64 (n62-1)<((l65.len:Nat):Int)∧l65.a=some a66) (u1 fun a67 =>
.read ((decide (n62>0) && decide (n63<((ByteArray.size s64:Nat):Int)))=true) (ld T.a31 (Addr.add (Addr.add a67 (Int.toNat (IntKind.wrap .i64 (n62-1))*4)) 0)) sS (u1 fun s68 =>
.read ((decide (n62>0) && decide (n63<((ByteArray.size s64:Nat):Int)) && decide (n63<((ByteArray.size s68:Nat):Int)))=true) (ld T.a31 (Addr.add a61 0)) sS (u1 fun s69 =>
.must ((decide (n62>0) && decide (n63<((ByteArray.size s64:Nat):Int)) && decide (n63<((ByteArray.size s68:Nat):Int)))=true→0≤n63∧n63<((ByteArray.size s69:Nat):Int)) <|
.read ((decide (n62>0) && decide (n63<((ByteArray.size s64:Nat):Int)) && decide (n63<((ByteArray.size s68:Nat):Int)))=true) (ld T.a19 (Addr.add a0 6)) sL (u1 fun l70 =>
.ex [.adr] (c1 fun a71=>(decide (n62>0) && decide (n63<((ByteArray.size s64:Nat):Int)) && decide (n63<((ByteArray.size s68:Nat):Int)))=true→0≤IntKind.wrap .i64 (n62-1)∧IntKind.wrap .i64 (n62-1)<((l70.len:Nat):Int)∧l70.a=some a71) (u1 fun a72 =>
.read ((decide (n62>0) && decide (n63<((ByteArray.size s64:Nat):Int)) && decide (n63<((ByteArray.size s68:Nat):Int)))=true) (ld T.a31 (Addr.add (Addr.add a72 (Int.toNat (IntKind.wrap .i64 (n62-1))*4)) 0)) sS (u1 fun s73 =>
.must ((decide (n62>0) && decide (n63<((ByteArray.size s64:Nat):Int)) && decide (n63<((ByteArray.size s68:Nat):Int)))=true→0≤n63∧n63<((ByteArray.size s73:Nat):Int)) <|
.untick <|
.ite (decide (n62>0) && decide (n63<((ByteArray.size s64:Nat):Int)) && decide (n63<((ByteArray.size s68:Nat):Int)) && bt s69 n63 == bt s73 n63) (
.lt (.int .i64) (IntKind.wrap .i64 (n63+1)) fun (n74:Int) =>
.done 5 [.int .i64 n74]) (
.done 4 [.int .i64 n63]))))))))))) (u1 fun (n75:Int) =>
.read True (ld T.a11 (Addr.add a61 3)) (sI .i64) (u1 fun (n76:Int) =>
.read True (ld T.a11 (Addr.add a0 5)) (sI .i64) (u1 fun (n77:Int) =>
.call F.a101 [.int .i64 (IntKind.wrap .i64 (n76-n77))] sL (u1 fun l78 =>
.act (app T.a26 T.a26 T.a26 l53.v l78.v) sL (u1 fun l79 =>
.read True (ld T.a4 (Addr.add a61 2)) sB (u1 fun b80 =>
.call F.a100 [.bool b80] sL (u1 fun l81 =>
.act (app T.a26 T.a26 T.a26 l79.v l81.v) sL (u1 fun l82 =>
.call F.a103 [.int .u64 (IntKind.wrap .u64 n75)] sL (u1 fun l83 =>
.act (app T.a26 T.a26 T.a26 l82.v l83.v) sL (u1 fun l84 =>
.read True (ld T.a31 (Addr.add a61 0)) sS (u1 fun s85 =>
.must (0≤n75∧n75≤((ByteArray.size s85:Nat):Int)) <|
.call F.a102 [.string (ByteArray.extract s85 (Int.toNat n75) (ByteArray.size s85))] sL (u1 fun l86 =>
.act (app T.a26 T.a26 T.a26 l84.v l86.v) sL (u1 fun l87 =>
.read True (ld T.a4 (Addr.add a61 2)) sB (u1 fun b88 =>
.bind 4 [.one .slc] (
.ite (not b88) (
.read True (ld T.a31 (Addr.add a61 1)) sS (u1 fun s89 =>
.call F.a102 [.string s89] sL (u1 fun l90 =>
.act (app T.a26 T.a26 T.a26 l87.v l90.v) sL (u1 fun l91 =>
.done 4 [l91.v])))) (
.done 4 [l87.v])) (u1 fun l92 =>
.done 3 [l92.v]))))))))))))))))))) (u1 fun l93 =>
.done 2 [l93.v,.int .i64 (IntKind.wrap .i64 (n54+1))])) (
.done 1 [l53.v]))) (u1 fun l94 =>
.done 0 [l94.v,.int .i64 0])))))))))))))))))))))))))))
theorem zf116_calls (b_0 b_1 b_2 b_3 b_4 b_5:Int) (b_6:Sl) {w:World} {R:List Value→World→Prop} (h:(zf116 b_0 b_1 b_2 b_3 b_4 b_5 b_6).wp P (fun _=>True) w fun e vs w'=>e=0∧R vs w'):Ret P F.a107 #[.agg #[.int .i64 b_0,.int .i64 b_1,.int .i64 b_2,.int .i64 b_3,.int .i64 b_4,.int .i64 b_5,.slice b_6.a b_6.len b_6.cap]] w R:=dS (n:=151) (rv:=[.tmp 2,.tmp 3]) { cnd:=[(2216615441727520,[(5,.one .slc)]),(36317027395115810862,[(5,.one .slc)]),(2831659422328624404019639363387798350583369433231,[(5,.one .slc)])],blk:=[(0,[(5,.one .slc)]),(1,[(5,.one .slc)]),(2,[(8,.one (.int .i64))])],reg:=[(9,[(46,.one .bool)])],lps:=[(0,[(5,.one .slc),(72,.one (.int .i64))]),(2,[(8,.one (.int .i64))])] } [.val (.agg #[.int .i64 b_0,.int .i64 b_1,.int .i64 b_2,.int .i64 b_3,.int .i64 b_4,.int .i64 b_5,.slice b_6.a b_6.len b_6.cap])] Go.Proofs.Tryz.func87 (by kernel_rfl) (by kernel_rfl) (by kernel_rfl) (by kernel_rfl) h
def zf113 (body:Sl):Prog :=
.ite (decide (((body.len:Nat):Int)>262144)) (
.done 0 [.slice none 0 0]) (
.call F.a106 [.int .u32 (IntKind.wrap .u32 (((body.len:Nat):Int)))] sL (u1 fun l0 =>
.act (app T.a26 T.a26 T.a26 l0.v body.v) sL (u1 fun l1 =>
.call F.a105 [l1.v] (sI .u32) (u1 fun (n2:Int) =>
.call F.a106 [.int .u32 n2] sL (u1 fun l3 =>
.act (app T.a26 T.a26 T.a26 l1.v l3.v) sL (u1 fun l4 =>
.done 0 [l4.v]))))))
theorem zf113_calls (body:Sl) {w:World} {R:List Value→World→Prop} (h:(zf113 body).wp P (fun _=>True) w fun e vs w'=>e=0∧R vs w'):Ret P F.a104 #[.slice body.a body.len body.cap] w R:=dS (n:=19) (rv:=[.tmp 2]) { cnd:=[],blk:=[],reg:=[],lps:=[] } [.val (.slice body.a body.len body.cap)] Go.Proofs.Tryz.func88 (by kernel_rfl) (by kernel_rfl) (by kernel_rfl) (by kernel_rfl) h
def zf0 (b:Sl):Prog :=
.ite (Option.isNone b.a) (
.done 0 [.slice none 0 0]) (
.act (Instr.buildSlice T.a26 0 #[]) sL (u1 fun l0 =>
.act (app T.a26 T.a26 T.a26 l0.v b.v) sL (u1 fun l1 =>
.done 0 [l1.v])))
theorem zf0_calls (b:Sl) {w:World} {R:List Value→World→Prop} (h:(zf0 b).wp P (fun _=>True) w fun e vs w'=>e=0∧R vs w'):Ret P F.a0 #[.slice b.a b.len b.cap] w R:=dS (n:=8) (rv:=[.tmp 2]) { cnd:=[],blk:=[],reg:=[],lps:=[] } [.val (.slice b.a b.len b.cap)] Go.Proofs.Tryz.func100 (by kernel_rfl) (by kernel_rfl) (by kernel_rfl) (by kernel_rfl) h
def zf112 (n:Int):Prog :=
.ite (decide (n<128)) (
.act (Instr.buildSlice T.a26 1 #[(0,.int .u8 (IntKind.wrap .u8 n))]) sL (u1 fun l0 =>
.done 0 [l0.v])) (
.act (Instr.buildSlice T.a26 1 #[(0,.int .u8 (IntKind.wrap .u8 (IntKind.wrap .u64 (Int.tmod n 128+128))))]) sL (u1 fun l1 =>
.call F.a103 [.int .u64 (IntKind.wrap .u64 (Int.tdiv n 128))] sL (u1 fun l2 =>
.act (app T.a26 T.a26 T.a26 l1.v l2.v) sL (u1 fun l3 =>
.done 0 [l3.v]))))
theorem zf112_calls (n:Int) {w:World} {R:List Value→World→Prop} (h:(zf112 n).wp P (fun _=>True) w fun e vs w'=>e=0∧R vs w'):Ret P F.a103 #[.int .u64 n] w R:=dS (n:=19) (rv:=[.tmp 2]) { cnd:=[],blk:=[],reg:=[],lps:=[] } [.val (.int .u64 n)] Go.Proofs.Tryz.func101 (by kernel_rfl) (by kernel_rfl) (by kernel_rfl) (by kernel_rfl) h
def zf27 (x:Option Addr) (i:Int):Prog :=
.act (new T.a7) sA (u1 fun a0 =>
.ite (decide (i<0)) (
.actU (st T.a7 a0 (.agg #[.int .i64 0,.int .i64 0,.int .i64 0])) <|
.read True (ld T.a7 a0) (sG [.int .i64,.int .i64,.int .i64]) (u3 fun (n1 n2 n3:Int) =>
.done 0 [.agg #[.int .i64 n1,.int .i64 n2,.int .i64 n3],.bool false])) (
.ex [.adr] (c1 fun a4=>x=some a4) (u1 fun a5 =>
.read True (ld T.a20 (Addr.add a5 4)) sL (u1 fun l6 =>
.ex [.adr] (c1 fun a7=>0≤i∧i<((l6.len:Nat):Int)∧l6.a=some a7) (u1 fun a8 =>
.read True (ld T.a7 (Addr.add a8 (Int.toNat i*3))) (sG [.int .i64,.int .i64,.int .i64]) (u3 fun (n9 n10 n11:Int) =>
.actU (st T.a7 a0 (.agg #[.int .i64 n9,.int .i64 n10,.int .i64 n11])) <|
.read True (ld T.a7 a0) (sG [.int .i64,.int .i64,.int .i64]) (u3 fun (n12 n13 n14:Int) =>
.done 0 [.agg #[.int .i64 n12,.int .i64 n13,.int .i64 n14],.bool true])))))))
theorem zf27_calls (x:Option Addr) (i:Int) {w:World} {R:List Value→World→Prop} (h:(zf27 x i).wp P (fun _=>True) w fun e vs w'=>e=0∧R vs w'):Ret P F.a25 #[.pointer x,.int .i64 i] w R:=dS (n:=16) (rv:=[.cell 4 121,.tmp 5]) { cnd:=[],blk:=[],reg:=[],lps:=[] } [.val (.pointer x),.val (.int .i64 i)] Go.Proofs.Tryz.func112 (by kernel_rfl) (by kernel_rfl) (by kernel_rfl) (by kernel_rfl) h
def zf124 (n lo:Int) (hi:Int):Prog :=
.lt (.bool) (decide (n<lo) || decide (n>hi)) fun b0 =>
.done 0 [.bool b0]
theorem zf124_calls (n lo hi:Int) {w:World} {R:List Value→World→Prop} (h:(zf124 n lo hi).wp P (fun _=>True) w fun e vs w'=>e=0∧R vs w'):Ret P F.a115 #[.int .i64 n,.int .i64 lo,.int .i64 hi] w R:=dS (n:=15) (rv:=[.tmp 6]) { cnd:=[],blk:=[],reg:=[],lps:=[] } [.val (.int .i64 n),.val (.int .i64 lo),.val (.int .i64 hi)] Go.Proofs.Tryz.func114 (by kernel_rfl) (by kernel_rfl) (by kernel_rfl) (by kernel_rfl) h
def zf18 (b:Sl):Prog :=
.ite (decide (((b.len:Nat):Int)<8)) (
.done 0 [.slice none 0 0,.int .i64 0,.bool false]) (
.call F.a21 [b.v] (sI .u32) (u1 fun (n0:Int) =>
.lt (.int .u32) (n0) fun (n1:Int) =>
.ite (decide (n1>262144) || decide (IntKind.wrap .i64 n1>IntKind.wrap .i64 (((b.len:Nat):Int)-8))) (
.done 0 [.slice none 0 0,.int .i64 0,.bool false]) (
.lt (.int .i64) (IntKind.wrap .i64 (IntKind.wrap .i64 n1+4)) fun (n2:Int) =>
.bind 1 [.one .bool] (
.tick <|
.must (0≤n2∧n2≤((b.len:Nat):Int)) <|
.must (0≤n2∧n2≤((b.cap:Nat):Int)) <|
.both (
.call F.a21 [.slice (cutA b.a 1 (Int.toNat n2) b.cap) (b.len-Int.toNat n2) (b.cap-Int.toNat n2)] (sI .u32) (u1 fun (n3:Int) =>
.act (Instr.buildSlice T.a23 1 #[(0,.slice b.a (Int.toNat n2) b.cap)]) sL (u1 fun l4 =>
.call F.a19 [l4.v] (sI .u32) (u1 fun (n5:Int) =>
.untick <|
.done 1 [.bool (n3 != n5)])))) (
.act (Instr.buildSlice T.a23 1 #[(0,.slice b.a (Int.toNat n2) b.cap)]) sL (u1 fun l6 =>
.call F.a21 [.slice (cutA b.a 1 (Int.toNat n2) b.cap) (b.len-Int.toNat n2) (b.cap-Int.toNat n2)] (sI .u32) (u1 fun (n7:Int) =>
.call F.a19 [l6.v] (sI .u32) (u1 fun (n8:Int) =>
.untick <|
.done 1 [.bool (n7 != n8)]))))) (u1 fun b9 =>
.ite (b9) (
.done 0 [.slice none 0 0,.int .i64 0,.bool false]) (
.must ((0:Int)≤4∧4≤n2∧n2≤((b.cap:Nat):Int)) <|
.call F.a0 [.slice (cutA b.a 1 4 b.cap) (Int.toNat n2-4) (b.cap-4)] sL (u1 fun l10 =>
.lt (.int .i64) (IntKind.wrap .i64 (n2+4)) fun (n11:Int) =>
.done 0 [l10.v,.int .i64 n11,.bool true]))))))
theorem zf18_calls (b:Sl) {w:World} {R:List Value→World→Prop} (h:(zf18 b).wp P (fun _=>True) w fun e vs w'=>e=0∧R vs w'):Ret P F.a16 #[.slice b.a b.len b.cap] w R:=dS (n:=41) (rv:=[.tmp 2,.tmp 3,.tmp 4]) { cnd:=[],blk:=[],reg:=[(7,[(34,.one .bool)])],lps:=[] } [.val (.slice b.a b.len b.cap)] Go.Proofs.Tryz.func115 (by kernel_rfl) (by kernel_rfl) (by kernel_rfl) (by kernel_rfl) h
def zf40 (raw:Sl):Prog :=
.act (new T.a1) sA (u1 fun a0 =>
.act (new T.a1) sA (u1 fun a1 =>
.actU (st T.a1 a1 (.agg #[.int .i64 0,.int .i64 0,.int .i64 0,.int .i64 0,.int .i64 0,.int .i64 0,.slice none 0 0])) <|
.call F.a127 [raw.v] sP (u1 fun p2 =>
.call F.a128 [.pointer p2] (sI .i64) (u1 fun (n3:Int) =>
.ite (n3 != 1) (
.read True (ld T.a1 a1) (sG [.int .i64,.int .i64,.int .i64,.int .i64,.int .i64,.int .i64,.slc]) (u7 fun (n4 n5 n6 n7 n8 n9:Int) l10 =>
.actU (st T.a1 a0 (.agg #[.int .i64 n4,.int .i64 n5,.int .i64 n6,.int .i64 n7,.int .i64 n8,.int .i64 n9,l10.v])) <|
.read True (ld T.a1 a0) (sG [.int .i64,.int .i64,.int .i64,.int .i64,.int .i64,.int .i64,.slc]) (u7 fun (n11 n12 n13 n14 n15 n16:Int) l17 =>
.done 0 [.agg #[.int .i64 n11,.int .i64 n12,.int .i64 n13,.int .i64 n14,.int .i64 n15,.int .i64 n16,l17.v],.int .i64 6]))) (
.call F.a128 [.pointer p2] (sI .i64) (u1 fun (n18:Int) =>
.call F.a46 [.pointer p2,.int .i64 1099511627776] (sI .i64) (u1 fun (n19:Int) =>
.call F.a46 [.pointer p2,.int .i64 1048576] (sI .i64) (u1 fun (n20:Int) =>
.act (new T.a1) sA (u1 fun a21 =>
.actU (st T.a1 a21 (.agg #[.int .i64 n19,.int .i64 n20,.int .i64 0,.int .i64 0,.int .i64 n18,.int .i64 0,.slice none 0 0])) <|
.read True (ld T.a11 (Addr.add a21 1)) (sI .i64) (u1 fun (n22:Int) =>
.bind 1 [] (
.ite (decide (n22>0)) (
.call F.a46 [.pointer p2,.int .i64 32767] (sI .i64) (u1 fun (n23:Int) =>
.actU (st T.a10 (Addr.add a21 2) (.int .i64 n23)) <|
.read True (ld T.a1 a21) (sG [.int .i64,.int .i64,.int .i64,.int .i64,.int .i64,.int .i64,.slc]) (u7 fun (n24 n25 n26 n27 n28 n29:Int) l30 =>
.call F.a41 [.agg #[.int .i64 n24,.int .i64 n25,.int .i64 n26,.int .i64 n27,.int .i64 n28,.int .i64 n29,l30.v]] sB (u1 fun b31 =>
.bind 2 [] (
.ite (not b31) (
.call F.a46 [.pointer p2,.int .i64 2147483647] (sI .i64) (u1 fun (n32:Int) =>
.actU (st T.a10 (Addr.add a21 3) (.int .i64 n32)) <|
.done 2 [])) (
.done 2 [])) (u0 <|
.done 1 []))))) (
.done 1 [])) (u0 <|
.call F.a46 [.pointer p2,.int .i64 1099511627776] (sI .i64) (u1 fun (n33:Int) =>
.actU (st T.a11 (Addr.add a21 5) (.int .i64 n33)) <|
.call F.a130 [.pointer p2] (sI .i64) (u1 fun (n34:Int) =>
.read ((n34 != 0)=false) (ld T.a11 (Addr.add a21 5)) (sI .i64) (u1 fun (n35:Int) =>
.ite (n34 != 0 || decide (n35>1099511627776)) (
.read True (ld T.a1 a1) (sG [.int .i64,.int .i64,.int .i64,.int .i64,.int .i64,.int .i64,.slc]) (u7 fun (n36 n37 n38 n39 n40 n41:Int) l42 =>
.actU (st T.a1 a0 (.agg #[.int .i64 n36,.int .i64 n37,.int .i64 n38,.int .i64 n39,.int .i64 n40,.int .i64 n41,l42.v])) <|
.read True (ld T.a1 a0) (sG [.int .i64,.int .i64,.int .i64,.int .i64,.int .i64,.int .i64,.slc]) (u7 fun (n43 n44 n45 n46 n47 n48:Int) l49 =>
.done 0 [.agg #[.int .i64 n43,.int .i64 n44,.int .i64 n45,.int .i64 n46,.int .i64 n47,.int .i64 n48,l49.v],.int .i64 6]))) (
.read True (ld T.a1 a21) (sG [.int .i64,.int .i64,.int .i64,.int .i64,.int .i64,.int .i64,.slc]) (u7 fun (n50 n51 n52 n53 n54 n55:Int) l56 =>
.call F.a41 [.agg #[.int .i64 n50,.int .i64 n51,.int .i64 n52,.int .i64 n53,.int .i64 n54,.int .i64 n55,l56.v]] sB (u1 fun b57 =>
.bind 1 [] (
.ite (not b57) (
.call F.a46 [.pointer p2,.int .i64 64] (sI .i64) (u1 fun (n58:Int) =>
.lt (.int .i64) (n58) fun (n59:Int) =>
.ite (decide (n59>64)) (
.read True (ld T.a1 a1) (sG [.int .i64,.int .i64,.int .i64,.int .i64,.int .i64,.int .i64,.slc]) (u7 fun (n60 n61 n62 n63 n64 n65:Int) l66 =>
.actU (st T.a1 a0 (.agg #[.int .i64 n60,.int .i64 n61,.int .i64 n62,.int .i64 n63,.int .i64 n64,.int .i64 n65,l66.v])) <|
.read True (ld T.a1 a0) (sG [.int .i64,.int .i64,.int .i64,.int .i64,.int .i64,.int .i64,.slc]) (u7 fun (n67 n68 n69 n70 n71 n72:Int) l73 =>
.done 0 [.agg #[.int .i64 n67,.int .i64 n68,.int .i64 n69,.int .i64 n70,.int .i64 n71,.int .i64 n72,l73.v],.int .i64 6]))) (
.bind 2 [] (
.loop 3 [.one .str,.one (.int .i64)] ((ByteArray.mk #[]),(0,())) (u2 fun s74 (n75:Int) =>
.ite (decide (n75<n59)) (
.read True (ld T.a11 (Addr.add a21 5)) (sI .i64) (u1 fun (n76:Int) =>
.call F.a44 [.pointer p2,.int .i64 n76,.string s74] (.tup [.agg [.str,.str,.bool,.int .i64],.one .bool]) (u5 fun s77 s78 b79 (n80:Int) b81 =>
.act (new T.a3) sA (u1 fun a82 =>
.actU (st T.a3 a82 (.agg #[.string s77,.string s78,.bool b79,.int .i64 n80])) <|
.lt (.bool) (b81) fun b83 =>
.ite (not b83) (
.read True (ld T.a1 a1) (sG [.int .i64,.int .i64,.int .i64,.int .i64,.int .i64,.int .i64,.slc]) (u7 fun (n84 n85 n86 n87 n88 n89:Int) l90 =>
.actU (st T.a1 a0 (.agg #[.int .i64 n84,.int .i64 n85,.int .i64 n86,.int .i64 n87,.int .i64 n88,.int .i64 n89,l90.v])) <|
.read True (ld T.a1 a0) (sG [.int .i64,.int .i64,.int .i64,.int .i64,.int .i64,.int .i64,.slc]) (u7 fun (n91 n92 n93 n94 n95 n96:Int) l97 =>
.done 0 [.agg #[.int .i64 n91,.int .i64 n92,.int .i64 n93,.int .i64 n94,.int .i64 n95,.int .i64 n96,l97.v],.int .i64 6]))) (
.read True (ld T.a19 (Addr.add a21 6)) sL (u1 fun l98 =>
.read True (ld T.a3 a82) (sG [.str,.str,.bool,.int .i64]) (u4 fun s99 s100 b101 (n102:Int) =>
.act (Instr.buildSlice T.a19 1 #[(0,.agg #[.string s99,.string s100,.bool b101,.int .i64 n102])]) sL (u1 fun l103 =>
.act (app T.a19 T.a19 T.a19 l98.v l103.v) sL (u1 fun l104 =>
.actU (st T.a19 (Addr.add a21 6) l104.v) <|
.read True (ld T.a31 (Addr.add a82 0)) sS (u1 fun s105 =>
.lt (.str) (s105) fun s106 =>
.done 3 [.string s106,.int .i64 (IntKind.wrap .i64 (n75+1))])))))))))) (
.done 2 []))) (u0 <|
.done 1 [])))) (
.done 1 [])) (u0 <|
.bind 1 [.one .bool] (
.call F.a129 [.pointer p2] (sI .i64) (u1 fun (n107:Int) =>
.read ((n107 != 0)=false) (ld T.a1 a21) (sG [.int .i64,.int .i64,.int .i64,.int .i64,.int .i64,.int .i64,.slc]) (u7 fun (n108 n109 n110 n111 n112 n113:Int) l114 =>
.ite (n107 != 0) (
.done 1 [.bool true]) (
.call F.a38 [.agg #[.int .i64 n108,.int .i64 n109,.int .i64 n110,.int .i64 n111,.int .i64 n112,.int .i64 n113,l114.v]] (sI .i64) (u1 fun (n115:Int) =>
.done 1 [.bool (n115 != 0)]))))) (u1 fun b116 =>
.ite (b116) (
.read True (ld T.a1 a1) (sG [.int .i64,.int .i64,.int .i64,.int .i64,.int .i64,.int .i64,.slc]) (u7 fun (n117 n118 n119 n120 n121 n122:Int) l123 =>
.actU (st T.a1 a0 (.agg #[.int .i64 n117,.int .i64 n118,.int .i64 n119,.int .i64 n120,.int .i64 n121,.int .i64 n122,l123.v])) <|
.read True (ld T.a1 a0) (sG [.int .i64,.int .i64,.int .i64,.int .i64,.int .i64,.int .i64,.slc]) (u7 fun (n124 n125 n126 n127 n128 n129:Int) l130 =>
.done 0 [.agg #[.int .i64 n124,.int .i64 n125,.int .i64 n126,.int .i64 n127,.int .i64 n128,.int .i64 n129,l130.v],.int .i64 6]))) (
.read True (ld T.a1 a21) (sG [.int .i64,.int .i64,.int .i64,.int .i64,.int .i64,.int .i64,.slc]) (u7 fun (n131 n132 n133 n134 n135 n136:Int) l137 =>
.actU (st T.a1 a0 (.agg #[.int .i64 n131,.int .i64 n132,.int .i64 n133,.int .i64 n134,.int .i64 n135,.int .i64 n136,l137.v])) <|
.read True (ld T.a1 a0) (sG [.int .i64,.int .i64,.int .i64,.int .i64,.int .i64,.int .i64,.slc]) (u7 fun (n138 n139 n140 n141 n142 n143:Int) l144 =>
.done 0 [.agg #[.int .i64 n138,.int .i64 n139,.int .i64 n140,.int .i64 n141,.int .i64 n142,.int .i64 n143,l144.v],.int .i64 0]))))))))))))))))))))))
theorem zf40_calls (raw:Sl) {w:World} {R:List Value→World→Prop} (h:(zf40 raw).wp P (fun _=>True) w fun e vs w'=>e=0∧R vs w'):Ret P F.a33 #[.slice raw.a raw.len raw.cap] w R:=dS (n:=92) (rv:=[.cell 2 38,.tmp 3]) { cnd:=[(985162418487330,[]),(1123700883587100,[]),(19807040591672596250983170100,[])],blk:=[(0,[])],reg:=[(27,[(89,.one .bool)])],lps:=[(0,[(8,.one .str),(59,.one (.int .i64))])] } [.val (.slice raw.a raw.len raw.cap)] Go.Proofs.Tryz.func116 (by kernel_rfl) (by kernel_rfl) (by kernel_rfl) (by kernel_rfl) h
def zf24 (x:Option Addr) (offset:Int):Prog :=
.act (Instr.box T.a15 (.pointer x)) sA (u1 fun a0 =>
.act (Instr.box T.a11 (.int .i64 offset)) sA (u1 fun a1 =>
.act (new T.a7) sA (u1 fun a2 =>
.read True (ld T.a15 a0) sP (u1 fun p3 =>
.ite (Option.isNone p3) (
.actU (st T.a7 a2 (.agg #[.int .i64 0,.int .i64 0,.int .i64 0])) <|
.read True (ld T.a7 a2) (sG [.int .i64,.int .i64,.int .i64]) (u3 fun (n4 n5 n6:Int) =>
.done 0 [.agg #[.int .i64 n4,.int .i64 n5,.int .i64 n6],.bool false])) (
.bind 1 [.one .bool] (
.tick <|
.hold True (ld T.a15 a0) sP (u1 fun p7 =>
.read True (ld T.a15 a0) sP (u1 fun p8 =>
.ex [.adr] (c1 fun a9=>p8=some a9) (u1 fun a10 =>
.read True (ld T.a20 (Addr.add a10 4)) sL (u1 fun l11 =>
.call F.a92 [.int .i64 (((l11.len:Nat):Int)),.func (Fn.func 158) #[] #[.pointer (some a0),.pointer (some a1)]] (sI .i64) (u1 fun (n12:Int) =>
.untick <|
.call F.a25 [.pointer p7,.int .i64 (IntKind.wrap .i64 (n12-1))] (.tup [.agg [.int .i64,.int .i64,.int .i64],.one .bool]) (u4 fun (n13 n14 n15:Int) b16 =>
.actU (st T.a7 a2 (.agg #[.int .i64 n13,.int .i64 n14,.int .i64 n15])) <|
.lt (.bool) (b16) fun b17 =>
.untick <|
.done 1 [.bool b17]))))))) (u1 fun b18 =>
.read True (ld T.a7 a2) (sG [.int .i64,.int .i64,.int .i64]) (u3 fun (n19 n20 n21:Int) =>
.done 0 [.agg #[.int .i64 n19,.int .i64 n20,.int .i64 n21],.bool b18])))))))
theorem zf24_calls (x:Option Addr) (offset:Int) {w:World} {R:List Value→World→Prop} (h:(zf24 x offset).wp P (fun _=>True) w fun e vs w'=>e=0∧R vs w'):Ret P F.a22 #[.pointer x,.int .i64 offset] w R:=dS (n:=21) (rv:=[.cell 4 121,.tmp 5]) { cnd:=[],blk:=[],reg:=[(3,[(5,.one .bool)])],lps:=[] } [.val (.pointer x),.val (.int .i64 offset)] Go.Proofs.Tryz.func117 (by kernel_rfl) (by kernel_rfl) (by kernel_rfl) (by kernel_rfl) h
def zf45 (b_0 b_1 b_2 b_3 b_4 b_5:Int) (b_6:Sl):Prog :=
.act (Instr.box T.a1 (.agg #[.int .i64 b_0,.int .i64 b_1,.int .i64 b_2,.int .i64 b_3,.int .i64 b_4,.int .i64 b_5,b_6.v])) sA (u1 fun a0 =>
.bind 1 [.one .bool] (
.read True (ld T.a1 a0) (sG [.int .i64,.int .i64,.int .i64,.int .i64,.int .i64,.int .i64,.slc]) (u7 fun (n1 n2 n3 n4 n5 n6:Int) l7 =>
.call F.a42 [.agg #[.int .i64 n1,.int .i64 n2,.int .i64 n3,.int .i64 n4,.int .i64 n5,.int .i64 n6,l7.v]] sB (u1 fun b8 =>
.read (not b8=false) (ld T.a1 a0) (sG [.int .i64,.int .i64,.int .i64,.int .i64,.int .i64,.int .i64,.slc]) (u7 fun (n9 n10 n11 n12 n13 n14:Int) l15 =>
.ite (not b8) (
.done 1 [.bool true]) (
.call F.a40 [.agg #[.int .i64 n9,.int .i64 n10,.int .i64 n11,.int .i64 n12,.int .i64 n13,.int .i64 n14,l15.v]] sB (u1 fun b16 =>
.lt (.bool) (not b16) fun b17 =>
.done 1 [.bool b17])))))) (u1 fun b18 =>
.ite (b18) (
.done 0 [.int .i64 2]) (
.read True (ld T.a19 (Addr.add a0 6)) sL (u1 fun l19 =>
.lt (.bool) (decide (((l19.len:Nat):Int)>64)) fun b20 =>
.ite (b20) (
.done 0 [.int .i64 7]) (
.read True (ld T.a19 (Addr.add a0 6)) sL (u1 fun l21 =>
.bind 1 [] (
.loop 2 [.one (.int .i64)] (0,()) (u1 fun (n22:Int) =>
.ite (decide (n22<((l21.len:Nat):Int))) (
.ex [.adr] (c1 fun a23=>0≤n22∧n22<((l21.len:Nat):Int)∧l21.a=some a23) (u1 fun a24 =>
.read True (ld T.a3 (Addr.add a24 (Int.toNat n22*4))) (sG [.str,.str,.bool,.int .i64]) (u4 fun s25 s26 b27 (n28:Int) =>
.act (new T.a3) sA (u1 fun a29 =>
.actU (st T.a3 a29 (.agg #[.string s25,.string s26,.bool b27,.int .i64 n28])) <|
.read True (ld T.a3 a29) (sG [.str,.str,.bool,.int .i64]) (u4 fun s30 s31 b32 (n33:Int) =>
.call F.a45 [.agg #[.string s30,.string s31,.bool b32,.int .i64 n33]] (sI .i64) (u1 fun (n34:Int) =>
.lt (.int .i64) (n34) fun (n35:Int) =>
.ite (n35 != 0) (
.lt (.int .i64) (n35) fun (n36:Int) =>
.done 0 [.int .i64 n36]) (
.done 2 [.int .i64 (IntKind.wrap .i64 (n22+1))]))))))) (
.done 1 []))) (u0 <|
.read True (ld T.a1 a0) (sG [.int .i64,.int .i64,.int .i64,.int .i64,.int .i64,.int .i64,.slc]) (u7 fun (n37 n38 n39 n40 n41 n42:Int) l43 =>
.call F.a37 [.agg #[.int .i64 n37,.int .i64 n38,.int .i64 n39,.int .i64 n40,.int .i64 n41,.int .i64 n42,l43.v]] (sI .i64) (u1 fun (n44:Int) =>
.lt (.int .i64) (IntKind.wrap .i64 (n44-1)) fun (n45:Int) =>
.bind 1 [.one .bool] (
.read True (ld T.a11 (Addr.add a0 0)) (sI .i64) (u1 fun (n46:Int) =>
.read (decide (n46>IntKind.wrap .i64 (1099511627776-n45))=false) (ld T.a11 (Addr.add a0 1)) (sI .i64) (u1 fun (n47:Int) =>
.read (decide (n46>IntKind.wrap .i64 (1099511627776-n45))=false∧decide (n47>0)=true) (ld T.a1 a0) (sG [.int .i64,.int .i64,.int .i64,.int .i64,.int .i64,.int .i64,.slc]) (u7 fun (n48 n49 n50 n51 n52 n53:Int) l54 =>
.ite (decide (n46>IntKind.wrap .i64 (1099511627776-n45))) (
.done 1 [.bool true]) (
.ite (decide (n47>0)) (
.call F.a41 [.agg #[.int .i64 n48,.int .i64 n49,.int .i64 n50,.int .i64 n51,.int .i64 n52,.int .i64 n53,l54.v]] sB (u1 fun b55 =>
.read (not b55=true) (ld T.a10 (Addr.add a0 3)) (sI .i64) (u1 fun (n56:Int) =>
.done 1 [.bool (not b55 && decide (n56>IntKind.wrap .i64 (2147483647-n45)))]))) (
.done 1 [.bool false])))))) (u1 fun b57 =>
.ite (b57) (
.done 0 [.int .i64 24]) (
.done 0 [.int .i64 0])))))))))))
theorem zf45_calls (b_0 b_1 b_2 b_3 b_4 b_5:Int) (b_6:Sl) {w:World} {R:List Value→World→Prop} (h:(zf45 b_0 b_1 b_2 b_3 b_4 b_5 b_6).wp P (fun _=>True) w fun e vs w'=>e=0∧R vs w'):Ret P F.a38 #[.agg #[.int .i64 b_0,.int .i64 b_1,.int .i64 b_2,.int .i64 b_3,.int .i64 b_4,.int .i64 b_5,.slice b_6.a b_6.len b_6.cap]] w R:=dS (n:=59) (rv:=[.tmp 2]) { cnd:=[],blk:=[(1,[])],reg:=[(1,[(7,.one .bool)]),(13,[(58,.one .bool)])],lps:=[(1,[(24,.one (.int .i64))])] } [.val (.agg #[.int .i64 b_0,.int .i64 b_1,.int .i64 b_2,.int .i64 b_3,.int .i64 b_4,.int .i64 b_5,.slice b_6.a b_6.len b_6.cap])] Go.Proofs.Tryz.func118 (by kernel_rfl) (by kernel_rfl) (by kernel_rfl) (by kernel_rfl) h
def zf43 (b_0 b_1 b_2 b_3 b_4 b_5:Int) (b_6:Sl):Prog :=
.act (Instr.box T.a1 (.agg #[.int .i64 b_0,.int .i64 b_1,.int .i64 b_2,.int .i64 b_3,.int .i64 b_4,.int .i64 b_5,b_6.v])) sA (u1 fun a0 =>
.read True (ld T.a1 a0) (sG [.int .i64,.int .i64,.int .i64,.int .i64,.int .i64,.int .i64,.slc]) (u7 fun (n1 n2 n3 n4 n5 n6:Int) l7 =>
.call F.a38 [.agg #[.int .i64 n1,.int .i64 n2,.int .i64 n3,.int .i64 n4,.int .i64 n5,.int .i64 n6,l7.v]] (sI .i64) (u1 fun (n8:Int) =>
.ite (n8 != 0) (
.done 0 [.int .i64 0]) (
.tick <|
.hold True (ld T.a11 (Addr.add a0 0)) (sI .i64) (u1 fun (n9:Int) =>
.read True (ld T.a1 a0) (sG [.int .i64,.int .i64,.int .i64,.int .i64,.int .i64,.int .i64,.slc]) (u7 fun (n10 n11 n12 n13 n14 n15:Int) l16 =>
.call F.a37 [.agg #[.int .i64 n10,.int .i64 n11,.int .i64 n12,.int .i64 n13,.int .i64 n14,.int .i64 n15,l16.v]] (sI .i64) (u1 fun (n17:Int) =>
.lt (.int .i64) (IntKind.wrap .i64 (n9+n17)) fun (n18:Int) =>
.untick <|
.done 0 [.int .i64 n18])))))))
theorem zf43_calls (b_0 b_1 b_2 b_3 b_4 b_5:Int) (b_6:Sl) {w:World} {R:List Value→World→Prop} (h:(zf43 b_0 b_1 b_2 b_3 b_4 b_5 b_6).wp P (fun _=>True) w fun e vs w'=>e=0∧R vs w'):Ret P F.a36 #[.agg #[.int .i64 b_0,.int .i64 b_1,.int .i64 b_2,.int .i64 b_3,.int .i64 b_4,.int .i64 b_5,.slice b_6.a b_6.len b_6.cap]] w R:=dS (n:=11) (rv:=[.tmp 2]) { cnd:=[],blk:=[],reg:=[],lps:=[] } [.val (.agg #[.int .i64 b_0,.int .i64 b_1,.int .i64 b_2,.int .i64 b_3,.int .i64 b_4,.int .i64 b_5,.slice b_6.a b_6.len b_6.cap])] Go.Proofs.Tryz.func119 (by kernel_rfl) (by kernel_rfl) (by kernel_rfl) (by kernel_rfl) h
def zf48 (b_0 b_1 b_2 b_3 b_4 b_5:Int) (b_6:Sl):Prog :=
.act (Instr.box T.a1 (.agg #[.int .i64 b_0,.int .i64 b_1,.int .i64 b_2,.int .i64 b_3,.int .i64 b_4,.int .i64 b_5,b_6.v])) sA (u1 fun a0 =>
.read True (ld T.a10 (Addr.add a0 4)) (sI .i64) (u1 fun (n1:Int) =>
.read ((n1 == 2)=false) (ld T.a10 (Addr.add a0 4)) (sI .i64) (u1 fun (n2:Int) =>
.lt (.bool) (n1 == 2 || n2 == 3) fun b3 =>
.done 0 [.bool b3])))
theorem zf48_calls (b_0 b_1 b_2 b_3 b_4 b_5:Int) (b_6:Sl) {w:World} {R:List Value→World→Prop} (h:(zf48 b_0 b_1 b_2 b_3 b_4 b_5 b_6).wp P (fun _=>True) w fun e vs w'=>e=0∧R vs w'):Ret P F.a41 #[.agg #[.int .i64 b_0,.int .i64 b_1,.int .i64 b_2,.int .i64 b_3,.int .i64 b_4,.int .i64 b_5,.slice b_6.a b_6.len b_6.cap]] w R:=dS (n:=11) (rv:=[.tmp 2]) { cnd:=[],blk:=[],reg:=[],lps:=[] } [.val (.agg #[.int .i64 b_0,.int .i64 b_1,.int .i64 b_2,.int .i64 b_3,.int .i64 b_4,.int .i64 b_5,.slice b_6.a b_6.len b_6.cap])] Go.Proofs.Tryz.func120 (by kernel_rfl) (by kernel_rfl) (by kernel_rfl) (by kernel_rfl) h
def zf39 (b_0 b_1 b_2 b_3 b_4 b_5:Int) (b_6:Sl):Prog :=
.act (Instr.box T.a1 (.agg #[.int .i64 b_0,.int .i64 b_1,.int .i64 b_2,.int .i64 b_3,.int .i64 b_4,.int .i64 b_5,b_6.v])) sA (u1 fun a0 =>
.act (new T.a1) sA (u1 fun a1 =>
.read True (ld T.a19 (Addr.add a0 6)) sL (u1 fun l2 =>
.act (app T.a19 T.a19 T.a19 (.slice none 0 0) l2.v) sL (u1 fun l3 =>
.actU (st T.a19 (Addr.add a0 6) l3.v) <|
.read True (ld T.a1 a0) (sG [.int .i64,.int .i64,.int .i64,.int .i64,.int .i64,.int .i64,.slc]) (u7 fun (n4 n5 n6 n7 n8 n9:Int) l10 =>
.actU (st T.a1 a1 (.agg #[.int .i64 n4,.int .i64 n5,.int .i64 n6,.int .i64 n7,.int .i64 n8,.int .i64 n9,l10.v])) <|
.read True (ld T.a1 a1) (sG [.int .i64,.int .i64,.int .i64,.int .i64,.int .i64,.int .i64,.slc]) (u7 fun (n11 n12 n13 n14 n15 n16:Int) l17 =>
.done 0 [.agg #[.int .i64 n11,.int .i64 n12,.int .i64 n13,.int .i64 n14,.int .i64 n15,.int .i64 n16,l17.v]]))))))
theorem zf39_calls (b_0 b_1 b_2 b_3 b_4 b_5:Int) (b_6:Sl) {w:World} {R:List Value→World→Prop} (h:(zf39 b_0 b_1 b_2 b_3 b_4 b_5 b_6).wp P (fun _=>True) w fun e vs w'=>e=0∧R vs w'):Ret P F.a32 #[.agg #[.int .i64 b_0,.int .i64 b_1,.int .i64 b_2,.int .i64 b_3,.int .i64 b_4,.int .i64 b_5,.slice b_6.a b_6.len b_6.cap]] w R:=dS (n:=8) (rv:=[.cell 2 38]) { cnd:=[],blk:=[],reg:=[],lps:=[] } [.val (.agg #[.int .i64 b_0,.int .i64 b_1,.int .i64 b_2,.int .i64 b_3,.int .i64 b_4,.int .i64 b_5,.slice b_6.a b_6.len b_6.cap])] Go.Proofs.Tryz.func121 (by kernel_rfl) (by kernel_rfl) (by kernel_rfl) (by kernel_rfl) h
def zf50 (b_0 b_1 b_2 b_3 b_4 b_5:Int) (b_6:Sl) (from_:Int) (to_:Int):Prog :=
.act (Instr.box T.a1 (.agg #[.int .i64 b_0,.int .i64 b_1,.int .i64 b_2,.int .i64 b_3,.int .i64 b_4,.int .i64 b_5,b_6.v])) sA (u1 fun a0 =>
.act (new T.a1) sA (u1 fun a1 =>
.read True (ld T.a1 a0) (sG [.int .i64,.int .i64,.int .i64,.int .i64,.int .i64,.int .i64,.slc]) (u7 fun (n2 n3 n4 n5 n6 n7:Int) l8 =>
.act (new T.a1) sA (u1 fun a9 =>
.actU (st T.a1 a9 (.agg #[.int .i64 n2,.int .i64 n3,.int .i64 n4,.int .i64 n5,.int .i64 n6,.int .i64 n7,l8.v])) <|
.read True (ld T.a19 (Addr.add a0 6)) sL (u1 fun l10 =>
.must (0≤from_∧from_≤to_∧to_≤((l10.cap:Nat):Int)) <|
.act (app T.a19 T.a19 T.a19 (.slice none 0 0) (.slice (cutA l10.a 4 (Int.toNat from_) l10.cap) (Int.toNat to_-Int.toNat from_) (l10.cap-Int.toNat from_))) sL (u1 fun l11 =>
.actU (st T.a19 (Addr.add a9 6) l11.v) <|
.read True (ld T.a11 (Addr.add a9 0)) (sI .i64) (u1 fun (n12:Int) =>
.actU (st T.a11 (Addr.add a9 0) (.int .i64 (IntKind.wrap .i64 (n12+from_)))) <|
.read True (ld T.a11 (Addr.add a9 1)) (sI .i64) (u1 fun (n13:Int) =>
.bind 1 [] (
.ite (decide (n13>0)) (
.read True (ld T.a10 (Addr.add a9 3)) (sI .i64) (u1 fun (n14:Int) =>
.actU (st T.a10 (Addr.add a9 3) (.int .i64 (IntKind.wrap .i64 (n14+from_)))) <|
.done 1 [])) (
.done 1 [])) (u0 <|
.read True (ld T.a1 a9) (sG [.int .i64,.int .i64,.int .i64,.int .i64,.int .i64,.int .i64,.slc]) (u7 fun (n15 n16 n17 n18 n19 n20:Int) l21 =>
.actU (st T.a1 a1 (.agg #[.int .i64 n15,.int .i64 n16,.int .i64 n17,.int .i64 n18,.int .i64 n19,.int .i64 n20,l21.v])) <|
.read True (ld T.a1 a1) (sG [.int .i64,.int .i64,.int .i64,.int .i64,.int .i64,.int .i64,.slc]) (u7 fun (n22 n23 n24 n25 n26 n27:Int) l28 =>
.done 0 [.agg #[.int .i64 n22,.int .i64 n23,.int .i64 n24,.int .i64 n25,.int .i64 n26,.int .i64 n27,l28.v]])))))))))))
theorem zf50_calls (b_0 b_1 b_2 b_3 b_4 b_5:Int) (b_6:Sl) (from_ to_:Int) {w:World} {R:List Value→World→Prop} (h:(zf50 b_0 b_1 b_2 b_3 b_4 b_5 b_6 from_ to_).wp P (fun _=>True) w fun e vs w'=>e=0∧R vs w'):Ret P F.a43 #[.agg #[.int .i64 b_0,.int .i64 b_1,.int .i64 b_2,.int .i64 b_3,.int .i64 b_4,.int .i64 b_5,.slice b_6.a b_6.len b_6.cap],.int .i64 from_,.int .i64 to_] w R:=dS (n:=30) (rv:=[.cell 6 38]) { cnd:=[(2130303778839,[])],blk:=[],reg:=[],lps:=[] } [.val (.agg #[.int .i64 b_0,.int .i64 b_1,.int .i64 b_2,.int .i64 b_3,.int .i64 b_4,.int .i64 b_5,.slice b_6.a b_6.len b_6.cap]),.val (.int .i64 from_),.val (.int .i64 to_)] Go.Proofs.Tryz.func122 (by kernel_rfl) (by kernel_rfl) (by kernel_rfl) (by kernel_rfl) h
def zf64 (l:Option Addr) (name:ByteArray) (end_:ByteArray):Prog :=
.ex [.adr] (c1 fun a0=>l=some a0) (u1 fun a1 =>
.read True (ld T.a31 (Addr.add a1 1)) sS (u1 fun s2 =>
.lt (.int .i64) (IntKind.wrap .i64 (((ByteArray.size s2:Nat):Int)+1)) fun (n3:Int) =>
.must ((((ByteArray.size name:Nat):Int) != IntKind.wrap .i64 (IntKind.wrap .i64 (n3+11)+((ByteArray.size end_:Nat):Int)))=false→0≤IntKind.wrap .i64 (n3+11)∧IntKind.wrap .i64 (n3+11)≤((ByteArray.size name:Nat):Int)) <|
.ite (((ByteArray.size name:Nat):Int) != IntKind.wrap .i64 (IntKind.wrap .i64 (n3+11)+((ByteArray.size end_:Nat):Int)) || not (ByteArray.toList (ByteArray.extract name (Int.toNat (IntKind.wrap .i64 (n3+11))) (ByteArray.size name)) == ByteArray.toList end_)) (
.done 0 [.int .i64 0,.bool false]) (
.must (0≤n3∧n3≤IntKind.wrap .i64 (n3+11)∧IntKind.wrap .i64 (n3+11)≤((ByteArray.size name:Nat):Int)) <|
.act (convert T.a31 T.a26 (.string (ByteArray.extract name (Int.toNat n3) (Int.toNat (IntKind.wrap .i64 (n3+11)))))) sL (u1 fun l4 =>
.bind 1 [.one (.int .i64)] (
.loop 2 [.one (.int .i64),.one (.int .i64)] (0,(0,())) (u2 fun (n5 n6:Int) =>
.ite (decide (n6<((l4.len:Nat):Int))) (
.ex [.adr] (c1 fun a7=>0≤n6∧n6<((l4.len:Nat):Int)∧l4.a=some a7) (u1 fun a8 =>
.read True (ld T.a34 (Addr.add a8 (Int.toNat n6*1))) (sI .u8) (u1 fun (n9:Int) =>
.lt (.int .u8) (n9) fun (n10:Int) =>
.lt (.bool) (decide (n10≥48) && decide (n10≤57)) fun b11 =>
.bind 3 [.one (.int .i64)] (
.ite (b11) (
.lt (.int .i64) (IntKind.wrap .i64 (((BitVec.toNat (BitVec.ofInt 64 (IntKind.wrap .i64 (n5*16)) ||| BitVec.ofInt 64 (IntKind.wrap .i64 (IntKind.wrap .u8 (n10-48)))):Nat):Int))) fun (n12:Int) =>
.done 3 [.int .i64 n12]) (
.lt (.bool) (decide (n10≥97) && decide (n10≤102)) fun b13 =>
.ite (b13) (
.lt (.int .i64) (IntKind.wrap .i64 (((BitVec.toNat (BitVec.ofInt 64 (IntKind.wrap .i64 (n5*16)) ||| BitVec.ofInt 64 (IntKind.wrap .i64 (IntKind.wrap .u8 (IntKind.wrap .u8 (n10-97)+10)))):Nat):Int))) fun (n14:Int) =>
.done 3 [.int .i64 n14]) (
.done 0 [.int .i64 0,.bool false]))) (u1 fun (n15:Int) =>
.done 2 [.int .i64 n15,.int .i64 (IntKind.wrap .i64 (n6+1))])))) (
.done 1 [.int .i64 n5]))) (u1 fun (n16:Int) =>
.lt (.int .i64) (n16) fun (n17:Int) =>
.done 0 [.int .i64 n17,.bool true])))))
theorem zf64_calls (l:Option Addr) (name end_:ByteArray) {w:World} {R:List Value→World→Prop} (h:(zf64 l name end_).wp P (fun _=>True) w fun e vs w'=>e=0∧R vs w'):Ret P F.a56 #[.pointer l,.string name,.string end_] w R:=dS (n:=74) (rv:=[.tmp 6,.tmp 7]) { cnd:=[(19342794667089993088630829,[(9,.one (.int .i64))])],blk:=[(0,[(9,.one (.int .i64))])],reg:=[],lps:=[(0,[(9,.one (.int .i64)),(41,.one (.int .i64))])] } [.val (.pointer l),.val (.string name),.val (.string end_)] Go.Proofs.Tryz.func123 (by kernel_rfl) (by kernel_rfl) (by kernel_rfl) (by kernel_rfl) h
def zf78 (body:Sl) (base:Int):Prog :=
.call F.a127 [body.v] sP (u1 fun p0 =>
.call F.a128 [.pointer p0] (sI .i64) (u1 fun (n1:Int) =>
.call F.a134 [.pointer p0] (sI .u64) (u1 fun (n2:Int) =>
.call F.a134 [.pointer p0] (sI .u64) (u1 fun (n3:Int) =>
.lt (.int .i64) (n1) fun (n4:Int) =>
.lt (.int .u64) (n2) fun (n5:Int) =>
.lt (.int .u64) (n3) fun (n6:Int) =>
.call F.a129 [.pointer p0] (sI .i64) (u1 fun (n7:Int) =>
.ite (n7 != 0 || n4 != 83 || n5 != IntKind.wrap .u64 base || decide (base>1099511627776) || decide (n6>1099511627776)) (
.done 0 [.int .i64 0,.bool false]) (
.lt (.int .i64) (IntKind.wrap .i64 n6) fun (n8:Int) =>
.lt (.bool) (n6 == 0 || decide (IntKind.wrap .i64 n6>base)) fun b9 =>
.done 0 [.int .i64 n8,.bool b9]))))))
theorem zf78_calls (body:Sl) (base:Int) {w:World} {R:List Value→World→Prop} (h:(zf78 body base).wp P (fun _=>True) w fun e vs w'=>e=0∧R vs w'):Ret P F.a70 #[.slice body.a body.len body.cap,.int .i64 base] w R:=dS (n:=49) (rv:=[.tmp 4,.tmp 5]) { cnd:=[],blk:=[],reg:=[],lps:=[] } [.val (.slice body.a body.len body.cap),.val (.int .i64 base)] Go.Proofs.Tryz.func125 (by kernel_rfl) (by kernel_rfl) (by kernel_rfl) (by kernel_rfl) h
def zf41 (b_0 b_1 b_2 b_3 b_4 b_5:Int) (b_6:Sl):Prog :=
.act (Instr.box T.a1 (.agg #[.int .i64 b_0,.int .i64 b_1,.int .i64 b_2,.int .i64 b_3,.int .i64 b_4,.int .i64 b_5,b_6.v])) sA (u1 fun a0 =>
.read True (ld T.a1 a0) (sG [.int .i64,.int .i64,.int .i64,.int .i64,.int .i64,.int .i64,.slc]) (u7 fun (n1 n2 n3 n4 n5 n6:Int) l7 =>
.call F.a38 [.agg #[.int .i64 n1,.int .i64 n2,.int .i64 n3,.int .i64 n4,.int .i64 n5,.int .i64 n6,l7.v]] (sI .i64) (u1 fun (n8:Int) =>
.lt (.int .i64) (n8) fun (n9:Int) =>
.ite (n9 != 0) (
.lt (.int .i64) (n9) fun (n10:Int) =>
.done 0 [.slice none 0 0,.int .i64 n10]) (
.bind 1 [.one .slc] (
.tick <|
.hold True (ld T.a10 (Addr.add a0 4)) (sI .i64) (u1 fun (n11:Int) =>
.hold True (ld T.a11 (Addr.add a0 0)) (sI .i64) (u1 fun (n12:Int) =>
.hold True (ld T.a11 (Addr.add a0 1)) (sI .i64) (u1 fun (n13:Int) =>
.both (
.act (Instr.buildSlice T.a26 2 #[(0,.int .u8 1),(1,.int .u8 (IntKind.wrap .u8 n11))]) sL (u1 fun l14 =>
.call F.a138 [.int .u64 (IntKind.wrap .u64 n12)] sL (u1 fun l15 =>
.call F.a138 [.int .u64 (IntKind.wrap .u64 n13)] sL (u1 fun l16 =>
.untick <|
.act (Instr.buildSlice T.a23 3 #[(0,l14.v),(1,l15.v),(2,l16.v)]) sL (u1 fun l17 =>
.call F.a126 [l17.v] sL (u1 fun l18 =>
.untick <|
.done 1 [l18.v])))))) (
.call F.a138 [.int .u64 (IntKind.wrap .u64 n12)] sL (u1 fun l19 =>
.both (
.act (Instr.buildSlice T.a26 2 #[(0,.int .u8 1),(1,.int .u8 (IntKind.wrap .u8 n11))]) sL (u1 fun l20 =>
.call F.a138 [.int .u64 (IntKind.wrap .u64 n13)] sL (u1 fun l21 =>
.untick <|
.act (Instr.buildSlice T.a23 3 #[(0,l20.v),(1,l19.v),(2,l21.v)]) sL (u1 fun l22 =>
.call F.a126 [l22.v] sL (u1 fun l23 =>
.untick <|
.done 1 [l23.v]))))) (
.call F.a138 [.int .u64 (IntKind.wrap .u64 n13)] sL (u1 fun l24 =>
.act (Instr.buildSlice T.a26 2 #[(0,.int .u8 1),(1,.int .u8 (IntKind.wrap .u8 n11))]) sL (u1 fun l25 =>
.untick <|
.act (Instr.buildSlice T.a23 3 #[(0,l25.v),(1,l19.v),(2,l24.v)]) sL (u1 fun l26 =>
.call F.a126 [l26.v] sL (u1 fun l27 =>
.untick <|
.done 1 [l27.v]))))))))))) (u1 fun l28 =>
.read True (ld T.a11 (Addr.add a0 1)) (sI .i64) (u1 fun (n29:Int) =>
.bind 1 [.one .slc] (
.ite (decide (n29>0)) (
.read True (ld T.a10 (Addr.add a0 2)) (sI .i64) (u1 fun (n30:Int) =>
.call F.a138 [.int .u64 (IntKind.wrap .u64 n30)] sL (u1 fun l31 =>
.act (app T.a26 T.a26 T.a26 l28.v l31.v) sL (u1 fun l32 =>
.read True (ld T.a1 a0) (sG [.int .i64,.int .i64,.int .i64,.int .i64,.int .i64,.int .i64,.slc]) (u7 fun (n33 n34 n35 n36 n37 n38:Int) l39 =>
.call F.a41 [.agg #[.int .i64 n33,.int .i64 n34,.int .i64 n35,.int .i64 n36,.int .i64 n37,.int .i64 n38,l39.v]] sB (u1 fun b40 =>
.bind 2 [.one .slc] (
.ite (not b40) (
.read True (ld T.a10 (Addr.add a0 3)) (sI .i64) (u1 fun (n41:Int) =>
.call F.a138 [.int .u64 (IntKind.wrap .u64 n41)] sL (u1 fun l42 =>
.act (app T.a26 T.a26 T.a26 l32.v l42.v) sL (u1 fun l43 =>
.done 2 [l43.v])))) (
.done 2 [l32.v])) (u1 fun l44 =>
.done 1 [l44.v]))))))) (
.done 1 [l28.v])) (u1 fun l45 =>
.read True (ld T.a11 (Addr.add a0 5)) (sI .i64) (u1 fun (n46:Int) =>
.call F.a138 [.int .u64 (IntKind.wrap .u64 n46)] sL (u1 fun l47 =>
.act (app T.a26 T.a26 T.a26 l45.v l47.v) sL (u1 fun l48 =>
.read True (ld T.a1 a0) (sG [.int .i64,.int .i64,.int .i64,.int .i64,.int .i64,.int .i64,.slc]) (u7 fun (n49 n50 n51 n52 n53 n54:Int) l55 =>
.call F.a41 [.agg #[.int .i64 n49,.int .i64 n50,.int .i64 n51,.int .i64 n52,.int .i64 n53,.int .i64 n54,l55.v]] sB (u1 fun b56 =>
.ite (b56) (
.done 0 [l48.v,.int .i64 0]) (
.read True (ld T.a19 (Addr.add a0 6)) sL (u1 fun l57 =>
.call F.a138 [.int .u64 (IntKind.wrap .u64 (((l57.len:Nat):Int)))] sL (u1 fun l58 =>
.act (app T.a26 T.a26 T.a26 l48.v l58.v) sL (u1 fun l59 =>
.read True (ld T.a19 (Addr.add a0 6)) sL (u1 fun l60 =>
.bind 1 [.one .slc] (
.loop 2 [.one .slc,.one .str,.one (.int .i64)] ({ a:=l59.a,len:=l59.len,cap:=l59.cap },((ByteArray.mk #[]),(0,()))) (u3 fun l61 s62 (n63:Int) =>
.ite (decide (n63<((l60.len:Nat):Int))) (
.ex [.adr] (c1 fun a64=>0≤n63∧n63<((l60.len:Nat):Int)∧l60.a=some a64) (u1 fun a65 =>
.read True (ld T.a3 (Addr.add a65 (Int.toNat n63*4))) (sG [.str,.str,.bool,.int .i64]) (u4 fun s66 s67 b68 (n69:Int) =>
.act (new T.a3) sA (u1 fun a70 =>
.actU (st T.a3 a70 (.agg #[.string s66,.string s67,.bool b68,.int .i64 n69])) <|
.read True (ld T.a31 (Addr.add a70 0)) sS (u1 fun s71 =>
.call F.a39 [.string s62,.string s71] (sI .i64) (u1 fun (n72:Int) =>
.lt (.int .i64) (n72) fun (n73:Int) =>
.bind 3 [.one .slc] (
.tick <|
.read True (ld T.a11 (Addr.add a70 3)) (sI .i64) (u1 fun (n74:Int) =>
.read True (ld T.a11 (Addr.add a0 5)) (sI .i64) (u1 fun (n75:Int) =>
.hold True (ld T.a4 (Addr.add a70 2)) sB (u1 fun b76 =>
.hold True (ld T.a31 (Addr.add a70 0)) sS (u1 fun s77 =>
.must (0≤n73∧n73≤((ByteArray.size s77:Nat):Int)) <|
.call F.a125 [.int .i64 (IntKind.wrap .i64 (n74-n75))] sL (u1 fun l78 =>
.call F.a124 [.bool b76] sL (u1 fun l79 =>
.call F.a138 [.int .u64 (IntKind.wrap .u64 n73)] sL (u1 fun l80 =>
.untick <|
.call F.a137 [.string (ByteArray.extract s77 (Int.toNat n73) (ByteArray.size s77))] sL (u1 fun l81 =>
.act (Instr.buildSlice T.a23 4 #[(0,l78.v),(1,l79.v),(2,l80.v),(3,l81.v)]) sL (u1 fun l82 =>
.call F.a126 [l82.v] sL (u1 fun l83 =>
.act (app T.a26 T.a26 T.a26 l61.v l83.v) sL (u1 fun l84 =>
.untick <|
.done 3 [l84.v])))))))))))) (u1 fun l85 =>
.read True (ld T.a4 (Addr.add a70 2)) sB (u1 fun b86 =>
.bind 3 [.one .slc] (
.ite (not b86) (
.read True (ld T.a31 (Addr.add a70 1)) sS (u1 fun s87 =>
.call F.a137 [.string s87] sL (u1 fun l88 =>
.act (app T.a26 T.a26 T.a26 l85.v l88.v) sL (u1 fun l89 =>
.done 3 [l89.v])))) (
.done 3 [l85.v])) (u1 fun l90 =>
.read True (ld T.a31 (Addr.add a70 0)) sS (u1 fun s91 =>
.lt (.str) (s91) fun s92 =>
.done 2 [l90.v,.string s92,.int .i64 (IntKind.wrap .i64 (n63+1))])))))))))) (
.done 1 [l61.v]))) (u1 fun l93 =>
.done 0 [l93.v,.int .i64 0]))))))))))))))))))
theorem zf41_calls (b_0 b_1 b_2 b_3 b_4 b_5:Int) (b_6:Sl) {w:World} {R:List Value→World→Prop} (h:(zf41 b_0 b_1 b_2 b_3 b_4 b_5 b_6).wp P (fun _=>True) w fun e vs w'=>e=0∧R vs w'):Ret P F.a34 #[.agg #[.int .i64 b_0,.int .i64 b_1,.int .i64 b_2,.int .i64 b_3,.int .i64 b_4,.int .i64 b_5,.slice b_6.a b_6.len b_6.cap]] w R:=dS (n:=107) (rv:=[.tmp 2,.tmp 3]) { cnd:=[(567453553048813608,[(5,.one .slc)]),(576443160117510175,[(5,.one .slc)]),(40240300653644914121111346551586913,[(5,.one .slc)])],blk:=[(0,[(5,.one .slc)])],reg:=[(4,[(5,.one .slc)]),(18,[(5,.one .slc)])],lps:=[(0,[(5,.one .slc),(6,.one .str),(66,.one (.int .i64))])] } [.val (.agg #[.int .i64 b_0,.int .i64 b_1,.int .i64 b_2,.int .i64 b_3,.int .i64 b_4,.int .i64 b_5,.slice b_6.a b_6.len b_6.cap])] Go.Proofs.Tryz.func127 (by kernel_rfl) (by kernel_rfl) (by kernel_rfl) (by kernel_rfl) h
def zf20 (parts:Sl):Prog :=
.bind 1 [.one (.int .i64)] (
.loop 2 [.one (.int .i64),.one (.int .i64)] (0,(0,())) (u2 fun (n0 n1:Int) =>
.ite (decide (n1<((parts.len:Nat):Int))) (
.ex [.adr] (c1 fun a2=>0≤n1∧n1<((parts.len:Nat):Int)∧parts.a=some a2) (u1 fun a3 =>
.read True (ld T.a26 (Addr.add a3 (Int.toNat n1*1))) sL (u1 fun l4 =>
.lt (.int .i64) (IntKind.wrap .i64 (n0+((l4.len:Nat):Int))) fun (n5:Int) =>
.ite (decide (n5>262144)) (
.done 0 [.slice none 0 0]) (
.done 2 [.int .i64 n5,.int .i64 (IntKind.wrap .i64 (n1+1))])))) (
.done 1 [.int .i64 n0]))) (u1 fun (n6:Int) =>
.act (Instr.makeSlice T.a26 (.int .i64 0) (.int .i64 (IntKind.wrap .i64 (n6+8)))) sL (u1 fun l7 =>
.call F.a20 [.int .u32 (IntKind.wrap .u32 n6)] sL (u1 fun l8 =>
.act (app T.a26 T.a26 T.a26 l7.v l8.v) sL (u1 fun l9 =>
.bind 1 [.one .slc] (
.loop 2 [.one .slc,.one (.int .i64)] ({ a:=l9.a,len:=l9.len,cap:=l9.cap },(0,())) (u2 fun l10 (n11:Int) =>
.ite (decide (n11<((parts.len:Nat):Int))) (
.ex [.adr] (c1 fun a12=>0≤n11∧n11<((parts.len:Nat):Int)∧parts.a=some a12) (u1 fun a13 =>
.read True (ld T.a26 (Addr.add a13 (Int.toNat n11*1))) sL (u1 fun l14 =>
.act (app T.a26 T.a26 T.a26 l10.v l14.v) sL (u1 fun l15 =>
.done 2 [l15.v,.int .i64 (IntKind.wrap .i64 (n11+1))])))) (
.done 1 [l10.v]))) (u1 fun l16 =>
.act (Instr.buildSlice T.a23 1 #[(0,l16.v)]) sL (u1 fun l17 =>
.call F.a19 [l17.v] (sI .u32) (u1 fun (n18:Int) =>
.call F.a20 [.int .u32 n18] sL (u1 fun l19 =>
.act (app T.a26 T.a26 T.a26 l16.v l19.v) sL (u1 fun l20 =>
.done 0 [l20.v])))))))))
theorem zf20_calls (parts:Sl) {w:World} {R:List Value→World→Prop} (h:(zf20 parts).wp P (fun _=>True) w fun e vs w'=>e=0∧R vs w'):Ret P F.a18 #[.slice parts.a parts.len parts.cap] w R:=dS (n:=46) (rv:=[.tmp 2]) { cnd:=[],blk:=[(0,[(3,.one (.int .i64))]),(2,[(6,.one .slc)])],reg:=[],lps:=[(0,[(3,.one (.int .i64)),(11,.one (.int .i64))]),(2,[(6,.one .slc),(32,.one (.int .i64))])] } [.val (.slice parts.a parts.len parts.cap)] Go.Proofs.Tryz.func128 (by kernel_rfl) (by kernel_rfl) (by kernel_rfl) (by kernel_rfl) h
def zf28 (gap:Int):Prog :=
.ite (decide (gap<1) || decide (gap>4194304)) (
.done 0 [.pointer none,.int .i64 2]) (
.act (Instr.box T.a8 (.agg #[.int .i64 (-1),.int .i64 (-1),.int .i64 (-1),.int .i64 gap,.slice none 0 0])) sA (u1 fun a0 =>
.done 0 [.pointer (some a0),.int .i64 0]))
theorem zf28_calls (gap:Int) {w:World} {R:List Value→World→Prop} (h:(zf28 gap).wp P (fun _=>True) w fun e vs w'=>e=0∧R vs w'):Ret P F.a26 #[.int .i64 gap] w R:=dS (n:=14) (rv:=[.tmp 2,.tmp 3]) { cnd:=[],blk:=[],reg:=[],lps:=[] } [.val (.int .i64 gap)] Go.Proofs.Tryz.func129 (by kernel_rfl) (by kernel_rfl) (by kernel_rfl) (by kernel_rfl) h
def zf147 (n:Int):Prog :=
.bind 1 [.one (.int .u64),.one .slc] (
.loop 2 [.one (.int .u64),.one .slc] (n,(⟨none,0,0⟩,())) (u2 fun (n0:Int) l1 =>
.ite (decide (n0≥128)) (
.act (Instr.buildSlice T.a26 1 #[(0,.int .u8 (IntKind.wrap .u8 (((BitVec.toNat (BitVec.ofInt 8 (IntKind.wrap .u8 n0) ||| BitVec.ofInt 8 128):Nat):Int))))]) sL (u1 fun l2 =>
.act (app T.a26 T.a26 T.a26 l1.v l2.v) sL (u1 fun l3 =>
.lt (.int .u64) (Int.fdiv n0 128) fun (n4:Int) =>
.done 2 [.int .u64 n4,l3.v]))) (
.done 1 [.int .u64 n0,l1.v]))) (u2 fun (n5:Int) l6 =>
.act (Instr.buildSlice T.a26 1 #[(0,.int .u8 (IntKind.wrap .u8 n5))]) sL (u1 fun l7 =>
.act (app T.a26 T.a26 T.a26 l6.v l7.v) sL (u1 fun l8 =>
.done 0 [l8.v])))
theorem zf147_calls (n:Int) {w:World} {R:List Value→World→Prop} (h:(zf147 n).wp P (fun _=>True) w fun e vs w'=>e=0∧R vs w'):Ret P F.a138 #[.int .u64 n] w R:=dS (n:=19) (rv:=[.tmp 2]) { cnd:=[],blk:=[(0,[(0,.one (.int .u64)),(3,.one .slc)])],reg:=[],lps:=[(0,[(0,.one (.int .u64)),(3,.one .slc)])] } [.val (.int .u64 n)] Go.Proofs.Tryz.func130 (by kernel_rfl) (by kernel_rfl) (by kernel_rfl) (by kernel_rfl) h
def zf79 (b_0 b_1 b_2 b_3 b_4 b_5:Int) (b_6:Sl):Prog :=
.act (Instr.box T.a1 (.agg #[.int .i64 b_0,.int .i64 b_1,.int .i64 b_2,.int .i64 b_3,.int .i64 b_4,.int .i64 b_5,b_6.v])) sA (u1 fun a0 =>
.read True (ld T.a19 (Addr.add a0 6)) sL (u1 fun l1 =>
.bind 1 [.one (.int .i64)] (
.loop 2 [.one (.int .i64),.one (.int .i64)] (-1,(0,())) (u2 fun (n2 n3:Int) =>
.ite (decide (n3<((l1.len:Nat):Int))) (
.ex [.adr] (c1 fun a4=>0≤n3∧n3<((l1.len:Nat):Int)∧l1.a=some a4) (u1 fun a5 =>
.read True (ld T.a3 (Addr.add a5 (Int.toNat n3*4))) (sG [.str,.str,.bool,.int .i64]) (u4 fun s6 s7 b8 (n9:Int) =>
.act (new T.a3) sA (u1 fun a10 =>
.actU (st T.a3 a10 (.agg #[.string s6,.string s7,.bool b8,.int .i64 n9])) <|
.read True (ld T.a11 (Addr.add a10 3)) (sI .i64) (u1 fun (n11:Int) =>
.lt (.int .i64) (if n11>n2 then n11 else n2) fun (n12:Int) =>
.done 2 [.int .i64 n12,.int .i64 (IntKind.wrap .i64 (n3+1))]))))) (
.done 1 [.int .i64 n2]))) (u1 fun (n13:Int) =>
.read True (ld T.a19 (Addr.add a0 6)) sL (u1 fun l14 =>
.bind 1 [.one (.int .i64)] (
.ite (((l14.len:Nat):Int) == 0) (
.read True (ld T.a11 (Addr.add a0 5)) (sI .i64) (u1 fun (n15:Int) =>
.lt (.int .i64) (n15) fun (n16:Int) =>
.done 1 [.int .i64 n16])) (
.done 1 [.int .i64 n13])) (u1 fun (n17:Int) =>
.lt (.int .i64) (n17) fun (n18:Int) =>
.done 0 [.int .i64 n18])))))
theorem zf79_calls (b_0 b_1 b_2 b_3 b_4 b_5:Int) (b_6:Sl) {w:World} {R:List Value→World→Prop} (h:(zf79 b_0 b_1 b_2 b_3 b_4 b_5 b_6).wp P (fun _=>True) w fun e vs w'=>e=0∧R vs w'):Ret P F.a71 #[.agg #[.int .i64 b_0,.int .i64 b_1,.int .i64 b_2,.int .i64 b_3,.int .i64 b_4,.int .i64 b_5,.slice b_6.a b_6.len b_6.cap]] w R:=dS (n:=25) (rv:=[.tmp 2]) { cnd:=[(51539640341,[(3,.one (.int .i64))])],blk:=[(0,[(3,.one (.int .i64))])],reg:=[],lps:=[(0,[(3,.one (.int .i64)),(9,.one (.int .i64))])] } [.val (.agg #[.int .i64 b_0,.int .i64 b_1,.int .i64 b_2,.int .i64 b_3,.int .i64 b_4,.int .i64 b_5,.slice b_6.a b_6.len b_6.cap])] Go.Proofs.Tryz.func131 (by kernel_rfl) (by kernel_rfl) (by kernel_rfl) (by kernel_rfl) h
def zf26 (x:Option Addr) (offset place:Int) (time:Int):Prog :=
.lt (.bool) (Option.isNone x) fun b0 =>
.ite (b0) (
.done 0 [.int .i64 1]) (
.call F.a27 [.int .i64 offset,.int .i64 place,.int .i64 time] sB (u1 fun b1 =>
.lt (.bool) (not b1) fun b2 =>
.ite (b2) (
.done 0 [.int .i64 2]) (
.ex [.adr] (c1 fun a3=>x=some a3) (u1 fun a4 =>
.read True (ld T.a11 (Addr.add (Addr.add a4 0) 0)) (sI .i64) (u1 fun (n5:Int) =>
.ex [.adr] (c1 fun a6=>decide (offset≤n5)=false→x=some a6) (u1 fun a7 =>
.read (decide (offset≤n5)=false) (ld T.a10 (Addr.add (Addr.add a7 0) 1)) (sI .i64) (u1 fun (n8:Int) =>
.lt (.bool) (decide (offset≤n5) || decide (place≤n8)) fun b9 =>
.ite (b9) (
.done 0 [.int .i64 21]) (
.ex [.adr] (c1 fun a10=>x=some a10) (u1 fun a11 =>
.read True (ld T.a20 (Addr.add a11 4)) sL (u1 fun l12 =>
.lt (.int .i64) (((l12.len:Nat):Int)) fun (n13:Int) =>
.tick <|
.ex [.adr] (c1 fun a14=>(n13 == 0)=false→x=some a14) (u1 fun a15 =>
.read ((n13 == 0)=false) (ld T.a20 (Addr.add a15 4)) sL (u1 fun l16 =>
.ex [.adr] (c1 fun a17=>(n13 == 0)=false→0≤IntKind.wrap .i64 (n13-1)∧IntKind.wrap .i64 (n13-1)<((l16.len:Nat):Int)∧l16.a=some a17) (u1 fun a18 =>
.read ((n13 == 0)=false) (ld T.a10 (Addr.add (Addr.add a18 (Int.toNat (IntKind.wrap .i64 (n13-1))*3)) 1)) (sI .i64) (u1 fun (n19:Int) =>
.ex [.adr] (c1 fun a20=>(n13 == 0)=false→x=some a20) (u1 fun a21 =>
.read ((n13 == 0)=false) (ld T.a10 (Addr.add a21 3)) (sI .i64) (u1 fun (n22:Int) =>
.untick <|
.bind 1 [] (
.ite (n13 == 0 || decide (IntKind.wrap .i64 (place-n19)≥n22)) (
.bind 2 [.one .slc] (
.tick <|
.ex [.adr] (c1 fun a23=>x=some a23) (u1 fun a24 =>
.hold True (ld T.a20 (Addr.add a24 4)) sL (u1 fun l25 =>
.ex [.adr] (c1 fun a26=>x=some a26) (u1 fun a27 =>
.read True (ld T.a11 (Addr.add (Addr.add a27 0) 2)) (sI .i64) (u1 fun (n28:Int) =>
.act (Instr.buildSlice T.a20 1 #[(0,.agg #[.int .i64 offset,.int .i64 place,.int .i64 n28])]) sL (u1 fun l29 =>
.untick <|
.act (app T.a20 T.a20 T.a20 l25.v l29.v) sL (u1 fun l30 =>
.untick <|
.done 2 [l30.v]))))))) (u1 fun l31 =>
.ex [.adr] (c1 fun a32=>x=some a32) (u1 fun a33 =>
.actU (st T.a20 (Addr.add a33 4) l31.v) <|
.done 1 []))) (
.done 1 [])) (u0 <|
.ex [.adr] (c1 fun a34=>x=some a34) (u1 fun a35 =>
.read True (ld T.a11 (Addr.add (Addr.add a35 0) 2)) (sI .i64) (u1 fun (n36:Int) =>
.ex [.adr] (c1 fun a37=>x=some a37) (u1 fun a38 =>
.actU (st T.a9 (Addr.add a38 0) (.agg #[.int .i64 offset,.int .i64 place,.int .i64 (if time>n36 then time else n36)])) <|
.done 0 [.int .i64 0]))))))))))))))))))))
theorem zf26_calls (x:Option Addr) (offset place time:Int) {w:World} {R:List Value→World→Prop} (h:(zf26 x offset place time).wp P (fun _=>True) w fun e vs w'=>e=0∧R vs w'):Ret P F.a24 #[.pointer x,.int .i64 offset,.int .i64 place,.int .i64 time] w R:=dS (n:=93) (rv:=[.tmp 8]) { cnd:=[(4951741267675589621019836477,[])],blk:=[],reg:=[(9,[(10,.one .slc)])],lps:=[] } [.val (.pointer x),.val (.int .i64 offset),.val (.int .i64 place),.val (.int .i64 time)] Go.Proofs.Tryz.func132 (by kernel_rfl) (by kernel_rfl) (by kernel_rfl) (by kernel_rfl) h
def zf110 (n:Int):Prog :=
.ite (decide (n≥0)) (
.call F.a103 [.int .u64 (IntKind.wrap .u64 (2*IntKind.wrap .u64 n))] sL (u1 fun l0 =>
.done 0 [l0.v])) (
.call F.a103 [.int .u64 (IntKind.wrap .u64 (IntKind.wrap .u64 (2*IntKind.wrap .u64 (IntKind.wrap .i64 (0-IntKind.wrap .i64 (n+1))))+1))] sL (u1 fun l1 =>
.done 0 [l1.v]))
theorem zf110_calls (n:Int) {w:World} {R:List Value→World→Prop} (h:(zf110 n).wp P (fun _=>True) w fun e vs w'=>e=0∧R vs w'):Ret P F.a101 #[.int .i64 n] w R:=dS (n:=16) (rv:=[.tmp 2]) { cnd:=[],blk:=[],reg:=[],lps:=[] } [.val (.int .i64 n)] Go.Proofs.Tryz.func133 (by kernel_rfl) (by kernel_rfl) (by kernel_rfl) (by kernel_rfl) h
def zf109 (on:Bool):Prog :=
.ite (on) (
.act (Instr.buildSlice T.a26 1 #[(0,.int .u8 1)]) sL (u1 fun l0 =>
.done 0 [l0.v])) (
.act (Instr.buildSlice T.a26 1 #[(0,.int .u8 0)]) sL (u1 fun l1 =>
.done 0 [l1.v]))
theorem zf109_calls (on:Bool) {w:World} {R:List Value→World→Prop} (h:(zf109 on).wp P (fun _=>True) w fun e vs w'=>e=0∧R vs w'):Ret P F.a100 #[.bool on] w R:=dS (n:=6) (rv:=[.tmp 2]) { cnd:=[],blk:=[],reg:=[],lps:=[] } [.val (.bool on)] Go.Proofs.Tryz.func134 (by kernel_rfl) (by kernel_rfl) (by kernel_rfl) (by kernel_rfl) h
def zf111 (s:ByteArray):Prog :=
.call F.a103 [.int .u64 (IntKind.wrap .u64 (((ByteArray.size s:Nat):Int)))] sL (u1 fun l0 =>
.act (app T.a26 T.a31 T.a26 l0.v (.string s)) sL (u1 fun l1 =>
.done 0 [l1.v]))
theorem zf111_calls (s:ByteArray) {w:World} {R:List Value→World→Prop} (h:(zf111 s).wp P (fun _=>True) w fun e vs w'=>e=0∧R vs w'):Ret P F.a102 #[.string s] w R:=dS (n:=11) (rv:=[.tmp 2]) { cnd:=[],blk:=[],reg:=[],lps:=[] } [.val (.string s)] Go.Proofs.Tryz.func135 (by kernel_rfl) (by kernel_rfl) (by kernel_rfl) (by kernel_rfl) h
def zf115 (n:Int):Prog :=
.bind 1 [.one .slc] (
.loop 2 [.one (.int .u32),.one .slc,.one (.int .i64)] (n,(⟨none,0,0⟩,(0,()))) (u3 fun (n0:Int) l1 (n2:Int) =>
.ite (decide (n2<4)) (
.act (Instr.buildSlice T.a26 1 #[(0,.int .u8 (IntKind.wrap .u8 (Int.tmod n0 256)))]) sL (u1 fun l3 =>
.act (app T.a26 T.a26 T.a26 l1.v l3.v) sL (u1 fun l4 =>
.lt (.int .u32) (IntKind.wrap .u32 (Int.tdiv n0 256)) fun (n5:Int) =>
.lt (.int .i64) (IntKind.wrap .i64 (n2+1)) fun (n6:Int) =>
.done 2 [.int .u32 n5,l4.v,.int .i64 n6]))) (
.done 1 [l1.v]))) (u1 fun l7 =>
.done 0 [l7.v])
theorem zf115_calls (n:Int) {w:World} {R:List Value→World→Prop} (h:(zf115 n).wp P (fun _=>True) w fun e vs w'=>e=0∧R vs w'):Ret P F.a106 #[.int .u32 n] w R:=dS (n:=18) (rv:=[.tmp 2]) { cnd:=[],blk:=[(0,[(3,.one .slc)])],reg:=[],lps:=[(0,[(0,.one (.int .u32)),(3,.one .slc),(4,.one (.int .i64))])] } [.val (.int .u32 n)] Go.Proofs.Tryz.func136 (by kernel_rfl) (by kernel_rfl) (by kernel_rfl) (by kernel_rfl) h
def zf114 (b:Sl):Prog :=
.act (new T.a0) sA (u1 fun a0 =>
.bind 1 [] (
.loop 2 [.one (.int .i64)] (0,()) (u1 fun (n1:Int) =>
.ite (decide (n1<32)) (
.must (0≤n1∧n1<32) <|
.actU (st T.a4 (Addr.add a0 (Int.toNat n1*1)) (.bool true)) <|
.lt (.int .i64) (IntKind.wrap .i64 (n1+1)) fun (n2:Int) =>
.done 2 [.int .i64 n2]) (
.done 1 []))) (u0 <|
.bind 1 [] (
.loop 2 [.one (.int .i64)] (0,()) (u1 fun (n3:Int) =>
.ite (decide (n3<((b.len:Nat):Int))) (
.bind 3 [] (
.ex [.adr] (c1 fun a4=>0≤n3∧n3<((b.len:Nat):Int)∧b.a=some a4) (u1 fun a5 =>
.read True (ld T.a34 (Addr.add a5 (Int.toNat n3*1))) (sI .u8) (u1 fun (n6:Int) =>
.lt (.int .u8) (n6) fun (n7:Int) =>
.bind 4 [] (
.loop 5 [.one (.int .i64)] (0,()) (u1 fun (n8:Int) =>
.ite (decide (n8<8)) (
.bind 6 [] (
.must ((0:Int)≤0∧(0:Int)<32) <|
.read True (ld T.a4 (Addr.add a0 0)) sB (u1 fun b9 =>
.must (0≤IntKind.wrap .u64 n8) <|
.lt (.bool) (not (b9 == (Int.tmod (Int.fdiv n7 (2 ^ min (Int.toNat (IntKind.wrap .u64 n8)) 8)) (2:Int) == 1))) fun b10 =>
.bind 7 [] (
.loop 8 [.one (.int .i64)] (0,()) (u1 fun (n11:Int) =>
.ite (decide (n11<31)) (
.must (0≤IntKind.wrap .i64 (n11+1)∧IntKind.wrap .i64 (n11+1)<32) <|
.read True (ld T.a4 (Addr.add a0 (Int.toNat (IntKind.wrap .i64 (n11+1))*1))) sB (u1 fun b12 =>
.must (0≤n11∧n11<32) <|
.actU (st T.a4 (Addr.add a0 (Int.toNat n11*1)) (.bool b12)) <|
.lt (.int .i64) (IntKind.wrap .i64 (n11+1)) fun (n13:Int) =>
.done 8 [.int .i64 n13])) (
.done 7 []))) (u0 <|
.must ((0:Int)≤31∧(31:Int)<32) <|
.actU (st T.a4 (Addr.add a0 31) (.bool false)) <|
.bind 7 [] (
.loop 8 [.one (.int .i64)] (0,()) (u1 fun (n14:Int) =>
.ite (decide (n14<32)) (
.must (b10=true→0≤IntKind.wrap .u64 n14) <|
.bind 9 [] (
.ite (b10 && Int.tmod (Int.fdiv 3988292384 (2 ^ min (Int.toNat (IntKind.wrap .u64 n14)) 32)) (2:Int) == 1) (
.must (0≤n14∧n14<32) <|
.read True (ld T.a4 (Addr.add a0 (Int.toNat n14*1))) sB (u1 fun b15 =>
.must (0≤n14∧n14<32) <|
.actU (st T.a4 (Addr.add a0 (Int.toNat n14*1)) (.bool (not b15))) <|
.done 9 [])) (
.done 9 [])) (u0 <|
.lt (.int .i64) (IntKind.wrap .i64 (n14+1)) fun (n16:Int) =>
.done 8 [.int .i64 n16])) (
.done 7 []))) (u0 <|
.done 6 [])))) (u0 <|
.lt (.int .i64) (IntKind.wrap .i64 (n8+1)) fun (n17:Int) =>
.done 5 [.int .i64 n17])) (
.done 4 []))) (u0 <|
.done 3 [])))) (u0 <|
.done 2 [.int .i64 (IntKind.wrap .i64 (n3+1))])) (
.done 1 []))) (u0 <|
.bind 1 [.one (.int .u32)] (
.loop 2 [.one (.int .u32),.one (.int .i64)] (0,(0,())) (u2 fun (n18 n19:Int) =>
.ite (decide (n19<32)) (
.must (0≤n19∧n19<32) <|
.read True (ld T.a4 (Addr.add a0 (Int.toNat n19*1))) sB (u1 fun b20 =>
.bind 3 [.one (.int .u32)] (
.ite (not b20) (
.must (0≤IntKind.wrap .u64 n19) <|
.lt (.int .u32) (IntKind.wrap .u32 (n18+IntKind.wrap .u32 (1*2 ^ min (Int.toNat (IntKind.wrap .u64 n19)) 32))) fun (n21:Int) =>
.done 3 [.int .u32 n21]) (
.done 3 [.int .u32 n18])) (u1 fun (n22:Int) =>
.lt (.int .i64) (IntKind.wrap .i64 (n19+1)) fun (n23:Int) =>
.done 2 [.int .u32 n22,.int .i64 n23]))) (
.done 1 [.int .u32 n18]))) (u1 fun (n24:Int) =>
.lt (.int .u32) (n24) fun (n25:Int) =>
.done 0 [.int .u32 n25]))))
theorem zf114_calls (b:Sl) {w:World} {R:List Value→World→Prop} (h:(zf114 b).wp P (fun _=>True) w fun e vs w'=>e=0∧R vs w'):Ret P F.a105 #[.slice b.a b.len b.cap] w R:=dS (n:=82) (rv:=[.tmp 2]) { cnd:=[(595018176841575296925756,[]),(9594035304461697130476601419,[(11,.one (.int .u32))])],blk:=[(0,[]),(2,[]),(3,[]),(4,[]),(5,[]),(6,[]),(8,[]),(10,[(11,.one (.int .u32))])],reg:=[],lps:=[(0,[(4,.one (.int .i64))]),(2,[(21,.one (.int .i64))]),(4,[(7,.one (.int .i64))]),(6,[(9,.one (.int .i64))]),(8,[(10,.one (.int .i64))]),(10,[(11,.one (.int .u32)),(12,.one (.int .i64))])] } [.val (.slice b.a b.len b.cap)] Go.Proofs.Tryz.func137 (by kernel_rfl) (by kernel_rfl) (by kernel_rfl) (by kernel_rfl) h
def zf23 (b:Sl):Prog :=
.tick <|
.ex [.adr] (c1 fun a0=>(0:Int)≤0∧0<((b.len:Nat):Int)∧b.a=some a0) (u1 fun a1 =>
.read True (ld T.a34 (Addr.add a1 0)) (sI .u8) (u1 fun (n2:Int) =>
.ex [.adr] (c1 fun a3=>(0:Int)≤1∧1<((b.len:Nat):Int)∧b.a=some a3) (u1 fun a4 =>
.read True (ld T.a34 (Addr.add a4 1)) (sI .u8) (u1 fun (n5:Int) =>
.ex [.adr] (c1 fun a6=>(0:Int)≤2∧2<((b.len:Nat):Int)∧b.a=some a6) (u1 fun a7 =>
.read True (ld T.a34 (Addr.add a7 2)) (sI .u8) (u1 fun (n8:Int) =>
.ex [.adr] (c1 fun a9=>(0:Int)≤3∧3<((b.len:Nat):Int)∧b.a=some a9) (u1 fun a10 =>
.read True (ld T.a34 (Addr.add a10 3)) (sI .u8) (u1 fun (n11:Int) =>
.lt (.int .u32) (IntKind.wrap .u32 (((BitVec.toNat (BitVec.ofInt 32 (IntKind.wrap .u32 (((BitVec.toNat (BitVec.ofInt 32 (IntKind.wrap .u32 (((BitVec.toNat (BitVec.ofInt 32 (IntKind.wrap .u32 n2) ||| BitVec.ofInt 32 (IntKind.wrap .u32 (IntKind.wrap .u32 n5*256))):Nat):Int))) ||| BitVec.ofInt 32 (IntKind.wrap .u32 (IntKind.wrap .u32 n8*65536))):Nat):Int))) ||| BitVec.ofInt 32 (IntKind.wrap .u32 (IntKind.wrap .u32 n11*16777216))):Nat):Int))) fun (n12:Int) =>
.untick <|
.done 0 [.int .u32 n12]))))))))
theorem zf23_calls (b:Sl) {w:World} {R:List Value→World→Prop} (h:(zf23 b).wp P (fun _=>True) w fun e vs w'=>e=0∧R vs w'):Ret P F.a21 #[.slice b.a b.len b.cap] w R:=dS (n:=25) (rv:=[.tmp 2]) { cnd:=[],blk:=[],reg:=[],lps:=[] } [.val (.slice b.a b.len b.cap)] Go.Proofs.Tryz.func150 (by kernel_rfl) (by kernel_rfl) (by kernel_rfl) (by kernel_rfl) h
def zf21 (parts:Sl):Prog :=
.call F.a17 [.int .u32 0,parts.v] (sI .u32) (u1 fun (n0:Int) =>
.lt (.int .u32) (n0) fun (n1:Int) =>
.done 0 [.int .u32 n1])
theorem zf21_calls (parts:Sl) {w:World} {R:List Value→World→Prop} (h:(zf21 parts).wp P (fun _=>True) w fun e vs w'=>e=0∧R vs w'):Ret P F.a19 #[.slice parts.a parts.len parts.cap] w R:=dS (n:=5) (rv:=[.tmp 2]) { cnd:=[],blk:=[],reg:=[],lps:=[] } [.val (.slice parts.a parts.len parts.cap)] Go.Proofs.Tryz.func151 (by kernel_rfl) (by kernel_rfl) (by kernel_rfl) (by kernel_rfl) h
def zf136 (b:Sl):Prog :=
.call F.a0 [b.v] sL (u1 fun l0 =>
.act (Instr.box T.a36 (.agg #[l0.v,.int .i64 0,.int .i64 0])) sA (u1 fun a1 =>
.done 0 [.pointer (some a1)]))
theorem zf136_calls (b:Sl) {w:World} {R:List Value→World→Prop} (h:(zf136 b).wp P (fun _=>True) w fun e vs w'=>e=0∧R vs w'):Ret P F.a127 #[.slice b.a b.len b.cap] w R:=dS (n:=8) (rv:=[.tmp 2]) { cnd:=[],blk:=[],reg:=[],lps:=[] } [.val (.slice b.a b.len b.cap)] Go.Proofs.Tryz.func152 (by kernel_rfl) (by kernel_rfl) (by kernel_rfl) (by kernel_rfl) h
def zf137 (r:Option Addr):Prog :=
.call F.a136 [.pointer r] sB (u1 fun b0 =>
.ite (not b0) (
.done 0 [.int .i64 0]) (
.ex [.adr] (c1 fun a1=>r=some a1) (u1 fun a2 =>
.call F.a140 [.pointer (some (Addr.add a2 0))] (sI .i64) (u1 fun (n3:Int) =>
.ite (n3 == 0) (
.ex [.adr] (c1 fun a4=>r=some a4) (u1 fun a5 =>
.call F.a139 [.pointer (some (Addr.add a5 0)),.int .i64 6] (.tup []) (u0 <|
.done 0 [.int .i64 0]))) (
.ex [.adr] (c1 fun a6=>r=some a6) (u1 fun a7 =>
.call F.a141 [.pointer (some (Addr.add a7 0)),.int .i64 1] sL (u1 fun l8 =>
.ex [.adr] (c1 fun a9=>(0:Int)≤0∧0<((l8.len:Nat):Int)∧l8.a=some a9) (u1 fun a10 =>
.read True (ld T.a34 (Addr.add a10 0)) (sI .u8) (u1 fun (n11:Int) =>
.lt (.int .i64) (IntKind.wrap .i64 n11) fun (n12:Int) =>
.done 0 [.int .i64 n12])))))))))
theorem zf137_calls (r:Option Addr) {w:World} {R:List Value→World→Prop} (h:(zf137 r).wp P (fun _=>True) w fun e vs w'=>e=0∧R vs w'):Ret P F.a128 #[.pointer r] w R:=dS (n:=22) (rv:=[.tmp 2]) { cnd:=[],blk:=[],reg:=[],lps:=[] } [.val (.pointer r)] Go.Proofs.Tryz.func153 (by kernel_rfl) (by kernel_rfl) (by kernel_rfl) (by kernel_rfl) h
def zf53 (r:Option Addr) (most:Int):Prog :=
.call F.a134 [.pointer r] (sI .u64) (u1 fun (n0:Int) =>
.lt (.int .u64) (n0) fun (n1:Int) =>
.ite (decide (n1>IntKind.wrap .u64 most)) (
.lt (.int .i64) (IntKind.wrap .i64 (most+1)) fun (n2:Int) =>
.done 0 [.int .i64 n2]) (
.lt (.int .i64) (IntKind.wrap .i64 n1) fun (n3:Int) =>
.done 0 [.int .i64 n3]))
theorem zf53_calls (r:Option Addr) (most:Int) {w:World} {R:List Value→World→Prop} (h:(zf53 r most).wp P (fun _=>True) w fun e vs w'=>e=0∧R vs w'):Ret P F.a46 #[.pointer r,.int .i64 most] w R:=dS (n:=16) (rv:=[.tmp 4]) { cnd:=[],blk:=[],reg:=[],lps:=[] } [.val (.pointer r),.val (.int .i64 most)] Go.Proofs.Tryz.func154 (by kernel_rfl) (by kernel_rfl) (by kernel_rfl) (by kernel_rfl) h
def zf139 (r:Option Addr):Prog :=
.ite (Option.isNone r) (
.done 0 [.int .i64 1]) (
.ex [.adr] (c1 fun a0=>r=some a0) (u1 fun a1 =>
.read True (ld T.a2 (Addr.add (Addr.add a1 0) 2)) (sI .i64) (u1 fun (n2:Int) =>
.lt (.int .i64) (n2) fun (n3:Int) =>
.done 0 [.int .i64 n3])))
theorem zf139_calls (r:Option Addr) {w:World} {R:List Value→World→Prop} (h:(zf139 r).wp P (fun _=>True) w fun e vs w'=>e=0∧R vs w'):Ret P F.a130 #[.pointer r] w R:=dS (n:=10) (rv:=[.tmp 2]) { cnd:=[],blk:=[],reg:=[],lps:=[] } [.val (.pointer r)] Go.Proofs.Tryz.func155 (by kernel_rfl) (by kernel_rfl) (by kernel_rfl) (by kernel_rfl) h
def zf51 (r:Option Addr) (time:Int) (ahead:ByteArray):Prog :=
.act (new T.a3) sA (u1 fun a0 =>
.call F.a135 [.pointer r,.int .i64 (-1099511627776),.int .i64 1099511627776] (sI .i64) (u1 fun (n1:Int) =>
.lt (.int .i64) (n1) fun (n2:Int) =>
.call F.a131 [.pointer r] sB (u1 fun b3 =>
.act (new T.a3) sA (u1 fun a4 =>
.actU (st T.a3 a4 (.agg #[.string (ByteArray.mk #[]),.string (ByteArray.mk #[]),.bool b3,.int .i64 (IntKind.wrap .i64 (time+n2))])) <|
.call F.a46 [.pointer r,.int .i64 1024] (sI .i64) (u1 fun (n5:Int) =>
.lt (.int .i64) (n5) fun (n6:Int) =>
.call F.a133 [.pointer r,.int .i64 1024] sS (u1 fun s7 =>
.lt (.str) (s7) fun s8 =>
.ite (decide (n6>((ByteArray.size ahead:Nat):Int))) (
.read True (ld T.a3 a4) (sG [.str,.str,.bool,.int .i64]) (u4 fun s9 s10 b11 (n12:Int) =>
.actU (st T.a3 a0 (.agg #[.string s9,.string s10,.bool b11,.int .i64 n12])) <|
.read True (ld T.a3 a0) (sG [.str,.str,.bool,.int .i64]) (u4 fun s13 s14 b15 (n16:Int) =>
.done 0 [.agg #[.string s13,.string s14,.bool b15,.int .i64 n16],.bool false]))) (
.must (0≤n6∧n6≤((ByteArray.size ahead:Nat):Int)) <|
.must (((ByteArray.size (ByteArray.extract ahead 0 (Int.toNat n6))+ByteArray.size s8:Nat):Int)≤9223372036854775807) <|
.actU (st T.a31 (Addr.add a4 0) (.string (ByteArray.extract ahead 0 (Int.toNat n6)++s8))) <|
.read True (ld T.a4 (Addr.add a4 2)) sB (u1 fun b17 =>
.bind 1 [] (
.ite (not b17) (
.call F.a133 [.pointer r,.int .i64 1024] sS (u1 fun s18 =>
.actU (st T.a31 (Addr.add a4 1) (.string s18)) <|
.done 1 [])) (
.done 1 [])) (u0 <|
.bind 1 [.one .bool] (
.tick <|
.hold True (ld T.a3 a4) (sG [.str,.str,.bool,.int .i64]) (u4 fun s19 s20 b21 (n22:Int) =>
.call F.a130 [.pointer r] (sI .i64) (u1 fun (n23:Int) =>
.read ((n23 == 0)=true) (ld T.a31 (Addr.add a4 0)) sS (u1 fun s24 =>
.ite (n23 == 0) (
.call F.a39 [.string ahead,.string s24] (sI .i64) (u1 fun (n25:Int) =>
.untick <|
.actU (st T.a3 a0 (.agg #[.string s19,.string s20,.bool b21,.int .i64 n22])) <|
.lt (.bool) (n25 == n6) fun b26 =>
.untick <|
.done 1 [.bool b26])) (
.untick <|
.actU (st T.a3 a0 (.agg #[.string s19,.string s20,.bool b21,.int .i64 n22])) <|
.untick <|
.done 1 [.bool false]))))) (u1 fun b27 =>
.read True (ld T.a3 a0) (sG [.str,.str,.bool,.int .i64]) (u4 fun s28 s29 b30 (n31:Int) =>
.done 0 [.agg #[.string s28,.string s29,.bool b30,.int .i64 n31],.bool b27])))))))))))
theorem zf51_calls (r:Option Addr) (time:Int) (ahead:ByteArray) {w:World} {R:List Value→World→Prop} (h:(zf51 r time ahead).wp P (fun _=>True) w fun e vs w'=>e=0∧R vs w'):Ret P F.a44 #[.pointer r,.int .i64 time,.string ahead] w R:=dS (n:=53) (rv:=[.cell 6 125,.tmp 7]) { cnd:=[(7881299347898405,[])],blk:=[],reg:=[(10,[(7,.one .bool)])],lps:=[] } [.val (.pointer r),.val (.int .i64 time),.val (.string ahead)] Go.Proofs.Tryz.func156 (by kernel_rfl) (by kernel_rfl) (by kernel_rfl) (by kernel_rfl) h
def zf138 (r:Option Addr):Prog :=
.ite (Option.isNone r) (
.done 0 [.int .i64 1]) (
.ex [.adr] (c1 fun a0=>r=some a0) (u1 fun a1 =>
.call F.a140 [.pointer (some (Addr.add a1 0))] (sI .i64) (u1 fun (n2:Int) =>
.bind 1 [] (
.ite (decide (n2>0)) (
.ex [.adr] (c1 fun a3=>r=some a3) (u1 fun a4 =>
.call F.a139 [.pointer (some (Addr.add a4 0)),.int .i64 6] (.tup []) (u0 <|
.done 1 []))) (
.done 1 [])) (u0 <|
.ex [.adr] (c1 fun a5=>r=some a5) (u1 fun a6 =>
.read True (ld T.a2 (Addr.add (Addr.add a6 0) 2)) (sI .i64) (u1 fun (n7:Int) =>
.lt (.int .i64) (n7) fun (n8:Int) =>
.done 0 [.int .i64 n8]))))))
theorem zf138_calls (r:Option Addr) {w:World} {R:List Value→World→Prop} (h:(zf138 r).wp P (fun _=>True) w fun e vs w'=>e=0∧R vs w'):Ret P F.a129 #[.pointer r] w R:=dS (n:=19) (rv:=[.tmp 2]) { cnd:=[(62914569,[])],blk:=[],reg:=[],lps:=[] } [.val (.pointer r)] Go.Proofs.Tryz.func157 (by kernel_rfl) (by kernel_rfl) (by kernel_rfl) (by kernel_rfl) h
def zf25 (i:Int) (fv0:Option Addr) (fv1:Option Addr):Prog :=
.tick <|
.read True (Instr.loadAt T.a15 (.pointer fv0)) sP (u1 fun p0 =>
.ex [.adr] (c1 fun a1=>p0=some a1) (u1 fun a2 =>
.read True (ld T.a20 (Addr.add a2 4)) sL (u1 fun l3 =>
.ex [.adr] (c1 fun a4=>0≤i∧i<((l3.len:Nat):Int)∧l3.a=some a4) (u1 fun a5 =>
.read True (ld T.a11 (Addr.add (Addr.add a5 (Int.toNat i*3)) 0)) (sI .i64) (u1 fun (n6:Int) =>
.read True (Instr.loadAt T.a11 (.pointer fv1)) (sI .i64) (u1 fun (n7:Int) =>
.lt (.bool) (decide (n6>n7)) fun b8 =>
.untick <|
.done 0 [.bool b8]))))))
theorem zf25_calls (i:Int) (fv0 fv1:Option Addr) {w:World} {R:List Value→World→Prop} (h:(zf25 i fv0 fv1).wp P (fun _=>True) w fun e vs w'=>e=0∧R vs w'):Ret P F.a23 #[.int .i64 i,.pointer fv0,.pointer fv1] w R:=dS (n:=15) (rv:=[.tmp 4]) { cnd:=[],blk:=[],reg:=[],lps:=[] } [.val (.int .i64 i),.val (.pointer fv0),.val (.pointer fv1)] Go.Proofs.Tryz.func158 (by kernel_rfl) (by kernel_rfl) (by kernel_rfl) (by kernel_rfl) h
def zf49 (b_0 b_1 b_2 b_3 b_4 b_5:Int) (b_6:Sl):Prog :=
.act (Instr.box T.a1 (.agg #[.int .i64 b_0,.int .i64 b_1,.int .i64 b_2,.int .i64 b_3,.int .i64 b_4,.int .i64 b_5,b_6.v])) sA (u1 fun a0 =>
.bind 1 [.one .bool] (
.read True (ld T.a10 (Addr.add a0 4)) (sI .i64) (u1 fun (n1:Int) =>
.read (decide (n1≥0)=true) (ld T.a10 (Addr.add a0 4)) (sI .i64) (u1 fun (n2:Int) =>
.read ((decide (n1≥0) && decide (n2≤3))=true) (ld T.a11 (Addr.add a0 0)) (sI .i64) (u1 fun (n3:Int) =>
.ite (decide (n1≥0) && decide (n2≤3)) (
.call F.a47 [.int .i64 n3,.int .i64 0,.int .i64 1099511627776] sB (u1 fun b4 =>
.read (b4=true) (ld T.a11 (Addr.add a0 1)) (sI .i64) (u1 fun (n5:Int) =>
.ite (b4) (
.call F.a47 [.int .i64 n5,.int .i64 0,.int .i64 1048576] sB (u1 fun b6 =>
.read (b6=true) (ld T.a10 (Addr.add a0 2)) (sI .i64) (u1 fun (n7:Int) =>
.read ((b6 && decide (n7≥0))=true) (ld T.a10 (Addr.add a0 2)) (sI .i64) (u1 fun (n8:Int) =>
.read ((b6 && decide (n7≥0) && decide (n8≤32767))=true) (ld T.a10 (Addr.add a0 3)) (sI .i64) (u1 fun (n9:Int) =>
.read ((b6 && decide (n7≥0) && decide (n8≤32767) && decide (n9≥0))=true) (ld T.a10 (Addr.add a0 3)) (sI .i64) (u1 fun (n10:Int) =>
.read ((b6 && decide (n7≥0) && decide (n8≤32767) && decide (n9≥0) && decide (n10≤2147483647))=true) (ld T.a11 (Addr.add a0 5)) (sI .i64) (u1 fun (n11:Int) =>
.ite (b6 && decide (n7≥0) && decide (n8≤32767) && decide (n9≥0) && decide (n10≤2147483647)) (
.call F.a47 [.int .i64 n11,.int .i64 0,.int .i64 1099511627776] sB (u1 fun b12 =>
.lt (.bool) (b12) fun b13 =>
.done 1 [.bool b13])) (
.done 1 [.bool false])))))))) (
.done 1 [.bool false])))) (
.done 1 [.bool false]))))) (u1 fun b14 =>
.done 0 [.bool b14]))
theorem zf49_calls (b_0 b_1 b_2 b_3 b_4 b_5:Int) (b_6:Sl) {w:World} {R:List Value→World→Prop} (h:(zf49 b_0 b_1 b_2 b_3 b_4 b_5 b_6).wp P (fun _=>True) w fun e vs w'=>e=0∧R vs w'):Ret P F.a42 #[.agg #[.int .i64 b_0,.int .i64 b_1,.int .i64 b_2,.int .i64 b_3,.int .i64 b_4,.int .i64 b_5,.slice b_6.a b_6.len b_6.cap]] w R:=dS (n:=46) (rv:=[.tmp 2]) { cnd:=[],blk:=[],reg:=[(1,[(2,.one .bool)])],lps:=[] } [.val (.agg #[.int .i64 b_0,.int .i64 b_1,.int .i64 b_2,.int .i64 b_3,.int .i64 b_4,.int .i64 b_5,.slice b_6.a b_6.len b_6.cap])] Go.Proofs.Tryz.func159 (by kernel_rfl) (by kernel_rfl) (by kernel_rfl) (by kernel_rfl) h
def zf47 (b_0 b_1 b_2 b_3 b_4 b_5:Int) (b_6:Sl):Prog :=
.act (Instr.box T.a1 (.agg #[.int .i64 b_0,.int .i64 b_1,.int .i64 b_2,.int .i64 b_3,.int .i64 b_4,.int .i64 b_5,b_6.v])) sA (u1 fun a0 =>
.read True (ld T.a11 (Addr.add a0 1)) (sI .i64) (u1 fun (n1:Int) =>
.read ((n1 == 0)=true) (ld T.a10 (Addr.add a0 4)) (sI .i64) (u1 fun (n2:Int) =>
.read ((n1 == 0)=true∧(n2 != 0)=false) (ld T.a10 (Addr.add a0 2)) (sI .i64) (u1 fun (n3:Int) =>
.read ((n1 == 0)=true∧(n2 != 0 || n3 != 0)=false) (ld T.a10 (Addr.add a0 3)) (sI .i64) (u1 fun (n4:Int) =>
.ite (n1 == 0 && (n2 != 0 || n3 != 0 || n4 != 0)) (
.done 0 [.bool false]) (
.read True (ld T.a1 a0) (sG [.int .i64,.int .i64,.int .i64,.int .i64,.int .i64,.int .i64,.slc]) (u7 fun (n5 n6 n7 n8 n9 n10:Int) l11 =>
.call F.a41 [.agg #[.int .i64 n5,.int .i64 n6,.int .i64 n7,.int .i64 n8,.int .i64 n9,.int .i64 n10,l11.v]] sB (u1 fun b12 =>
.ite (b12) (
.read True (ld T.a10 (Addr.add a0 3)) (sI .i64) (u1 fun (n13:Int) =>
.read ((n13 == 0)=true) (ld T.a19 (Addr.add a0 6)) sL (u1 fun l14 =>
.lt (.bool) (n13 == 0 && ((l14.len:Nat):Int) == 0) fun b15 =>
.done 0 [.bool b15]))) (
.read True (ld T.a19 (Addr.add a0 6)) sL (u1 fun l16 =>
.lt (.bool) (decide (((l16.len:Nat):Int)>0)) fun b17 =>
.done 0 [.bool b17]))))))))))
theorem zf47_calls (b_0 b_1 b_2 b_3 b_4 b_5:Int) (b_6:Sl) {w:World} {R:List Value→World→Prop} (h:(zf47 b_0 b_1 b_2 b_3 b_4 b_5 b_6).wp P (fun _=>True) w fun e vs w'=>e=0∧R vs w'):Ret P F.a40 #[.agg #[.int .i64 b_0,.int .i64 b_1,.int .i64 b_2,.int .i64 b_3,.int .i64 b_4,.int .i64 b_5,.slice b_6.a b_6.len b_6.cap]] w R:=dS (n:=36) (rv:=[.tmp 2]) { cnd:=[],blk:=[],reg:=[],lps:=[] } [.val (.agg #[.int .i64 b_0,.int .i64 b_1,.int .i64 b_2,.int .i64 b_3,.int .i64 b_4,.int .i64 b_5,.slice b_6.a b_6.len b_6.cap])] Go.Proofs.Tryz.func160 (by kernel_rfl) (by kernel_rfl) (by kernel_rfl) (by kernel_rfl) h
def zf52 (r_0 r_1:ByteArray) (r_2:Bool) (r_3:Int):Prog :=
.act (Instr.box T.a3 (.agg #[.string r_0,.string r_1,.bool r_2,.int .i64 r_3])) sA (u1 fun a0 =>
.read True (ld T.a31 (Addr.add a0 0)) sS (u1 fun s1 =>
.read (decide (((ByteArray.size s1:Nat):Int)>1024)=false) (ld T.a31 (Addr.add a0 1)) sS (u1 fun s2 =>
.lt (.bool) (decide (((ByteArray.size s1:Nat):Int)>1024) || decide (((ByteArray.size s2:Nat):Int)>1024)) fun b3 =>
.ite (b3) (
.done 0 [.int .i64 7]) (
.read True (ld T.a11 (Addr.add a0 3)) (sI .i64) (u1 fun (n4:Int) =>
.call F.a47 [.int .i64 n4,.int .i64 0,.int .i64 1099511627776] sB (u1 fun b5 =>
.read (not b5=false) (ld T.a4 (Addr.add a0 2)) sB (u1 fun b6 =>
.read (not b5=false∧b6=true) (ld T.a31 (Addr.add a0 1)) sS (u1 fun s7 =>
.lt (.bool) (not b5 || b6 && not (ByteArray.toList s7 == ByteArray.toList (ByteArray.mk #[]))) fun b8 =>
.ite (b8) (
.done 0 [.int .i64 2]) (
.done 0 [.int .i64 0])))))))))
theorem zf52_calls (r_0 r_1:ByteArray) (r_2:Bool) (r_3:Int) {w:World} {R:List Value→World→Prop} (h:(zf52 r_0 r_1 r_2 r_3).wp P (fun _=>True) w fun e vs w'=>e=0∧R vs w'):Ret P F.a45 #[.agg #[.string r_0,.string r_1,.bool r_2,.int .i64 r_3]] w R:=dS (n:=28) (rv:=[.tmp 2]) { cnd:=[],blk:=[],reg:=[],lps:=[] } [.val (.agg #[.string r_0,.string r_1,.bool r_2,.int .i64 r_3])] Go.Proofs.Tryz.func161 (by kernel_rfl) (by kernel_rfl) (by kernel_rfl) (by kernel_rfl) h
def zf44 (b_0 b_1 b_2 b_3 b_4 b_5:Int) (b_6:Sl):Prog :=
.act (Instr.box T.a1 (.agg #[.int .i64 b_0,.int .i64 b_1,.int .i64 b_2,.int .i64 b_3,.int .i64 b_4,.int .i64 b_5,b_6.v])) sA (u1 fun a0 =>
.read True (ld T.a1 a0) (sG [.int .i64,.int .i64,.int .i64,.int .i64,.int .i64,.int .i64,.slc]) (u7 fun (n1 n2 n3 n4 n5 n6:Int) l7 =>
.call F.a41 [.agg #[.int .i64 n1,.int .i64 n2,.int .i64 n3,.int .i64 n4,.int .i64 n5,.int .i64 n6,l7.v]] sB (u1 fun b8 =>
.ite (b8) (
.done 0 [.int .i64 1]) (
.read True (ld T.a19 (Addr.add a0 6)) sL (u1 fun l9 =>
.lt (.int .i64) (((l9.len:Nat):Int)) fun (n10:Int) =>
.done 0 [.int .i64 n10])))))
theorem zf44_calls (b_0 b_1 b_2 b_3 b_4 b_5:Int) (b_6:Sl) {w:World} {R:List Value→World→Prop} (h:(zf44 b_0 b_1 b_2 b_3 b_4 b_5 b_6).wp P (fun _=>True) w fun e vs w'=>e=0∧R vs w'):Ret P F.a37 #[.agg #[.int .i64 b_0,.int .i64 b_1,.int .i64 b_2,.int .i64 b_3,.int .i64 b_4,.int .i64 b_5,.slice b_6.a b_6.len b_6.cap]] w R:=dS (n:=8) (rv:=[.tmp 2]) { cnd:=[],blk:=[],reg:=[],lps:=[] } [.val (.agg #[.int .i64 b_0,.int .i64 b_1,.int .i64 b_2,.int .i64 b_3,.int .i64 b_4,.int .i64 b_5,.slice b_6.a b_6.len b_6.cap])] Go.Proofs.Tryz.func162 (by kernel_rfl) (by kernel_rfl) (by kernel_rfl) (by kernel_rfl) h
def zf143 (r:Option Addr):Prog :=
.call F.a136 [.pointer r] sB (u1 fun b0 =>
.ite (not b0) (
.done 0 [.int .u64 0]) (
.ex [.adr] (c1 fun a1=>r=some a1) (u1 fun a2 =>
.call F.a142 [.pointer (some (Addr.add a2 0))] (sI .u64) (u1 fun (n3:Int) =>
.lt (.int .u64) (n3) fun (n4:Int) =>
.done 0 [.int .u64 n4]))))
theorem zf143_calls (r:Option Addr) {w:World} {R:List Value→World→Prop} (h:(zf143 r).wp P (fun _=>True) w fun e vs w'=>e=0∧R vs w'):Ret P F.a134 #[.pointer r] w R:=dS (n:=10) (rv:=[.tmp 2]) { cnd:=[],blk:=[],reg:=[],lps:=[] } [.val (.pointer r)] Go.Proofs.Tryz.func163 (by kernel_rfl) (by kernel_rfl) (by kernel_rfl) (by kernel_rfl) h
def zf135 (parts:Sl):Prog :=
.bind 1 [.one (.int .i64)] (
.loop 2 [.one (.int .i64),.one (.int .i64)] (0,(0,())) (u2 fun (n0 n1:Int) =>
.ite (decide (n1<((parts.len:Nat):Int))) (
.ex [.adr] (c1 fun a2=>0≤n1∧n1<((parts.len:Nat):Int)∧parts.a=some a2) (u1 fun a3 =>
.read True (ld T.a26 (Addr.add a3 (Int.toNat n1*1))) sL (u1 fun l4 =>
.lt (.int .i64) (IntKind.wrap .i64 (n0+((l4.len:Nat):Int))) fun (n5:Int) =>
.done 2 [.int .i64 n5,.int .i64 (IntKind.wrap .i64 (n1+1))]))) (
.done 1 [.int .i64 n0]))) (u1 fun (n6:Int) =>
.act (Instr.makeSlice T.a26 (.int .i64 0) (.int .i64 n6)) sL (u1 fun l7 =>
.bind 1 [.one .slc] (
.loop 2 [.one .slc,.one (.int .i64)] ({ a:=l7.a,len:=l7.len,cap:=l7.cap },(0,())) (u2 fun l8 (n9:Int) =>
.ite (decide (n9<((parts.len:Nat):Int))) (
.ex [.adr] (c1 fun a10=>0≤n9∧n9<((parts.len:Nat):Int)∧parts.a=some a10) (u1 fun a11 =>
.read True (ld T.a26 (Addr.add a11 (Int.toNat n9*1))) sL (u1 fun l12 =>
.act (app T.a26 T.a26 T.a26 l8.v l12.v) sL (u1 fun l13 =>
.done 2 [l13.v,.int .i64 (IntKind.wrap .i64 (n9+1))])))) (
.done 1 [l8.v]))) (u1 fun l14 =>
.done 0 [l14.v])))
theorem zf135_calls (parts:Sl) {w:World} {R:List Value→World→Prop} (h:(zf135 parts).wp P (fun _=>True) w fun e vs w'=>e=0∧R vs w'):Ret P F.a126 #[.slice parts.a parts.len parts.cap] w R:=dS (n:=33) (rv:=[.tmp 2]) { cnd:=[],blk:=[(0,[(3,.one (.int .i64))]),(2,[(6,.one .slc)])],reg:=[],lps:=[(0,[(3,.one (.int .i64)),(11,.one (.int .i64))]),(2,[(6,.one .slc),(24,.one (.int .i64))])] } [.val (.slice parts.a parts.len parts.cap)] Go.Proofs.Tryz.func164 (by kernel_rfl) (by kernel_rfl) (by kernel_rfl) (by kernel_rfl) h
def zf46 (a:ByteArray) (b:ByteArray):Prog :=
.lt (.int .i64) (if ((ByteArray.size b:Nat):Int)<((ByteArray.size a:Nat):Int) then ((ByteArray.size b:Nat):Int) else ((ByteArray.size a:Nat):Int)) fun (n0:Int) =>
.bind 1 [] (
.loop 2 [.one (.int .i64)] (0,()) (u1 fun (n1:Int) =>
.ite (decide (n1<n0)) (
.lt (.int .i64) (n1) fun (n2:Int) =>
.tick <|
.must (0≤n2∧n2<((ByteArray.size a:Nat):Int)) <|
.must (0≤n2∧n2<((ByteArray.size b:Nat):Int)) <|
.untick <|
.ite (bt a n2 != bt b n2) (
.lt (.int .i64) (n2) fun (n3:Int) =>
.done 0 [.int .i64 n3]) (
.done 2 [.int .i64 (IntKind.wrap .i64 (n1+1))])) (
.done 1 []))) (u0 <|
.lt (.int .i64) (n0) fun (n4:Int) =>
.done 0 [.int .i64 n4])
theorem zf46_calls (a b:ByteArray) {w:World} {R:List Value→World→Prop} (h:(zf46 a b).wp P (fun _=>True) w fun e vs w'=>e=0∧R vs w'):Ret P F.a39 #[.string a,.string b] w R:=dS (n:=26) (rv:=[.tmp 4]) { cnd:=[],blk:=[(0,[])],reg:=[],lps:=[(0,[(13,.one (.int .i64))])] } [.val (.string a),.val (.string b)] Go.Proofs.Tryz.func165 (by kernel_rfl) (by kernel_rfl) (by kernel_rfl) (by kernel_rfl) h
def zf134 (n:Int):Prog :=
.call F.a138 [.int .u64 (IntKind.wrap .u64 (((BitVec.toNat (BitVec.ofInt 64 (IntKind.wrap .u64 (IntKind.wrap .u64 n*2)) ^^^ BitVec.ofInt 64 (IntKind.wrap .u64 (Int.fdiv n 9223372036854775808))):Nat):Int)))] sL (u1 fun l0 =>
.done 0 [l0.v])
theorem zf134_calls (n:Int) {w:World} {R:List Value→World→Prop} (h:(zf134 n).wp P (fun _=>True) w fun e vs w'=>e=0∧R vs w'):Ret P F.a125 #[.int .i64 n] w R:=dS (n:=11) (rv:=[.tmp 2]) { cnd:=[],blk:=[],reg:=[],lps:=[] } [.val (.int .i64 n)] Go.Proofs.Tryz.func166 (by kernel_rfl) (by kernel_rfl) (by kernel_rfl) (by kernel_rfl) h
def zf133 (on:Bool):Prog :=
.ite (on) (
.act (Instr.buildSlice T.a26 1 #[(0,.int .u8 1)]) sL (u1 fun l0 =>
.done 0 [l0.v])) (
.act (Instr.buildSlice T.a26 1 #[(0,.int .u8 0)]) sL (u1 fun l1 =>
.done 0 [l1.v]))
theorem zf133_calls (on:Bool) {w:World} {R:List Value→World→Prop} (h:(zf133 on).wp P (fun _=>True) w fun e vs w'=>e=0∧R vs w'):Ret P F.a124 #[.bool on] w R:=dS (n:=6) (rv:=[.tmp 2]) { cnd:=[],blk:=[],reg:=[],lps:=[] } [.val (.bool on)] Go.Proofs.Tryz.func167 (by kernel_rfl) (by kernel_rfl) (by kernel_rfl) (by kernel_rfl) h
def zf146 (s:ByteArray):Prog :=
.call F.a138 [.int .u64 (IntKind.wrap .u64 (((ByteArray.size s:Nat):Int)))] sL (u1 fun l0 =>
.act (app T.a26 T.a31 T.a26 l0.v (.string s)) sL (u1 fun l1 =>
.done 0 [l1.v]))
theorem zf146_calls (s:ByteArray) {w:World} {R:List Value→World→Prop} (h:(zf146 s).wp P (fun _=>True) w fun e vs w'=>e=0∧R vs w'):Ret P F.a137 #[.string s] w R:=dS (n:=9) (rv:=[.tmp 2]) { cnd:=[],blk:=[],reg:=[],lps:=[] } [.val (.string s)] Go.Proofs.Tryz.func168 (by kernel_rfl) (by kernel_rfl) (by kernel_rfl) (by kernel_rfl) h
def zf22 (n:Int):Prog :=
.act (Instr.buildSlice T.a26 4 #[(0,.int .u8 (IntKind.wrap .u8 n)),(1,.int .u8 (IntKind.wrap .u8 (Int.fdiv n 256))),(2,.int .u8 (IntKind.wrap .u8 (Int.fdiv n 65536))),(3,.int .u8 (IntKind.wrap .u8 (Int.fdiv n 16777216)))]) sL (u1 fun l0 =>
.done 0 [l0.v])
theorem zf22_calls (n:Int) {w:World} {R:List Value→World→Prop} (h:(zf22 n).wp P (fun _=>True) w fun e vs w'=>e=0∧R vs w'):Ret P F.a20 #[.int .u32 n] w R:=dS (n:=15) (rv:=[.tmp 2]) { cnd:=[],blk:=[],reg:=[],lps:=[] } [.val (.int .u32 n)] Go.Proofs.Tryz.func169 (by kernel_rfl) (by kernel_rfl) (by kernel_rfl) (by kernel_rfl) h
def zf29 (offset place:Int) (time:Int):Prog :=
.lt (.bool) (decide (offset≥0) && decide (offset≤1099511627776) && decide (place≥0) && decide (place≤4194304) && decide (time≥0) && decide (time≤1099511627776)) fun b0 =>
.done 0 [.bool b0]
theorem zf29_calls (offset place time:Int) {w:World} {R:List Value→World→Prop} (h:(zf29 offset place time).wp P (fun _=>True) w fun e vs w'=>e=0∧R vs w'):Ret P F.a27 #[.int .i64 offset,.int .i64 place,.int .i64 time] w R:=dS (n:=29) (rv:=[.tmp 6]) { cnd:=[],blk:=[],reg:=[],lps:=[] } [.val (.int .i64 offset),.val (.int .i64 place),.val (.int .i64 time)] Go.Proofs.Tryz.func170 (by kernel_rfl) (by kernel_rfl) (by kernel_rfl) (by kernel_rfl) h
def zf19 (sum:Int) (parts:Sl):Prog :=
.lt (.int .u32) (IntKind.wrap .u32 (((BitVec.toNat (BitVec.ofInt 32 4294967295 ^^^ BitVec.ofInt 32 sum):Nat):Int))) fun (n0:Int) =>
.bind 1 [.one (.int .u32)] (
.loop 2 [.one (.int .u32),.one (.int .i64)] (n0,(0,())) (u2 fun (n1 n2:Int) =>
.ite (decide (n2<((parts.len:Nat):Int))) (
.bind 3 [.one (.int .u32)] (
.ex [.adr] (c1 fun a3=>0≤n2∧n2<((parts.len:Nat):Int)∧parts.a=some a3) (u1 fun a4 =>
.read True (ld T.a26 (Addr.add a4 (Int.toNat n2*1))) sL (u1 fun l5 =>
.bind 4 [.one (.int .u32)] (
.loop 5 [.one (.int .u32),.one (.int .i64)] (n1,(0,())) (u2 fun (n6 n7:Int) =>
.ite (decide (n7<((l5.len:Nat):Int))) (
.bind 6 [.one (.int .u32)] (
.ex [.adr] (c1 fun a8=>0≤n7∧n7<((l5.len:Nat):Int)∧l5.a=some a8) (u1 fun a9 =>
.read True (ld T.a34 (Addr.add a9 (Int.toNat n7*1))) (sI .u8) (u1 fun (n10:Int) =>
.lt (.int .u8) (n10) fun (n11:Int) =>
.lt (.int .u32) (IntKind.wrap .u32 (((BitVec.toNat (BitVec.ofInt 32 n6 ^^^ BitVec.ofInt 32 (IntKind.wrap .u32 n11)):Nat):Int))) fun (n12:Int) =>
.bind 7 [.one (.int .u32)] (
.loop 8 [.one (.int .u32),.one (.int .i64)] (n12,(0,())) (u2 fun (n13 n14:Int) =>
.ite (decide (n14<8)) (
.lt (.int .u32) (IntKind.wrap .u32 (((BitVec.toNat (BitVec.ofInt 32 (Int.fdiv n13 2) ^^^ BitVec.ofInt 32 (IntKind.wrap .u32 (((BitVec.toNat (BitVec.ofInt 32 3988292384 &&& BitVec.ofInt 32 (IntKind.wrap .u32 (0-IntKind.wrap .u32 (((BitVec.toNat (BitVec.ofInt 32 n13 &&& BitVec.ofInt 32 1):Nat):Int))))):Nat):Int)))):Nat):Int))) fun (n15:Int) =>
.done 8 [.int .u32 n15,.int .i64 (IntKind.wrap .i64 (n14+1))]) (
.done 7 [.int .u32 n13]))) (u1 fun (n16:Int) =>
.done 6 [.int .u32 n16])))) (u1 fun (n17:Int) =>
.done 5 [.int .u32 n17,.int .i64 (IntKind.wrap .i64 (n7+1))])) (
.done 4 [.int .u32 n6]))) (u1 fun (n18:Int) =>
.done 3 [.int .u32 n18])))) (u1 fun (n19:Int) =>
.done 2 [.int .u32 n19,.int .i64 (IntKind.wrap .i64 (n2+1))])) (
.done 1 [.int .u32 n1]))) (u1 fun (n20:Int) =>
.lt (.int .u32) (IntKind.wrap .u32 (((BitVec.toNat (BitVec.ofInt 32 4294967295 ^^^ BitVec.ofInt 32 n20):Nat):Int))) fun (n21:Int) =>
.done 0 [.int .u32 n21])
theorem zf19_calls (sum:Int) (parts:Sl) {w:World} {R:List Value→World→Prop} (h:(zf19 sum parts).wp P (fun _=>True) w fun e vs w'=>e=0∧R vs w'):Ret P F.a17 #[.int .u32 sum,.slice parts.a parts.len parts.cap] w R:=dS (n:=42) (rv:=[.tmp 4]) { cnd:=[],blk:=[(0,[(5,.one (.int .u32))]),(1,[(5,.one (.int .u32))]),(2,[(5,.one (.int .u32))]),(3,[(5,.one (.int .u32))]),(4,[(5,.one (.int .u32))])],reg:=[],lps:=[(0,[(5,.one (.int .u32)),(14,.one (.int .i64))]),(2,[(5,.one (.int .u32)),(20,.one (.int .i64))]),(4,[(5,.one (.int .u32)),(28,.one (.int .i64))])] } [.val (.int .u32 sum),.val (.slice parts.a parts.len parts.cap)] Go.Proofs.Tryz.func188 (by kernel_rfl) (by kernel_rfl) (by kernel_rfl) (by kernel_rfl) h
def zf145 (r:Option Addr):Prog :=
.ex [.adr] (c1 fun a0=>not (Option.isNone r)=true→r=some a0) (u1 fun a1 =>
.read (not (Option.isNone r)=true) (ld T.a2 (Addr.add (Addr.add a1 0) 2)) (sI .i64) (u1 fun (n2:Int) =>
.lt (.bool) (not (Option.isNone r) && n2 == 0) fun b3 =>
.done 0 [.bool b3]))
theorem zf145_calls (r:Option Addr) {w:World} {R:List Value→World→Prop} (h:(zf145 r).wp P (fun _=>True) w fun e vs w'=>e=0∧R vs w'):Ret P F.a136 #[.pointer r] w R:=dS (n:=13) (rv:=[.tmp 2]) { cnd:=[],blk:=[],reg:=[],lps:=[] } [.val (.pointer r)] Go.Proofs.Tryz.func189 (by kernel_rfl) (by kernel_rfl) (by kernel_rfl) (by kernel_rfl) h
def zf149 (p:Option Addr):Prog :=
.tick <|
.ex [.adr] (c1 fun a0=>p=some a0) (u1 fun a1 =>
.read True (ld T.a26 (Addr.add a1 0)) sL (u1 fun l2 =>
.ex [.adr] (c1 fun a3=>p=some a3) (u1 fun a4 =>
.read True (ld T.a10 (Addr.add a4 1)) (sI .i64) (u1 fun (n5:Int) =>
.lt (.int .i64) (IntKind.wrap .i64 (((l2.len:Nat):Int)-n5)) fun (n6:Int) =>
.untick <|
.done 0 [.int .i64 n6]))))
theorem zf149_calls (p:Option Addr) {w:World} {R:List Value→World→Prop} (h:(zf149 p).wp P (fun _=>True) w fun e vs w'=>e=0∧R vs w'):Ret P F.a140 #[.pointer p] w R:=dS (n:=13) (rv:=[.tmp 2]) { cnd:=[],blk:=[],reg:=[],lps:=[] } [.val (.pointer p)] Go.Proofs.Tryz.func190 (by kernel_rfl) (by kernel_rfl) (by kernel_rfl) (by kernel_rfl) h
def zf148 (p:Option Addr) (e_:Int):Prog :=
.ex [.adr] (c1 fun a0=>p=some a0) (u1 fun a1 =>
.read True (ld T.a2 (Addr.add a1 2)) (sI .i64) (u1 fun (n2:Int) =>
.bind 1 [] (
.ite (n2 == 0) (
.ex [.adr] (c1 fun a3=>p=some a3) (u1 fun a4 =>
.actU (st T.a2 (Addr.add a4 2) (.int .i64 e_)) <|
.done 1 [])) (
.done 1 [])) (u0 <|
.done 0 [])))
theorem zf148_calls (p:Option Addr) (e_:Int) {w:World} {R:List Value→World→Prop} (h:(zf148 p e_).wp P (fun _=>True) w fun e vs w'=>e=0∧R vs w'):Ret P F.a139 #[.pointer p,.int .i64 e_] w R:=dS (n:=13) (rv:=[]) { cnd:=[(31457288,[])],blk:=[],reg:=[],lps:=[] } [.val (.pointer p),.val (.int .i64 e_)] Go.Proofs.Tryz.func191 (by kernel_rfl) (by kernel_rfl) (by kernel_rfl) (by kernel_rfl) h
def zf150 (p:Option Addr) (n:Int):Prog :=
.ex [.adr] (c1 fun a0=>p=some a0) (u1 fun a1 =>
.read True (ld T.a10 (Addr.add a1 1)) (sI .i64) (u1 fun (n2:Int) =>
.ex [.adr] (c1 fun a3=>p=some a3) (u1 fun a4 =>
.actU (st T.a10 (Addr.add a4 1) (.int .i64 (IntKind.wrap .i64 (n2+n)))) <|
.tick <|
.ex [.adr] (c1 fun a5=>p=some a5) (u1 fun a6 =>
.read True (ld T.a26 (Addr.add a6 0)) sL (u1 fun l7 =>
.ex [.adr] (c1 fun a8=>p=some a8) (u1 fun a9 =>
.read True (ld T.a10 (Addr.add a9 1)) (sI .i64) (u1 fun (n10:Int) =>
.ex [.adr] (c1 fun a11=>p=some a11) (u1 fun a12 =>
.read True (ld T.a10 (Addr.add a12 1)) (sI .i64) (u1 fun (n13:Int) =>
.must (0≤IntKind.wrap .i64 (n10-n)∧IntKind.wrap .i64 (n10-n)≤n13∧n13≤((l7.cap:Nat):Int)) <|
.untick <|
.done 0 [.slice (cutA l7.a 1 (Int.toNat (IntKind.wrap .i64 (n10-n))) l7.cap) (Int.toNat n13-Int.toNat (IntKind.wrap .i64 (n10-n))) (l7.cap-Int.toNat (IntKind.wrap .i64 (n10-n)))])))))))))
theorem zf150_calls (p:Option Addr) (n:Int) {w:World} {R:List Value→World→Prop} (h:(zf150 p n).wp P (fun _=>True) w fun e vs w'=>e=0∧R vs w'):Ret P F.a141 #[.pointer p,.int .i64 n] w R:=dS (n:=28) (rv:=[.tmp 4]) { cnd:=[],blk:=[],reg:=[],lps:=[] } [.val (.pointer p),.val (.int .i64 n)] Go.Proofs.Tryz.func192 (by kernel_rfl) (by kernel_rfl) (by kernel_rfl) (by kernel_rfl) h
def zf144 (r:Option Addr) (lo:Int) (hi:Int):Prog :=
.call F.a136 [.pointer r] sB (u1 fun b0 =>
.ite (not b0) (
.done 0 [.int .i64 0]) (
.ex [.adr] (c1 fun a1=>r=some a1) (u1 fun a2 =>
.read True (ld T.a10 (Addr.add (Addr.add a2 0) 1)) (sI .i64) (u1 fun (n3:Int) =>
.lt (.int .i64) (n3) fun (n4:Int) =>
.call F.a132 [.pointer r] (sI .i64) (u1 fun (n5:Int) =>
.lt (.int .i64) (n5) fun (n6:Int) =>
.ex [.adr] (c1 fun a7=>r=some a7) (u1 fun a8 =>
.read True (ld T.a2 (Addr.add (Addr.add a8 0) 2)) (sI .i64) (u1 fun (n9:Int) =>
.bind 1 [] (
.ite (n9 == 0 && (decide (n6<lo) || decide (n6>hi))) (
.ex [.adr] (c1 fun a10=>r=some a10) (u1 fun a11 =>
.actU (st T.a10 (Addr.add (Addr.add a11 0) 1) (.int .i64 n4)) <|
.ex [.adr] (c1 fun a12=>r=some a12) (u1 fun a13 =>
.call F.a139 [.pointer (some (Addr.add a13 0)),.int .i64 8] (.tup []) (u0 <|
.done 1 [])))) (
.done 1 [])) (u0 <|
.ex [.adr] (c1 fun a14=>r=some a14) (u1 fun a15 =>
.read True (ld T.a2 (Addr.add (Addr.add a15 0) 2)) (sI .i64) (u1 fun (n16:Int) =>
.ite (n16 != 0) (
.done 0 [.int .i64 0]) (
.lt (.int .i64) (n6) fun (n17:Int) =>
.done 0 [.int .i64 n17])))))))))))
theorem zf144_calls (r:Option Addr) (lo hi:Int) {w:World} {R:List Value→World→Prop} (h:(zf144 r lo hi).wp P (fun _=>True) w fun e vs w'=>e=0∧R vs w'):Ret P F.a135 #[.pointer r,.int .i64 lo,.int .i64 hi] w R:=dS (n:=51) (rv:=[.tmp 6]) { cnd:=[(71916856549572642,[])],blk:=[],reg:=[],lps:=[] } [.val (.pointer r),.val (.int .i64 lo),.val (.int .i64 hi)] Go.Proofs.Tryz.func193 (by kernel_rfl) (by kernel_rfl) (by kernel_rfl) (by kernel_rfl) h
def zf140 (r:Option Addr):Prog :=
.call F.a136 [.pointer r] sB (u1 fun b0 =>
.ite (not b0) (
.done 0 [.bool false]) (
.tick <|
.ex [.adr] (c1 fun a1=>r=some a1) (u1 fun a2 =>
.call F.a140 [.pointer (some (Addr.add a2 0))] (sI .i64) (u1 fun (n3:Int) =>
.ex [.adr] (c1 fun a4=>(n3 == 0)=false→r=some a4) (u1 fun a5 =>
.read ((n3 == 0)=false) (ld T.a26 (Addr.add (Addr.add a5 0) 0)) sL (u1 fun l6 =>
.ex [.adr] (c1 fun a7=>(n3 == 0)=false→r=some a7) (u1 fun a8 =>
.read ((n3 == 0)=false) (ld T.a10 (Addr.add (Addr.add a8 0) 1)) (sI .i64) (u1 fun (n9:Int) =>
.ex [.adr] (c1 fun a10=>(n3 == 0)=false→0≤n9∧n9<((l6.len:Nat):Int)∧l6.a=some a10) (u1 fun a11 =>
.read ((n3 == 0)=false) (ld T.a34 (Addr.add a11 (Int.toNat n9*1))) (sI .u8) (u1 fun (n12:Int) =>
.untick <|
.ite (n3 == 0 || decide (n12>1)) (
.ex [.adr] (c1 fun a13=>r=some a13) (u1 fun a14 =>
.call F.a139 [.pointer (some (Addr.add a14 0)),.int .i64 6] (.tup []) (u0 <|
.done 0 [.bool false]))) (
.ex [.adr] (c1 fun a15=>r=some a15) (u1 fun a16 =>
.call F.a141 [.pointer (some (Addr.add a16 0)),.int .i64 1] sL (u1 fun l17 =>
.ex [.adr] (c1 fun a18=>(0:Int)≤0∧0<((l17.len:Nat):Int)∧l17.a=some a18) (u1 fun a19 =>
.read True (ld T.a34 (Addr.add a19 0)) (sI .u8) (u1 fun (n20:Int) =>
.lt (.bool) (n20 == 1) fun b21 =>
.done 0 [.bool b21])))))))))))))))
theorem zf140_calls (r:Option Addr) {w:World} {R:List Value→World→Prop} (h:(zf140 r).wp P (fun _=>True) w fun e vs w'=>e=0∧R vs w'):Ret P F.a131 #[.pointer r] w R:=dS (n:=37) (rv:=[.tmp 2]) { cnd:=[],blk:=[],reg:=[],lps:=[] } [.val (.pointer r)] Go.Proofs.Tryz.func194 (by kernel_rfl) (by kernel_rfl) (by kernel_rfl) (by kernel_rfl) h
def zf142 (r:Option Addr) (most:Int):Prog :=
.call F.a136 [.pointer r] sB (u1 fun b0 =>
.ite (not b0) (
.done 0 [.string (ByteArray.mk #[])]) (
.ex [.adr] (c1 fun a1=>r=some a1) (u1 fun a2 =>
.read True (ld T.a10 (Addr.add (Addr.add a2 0) 1)) (sI .i64) (u1 fun (n3:Int) =>
.lt (.int .i64) (n3) fun (n4:Int) =>
.ex [.adr] (c1 fun a5=>r=some a5) (u1 fun a6 =>
.call F.a142 [.pointer (some (Addr.add a6 0))] (sI .u64) (u1 fun (n7:Int) =>
.lt (.int .u64) (n7) fun (n8:Int) =>
.ex [.adr] (c1 fun a9=>r=some a9) (u1 fun a10 =>
.read True (ld T.a2 (Addr.add (Addr.add a10 0) 2)) (sI .i64) (u1 fun (n11:Int) =>
.lt (.bool) (n11 != 0) fun b12 =>
.bind 1 [] (
.ite (b12) (
.done 1 []) (
.lt (.bool) (decide (n8>IntKind.wrap .u64 (if 0>most then 0 else most))) fun b13 =>
.bind 2 [] (
.ite (b13) (
.ex [.adr] (c1 fun a14=>r=some a14) (u1 fun a15 =>
.call F.a139 [.pointer (some (Addr.add a15 0)),.int .i64 7] (.tup []) (u0 <|
.done 2 []))) (
.ex [.adr] (c1 fun a16=>r=some a16) (u1 fun a17 =>
.call F.a140 [.pointer (some (Addr.add a17 0))] (sI .i64) (u1 fun (n18:Int) =>
.lt (.bool) (decide (n8>IntKind.wrap .u64 n18)) fun b19 =>
.ite (b19) (
.ex [.adr] (c1 fun a20=>r=some a20) (u1 fun a21 =>
.call F.a139 [.pointer (some (Addr.add a21 0)),.int .i64 6] (.tup []) (u0 <|
.done 2 []))) (
.ex [.adr] (c1 fun a22=>r=some a22) (u1 fun a23 =>
.call F.a141 [.pointer (some (Addr.add a23 0)),.int .i64 (IntKind.wrap .i64 n8)] sL (u1 fun l24 =>
.read True (convert T.a26 T.a31 l24.v) sS (u1 fun s25 =>
.lt (.str) (s25) fun s26 =>
.done 0 [.string s26])))))))) (u0 <|
.done 1 []))) (u0 <|
.ex [.adr] (c1 fun a27=>r=some a27) (u1 fun a28 =>
.actU (st T.a10 (Addr.add (Addr.add a28 0) 1) (.int .i64 n4)) <|
.done 0 [.string (ByteArray.mk #[])]))))))))))
theorem zf142_calls (r:Option Addr) (most:Int) {w:World} {R:List Value→World→Prop} (h:(zf142 r most).wp P (fun _=>True) w fun e vs w'=>e=0∧R vs w'):Ret P F.a133 #[.pointer r,.int .i64 most] w R:=dS (n:=60) (rv:=[.tmp 4]) { cnd:=[(147571701062593216545,[]),(147573917678034812954,[])],blk:=[],reg:=[],lps:=[] } [.val (.pointer r),.val (.int .i64 most)] Go.Proofs.Tryz.func195 (by kernel_rfl) (by kernel_rfl) (by kernel_rfl) (by kernel_rfl) h
def zf54 (n lo:Int) (hi:Int):Prog :=
.lt (.bool) (decide (n≥lo) && decide (n≤hi)) fun b0 =>
.done 0 [.bool b0]
theorem zf54_calls (n lo hi:Int) {w:World} {R:List Value→World→Prop} (h:(zf54 n lo hi).wp P (fun _=>True) w fun e vs w'=>e=0∧R vs w'):Ret P F.a47 #[.int .i64 n,.int .i64 lo,.int .i64 hi] w R:=dS (n:=15) (rv:=[.tmp 6]) { cnd:=[],blk:=[],reg:=[],lps:=[] } [.val (.int .i64 n),.val (.int .i64 lo),.val (.int .i64 hi)] Go.Proofs.Tryz.func196 (by kernel_rfl) (by kernel_rfl) (by kernel_rfl) (by kernel_rfl) h
def zf151 (p:Option Addr):Prog :=
.bind 1 [] (
.loop 2 [.one (.int .u64),.one (.int .i64)] (0,(0,())) (u2 fun (n0 n1:Int) =>
.ite (decide (n1<10)) (
.call F.a140 [.pointer p] (sI .i64) (u1 fun (n2:Int) =>
.ite (decide (n1≥n2)) (
.done 1 []) (
.tick <|
.ex [.adr] (c1 fun a3=>p=some a3) (u1 fun a4 =>
.read True (ld T.a26 (Addr.add a4 0)) sL (u1 fun l5 =>
.ex [.adr] (c1 fun a6=>p=some a6) (u1 fun a7 =>
.read True (ld T.a10 (Addr.add a7 1)) (sI .i64) (u1 fun (n8:Int) =>
.ex [.adr] (c1 fun a9=>0≤IntKind.wrap .i64 (n8+n1)∧IntKind.wrap .i64 (n8+n1)<((l5.len:Nat):Int)∧l5.a=some a9) (u1 fun a10 =>
.read True (ld T.a34 (Addr.add a10 (Int.toNat (IntKind.wrap .i64 (n8+n1))*1))) (sI .u8) (u1 fun (n11:Int) =>
.lt (.int .u8) (n11) fun (n12:Int) =>
.untick <|
.ite (n1 == 9 && decide (n12>1)) (
.done 1 []) (
.must (0≤IntKind.wrap .i64 (7*n1)) <|
.lt (.int .u64) (IntKind.wrap .u64 (((BitVec.toNat (BitVec.ofInt 64 n0 ||| BitVec.ofInt 64 (IntKind.wrap .u64 (IntKind.wrap .u64 (IntKind.wrap .u8 (((BitVec.toNat (BitVec.ofInt 8 n12 &&& BitVec.ofInt 8 127):Nat):Int)))*2 ^ min (Int.toNat (IntKind.wrap .i64 (7*n1))) 64))):Nat):Int))) fun (n13:Int) =>
.ite (decide (n12≥128)) (
.lt (.int .i64) (IntKind.wrap .i64 (n1+1)) fun (n14:Int) =>
.done 2 [.int .u64 n13,.int .i64 n14]) (
.ite (n12 == 0 && decide (n1>0)) (
.done 1 []) (
.ex [.adr] (c1 fun a15=>p=some a15) (u1 fun a16 =>
.read True (ld T.a10 (Addr.add a16 1)) (sI .i64) (u1 fun (n17:Int) =>
.ex [.adr] (c1 fun a18=>p=some a18) (u1 fun a19 =>
.actU (st T.a10 (Addr.add a19 1) (.int .i64 (IntKind.wrap .i64 (n17+IntKind.wrap .i64 (n1+1))))) <|
.lt (.int .u64) (n13) fun (n20:Int) =>
.done 0 [.int .u64 n20]))))))))))))))) (
.done 1 []))) (u0 <|
.call F.a139 [.pointer p,.int .i64 6] (.tup []) (u0 <|
.done 0 [.int .u64 0]))
theorem zf151_calls (p:Option Addr) {w:World} {R:List Value→World→Prop} (h:(zf151 p).wp P (fun _=>True) w fun e vs w'=>e=0∧R vs w'):Ret P F.a142 #[.pointer p] w R:=dS (n:=60) (rv:=[.tmp 2]) { cnd:=[],blk:=[(0,[])],reg:=[],lps:=[(0,[(3,.one (.int .u64)),(4,.one (.int .i64))])] } [.val (.pointer p)] Go.Proofs.Tryz.func197 (by kernel_rfl) (by kernel_rfl) (by kernel_rfl) (by kernel_rfl) h
def zf141 (r:Option Addr):Prog :=
.call F.a134 [.pointer r] (sI .u64) (u1 fun (n0:Int) =>
.lt (.int .u64) (n0) fun (n1:Int) =>
.lt (.int .i64) (IntKind.wrap .i64 (((BitVec.toNat (BitVec.ofInt 64 (IntKind.wrap .i64 (Int.fdiv n1 2)) ^^^ BitVec.ofInt 64 (IntKind.wrap .i64 (0-IntKind.wrap .i64 (IntKind.wrap .u64 (((BitVec.toNat (BitVec.ofInt 64 n1 &&& BitVec.ofInt 64 1):Nat):Int)))))):Nat):Int))) fun (n2:Int) =>
.done 0 [.int .i64 n2])
theorem zf141_calls (r:Option Addr) {w:World} {R:List Value→World→Prop} (h:(zf141 r).wp P (fun _=>True) w fun e vs w'=>e=0∧R vs w'):Ret P F.a132 #[.pointer r] w R:=dS (n:=14) (rv:=[.tmp 2]) { cnd:=[],blk:=[],reg:=[],lps:=[] } [.val (.pointer r)] Go.Proofs.Tryz.func204 (by kernel_rfl) (by kernel_rfl) (by kernel_rfl) (by kernel_rfl) h
instance:One P T.a11:=⟨by kernel_rfl,by kernel_rfl⟩
instance:One P T.a10:=⟨by kernel_rfl,by kernel_rfl⟩
instance:One P T.a4:=⟨by kernel_rfl,by kernel_rfl⟩
instance:One P T.a34:=⟨by kernel_rfl,by kernel_rfl⟩
instance:One P T.a31:=⟨by kernel_rfl,by kernel_rfl⟩
instance:One P T.a18:=⟨by kernel_rfl,by kernel_rfl⟩
instance:Agg P T.a27 2:=⟨by kernel_rfl,by kernel_rfl⟩
instance:One P T.a13:=⟨by kernel_rfl,by kernel_rfl⟩
instance:One P T.a2:=⟨by kernel_rfl,by kernel_rfl⟩
instance:One P T.a16:=⟨by kernel_rfl,by kernel_rfl⟩
instance:One P T.a19:=⟨by kernel_rfl,by kernel_rfl⟩
instance:Agg P T.a1 7:=⟨by kernel_rfl,by kernel_rfl⟩
instance:One P T.a25:=⟨by kernel_rfl,by kernel_rfl⟩
instance:Agg P T.a32 3:=⟨by kernel_rfl,by kernel_rfl⟩
instance:One P T.a26:=⟨by kernel_rfl,by kernel_rfl⟩
instance:One P T.a24:=⟨by kernel_rfl,by kernel_rfl⟩
instance:Agg P T.a33 3:=⟨by kernel_rfl,by kernel_rfl⟩
instance:One P T.a21:=⟨by kernel_rfl,by kernel_rfl⟩
instance:One P T.a12:=⟨by kernel_rfl,by kernel_rfl⟩
instance:Agg P T.a5 5:=⟨by kernel_rfl,by kernel_rfl⟩
instance:One P T.a22:=⟨by kernel_rfl,by kernel_rfl⟩
instance:Agg P T.a28 5:=⟨by kernel_rfl,by kernel_rfl⟩
instance:One P T.a17:=⟨by kernel_rfl,by kernel_rfl⟩
instance:One P T.a15:=⟨by kernel_rfl,by kernel_rfl⟩
instance:Agg P T.a29 6:=⟨by kernel_rfl,by kernel_rfl⟩
instance:Agg P T.a7 3:=⟨by kernel_rfl,by kernel_rfl⟩
instance:Agg P T.a3 4:=⟨by kernel_rfl,by kernel_rfl⟩
instance:One P T.a23:=⟨by kernel_rfl,by kernel_rfl⟩
instance:One P T.a14:=⟨by kernel_rfl,by kernel_rfl⟩
instance:Agg P T.a6 2:=⟨by kernel_rfl,by kernel_rfl⟩
instance:Agg P T.a9 3:=⟨by kernel_rfl,by kernel_rfl⟩
instance:One P T.a20:=⟨by kernel_rfl,by kernel_rfl⟩
instance:Agg P T.a8 5:=⟨by kernel_rfl,by kernel_rfl⟩
instance:Agg P T.a0 32:=⟨by kernel_rfl,by kernel_rfl⟩
instance:Agg P T.a36 3:=⟨by kernel_rfl,by kernel_rfl⟩
instance:One P T.a30:=⟨by kernel_rfl,by kernel_rfl⟩
instance:Zer P T.a11 (.int .i64 0):=⟨by kernel_rfl⟩
instance:Zer P T.a10 (.int .i64 0):=⟨by kernel_rfl⟩
instance:Zer P T.a4 (.bool false):=⟨by kernel_rfl⟩
instance:Zer P T.a34 (.int .u8 0):=⟨by kernel_rfl⟩
instance:Zer P T.a31 (.string ⟨#[]⟩):=⟨by kernel_rfl⟩
instance:Zer P T.a18 (.slice none 0 0):=⟨by kernel_rfl⟩
instance:Zer P T.a27 (.agg #[.int .i64 0,.int .i64 0]):=⟨by kernel_rfl⟩
instance:Zer P T.a13 (.pointer none):=⟨by kernel_rfl⟩
instance:Zer P T.a2 (.int .i64 0):=⟨by kernel_rfl⟩
instance:Zer P T.a16 (.pointer none):=⟨by kernel_rfl⟩
instance:Zer P T.a19 (.slice none 0 0):=⟨by kernel_rfl⟩
instance:Zer P T.a1 (.agg #[.int .i64 0,.int .i64 0,.int .i64 0,.int .i64 0,.int .i64 0,.int .i64 0,.slice none 0 0]):=⟨by kernel_rfl⟩
instance:Zer P T.a25 (.slice none 0 0):=⟨by kernel_rfl⟩
instance:Zer P T.a32 (.agg #[.int .i64 0,.int .i64 0,.slice none 0 0]):=⟨by kernel_rfl⟩
instance:Zer P T.a26 (.slice none 0 0):=⟨by kernel_rfl⟩
instance:Zer P T.a24 (.slice none 0 0):=⟨by kernel_rfl⟩
instance:Zer P T.a33 (.agg #[.int .i64 0,.int .i64 0,.slice none 0 0]):=⟨by kernel_rfl⟩
instance:Zer P T.a21 (.slice none 0 0):=⟨by kernel_rfl⟩
instance:Zer P T.a12 (.map none):=⟨by kernel_rfl⟩
instance:Zer P T.a5 (.agg #[.int .i64 0,.bool false,.int .i64 0,.int .i64 0,.map none]):=⟨by kernel_rfl⟩
instance:Zer P T.a22 (.slice none 0 0):=⟨by kernel_rfl⟩
instance:Zer P T.a28 (.agg #[.pointer none,.string ⟨#[]⟩,.int .i64 0,.int .i64 0,.slice none 0 0]):=⟨by kernel_rfl⟩
instance:Zer P T.a17 (.pointer none):=⟨by kernel_rfl⟩
instance:Zer P T.a15 (.pointer none):=⟨by kernel_rfl⟩
instance:Zer P T.a29 (.agg #[.pointer none,.int .i64 0,.int .i64 0,.int .i64 0,.int .i64 0,.int .i64 0]):=⟨by kernel_rfl⟩
instance:Zer P T.a7 (.agg #[.int .i64 0,.int .i64 0,.int .i64 0]):=⟨by kernel_rfl⟩
instance:Zer P T.a3 (.agg #[.string ⟨#[]⟩,.string ⟨#[]⟩,.bool false,.int .i64 0]):=⟨by kernel_rfl⟩
instance:Zer P T.a23 (.slice none 0 0):=⟨by kernel_rfl⟩
instance:Zer P T.a14 (.pointer none):=⟨by kernel_rfl⟩
instance:Zer P T.a6 (.agg #[.slice none 0 0,.int .i64 0]):=⟨by kernel_rfl⟩
instance:Zer P T.a9 (.agg #[.int .i64 0,.int .i64 0,.int .i64 0]):=⟨by kernel_rfl⟩
instance:Zer P T.a20 (.slice none 0 0):=⟨by kernel_rfl⟩
instance:Zer P T.a8 (.agg #[.int .i64 0,.int .i64 0,.int .i64 0,.int .i64 0,.slice none 0 0]):=⟨by kernel_rfl⟩
instance:Zer P T.a0 (.agg #[.bool false,.bool false,.bool false,.bool false,.bool false,.bool false,.bool false,.bool false,.bool false,.bool false,.bool false,.bool false,.bool false,.bool false,.bool false,.bool false,.bool false,.bool false,.bool false,.bool false,.bool false,.bool false,.bool false,.bool false,.bool false,.bool false,.bool false,.bool false,.bool false,.bool false,.bool false,.bool false]):=⟨by kernel_rfl⟩
instance:Zer P T.a36 (.agg #[.slice none 0 0,.int .i64 0,.int .i64 0]):=⟨by kernel_rfl⟩
instance:Zer P T.a30 (.int .u64 0):=⟨by kernel_rfl⟩
instance:SlT P T.a18 T.a1 7 72:=⟨by kernel_rfl,by kernel_rfl⟩
instance:SlT P T.a19 T.a3 4 48:=⟨by kernel_rfl,by kernel_rfl⟩
instance:SlT P T.a25 T.a33 3 40:=⟨by kernel_rfl,by kernel_rfl⟩
instance:SlT P T.a26 T.a34 1 1:=⟨by kernel_rfl,by kernel_rfl⟩
instance:SlT P T.a24 T.a31 1 16:=⟨by kernel_rfl,by kernel_rfl⟩
instance:SlT P T.a21 T.a11 1 8:=⟨by kernel_rfl,by kernel_rfl⟩
instance:SlT P T.a22 T.a17 1 8:=⟨by kernel_rfl,by kernel_rfl⟩
instance:SlT P T.a23 T.a26 1 24:=⟨by kernel_rfl,by kernel_rfl⟩
instance:SlT P T.a20 T.a7 3 24:=⟨by kernel_rfl,by kernel_rfl⟩
structure RecM where
 key:ByteArray
 value:ByteArray
 gone:Bool
 time:Int
def encR (r:RecM):List Value:=[.string r.key,.string r.value,.bool r.gone,.int .i64 r.time]
instance:EncA encR [.str,.str,.bool,.int .i64] (fun r=>(r.key,r.value,r.gone,r.time,())):=⟨fun _=>rfl⟩
instance:EncN encR 4:=⟨fun _=>rfl,by decide,by simp [encR,Value.oneCell']⟩
structure BatM where
 base:Int
 pid:Int
 epoch:Int
 seq:Int
 kind:Int
 time:Int
 x:Sl
 rs:List RecM
def encB7 (b:BatM):List Value:=[.int .i64 b.base,.int .i64 b.pid,.int .i64 b.epoch,.int .i64 b.seq,.int .i64 b.kind,.int .i64 b.time,.slice b.x.a b.x.len b.x.cap]
instance:EncA encB7 [.int .i64,.int .i64,.int .i64,.int .i64,.int .i64,.int .i64,.slc] (fun b=>(b.base,b.pid,b.epoch,b.seq,b.kind,b.time,b.x,())):=⟨fun _=>rfl⟩
instance:EncN encB7 7:=⟨fun _=>rfl,by decide,by simp [encB7,Value.oneCell']⟩
def markB (b:BatM):Bool:=decide (b.kind=2) || decide (b.kind=3)
def numsB (b:BatM):Prop:=(0≤b.kind∧b.kind≤3)∧(0≤b.base∧b.base≤1099511627776)∧(0≤b.pid∧b.pid≤1048576)∧(0≤b.epoch∧b.epoch≤32767)∧(0≤b.seq∧b.seq≤2147483647)∧(0≤b.time∧b.time≤1099511627776)
instance (b:BatM):Decidable (numsB b):=by unfold numsB;infer_instance
def fitsB (b:BatM):Prop:=¬ (b.pid=0∧(b.kind≠0∨b.epoch≠0∨b.seq≠0))∧if markB b then b.seq=0∧b.rs.length=0 else 0<b.rs.length
instance (b:BatM):Decidable (fitsB b):=by unfold fitsB;infer_instance
def recF (r:RecM):Int:=if r.key.size>1024∨r.value.size>1024 then 7 else if ¬ (0≤r.time∧r.time≤1099511627776)∨(r.gone=true∧r.value.size>0) then 2 else 0
def badF:List RecM→Int
 | []=>0
 | r::rs=>if recF r≠0 then recF r else badF rs
def spanB (b:BatM):Int:=if markB b then 1 else (b.rs.length:Nat)
def validB (b:BatM):Int:=if ¬ numsB b∨¬ fitsB b then 2 else if b.rs.length>64 then 7 else if badF b.rs≠0 then badF b.rs else
 if b.base>1099511627776-(spanB b-1)∨(b.pid>0∧markB b=false∧b.seq>2147483647-(spanB b-1)) then 24 else 0
def nextB (b:BatM):Int:=if validB b≠0 then 0 else b.base+spanB b
theorem badF_take:∀ (rs:List RecM) (i:Nat) (hi:i<rs.length),badF (rs.take i)=0→recF rs[i]≠0→badF rs=recF rs[i]
 | r::rs,0,_,_,h=>by
  have h:recF r≠0:=h
  show (if recF r≠0 then recF r else badF rs)=recF r
  rw [if_pos h]
 | r::rs,i+1,hi,h1,h2=>by
  have h1:(if recF r≠0 then recF r else badF (rs.take i))=0:=h1
  by_cases h:recF r≠0
  ·rw [if_pos h] at h1;exact absurd h1 h
  ·rw [if_neg h] at h1
   show (if recF r≠0 then recF r else badF rs)=_
   rw [if_neg h]
   exact badF_take rs i (by simpa using hi) h1 h2
theorem badF_step:∀ (rs:List RecM) (i:Nat) (hi:i<rs.length),badF (rs.take i)=0→recF rs[i]=0→badF (rs.take (i+1))=0
 | r::rs,0,_,_,h=>by
  have h:recF r=0:=h
  show (if recF r≠0 then recF r else badF (rs.take 0))=0
  rw [if_neg (by rw [h];simp)];rfl
 | r::rs,i+1,hi,h1,h2=>by
  have h1:(if recF r≠0 then recF r else badF (rs.take i))=0:=h1
  by_cases h:recF r≠0
  ·rw [if_pos h] at h1;exact absurd h1 h
  ·rw [if_neg h] at h1
   show (if recF r≠0 then recF r else badF (rs.take (i+1)))=0
   rw [if_neg h]
   exact badF_step rs i (by simpa using hi) h1 h2
theorem size_pos {s:ByteArray}:s.size>0↔s≠ByteArray.mk #[]:=by
 constructor
 ·rintro h rfl;exact absurd h (Nat.lt_irrefl 0)
 ·intro h
  rcases Nat.eq_zero_or_pos s.size with h0|h0
  ·exfalso
   apply h
   obtain ⟨⟨l⟩⟩:=s
   have h0:l.length=0:=h0
   rw [List.length_eq_zero_iff.1 h0]
  ·exact h0
section
variable {w:World} {l r:List HP} {b:BatM}
theorem rmark_c (b:BatM) (hs:Sat w l):Ret P F.a41 #[.agg (encB7 b).toArray] w fun vs w'=>vs=[.bool (markB b)]∧Sat w' l :=
 zf48_calls b.base b.pid b.epoch b.seq b.kind b.time b.x <| by
  unfold zf48
  refine wp_boxO hs fun a0 w' hs=>?_
  refine wp_ldO hs ?_
  refine wp_ldO hs ?_
  refine wp_lt ?_
  exact ⟨rfl,rfl,hs.tail⟩
theorem dmark_c (b:BatM) (hs:Sat w l):Ret P F.a109 #[.agg (encB7 b).toArray] w fun vs w'=>vs=[.bool (markB b)]∧Sat w' l :=
 zf118_calls b.base b.pid b.epoch b.seq b.kind b.time b.x <| by
  unfold zf118
  refine wp_boxO hs fun a0 w' hs=>?_
  refine wp_ldO hs ?_
  refine wp_ldO hs ?_
  refine wp_lt ?_
  exact ⟨rfl,rfl,hs.tail⟩
theorem within_c (n lo hi:Int) (hs:Sat w l):Ret P F.a47 #[.int .i64 n,.int .i64 lo,.int .i64 hi] w fun vs w'=>vs=[.bool (decide (lo≤n∧n≤hi))]∧Sat w' l :=
 zf54_calls n lo hi <| by
  unfold zf54
  refine wp_lt ?_
  exact ⟨rfl,by rw [Bool.decide_and],hs⟩
theorem span_c (b:BatM) [hb:FocR l b.x 4 (b.rs.flatMap encR)] (hs:Sat w l):Ret P F.a37 #[.agg (encB7 b).toArray] w fun vs w'=>vs=[.int .i64 (spanB b)]∧Sat w' l :=
 zf44_calls b.base b.pid b.epoch b.seq b.kind b.time b.x <| by
  unfold zf44 spanB
  have hl:=hs.slen b.x (xs:=b.rs) (enc:=encR)
  refine wp_boxO hs fun a0 w' hs=>?_
  refine wp_ldG hs ?_
  refine wp_call (rmark_c b hs) fun _ _ hs=>?_
  obtain ⟨rfl,hs⟩:=hs
  refine ret_of ?_
  refine wp_if (fun h=>?_) fun h=>?_
  ·rw [if_pos h];exact ⟨rfl,rfl,hs.tail⟩
  ·rw [if_neg h]
   refine wp_ldO hs ?_
   refine wp_lt ?_
   rw [hl]
   exact ⟨rfl,rfl,hs.tail⟩
theorem record_c (r:RecM) (hs:Sat w l):Ret P F.a45 #[.agg (encR r).toArray] w fun vs w'=>vs=[.int .i64 (recF r)]∧Sat w' l :=
 zf52_calls r.key r.value r.gone r.time <| by
  unfold zf52 recF
  refine wp_boxO hs fun a0 w' hs=>?_
  refine wp_ldO hs ?_
  refine wp_ldO hs ?_
  refine wp_lt ?_
  refine wp_if (fun h=>?_) fun h=>?_
  ·rw [if_pos (by omega)];exact ⟨rfl,rfl,hs.tail⟩
  rw [if_neg (by omega)]
  refine wp_ldO hs ?_
  refine wp_call (within_c r.time 0 1099511627776 hs) fun _ _ hs=>?_
  obtain ⟨rfl,hs⟩:=hs
  refine ret_of ?_
  refine wp_ldO hs ?_
  refine wp_ldO hs ?_
  refine wp_lt ?_
  have e:(¬ (0≤r.time∧r.time≤1099511627776)∨(r.gone=true∧r.value.size>0))↔(¬ (0≤r.time∧r.time≤1099511627776)∨(r.gone=true∧¬ r.value=ByteArray.mk #[])):=by rw [size_pos]
  refine wp_if (fun h=>?_) fun h=>?_
  ·rw [if_pos (e.2 h)];exact ⟨rfl,rfl,hs.tail⟩
  ·rw [if_neg (fun h2=>h (e.1 h2))];exact ⟨rfl,rfl,hs.tail⟩
theorem numbers_c (b:BatM) (hs:Sat w l):Ret P F.a42 #[.agg (encB7 b).toArray] w fun vs w'=>vs=[.bool (decide (numsB b))]∧Sat w' l :=
 zf49_calls b.base b.pid b.epoch b.seq b.kind b.time b.x <| by
  unfold zf49
  refine wp_boxO hs fun a0 w' hs=>?_
  refine wp_mid (fun v w'=>v=(decide (numsB b),())∧Sat w' l) ?_ (by rintro _ w' ⟨rfl,hs⟩;refine wp_on ?_;exact ⟨rfl,rfl,hs⟩)
  have hno:∀ {w'},¬ numsB b→Sat w' (pt a0 (.cells #[.int .i64 b.base,.int .i64 b.pid,.int .i64 b.epoch,.int .i64 b.seq,.int .i64 b.kind,.int .i64 b.time,.slice b.x.a b.x.len b.x.cap] T.a1)::l)→((false,()):Bool × Unit)=(decide (numsB b),())∧Sat w' l:=fun h hs=>⟨by rw [decide_eq_false h],hs.tail⟩
  refine wp_ldO hs ?_
  refine wp_ldO hs ?_
  refine wp_ldO hs ?_
  refine wp_if (fun h1=>?_) fun h1=>?_
  rotate_left
  ·exact wp_lv (hno (fun h=>h1 h.1) hs)
  refine wp_call (within_c b.base 0 1099511627776 hs) fun _ _ hs=>?_
  obtain ⟨rfl,hs⟩:=hs
  refine ret_of ?_
  refine wp_ldO hs ?_
  refine wp_if (fun h2=>?_) fun h2=>?_
  rotate_left
  ·exact wp_lv (hno (fun h=>h2 h.2.1) hs)
  refine wp_call (within_c b.pid 0 1048576 hs) fun _ _ hs=>?_
  obtain ⟨rfl,hs⟩:=hs
  refine ret_of ?_
  refine wp_ldO hs ?_
  refine wp_ldO hs ?_
  refine wp_ldO hs ?_
  refine wp_ldO hs ?_
  refine wp_ldO hs ?_
  refine wp_if (fun h3=>?_) fun h3=>?_
  rotate_left
  ·exact wp_lv (hno (fun h=>h3 ⟨⟨⟨⟨h.2.2.1,h.2.2.2.1.1⟩,h.2.2.2.1.2⟩,h.2.2.2.2.1.1⟩,h.2.2.2.2.1.2⟩) hs)
  refine wp_call (within_c b.time 0 1099511627776 hs) fun _ _ hs=>?_
  obtain ⟨rfl,hs⟩:=hs
  refine ret_of ?_
  refine wp_lt ?_
  refine wp_lv ⟨?_,hs.tail⟩
  have:(numsB b)↔(0≤b.time∧b.time≤1099511627776):=⟨fun h=>h.2.2.2.2.2,fun h=>⟨h1,h2,h3.1.1.1.1,⟨h3.1.1.1.2,h3.1.1.2⟩,⟨h3.1.2,h3.2⟩,h⟩⟩
  rw [decide_eq_decide.2 this]
theorem fits_c (b:BatM) [hb:FocR l b.x 4 (b.rs.flatMap encR)] (hs:Sat w l):Ret P F.a40 #[.agg (encB7 b).toArray] w fun vs w'=>vs=[.bool (decide (fitsB b))]∧Sat w' l :=
 zf47_calls b.base b.pid b.epoch b.seq b.kind b.time b.x <| by
  unfold zf47
  have hl:=hs.slen b.x (xs:=b.rs) (enc:=encR)
  refine wp_boxO hs fun a0 w' hs=>?_
  refine wp_ldO hs ?_
  refine wp_ldO hs ?_
  refine wp_ldO hs ?_
  refine wp_ldO hs ?_
  refine wp_if (fun h1=>?_) fun h1=>?_
  ·have:¬ fitsB b:=fun h=>h.1 ⟨h1.1,or_assoc.1 h1.2⟩
   exact ⟨rfl,by rw [decide_eq_false this],hs.tail⟩
  have h1:¬ (b.pid=0∧(b.kind≠0∨b.epoch≠0∨b.seq≠0)):=fun h=>h1 ⟨h.1,or_assoc.2 h.2⟩
  refine wp_ldG hs ?_
  refine wp_call (rmark_c b hs) fun _ _ hs=>?_
  obtain ⟨rfl,hs⟩:=hs
  refine ret_of ?_
  refine wp_if (fun h2=>?_) fun h2=>?_
  ·refine wp_ldO hs ?_
   refine wp_ldO hs ?_
   refine wp_lt ?_
   refine ⟨rfl,?_,hs.tail⟩
   have:fitsB b↔(b.seq=0∧b.rs.length=0):=by
    unfold fitsB
    rw [if_pos h2]
    exact ⟨fun h=>h.2,fun h=>⟨h1,h⟩⟩
   congr 2
   rw [Bool.eq_iff_iff,decide_eq_true_iff,this,Bool.and_eq_true,beq_iff_eq,beq_iff_eq,hl]
   omega
  ·refine wp_ldO hs ?_
   refine wp_lt ?_
   refine ⟨rfl,?_,hs.tail⟩
   have:fitsB b↔0<b.rs.length:=by
    unfold fitsB
    rw [if_neg h2]
    exact ⟨fun h=>h.2,fun h=>⟨h1,h⟩⟩
   congr 2
   rw [Bool.eq_iff_iff,decide_eq_true_iff,decide_eq_true_iff,this,hl]
   omega
theorem valid_c (b:BatM) [hb:FocR l b.x 4 (b.rs.flatMap encR)] (hs:Sat w l):Ret P F.a38 #[.agg (encB7 b).toArray] w fun vs w'=>vs=[.int .i64 (validB b)]∧Sat w' l :=
 zf45_calls b.base b.pid b.epoch b.seq b.kind b.time b.x <| by
  unfold zf45 validB
  have hl:=hs.slen b.x (xs:=b.rs) (enc:=encR)
  refine wp_boxO hs fun a0 w' hs=>?_
  refine wp_mid (fun v w'=>v=(decide (¬ numsB b∨¬ fitsB b),())∧Sat w' (pt a0 (.cells #[.int .i64 b.base,.int .i64 b.pid,.int .i64 b.epoch,.int .i64 b.seq,.int .i64 b.kind,.int .i64 b.time,.slice b.x.a b.x.len b.x.cap] T.a1)::l)) ?_ ?_
  ·refine wp_ldG hs ?_
   refine wp_call (numbers_c b hs) fun _ _ hs=>?_
   obtain ⟨rfl,hs⟩:=hs
   refine ret_of ?_
   refine wp_ldG hs ?_
   refine wp_if (fun h1=>?_) fun h1=>?_
   ·exact wp_lv ⟨by rw [decide_eq_true (.inl h1)],hs⟩
   refine wp_call (fits_c b hs) fun _ _ hs=>?_
   obtain ⟨rfl,hs⟩:=hs
   refine ret_of ?_
   refine wp_lt ?_
   refine wp_lv ⟨?_,hs⟩
   have:(¬ numsB b∨¬ fitsB b)↔¬ fitsB b:=⟨fun h=>h.resolve_left h1,.inr⟩
   rw [decide_eq_decide.2 this,decide_not]
  clear hs
  rintro _ w ⟨rfl,hs⟩
  refine wp_on ?_
  refine wp_if (fun h1=>?_) fun h1=>?_
  ·rw [if_pos h1];exact ⟨rfl,rfl,hs.tail⟩
  rw [if_neg h1]
  have hnum:numsB b:=Decidable.not_not.1 fun h=>h1 (.inl h)
  have hfit:fitsB b:=Decidable.not_not.1 fun h=>h1 (.inr h)
  refine wp_ldO hs ?_
  refine wp_lt ?_
  refine wp_if (fun h2=>?_) fun h2=>?_
  ·rw [if_pos (by omega)];exact ⟨rfl,rfl,hs.tail⟩
  rw [if_neg (by omega)]
  refine wp_ldO hs ?_
  refine wp_mid (fun v w'=>badF b.rs=0∧Sat w' (pt a0 (.cells #[.int .i64 b.base,.int .i64 b.pid,.int .i64 b.epoch,.int .i64 b.seq,.int .i64 b.kind,.int .i64 b.time,.slice b.x.a b.x.len b.x.cap] T.a1)::l)) ?_ ?_
  ·refine wp_loop (fun k v w=>∃ i:Nat,v=((i:Int),())∧i≤b.rs.length∧b.rs.length-i=k∧badF (b.rs.take i)=0∧Sat w (pt a0 (.cells #[.int .i64 b.base,.int .i64 b.pid,.int .i64 b.epoch,.int .i64 b.seq,.int .i64 b.kind,.int .i64 b.time,.slice b.x.a b.x.len b.x.cap] T.a1)::l)) b.rs.length ⟨0,rfl,by omega,rfl,rfl,hs⟩ ?_
   clear hs
   rintro k _ w ⟨i,rfl,hi,hk,hbad,hs⟩
   refine wp_on ?_
   refine wp_if (fun hc=>?_) fun hc=>?_
   rotate_left
   ·refine wp_pass (wp_lv ⟨?_,hs⟩)
    rwa [List.take_of_length_le (by omega)] at hbad
   have hil:i<b.rs.length:=by omega
   refine wp_ixA hs i hil ?_
   refine wp_newO hs fun c w' hs=>?_
   refine wp_stG hs fun w' hs=>?_
   refine wp_ldG hs ?_
   refine wp_call (record_c b.rs[i] hs) fun _ _ hs=>?_
   obtain ⟨rfl,hs⟩:=hs
   refine ret_of ?_
   refine wp_lt ?_
   refine wp_if (fun h3=>?_) fun h3=>?_
   ·refine wp_lt ?_
    refine wp_pass (wp_pass ?_)
    have:=badF_take b.rs i hil hbad h3
    rw [if_pos (by rw [this];exact h3),this]
    exact ⟨rfl,rfl,hs.tail.tail⟩
   ·refine wp_dn (us':=[.int .i64 ((i+1:Nat):Int)]) (by (try simp (disch:=omega) only [w64]);first|rfl|(congr;omega)) ?_
    refine wp_lp (b.rs.length-(i+1)) ?_
    exact ⟨i+1,rfl,by omega,rfl,badF_step b.rs i hil hbad (Decidable.not_not.1 h3),hs.sub⟩
  clear hs
  rintro _ w ⟨hbad,hs⟩
  refine wp_on ?_
  rw [if_neg (by rw [hbad];simp)]
  refine wp_ldG hs ?_
  refine wp_call (span_c b hs) fun _ _ hs=>?_
  obtain ⟨rfl,hs⟩:=hs
  refine ret_of ?_
  have hsp:1≤spanB b∧spanB b≤64:=by
   unfold spanB
   have h3:=hfit.2
   split
   ·omega
   ·rename_i hm
    rw [if_neg hm] at h3
    omega
  obtain ⟨-,hba,-,-,hse,-⟩:=hnum
  refine wp_ltx (y:=spanB b-1) ?_ (by rw [w64 (by omega) (by omega)])
  refine wp_mid (fun v w'=>v=(decide (b.base>1099511627776-(spanB b-1)∨(b.pid>0∧markB b=false∧b.seq>2147483647-(spanB b-1))),())∧Sat w' l) ?_ ?_
  ·rw [w64 (x:=1099511627776-(spanB b-1)) (by omega) (by omega)]
   refine wp_ldO hs ?_
   refine wp_ldO hs ?_
   refine wp_ldG hs ?_
   refine wp_if (fun h3=>?_) fun h3=>?_
   ·exact wp_lv ⟨by rw [decide_eq_true (.inl h3)],hs.tail⟩
   refine wp_if (fun h4=>?_) fun h4=>?_
   rotate_left
   ·exact wp_lv ⟨by rw [decide_eq_false (fun h=>h.elim h3 fun h=>h4 h.1)],hs.tail⟩
   refine wp_call (rmark_c b hs) fun _ _ hs=>?_
   obtain ⟨rfl,hs⟩:=hs
   refine ret_of ?_
   refine wp_ldO hs ?_
   rw [w64 (x:=2147483647-(spanB b-1)) (by omega) (by omega)]
   refine wp_lv ⟨?_,hs.tail⟩
   have:(b.base>1099511627776-(spanB b-1)∨(b.pid>0∧markB b=false∧b.seq>2147483647-(spanB b-1)))↔(markB b=false∧b.seq>2147483647-(spanB b-1)):=⟨fun h=>(h.resolve_left h3).2,fun h=>.inr ⟨h4,h⟩⟩
   rw [decide_eq_decide.2 this,Bool.decide_and]
   cases markB b <;> rfl
  clear hs
  rintro _ w ⟨rfl,hs⟩
  refine wp_on ?_
  refine wp_if (fun h3=>?_) fun h3=>?_
  ·rw [if_pos h3];exact ⟨rfl,rfl,hs⟩
  ·rw [if_neg h3];exact ⟨rfl,rfl,hs⟩
theorem span_le (b:BatM) (hv:validB b=0):1≤spanB b∧spanB b≤64∧numsB b∧fitsB b∧b.base+spanB b≤1099511627777:=by
 unfold validB at hv
 split at hv
 ·cases hv
 rename_i h1
 have hnum:numsB b:=Decidable.not_not.1 fun h=>h1 (.inl h)
 have hfit:fitsB b:=Decidable.not_not.1 fun h=>h1 (.inr h)
 split at hv
 ·cases hv
 rename_i h2
 split at hv
 ·rename_i h3;exact absurd hv h3
 split at hv
 ·cases hv
 rename_i h4
 have hsp:1≤spanB b∧spanB b≤64:=by
  unfold spanB
  have h3:=hfit.2
  split
  ·omega
  ·rename_i hm
   rw [if_neg hm] at h3
   omega
 refine ⟨hsp.1,hsp.2,hnum,hfit,?_⟩
 apply Decidable.byContradiction
 intro h5
 exact h4 (.inl (by omega))
theorem next_c_ (b:BatM) [hb:FocR l b.x 4 (b.rs.flatMap encR)] (hs:Sat w l):Ret P F.a36 #[.agg (encB7 b).toArray] w fun vs w'=>vs=[.int .i64 (nextB b)]∧Sat w' l :=
 zf43_calls b.base b.pid b.epoch b.seq b.kind b.time b.x <| by
  unfold zf43 nextB
  refine wp_boxO hs fun a0 w' hs=>?_
  refine wp_ldG hs ?_
  refine wp_call (valid_c b hs) fun _ _ hs=>?_
  obtain ⟨rfl,hs⟩:=hs
  refine ret_of ?_
  refine wp_if (fun h=>?_) fun h=>?_
  ·rw [if_pos h];exact ⟨rfl,rfl,hs.tail⟩
  rw [if_neg h]
  obtain ⟨h1,h2,h3,-⟩:=span_le b (Decidable.not_not.1 h)
  have h3:=h3.2.1
  refine wp_tk hs fun w' hs=>?_
  refine wp_hdO hs ?_
  refine wp_ldG hs ?_
  refine wp_call (span_c b hs) fun _ w' hs=>?_
  obtain ⟨rfl,hs⟩:=hs
  refine ret_of ?_ ⟨trivial,fun _=>run_ldO hs⟩
  refine wp_ltx (y:=b.base+spanB b) ?_ (by rw [w64 (by omega) (by omega)])
  refine wp_untick ?_
  exact ⟨rfl,rfl,hs.tail⟩
end
def uintF:Nat→Nat→List UInt8
 | 0,_=>[]
 | k+1,n=>if n<128 then [UInt8.ofNat n] else UInt8.ofNat (n % 128+128)::uintF k (n / 128)
def uintL (n:Nat):List UInt8:=uintF 10 n
def numR (i:Nat):List UInt8→Option (Nat × Nat)
 | []=>none
 | c::r=>if i≥10∨(i=9∧1<c.toNat) then none else if 128≤c.toNat then (numR (i+1) r).map fun p=>(c.toNat % 128+128*p.1,p.2+1) else if c.toNat=0∧0<i then none else some (c.toNat,1)
theorem numR_cons (i:Nat) (c:UInt8) (r:List UInt8):numR i (c::r)=if i≥10∨(i=9∧1<c.toNat) then none else if 128≤c.toNat then (numR (i+1) r).map fun p=>(c.toNat % 128+128*p.1,p.2+1) else if c.toNat=0∧0<i then none else some (c.toNat,1):=rfl
theorem uintF_succ:∀ (k n:Nat),0<k→n<128 ^ k→uintF (k+1) n=uintF k n
 | k+1,n,_,h=>by
  show (if n<128 then _ else _::uintF (k+1) (n / 128))=if n<128 then _ else _::uintF k (n / 128)
  by_cases h1:n<128
  ·rw [if_pos h1,if_pos h1]
  ·rw [if_neg h1,if_neg h1]
   have hk:0<k:=by
    apply Nat.pos_of_ne_zero
    rintro rfl
    simp at h;omega
   rw [uintF_succ k (n / 128) hk]
   rw [Nat.pow_succ] at h
   omega
theorem uintL_eq {n:Nat} (h:n<18446744073709551616):uintL n=if n<128 then [UInt8.ofNat n] else UInt8.ofNat (n % 128+128)::uintL (n / 128):=by
 unfold uintL
 rw [uintF_succ 9 (n / 128) (by decide) (by omega)]
 rfl
theorem uintF_len:∀ (k n:Nat),(uintF k n).length≤k
 | 0,_=>Nat.le_refl _
 | k+1,n=>by
  have:=uintF_len k (n / 128)
  unfold uintF
  split <;> simp <;> omega
theorem uintF_pos (k n:Nat):0<(uintF (k+1) n).length:=by
 unfold uintF
 split <;> simp
theorem uintL_len (n:Nat):0<(uintL n).length∧(uintL n).length≤10:=⟨uintF_pos 9 n,uintF_len 10 n⟩
theorem numR_len:∀ (bs:List UInt8) (i v k:Nat),numR i bs=some (v,k)→0<k∧k≤bs.length∧i+k≤10
 | [],i,v,k,h=>by cases h
 | c::r,i,v,k,h=>by
  unfold numR at h
  split at h
  ·cases h
  rename_i h1
  split at h
  ·rename_i h2
   cases hr:numR (i+1) r with
   | none=>rw [hr] at h;cases h
   | some p =>
    rw [hr] at h
    simp only [Option.map_some,Option.some.injEq,Prod.mk.injEq] at h
    have:=numR_len r (i+1) p.1 p.2 hr
    simp;omega
  ·split at h
   ·cases h
   ·simp only [Option.some.injEq,Prod.mk.injEq] at h
    simp;omega
theorem num_uint:∀ (k i n:Nat) (rest:List UInt8),n<128 ^ k→0<k→n*128 ^ i<18446744073709551616→(0<i→0<n)→i<10→numR i (uintF k n++rest)=some (n,(uintF k n).length)
 | k+1,i,n,rest,hn,_,h64,hi,hi10=>by
  have hcase:i=0∨i=1∨i=2∨i=3∨i=4∨i=5∨i=6∨i=7∨i=8∨i=9:=by omega
  have h9:i=9→n<2:=fun e=>by subst e;simp at h64;omega
  unfold uintF
  by_cases h:n<128
  ·rw [if_pos h]
   show (if _ then _ else if _ then _ else if _ then _ else _)=_
   have e:(UInt8.ofNat n).toNat=n:=by simp;omega
   rw [e,if_neg (by omega),if_neg (by omega),if_neg (by omega)]
   rfl
  ·rw [if_neg h]
   have e:(UInt8.ofNat (n % 128+128)).toNat=n % 128+128:=by simp;omega
   have h64':n / 128*128 ^ (i+1)<18446744073709551616:=by
    rw [Nat.pow_succ,Nat.mul_comm (128 ^ i),← Nat.mul_assoc]
    exact Nat.lt_of_le_of_lt (Nat.mul_le_mul_right _ (Nat.div_mul_le_self n 128)) h64
   have hk:0<k:=by
    apply Nat.pos_of_ne_zero
    rintro rfl
    simp at hn;omega
   have ih:=num_uint k (i+1) (n / 128) rest (by rw [Nat.pow_succ] at hn;omega) hk h64' (fun _=>by omega) (by omega)
   rw [List.cons_append]
   show (if _ then _ else if _ then _ else _)=_
   have e3:(n % 128+128) % 128+128*(n / 128)=n:=by omega
   rw [e,if_neg (by omega),if_pos (by omega),ih,Option.map_some,e3,List.length_cons]
theorem num_uintL {n:Nat} (h:n<18446744073709551616) (rest:List UInt8):numR 0 (uintL n++rest)=some (n,(uintL n).length) :=
 num_uint 10 0 n rest (by omega) (by decide) (by omega) (fun h=>absurd h (by decide)) (by decide)
theorem num_inv:∀ (bs:List UInt8) (i v k:Nat),i<10→numR i bs=some (v,k)→bs.take k=uintF (10-i) v∧v*128 ^ i<18446744073709551616∧(0<i→0<v)
 | [],i,v,k,_,h=>by cases h
 | c::r,i,v,k,hi10,h=>by
  have hcase:i=0∨i=1∨i=2∨i=3∨i=4∨i=5∨i=6∨i=7∨i=8∨i=9:=by omega
  have hc:=c.toNat_lt
  unfold numR at h
  split at h
  ·cases h
  rename_i h1
  split at h
  ·rename_i h2
   cases hr:numR (i+1) r with
   | none=>rw [hr] at h;cases h
   | some p =>
    rw [hr] at h
    simp only [Option.map_some,Option.some.injEq,Prod.mk.injEq] at h
    obtain ⟨rfl,rfl⟩:=h
    obtain ⟨g1,g2,g3⟩:=num_inv r (i+1) p.1 p.2 (by omega) hr
    have hp:=g3 (by omega)
    obtain ⟨m,hm⟩:∃ m,10-i=m+1:=⟨9-i,by omega⟩
    have hm':10-(i+1)=m:=by omega
    rw [hm'] at g1
    refine ⟨?_,?_,fun _=>by omega⟩
    ·rw [hm]
     unfold uintF
     rw [if_neg (by omega),List.take_succ_cons,g1]
     have e1:(c.toNat % 128+128*p.1) % 128+128=c.toNat:=by omega
     have e2:(c.toNat % 128+128*p.1) / 128=p.1:=by omega
     rw [e1,e2]
     simp
    ·obtain ⟨m,hm⟩:∃ m,18446744073709551616=m*128 ^ (i+1):=by
      rcases hcase with rfl|rfl|rfl|rfl|rfl|rfl|rfl|rfl|rfl|rfl
      ·exact ⟨2 ^ 57,rfl⟩
      ·exact ⟨2 ^ 50,rfl⟩
      ·exact ⟨2 ^ 43,rfl⟩
      ·exact ⟨2 ^ 36,rfl⟩
      ·exact ⟨2 ^ 29,rfl⟩
      ·exact ⟨2 ^ 22,rfl⟩
      ·exact ⟨2 ^ 15,rfl⟩
      ·exact ⟨2 ^ 8,rfl⟩
      ·exact ⟨2 ^ 1,rfl⟩
      ·omega
     rw [hm] at g2 ⊢
     have hlt:=Nat.lt_of_mul_lt_mul_right g2
     have h5:(p.1+1)*128 ^ (i+1)≤m*128 ^ (i+1):=Nat.mul_le_mul_right _ hlt
     refine Nat.lt_of_lt_of_le ?_ h5
     rw [Nat.pow_succ,Nat.mul_comm (128 ^ i),← Nat.mul_assoc]
     exact Nat.mul_lt_mul_of_pos_right (by omega) (Nat.pow_pos (by decide))
  ·split at h
   ·cases h
   ·simp only [Option.some.injEq,Prod.mk.injEq] at h
    obtain ⟨rfl,rfl⟩:=h
    obtain ⟨m,hm⟩:∃ m,10-i=m+1:=⟨9-i,by omega⟩
    refine ⟨?_,?_,fun _=>by omega⟩
    ·rw [hm]
     unfold uintF
     rw [if_pos (by omega)]
     simp
    ·rcases hcase with rfl|rfl|rfl|rfl|rfl|rfl|rfl|rfl|rfl|rfl <;> simp <;> omega
theorem num_invL {bs:List UInt8} {v k:Nat} (h:numR 0 bs=some (v,k)):bs.take k=uintL v∧v<18446744073709551616:=by
 obtain ⟨h1,h2,-⟩:=num_inv bs 0 v k (by decide) h
 exact ⟨h1,by simpa using h2⟩
def encSl (x:Sl):List Value:=[.slice x.a x.len x.cap]
instance:Enc1 encSl .slc (fun x=>x):=⟨fun _=>rfl⟩
instance:EncN encSl 1:=⟨fun _=>rfl,by decide,by simp [encSl,Value.oneCell']⟩
section
variable {w:World} {l r:List HP} {sz:Nat} {x:Sl}
theorem drop_flat {α:Type} {enc:α→List Value} [hE:EncN enc sz]:∀ (xs:List α) (n:Nat),(xs.flatMap enc).drop (n*sz)=(xs.drop n).flatMap enc
 | [],n=>by simp
 | x::xs,0=>by simp
 | x::xs,n+1=>by
  rw [List.flatMap_cons,Nat.succ_mul,Nat.add_comm,← List.drop_drop,List.drop_left' (hE.len x),drop_flat xs n,List.drop_succ_cons]
theorem FocR.post {α:Type} {enc:α→List Value} [hE:EncN enc sz] {xs:List α} [hf:FocR l x sz (xs.flatMap enc)] {n m c:Nat} (hm:x.len≤m):FocR l ⟨cutA x.a sz n m,x.len-n,c⟩ sz ((xs.drop n).flatMap enc):=⟨fun w hs=>by
 obtain ⟨hlen,h0⟩:=hf.rd w hs
 have hl:x.len=xs.length:=(hf.rd w hs).len hE.len hE.pos
 refine ⟨by rw [flat_len,List.length_drop,hl],?_⟩
 by_cases hn:x.len-n=0
 ·exact .inl hn
 ·right
  rcases h0 with h0|⟨b,off,arr,T,fr,ha,hb,hc⟩
  ·omega
  ·refine ⟨b,off+n*sz,arr,T,fr,?_,hb,fun i hi=>?_⟩
   ·show cutA x.a sz n m=_
    unfold cutA
    rw [if_neg (by omega),ha,Option.map_some,add_mk]
   ·rw [← drop_flat,List.length_drop] at hi
    rw [Nat.add_assoc,hc (n*sz+i) (by omega),← drop_flat,List.getElem?_drop]⟩
end
section
variable {w:World} {l r:List HP} {Q:Post} {S:World→Prop}
theorem wp_make {P:Program} {t el:TypeId} {sz bytes:Nat} {c:Int} {k:Sl→Prog} [ht:SlT P t el sz bytes] (n:Nat) (hs:Sat w l) (h:∀ x w',Sat w' (slc el sz x []::l)→(k x).wp P S w' Q) (hc:c=n:=by first|rfl|omega) (hb:n*bytes≤281474976710656∧n≤9223372036854775807:=by omega) (hS:∀ w',S w':=by exact fun _=>trivial) :
  (Prog.act (Instr.makeSlice t (.int .i64 0) (.int .i64 c)) sL (u1 k)).wp P S w Q:=by
 subst hc
 obtain ⟨i,z,hi,h2,h3,h4,h5⟩:=ht.parts
 have hrun:=run_make (P:=P) w t el i z ht.ok.1 hi h4 .i64 .i64 0 n (Int.le_refl _) (by omega) (by rw [h3,← Int.natCast_mul,Nat.mul_comm];omega) (by omega)
 simp only [Int.toNat_zero,Int.toNat_natCast] at hrun
 have hp:=hs.push (o:=.cells (madeCells z.cells (n*i.size)) el) (w':=w.alloc (.cells (madeCells z.cells (n*i.size)) el)) rfl
 refine ⟨(⟨some ⟨w.heap.size,0,none⟩,0,n⟩,()),_,hrun,hS _,h ⟨some ⟨w.heap.size,0,none⟩,0,n⟩ _ ?_⟩
 refine hp.imp fun p hp=>.inr ⟨w.heap.size,0,_,_,rfl,hp,by simp,Nat.zero_le _,?_,fun i hi=>by simp at hi,unfrozen_zero _ _⟩
 rw [size_madeCells,h2];simp
theorem wp_ix1g {P:Program} {T:TypeId} {sz:Nat} {α:Type} {enc:α→List Value} {xs:List α} {i i':Int} {x:Sl} {g g':Prop} {p:Pr} {f:p.D→Prog} (hs:Sat w l) [hf:FocR l x sz (xs.flatMap enc)] [hE:EncN enc sz] [hT:One P T]
  (y:p.D) (hg:g→∃ n,∃ hn:n<xs.length,i=(n:Int)∧enc xs[n]=[p.mk y]) (h:(f y).wp P S w Q) (hgg:g'→g:=by exact id) (hi':i'=i:=by rfl) :
  (Prog.ex [.adr] (c1 fun a=>g→0≤i∧i<((x.len:Nat):Int)∧x.a=some a) (u1 fun a=>.read g' (ld T (Addr.add a (Int.toNat i'*sz))) (.one (.one p)) (u1 f))).wp P S w Q:=by
 subst hi'
 have hr:=hf.rd w hs
 have hl:x.len=xs.length:=hr.len hE.len hE.pos
 by_cases hgc:g
 ·obtain ⟨n,hn,hin,hen⟩:=hg hgc
  subst hin
  obtain ⟨a,ha,he⟩:=hr.el hE.len (by omega)
  refine ⟨(a,()),fun _=>⟨by omega,by omega,ha⟩,(y,()),fun _=>?_,h⟩
  have:=he n hn
  rw [hen] at this
  have h2:=At.ld1 (P:=P) (T:=T) this rfl
  cases p <;> exact h2
 ·exact ⟨(⟨0,0,none⟩,()),fun h=>absurd h hgc,(y,()),fun h=>absurd (hgg h) hgc,h⟩
theorem wp_ixFgg {P:Program} {T:TypeId} {sz:Nat} {α:Type} {enc:α→List Value} {xs:List α} {i i':Int} {j:Nat} {x:Sl} {g g':Prop} {p:Pr} {dec:α→p.D} {f:p.D→Prog} (hs:Sat w l) [hf:FocR l x sz (xs.flatMap enc)] [hE:EncN enc sz] [hD:EncF enc j p dec] [hT:One P T]
  (y:p.D) (hg:g→∃ n,∃ hn:n<xs.length,i=(n:Int)∧dec xs[n]=y) (h:(f y).wp P S w Q) (hgg:g'→g:=by exact id) (hi':i'=i:=by rfl) :
  (Prog.ex [.adr] (c1 fun a=>g→0≤i∧i<((x.len:Nat):Int)∧x.a=some a) (u1 fun a=>.read g' (ld T (Addr.add (Addr.add a (Int.toNat i'*sz)) j)) (.one (.one p)) (u1 f))).wp P S w Q:=by
 subst hi'
 by_cases hgc:g
 ·obtain ⟨n,hn,hin,hen⟩:=hg hgc
  subst hin hen
  obtain ⟨a,ha,hl,hr⟩:=run_ixF (P:=P) (T:=T) (j:=j) (enc:=enc) (p:=p) (dec:=dec) (x:=x) hs hn
  exact ⟨(a,()),fun _=>⟨by omega,by omega,ha⟩,(dec xs[n],()),fun _=>by rw [Int.toNat_natCast];exact hr,h⟩
 ·exact ⟨(⟨0,0,none⟩,()),fun h=>absurd h hgc,(y,()),fun h=>absurd (hgg h) hgc,h⟩
theorem wp_ixF0 {P:Program} {T:TypeId} {sz:Nat} {α:Type} {enc:α→List Value} {xs:List α} {ii:Int} {m j:Nat} {x:Sl} {g':Prop} {p:Pr} {dec:α→p.D} {f:p.D→Prog} (hs:Sat w l) [hf:FocR l x sz (xs.flatMap enc)] [hE:EncN enc sz] [hD:EncF enc j p dec] [hT:One P T]
  (n:Nat) (hn:n<xs.length) (h:(f (dec xs[n])).wp P S w Q) (hm:m=n*sz:=by rfl) (hi:ii=n:=by rfl) :
  (Prog.ex [.adr] (c1 fun a=>(0:Int)≤ii∧ii<((x.len:Nat):Int)∧x.a=some a) (u1 fun a=>.read g' (ld T (Addr.add (Addr.add a m) j)) (.one (.one p)) (u1 f))).wp P S w Q:=by
 subst hm hi
 obtain ⟨a,ha,hl,hr⟩:=run_ixF (P:=P) (T:=T) (j:=j) (enc:=enc) (p:=p) (dec:=dec) (x:=x) hs hn
 exact ⟨(a,()),⟨by omega,by omega,ha⟩,(dec xs[n],()),fun _=>hr,h⟩
end
instance:ByE P T.a26 T.a34:=⟨by kernel_rfl,by kernel_rfl,by kernel_rfl⟩
instance:StT P T.a31:=⟨by kernel_rfl⟩
theorem fdiv_nat (m:Nat) {k:Int} (hk:0≤k):Int.fdiv (m:Int) k=((m / k.toNat:Nat):Int):=by
 obtain ⟨k,rfl⟩:=Int.eq_ofNat_of_zero_le hk
 rw [Int.fdiv_eq_ediv_of_nonneg _ hk];rfl
theorem tdiv_nat (m:Nat) {k:Int} (hk:0≤k):Int.tdiv (m:Int) k=((m / k.toNat:Nat):Int):=by
 obtain ⟨k,rfl⟩:=Int.eq_ofNat_of_zero_le hk
 rfl
theorem tmod_nat (m:Nat) {k:Int} (hk:0≤k):Int.tmod (m:Int) k=((m % k.toNat:Nat):Int):=by
 obtain ⟨k,rfl⟩:=Int.eq_ofNat_of_zero_le hk
 rfl
theorem wu8m (m:Nat):IntKind.wrap .u8 (m:Int)=((m % 256:Nat):Int):=by simp [IntKind.wrap,IntKind.bits,IntKind.signed]
theorem wu32m (m:Nat):IntKind.wrap .u32 (m:Int)=((m % 4294967296:Nat):Int):=by simp [IntKind.wrap,IntKind.bits,IntKind.signed]
theorem wu64m (m:Nat):IntKind.wrap .u64 (m:Int)=((m % 18446744073709551616:Nat):Int):=by simp [IntKind.wrap,IntKind.bits,IntKind.signed]
theorem or128 (m:Nat):(BitVec.toNat (BitVec.ofInt 8 (IntKind.wrap .u8 (m:Int)) ||| BitVec.ofInt 8 128))=m % 128+128:=by
 rw [wu8m,BitVec.ofInt_natCast]
 have h:∀ k:Fin 256,(BitVec.ofNat 8 k.val ||| BitVec.ofInt 8 128).toNat=k.val % 128+128:=by decide +kernel
 have:=h ⟨m % 256,by omega⟩
 rw [this]
 show m % 256 % 128+128=_
 omega
theorem and127 (m:Nat) (hm:m<256):(BitVec.toNat (BitVec.ofInt 8 (m:Int) &&& BitVec.ofInt 8 127))=m % 128:=by
 rw [BitVec.ofInt_natCast]
 have h:∀ k:Fin 256,(BitVec.ofNat 8 k.val &&& BitVec.ofInt 8 127).toNat=k.val % 128:=by decide +kernel
 exact h ⟨m,hm⟩
theorem or64 {n c i:Nat} (hn:n<128 ^ i) (hi:i≤9) (hc:c<256) (h9:i=9→c≤1) :
  IntKind.wrap .u64 (((BitVec.toNat (BitVec.ofInt 64 (n:Int) ||| BitVec.ofInt 64 (IntKind.wrap .u64 (IntKind.wrap .u64 (IntKind.wrap .u8 (((BitVec.toNat (BitVec.ofInt 8 (c:Int) &&& BitVec.ofInt 8 127):Nat):Int)))*2 ^ min (Int.toNat (IntKind.wrap .i64 (7*(i:Int)))) 64))):Nat):Int))=((n+128 ^ i*(c % 128):Nat):Int):=by
 have e1:min (Int.toNat (IntKind.wrap .i64 (7*(i:Int)))) 64=7*i:=by rw [w64 (by omega) (by omega)];omega
 have e2:(2:Nat) ^ (7*i)=128 ^ i:=by rw [Nat.pow_mul]
 have hle:128 ^ i*(c % 128)+128 ^ i≤18446744073709551616:=by
  have hcase:i=0∨i=1∨i=2∨i=3∨i=4∨i=5∨i=6∨i=7∨i=8∨i=9:=by omega
  rcases hcase with rfl|rfl|rfl|rfl|rfl|rfl|rfl|rfl|rfl|rfl <;> simp <;> omega
 rw [and127 c hc,e1,wu8m,wu64m (c % 128 % 256),show c % 128 % 256 % 18446744073709551616=c % 128 by omega]
 have e3:((c % 128:Nat):Int)*2 ^ (7*i)=((128 ^ i*(c % 128):Nat):Int):=by
  rw [← e2,Nat.mul_comm (2 ^ (7*i)),Int.natCast_mul];simp
 rw [e3,wu64m (128 ^ i*(c % 128)),BitVec.ofInt_natCast,BitVec.ofInt_natCast,BitVec.toNat_or,BitVec.toNat_ofNat,BitVec.toNat_ofNat,Nat.mod_eq_of_lt (show n<2 ^ 64 by omega),Nat.mod_mod,Nat.mod_eq_of_lt (show 128 ^ i*(c % 128)<2 ^ 64 by omega)]
 have h5:=Nat.two_pow_add_eq_or_of_lt (i:=7*i) (b:=n) (by rw [e2];exact hn) (c % 128)
 rw [e2] at h5
 rw [Nat.or_comm,← h5,wu64m,Nat.mod_eq_of_lt (by omega),Nat.add_comm]
section
variable {w:World} {l r:List HP} {Q:Post} {S:World→Prop}
theorem wuint_c (n:Nat) (hn:n<18446744073709551616) (hs:Sat w l):Ret P F.a138 #[.int .u64 (n:Int)] w fun vs w'=>∃ z:Sl,vs=[z.v]∧Sat w' (slc T.a34 1 z ((uintL n).flatMap encU)::l) :=
 zf147_calls n <| by
  unfold zf147
  refine wp_mid (fun u w'=>∃ (m:Nat) (z:Sl) (acc:List UInt8),u=((m:Int),z,())∧m<128∧acc.length≤9∧uintL n=acc++[UInt8.ofNat m]∧Sat w' (slc T.a34 1 z (acc.flatMap encU)::l)) ?_ ?_
  ·refine wp_loop (fun k u w=>∃ (z:Sl) (acc:List UInt8),u=((k:Int),z,())∧k<18446744073709551616∧uintL n=acc++uintL k∧Sat w (slc T.a34 1 z (acc.flatMap encU)::l)) n ⟨⟨none,0,0⟩,[],rfl,hn,rfl,hs.slc_nil⟩ ?_
   clear hs
   rintro k _ w ⟨z,acc,rfl,hk,he,hs⟩
   refine wp_on ?_
   have hal:acc.length≤9:=by
    have h1:=congrArg List.length he
    rw [List.length_append] at h1
    have h2:=uintL_len n
    have h3:=uintL_len k
    omega
   refine wp_if (fun h=>?_) fun h=>?_
   ·rw [uintL_eq hk,if_neg (by omega)] at he
    refine wp_ap0 hs (xs:=acc) (enc:=encU) (UInt8.ofNat (k % 128+128)) (fun z w' hs=>?_) ?_
    ·refine wp_ltx (y:=((k / 128:Nat):Int)) ?_ (fdiv_nat k (by decide))
     refine wp_lp (k / 128) ?_
     exact ⟨z,acc++[UInt8.ofNat (k % 128+128)],rfl,by omega,by rw [he];simp,hs⟩
    ·unfold encU
     rw [or128,wu8m]
     simp
   ·rw [uintL_eq hk,if_pos (by omega)] at he
    exact wp_pass (wp_lv ⟨k,z,acc,rfl,by omega,hal,he,hs⟩)
  clear hs
  rintro _ w ⟨m,z,acc,rfl,hm,hal,he,hs⟩
  refine wp_on ?_
  refine wp_ap0 hs (xs:=acc) (enc:=encU) (UInt8.ofNat m) (fun z w' hs=>?_) ?_
  ·refine ⟨rfl,z,rfl,?_⟩
   rw [he];exact hs
  ·unfold encU
   rw [wu8m]
   simp
theorem duint_c:∀ (k n:Nat) {w:World} {l:List HP},n<128 ^ (k+1)→n<18446744073709551616→Sat w l→Ret P F.a103 #[.int .u64 (n:Int)] w fun vs w'=>∃ z:Sl,vs=[z.v]∧Sat w' (slc T.a34 1 z ((uintL n).flatMap encU)::l):=by
 intro k
 induction k with
 | zero =>
  intro n w l hn h64 hs
  refine zf112_calls n ?_
  unfold zf112
  rw [uintL_eq h64,if_pos (by omega)]
  refine wp_ifT ?_ (by omega)
  refine wp_slit1 hs (enc:=encU) (UInt8.ofNat n) (fun z w' hs=>⟨rfl,z,rfl,hs⟩) ?_
  unfold encU
  rw [wu8m];simp
 | succ k ih =>
  intro n w l hn h64 hs
  refine zf112_calls n ?_
  unfold zf112
  rw [uintL_eq h64]
  refine wp_if (fun h=>?_) fun h=>?_
  ·rw [if_pos (by omega)]
   refine wp_slit1 hs (enc:=encU) (UInt8.ofNat n) (fun z w' hs=>⟨rfl,z,rfl,hs⟩) ?_
   unfold encU
   rw [wu8m];simp
  ·rw [if_neg (by omega)]
   have e1:IntKind.wrap .u64 (Int.tmod (n:Int) 128+128)=((n % 128+128:Nat):Int):=by
    rw [tmod_nat n (by decide)]
    have:((n % Int.toNat 128:Nat):Int)+128=((n % 128+128:Nat):Int):=rfl
    rw [this,wu64m];omega
   have e2:IntKind.wrap .u64 (Int.tdiv (n:Int) 128)=((n / 128:Nat):Int):=by
    rw [tdiv_nat n (by decide),wu64m]
    show ((n / 128 % _:Nat):Int)=_
    omega
   rw [e1,e2]
   refine wp_slit1 hs (enc:=encU) (UInt8.ofNat (n % 128+128)) (fun y w' hs=>?_) ?_
   ·refine wp_call (ih (n / 128) (by rw [Nat.pow_succ] at hn;omega) (by omega) hs) fun _ _ hs=>?_
    obtain ⟨z,rfl,hs⟩:=hs
    refine ret_of ?_
    have hl:=uintL_len (n / 128)
    have hs:=hs.pick [1,0]
    refine wp_app' (xs:=[UInt8.ofNat (n % 128+128)]) (ys:=uintL (n / 128)) (enc:=encU) hs (fun z w' hs=>?_) (by simp;omega)
    have hs:Sat _ (slc T.a34 1 z ((UInt8.ofNat (n % 128+128)::uintL (n / 128)).flatMap encU)::_):=hs
    exact ⟨rfl,z,rfl,hs.sub⟩
   ·unfold encU
    rw [wu8m];simp
theorem wjoin_c (x:Sl) (ps:List (Sl × List UInt8)) [hx:FocR l x 1 ((ps.map Prod.fst).flatMap encSl)] (hps:∀ p ∈ ps,FocR l p.1 1 (p.2.flatMap encU)) (hpl:ps.length≤1000000) (hn:(ps.flatMap Prod.snd).length≤1000000000) (hs:Sat w l) :
  Ret P F.a126 #[x.v] w fun vs w'=>∃ z:Sl,vs=[z.v]∧Sat w' (slc T.a34 1 z ((ps.flatMap Prod.snd).flatMap encU)::l) :=
 zf135_calls x <| by
  unfold zf135
  have hl:=hs.slen x (xs:=ps.map Prod.fst) (enc:=encSl)
  rw [List.length_map] at hl
  have hstep:∀ i (hi:i<ps.length),(ps.take (i+1)).flatMap Prod.snd=(ps.take i).flatMap Prod.snd++ps[i].2:=fun i hi=>by
   rw [List.take_add_one,List.getElem?_eq_getElem hi,Option.toList_some,List.flatMap_append,List.flatMap_singleton]
  have hmany:∀ i,((ps.take i).flatMap Prod.snd).length≤1000000000:=fun i=>by
   have:ps.flatMap Prod.snd=(ps.take i).flatMap Prod.snd++(ps.drop i).flatMap Prod.snd:=by rw [← List.flatMap_append,List.take_append_drop]
   rw [this,List.length_append] at hn
   omega
  refine wp_mid (fun u w'=>u=((((ps.flatMap Prod.snd).length:Nat):Int),())∧Sat w' l) ?_ ?_
  ·refine wp_loop (fun k u w=>∃ i:Nat,u=(((((ps.take i).flatMap Prod.snd).length:Nat):Int),(i:Int),())∧i≤ps.length∧ps.length-i=k∧Sat w l) ps.length ⟨0,rfl,by omega,rfl,hs⟩ ?_
   clear hs
   rintro k _ w ⟨i,rfl,hi,hk,hs⟩
   refine wp_on ?_
   refine wp_if (fun hc=>?_) fun hc=>?_
   rotate_left
   ·refine wp_pass (wp_lv ⟨?_,hs⟩)
    rw [List.take_of_length_le (by omega)]
   have hil:i<ps.length:=by omega
   refine wp_ix1 hs (xs:=ps.map Prod.fst) (enc:=encSl) i (by rw [List.length_map];exact hil) ?_
   rw [List.getElem_map]
   have hF:=hps _ (List.getElem_mem hil)
   have hpi:=hs.slen ps[i].1 (xs:=ps[i].2) (enc:=encU)
   have h1:=hmany (i+1)
   have h2:=congrArg List.length (hstep i hil)
   rw [List.length_append] at h2
   have e:IntKind.wrap .i64 (((((ps.take i).flatMap Prod.snd).length:Nat):Int)+((ps[i].1.len:Nat):Int))=((((ps.take (i+1)).flatMap Prod.snd).length:Nat):Int):=by rw [w64 (by omega) (by omega)];omega
   refine wp_lw e ?_
   refine wp_dn (us':=[.int .i64 ((((ps.take (i+1)).flatMap Prod.snd).length:Nat):Int),.int .i64 ((i+1:Nat):Int)]) (by (try simp (disch:=omega) only [w64]);first|rfl|(congr;omega)) ?_
   refine wp_lp (ps.length-(i+1)) ?_
   exact ⟨i+1,rfl,by omega,rfl,hs⟩
  clear hs
  rintro _ w ⟨rfl,hs⟩
  refine wp_on ?_
  refine wp_make (ps.flatMap Prod.snd).length hs fun z w' hs=>?_
  refine wp_mid (fun u w'=>∃ z:Sl,u=(z,())∧Sat w' (slc T.a34 1 z ((ps.flatMap Prod.snd).flatMap encU)::l)) ?_ (by rintro _ w' ⟨z,rfl,hs⟩;refine wp_on ?_;exact ⟨rfl,z,rfl,hs⟩)
  refine wp_loop (fun k u w=>∃ (i:Nat) (z:Sl),u=(z,(i:Int),())∧i≤ps.length∧ps.length-i=k∧Sat w (slc T.a34 1 z (((ps.take i).flatMap Prod.snd).flatMap encU)::l)) ps.length ⟨0,z,rfl,by omega,rfl,hs⟩ ?_
  clear hs
  rintro k _ w ⟨i,z,rfl,hi,hk,hs⟩
  refine wp_on ?_
  refine wp_if (fun hc=>?_) fun hc=>?_
  rotate_left
  ·refine wp_pass (wp_lv ⟨z,rfl,?_⟩)
   rw [List.take_of_length_le (by omega)] at hs
   exact hs
  have hil:i<ps.length:=by omega
  refine wp_ix1 hs (xs:=ps.map Prod.fst) (enc:=encSl) i (by rw [List.length_map];exact hil) ?_
  rw [List.getElem_map]
  have hF:=hps _ (List.getElem_mem hil)
  have h1:=hmany (i+1)
  rw [hstep i hil,List.length_append] at h1
  refine wp_app' (xs:=(ps.take i).flatMap Prod.snd) (ys:=ps[i].2) (enc:=encU) hs (fun z w' hs=>?_)
  rw [← hstep i hil] at hs
  refine wp_dn (us':=[z.v,.int .i64 ((i+1:Nat):Int)]) (by (try simp (disch:=omega) only [w64]);first|rfl|(congr;omega)) ?_
  refine wp_lp (ps.length-(i+1)) ?_
  exact ⟨i+1,z,rfl,by omega,rfl,hs⟩
theorem bclone_c (x:Sl) (bs:List UInt8) [hx:FocR l x 1 (bs.flatMap encU)] (hn:bs.length≤1000000000) (hs:Sat w l) :
  Ret P F.a0 #[x.v] w fun vs w'=>∃ z:Sl,vs=[z.v]∧Sat w' (slc T.a34 1 z (bs.flatMap encU)::l) :=
 zf0_calls x <| by
  unfold zf0
  have hl:=hs.slen x (xs:=bs) (enc:=encU)
  refine wp_if (fun h=>?_) fun h=>?_
  ·have h:x.a=none:=by simpa using h
   have:bs=[]:=by
    obtain ⟨h1,h2|⟨b,off,arr,T',fr,ha,-⟩⟩:=hx.rd w hs
    ·exact List.length_eq_zero_iff.1 (by omega)
    ·rw [h] at ha;cases ha
   subst this
   exact ⟨rfl,⟨none,0,0⟩,rfl,hs.slc_nil⟩
  ·refine wp_slit hs (enc:=encU) [] bs0 (fun b w' hs=>?_)
   refine wp_app' (xs:=[]) (ys:=bs) (enc:=encU) hs (fun z w' hs=>?_) (by simp;omega)
   exact ⟨rfl,z,rfl,hs⟩
structure RdM where
 bs:List UInt8
 at_:Nat
 e:Int
def RdM.fail (R:RdM) (e:Int):RdM:=⟨R.bs,R.at_,if R.e=0 then e else R.e⟩
def RdM.uint (R:RdM):Nat × RdM:=if R.e≠0 then (0,R) else match numR 0 (R.bs.drop R.at_) with
 | some p=>(p.1,⟨R.bs,R.at_+p.2,R.e⟩)
 | none=>(0,⟨R.bs,R.at_,6⟩)
def RdM.done (R:RdM):RdM:=if R.at_<R.bs.length then R.fail 6 else R
def rdP (T':TypeId) (p:Nat) (R:RdM):HP:=HP.ex fun x:Sl=>HP.and (R.at_≤R.bs.length∧R.bs.length≤1000000000) (HP.star (pt p (.cells #[.slice x.a x.len x.cap,.int .i64 R.at_,.int .i64 R.e] T')) (slc T.a34 1 x (R.bs.flatMap encU)))
theorem rd_open {T':TypeId} {p:Nat} {R:RdM} (hs:Sat w (rdP T' p R::l)):∃ x:Sl,(R.at_≤R.bs.length∧R.bs.length≤1000000000)∧Sat w (pt p (.cells #[.slice x.a x.len x.cap,.int .i64 R.at_,.int .i64 R.e] T')::slc T.a34 1 x (R.bs.flatMap encU)::l):=by
 obtain ⟨x,hs⟩:=hs.ex
 obtain ⟨h,hs⟩:=hs.and
 exact ⟨x,h,hs.star⟩
theorem rd_close {T':TypeId} {p:Nat} (R:RdM) {x:Sl} (h:R.at_≤R.bs.length∧R.bs.length≤1000000000) (hs:Sat w (pt p (.cells #[.slice x.a x.len x.cap,.int .i64 R.at_,.int .i64 R.e] T')::slc T.a34 1 x (R.bs.flatMap encU)::l)):Sat w (rdP T' p R::l) :=
 .ex_mk x (.and_mk h (.star_mk hs))
theorem uint_bs (R:RdM):(R.uint.2).bs=R.bs:=by
 unfold RdM.uint
 split
 ·rfl
 ·split <;> rfl
variable {p:Nat} {R:RdM}
theorem newreader_c (x:Sl) (bs:List UInt8) [hx:FocR l x 1 (bs.flatMap encU)] (hn:bs.length≤1000000000) (hs:Sat w l) :
  Ret P F.a127 #[x.v] w fun vs w'=>∃ p:Nat,vs=[.pointer (some ⟨p,0,none⟩)]∧Sat w' (rdP T.a36 p ⟨bs,0,0⟩::l) :=
 zf136_calls x <| by
  unfold zf136
  refine wp_call (bclone_c x bs hn hs) fun _ _ hs=>?_
  obtain ⟨z,rfl,hs⟩:=hs
  refine ret_of ?_
  refine wp_boxO hs fun p w' hs=>?_
  exact ⟨rfl,p,rfl,rd_close ⟨bs,0,0⟩ ⟨Nat.zero_le _,hn⟩ hs⟩
theorem left_c [hf:Fo l (rdP T.a36) p R r] (hs:Sat w l):Ret P F.a140 #[.pointer (some ⟨p,0,none⟩)] w fun vs w'=>vs=[.int .i64 ((R.bs.length-R.at_:Nat):Int)]∧Sat w' (rdP T.a36 p R::r) :=
 zf149_calls _ <| by
  unfold zf149
  obtain ⟨x,hb,hs⟩:=rd_open (hs.perm hf.perm)
  have hl:=hs.slen x (xs:=R.bs) (enc:=encU)
  refine wp_tk hs fun w' hs=>?_
  refine wp_nn ?_
  refine wp_ldO hs ?_
  refine wp_nn ?_
  refine wp_ldO hs ?_
  refine wp_ltx (y:=((R.bs.length-R.at_:Nat):Int)) ?_ (by rw [w64 (by omega) (by omega)];omega)
  refine wp_untick ?_
  exact ⟨rfl,rfl,rd_close R hb hs⟩
theorem pfail_c (e:Int) [hf:Fo l (rdP T.a36) p R r] (hs:Sat w l):Ret P F.a139 #[.pointer (some ⟨p,0,none⟩),.int .i64 e] w fun vs w'=>vs=[]∧Sat w' (rdP T.a36 p (R.fail e)::r) :=
 zf148_calls _ e <| by
  unfold zf148
  obtain ⟨x,hb,hs⟩:=rd_open (hs.perm hf.perm)
  refine wp_nn ?_
  refine wp_ldO hs ?_
  refine wp_mid (fun _ w'=>Sat w' (rdP T.a36 p (R.fail e)::r)) ?_ (by rintro _ w' hs;refine wp_on ?_;exact ⟨rfl,rfl,hs⟩)
  refine wp_if (fun h=>?_) fun h=>?_
  ·refine wp_nn ?_
   refine wp_stO hs fun w' hs=>?_
   refine wp_lv ?_
   have e1:R.fail e=⟨R.bs,R.at_,e⟩:=by unfold RdM.fail;rw [if_pos h]
   rw [e1]
   exact rd_close ⟨R.bs,R.at_,e⟩ hb hs
  ·have e1:R.fail e=R:=by unfold RdM.fail;rw [if_neg h]
   rw [e1]
   exact wp_lv (rd_close R hb hs)
theorem puint_c [hf:Fo l (rdP T.a36) p R r] (he:R.e=0) (hs:Sat w l):Ret P F.a142 #[.pointer (some ⟨p,0,none⟩)] w fun vs w'=>vs=[.int .u64 ((R.uint.1:Nat):Int)]∧Sat w' (rdP T.a36 p R.uint.2::r) :=
 zf151_calls _ <| by
  unfold zf151
  have hs:=hs.perm hf.perm
  refine wp_mid (fun _ w'=>numR 0 (R.bs.drop R.at_)=none∧Sat w' (rdP T.a36 p R::r)) ?_ ?_
  rotate_left
  ·rintro _ w' ⟨hno,hs⟩
   refine wp_on ?_
   refine wp_call (pfail_c (p:=p) 6 hs) fun _ _ hs=>?_
   obtain ⟨rfl,hs⟩:=hs
   refine ret_of ?_
   have e1:R.uint=(0,R.fail 6):=by unfold RdM.uint RdM.fail;rw [if_neg (by rw [he];simp),hno,if_pos he]
   rw [e1]
   exact ⟨rfl,rfl,hs⟩
  refine wp_loop (fun k u w=>∃ i n:Nat,u=((n:Int),(i:Int),())∧i≤10∧10-i=k∧n<128 ^ i∧numR 0 (R.bs.drop R.at_)=(numR i ((R.bs.drop R.at_).drop i)).map (fun q=>(n+128 ^ i*q.1,i+q.2))∧Sat w (rdP T.a36 p R::r)) 10
   ⟨0,0,rfl,by omega,rfl,by simp,by simp,hs⟩ ?_
  clear hs
  rintro k _ w ⟨i,n,rfl,hi,hk,hn,hnum,hs⟩
  refine wp_on ?_
  refine wp_if (fun hc=>?_) fun hc=>?_
  rotate_left
  ·refine wp_pass (wp_lv ⟨?_,hs⟩)
   rw [hnum]
   have:numR i ((R.bs.drop R.at_).drop i)=none:=by
    cases (R.bs.drop R.at_).drop i with
    | nil=>rfl
    | cons c q=>rw [numR_cons,if_pos (by omega)]
   rw [this];rfl
  refine wp_call (left_c (p:=p) hs) fun _ _ hs=>?_
  obtain ⟨rfl,hs⟩:=hs
  refine ret_of ?_
  refine wp_if (fun hc2=>?_) fun hc2=>?_
  ·refine wp_pass (wp_lv ⟨?_,hs⟩)
   rw [hnum,List.drop_drop,List.drop_eq_nil_of_le (by omega)];rfl
  obtain ⟨x,hb,hs⟩:=rd_open hs
  have hl:=hs.slen x (xs:=R.bs) (enc:=encU)
  have hlt:R.at_+i<R.bs.length:=by omega
  refine wp_tk hs fun w' hs=>?_
  refine wp_nn ?_
  refine wp_ldO hs ?_
  refine wp_nn ?_
  refine wp_ldO hs ?_
  refine wp_ix1 hs (xs:=R.bs) (enc:=encU) (R.at_+i) hlt ?_ (by rw [w64 (by omega) (by omega)];omega)
  rw [List.drop_drop,List.drop_eq_getElem_cons hlt] at hnum
  generalize R.bs[R.at_+i]=c at hnum
  have hc256:=c.toNat_lt
  refine wp_lt ?_
  refine wp_untick ?_
  have hz:∀ {X:Option (Nat × Nat)},numR i (c::R.bs.drop (R.at_+i+1))=X→numR 0 (R.bs.drop R.at_)=X.map (fun q=>(n+128 ^ i*q.1,i+q.2)):=fun {X} h=>by rw [hnum,h]
  refine wp_if (fun h9=>?_) fun h9=>?_
  ·refine wp_pass (wp_lv ⟨?_,rd_close R hb hs⟩)
   refine hz (X:=none) ?_
   rw [numR_cons]
   rw [if_pos (by right;omega)]
  refine wp_must (by rw [w64 (by omega) (by omega)];omega) ?_
  have h91:i=9→c.toNat≤1:=fun e=>by
   apply Nat.le_of_not_lt
   intro h
   exact h9 ⟨by omega,by omega⟩
  rw [or64 hn (by omega) (by omega) h91]
  refine wp_lt ?_
  refine wp_if (fun h128=>?_) fun h128=>?_
  ·refine wp_ltx (y:=((i+1:Nat):Int)) ?_ (by rw [w64 (by omega) (by omega)];omega)
   refine wp_lp (10-(i+1)) ?_
   have hpos:0<128 ^ i:=Nat.pow_pos (by decide)
   have hmul:128 ^ i*(c.toNat % 128)≤128 ^ i*127:=Nat.mul_le_mul_left _ (by omega)
   refine ⟨i+1,_,rfl,by omega,rfl,by rw [Nat.pow_succ];omega,?_,rd_close R hb hs⟩
   rw [hnum]
   rw [numR_cons]
   rw [if_neg (by omega),if_pos (by omega),List.drop_drop,← Nat.add_assoc]
   cases numR (i+1) (R.bs.drop (R.at_+i+1)) with
   | none=>rfl
   | some q =>
    simp only [Option.map_some,Option.some.injEq,Prod.mk.injEq]
    refine ⟨?_,by omega⟩
    rw [Nat.pow_succ,Nat.mul_add,Nat.mul_assoc,Nat.add_assoc]
  refine wp_if (fun h0=>?_) fun h0=>?_
  ·refine wp_pass (wp_lv ⟨?_,rd_close R hb hs⟩)
   refine hz (X:=none) ?_
   rw [numR_cons]
   rw [if_neg (by omega),if_neg (by omega),if_pos (by omega)]
  have hsome:=hz (X:=some (c.toNat,1)) (by rw [numR_cons,if_neg (by omega),if_neg (by omega),if_neg (by omega)])
  have e1:R.uint=(n+128 ^ i*c.toNat,⟨R.bs,R.at_+(i+1),R.e⟩):=by
   unfold RdM.uint
   rw [if_neg (by rw [he];simp),hsome];rfl
  rw [e1]
  refine wp_nn ?_
  refine wp_ldO hs ?_
  refine wp_nn ?_
  have e2:IntKind.wrap .i64 ((R.at_:Int)+IntKind.wrap .i64 ((i:Int)+1))=((R.at_+(i+1):Nat):Int):=by rw [w64 (x:=(i:Int)+1) (by omega) (by omega),w64 (by omega) (by omega)];omega
  rw [e2]
  refine wp_stO hs fun w' hs=>?_
  refine wp_lt ?_
  refine wp_pass (wp_pass ⟨rfl,?_,rd_close ⟨R.bs,R.at_+(i+1),R.e⟩ ⟨by show R.at_+(i+1)≤R.bs.length;omega,hb.2⟩ hs⟩)
  rw [show c.toNat % 128=c.toNat by omega]
theorem good_c [hf:Fo l (rdP T.a36) p R r] (hs:Sat w l):Ret P F.a136 #[.pointer (some ⟨p,0,none⟩)] w fun vs w'=>vs=[.bool (decide (R.e=0))]∧Sat w' (rdP T.a36 p R::r) :=
 zf145_calls _ <| by
  unfold zf145
  obtain ⟨x,hb,hs⟩:=rd_open (hs.perm hf.perm)
  refine wp_nng ?_
  refine wp_ldO hs ?_
  refine wp_lt ?_
  refine ⟨rfl,?_,rd_close R hb hs⟩
  by_cases h:R.e=0 <;> simp [h]
theorem ruint_c [hf:Fo l (rdP T.a36) p R r] (hs:Sat w l):Ret P F.a134 #[.pointer (some ⟨p,0,none⟩)] w fun vs w'=>vs=[.int .u64 ((R.uint.1:Nat):Int)]∧Sat w' (rdP T.a36 p R.uint.2::r) :=
 zf143_calls _ <| by
  unfold zf143
  refine wp_call (good_c (p:=p) hs) fun _ _ hs=>?_
  obtain ⟨rfl,hs⟩:=hs
  refine ret_of ?_
  refine wp_if (fun h=>?_) fun h=>?_
  ·have h:R.e≠0:=by simpa using h
   have e1:R.uint=(0,R):=by unfold RdM.uint;rw [if_pos h]
   rw [e1]
   exact ⟨rfl,rfl,hs⟩
  ·have h:R.e=0:=by simpa using h
   refine wp_nn ?_
   refine wp_call (puint_c (p:=p) h hs) fun _ _ hs=>?_
   obtain ⟨rfl,hs⟩:=hs
   refine ret_of ?_
   refine wp_lt ?_
   exact ⟨rfl,rfl,hs⟩
theorem rerr_c [hf:Fo l (rdP T.a36) p R r] (hs:Sat w l):Ret P F.a130 #[.pointer (some ⟨p,0,none⟩)] w fun vs w'=>vs=[.int .i64 R.e]∧Sat w' (rdP T.a36 p R::r) :=
 zf139_calls _ <| by
  unfold zf139
  obtain ⟨x,hb,hs⟩:=rd_open (hs.perm hf.perm)
  refine wp_ifF ?_ (by simp)
  refine wp_nn ?_
  refine wp_ldO hs ?_
  refine wp_lt ?_
  exact ⟨rfl,rfl,rd_close R hb hs⟩
theorem rend_c [hf:Fo l (rdP T.a36) p R r] (hs:Sat w l):Ret P F.a129 #[.pointer (some ⟨p,0,none⟩)] w fun vs w'=>vs=[.int .i64 R.done.e]∧Sat w' (rdP T.a36 p R.done::r) :=
 zf138_calls _ <| by
  unfold zf138
  refine wp_ifF ?_ (by simp)
  refine wp_nn ?_
  refine wp_call (left_c (p:=p) hs) fun _ _ hs=>?_
  obtain ⟨rfl,hs⟩:=hs
  refine ret_of ?_
  refine wp_mid (fun _ w'=>Sat w' (rdP T.a36 p R.done::r)) ?_ ?_
  ·unfold RdM.done
   refine wp_if (fun h=>?_) fun h=>?_
   ·rw [if_pos (by omega)]
    refine wp_nn ?_
    refine wp_call (pfail_c (p:=p) 6 hs) fun _ _ hs=>?_
    obtain ⟨rfl,hs⟩:=hs
    refine ret_of ?_
    exact wp_lv hs
   ·rw [if_neg (by omega)]
    exact wp_lv hs
  clear hs
  rintro _ w hs
  refine wp_on ?_
  obtain ⟨x,hb,hs⟩:=rd_open hs
  refine wp_nn ?_
  refine wp_ldO hs ?_
  refine wp_lt ?_
  exact ⟨rfl,rfl,rd_close R.done hb hs⟩
end
theorem wu64i {n:Int} (h:0≤n∧n<9223372036854775808):IntKind.wrap .u64 n=((n.toNat:Nat):Int):=by
 obtain ⟨m,rfl⟩:=Int.eq_ofNat_of_zero_le h.1
 show IntKind.wrap .u64 ((m:Nat):Int)=_
 rw [wu64m];omega
def uI (n:Int):List UInt8:=uintL n.toNat
theorem uI_len (n:Int):0<(uI n).length∧(uI n).length≤10:=uintL_len _
section
variable {w:World} {l r:List HP} {Q:Post} {S:World→Prop}
theorem wint_c (n:Int) (hn:0≤n∧n<9223372036854775808) (hs:Sat w l):Ret P F.a138 #[.int .u64 (IntKind.wrap .u64 n)] w fun vs w'=>∃ z:Sl,vs=[z.v]∧Sat w' (slc T.a34 1 z ((uI n).flatMap encU)::l):=by
 rw [wu64i hn]
 exact wuint_c n.toNat (by omega) hs
theorem dint_c (n:Int) (hn:0≤n∧n<9223372036854775808) (hs:Sat w l):Ret P F.a103 #[.int .u64 (IntKind.wrap .u64 n)] w fun vs w'=>∃ z:Sl,vs=[z.v]∧Sat w' (slc T.a34 1 z ((uI n).flatMap encU)::l):=by
 rw [wu64i hn]
 exact duint_c 9 n.toNat (by omega) (by omega) hs
theorem wjoin3_c (x a b c:Sl) (aa bs cs:List UInt8) [hx:FocR l x 1 ([a,b,c].flatMap encSl)] [ha:FocR l a 1 (aa.flatMap encU)] [hb:FocR l b 1 (bs.flatMap encU)] [hc:FocR l c 1 (cs.flatMap encU)] (hn:aa.length+bs.length+cs.length≤1000000000) (hs:Sat w l) :
  Ret P F.a126 #[x.v] w fun vs w'=>∃ z:Sl,vs=[z.v]∧Sat w' (slc T.a34 1 z ((aa++(bs++cs)).flatMap encU)::l):=by
 have:=@wjoin_c w l x [(a,aa),(b,bs),(c,cs)] hx (by
  intro p hp
  rcases List.mem_cons.1 hp with rfl|hp
  ·exact ha
  rcases List.mem_cons.1 hp with rfl|hp
  ·exact hb
  ·rw [List.mem_singleton.1 hp];exact hc) (by simp) (by simp;omega) hs
 simpa using this
theorem wjoin4_c (x a b c d:Sl) (aa bs cs ds:List UInt8) [hx:FocR l x 1 ([a,b,c,d].flatMap encSl)] [ha:FocR l a 1 (aa.flatMap encU)] [hb:FocR l b 1 (bs.flatMap encU)] [hc:FocR l c 1 (cs.flatMap encU)] [hd:FocR l d 1 (ds.flatMap encU)]
  (hn:aa.length+bs.length+cs.length+ds.length≤1000000000) (hs:Sat w l) :
  Ret P F.a126 #[x.v] w fun vs w'=>∃ z:Sl,vs=[z.v]∧Sat w' (slc T.a34 1 z ((aa++(bs++(cs++ds))).flatMap encU)::l):=by
 have:=@wjoin_c w l x [(a,aa),(b,bs),(c,cs),(d,ds)] hx (by
  intro p hp
  rcases List.mem_cons.1 hp with rfl|hp
  ·exact ha
  rcases List.mem_cons.1 hp with rfl|hp
  ·exact hb
  rcases List.mem_cons.1 hp with rfl|hp
  ·exact hc
  ·rw [List.mem_singleton.1 hp];exact hd) (by simp) (by simp;omega) hs
 simpa using this
theorem wp_litx {P:Program} {t:TypeId} {sz:Nat} {α:Type} {enc:α→List Value} {n:Nat} {ps:Array (Nat × Value)} {el:TypeId} {bytes:Nat} {k:Sl→Prog} (hs:Sat w l) [ht:SlT P t el sz bytes] [hE:EncN enc sz] (xs:List α)
  (h:∀ x w',Sat w' (slc el sz x (xs.flatMap enc)::l)→(k x).wp P S w' Q) (hc:bsCells P t n ps=some (el,(xs.flatMap enc).toArray):=by kernel_rfl) (hn:xs.length=n:=by rfl) (hS:∀ w',S w':=by exact fun _=>trivial) :
  (Prog.act (Instr.buildSlice t n ps) sL (u1 k)).wp P S w Q:=wp_slit hs xs hc (fun b w' hs=>h _ w' hs) (by simp) hn hS
end
def Rest (R:RdM):List UInt8:=R.bs.drop R.at_
theorem uint_cases {R:RdM} (hb:R.at_≤R.bs.length) :
  (R.e=0∧R.uint.1<18446744073709551616∧R.uint.2.e=0∧R.uint.2.at_≤R.uint.2.bs.length∧R.uint.2.bs=R.bs∧Rest R=uintL R.uint.1++Rest R.uint.2) ∨
  (R.uint.1=0∧R.uint.2.e≠0∧R.uint.2.at_≤R.uint.2.bs.length∧(R.e=0→∀ m z,m<18446744073709551616→Rest R≠uintL m++z)):=by
 unfold RdM.uint Rest
 by_cases h0:R.e=0
 ·rw [if_neg (by rw [h0];simp)]
  cases hn:numR 0 (R.bs.drop R.at_) with
  | none =>
   refine .inr ⟨rfl,(show (6:Int)≠0 by decide),hb,fun _ m z hm he=>?_⟩
   rw [he,num_uintL hm] at hn
   cases hn
  | some p =>
   obtain ⟨v,k⟩:=p
   obtain ⟨h1,h2⟩:=num_invL hn
   have h3:=numR_len _ _ _ _ hn
   rw [List.length_drop] at h3
   refine .inl ⟨h0,h2,h0,by show R.at_+k≤R.bs.length;omega,rfl,?_⟩
   show R.bs.drop R.at_=uintL v++R.bs.drop (R.at_+k)
   rw [← h1,← List.drop_drop,List.take_append_drop]
 ·rw [if_pos h0]
  exact .inr ⟨rfl,h0,hb,fun h=>absurd h h0⟩
theorem rest_len {R:RdM}:(Rest R).length=R.bs.length-R.at_:=by unfold Rest;rw [List.length_drop]
theorem rd_bound {w:World} {l:List HP} {T':TypeId} {p:Nat} {R:RdM} (hs:Sat w (rdP T' p R::l)):R.at_≤R.bs.length∧R.bs.length≤1000000000:=by
 obtain ⟨x,h,-⟩:=rd_open hs
 exact h
theorem done_cases {R:RdM} (hb:R.at_≤R.bs.length):R.done.e=0↔R.e=0∧Rest R=[]:=by
 have hl:=rest_len (R:=R)
 unfold RdM.done RdM.fail
 by_cases h:R.at_<R.bs.length
 ·rw [if_pos h]
  constructor
  ·intro h2
   by_cases h3:R.e=0
   ·simp [h3] at h2
   ·simp [h3] at h2
  ·rintro ⟨-,h2⟩
   rw [h2] at hl;simp at hl;omega
 ·rw [if_neg h]
  exact ⟨fun h2=>⟨h2,List.length_eq_zero_iff.1 (by omega)⟩,fun h2=>h2.1⟩
def zig (n:Int):Nat:=if 0≤n then (2*n).toNat else (-2*n-1).toNat
def zag (m:Nat):Int:=if m % 2=1 then -((m / 2:Nat):Int)-1 else ((m / 2:Nat):Int)
def sintL (n:Int):List UInt8:=uintL (zig n)
theorem zag_zig (n:Int):zag (zig n)=n:=by
 unfold zag zig
 split <;> split <;> omega
theorem zig_zag (m:Nat):zig (zag m)=m:=by
 unfold zag zig
 split <;> split <;> omega
theorem zig_lt {n:Int} (h : -9223372036854775808≤n∧n<9223372036854775808):zig n<18446744073709551616:=by
 unfold zig
 split <;> omega
theorem sintL_len (n:Int):0<(sintL n).length∧(sintL n).length≤10:=uintL_len _
theorem xor_zero (x:BitVec 64):x ^^^ BitVec.ofInt 64 0=x:=by
 have:BitVec.ofInt 64 0=0#64:=by decide
 rw [this,BitVec.xor_zero]
theorem xor_ones (x:BitVec 64) {n:Int} (hn:BitVec.ofInt 64 n=BitVec.allOnes 64):(x ^^^ BitVec.ofInt 64 n).toNat=18446744073709551615-x.toNat:=by
 rw [hn,BitVec.xor_allOnes,BitVec.toNat_not]
theorem toNat_ofInt (n:Int):(BitVec.ofInt 64 n).toNat=(n % 18446744073709551616).toNat:=by rw [BitVec.toNat_ofInt];rfl
theorem wrap_u64 (n:Int):IntKind.wrap .u64 n=n % 18446744073709551616:=by simp [IntKind.wrap,IntKind.bits,IntKind.signed]
theorem fdiv63 {n:Int} (h : -9223372036854775808≤n∧n<9223372036854775808):Int.fdiv n 9223372036854775808=if 0≤n then 0 else -1:=by
 rw [Int.fdiv_eq_ediv_of_nonneg _ (by omega)]
 split <;> omega
theorem zig_bits {n:Int} (h : -9223372036854775808≤n∧n<9223372036854775808) :
  (BitVec.toNat (BitVec.ofInt 64 (IntKind.wrap .u64 (IntKind.wrap .u64 n*2)) ^^^ BitVec.ofInt 64 (IntKind.wrap .u64 (Int.fdiv n 9223372036854775808))))=zig n:=by
 rw [fdiv63 h,wrap_u64,wrap_u64]
 unfold zig
 by_cases h0:0≤n
 ·rw [if_pos h0,if_pos h0,wrap_u64,Int.zero_emod,xor_zero,toNat_ofInt];omega
 ·rw [if_neg h0,if_neg h0,xor_ones _ (by rw [wrap_u64];decide),toNat_ofInt];omega
theorem zag_bits {m:Nat} (h:m<18446744073709551616) :
  IntKind.wrap .i64 (((BitVec.toNat (BitVec.ofInt 64 (IntKind.wrap .i64 (Int.fdiv (m:Int) 2)) ^^^ BitVec.ofInt 64 (IntKind.wrap .i64 (0-IntKind.wrap .i64 (IntKind.wrap .u64 (((BitVec.toNat (BitVec.ofInt 64 (m:Int) &&& BitVec.ofInt 64 1):Nat):Int)))))):Nat):Int))=zag m:=by
 have e1:(BitVec.toNat (BitVec.ofInt 64 (m:Int) &&& BitVec.ofInt 64 1))=m % 2:=by
  rw [BitVec.toNat_and,toNat_ofInt,toNat_ofInt]
  have h1:((m:Int) % 18446744073709551616).toNat=m:=by omega
  have h2:((1:Int) % 18446744073709551616).toNat=1:=by decide
  rw [h1,h2,Nat.and_one_is_mod]
 have e2:Int.fdiv (m:Int) 2=((m / 2:Nat):Int):=by rw [Int.fdiv_eq_ediv_of_nonneg _ (by omega)];omega
 rw [e1,e2,wrap_u64,w64 (x:=((m / 2:Nat):Int)) (by omega) (by omega)]
 unfold zag
 by_cases h0:m % 2=1
 ·rw [if_pos h0,h0]
  have e3:IntKind.wrap .i64 (0-IntKind.wrap .i64 ((((1:Nat):Int)) % 18446744073709551616)) = -1:=by decide
  rw [e3,xor_ones _ (by decide),toNat_ofInt]
  have e4:((((m / 2:Nat):Int)) % 18446744073709551616).toNat=m / 2:=by omega
  rw [e4]
  have e5:IntKind.wrap .i64 ((18446744073709551615-m / 2:Nat):Int) = -((m / 2:Nat):Int)-1:=by
   rw [wrap_eq];split <;> omega
  exact e5
 ·rw [if_neg h0]
  have h2:m % 2=0:=by omega
  rw [h2]
  have e3:IntKind.wrap .i64 (0-IntKind.wrap .i64 ((((0:Nat):Int)) % 18446744073709551616))=0:=by decide
  rw [e3,xor_zero,toNat_ofInt]
  have e4:((((m / 2:Nat):Int)) % 18446744073709551616).toNat=m / 2:=by omega
  rw [e4,w64 (by omega) (by omega)]
def RdM.within (R:RdM) (lo hi:Int):Int × RdM :=
 if R.uint.2.e≠0 then (0,R.uint.2) else if zag R.uint.1<lo∨zag R.uint.1>hi then (0,⟨R.bs,R.at_,8⟩) else (zag R.uint.1,R.uint.2)
theorem uint_err {R:RdM} (h:R.e≠0):R.uint=(0,R):=by unfold RdM.uint;rw [if_pos h]
section
variable {w:World} {l r:List HP} {p:Nat} {R:RdM}
theorem wsint_c (n:Int) (hn : -9223372036854775808≤n∧n<9223372036854775808) (hs:Sat w l):Ret P F.a125 #[.int .i64 n] w fun vs w'=>∃ z:Sl,vs=[z.v]∧Sat w' (slc T.a34 1 z ((sintL n).flatMap encU)::l) :=
 zf134_calls n <| by
  unfold zf134 sintL
  have hz:=zig_lt hn
  rw [zig_bits hn]
  generalize zig n=m at hz ⊢
  rw [wu64m,Nat.mod_eq_of_lt hz]
  refine wp_call (wuint_c m hz hs) fun _ _ hs=>?_
  obtain ⟨z,rfl,hs⟩:=hs
  refine ret_of ?_
  exact ⟨rfl,z,rfl,hs⟩
theorem dsint_c (n:Int) (hn : -9223372036854775808≤n∧n<9223372036854775808) (hs:Sat w l):Ret P F.a101 #[.int .i64 n] w fun vs w'=>∃ z:Sl,vs=[z.v]∧Sat w' (slc T.a34 1 z ((sintL n).flatMap encU)::l) :=
 zf110_calls n <| by
  unfold zf110
  have hz:=zig_lt hn
  refine wp_if (fun h=>?_) fun h=>?_
  ·have e:IntKind.wrap .u64 (2*IntKind.wrap .u64 n)=((zig n:Nat):Int):=by
    rw [wrap_u64,wrap_u64];unfold zig;rw [if_pos (by omega)];omega
   rw [e]
   refine wp_call (duint_c 9 (zig n) (by omega) hz hs) fun _ _ hs=>?_
   obtain ⟨z,rfl,hs⟩:=hs
   refine ret_of ?_
   exact ⟨rfl,z,rfl,hs⟩
  ·have e:IntKind.wrap .u64 (IntKind.wrap .u64 (2*IntKind.wrap .u64 (IntKind.wrap .i64 (0-IntKind.wrap .i64 (n+1))))+1)=((zig n:Nat):Int):=by
    rw [w64 (x:=n+1) (by omega) (by omega),w64 (by omega) (by omega),wrap_u64,wrap_u64,wrap_u64];unfold zig;rw [if_neg (by omega)];omega
   rw [e]
   refine wp_call (duint_c 9 (zig n) (by omega) hz hs) fun _ _ hs=>?_
   obtain ⟨z,rfl,hs⟩:=hs
   refine ret_of ?_
   exact ⟨rfl,z,rfl,hs⟩
theorem rint_c [hf:Fo l (rdP T.a36) p R r] (hs:Sat w l):Ret P F.a132 #[.pointer (some ⟨p,0,none⟩)] w fun vs w'=>vs=[.int .i64 (zag R.uint.1)]∧Sat w' (rdP T.a36 p R.uint.2::r) :=
 zf141_calls _ <| by
  unfold zf141
  have hb:=(rd_bound (hs.perm hf.perm)).1
  have hlt:R.uint.1<18446744073709551616:=by rcases uint_cases hb with h|h <;> omega
  refine wp_call (ruint_c (p:=p) hs) fun _ _ hs=>?_
  obtain ⟨rfl,hs⟩:=hs
  refine ret_of ?_
  refine wp_lt ?_
  rw [zag_bits hlt]
  refine wp_lt ?_
  exact ⟨rfl,rfl,hs⟩
theorem rwithin_c (lo hi:Int) [hf:Fo l (rdP T.a36) p R r] (hs:Sat w l):Ret P F.a135 #[.pointer (some ⟨p,0,none⟩),.int .i64 lo,.int .i64 hi] w fun vs w'=>vs=[.int .i64 (R.within lo hi).1]∧Sat w' (rdP T.a36 p (R.within lo hi).2::r) :=
 zf144_calls _ lo hi <| by
  unfold zf144
  have hb0:=rd_bound (hs.perm hf.perm)
  refine wp_call (good_c (p:=p) hs) fun _ _ hs=>?_
  obtain ⟨rfl,hs⟩:=hs
  refine ret_of ?_
  refine wp_if (fun h=>?_) fun h=>?_
  ·have h:R.e≠0:=by simpa using h
   unfold RdM.within
   rw [uint_err h,if_pos h]
   exact ⟨rfl,rfl,hs⟩
  have h:R.e=0:=by simpa using h
  obtain ⟨x,hb,hs⟩:=rd_open hs
  refine wp_nn ?_
  refine wp_ldO hs ?_
  refine wp_lt ?_
  have hs:Sat _ (rdP T.a36 p R::r):=rd_close R hb hs
  refine wp_call (rint_c (p:=p) hs) fun _ _ hs=>?_
  obtain ⟨rfl,hs⟩:=hs
  refine ret_of ?_
  refine wp_lt ?_
  have hbs:=uint_bs R
  unfold RdM.within
  have hb2:=rd_bound hs
  generalize R.uint.1=m at *
  generalize R.uint.2=R1 at *
  obtain ⟨x,-,hs⟩:=rd_open hs
  refine wp_nn ?_
  refine wp_ldO hs ?_
  refine wp_mid (fun _ w'=>Sat w' (rdP T.a36 p (if R1.e≠0 then R1 else if zag m<lo∨zag m>hi then ⟨R.bs,R.at_,8⟩ else R1)::r)) ?_ ?_
  ·refine wp_if (fun h2=>?_) fun h2=>?_
   ·obtain ⟨h3,h4⟩:=h2
    have e:(if R1.e≠0 then R1 else if zag m<lo∨zag m>hi then (⟨R.bs,R.at_,8⟩:RdM) else R1)=⟨R.bs,R.at_,8⟩:=by rw [if_neg (by rw [h3];simp),if_pos h4]
    refine wp_nn ?_
    refine wp_stO hs fun w' hs=>?_
    refine wp_nn ?_
    have hs:Sat w' (rdP T.a36 p ⟨R.bs,R.at_,0⟩::r):=rd_close (x:=x) ⟨R.bs,R.at_,0⟩ hb0 (by rw [hbs,h3] at hs;exact hs)
    refine wp_call (pfail_c (p:=p) 8 hs) fun _ w' hs=>?_
    obtain ⟨rfl,hs⟩:=hs
    refine ret_of ?_
    refine wp_lv ?_
    rw [e]
    exact hs
   ·refine wp_lv ?_
    have e:(if R1.e≠0 then R1 else if zag m<lo∨zag m>hi then (⟨R.bs,R.at_,8⟩:RdM) else R1)=R1:=by
     by_cases h3:R1.e=0
     ·rw [if_neg (by rw [h3];simp),if_neg (fun h4=>h2 ⟨h3,h4⟩)]
     ·rw [if_pos h3]
    rw [e]
    exact rd_close R1 hb2 hs
  clear hs
  rintro _ w hs
  refine wp_on ?_
  by_cases h3:R1.e=0
  ·rw [if_neg (by rw [h3];simp)] at hs ⊢
   by_cases h4:zag m<lo∨zag m>hi
   ·rw [if_pos h4] at hs ⊢
    obtain ⟨x,-,hs⟩:=rd_open hs
    refine wp_nn ?_
    refine wp_ldO hs ?_
    refine wp_ifT ?_ (by simp)
    exact ⟨rfl,rfl,rd_close ⟨R.bs,R.at_,8⟩ hb0 hs⟩
   ·rw [if_neg h4] at hs ⊢
    obtain ⟨x,-,hs⟩:=rd_open hs
    refine wp_nn ?_
    refine wp_ldO hs ?_
    refine wp_ifF ?_ (by rw [h3];simp)
    refine wp_lt ?_
    exact ⟨rfl,rfl,rd_close R1 hb2 hs⟩
  ·rw [if_pos h3] at hs ⊢
   obtain ⟨x,-,hs⟩:=rd_open hs
   refine wp_nn ?_
   refine wp_ldO hs ?_
   refine wp_ifT ?_ h3
   exact ⟨rfl,rfl,rd_close R1 hb2 hs⟩
end
end Go.Dec
