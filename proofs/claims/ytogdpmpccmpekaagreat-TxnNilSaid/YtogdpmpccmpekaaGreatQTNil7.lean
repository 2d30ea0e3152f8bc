/- What the claim of this folder leans on: our own texts, joined, without what it does not use. -/
import Derived.Test.YtogdpmpccmpekaaGreatQTNil6
set_option linter.unusedVariables false
set_option linter.unusedSimpArgs false
namespace Go.Dec
def z085 (id:ByteArray) (pid epoch:Int) (now:Int):Prog :=
.bind 1 [.one .str] (
Aa (decide (((ByteArray.size id:Nat):Int)>30)) (
.must ((0:Int)<=30/\30<=((ByteArray.size id:Nat):Int)) <|
Be (ByteArray.extract id 0 30) λs0=>
Ab 1 [.string s0])<|
Ab 1 [.string id]) (u1 λs1=>
.call F.a186 [Ad none,.string s1,Ac pid,Ac 1,Ac now] (.tup [.one (.int .i64),.one (.int .i64),.one (.int .i64)]) (u3 λ(n2 n3 n4:Int)=>
Al n2 λn5=>
Al n3 λn6=>
Al n4 λn7=>
Ax F.a185 [Ad none,Ac pid,Ac epoch,.bool true,Ac now] λn8 n9=>
Al n8 λn10=>
Al n9 λn11=>
Ax F.a191 [Ad none,Ac now] λn12 n13=>
Al n12 λn14=>
Al n13 λn15=>
.call F.a189 [Ad none,Ac pid] (.tup [.agg [.str,.int .i64,.int .i64,.int .i64,.int .i64,.slc,.int .i64,.int .i64,.int .i64],.one .bool]) (u10 λs16 (n17 n18 n19 n20:Int) l21 (n22 n23 n24:Int) b25=>
AH T.a61 λa26=>
AK T.a61 a26 (BZ s16 n17 n18 n19 n20 l21 n22 n23 n24)<|
Aj b25 λb27=>
AB 1 (
Aa (n7 == 1 && n11 == 1 && n15 == 1 && not b27) (
Bc (Instr.buildSlice T.a44 1 #[(0,Ac 0)]) λl28=>
Am F.a183 [Ad none,Ac pid,Ac epoch,Ac now,l28.v] λn29=>
Aa (n29 == 1) (
Am F.a187 [Ad none,Ac pid,Ac epoch,Ac 0,Ac now] λn30=>
Aa (n30 == 1) (
AO F.a188 [Ad none] λl31=>
Aa ((Ak l31) == 0) (
AO F.a190 [Ad none] λl32=>
Aa ((Ak l32) == 0) (
AA F.a184 [Ad none,Ac pid,Ac epoch] λb33=>
Aa (not b33) (
AA F.a180 [] λb34=>
Aj b34 λb35=>
Ab 1 [.bool b35])<|
Ab 1 [.bool false])<|
Ab 1 [.bool false])<|
Ab 1 [.bool false])<|
Ab 1 [.bool false])<|
Ab 1 [.bool false])<|
Ab 1 [.bool false]) λb36=>
Ab 0 [.bool b36])))
theorem zs8 (id:ByteArray) (pid epoch now:Int):FnS (z085 id pid epoch now) F.a179 #[.string id,.int .i64 pid,.int .i64 epoch,.int .i64 now]:=dV ⟨[(51539611669,[(0,.one .str)])],[],[(8,[(8,.one .bool)])],[]⟩ Go.Proofs.Tryz.func9 (by kernel_rfl)
def z91  : Prog :=
.act (new T.a38) sA (u1 λa0 =>
.actU (st T.a38 a0 (.agg #[.int .i64 300,.int .i64 90,.int .i64 1])) <|
.read True (ld T.a38 a0) (sG [.int .i64,.int .i64,.int .i64]) (u3 λ(n1 n2 n3:Int) =>
.done 0 [.agg #[.int .i64 n1,.int .i64 n2,.int .i64 n3]]))
theorem zak :FnS (z91 ) F.a181 #[]:=dV ⟨[],[],[],[]⟩ Go.Proofs.Tryz.func26 (by kernel_rfl)
def z08l (l:Option Addr) (c_0 c_1:Int) (c_2:Int):Prog :=
Af T.a58 (B9 c_0 c_1 c_2) λa0=>
AP (Option.isNone l) (
Ab 0 [Ad none,Ac 1])<|
AR T.a13 a0 0 λn2=>
AD (decide (n2<1)=false) T.a13 a0 0 λn3=>
AD ((decide (n2<1) || decide (n3>256))=false) T.a13 a0 1 λn4=>
AD ((decide (n2<1) || decide (n3>256) || decide (n4<1))=false) T.a13 a0 1 λn5=>
AD ((decide (n2<1) || decide (n3>256) || decide (n4<1) || decide (n5>1024))=false) T.a13 a0 2 λn6=>
AD ((decide (n2<1) || decide (n3>256) || decide (n4<1) || decide (n5>1024) || decide (n6<0))=false) T.a13 a0 2 λn7=>
AP (decide (n2<1) || decide (n3>256) || decide (n4<1) || decide (n5>1024) || decide (n6<0) || decide (n7>32767)) (
Ab 0 [Ad none,Ac 2])<|
BE T.a58 a0 λn9 n10 n11=>
Ae (Instr.makeMap T.a26 none) λm12=>
Ae (Instr.makeMap T.a22 none) λm13=>
Ae (Instr.makeMap T.a23 none) λm14=>
Af T.a59 (.agg #[Ad l,Ac n9,Ac n10,Ac n11,.map m12,.map m13,.map m14]) λa15=>
AO F.a67 [Ad l,.string (ByteArray.mk #[116]),.string (ByteArray.mk #[117]),Ac 1048576] λl16=>
Az 1 (
AW 2 (0,()) λn17=>
Aa (decide (n17<(Ak l16))) (
.ex [.adr] (c1 λa18=>0<=n17/\n17<(Ak l16)/\l16.a=some a18) (u1 λa19=>
BJ T.a40 a19 (Int.toNat n17*5) λn20 s21 s22 b23 n24=>
AH T.a40 λa25=>
AK T.a40 a25 (BK n20 s21 s22 b23 n24)<|
Bd T.a57 (Addr.add a25 1) 0 λs26=>
Bd T.a57 (Addr.add a25 1) 1 λs27=>
.call F.a200 [Ag a15,.string s26,.string s27] (.tup [.one .ptr,.one .bool]) (u2 λp28 b29=>
Aj b29 λb30=>
AC<|
AI (b30=true) T.a22 a15 5 λm31=>
Ah (b30=true) p28 λa33=>
AD (b30=true) T.a14 (Addr.add a33 0) 1 λn34=>
AJ (b30=true) (Instr.lookup T.a22 (.map m31) (Ac n34) false) λp35=>
AE<|
Az 3 (
Aa (b30 && Option.isNone p35) (
An F.a201 [Ag a15,Ad p28]<|
Ab 3 [])<|
Ab 3 [])<|
Ab 2 [Ac (Av (n17+1))])))<|
Ab 1 [])<|
Ab 0 [Ag a15,Ac 0]
theorem zsp (l:Option Addr) (c_0 c_1 c_2:Int):FnS (z08l l c_0 c_1 c_2) F.a203 #[.pointer l,.agg #[.int .i64 c_0,.int .i64 c_1,.int .i64 c_2]]:=dV ⟨[(138649284399962590788701913169,[])],[(1,[])],[],[(1,[(53,.one (.int .i64))])]⟩ Go.Proofs.Tryz.func27 (by kernel_rfl)
def za1  : Prog :=
.call F.a38 [.int .i64 65536] (.tup [.one .ptr,.one (.int .i64)]) (u2 λp0 (n1:Int) =>
.lt (.int .i64) (n1) λ(n2:Int) =>
.call F.a182 [.pointer p0,.agg #[.int .i64 2,.int .i64 4,.int .i64 100]] (.tup [.one .ptr,.one (.int .i64)]) (u2 λp3 (n4:Int) =>
.lt (.int .i64) (n4) λ(n5:Int) =>
.ite (n5 != 0 || Option.isNone p3) (
.done 0 [.bool false]) (
.call F.a186 [.pointer p3,.string (ByteArray.mk #[97]),.int .i64 5,.int .i64 100,.int .i64 0] (.tup [.one (.int .i64),.one (.int .i64),.one (.int .i64)]) (u3 λ(n6 n7 n8:Int) =>
.lt (.int .i64) (n6) λ(n9:Int) =>
.lt (.int .i64) (n7) λ(n10:Int) =>
.lt (.int .i64) (n8) λ(n11:Int) =>
.act (Instr.buildSlice T.a44 1 #[(0,.int .i64 1)]) sL (u1 λl12 =>
.call F.a183 [.pointer p3,.int .i64 1,.int .i64 0,.int .i64 1,l12.v] (sI .i64) (u1 λ(n13:Int) =>
.lt (.int .i64) (n13) λ(n14:Int) =>
.call F.a185 [.pointer p3,.int .i64 1,.int .i64 0,.bool true,.int .i64 2] (.tup [.one (.int .i64),.one (.int .i64)]) (u2 λ(n15 n16:Int) =>
.lt (.int .i64) (n15) λ(n17:Int) =>
.lt (.int .i64) (n16) λ(n18:Int) =>
.call F.a188 [.pointer p3] sL (u1 λl19 =>
.call F.a187 [.pointer p3,.int .i64 1,.int .i64 0,.int .i64 1,.int .i64 3] (sI .i64) (u1 λ(n20:Int) =>
.call F.a185 [.pointer p3,.int .i64 1,.int .i64 0,.bool true,.int .i64 4] (.tup [.one (.int .i64),.one (.int .i64)]) (u2 λ(n21 n22:Int) =>
.lt (.int .i64) (n21) λ(n23:Int) =>
.lt (.int .i64) (n22) λ(n24:Int) =>
.call F.a186 [.pointer p3,.string (ByteArray.mk #[97]),.int .i64 6,.int .i64 100,.int .i64 5] (.tup [.one (.int .i64),.one (.int .i64),.one (.int .i64)]) (u3 λ(n25 n26 n27:Int) =>
.lt (.int .i64) (n25) λ(n28:Int) =>
.lt (.int .i64) (n26) λ(n29:Int) =>
.lt (.int .i64) (n27) λ(n30:Int) =>
.call F.a188 [.pointer p3] sL (u1 λl31 =>
.call F.a187 [.pointer p3,.int .i64 1,.int .i64 1,.int .i64 0,.int .i64 5] (sI .i64) (u1 λ(n32:Int) =>
.call F.a187 [.pointer p3,.int .i64 1,.int .i64 1,.int .i64 1,.int .i64 5] (sI .i64) (u1 λ(n33:Int) =>
.call F.a186 [.pointer p3,.string (ByteArray.mk #[97]),.int .i64 6,.int .i64 100,.int .i64 6] (.tup [.one (.int .i64),.one (.int .i64),.one (.int .i64)]) (u3 λ(n34 n35 n36:Int) =>
.lt (.int .i64) (n34) λ(n37:Int) =>
.lt (.int .i64) (n35) λ(n38:Int) =>
.lt (.int .i64) (n36) λ(n39:Int) =>
.call F.a186 [.pointer p3,.string (ByteArray.mk #[97]),.int .i64 5,.int .i64 100,.int .i64 8] (.tup [.one (.int .i64),.one (.int .i64),.one (.int .i64)]) (u3 λ(n40 n41 n42:Int) =>
.lt (.int .i64) (n40) λ(n43:Int) =>
.lt (.int .i64) (n41) λ(n44:Int) =>
.lt (.int .i64) (n42) λ(n45:Int) =>
.ex [.adr] (c1 λa46=>(n9 != 1 || n10 != 0 || n11 != 0 || n14 != 0 || n18 != 23 || ((l19.len:Nat):Int) != 1)=false->(0:Int)<=0/\0<((l19.len:Nat):Int)/\l19.a=some a46) (u1 λa47 =>
.read ((n9 != 1 || n10 != 0 || n11 != 0 || n14 != 0 || n18 != 23 || ((l19.len:Nat):Int) != 1)=false) (ld T.a60 (Addr.add a47 0)) (sG [.int .i64,.int .i64,.int .i64,.bool]) (u4 λ(n48 n49 n50:Int) b51 =>
.ite (n9 != 1 || n10 != 0 || n11 != 0 || n14 != 0 || n18 != 23 || ((l19.len:Nat):Int) != 1 || not (n48 == 1 && (n49 == 0 && (n50 == 1 && b51 == true)))) (
.done 0 [.bool false]) (
.bind 1 [.one .bool] (
.ex [.adr] (c1 λa52=>(n23 == 1 && n24 == 0 && n30 == 23 && ((l31.len:Nat):Int) == 2)=true->(0:Int)<=1/\1<((l31.len:Nat):Int)/\l31.a=some a52) (u1 λa53 =>
.read ((n23 == 1 && n24 == 0 && n30 == 23 && ((l31.len:Nat):Int) == 2)=true) (ld T.a60 (Addr.add a53 4)) (sG [.int .i64,.int .i64,.int .i64,.bool]) (u4 λ(n54 n55 n56:Int) b57 =>
.ite (n23 == 1 && n24 == 0 && n30 == 23 && ((l31.len:Nat):Int) == 2 && (n54 == 1 && (n55 == 1 && (n56 == 1 && b57 == false))) && n37 == 1 && n38 == 2 && n39 == 0) (
.act (Instr.buildSlice T.a44 1 #[(0,.int .i64 0)]) sL (u1 λl58 =>
.call F.a183 [.pointer p3,.int .i64 1,.int .i64 1,.int .i64 7,l58.v] (sI .i64) (u1 λ(n59:Int) =>
.lt (.bool) (n59 == 20 && n45 == 20) λb60 =>
.done 1 [.bool b60]))) (
.done 1 [.bool false])))) (u1 λb61 =>
.done 0 [.bool b61]))))))))))))))))))))
theorem zbm :FnS (za1 ) F.a180 #[]:=dV ⟨[],[],[(19,[(0,.one .bool)])],[]⟩ Go.Proofs.Tryz.func29 (by kernel_rfl)
def zxv (x:Option Addr):Prog :=
Aa (Option.isNone x) (
Ab 0 [.slice none 0 0])<|
AO F.a198 [Ad x] λl0=>
Bf 1 (
Br 2 (⟨none,0,0⟩,(0,())) λl1 n2=>
Aa (decide (n2<(Ak l0))) (
Bf 3 (
.ex [.adr] (c1 λa3=>0<=n2/\n2<(Ak l0)/\l0.a=some a3) (u1 λa4=>
AR T.a14 a4 (Int.toNat n2*1) λn5=>
Al n5 λn6=>
Ao x λa8=>
Ap T.a22 a8 5 λm9=>
Aq (Instr.lookup T.a22 (.map m9) (Ac n6) false) λp10=>
Ao x λa12=>
Ap T.a23 a12 6 λm13=>
.read True (Instr.lookup T.a23 (.map m13) (Ac n6) false) sL (u1 λl14=>
Bf 4 (
Br 5 ({ a:=l1.a,len:=l1.len,cap:=l1.cap },(0,())) λl15 n16=>
Aa (decide (n16<(Ak l14))) (
.ex [.adr] (c1 λa17=>0<=n16/\n16<(Ak l14)/\l14.a=some a17) (u1 λa18=>
AR T.a13 a18 (Int.toNat n16*1) λn19=>
Al n19 λn20=>
Bf 6 (
AC<|
Ao p10 λa22=>
AR T.a13 (Addr.add a22 0) 2 λn23=>
Ao p10 λa25=>
AR T.a13 (Addr.add a25 0) 4 λn26=>
Bc (Instr.buildSlice T.a51 1 #[(0,.agg #[Ac n6,Ac n23,Ac n20,.bool (n26 == 2)])]) λl27=>
Bc (app T.a51 T.a51 T.a51 l15.v l27.v) λl28=>
AE<|
Ab 6 [l28.v]) λl29=>
Ab 5 [l29.v,Ac (Av (n16+1))]))<|
Ab 4 [l15.v]) λl30=>
Ab 3 [l30.v]))) λl31=>
Ab 2 [l31.v,Ac (Av (n2+1))])<|
Ab 1 [l1.v]) λl32=>
Ab 0 [l32.v]
theorem zha (x:Option Addr):FnS (zxv x) F.a188 #[.pointer x]:=dV ⟨[],[(0,[(3,.one .slc)]),(1,[(3,.one .slc)]),(2,[(3,.one .slc)])],[(11,[(3,.one .slc)])],[(0,[(3,.one .slc),(14,.one (.int .i64))]),(2,[(3,.one .slc),(31,.one (.int .i64))])]⟩ Go.Proofs.Tryz.func39 (by kernel_rfl)
def zxu (x:Option Addr) (pid epoch part:Int) (now:Int):Prog :=
AP (Option.isNone x) (
Ab 0 [Ac 1])<|
AA F.a205 [Ac now] λb1=>
AP (not b1) (
Ab 0 [Ac 2])<|
Ao x λa4=>
Ap T.a22 a4 5 λm5=>
Aq (Instr.lookup T.a22 (.map m5) (Ac pid) false) λp6=>
Aa (Option.isNone p6) (
Ab 0 [Ac 3])<|
Ao x λa8=>
Ap T.a23 a8 6 λm9=>
.read True (Instr.lookup T.a23 (.map m9) (Ac pid) false) sL (u1 λl10=>
Am F.a142 [l10.v,Ac part] λn11=>
Al n11 λn12=>
Ao p6 λa14=>
AR T.a13 (Addr.add a14 0) 2 λn15=>
Aa (epoch != n15 || decide (n12<0)) (
Ab 0 [Ac 0])<|
Aa ((Ak l10) == 1) (
B2 F.a195 [Ad x,Ad p6] λp16=>
Am F.a199 [Ad x,Ad p16,Ac now] λn17=>
Al n17 λn18=>
Ab 0 [Ac n18])<|
Az 1 (
AC<|
Ao x λa20=>
BQ T.a23 a20 6 λm21=>
AO F.a135 [l10.v] λl22=>
AO F.a139 [l22.v,Ac n12,Ac (Av (n12+1))] λl23=>
AE<|
Bb (Instr.mapUpdate T.a23 (.map m21) (Ac pid) l23.v)<|
AE<|
Ab 1 [])<|
Ab 0 [Ac 0])
theorem zh9 (x:Option Addr) (pid epoch part now:Int):FnS (zxu x pid epoch part now) F.a187 #[.pointer x,.int .i64 pid,.int .i64 epoch,.int .i64 part,.int .i64 now]:=dV ⟨[],[],[(14,[])],[]⟩ Go.Proofs.Tryz.func40 (by kernel_rfl)
def z089 (x:Option Addr):Prog :=
Aa (Option.isNone x) (
Ab 0 [.slice none 0 0])<|
AO F.a198 [Ad x] λl0=>
Bf 1 (
Br 2 (⟨none,0,0⟩,(0,())) λl1 n2=>
Aa (decide (n2<(Ak l0))) (
.ex [.adr] (c1 λa3=>0<=n2/\n2<(Ak l0)/\l0.a=some a3) (u1 λa4=>
AR T.a14 a4 (Int.toNat n2*1) λn5=>
Al n5 λn6=>
Ao x λa8=>
Ap T.a22 a8 5 λm9=>
Aq (Instr.lookup T.a22 (.map m9) (Ac n6) false) λp10=>
B2 F.a207 [Ad p10] λp11=>
Ao p11 λa13=>
Ca (ld T.a61 (Addr.add a13 0)) λs14 n15 n16 n17 n18 l19 n20 n21 n22=>
Bc (Instr.buildSlice T.a52 1 #[(0,BZ s14 n15 n16 n17 n18 l19 n20 n21 n22)]) λl23=>
Bc (app T.a52 T.a52 T.a52 l1.v l23.v) λl24=>
Ab 2 [l24.v,Ac (Av (n2+1))]))<|
Ab 1 [l1.v]) λl25=>
Ab 0 [l25.v]
theorem zsc (x:Option Addr):FnS (z089 x) F.a190 #[.pointer x]:=dV ⟨[],[(0,[(3,.one .slc)])],[],[(0,[(3,.one .slc),(11,.one (.int .i64))])]⟩ Go.Proofs.Tryz.func41 (by kernel_rfl)
def zxt (x:Option Addr) (id:ByteArray) (who limit:Int) (now:Int):Prog :=
AP (Option.isNone x) (
Ab 0 [Ac 0,Ac 0,Ac 1])<|
AB 1 (
AA F.a205 [Ac now] λb1=>
Aa (not b1) (
Ab 1 [.bool true])<|
AA F.a204 [.string id] λb2=>
Aa (not b2) (
Ab 1 [.bool true])<|
AA F.a205 [Ac who] λb3=>
Aj (not b3 || decide (limit<1) || decide (limit>1099511627776)) λb4=>
Ab 1 [.bool b4]) λb5=>
Aa b5 (
Ab 0 [Ac 0,Ac 0,Ac 2])<|
Ao x λa7=>
Ap T.a26 a7 4 λm8=>
Aq (Instr.lookup T.a26 (.map m8) (.string id) false) λp9=>
Aa (Option.isNone p9) (
.call F.a196 [Ad x,.string id,Ac who,Ac limit,Ac now] (.tup [.one (.int .i64),.one (.int .i64),.one (.int .i64)]) (u3 λ(n10 n11 n12:Int)=>
Al n10 λn13=>
Al n11 λn14=>
Al n12 λn15=>
Ab 0 [Ac n13,Ac n14,Ac n15]))<|
Ao p9 λa17=>
AR T.a13 (Addr.add a17 0) 4 λn18=>
AP (n18 == 5) (
Ab 0 [Ac 0,Ac 0,Ac 24])<|
Ao p9 λa21=>
AR T.a14 (Addr.add a21 0) 3 λn22=>
AP (decide (who<n22)) (
Ab 0 [Ac 0,Ac 0,Ac 20])<|
B2 F.a207 [Ad p9] λp24=>
Ao p24 λa26=>
AS T.a14 (Addr.add a26 0) 7 (Ac limit)<|
Ao p9 λa28=>
AR T.a14 (Addr.add a28 0) 3 λn29=>
Ah ((who == n29)=true) p9 λa31=>
AD ((who == n29)=true) T.a13 (Addr.add a31 0) 4 λn32=>
Aa (who == n29 && n32 == 0) (
Ao p24 λa34=>
AS T.a13 (Addr.add a34 0) 8 (Ac 0)<|
Am F.a199 [Ad x,Ad p24,Ac now] λn35=>
Al n35 λn36=>
Aa (n36 != 0) (
Al n36 λn37=>
Ab 0 [Ac 0,Ac 0,Ac n37])<|
AC<|
Ao p24 λa39=>
AR T.a14 (Addr.add a39 0) 1 λn40=>
Ao p24 λa42=>
AR T.a13 (Addr.add a42 0) 2 λn43=>
Al n40 λn44=>
Al n43 λn45=>
AE<|
Ab 0 [Ac n44,Ac n45,Ac 0])<|
An F.a202 [Ad x,Ad p24,Ac who]<|
Am F.a199 [Ad x,Ad p24,Ac now] λn46=>
Al n46 λn47=>
Aa (n47 != 0) (
Al n47 λn48=>
Ab 0 [Ac 0,Ac 0,Ac n48])<|
Ab 0 [Ac 0,Ac 0,Ac 23]
theorem zh8 (x:Option Addr) (id:ByteArray) (who limit now:Int):FnS (zxt x id who limit now) F.a186 #[.pointer x,.string id,.int .i64 who,.int .i64 limit,.int .i64 now]:=dV ⟨[],[],[(3,[(20,.one .bool)])],[]⟩ Go.Proofs.Tryz.func42 (by kernel_rfl)
def z088 (x:Option Addr) (pid:Int):Prog :=
AH T.a61 λa0=>
Ah (Option.isNone x=false) x λa2=>
AI (Option.isNone x=false) T.a22 a2 5 λm3=>
AJ (Option.isNone x=false) (Instr.lookup T.a22 (.map m3) (Ac pid) false) λp4=>
Aa (Option.isNone x || Option.isNone p4) (
AK T.a61 a0 (.agg #[.string (ByteArray.mk #[]),Ac 0,Ac 0,Ac 0,Ac 0,.slice none 0 0,Ac 0,Ac 0,Ac 0])<|
Ca (ld T.a61 a0) λs5 n6 n7 n8 n9 l10 n11 n12 n13=>
Ab 0 [BZ s5 n6 n7 n8 n9 l10 n11 n12 n13,.bool false])<|
Ao x λa15=>
Ap T.a22 a15 5 λm16=>
Aq (Instr.lookup T.a22 (.map m16) (Ac pid) false) λp17=>
B2 F.a207 [Ad p17] λp18=>
Ao p18 λa20=>
Ca (ld T.a61 (Addr.add a20 0)) λs21 n22 n23 n24 n25 l26 n27 n28 n29=>
AK T.a61 a0 (BZ s21 n22 n23 n24 n25 l26 n27 n28 n29)<|
Ca (ld T.a61 a0) λs30 n31 n32 n33 n34 l35 n36 n37 n38=>
Ab 0 [BZ s30 n31 n32 n33 n34 l35 n36 n37 n38,.bool true]
theorem zsb (x:Option Addr) (pid:Int):FnS (z088 x pid) F.a189 #[.pointer x,.int .i64 pid]:=dV ⟨[],[],[],[]⟩ Go.Proofs.Tryz.func43 (by kernel_rfl)
def zxs (x:Option Addr) (pid epoch:Int) (commit:Bool) (now:Int):Prog :=
AP (Option.isNone x) (
Ab 0 [Ac 0,Ac 1])<|
AA F.a205 [Ac now] λb1=>
AP (not b1) (
Ab 0 [Ac 0,Ac 2])<|
Ao x λa4=>
Ap T.a22 a4 5 λm5=>
Aq (Instr.lookup T.a22 (.map m5) (Ac pid) false) λp6=>
AP (Option.isNone p6) (
Ab 0 [Ac 0,Ac 3])<|
AA F.a208 [Ad p6,Ac epoch,.bool commit] λb8=>
AP b8 (
Ao p6 λa11=>
AR T.a13 (Addr.add a11 0) 2 λn12=>
Al n12 λn13=>
Ab 0 [Ac n13,Ac 0])<|
Ao p6 λa15=>
AR T.a13 (Addr.add a15 0) 2 λn16=>
AP (decide (epoch<n16)) (
Ab 0 [Ac 0,Ac 20])<|
Ao p6 λa19=>
AR T.a13 (Addr.add a19 0) 4 λn20=>
AP (n20 == 5) (
Ab 0 [Ac 0,Ac 24])<|
Ao p6 λa23=>
AR T.a13 (Addr.add a23 0) 2 λn24=>
AP (decide (epoch>n24)) (
Ab 0 [Ac 0,Ac 22])<|
Ao p6 λa27=>
AR T.a13 (Addr.add a27 0) 4 λn28=>
AP (n28 == 0) (
Ao p6 λa31=>
AR T.a13 (Addr.add a31 0) 2 λn32=>
Al n32 λn33=>
Ab 0 [Ac n33,Ac 0])<|
Ao p6 λa35=>
AR T.a13 (Addr.add a35 0) 4 λn36=>
AP (n36 == 1) (
Am F.a194 [Ad x,Ad p6,.bool commit,Ac now] λn38=>
Al n38 λn39=>
Ab 0 [Ac 0,Ac n39])<|
Ao p6 λa41=>
AR T.a13 (Addr.add a41 0) 4 λn42=>
AP (n42 == 2 && not commit) (
Ab 0 [Ac 0,Ac 22])<|
Ab 0 [Ac 0,Ac 23]
theorem zh7 (x:Option Addr) (pid epoch:Int) (commit:Bool) (now:Int):FnS (zxs x pid epoch commit now) F.a185 #[.pointer x,.int .i64 pid,.int .i64 epoch,.bool commit,.int .i64 now]:=dV ⟨[],[],[],[]⟩ Go.Proofs.Tryz.func44 (by kernel_rfl)
def zxr (x:Option Addr) (pid epoch now:Int) (parts:Sl):Prog :=
AP (Option.isNone x) (
Ab 0 [Ac 1])<|
AA F.a205 [Ac now] λb1=>
AP (not b1) (
Ab 0 [Ac 2])<|
Ao x λa4=>
Ap T.a22 a4 5 λm5=>
Aq (Instr.lookup T.a22 (.map m5) (Ac pid) false) λp6=>
Aa (Option.isNone p6) (
Ab 0 [Ac 3])<|
AB 1 (
Aa ((Ak parts) == 0) (
Ab 1 [.bool true])<|
AA F.a138 [parts.v,.func (Fn.func 99) #[Ad x] #[]] λb7=>
Ab 1 [.bool b7]) λb8=>
Aa b8 (
Ab 0 [Ac 2])<|
Ao p6 λa10=>
AR T.a13 (Addr.add a10 0) 2 λn11=>
AP (decide (epoch<n11)) (
Ab 0 [Ac 20])<|
Ao p6 λa14=>
AR T.a13 (Addr.add a14 0) 4 λn15=>
AP (n15 == 5) (
Ab 0 [Ac 24])<|
Ao p6 λa18=>
AR T.a13 (Addr.add a18 0) 2 λn19=>
AP (decide (epoch>n19)) (
Ab 0 [Ac 22])<|
Ao p6 λa22=>
AR T.a13 (Addr.add a22 0) 4 λn23=>
Ah ((n23 != 0)=true) p6 λa25=>
AD ((n23 != 0)=true) T.a13 (Addr.add a25 0) 4 λn26=>
AP (n23 != 0 && n26 != 1) (
Ab 0 [Ac 23])<|
B2 F.a207 [Ad p6] λp28=>
Ao p28 λa30=>
AR T.a13 (Addr.add a30 0) 4 λn31=>
Az 1 (
Aa (n31 == 0) (
Ao p28 λa33=>
AS T.a13 (Addr.add a33 0) 4 (Ac 1)<|
Ao p28 λa35=>
AS T.a14 (Addr.add a35 0) 6 (Ac now)<|
Ab 1 [])<|
Ab 1 [])<|
Ao p28 λa37=>
AN T.a44 (Addr.add a37 0) 5 λl38=>
Bc (app T.a44 T.a44 T.a44 l38.v parts.v) λl39=>
Ao p28 λa41=>
AS T.a44 (Addr.add a41 0) 5 l39.v<|
Ao p28 λa43=>
AN T.a44 (Addr.add a43 0) 5 λl44=>
An F.a146 [l44.v]<|
Ao p28 λa46=>
AN T.a44 (Addr.add a46 0) 5 λl47=>
AO F.a137 [l47.v] λl48=>
Ao p28 λa50=>
AS T.a44 (Addr.add a50 0) 5 l48.v<|
AC<|
Ao p28 λa52=>
AR T.a13 (Addr.add a52 0) 4 λn53=>
Ao p6 λa55=>
AR T.a13 (Addr.add a55 0) 4 λn56=>
Ah ((n53 == n56)=true) p28 λa58=>
AZ ((n53 == n56)=true) T.a44 (Addr.add a58 0) 5 λl59=>
Ah ((n53 == n56)=true) p6 λa61=>
AZ ((n53 == n56)=true) T.a44 (Addr.add a61 0) 5 λl62=>
AE<|
Aa (n53 == n56 && (Ak l59) == (Ak l62)) (
Ab 0 [Ac 0])<|
Am F.a199 [Ad x,Ad p28,Ac now] λn63=>
Al n63 λn64=>
Ab 0 [Ac n64]
theorem zh6 (x:Option Addr) (pid epoch now:Int) (parts:Sl):FnS (zxr x pid epoch now parts) F.a183 #[.pointer x,.int .i64 pid,.int .i64 epoch,.int .i64 now,.slice parts.a parts.len parts.cap]:=dV ⟨[(20242795522394538255150479310930,[])],[],[(8,[(36,.one .bool)])],[]⟩ Go.Proofs.Tryz.func45 (by kernel_rfl)
def z086 (d:Option Addr) (c_0 c_1:Int) (c_2:Int):Prog :=
Af T.a58 (B9 c_0 c_1 c_2) λa0=>
.call F.a181 [] (sG [.int .i64,.int .i64,.int .i64]) (u3 λ(n1 n2 n3:Int)=>
BD F.a69 [Ad d,.string (ByteArray.mk #[116]),B9 n1 n2 n3] λp4 n5=>
Al n5 λn6=>
Aa (n6 != 0) (
Al n6 λn7=>
Ab 0 [Ad none,Ac n7])<|
BE T.a58 a0 λn8 n9 n10=>
BD F.a203 [Ad p4,B9 n8 n9 n10] λp11 n12=>
Al n12 λn13=>
Ab 0 [Ad p11,Ac n13])
theorem zs9 (d:Option Addr) (c_0 c_1 c_2:Int):FnS (z086 d c_0 c_1 c_2) F.a182 #[.pointer d,.agg #[.int .i64 c_0,.int .i64 c_1,.int .i64 c_2]]:=dV ⟨[],[],[],[]⟩ Go.Proofs.Tryz.func46 (by kernel_rfl)
def z08a (x:Option Addr) (now:Int):Prog :=
AP (Option.isNone x) (
Ab 0 [Ac 0,Ac 1])<|
AA F.a205 [Ac now] λb1=>
AP (not b1) (
Ab 0 [Ac 0,Ac 2])<|
AO F.a198 [Ad x] λl3=>
Aw 1 (
AU 2 (0,(0,())) λn4 n5=>
Aa (decide (n5<(Ak l3))) (
Aw 3 (
.ex [.adr] (c1 λa6=>0<=n5/\n5<(Ak l3)/\l3.a=some a6) (u1 λa7=>
AR T.a14 a7 (Int.toNat n5*1) λn8=>
Al n8 λn9=>
Ao x λa11=>
Ap T.a22 a11 5 λm12=>
Aq (Instr.lookup T.a22 (.map m12) (Ac n9) false) λp13=>
AC<|
Ao p13 λa15=>
AR T.a13 (Addr.add a15 0) 4 λn16=>
Ah ((n16 != 1)=false) p13 λa18=>
AD ((n16 != 1)=false) T.a14 (Addr.add a18 0) 6 λn19=>
Ah ((n16 != 1)=false) p13 λa21=>
AD ((n16 != 1)=false) T.a14 (Addr.add a21 0) 7 λn22=>
AE<|
Aa (n16 != 1 || decide (Av (now-n19)<=n22)) (
Ab 3 [Ac n4])<|
B2 F.a207 [Ad p13] λp23=>
Ao p23 λa25=>
AS T.a13 (Addr.add a25 0) 4 (Ac 3)<|
Am F.a199 [Ad x,Ad p23,Ac now] λn26=>
Al n26 λn27=>
Aa (n27 != 0) (
Al n4 λn28=>
Al n27 λn29=>
Ab 0 [Ac n28,Ac n29])<|
Al (Av (n4+1)) λn30=>
Ab 3 [Ac n30])) λn31=>
Ab 2 [Ac n31,Ac (Av (n5+1))])<|
Ab 1 [Ac n4]) λn32=>
Al n32 λn33=>
Ab 0 [Ac n33,Ac 0]
theorem zsd (x:Option Addr) (now:Int):FnS (z08a x now) F.a191 #[.pointer x,.int .i64 now]:=dV ⟨[],[(1,[(6,.one (.int .i64))]),(2,[(6,.one (.int .i64))])],[],[(1,[(6,.one (.int .i64)),(22,.one (.int .i64))])]⟩ Go.Proofs.Tryz.func50 (by kernel_rfl)
def z087 (x:Option Addr) (pid:Int) (epoch:Int):Prog :=
Ah (Option.isNone x=false) x λa1=>
AI (Option.isNone x=false) T.a22 a1 5 λm2=>
AJ (Option.isNone x=false) (Instr.lookup T.a22 (.map m2) (Ac pid) false) λp3=>
Aa (Option.isNone x || Option.isNone p3) (
Ab 0 [.bool false])<|
Ao x λa5=>
Ap T.a22 a5 5 λm6=>
Aq (Instr.lookup T.a22 (.map m6) (Ac pid) false) λp7=>
AB 1 (
Ao p7 λa9=>
AR T.a13 (Addr.add a9 0) 2 λn10=>
Ah ((epoch == n10)=true) p7 λa12=>
AD ((epoch == n10)=true) T.a13 (Addr.add a12 0) 4 λn13=>
Aa (epoch == n10 && n13 == 2) (
Ab 1 [.bool true])<|
AA F.a208 [Ad p7,Ac epoch,.bool true] λb14=>
Aj b14 λb15=>
Ab 1 [.bool b15]) λb16=>
Ab 0 [.bool b16]
theorem zsa (x:Option Addr) (pid epoch:Int):FnS (z087 x pid epoch) F.a184 #[.pointer x,.int .i64 pid,.int .i64 epoch]:=dV ⟨[],[],[(4,[(6,.one .bool)])],[]⟩ Go.Proofs.Tryz.func51 (by kernel_rfl)
def z08i (x:Option Addr) (key:ByteArray) (value:ByteArray):Prog :=
Bc (convert T.a57 T.a53 (.string value)) λl0=>
B2 F.a215 [l0.v] λp1=>
Ba 1 (
AC<|
.must ((0:Int)<=1/\1<=((ByteArray.size key:Nat):Int)) <|
Ao x λa3=>
B1 T.a13 (Addr.add a3 1) 2 λn4=>
Am F.a211 [Ad p1,Ac 1048576] λn5=>
AE<|
Am F.a211 [Ad p1,Ac n4] λn6=>
Am F.a211 [Ad p1,Ac 1099511627776] λn7=>
Am F.a211 [Ad p1,Ac 5] λn8=>
Am F.a211 [Ad p1,Ac 1099511627776] λn9=>
Am F.a211 [Ad p1,Ac 1099511627776] λn10=>
Am F.a211 [Ad p1,Ac 3] λn11=>
AA F.a219 [Ad p1] λb12=>
AA F.a219 [Ad p1] λb13=>
Af T.a62 (.agg #[.string (ByteArray.extract key 1 (ByteArray.size key)),Ac n5,Ac n6,Ac n7,Ac n8,.slice none 0 0,Ac n9,Ac n10,Ac n11,.bool b12,.bool b13]) λa14=>
AE<|
Ab 1 [Ag a14]) λp15=>
Am F.a211 [Ad p1,Ac 256] λn16=>
Al n16 λn17=>
Az 1 (
AW 2 (0,()) λn18=>
AB 3 (
Aa (decide (n18<n17)) (
Am F.a218 [Ad p1] λn19=>
Ab 3 [.bool (n19 == 0)])<|
Ab 3 [.bool false]) λb20=>
Aa b20 (
Bf 3 (
AC<|
Ao p15 λa22=>
BG T.a44 (Addr.add a22 0) 5 λl23=>
Am F.a211 [Ad p1,Ac 256] λn24=>
Bc (Instr.buildSlice T.a44 1 #[(0,Ac n24)]) λl25=>
AE<|
Bc (app T.a44 T.a44 T.a44 l23.v l25.v) λl26=>
AE<|
Ab 3 [l26.v]) λl27=>
Ao p15 λa29=>
AS T.a44 (Addr.add a29 0) 5 l27.v<|
Al (Av (n18+1)) λn30=>
Ab 2 [Ac n30])<|
Ab 1 [])<|
AB 1 (
AC<|
Am F.a217 [Ad p1] λn31=>
Ah ((n31 != 0)=false) p15 λa33=>
BF ((n31 != 0)=false) T.a57 (Addr.add a33 0) 0 λs34=>
Aa (n31 != 0) (
AE<|
Ab 1 [.bool true])<|
AA F.a204 [.string s34] λb35=>
Ah (not b35=false) p15 λa37=>
AD (not b35=false) T.a14 (Addr.add a37 0) 1 λn38=>
Ah ((not b35 || decide (n38<1))=false) p15 λa40=>
AD ((not b35 || decide (n38<1))=false) T.a14 (Addr.add a40 0) 1 λn41=>
Ah ((not b35 || decide (n38<1) || decide (n41>1048576))=false) p15 λa43=>
AD ((not b35 || decide (n38<1) || decide (n41>1048576))=false) T.a13 (Addr.add a43 0) 2 λn44=>
Ah ((not b35 || decide (n38<1) || decide (n41>1048576))=false) x λa46=>
AD ((not b35 || decide (n38<1) || decide (n41>1048576))=false) T.a13 (Addr.add a46 1) 2 λn47=>
Ah ((not b35 || decide (n38<1) || decide (n41>1048576) || decide (n44>n47))=false) p15 λa49=>
AD ((not b35 || decide (n38<1) || decide (n41>1048576) || decide (n44>n47))=false) T.a13 (Addr.add a49 0) 4 λn50=>
Ah ((not b35 || decide (n38<1) || decide (n41>1048576) || decide (n44>n47) || decide (n50>5))=false) p15 λa52=>
AD ((not b35 || decide (n38<1) || decide (n41>1048576) || decide (n44>n47) || decide (n50>5))=false) T.a13 (Addr.add a52 0) 8 λn53=>
Ah ((not b35 || decide (n38<1) || decide (n41>1048576) || decide (n44>n47) || decide (n50>5) || decide (n53>3))=false) p15 λa55=>
AD ((not b35 || decide (n38<1) || decide (n41>1048576) || decide (n44>n47) || decide (n50>5) || decide (n53>3))=false) T.a14 (Addr.add a55 0) 3 λn56=>
Aa (not b35 || decide (n38<1) || decide (n41>1048576) || decide (n44>n47) || decide (n50>5) || decide (n53>3)) (
AE<|
Ab 1 [.bool true])<|
AA F.a205 [Ac n56] λb57=>
Ah (not b57=false) p15 λa59=>
AD (not b57=false) T.a14 (Addr.add a59 0) 6 λn60=>
Aa (not b57) (
AE<|
Ab 1 [.bool true])<|
AA F.a205 [Ac n60] λb61=>
Ah (not b61=false) p15 λa63=>
AD (not b61=false) T.a14 (Addr.add a63 0) 7 λn64=>
Aa (not b61) (
AE<|
Ab 1 [.bool true])<|
AA F.a205 [Ac n64] λb65=>
AE<|
Ab 1 [.bool (not b65)]) λb66=>
Aa b66 (
Ab 0 [Ad none,.bool false])<|
AA F.a197 [Ad x,Ad p15] λb67=>
Aj b67 λb68=>
Ab 0 [Ad p15,.bool b68]
theorem zsm (x:Option Addr) (key value:ByteArray):FnS (z08i x key value) F.a200 #[.pointer x,.string key,.string value]:=dV ⟨[],[(0,[])],[(2,[(9,.one .ptr)]),(5,[(53,.one .bool)]),(7,[(12,.one .slc)]),(9,[(153,.one .bool)])],[(0,[(11,.one (.int .i64))])]⟩ Go.Proofs.Tryz.func74 (by kernel_rfl)
def z08j (x:Option Addr) (r:Option Addr):Prog :=
AC<|
Ao x λa1=>
Ap T.a22 a1 5 λm2=>
Ao r λa4=>
AR T.a14 (Addr.add a4 0) 1 λn5=>
Aq (Instr.lookup T.a22 (.map m2) (Ac n5) false) λp6=>
AE<|
AC<|
Ao x λa8=>
Ap T.a26 a8 4 λm9=>
Ao r λa11=>
Bd T.a57 (Addr.add a11 0) 0 λs12=>
Bb (Instr.mapUpdate T.a26 (.map m9) (.string s12) (Ad r))<|
AE<|
AC<|
Ao x λa14=>
Ap T.a22 a14 5 λm15=>
Ao r λa17=>
AR T.a14 (Addr.add a17 0) 1 λn18=>
Bb (Instr.mapUpdate T.a22 (.map m15) (Ac n18) (Ad r))<|
AE<|
AA F.a209 [Ad r] λb19=>
Aa (not b19) (
AC<|
Ao x λa21=>
Ap T.a23 a21 6 λm22=>
Ao r λa24=>
AR T.a14 (Addr.add a24 0) 1 λn25=>
AT (Builtin.delete_ #[T.a23,T.a14] T.a64 #[.map m22,Ac n25])<|
AE<|
Ab 0 [])<|
AC<|
Ah (Option.isNone p6=false) p6 λa27=>
AD (Option.isNone p6=false) T.a13 (Addr.add a27 0) 4 λn28=>
Ah (Option.isNone p6=false) r λa30=>
AD (Option.isNone p6=false) T.a13 (Addr.add a30 0) 4 λn31=>
Ah ((Option.isNone p6 || n28 != n31)=false) p6 λa33=>
AD ((Option.isNone p6 || n28 != n31)=false) T.a13 (Addr.add a33 0) 2 λn34=>
Ah ((Option.isNone p6 || n28 != n31)=false) r λa36=>
AD ((Option.isNone p6 || n28 != n31)=false) T.a13 (Addr.add a36 0) 2 λn37=>
Ah ((Option.isNone p6 || n28 != n31 || n34 != n37)=false) p6 λa39=>
AZ ((Option.isNone p6 || n28 != n31 || n34 != n37)=false) T.a44 (Addr.add a39 0) 5 λl40=>
Ah ((Option.isNone p6 || n28 != n31 || n34 != n37)=false) r λa42=>
AZ ((Option.isNone p6 || n28 != n31 || n34 != n37)=false) T.a44 (Addr.add a42 0) 5 λl43=>
AE<|
Az 1 (
Aa (Option.isNone p6 || n28 != n31 || n34 != n37 || (Ak l40) != (Ak l43)) (
Az 2 (
AC<|
Ao x λa45=>
BQ T.a23 a45 6 λm46=>
Ao r λa48=>
B1 T.a14 (Addr.add a48 0) 1 λn49=>
Ao r λa51=>
AN T.a44 (Addr.add a51 0) 5 λl52=>
AO F.a135 [l52.v] λl53=>
AE<|
Bb (Instr.mapUpdate T.a23 (.map m46) (Ac n49) l53.v)<|
AE<|
Ab 2 [])<|
Ab 1 [])<|
Ab 1 [])<|
Ab 0 []
theorem zsn (x r:Option Addr):FnS (z08j x r) F.a201 #[.pointer x,.pointer r]:=dV ⟨[(166148428870713571195369895722221657,[])],[],[(6,[])],[]⟩ Go.Proofs.Tryz.func75 (by kernel_rfl)
def z08g (x:Option Addr):Prog :=
Ao x λa1=>
Ap T.a22 a1 5 λm2=>
AO F.a210 [.map m2] λl3=>
Ab 0 [l3.v]
theorem zsk (x:Option Addr):FnS (z08g x) F.a198 #[.pointer x]:=dV ⟨[],[],[],[]⟩ Go.Proofs.Tryz.func85 (by kernel_rfl)
def z08n (t:Int):Prog :=
Aj (decide (t>=0) && decide (t<=1099511627776)) λb0=>
Ab 0 [.bool b0]
theorem zsr (t:Int):FnS (z08n t) F.a205 #[.int .i64 t]:=dV ⟨[],[],[],[]⟩ Go.Proofs.Tryz.func86 (by kernel_rfl)
def z07u (s:Sl) (v:Int):Prog :=
Az 1 (
AW 2 (0,()) λn0=>
Aa (decide (n0<(Ak s))) (
Al n0 λn1=>
.ex [.adr] (c1 λa2=>0<=n1/\n1<(Ak s)/\s.a=some a2) (u1 λa3=>
AR T.a13 a3 (Int.toNat n1*1) λn4=>
Aa (v == n4) (
Al n1 λn5=>
Ab 0 [Ac n5])<|
Ab 2 [Ac (Av (n0+1))]))<|
Ab 1 [])<|
Ab 0 [Ac (-1)]
theorem zrv (s:Sl) (v:Int):FnS (z07u s v) F.a142 #[.slice s.a s.len s.cap,.int .i64 v]:=dV ⟨[],[(0,[])],[],[(0,[(8,.one (.int .i64))])]⟩ Go.Proofs.Tryz.func87 (by kernel_rfl)
def z08h (x r:Option Addr) (now:Int):Prog :=
Aw 1 (
AC<|
Ao x λa1=>
B5 T.a33 a1 0 λp2=>
Ao r λa4=>
.hold True (ld T.a57 (Addr.add (Addr.add a4 0) 0)) sS (u1 λs5=>
.must (((1+ByteArray.size s5:Nat):Int)<=9223372036854775807) <|
Bp F.a206 [Ad r] λs6=>
AE<|
Am F.a68 [Ad p2,.string ((ByteArray.mk #[116])++s5),.string s6,Ac now] λn7=>
Al n7 λn8=>
AE<|
Ab 1 [Ac n8])) λn9=>
Aa (n9 != 0) (
Al n9 λn10=>
Ab 0 [Ac n10])<|
An F.a201 [Ad x,Ad r]<|
Ab 0 [Ac 0]
theorem zsl (x r:Option Addr) (now:Int):FnS (z08h x r now) F.a199 #[.pointer x,.pointer r,.int .i64 now]:=dV ⟨[],[],[(1,[(7,.one (.int .i64))])],[]⟩ Go.Proofs.Tryz.func88 (by kernel_rfl)
def z08e (x:Option Addr) (r:Option Addr):Prog :=
B2 F.a207 [Ad r] λp0=>
Ao r λa2=>
AR T.a13 (Addr.add a2 0) 4 λn3=>
Aj (n3 == 2) λb4=>
Az 1 (
Aa b4 (
Ao p0 λa6=>
AS T.a13 (Addr.add a6 0) 8 (Ac 1)<|
Ab 1 [])<|
Ao r λa8=>
AR T.a13 (Addr.add a8 0) 4 λn9=>
Ah ((n9 == 3)=true) r λa11=>
Ai ((n9 == 3)=true) T.a3 a11 9 λb12=>
Aj (n9 == 3 && b12) λb13=>
Az 2 (
Aa b13 (
Ao p0 λa15=>
AS T.a13 (Addr.add a15 0) 8 (Ac 2)<|
Ab 2 [])<|
Ao p0 λa17=>
AS T.a13 (Addr.add a17 0) 8 (Ac 3)<|
Ab 2 [])<|
Ab 1 [])<|
Ao p0 λa19=>
AS T.a44 (Addr.add a19 0) 5 (.slice none 0 0)<|
Ao p0 λa21=>
AS T.a14 (Addr.add a21 0) 6 (Ac 0)<|
Ao p0 λa23=>
AS T.a3 a23 9 (.bool false)<|
Ao p0 λa25=>
AS T.a3 a25 10 (.bool false)<|
AC<|
Ao r λa27=>
AR T.a13 (Addr.add a27 0) 2 λn28=>
Ao x λa30=>
AR T.a13 (Addr.add a30 1) 2 λn31=>
AE<|
Aa (decide (n28>=n31)) (
Ao p0 λa33=>
AS T.a13 (Addr.add a33 0) 4 (Ac 5)<|
Ab 0 [Ad p0])<|
Ao p0 λa35=>
AR T.a13 (Addr.add a35 0) 2 λn36=>
Ao p0 λa38=>
AS T.a13 (Addr.add a38 0) 2 (Ac (Av (n36+1)))<|
Ao p0 λa40=>
AS T.a13 (Addr.add a40 0) 4 (Ac 0)<|
Ao r λa42=>
AQ T.a3 a42 10 λb43=>
Az 1 (
Aa b43 (
Ao p0 λa45=>
AS T.a13 (Addr.add a45 0) 4 (Ac 4)<|
AO F.a192 [Ad x] λl46=>
Ao p0 λa48=>
AS T.a44 (Addr.add a48 0) 5 l46.v<|
Ab 1 [])<|
Ab 1 [])<|
Ab 0 [Ad p0]
theorem zsh (x r:Option Addr):FnS (z08e x r) F.a195 #[.pointer x,.pointer r]:=dV ⟨[(4222124666388503,[]),(4503597495615500,[]),(648403282016739338865563689549910,[])],[],[],[]⟩ Go.Proofs.Tryz.func89 (by kernel_rfl)
def z07r (s:Sl) (i:Int) (j:Int):Prog :=
.must (0<=i/\i<=j/\j<=(Ak s)/\(Ak s)<=((s.cap:Nat):Int)) <|
Aa (i == j) (
Ab 0 [s.v])<|
Al (Ak s) λn0=>
AC<|
.must (0<=i/\i<=((s.cap:Nat):Int)) <|
.must (0<=j/\j<=(Ak s)) <|
Bc (app T.a44 T.a44 T.a44 (.slice s.a (Int.toNat i) s.cap) (.slice (z0k s.a 1 (Int.toNat j) s.cap) (s.len-Int.toNat j) (s.cap-Int.toNat j))) λl1=>
AE<|
.must (0<=(Ak l1)/\(Ak l1)<=n0/\n0<=((l1.cap:Nat):Int)) <|
AT (Builtin.clear_ #[T.a44] T.a64 #[.slice (z0k l1.a 1 (Int.toNat (Ak l1)) l1.cap) (Int.toNat n0-Int.toNat (Ak l1)) (l1.cap-Int.toNat (Ak l1))])<|
Ab 0 [l1.v]
theorem zrs (s:Sl) (i j:Int):FnS (z07r s i j) F.a139 #[.slice s.a s.len s.cap,.int .i64 i,.int .i64 j]:=dV ⟨[],[],[],[]⟩ Go.Proofs.Tryz.func90 (by kernel_rfl)
def z07n (s:Sl):Prog :=
Aa (Option.isNone s.a) (
Ab 0 [.slice none 0 0])<|
Bc (Instr.buildSlice T.a44 0 #[]) λl0=>
Bc (app T.a44 T.a44 T.a44 l0.v s.v) λl1=>
Ab 0 [l1.v]
theorem zro (s:Sl):FnS (z07n s) F.a135 #[.slice s.a s.len s.cap]:=dV ⟨[],[],[],[]⟩ Go.Proofs.Tryz.func91 (by kernel_rfl)
def z08p (r:Option Addr):Prog :=
Ao r λa1=>
.read True (ld T.a62 a1) (sG [.str,.int .i64,.int .i64,.int .i64,.int .i64,.slc,.int .i64,.int .i64,.int .i64,.bool,.bool]) (u11 λs2 (n3 n4 n5 n6:Int) l7 (n8 n9 n10:Int) b11 b12=>
AH T.a62 λa13=>
AK T.a62 a13 (.agg #[.string s2,Ac n3,Ac n4,Ac n5,Ac n6,l7.v,Ac n8,Ac n9,Ac n10,.bool b11,.bool b12])<|
Ao r λa15=>
AN T.a44 (Addr.add a15 0) 5 λl16=>
AO F.a135 [l16.v] λl17=>
AS T.a44 (Addr.add a13 0) 5 l17.v<|
Ab 0 [Ag a13])
theorem zst (r:Option Addr):FnS (z08p r) F.a207 #[.pointer r]:=dV ⟨[],[],[],[]⟩ Go.Proofs.Tryz.func92 (by kernel_rfl)
def z08m (s:ByteArray):Prog :=
Aj (decide (((ByteArray.size s:Nat):Int)>=1) && decide (((ByteArray.size s:Nat):Int)<=24)) λb0=>
Ab 0 [.bool b0]
theorem zsq (s:ByteArray):FnS (z08m s) F.a204 #[.string s]:=dV ⟨[],[],[],[]⟩ Go.Proofs.Tryz.func93 (by kernel_rfl)
def zxx (x:Option Addr) (id:ByteArray) (who limit:Int) (now:Int):Prog :=
Ao x λa1=>
Ap T.a22 a1 5 λm2=>
BW (Instr.range T.a22 (.map m2)) λa3=>
Aw 1 (
AW 2 (0,()) λn4=>
.next (Instr.next (Ag a3) false T.a64) ([.one (.int .i64),.one .ptr]) (u2 λ(n5:Int) p6=>
.act (Instr.entry (Ag a3)) (.tup [.one (.int .i64),.one .ptr]) (u2 λ(n7:Int) p8=>
Al n7 λn9=>
Al (if n9>n4 then n9 else n4) λn10=>
Ab 2 [Ac n10])) <|
Ab 1 [Ac n4]) λn11=>
AC<|
Ao x λa13=>
Ap T.a26 a13 4 λm14=>
.read True (Builtin.len_ #[T.a26] T.a13 #[.map m14]) (sI .i64) (u1 λ(n15:Int)=>
Ao x λa17=>
AR T.a13 (Addr.add a17 1) 1 λn18=>
Aj (decide (n15>=n18)) λb19=>
AE<|
Aa b19 (
Ab 0 [Ac 0,Ac 0,Ac 5])<|
AP (decide (n11>=1048576)) (
Ab 0 [Ac 0,Ac 0,Ac 24])<|
Af T.a62 (.agg #[.string id,Ac (Av (n11+1)),Ac 0,Ac who,Ac 0,.slice none 0 0,Ac 0,Ac limit,Ac 0,.bool false,.bool false]) λa21=>
Am F.a199 [Ad x,Ag a21,Ac now] λn22=>
Al n22 λn23=>
Aa (n23 != 0) (
Al n23 λn24=>
Ab 0 [Ac 0,Ac 0,Ac n24])<|
AR T.a14 (Addr.add a21 0) 1 λn25=>
Al n25 λn26=>
Ab 0 [Ac n26,Ac 0,Ac 0])
theorem zsi (x:Option Addr) (id:ByteArray) (who limit now:Int) {w:World} {R:List Value->World->Prop} (h:(zxx x id who limit now).wp P (λ_=>True) w λe vs w'=>e=0/\R vs w') :
  Calls P F.a196 #[.pointer x,.string id,.int .i64 who,.int .i64 limit,.int .i64 now] w λe w'=>∃ vs,e=.returned (z9e vs)/\R vs w' :=
 z8n (zfy Go.Proofs.Tryz.func94 (by kernel_rfl) (by kernel_rfl) (by kernel_rfl)) zg2 mix [.val (.pointer x),.val (.string id),.val (.int .i64 who),.val (.int .i64 limit),.val (.int .i64 now)] (by rw [show zi7 P 64 ⟨zhy,[(22,[.one (.int .i64),.one .ptr]),(24,[.one (.int .i64),.one .ptr])]⟩ { cnd:=[],blk:=[(0,[(13,.one (.int .i64))])],reg:=[],lps:=[(0,[(13,.one (.int .i64))])] } [.tmp 10,.tmp 11,.tmp 12] (zay Go.Proofs.Tryz.f94) [.val (.pointer x),.val (.string id),.val (.int .i64 who),.val (.int .i64 limit),.val (.int .i64 now)]=zxx x id who limit now from by kernel_rfl];exact h)
def z08k (x n:Option Addr) (who:Int):Prog :=
Ao n λa1=>
AR T.a13 (Addr.add a1 0) 4 λn2=>
Aj (n2 == 0) λb3=>
Az 1 (
Aa b3 (
Ao n λa5=>
AS T.a13 (Addr.add a5 0) 4 (Ac 4)<|
AO F.a192 [Ad x] λl6=>
Ao n λa8=>
AS T.a44 (Addr.add a8 0) 5 l6.v<|
Ab 1 [])<|
Aj (n2 == 1) λb9=>
Az 2 (
Aa b9 (
Ao n λa11=>
AS T.a13 (Addr.add a11 0) 4 (Ac 3)<|
AO F.a192 [Ad x] λl12=>
Ao n λa14=>
AS T.a44 (Addr.add a14 0) 5 l12.v<|
Ab 2 [])<|
Aj (n2 == 2) λb15=>
AB 3 (
Aa b15 (
Ab 3 [.bool b15])<|
Aj (n2 == 3) λb16=>
Ab 3 [.bool b16]) λb17=>
Az 3 (
Aa b17 (
Ao n λa19=>
AQ T.a3 a19 10 λb20=>
Ah (b20=false) n λa22=>
AD (b20=false) T.a14 (Addr.add a22 0) 3 λn23=>
Ao n λa25=>
AS T.a3 a25 10 (.bool (b20 || decide (who>n23)))<|
Ab 3 [])<|
Ab 3 [])<|
Ab 2 [])<|
Ab 1 [])<|
Ao n λa27=>
AS T.a14 (Addr.add a27 0) 3 (Ac who)<|
Ab 0 []
theorem zso (x n:Option Addr) (who:Int):FnS (z08k x n who) F.a202 #[.pointer x,.pointer n,.int .i64 who]:=dV ⟨[(703687441776675,[(35,.one .bool)]),(73785850394931363875,[]),(73786976157399253015,[]),(73786976294804652043,[])],[],[],[]⟩ Go.Proofs.Tryz.func95 (by kernel_rfl)
def z08q (r:Option Addr) (epoch:Int) (commit:Bool):Prog :=
Ao r λa1=>
AR T.a13 (Addr.add a1 0) 2 λn2=>
Aj (epoch == Av (n2-1)) λb3=>
Ao r λa5=>
AR T.a13 (Addr.add a5 0) 4 λn6=>
AB 1 (
Aa (n6 == 5) (
Ao r λa8=>
AR T.a13 (Addr.add a8 0) 2 λn9=>
Aj (epoch == n9) λb10=>
Ab 1 [.bool b10])<|
Ab 1 [.bool b3]) λb11=>
Ah (b11=true) r λa13=>
AD (b11=true) T.a13 (Addr.add a13 0) 8 λn14=>
Ah (b11=true/\(n14 == 1 && commit)=false) r λa16=>
AD (b11=true/\(n14 == 1 && commit)=false) T.a13 (Addr.add a16 0) 8 λn17=>
Aj (b11 && (n14 == 1 && commit || n17 == 2 && not commit)) λb18=>
Ab 0 [.bool b18]
theorem zsu (r:Option Addr) (epoch:Int) (commit:Bool):FnS (z08q r epoch commit) F.a208 #[.pointer r,.int .i64 epoch,.bool commit]:=dV ⟨[(2181843910677,[(7,.one .bool)])],[],[],[]⟩ Go.Proofs.Tryz.func96 (by kernel_rfl)
def z08d (x r:Option Addr) (commit:Bool) (now:Int):Prog :=
B2 F.a207 [Ad r] λp0=>
Ao p0 λa2=>
AS T.a13 (Addr.add a2 0) 4 (Ac 3)<|
Ao p0 λa4=>
AS T.a3 a4 9 (.bool true)<|
Az 1 (
Aa commit (
Ao p0 λa6=>
AS T.a13 (Addr.add a6 0) 4 (Ac 2)<|
Ao p0 λa8=>
AS T.a3 a8 9 (.bool false)<|
Ab 1 [])<|
Ab 1 [])<|
Am F.a199 [Ad x,Ad p0,Ac now] λn9=>
Al n9 λn10=>
Aa (n10 != 0) (
Al n10 λn11=>
Ab 0 [Ac n11])<|
Ab 0 [Ac 23]
theorem zsg (x r:Option Addr) (commit:Bool) (now:Int):FnS (z08d x r commit now) F.a194 #[.pointer x,.pointer r,.bool commit,.int .i64 now]:=dV ⟨[(1090921693204,[])],[],[],[]⟩ Go.Proofs.Tryz.func97 (by kernel_rfl)
def z07q (s:Sl) (f:Value):Prog :=
Am F.a141 [s.v,f] λn0=>
Aj (decide (n0>=0)) λb1=>
Ab 0 [.bool b1]
theorem zrr (s:Sl) (f:Value) {w:World} {R:List Value->World->Prop} (h:(z07q s f).wp P (λ_=>True) w λe vs w'=>e=0/\R vs w'):Ret P F.a138 #[.slice s.a s.len s.cap,f] w R:=dS (n:=9) (rv:=[.tmp 4]) { cnd:=[],blk:=[],reg:=[],lps:=[] } [.val (.slice s.a s.len s.cap),.any f] Go.Proofs.Tryz.func98 (by kernel_rfl) (by kernel_rfl) (by kernel_rfl) (by kernel_rfl) h
def z08c (x:Option Addr) (part:Int):Prog :=
Ah (decide (part<0)=false) x λa1=>
AD (decide (part<0)=false) T.a13 (Addr.add a1 1) 0 λn2=>
Aj (decide (part<0) || decide (part>=n2)) λb3=>
Ab 0 [.bool b3]
theorem zsf (x:Option Addr) (part:Int):FnS (z08c x part) F.a193 #[.pointer x,.int .i64 part]:=dV ⟨[],[],[],[]⟩ Go.Proofs.Tryz.func99 (by kernel_rfl)
def z07p (s:Sl):Prog :=
Aa (decide ((Ak s)<2)) (
Ab 0 [s.v])<|
Az 1 (
AW 2 (1,()) λn0=>
Aa (decide (n0<(Ak s))) (
Aw 3 (
AC<|
.ex [.adr] (c1 λa1=>0<=n0/\n0<(Ak s)/\s.a=some a1) (u1 λa2=>
AR T.a13 a2 (Int.toNat n0*1) λn3=>
.ex [.adr] (c1 λa4=>0<=Av (n0-1)/\Av (n0-1)<(Ak s)/\s.a=some a4) (u1 λa5=>
AR T.a13 a5 (Int.toNat (Av (n0-1))*1) λn6=>
AE<|
Aa (n3 == n6) (
.must (0<=n0/\n0<=(Ak s)) <|
Aw 4 (
AU 5 (n0,(1,())) λn7 n8=>
Aa (decide (n8<((s.len-Int.toNat n0:Nat):Int))) (
AC<|
.ex [.adr] (c1 λa9=>0<=n8/\n8<((s.len-Int.toNat n0:Nat):Int)/\z0k s.a 1 (Int.toNat n0) s.cap=some a9) (u1 λa10=>
AR T.a13 a10 (Int.toNat n8*1) λn11=>
.ex [.adr] (c1 λa12=>0<=Av (n8-1)/\Av (n8-1)<((s.len-Int.toNat n0:Nat):Int)/\z0k s.a 1 (Int.toNat n0) s.cap=some a12) (u1 λa13=>
AR T.a13 a13 (Int.toNat (Av (n8-1))*1) λn14=>
AE<|
Aw 6 (
Aa (n11 != n14) (
.ex [.adr] (c1 λa15=>0<=n8/\n8<((s.len-Int.toNat n0:Nat):Int)/\z0k s.a 1 (Int.toNat n0) s.cap=some a15) (u1 λa16=>
AR T.a13 a16 (Int.toNat n8*1) λn17=>
.ex [.adr] (c1 λa18=>0<=n7/\n7<(Ak s)/\s.a=some a18) (u1 λa19=>
AS T.a13 a19 (Int.toNat n7*1) (Ac n17)<|
Al (Av (n7+1)) λn20=>
Ab 6 [Ac n20])))<|
Ab 6 [Ac n7]) λn21=>
Al (Av (n8+1)) λn22=>
Ab 5 [Ac n21,Ac n22])))<|
Ab 4 [Ac n7]) λn23=>
.must (0<=n23/\n23<=(Ak s)) <|
AT (Builtin.clear_ #[T.a44] T.a64 #[.slice (z0k s.a 1 (Int.toNat n23) s.cap) (s.len-Int.toNat n23) (s.cap-Int.toNat n23)])<|
.must (0<=n23/\n23<=((s.cap:Nat):Int)) <|
Ab 0 [.slice s.a (Int.toNat n23) s.cap])<|
Ab 3 [Ac n0]))) λn24=>
Al (Av (n24+1)) λn25=>
Ab 2 [Ac n25])<|
Ab 1 [])<|
Ab 0 [s.v]
theorem zrq (s:Sl):FnS (z07p s) F.a137 #[.slice s.a s.len s.cap]:=dV ⟨[(73642861106762383404,[(3,.one (.int .i64))])],[(0,[]),(1,[(3,.one (.int .i64))]),(2,[(3,.one (.int .i64))])],[],[(0,[(3,.one (.int .i64))]),(2,[(3,.one (.int .i64)),(5,.one (.int .i64))])]⟩ Go.Proofs.Tryz.func101 (by kernel_rfl)
def z08t (r:Option Addr) (most:Int):Prog :=
Bs F.a222 [Ad r] λn0=>
AY n0 λn1=>
Aa (decide (n1>IntKind.wrap .u64 most)) (
Al (Av (most+1)) λn2=>
Ab 0 [Ac n2])<|
Al (Av n1) λn3=>
Ab 0 [Ac n3]
theorem zsx (r:Option Addr) (most:Int):FnS (z08t r most) F.a211 #[.pointer r,.int .i64 most]:=dV ⟨[],[],[],[]⟩ Go.Proofs.Tryz.func142 (by kernel_rfl)
def z08f (x:Option Addr) (r:Option Addr):Prog :=
Ao r λa1=>
AN T.a44 (Addr.add a1 0) 5 λl2=>
Az 1 (
AW 2 (0,()) λn3=>
Aa (decide (n3<(Ak l2))) (
.ex [.adr] (c1 λa4=>0<=n3/\n3<(Ak l2)/\l2.a=some a4) (u1 λa5=>
AR T.a13 a5 (Int.toNat n3*1) λn6=>
Al n3 λn7=>
Al n6 λn8=>
Ao x λa10=>
AR T.a13 (Addr.add a10 1) 0 λn11=>
Ah (decide (n8>=n11)=false/\decide (n7>0)=true) r λa13=>
AZ (decide (n8>=n11)=false/\decide (n7>0)=true) T.a44 (Addr.add a13 0) 5 λl14=>
.ex [.adr] (c1 λa15=>decide (n8>=n11)=false/\decide (n7>0)=true->0<=Av (n7-1)/\Av (n7-1)<(Ak l14)/\l14.a=some a15) (u1 λa16=>
AD (decide (n8>=n11)=false/\decide (n7>0)=true) T.a13 a16 (Int.toNat (Av (n7-1))*1) λn17=>
Aa (decide (n8>=n11) || decide (n7>0) && decide (n8<=n17)) (
Ab 0 [.bool false])<|
Ab 2 [Ac (Av (n3+1))])))<|
Ab 1 [])<|
Ao r λa19=>
AR T.a13 (Addr.add a19 0) 4 λn20=>
Ah ((n20 == 0)=false) r λa22=>
AD ((n20 == 0)=false) T.a13 (Addr.add a22 0) 4 λn23=>
Aj (n20 == 0 || n23 == 5) λb24=>
Ao r λa26=>
AN T.a44 (Addr.add a26 0) 5 λl27=>
Ah ((b24 == ((Ak l27) == 0))=true) r λa29=>
Ai ((b24 == ((Ak l27) == 0))=true) T.a3 a29 9 λb30=>
Ah ((b24 == ((Ak l27) == 0))=true/\not b30=false) r λa32=>
AD ((b24 == ((Ak l27) == 0))=true/\not b30=false) T.a13 (Addr.add a32 0) 4 λn33=>
Ah ((b24 == ((Ak l27) == 0) && (not b30 || n33 == 3))=true) r λa35=>
Ai ((b24 == ((Ak l27) == 0) && (not b30 || n33 == 3))=true) T.a3 a35 10 λb36=>
Ah ((b24 == ((Ak l27) == 0) && (not b30 || n33 == 3))=true/\not b36=false) r λa38=>
AD ((b24 == ((Ak l27) == 0) && (not b30 || n33 == 3))=true/\not b36=false) T.a13 (Addr.add a38 0) 4 λn39=>
Ah ((b24 == ((Ak l27) == 0) && (not b30 || n33 == 3))=true/\(not b36 || n39 == 2)=false) r λa41=>
AD ((b24 == ((Ak l27) == 0) && (not b30 || n33 == 3))=true/\(not b36 || n39 == 2)=false) T.a13 (Addr.add a41 0) 4 λn42=>
Aj (b24 == ((Ak l27) == 0) && (not b30 || n33 == 3) && (not b36 || n39 == 2 || n42 == 3)) λb43=>
Ab 0 [.bool b43]
theorem zsj (x r:Option Addr):FnS (z08f x r) F.a197 #[.pointer x,.pointer r]:=dV ⟨[],[(0,[])],[],[(0,[(14,.one (.int .i64))])]⟩ Go.Proofs.Tryz.func145 (by kernel_rfl)
def z08r (r:Option Addr):Prog :=
Ao r λa1=>
AR T.a13 (Addr.add a1 0) 4 λn2=>
Ah (decide (n2>=2)=true) r λa4=>
AD (decide (n2>=2)=true) T.a13 (Addr.add a4 0) 4 λn5=>
Aj (decide (n2>=2) && decide (n5<=4)) λb6=>
Ab 0 [.bool b6]
theorem zsv (r:Option Addr):FnS (z08r r) F.a209 #[.pointer r]:=dV ⟨[],[],[],[]⟩ Go.Proofs.Tryz.func146 (by kernel_rfl)
def z08s (m:Option Nat):Prog :=
.call F.a70 [.map m] sV (u1 λv0=>
AO F.a148 [v0] λl1=>
Ab 0 [l1.v])
theorem zsw (m:Option Nat):FnS (z08s m) F.a210 #[.map m]:=dV ⟨[],[],[],[]⟩ Go.Proofs.Tryz.func148 (by kernel_rfl)
def z08o (r:Option Addr):Prog :=
AC<|
Ao r λa1=>
AR T.a14 (Addr.add a1 0) 1 λn2=>
Ao r λa4=>
AR T.a13 (Addr.add a4 0) 2 λn5=>
Ao r λa7=>
AR T.a14 (Addr.add a7 0) 3 λn8=>
Ao r λa10=>
AR T.a13 (Addr.add a10 0) 4 λn11=>
Ao r λa13=>
AR T.a14 (Addr.add a13 0) 6 λn14=>
Ao r λa16=>
AR T.a14 (Addr.add a16 0) 7 λn17=>
Ao r λa19=>
AR T.a13 (Addr.add a19 0) 8 λn20=>
Bc (Instr.buildSlice T.a45 7 #[(0,Ac n2),(1,Ac n5),(2,Ac n8),(3,Ac n11),(4,Ac n14),(5,Ac n17),(6,Ac n20)]) λl21=>
AE<|
Bf 1 (
Br 2 (⟨none,0,0⟩,(0,())) λl22 n23=>
Aa (decide (n23<(Ak l21))) (
.ex [.adr] (c1 λa24=>0<=n23/\n23<(Ak l21)/\l21.a=some a24) (u1 λa25=>
AR T.a14 a25 (Int.toNat n23*1) λn26=>
Al n26 λn27=>
AO F.a226 [.int .u64 (IntKind.wrap .u64 n27)] λl28=>
Bc (app T.a53 T.a53 T.a53 l22.v l28.v) λl29=>
Ab 2 [l29.v,Ac (Av (n23+1))]))<|
Ab 1 [l22.v]) λl30=>
Bf 1 (
AC<|
Ao r λa32=>
AQ T.a3 a32 9 λb33=>
Ao r λa35=>
.hold True (ld T.a3 (Addr.add a35 10)) sB (u1 λb36=>
Ao r λa38=>
BG T.a44 (Addr.add a38 0) 5 λl39=>
AO F.a212 [.bool b33] λl40=>
AO F.a212 [.bool b36] λl41=>
AE<|
AO F.a226 [.int .u64 (IntKind.wrap .u64 (Ak l39))] λl42=>
Bc (Instr.buildSlice T.a49 3 #[(0,l40.v),(1,l41.v),(2,l42.v)]) λl43=>
AO F.a214 [l43.v] λl44=>
Bc (app T.a53 T.a53 T.a53 l30.v l44.v) λl45=>
AE<|
Ab 1 [l45.v])) λl46=>
Ao r λa48=>
AN T.a44 (Addr.add a48 0) 5 λl49=>
Bf 1 (
Br 2 ({ a:=l46.a,len:=l46.len,cap:=l46.cap },(0,())) λl50 n51=>
Aa (decide (n51<(Ak l49))) (
.ex [.adr] (c1 λa52=>0<=n51/\n51<(Ak l49)/\l49.a=some a52) (u1 λa53=>
AR T.a13 a53 (Int.toNat n51*1) λn54=>
Al n54 λn55=>
AO F.a226 [.int .u64 (IntKind.wrap .u64 n55)] λl56=>
Bc (app T.a53 T.a53 T.a53 l50.v l56.v) λl57=>
Ab 2 [l57.v,Ac (Av (n51+1))]))<|
Ab 1 [l50.v]) λl58=>
B3 (convert T.a53 T.a57 l58.v) λs59=>
Be s59 λs60=>
Ab 0 [.string s60]
theorem zss (r:Option Addr):FnS (z08o r) F.a206 #[.pointer r]:=dV ⟨[],[(0,[(3,.one .slc)]),(2,[(3,.one .slc)])],[(7,[(3,.one .slc)])],[(0,[(3,.one .slc),(45,.one (.int .i64))]),(2,[(3,.one .slc),(83,.one (.int .i64))])]⟩ Go.Proofs.Tryz.func149 (by kernel_rfl)
def z08b (x:Option Addr):Prog :=
Ao x λa1=>
AR T.a13 (Addr.add a1 1) 0 λn2=>
Bc (Instr.makeSlice T.a44 (Ac n2) (Ac n2)) λl3=>
Az 1 (
AW 2 (0,()) λn4=>
Aa (decide (n4<(Ak l3))) (
Al n4 λn5=>
.ex [.adr] (c1 λa6=>0<=n5/\n5<(Ak l3)/\l3.a=some a6) (u1 λa7=>
AS T.a13 a7 (Int.toNat n5*1) (Ac n5)<|
Ab 2 [Ac (Av (n4+1))]))<|
Ab 1 [])<|
Ab 0 [l3.v]
theorem zse (x:Option Addr):FnS (z08b x) F.a192 #[.pointer x]:=dV ⟨[],[(0,[])],[],[(0,[(13,.one (.int .i64))])]⟩ Go.Proofs.Tryz.func150 (by kernel_rfl)
def z07t (s:Sl) (f:Value):Prog :=
Az 1 (
AW 2 (0,()) λn0=>
Aa (decide (n0<(Ak s))) (
Al n0 λn1=>
.ex [.adr] (c1 λa2=>0<=n1/\n1<(Ak s)/\s.a=some a2) (u1 λa3=>
AR T.a13 a3 (Int.toNat n1*1) λn4=>
AV f [Ac n4] λb5=>
Aa b5 (
Al n1 λn6=>
Ab 0 [Ac n6])<|
Ab 2 [Ac (Av (n0+1))]))<|
Ab 1 [])<|
Ab 0 [Ac (-1)]
theorem zru (s:Sl) (f:Value) {w:World} {R:List Value->World->Prop} (h:(z07t s f).wp P (λ_=>True) w λe vs w'=>e=0/\R vs w'):Ret P F.a141 #[.slice s.a s.len s.cap,f] w R:=dS (n:=19) (rv:=[.tmp 4]) { cnd:=[],blk:=[(0,[])],reg:=[],lps:=[(0,[(8,.one (.int .i64))])] } [.val (.slice s.a s.len s.cap),.any f] Go.Proofs.Tryz.func151 (by kernel_rfl) (by kernel_rfl) (by kernel_rfl) (by kernel_rfl) h
def z07z (seq:Value):Prog :=
AO F.a136 [seq] λl0=>
An F.a145 [l0.v]<|
Ab 0 [l0.v]
theorem zs0 (seq:Value) {w:World} {R:List Value->World->Prop} (h:(z07z seq).wp P (λ_=>True) w λe vs w'=>e=0/\R vs w'):Ret P F.a148 #[seq] w R:=dS (n:=9) (rv:=[.tmp 2]) { cnd:=[],blk:=[],reg:=[],lps:=[] } [.any seq] Go.Proofs.Tryz.func212 (by kernel_rfl) (by kernel_rfl) (by kernel_rfl) (by kernel_rfl) h
def z0fd (m:Option Nat):Prog :=
Af T.a22 (.map m) λa0=>
Ab 0 [.func (Fn.func 268) #[] #[Ag a0]]
theorem zz9 (m:Option Nat):FnS (z0fd m) F.a70 #[.map m]:=dV ⟨[],[],[],[]⟩ Go.Proofs.Tryz.func213 (by kernel_rfl)
def z07o (seq:Value):Prog :=
AO F.a134 [.slice none 0 0,seq] λl0=>
Ab 0 [l0.v]
theorem zrp (seq:Value) {w:World} {R:List Value->World->Prop} (h:(z07o seq).wp P (λ_=>True) w λe vs w'=>e=0/\R vs w'):Ret P F.a136 #[seq] w R:=dS (n:=5) (rv:=[.tmp 2]) { cnd:=[],blk:=[],reg:=[],lps:=[] } [.any seq] Go.Proofs.Tryz.func266 (by kernel_rfl) (by kernel_rfl) (by kernel_rfl) (by kernel_rfl) h
abbrev evSl (x:Sl):Value:=.slice x.a x.len x.cap
structure RowM where
 at_:Nat
 x:Sl
 y:Sl
 r:RowT
abbrev rowC (x:Sl) (r:RowT):List Value:=[.string r.id,.int .i64 r.pid,.int .i64 r.epoch,.int .i64 r.who,.int .i64 r.state,.slice x.a x.len x.cap,.int .i64 r.since,.int .i64 r.limit,.int .i64 r.fate,.bool r.own,.bool r.next]
def z2u (t:RowM):HP:=HP.star (pt t.at_ (.cells (rowC t.x t.r).toArray T.a62)) (HP.star (slc T.a13 1 t.x (t.r.parts.flatMap encI)) (slc T.a13 1 t.y (t.r.owed.flatMap encI)))
def z1l (RS:List RowM):List (ByteArray × Nat):=RS.map λt=>(t.r.id,t.at_)
def z11 (RS:List RowM):List (Int × Nat):=RS.map λt=>(t.r.pid,t.at_)
def z0c (RS:List RowM):List (Int × Sl):=(RS.filter λt=>z1a t.r).map λt=>(t.r.pid,t.y)
structure CoM where
 ids:Nat
 pids:Nat
 owed:Nat
 rs:List RowM
abbrev coC (b:Nat) (X:CoT) (m:CoM):List Value:=[.pointer (some ⟨b,0,none⟩),.int .i64 X.parts,.int .i64 X.rows,.int .i64 X.epochs,.map (some m.ids),.map (some m.pids),.map (some m.owed)]
def coP (b c:Nat) (X:CoT):HP:=HP.ex λm:CoM=>HP.and ((m.rs.map (·.r)).Perm X.l/\OkT X)
 (HP.star (pt c (.cells (coC b X m).toArray T.a59)) (HP.star (z03 ekS evF m.ids (z1l m.rs)) (HP.star (z03 ekI evF m.pids (z11 m.rs)) (HP.star (z03 ekI evSl m.owed (z0c m.rs)) (HP.all (m.rs.map z2u))))))
instance:MapT P T.a26 T.a57 (.pointer none):=⟨T.a37,by kernel_rfl,by kernel_rfl⟩
instance:MapT P T.a22 T.a14 (.pointer none):=⟨T.a37,by kernel_rfl,by kernel_rfl⟩
instance:MapT P T.a23 T.a14 (.slice none 0 0):=⟨T.a44,by kernel_rfl,by kernel_rfl⟩
instance:KeyT P T.a14 ekI:=zol (by kernel_rfl)
section
variable {w:World} {l r:List HP} {b c:Nat} {X:CoT}
theorem z67 (hs:Sat w (coP b c X::l)):∃ m:CoM,(m.rs.map (·.r)).Perm X.l/\OkT X /\
  Sat w (pt c (.cells (coC b X m).toArray T.a59)::z03 ekS evF m.ids (z1l m.rs)::z03 ekI evF m.pids (z11 m.rs)::z03 ekI evSl m.owed (z0c m.rs)::HP.all (m.rs.map z2u)::l):=by
 obtain ⟨m,hs⟩:=hs.ex;obtain ⟨⟨h1,h2⟩,hs⟩:=hs.and;have hs:=hs.star;have hs:=(hs.pick [1]).star;have hs:=(hs.pick [1]).star;have hs:=(hs.pick [1]).star;exact ⟨m,h1,h2,hs.pick [4,3,2,0,0]⟩
theorem zk1 (m:CoM) (h1:(m.rs.map (·.r)).Perm X.l) (h2:OkT X)
  (hs:Sat w (pt c (.cells (coC b X m).toArray T.a59)::z03 ekS evF m.ids (z1l m.rs)::z03 ekI evF m.pids (z11 m.rs)::z03 ekI evSl m.owed (z0c m.rs)::HP.all (m.rs.map z2u)::l)):Sat w (coP b c X::l):=by
 refine .ex_mk m (.and_mk ⟨h1,h2⟩ (.star_mk ?_));have h3:=(hs.pick [3,3]).star_mk;have h4:=(h3.pick [3,0]).star_mk;have h5:=(h4.pick [2,0]).star_mk;exact h5.pick [1,0]
theorem z4g (m:CoM) {r1 r2 r3 r4 r5 l':List HP} (h1:(m.rs.map (·.r)).Perm X.l) (h2:OkT X) (hs:Sat w l)
  [f1:FocB l c (.cells (coC b X m).toArray T.a59) r1] [f2:FoM r1 m.ids ekS evF (z1l m.rs) r2] [f3:FoM r2 m.pids ekI evF (z11 m.rs) r3] [f4:FoM r3 m.owed ekI evSl (z0c m.rs) r4] [f5:Foc r4 (HP.all (m.rs.map z2u)) r5] [f6:Sub r5 l']:Sat w (coP b c X::l'):=by
 have h:Sat w (coP b c X::r5):=zk1 m h1 h2 (hs.perm (f1.perm.trans (.cons _ (f2.perm.trans (.cons _ (f3.perm.trans (.cons _ (f4.perm.trans (.cons _ f5.perm)))))))));exact h.sub
theorem z01r {RS:List RowM} (t:RowM) {r1 r2 r3 r4:List HP} (hs:Sat w l) [h1:FocB l t.at_ (.cells (rowC t.x t.r).toArray T.a62) r1] [h2:FocS r1 t.x T.a13 1 (t.r.parts.flatMap encI) r2] [h3:FocS r2 t.y T.a13 1 (t.r.owed.flatMap encI) r3] [h4:Foc r3 (HP.all (RS.map z2u)) r4] :
  Sat w (HP.all ((t::RS).map z2u)::r4):=by
 have hs:=hs.perm (h1.perm.trans (.cons _ (h2.perm.trans (.cons _ (h3.perm.trans (.cons _ h4.perm))))));have h5:=(hs.pick [1,1]).star_mk;have h6:=(h5.pick [1,0]).star_mk;exact Sat.all_put h6
theorem zpi {m:CoM} (h:(m.rs.map (·.r)).Perm X.l) {q:RowT} (hq:q ∈ X.l):∃ t ∈ m.rs,t.r=q:=by
 obtain ⟨t,ht,e⟩:=List.mem_map.1 (h.mem_iff.2 hq);exact ⟨t,ht,e⟩
theorem zb9 {m:CoM} (h:(m.rs.map (·.r)).Perm X.l) {t:RowM} (ht:t ∈ m.rs):t.r ∈ X.l:=h.mem_iff.1 (List.mem_map_of_mem ht)
theorem z0d3 {m:CoM} (h:(m.rs.map (·.r)).Perm X.l) (hX:OkT X) {pid:Int} {a:Nat} (ha:(pid,a) ∈ z11 m.rs):∃ t ∈ m.rs,t.at_=a/\t.r.pid=pid/\z5k X.l pid=some t.r:=by
 obtain ⟨t,ht,e⟩:=List.mem_map.1 ha;simp only [Prod.mk.injEq] at e;refine ⟨t,ht,e.2,e.1,?_⟩;rw [<- e.1];exact zhz hX.pids (zb9 h ht)
theorem z0ao {m:CoM} (h:(m.rs.map (·.r)).Perm X.l) {pid:Int} (ha:∀ a,(pid,a) ∉ z11 m.rs):z5k X.l pid=none:=by
 refine z9y.2 λr hr e=>?_;obtain ⟨t,ht,rfl⟩:=zpi h hr;exact ha t.at_ (List.mem_map.2 ⟨t,ht,by rw [<- e]⟩)
theorem z0ga {m:CoM} (h:(m.rs.map (·.r)).Perm X.l) (hX:OkT X) {id:ByteArray} {a:Nat} (ha:(id,a) ∈ z1l m.rs):∃ t ∈ m.rs,t.at_=a/\t.r.id=id/\idF X.l id=some t.r:=by
 obtain ⟨t,ht,e⟩:=List.mem_map.1 ha;simp only [Prod.mk.injEq] at e;refine ⟨t,ht,e.2,e.1,?_⟩;rw [<- e.1];exact z0a2 hX.ids (zb9 h ht)
theorem z0cj {m:CoM} (h:(m.rs.map (·.r)).Perm X.l) {id:ByteArray} (ha:∀ a,(id,a) ∉ z1l m.rs):idF X.l id=none:=by
 refine zhl.2 λr hr e=>?_;obtain ⟨t,ht,rfl⟩:=zpi h hr;exact ha t.at_ (List.mem_map.2 ⟨t,ht,by rw [<- e]⟩)
end
theorem z012 {w:World} {l:List HP} (n:Nat) (h12:n<=12) (hs:Sat w l):Ret P F.a73 #[.int .u64 (IntKind.wrap .u64 (n:Int))] w λvs w'=>(∃ k:Int,vs=[.int .i64 k])/\Sat w' l:=by
 by_cases h0:n=0
 ·rw [h0]
  exact Calls.mono (z011 hs) λe w' ⟨vs,he,hv,hs⟩=>⟨vs,he,⟨0,hv⟩,hs⟩
 ·have e:IntKind.wrap .u64 (n:Int)=n:=by rw [zxj];omega
  rw [e]
  exact Calls.mono (z06j n (by omega) (by omega) hs) λe w' ⟨vs,he,⟨k,hv,_,_⟩,hs⟩=>⟨vs,he,⟨k,hv⟩,hs⟩
def z6a:SortI where
 T:=T.a14
 s:=.one (.int .i64)
 sz:=1
 less:=λx y k=>.call F.a3 [.int .i64 x.1,.int .i64 y.1] sB (u1 k)
 ex:=[]
 xs:=0
 ti:=0
 fNext:=0
 fPow:=0
 f_sift:=0
 f_heap:=0
 f_ins:=F.a160
 f_brk:=0
 f_rev:=0
 f_pins:=0
 f_peq:=0
 f_part:=0
 f_ord2:=0
 f_med:=0
 f_medj:=0
 f_piv:=0
 f_pdq:=0
theorem zom {w:World} {l:List HP} (x y:Int) (hs:Sat w l):Ret P F.a3 #[.int .i64 x,.int .i64 y] w λvs w'=>vs=[.bool (decide (x<y))]/\Sat w' l :=
 z02p x y <| by
  delta zf3 AA AB Aa Ab Ac Aj;refine zj (λv w'=>v=(decide (x<y),())/\Sat w' l) ?_ (by rintro _ w' ⟨rfl,hs⟩;exact ⟨rfl,rfl,hs⟩)
  refine wp_callS (false,()) (zmx x (R:=λvs w'=>vs=[.bool false]/\Sat w' l) ?_) rfl λw' hs=>⟨trivial,?_⟩
  ·exact ⟨rfl,by simp,hs⟩
  ·exact z07 rfl (wp_lt (z1z ⟨(_,()),rfl,rfl,hs⟩))
def z9h (n:Int):z6a.E:=(n,())
def z38 (e:z6a.E):Int:=e.1
theorem zqh (xs:List Int):(xs.map z9h).map z38=xs:=by rw [List.map_map];exact List.map_id xs
def zhu (x y:z6a.E):Bool:=decide (z38 x<z38 y)
theorem zwz:z6a.Ok P zhu where
 pos:=by decide
 enc _:=rfl
 ld w A x h:=by
  exact At.ld1 (T:=T.a14) h rfl
 size:=(inferInstance:One P T.a14).ok.2
 cells _:=rfl
 one x:=by intro u hu;obtain rfl:=List.mem_singleton.1 hu;rfl
 less hs h:=wp_callS (_,()) (zom _ _ hs) rfl λw' hs=>⟨trivial,h w' hs⟩
theorem zqd:LtOk zhu where
 asymm {x y} h:=by
  have h:z38 x<z38 y:=of_decide_eq_true h;exact decide_eq_false (by omega)
 trans {x y z} h1 h2:=by
  have h1:¬ z38 x<z38 y:=of_decide_eq_false h1;have h2:¬ z38 y<z38 z:=of_decide_eq_false h2;exact decide_eq_false (by omega)
theorem zgr:∀ xs:List Int,(xs.map z9h).flatMap z6a.enc=xs.flatMap encI
 | []=>rfl
 | x::r=>by rw [List.map_cons,List.flatMap_cons,List.flatMap_cons,zgr r];rfl
theorem zgs:∀ xs:List z6a.E,(xs.map z38).flatMap encI=xs.flatMap z6a.enc
 | []=>rfl
 | x::r=>by rw [List.map_cons,List.flatMap_cons,List.flatMap_cons,zgs r];rfl
section
variable {w:World} {l:List HP}
theorem zpr (x:Sl) (xs:List Int) (h12:xs.length<=12) (hs:Sat w (slc T.a14 1 x (xs.flatMap encI)::l)) :
  Ret P F.a145 #[x.v] w λvs w'=>vs=[]/\∃ ys:List Int,ys.Perm xs/\ys.Pairwise (· <= ·)/\Sat w' (slc T.a14 1 x (ys.flatMap encI)::l) :=
 zry x <| by
  delta z07x Ab Ac Ak Al Am An;have hl:=hs.slen x (xs:=xs) (enc:=encI);refine wp_lt ?_;rw [hl]
  have hs:Sat w (z6a.arr x (xs.map z9h)::l):=by
   refine hs.imp λp hp=>?_;rw [SortI.arr,zgr];exact hp
  refine zb (z012 xs.length h12 hs) λvs w' ⟨⟨k,hv⟩,hs⟩=>?_;subst hv;refine ⟨(k,()),rfl,trivial,?_⟩
  have hpdq:Ret P F.a172 #[x.v,.int .i64 0,.int .i64 (xs.length:Nat),.int .i64 k] w' λvs w'=>vs=[]/\∃ ys,Sw 0 xs.length (xs.map z9h) ys/\z92 zhu ys 0 xs.length/\Sat w' (z6a.arr x ys::l) :=
   zs6 x 0 _ k <| by
    delta z083 AA AB AC AD AE AF AG Aa Ab Ac Aj Ak Al Am An As Au Av Aw Ax Ay Az;refine z0a (λm q w=>q=(0,((xs.length:Nat):Int),k,true,true,())/\Sat w (z6a.arr x (xs.map z9h)::l)) 0 ⟨rfl,hs⟩ ?_;clear hs;rintro m _ w ⟨rfl,hs⟩;refine z81 _ _ _ _ _ (z3j ?_);rw [w64 (by omega) (by omega)];refine wp_lt (zw (decide_eq_true (by omega)) ?_);have hi:=zs3 x 0 ((xs.length:Nat):Int) (z06h zwz zqd (z9h 0) 0 xs.length (Nat.zero_le _) (by rw [List.length_map];exact Nat.le_refl _) (by rw [List.length_map];omega) hs)
    refine wp_callS () hi rfl λw' h=>⟨trivial,?_⟩
    exact zh (zm (zm ⟨rfl,rfl,h⟩))
  refine wp_callS () hpdq rfl λw' h=>⟨trivial,rfl,rfl,?_⟩
  obtain ⟨ys,hsw,hso,hs⟩:=h;have hlen:=hsw.length;rw [List.length_map] at hlen;refine ⟨ys.map z38,?_,?_,?_⟩
  ·have:=hsw.perm.map z38
   rwa [zqh] at this
  ·rw [List.pairwise_map,List.pairwise_iff_getElem];intro i j hi hj hij;have:=hso i j (Nat.zero_le _) hij (by omega);unfold z5z at this;rw [List.getElem?_eq_getElem hi,List.getElem?_eq_getElem hj] at this;have this:¬ (z38 ys[j]<z38 ys[i]):=of_decide_eq_false this;omega
  ·refine hs.imp λp hp=>?_;rw [zgs];exact hp
end
def z9r:SortI where
 T:=T.a13
 s:=.one (.int .i64)
 sz:=1
 less:=λx y k=>.call F.a2 [.int .i64 x.1,.int .i64 y.1] sB (u1 k)
 ex:=[]
 xs:=0
 ti:=0
 fNext:=0
 fPow:=0
 f_sift:=0
 f_heap:=0
 f_ins:=F.a159
 f_brk:=0
 f_rev:=0
 f_pins:=0
 f_peq:=0
 f_part:=0
 f_ord2:=0
 f_med:=0
 f_medj:=0
 f_piv:=0
 f_pdq:=0
theorem zwb {w:World} {l:List HP} (x y:Int) (hs:Sat w l):Ret P F.a2 #[.int .i64 x,.int .i64 y] w λvs w'=>vs=[.bool (decide (x<y))]/\Sat w' l :=
 z02o x y <| by
  delta zf2 AA AB Aa Ab Ac Aj;refine zj (λv w'=>v=(decide (x<y),())/\Sat w' l) ?_ (by rintro _ w' ⟨rfl,hs⟩;exact ⟨rfl,rfl,hs⟩)
  refine wp_callS (false,()) (z02q x (R:=λvs w'=>vs=[.bool false]/\Sat w' l) ?_) rfl λw' hs=>⟨trivial,?_⟩
  ·exact ⟨rfl,by simp,hs⟩
  ·exact z07 rfl (wp_lt (z1z ⟨(_,()),rfl,rfl,hs⟩))
def zd2 (n:Int):z9r.E:=(n,())
def z55 (e:z9r.E):Int:=e.1
theorem z01f (xs:List Int):(xs.map zd2).map z55=xs:=by rw [List.map_map];exact List.map_id xs
def zoq (x y:z9r.E):Bool:=decide (z55 x<z55 y)
theorem z05d:z9r.Ok P zoq where
 pos:=by decide
 enc _:=rfl
 ld w A x h:=by
  exact At.ld1 (T:=T.a13) h rfl
 size:=(inferInstance:One P T.a13).ok.2
 cells _:=rfl
 one x:=by intro u hu;obtain rfl:=List.mem_singleton.1 hu;rfl
 less hs h:=wp_callS (_,()) (zwb _ _ hs) rfl λw' hs=>⟨trivial,h w' hs⟩
theorem z014:LtOk zoq where
 asymm {x y} h:=by
  have h:z55 x<z55 y:=of_decide_eq_true h;exact decide_eq_false (by omega)
 trans {x y z} h1 h2:=by
  have h1:¬ z55 x<z55 y:=of_decide_eq_false h1;have h2:¬ z55 y<z55 z:=of_decide_eq_false h2;exact decide_eq_false (by omega)
theorem zlo:∀ xs:List Int,(xs.map zd2).flatMap z9r.enc=xs.flatMap encI
 | []=>rfl
 | x::r=>by rw [List.map_cons,List.flatMap_cons,List.flatMap_cons,zlo r];rfl
theorem zlp:∀ xs:List z9r.E,(xs.map z55).flatMap encI=xs.flatMap z9r.enc
 | []=>rfl
 | x::r=>by rw [List.map_cons,List.flatMap_cons,List.flatMap_cons,zlp r];rfl
section
variable {w:World} {l:List HP}
theorem zx0 (x:Sl) (xs:List Int) (h12:xs.length<=12) (hs:Sat w (slc T.a13 1 x (xs.flatMap encI)::l)) :
  Ret P F.a146 #[x.v] w λvs w'=>vs=[]/\∃ ys:List Int,ys.Perm xs/\ys.Pairwise (· <= ·)/\Sat w' (slc T.a13 1 x (ys.flatMap encI)::l) :=
 zrz x <| by
  delta z07y Ab Ac Ak Al Am An;have hl:=hs.slen x (xs:=xs) (enc:=encI);refine wp_lt ?_;rw [hl]
  have hs:Sat w (z9r.arr x (xs.map zd2)::l):=by
   refine hs.imp λp hp=>?_;rw [SortI.arr,zlo];exact hp
  refine zb (z012 xs.length h12 hs) λvs w' ⟨⟨k,hv⟩,hs⟩=>?_;subst hv;refine ⟨(k,()),rfl,trivial,?_⟩
  have hpdq:Ret P F.a171 #[x.v,.int .i64 0,.int .i64 (xs.length:Nat),.int .i64 k] w' λvs w'=>vs=[]/\∃ ys,Sw 0 xs.length (xs.map zd2) ys/\z92 zoq ys 0 xs.length/\Sat w' (z9r.arr x ys::l) :=
   zs5 x 0 _ k <| by
    delta z082 AA AB AC AD AE AF AG Aa Ab Ac Aj Ak Al Am An As Au Av Aw Ax Ay Az;refine z0a (λm q w=>q=(0,((xs.length:Nat):Int),k,true,true,())/\Sat w (z9r.arr x (xs.map zd2)::l)) 0 ⟨rfl,hs⟩ ?_;clear hs;rintro m _ w ⟨rfl,hs⟩;refine z81 _ _ _ _ _ (z3j ?_);rw [w64 (by omega) (by omega)];refine wp_lt (zw (decide_eq_true (by omega)) ?_);have hi:=zs2 x 0 ((xs.length:Nat):Int) (z06h z05d z014 (zd2 0) 0 xs.length (Nat.zero_le _) (by rw [List.length_map];exact Nat.le_refl _) (by rw [List.length_map];omega) hs)
    refine wp_callS () hi rfl λw' h=>⟨trivial,?_⟩
    exact zh (zm (zm ⟨rfl,rfl,h⟩))
  refine wp_callS () hpdq rfl λw' h=>⟨trivial,rfl,rfl,?_⟩
  obtain ⟨ys,hsw,hso,hs⟩:=h;have hlen:=hsw.length;rw [List.length_map] at hlen;refine ⟨ys.map z55,?_,?_,?_⟩
  ·have:=hsw.perm.map z55
   rwa [z01f] at this
  ·rw [List.pairwise_map,List.pairwise_iff_getElem];intro i j hi hj hij;have:=hso i j (Nat.zero_le _) hij (by omega);unfold z5z at this;rw [List.getElem?_eq_getElem hi,List.getElem?_eq_getElem hj] at this;have this:¬ (z55 ys[j]<z55 ys[i]):=of_decide_eq_false this;omega
  ·refine hs.imp λp hp=>?_;rw [zlp];exact hp
end
section
variable {w:World} {l r r1 r2 r3:List HP} {q:Nat} {x:Sl} {n:RowT}
theorem z6z (t:Int) (hs:Sat w l):Ret P F.a205 #[.int .i64 t] w λvs w'=>vs=[.bool (z1h t)]/\Sat w' l :=
 zsr t <| by
  delta z08n Ab Aj;exact wp_lt ⟨rfl,rfl,hs⟩
theorem z00v (s:ByteArray) (hs:Sat w l):Ret P F.a204 #[.string s] w λvs w'=>vs=[.bool (idT s)]/\Sat w' l :=
 zsq s <| by
  delta z08m Ab Aj;refine wp_lt ⟨rfl,?_,hs⟩
  congr 2
  unfold idT
  congr 1 <;> exact decide_eq_decide.2 (by omega)
theorem ze1 (x:Sl) (xs:List Int) (hb:xs.length<=100000000) [hf:FocR l x 1 (xs.flatMap encI)] (hs:Sat w l):Ret P F.a135 #[x.v] w λvs w'=>∃ z:Sl,vs=[z.v]/\Sat w' (slc T.a13 1 z (xs.flatMap encI)::l) :=
 zro x <| by
  delta z07n Aa Ab Bc;have hl:=hs.slen x (xs:=xs) (enc:=encI);refine zi (λh=>?_) λh=>?_
  ·have hrd:=hf.rd w hs
   have h0:xs=[]:=by
    rcases hrd.2 with h1|⟨b,o,_,_,_,h1,_⟩
    ·exact List.length_eq_zero_iff.1 (by omega)
    ·rw [h] at h1;cases h1
   subst h0;exact ⟨rfl,⟨none,0,0⟩,rfl,hs.slc_nil⟩
  refine zat hs (enc:=encI) ([]:List Int) λz0 w' hs=>wp_app' (x:=z0) (y:=x) (xs:=([]:List Int)) (ys:=xs) (enc:=encI) hs (λz w' hs=>?_) (by simp only [List.length_nil];omega);rw [List.nil_append] at hs;exact ⟨rfl,z,rfl,hs⟩
theorem z05r (x:Sl) (xs:List Int) (v:Int) (hb:xs.length<=100000000) [hf:FocR l x 1 (xs.flatMap encI)] (hs:Sat w l):Ret P F.a142 #[x.v,.int .i64 v] w λvs w'=>Sat w' l/\((∃ i:Nat,∃ h:i<xs.length,xs[i]=v/\vs=[.int .i64 (i:Int)])\/(v ∉ xs/\vs=[.int .i64 (-1)])) :=
 zrv x v <| by
  delta z07u AR AW Aa Ab Ac Ak Al Av Az
  have hl:=hs.slen x (xs:=xs) (enc:=encI)
  refine zj (λq w'=>v ∉ xs/\Sat w' l) ?_ ?_
  rotate_left
  ·rintro _ w2 ⟨h,hs⟩
   refine zh ?_
   exact ⟨rfl,hs,.inr ⟨h,rfl⟩⟩
  refine z0a (λm q w=>∃ i:Nat,q=((i:Int),())/\i<=xs.length/\xs.length-i=m/\v ∉ xs.take i/\Sat w l) xs.length ⟨0,rfl,by omega,rfl,by simp,hs⟩ ?_
  clear hs
  rintro m _ w ⟨i,rfl,hi,hm,hv,hs⟩
  refine zh ?_
  refine zi (λhc=>?_) λhc=>?_
  rotate_left
  ·rw [List.take_of_length_le (by omega)] at hv
   exact zm (zg ⟨hv,hs⟩)
  have hil:i<xs.length:=by omega
  refine wp_lt ?_
  refine z1g hs i hil ?_
  refine zi (λhe=>?_) λhe=>?_
  ·refine wp_lt ?_
   refine zm (zm ?_)
   exact ⟨rfl,hs,.inl ⟨i,hil,he.symm,rfl⟩⟩
  ·refine z22 (us':=[.int .i64 ((i+1:Nat):Int)]) (by (try simp (disch:=omega) only [w64]);first|rfl|(congr;omega)) ?_
   refine z0x (xs.length-(i+1)) ⟨i+1,rfl,by omega,rfl,?_,hs⟩
   rw [List.take_add_one,List.getElem?_eq_getElem hil]
   simp only [Option.toList_some,List.mem_append,List.mem_singleton,not_or]
   exact ⟨hv,he⟩
theorem zpg [hf:FocB l q (.cells (rowC x n).toArray T.a62) r] (hs:Sat w l):Ret P F.a209 #[.pointer (some ⟨q,0,none⟩)] w λvs w'=>vs=[.bool (z1a n)]/\Sat w' l :=
 zsv _ <| by
  delta z08r AD AR Ab Ah Aj Ao;have hf:FocB l q (.cells [.string n.id,.int .i64 n.pid,.int .i64 n.epoch,.int .i64 n.who,.int .i64 n.state,.slice x.a x.len x.cap,.int .i64 n.since,.int .i64 n.limit,.int .i64 n.fate,.bool n.own,.bool n.next].toArray T.a62) r:=hf;refine zf (z8 hs ?_);refine z04 (z8 hs ?_);refine wp_lt ⟨rfl,?_,hs⟩
  congr 2
theorem z059 (epoch:Int) (commit:Bool) (he:0<=n.epoch/\n.epoch<=32767) [hf:FocB l q (.cells (rowC x n).toArray T.a62) r] (hs:Sat w l):Ret P F.a208 #[.pointer (some ⟨q,0,none⟩),.int .i64 epoch,.bool commit] w λvs w'=>vs=[.bool (zem n epoch commit)]/\Sat w' l :=
 zsu _ epoch commit <| by
  delta z08q AB AD AR Aa Ab Ah Aj Ao Av;unfold zem;have hf:FocB l q (.cells [.string n.id,.int .i64 n.pid,.int .i64 n.epoch,.int .i64 n.who,.int .i64 n.state,.slice x.a x.len x.cap,.int .i64 n.since,.int .i64 n.limit,.int .i64 n.fate,.bool n.own,.bool n.next].toArray T.a62) r:=hf;refine zf (z8 hs ?_);rw [w64 (by omega) (by omega)];refine wp_lt (zf ?_);refine z8 hs (zj (λv w'=>v=((if n.state=5 then decide (epoch=n.epoch) else decide (epoch=n.epoch-1)),())/\Sat w' l) ?_ ?_)
  ·refine zi (λh=>?_) λh=>?_
   ·rw [if_pos h];refine zf (z8 hs ?_);exact wp_lt (zg ⟨rfl,hs⟩)
   ·rw [if_neg h];exact zg ⟨rfl,hs⟩
  clear hs;rintro _ w ⟨rfl,hs⟩;refine zh (z04 ?_);refine z8 hs (z04 ?_);refine z8 hs (wp_lt ?_);refine ⟨rfl,?_,hs⟩
  congr 2
theorem ze2 (hp:n.parts.length<=1000) [hf:FocB l q (.cells (rowC x n).toArray T.a62) r] [hx:FocR l x 1 (n.parts.flatMap encI)] (hs:Sat w l):Ret P F.a207 #[.pointer (some ⟨q,0,none⟩)] w λvs w'=>∃ (a:Nat) (z:Sl),vs=[.pointer (some ⟨a,0,none⟩)]/\Sat w' (pt a (.cells (rowC z n).toArray T.a62)::slc T.a13 1 z (n.parts.flatMap encI)::l) :=
 zst _ <| by
  delta z08p AH AK AN AO AS Ab Ac Ag Ao;have hf:FocB l q (.cells [.string n.id,.int .i64 n.pid,.int .i64 n.epoch,.int .i64 n.who,.int .i64 n.state,.slice x.a x.len x.cap,.int .i64 n.since,.int .i64 n.limit,.int .i64 n.fate,.bool n.own,.bool n.next].toArray T.a62) r:=hf;refine zf (zl hs ?_);refine zu hs λa w' hs=>zv hs λw' hs=>zf (z8 hs ?_);have hx2:FocR (pt a (.cells [.string n.id,.int .i64 n.pid,.int .i64 n.epoch,.int .i64 n.who,.int .i64 n.state,.slice x.a x.len x.cap,.int .i64 n.since,.int .i64 n.limit,.int .i64 n.fate,.bool n.own,.bool n.next].toArray T.a62)::l) x 1 (n.parts.flatMap encI):=FocR.tail;refine zb (ze1 x n.parts (by omega) hs) λ_ w' hs=>?_;obtain ⟨z,rfl,hs⟩:=hs;refine zd (zy hs λw' hs=>?_);exact ⟨rfl,a,z,rfl,hs⟩
end
theorem z06g:∀ xs:List Int,xs.flatMap encI=xs.map λn=>Value.int .i64 n
 | []=>rfl
 | x::xs=>by rw [List.flatMap_cons,z06g xs];rfl
section
variable {w:World} {l r r1 r2 r3 l':List HP} {b c q:Nat} {x z:Sl} {n:RowT} {X X':CoT} {Q:Post} {S:World->Prop}
theorem z064 {k:Sl->Prog} (n:Nat) (hn:n<=1000) (hs:Sat w l) (h:∀ x w',Sat w' (slc T.a13 1 x ((List.replicate n (0:Int)).flatMap encI)::l)->(k x).wp P S w' Q) (hS:∀ w',S w':=by exact λ_=>trivial) :
  (Prog.act (Instr.makeSlice T.a44 (.int .i64 (n:Int)) (.int .i64 (n:Int))) sL (u1 k)).wp P S w Q:=by
 have ht:SlT P T.a44 T.a13 1 8:=inferInstance;obtain ⟨i,z,hi,h2,h3,h4,h5⟩:=ht.parts
 have hz:z=.int .i64 0:=by
  have e:((P.info? T.a13).bind (·.zero))=some (.int .i64 0):=by kernel_rfl
  rw [hi] at e;simp only [Option.bind_some] at e;rw [h4] at e;exact Option.some.inj e
 subst hz;have hrun:=run_make (P:=P) w T.a44 T.a13 i _ ht.ok.1 hi h4 .i64 .i64 n n (by omega) (Int.le_refl _) (by rw [h3];omega) (by omega);simp only [Int.toNat_natCast] at hrun
 have e:(madeCells (Value.int .i64 0).cells (n*i.size))=(List.replicate n (Value.int .i64 0)).toArray:=by
  rw [h2,Nat.mul_one];apply Array.ext_getElem?;intro j
  by_cases hj:j<n
  ·rw [Array.getElem?_eq_getElem (by simpa [madeCells] using hj)];simp [madeCells,Value.cells,hj,Nat.mod_one]
  ·rw [Array.getElem?_eq_none (by simp [madeCells];omega),Array.getElem?_eq_none (by simp;omega)]
 rw [e] at hrun;have hp:=hs.push (o:=.cells (List.replicate n (Value.int .i64 0)).toArray T.a13) (w':=w.alloc (.cells (List.replicate n (Value.int .i64 0)).toArray T.a13)) rfl;refine ⟨(⟨some ⟨w.heap.size,0,none⟩,n,n⟩,()),_,hrun,hS _,h ⟨some ⟨w.heap.size,0,none⟩,n,n⟩ _ ?_⟩
 have hc:(List.replicate n (0:Int)).flatMap encI=List.replicate n (Value.int .i64 0):=by rw [z06g,List.map_replicate]
 rw [hc];have h6:=hp.slc_of (sz:=1) (n:=n) (by simp);simpa using h6
def upI (n i:Nat):List Int:=((List.range i).map λ(j:Nat)=>(j:Int))++List.replicate (n-i) 0
theorem z0bh {n i:Nat} (h:i<n):(upI n i).set i (i:Int)=upI n (i+1):=by
 unfold upI
 have e:List.replicate (n-i) (0:Int)=0::List.replicate (n-(i+1)) 0:=by rw [<- List.replicate_succ];congr 1;omega
 rw [e,List.set_append_right _ _ (by simp),List.range_succ,List.map_append];simp
theorem z0bg {n i:Nat} (h:i<=n):(upI n i).length=n:=by unfold upI;simp;omega
theorem zpw {m:CoM} (hX:1<=X.parts/\X.parts<=256) [hf:FocB l c (.cells (coC b X m).toArray T.a59) r] (hs:Sat w l):Ret P F.a192 #[.pointer (some ⟨c,0,none⟩)] w λvs w'=>∃ z:Sl,vs=[z.v]/\Sat w' (slc T.a13 1 z ((z24 X.parts).flatMap encI)::l) :=
 zse _ <| by
  delta z08b AR AS AW Aa Ab Ac Ak Al Ao Av Az Bc
  refine zf ?_
  refine z8 hs ?_
  obtain ⟨n,hn⟩:∃ n:Nat,X.parts=n:=⟨X.parts.toNat,by omega⟩
  rw [hn]
  refine z064 n (by omega) hs λz w' hs=>?_
  have hzl:=hs.slen z (xs:=List.replicate n (0:Int)) (enc:=encI)
  rw [List.length_replicate] at hzl
  refine zj (λq w'=>Sat w' (slc T.a13 1 z ((upI n n).flatMap encI)::l)) ?_ ?_
  rotate_left
  ·rintro _ w2 hs
   refine zh ?_
   refine ⟨rfl,z,rfl,?_⟩
   have e:upI n n=z24 (n:Int):=by unfold upI z24;simp
   rw [<- e]
   exact hs
  refine z0a (λk q w=>∃ i:Nat,q=((i:Int),())/\i<=n/\n-i=k/\Sat w (slc T.a13 1 z ((upI n i).flatMap encI)::l)) n ⟨0,rfl,by omega,rfl,by unfold upI;simpa using hs⟩ ?_
  clear hs
  rintro k _ w ⟨i,rfl,hi,hk,hs⟩
  refine zh ?_
  refine zi (λhc=>?_) λhc=>?_
  rotate_left
  ·obtain rfl:i=n:=by omega
   exact zm (zg hs)
  have hil:i<n:=by omega
  refine wp_lt ?_
  refine zq3 hs (xs:=upI n i) (enc:=encI) i (by rw [z0bg hi];exact hil) (i:Int) (λw' hs=>?_)
  rw [z0bh hil] at hs
  refine z22 (us':=[.int .i64 ((i+1:Nat):Int)]) (by (try simp (disch:=omega) only [w64]);first|rfl|(congr;omega)) ?_
  exact z0x (n-(i+1)) ⟨i+1,rfl,by omega,rfl,hs⟩
theorem z00s {a c:List RowM} (h:a.Perm c):(z1l a).Perm (z1l c):=h.map _
theorem zwq {a c:List RowM} (h:a.Perm c):(z11 a).Perm (z11 c):=h.map _
theorem zwk {a c:List RowM} (h:a.Perm c):(z0c a).Perm (z0c c):=(h.filter _).map _
theorem z06f {m:CoM} {t:RowM} {RS:List RowM} (hp:m.rs.Perm (t::RS))
  (hs:Sat w (pt c (.cells (coC b X m).toArray T.a59)::z03 ekS evF m.ids (z1l m.rs)::z03 ekI evF m.pids (z11 m.rs)::z03 ekI evSl m.owed (z0c m.rs)::HP.all (m.rs.map z2u)::l)) :
  Sat w (pt c (.cells (coC b X m).toArray T.a59)::z03 ekS evF m.ids (z1l (t::RS))::z03 ekI evF m.pids (z11 (t::RS))::z03 ekI evSl m.owed (z0c (t::RS)) ::
   pt t.at_ (.cells (rowC t.x t.r).toArray T.a62)::slc T.a13 1 t.x (t.r.parts.flatMap encI)::slc T.a13 1 t.y (t.r.owed.flatMap encI)::HP.all (RS.map z2u)::l):=by
 have h1:=(hs.pick [1]).mapPerm (z00s hp);have h2:=(h1.pick [2]).mapPerm (zwq hp);have h3:=(h2.pick [3]).mapPerm (zwk hp);have h4:=(h3.pick [4]).all_perm (hp.map z2u);have h5:=h4.all_cons.star;have h6:=(h5.pick [1]).star;exact h6.pick [7,6,5,4,2,0,0]
abbrev coF (b c:Nat) (X:CoT) (m:CoM) (t:RowM) (RS:List RowM) (l:List HP):List HP :=
 pt c (.cells (coC b X m).toArray T.a59)::z03 ekS evF m.ids (z1l (t::RS))::z03 ekI evF m.pids (z11 (t::RS))::z03 ekI evSl m.owed (z0c (t::RS)) ::
   pt t.at_ (.cells (rowC t.x t.r).toArray T.a62)::slc T.a13 1 t.x (t.r.parts.flatMap encI)::slc T.a13 1 t.y (t.r.owed.flatMap encI)::HP.all (RS.map z2u)::l
theorem z3c {m:CoM} {t:RowM} {RS:List RowM} {r1 r2 r3 r4 r5 r6 r7 r8:List HP} (h1:((t::RS).map (·.r)).Perm X.l) (h2:OkT X) (hs:Sat w l)
  [f1:FocB l c (.cells (coC b X m).toArray T.a59) r1] [f2:FoM r1 m.ids ekS evF (z1l (t::RS)) r2] [f3:FoM r2 m.pids ekI evF (z11 (t::RS)) r3] [f4:FoM r3 m.owed ekI evSl (z0c (t::RS)) r4]
  [f5:FocB r4 t.at_ (.cells (rowC t.x t.r).toArray T.a62) r5] [f6:FocS r5 t.x T.a13 1 (t.r.parts.flatMap encI) r6] [f7:FocS r6 t.y T.a13 1 (t.r.owed.flatMap encI) r7] [f8:Foc r7 (HP.all (RS.map z2u)) r8] [f9:Sub r8 l']:Sat w (coP b c X::l'):=by
 have hs:=hs.perm (f1.perm.trans (.cons _ (f2.perm.trans (.cons _ (f3.perm.trans (.cons _ (f4.perm.trans (.cons _ (f5.perm.trans (.cons _ (f6.perm.trans (.cons _ (f7.perm.trans (.cons _ f8.perm))))))))))))));have h3:Sat w (HP.all ((t::RS).map z2u)::_):=z01r t (hs.pick [4,4,4,4]);have h4:=h3.pick [1,1,1,1,0];have h5:Sat w (coP b c X::r8):=zk1 { m with rs:=t::RS } h1 h2 h4;exact h5.sub
theorem zau {m:CoM} {pid:Int} {g:Prop} {f:Option Addr->Prog} (hp:(m.rs.map (·.r)).Perm X.l) (hX:OkT X)
  (hs:Sat w (pt c (.cells (coC b X m).toArray T.a59)::z03 ekS evF m.ids (z1l m.rs)::z03 ekI evF m.pids (z11 m.rs)::z03 ekI evSl m.owed (z0c m.rs)::HP.all (m.rs.map z2u)::l))
  (h1:∀ t RS,m.rs.Perm (t::RS)->((t::RS).map (·.r)).Perm X.l->z5k X.l pid=some t.r->t.r ∈ X.l->t.r.pid=pid->Sat w (coF b c X m t RS l)->(f (some ⟨t.at_,0,none⟩)).wp P S w Q)
  (h0:z5k X.l pid=none->(f none).wp P S w Q):(Prog.read g (Instr.lookup T.a22 (.map (some m.pids)) (.int .i64 pid) false) sP (u1 f)).wp P S w Q:=by
 refine z5p (k:=pid) hs (λv hv=>?_) λhv=>?_
 ·obtain ⟨t,ht,rfl,e2,e3⟩:=z0d3 hp hX hv;obtain ⟨s,u,hsu⟩:=List.append_of_mem ht
  have hpm:m.rs.Perm (t::(s++u)):=by rw [hsu];exact List.perm_middle
  exact h1 t _ hpm ((hpm.map _).symm.trans hp) e3 (zb9 hp ht) e2 (z06f hpm hs)
 ·exact h0 (z0ao hp hv)
theorem z0dt {m:CoM} {id:ByteArray} {g:Prop} {f:Option Addr->Prog} (hp:(m.rs.map (·.r)).Perm X.l) (hX:OkT X)
  (hs:Sat w (pt c (.cells (coC b X m).toArray T.a59)::z03 ekS evF m.ids (z1l m.rs)::z03 ekI evF m.pids (z11 m.rs)::z03 ekI evSl m.owed (z0c m.rs)::HP.all (m.rs.map z2u)::l))
  (h1:∀ t RS,m.rs.Perm (t::RS)->((t::RS).map (·.r)).Perm X.l->idF X.l id=some t.r->t.r ∈ X.l->t.r.id=id->Sat w (coF b c X m t RS l)->(f (some ⟨t.at_,0,none⟩)).wp P S w Q)
  (h0:idF X.l id=none->(f none).wp P S w Q):(Prog.read g (Instr.lookup T.a26 (.map (some m.ids)) (.string id) false) sP (u1 f)).wp P S w Q:=by
 refine z5p (k:=id) hs (λv hv=>?_) λhv=>?_
 ·obtain ⟨t,ht,rfl,e2,e3⟩:=z0ga hp hX hv;obtain ⟨s,u,hsu⟩:=List.append_of_mem ht
  have hpm:m.rs.Perm (t::(s++u)):=by rw [hsu];exact List.perm_middle
  exact h1 t _ hpm ((hpm.map _).symm.trans hp) e3 (zb9 hp ht) e2 (z06f hpm hs)
 ·exact h0 (z0cj hp hv)
end
def z0z (was:Option RowT) (n:RowT):List Int :=
 if z1a n=true then (match was with
  | none=>n.parts
  | some t=>if t.state=n.state/\t.epoch=n.epoch/\t.parts.length=n.parts.length then t.owed else n.parts) else []
def CoT.same (X X':CoT):Prop:=X'.parts=X.parts/\X'.rows=X.rows/\X'.epochs=X.epochs
section
variable {w:World} {l r r1 r2 r3 l':List HP} {b c q:Nat} {x z:Sl} {n:RowT} {X X':CoT} {Q:Post} {S:World->Prop}
theorem zlk {t:RowT} {rest:List RowT} {pid:Int} (h:((t::rest).map (·.pid)).Nodup) (e:t.pid=pid):((t::rest).filter λr=>!decide (r.pid=pid))=rest:=by
 rw [List.filter_cons_of_neg (by simp [e])];rw [List.map_cons,List.nodup_cons] at h;refine List.filter_eq_self.2 λx hx=>?_;simp only [Bool.not_eq_true',decide_eq_false_iff_not];intro e2;exact h.1 (by rw [e,<- e2];exact List.mem_map_of_mem hx)
theorem zdt (hX:OkT X):(X.l.map (·.pid)).Nodup:=by
 rw [List.Nodup,List.pairwise_map]
 exact hX.pids.imp λh=>by omega
set_option maxHeartbeats 2000000 in
theorem z02e   (hX' : OkT X') (hcfg : X.same X') (hl : X'.l.Perm ({ n with owed := z0z  (z5k  X.l n.pid) n } :: X.l.filter fun r => !decide (r.pid = n.pid))) (hids : ∀ t ∈ X.l, t.pid = n.pid ↔ t.id = n.id) (hpl : n.parts.length ≤ 1000)
    [hf : Fo l (coP b) c X r1] [hq : FocB r1 q (.cells (rowC z n).toArray T.a62) r2] [hz : FocS r2 z T.a13 1 (n.parts.flatMap encI) r3] (hs : Sat w l) :
    Ret P F.a201 #[.pointer (some ⟨c, 0, none⟩), .pointer (some ⟨q, 0, none⟩)] w fun vs w' => vs = [] ∧ w'.heap[q]? = some (.cells (rowC z n).toArray T.a62) ∧ Sat w' (coP b c X' :: r3) :=
  zsn         _ _ <| by
    delta z08j AA AC AD AE AN AO AR AT AZ Aa Ab Ac Ad Ah Ak Ao Ap Aq Az B1 BQ Bb Bd
    have hs := hs.perm (hf.perm.trans (.cons _ (hq.perm.trans (.cons _ hz.perm))))
    clear hf hq hz
    obtain ⟨g1, g2, g3⟩ := hcfg
    obtain ⟨m, hp, hX, hs⟩ := z67     hs
    refine zt    hs fun w' hs => ?_
    refine zf    ?_
    refine z8     hs ?_
    refine zf    ?_
    refine z8     hs ?_
    refine zau     hp hX hs (fun t RS hpm hpr hpf htX htp hs => ?_) fun hpf => ?_
    ·
      have htid : t.r.id = n.id := (hids _ htX).1 htp
      have hfl : (X.l.filter fun r => !decide (r.pid = n.pid)).Perm (RS.map (·.r)) := by
        have h1 := hpr.filter fun r => !decide (r.pid = n.pid)
        rw [List.map_cons, zlk       (by have := (hpr.map (·.pid)).symm.nodup (zdt        hX); simpa using this) htp] at h1
        exact h1.symm
      rw [hpf] at hl
      have hfin : ∀ y : Sl, (((⟨q, z, y, { n with owed := z0z  (some t.r) n }⟩ : RowM) :: RS).map (·.r)).Perm X'.l := fun y => (hl.trans (.cons _ hfl)).symm
      have hout : ∀ v : Sl, (n.pid, v) ∉ z0c   RS := fun v hv => by
        obtain ⟨u, hu, e⟩ := List.mem_map.1 hv
        have hu := (List.mem_filter.1 hu).1
        have hnd := (hpr.map (·.pid)).symm.nodup (zdt        hX)
        rw [List.map_cons, List.map_cons, List.nodup_cons] at hnd
        refine hnd.1 ?_
        rw [htp]
        simp only [Prod.mk.injEq] at e
        rw [← e.1]
        exact List.mem_map.2 ⟨u.r, List.mem_map_of_mem hu, rfl⟩
      refine ze        ?_
      refine zt    hs fun w' hs => ?_
      refine zf    ?_
      refine z8     hs ?_
      refine zf    ?_
      refine z8     hs ?_
      refine z4x     (k := n.id) hs (z1l  RS) (.inl ⟨t.at_, by show (z1l  (t :: RS)).Perm _; unfold z1l ; rw [List.map_cons, htid]⟩) q (fun w' hs => ?_)
      refine ze        ?_
      refine zt    hs fun w' hs => ?_
      refine zf    ?_
      refine z8     hs ?_
      refine zf    ?_
      refine z8     hs ?_
      refine z4x     (k := n.pid) hs (z11   RS) (.inl ⟨t.at_, by show (z11   (t :: RS)).Perm _; unfold z11  ; rw [List.map_cons, htp]⟩) q (fun w' hs => ?_)
      refine ze        ?_
      refine zb      (zpg      (n := n) (x := z) (q := q) hs) fun _ w' hs => ?_
      obtain ⟨rfl, hs⟩ := hs
      refine zd     ?_
      by_cases ho : z1a   n = true
      · refine z07      (by rw [ho]; rfl) ?_
        refine zt    hs fun w' hs => ?_
        refine z04    ?_
        refine z8     hs ?_
        refine z04    ?_
        refine z8     hs ?_
        refine z04    ?_
        refine z8     hs ?_
        refine z04    ?_
        refine z8     hs ?_
        refine z04    ?_
        refine z8     hs ?_
        refine z04    ?_
        refine z8     hs ?_
        refine ze        ?_
        have hxl := hs.slen t.x (xs := t.r.parts) (enc := encI)
        have hzl := hs.slen z (xs := n.parts) (enc := encI)
        by_cases hsame : t.r.state = n.state ∧ t.r.epoch = n.epoch ∧ t.r.parts.length = n.parts.length
        · have hot : z1a   t.r = true := by unfold z1a   at ho ⊢; rw [hsame.1]; exact ho
          refine z3j     ?_
          refine z07      (by simp [hsame.1, hsame.2.1, hxl, hzl, hsame.2.2]) ?_
          refine z5a   ?_
          refine ⟨rfl, rfl, ?_⟩
          have eo : z0z  (some t.r) n = t.r.owed := by unfold z0z ; rw [if_pos ho]; exact if_pos hsame
          have eM : z0c   (t :: RS) = z0c   ((⟨q, z, t.y, { n with owed := z0z  (some t.r) n }⟩ : RowM) :: RS) := by
            have ho2 : z1a   { n with owed := z0z  (some t.r) n } = true := ho
            unfold z0c  
            rw [List.filter_cons_of_pos (by exact hot), List.filter_cons_of_pos (by exact ho2), List.map_cons, List.map_cons, htp]
          rw [eM] at hs
          have e2 : (⟨q, z, t.y, { n with owed := z0z  (some t.r) n }⟩ : RowM).r.owed = t.r.owed := eo
          have hs : Sat w' (pt c (.cells (coC b X' m).toArray T.a59) :: z03  ekS evF m.ids (z1l  ((⟨q, z, t.y, { n with owed := z0z  (some t.r) n }⟩ : RowM) :: RS)) :: z03  ekI evF m.pids (z11   ((⟨q, z, t.y, { n with owed := z0z  (some t.r) n }⟩ : RowM) :: RS)) :: z03  ekI evSl m.owed (z0c   ((⟨q, z, t.y, { n with owed := z0z  (some t.r) n }⟩ : RowM) :: RS)) ::
              pt q (.cells (rowC z { n with owed := z0z  (some t.r) n }).toArray T.a62) :: slc T.a13 1 z (n.parts.flatMap encI) :: slc T.a13 1 t.y (t.r.owed.flatMap encI) :: HP.all (RS.map z2u ) :: r3) := by
            have ec : coC b X' m = coC b X m := by show [_, _, _, _, _, _, _] = _; rw [g1, g2, g3]
            have e3 : z1l  ((⟨q, z, t.y, { n with owed := z0z  (some t.r) n }⟩ : RowM) :: RS) = (n.id, q) :: z1l  RS := rfl
            have e4 : z11   ((⟨q, z, t.y, { n with owed := z0z  (some t.r) n }⟩ : RowM) :: RS) = (n.pid, q) :: z11   RS := rfl
            rw [ec, e3, e4]
            exact hs.sub
          have hg := (hs.pick [4]).get
          rw [← e2] at hs
          refine ⟨hg, ?_⟩
          exact z3c     (t := ⟨q, z, t.y, { n with owed := z0z  (some t.r) n }⟩) (m := m) (hfin t.y) hX' hs
        · have eo : z0z  (some t.r) n = n.parts := by unfold z0z ; rw [if_pos ho]; exact if_neg hsame
          refine zj     (fun _ w' => ∃ y : Sl, Sat w' (pt c (.cells (coC b X' m).toArray T.a59) :: z03  ekS evF m.ids (z1l  ((⟨q, z, y, { n with owed := z0z  (some t.r) n }⟩ : RowM) :: RS)) :: z03  ekI evF m.pids (z11   ((⟨q, z, y, { n with owed := z0z  (some t.r) n }⟩ : RowM) :: RS)) :: z03  ekI evSl m.owed (z0c   ((⟨q, z, y, { n with owed := z0z  (some t.r) n }⟩ : RowM) :: RS)) ::
              pt q (.cells (rowC z { n with owed := z0z  (some t.r) n }).toArray T.a62) :: slc T.a13 1 z (n.parts.flatMap encI) :: slc T.a13 1 y ((z0z  (some t.r) n).flatMap encI) :: HP.all (RS.map z2u ) :: r3)) ?_ ?_
          rotate_left
          · rintro _ w2 ⟨y, hs⟩
            refine zh    ?_
            refine ⟨rfl, rfl, (hs.pick [4]).get, ?_⟩
            exact z3c     (t := ⟨q, z, y, { n with owed := z0z  (some t.r) n }⟩) (m := m) (hfin y) hX' hs
          refine zw       ?_ ?_
          · by_cases h1 : t.r.state = n.state
            · by_cases h2 : t.r.epoch = n.epoch
              · have h3 : ¬ t.r.parts.length = n.parts.length := fun h3 => hsame ⟨h1, h2, h3⟩
                simp [h1, h2, hxl, hzl]
                omega
              · simp [h2]
            · simp [h1]
          refine zj     (fun _ w' => ∃ y : Sl, Sat w' (z03  ekI evSl m.owed ((n.pid, y) :: z0c   RS) :: slc T.a13 1 y (n.parts.flatMap encI) :: pt c (.cells (coC b X m).toArray T.a59) :: z03  ekS evF m.ids ((n.id, q) :: z1l  RS) :: z03  ekI evF m.pids ((n.pid, q) :: z11   RS) ::
              pt q (.cells (rowC z n).toArray T.a62) :: slc T.a13 1 z (n.parts.flatMap encI) :: HP.all (RS.map z2u ) :: r3)) ?_ ?_
          rotate_left
          · rintro _ w2 ⟨y, hs⟩
            refine zh    ?_
            refine zg    ⟨y, ?_⟩
            have eM : (n.pid, y) :: z0c   RS = z0c   ((⟨q, z, y, { n with owed := z0z  (some t.r) n }⟩ : RowM) :: RS) := by
              have ho2 : z1a   { n with owed := z0z  (some t.r) n } = true := ho
              unfold z0c  
              rw [List.filter_cons_of_pos (by exact ho2), List.map_cons]
            rw [eM] at hs
            have ec : coC b X' m = coC b X m := by show [_, _, _, _, _, _, _] = _; rw [g1, g2, g3]
            have e3 : z1l  ((⟨q, z, y, { n with owed := z0z  (some t.r) n }⟩ : RowM) :: RS) = (n.id, q) :: z1l  RS := rfl
            have e4 : z11   ((⟨q, z, y, { n with owed := z0z  (some t.r) n }⟩ : RowM) :: RS) = (n.pid, q) :: z11   RS := rfl
            rw [ec, e3, e4, eo]
            rw [eo] at hs
            exact hs.sub
          refine zt    hs fun w' hs => ?_
          refine zf    ?_
          refine z0y    hs ?_
          refine zf    ?_
          refine z0y    hs ?_
          refine zf    ?_
          refine z8     hs ?_
          have hzr : FocR (pt c (.cells (coC b X m).toArray T.a59) :: slc T.a13 1 z (n.parts.flatMap encI) :: z03  ekS evF m.ids ((n.id, q) :: z1l  RS) :: z03  ekI evF m.pids ((n.pid, q) :: z11   RS) :: z03  ekI evSl m.owed (z0c   (t :: RS)) :: pt q (.cells (rowC z n).toArray T.a62) :: HP.all (RS.map z2u ) :: r3) z 1 (n.parts.flatMap encI) := inferInstance
          have hs : Sat w' (pt c (.cells (coC b X m).toArray T.a59) :: slc T.a13 1 z (n.parts.flatMap encI) :: z03  ekS evF m.ids ((n.id, q) :: z1l  RS) :: z03  ekI evF m.pids ((n.pid, q) :: z11   RS) :: z03  ekI evSl m.owed (z0c   (t :: RS)) :: pt q (.cells (rowC z n).toArray T.a62) :: HP.all (RS.map z2u ) :: r3) := hs.sub
          refine zb      (ze1      z n.parts (by omega) hs) fun _ w' hs => ?_
          obtain ⟨y, rfl, hs⟩ := hs
          refine zd     ?_ (by first | trivial | (repeat (first | exact trivial | exact fun _ => z09     hs | exact fun _ => z0g     hs | refine And.intro ?_ ?_)))
          refine ze        ?_
          have hset : ∃ es', ((∃ v0, (z0c   (t :: RS)).Perm ((n.pid, v0) :: es')) ∨ ((∀ v, (n.pid, v) ∉ z0c   (t :: RS)) ∧ es' = z0c   (t :: RS))) ∧ es' = z0c   RS := by
            refine ⟨z0c   RS, ?_, rfl⟩
            by_cases hot : z1a   t.r = true
            · refine .inl ⟨t.y, ?_⟩
              unfold z0c  
              rw [List.filter_cons_of_pos (by exact hot), List.map_cons, htp]
            · refine .inr ?_
              have e : z0c   (t :: RS) = z0c   RS := by unfold z0c  ; rw [List.filter_cons_of_neg (by exact hot)]
              rw [e]
              exact ⟨hout, rfl⟩
          obtain ⟨es', he1, he2⟩ := hset
          refine z4x     (k := n.pid) hs es' he1 y (fun w' hs => ?_)
          rw [he2] at hs
          refine ze        ?_
          exact zg    ⟨y, hs.sub⟩
      · refine zw       (by simpa using ho) ?_
        have eo : z0z  (some t.r) n = [] := by unfold z0z ; rw [if_neg ho]
        refine zt    hs fun w' hs => ?_
        refine zf    ?_
        refine z8     hs ?_
        refine zf    ?_
        refine z8     hs ?_
        have hset : (∃ v0, (z0c   (t :: RS)).Perm ((n.pid, v0) :: z0c   RS)) ∨ ((∀ v, (n.pid, v) ∉ z0c   (t :: RS)) ∧ z0c   RS = z0c   (t :: RS)) := by
          by_cases hot : z1a   t.r = true
          · refine .inl ⟨t.y, ?_⟩
            unfold z0c  
            rw [List.filter_cons_of_pos (by exact hot), List.map_cons, htp]
          · refine .inr ?_
            have e : z0c   (t :: RS) = z0c   RS := by unfold z0c  ; rw [List.filter_cons_of_neg (by exact hot)]
            rw [e]
            exact ⟨hout, rfl⟩
        refine zga     (k := n.pid) hs (z0c   RS) hset (fun w' hs => ?_)
        refine ze        ?_
        refine ⟨rfl, rfl, ?_⟩
        have eM : z0c   RS = z0c   ((⟨q, z, ⟨none, 0, 0⟩, { n with owed := z0z  (some t.r) n }⟩ : RowM) :: RS) := by
          have ho2 : ¬ z1a   { n with owed := z0z  (some t.r) n } = true := ho
          unfold z0c  
          rw [List.filter_cons_of_neg (by exact ho2)]
        rw [eM] at hs
        have hs : Sat w' (slc T.a13 1 ⟨none, 0, 0⟩ (([] : List Int).flatMap encI) :: _) := hs.slc_nil
        have ec : coC b X' m = coC b X m := by show [_, _, _, _, _, _, _] = _; rw [g1, g2, g3]
        have e2 : (⟨q, z, ⟨none, 0, 0⟩, { n with owed := z0z  (some t.r) n }⟩ : RowM).r.owed = [] := eo
        have hs : Sat w' (pt c (.cells (coC b X' m).toArray T.a59) :: z03  ekS evF m.ids (z1l  ((⟨q, z, ⟨none, 0, 0⟩, { n with owed := z0z  (some t.r) n }⟩ : RowM) :: RS)) :: z03  ekI evF m.pids (z11   ((⟨q, z, ⟨none, 0, 0⟩, { n with owed := z0z  (some t.r) n }⟩ : RowM) :: RS)) :: z03  ekI evSl m.owed (z0c   ((⟨q, z, ⟨none, 0, 0⟩, { n with owed := z0z  (some t.r) n }⟩ : RowM) :: RS)) ::
            pt q (.cells (rowC z { n with owed := z0z  (some t.r) n }).toArray T.a62) :: slc T.a13 1 z (n.parts.flatMap encI) :: slc T.a13 1 ⟨none, 0, 0⟩ (([] : List Int).flatMap encI) :: HP.all (RS.map z2u ) :: r3) := by
          have e3 : z1l  ((⟨q, z, ⟨none, 0, 0⟩, { n with owed := z0z  (some t.r) n }⟩ : RowM) :: RS) = (n.id, q) :: z1l  RS := rfl
          have e4 : z11   ((⟨q, z, ⟨none, 0, 0⟩, { n with owed := z0z  (some t.r) n }⟩ : RowM) :: RS) = (n.pid, q) :: z11   RS := rfl
          rw [ec, e3, e4]
          exact hs.sub
        have hg := (hs.pick [4]).get
        rw [← e2] at hs
        refine ⟨hg, ?_⟩
        exact z3c     (t := ⟨q, z, ⟨none, 0, 0⟩, { n with owed := z0z  (some t.r) n }⟩) (m := m) (hfin _) hX' hs
    ·
      have hne :=       z9y.1 hpf
      have hfl : (X.l.filter fun r => !decide (r.pid = n.pid)).Perm (m.rs.map (·.r)) := by
        rw [List.filter_eq_self.2 fun r hr => by simpa using hne r hr]
        exact hp.symm
      rw [hpf] at hl
      have hfin : ∀ y : Sl, (((⟨q, z, y, { n with owed := z0z  none n }⟩ : RowM) :: m.rs).map (·.r)).Perm X'.l := fun y => (hl.trans (.cons _ hfl)).symm
      have hmem : ∀ u ∈ m.rs, u.r.pid ≠ n.pid ∧ u.r.id ≠ n.id := fun u hu => by
        have h1 := hne _ (zb9    hp hu)
        exact ⟨h1, fun e => h1 ((hids _ (zb9    hp hu)).2 e)⟩
      have hout : ∀ v : Sl, (n.pid, v) ∉ z0c   m.rs := fun v hv => by
        obtain ⟨u, hu, e⟩ := List.mem_map.1 hv
        simp only [Prod.mk.injEq] at e
        exact (hmem u (List.mem_filter.1 hu).1).1 e.1
      refine ze        ?_
      refine zt    hs fun w' hs => ?_
      refine zf    ?_
      refine z8     hs ?_
      refine zf    ?_
      refine z8     hs ?_
      refine z4x     (k := n.id) hs (z1l  m.rs) (.inr ⟨fun v hv => by
        obtain ⟨u, hu, e⟩ := List.mem_map.1 hv
        simp only [Prod.mk.injEq] at e
        exact (hmem u hu).2 e.1, rfl⟩) q (fun w' hs => ?_)
      refine ze        ?_
      refine zt    hs fun w' hs => ?_
      refine zf    ?_
      refine z8     hs ?_
      refine zf    ?_
      refine z8     hs ?_
      refine z4x     (k := n.pid) hs (z11   m.rs) (.inr ⟨fun v hv => by
        obtain ⟨u, hu, e⟩ := List.mem_map.1 hv
        simp only [Prod.mk.injEq] at e
        exact (hmem u hu).1 e.1, rfl⟩) q (fun w' hs => ?_)
      refine ze        ?_
      refine zb      (zpg      (n := n) (x := z) (q := q) hs) fun _ w' hs => ?_
      obtain ⟨rfl, hs⟩ := hs
      refine zd     ?_
      have ec : coC b X' m = coC b X m := by show [_, _, _, _, _, _, _] = _; rw [g1, g2, g3]
      have hend : ∀ {w : World} (y : Sl), Sat w (z03  ekI evSl m.owed (z0c   ((⟨q, z, y, { n with owed := z0z  none n }⟩ : RowM) :: m.rs)) :: slc T.a13 1 y ((z0z  none n).flatMap encI) :: pt c (.cells (coC b X m).toArray T.a59) :: z03  ekS evF m.ids ((n.id, q) :: z1l  m.rs) :: z03  ekI evF m.pids ((n.pid, q) :: z11   m.rs) ::
              pt q (.cells (rowC z n).toArray T.a62) :: slc T.a13 1 z (n.parts.flatMap encI) :: HP.all (m.rs.map z2u ) :: r3) → w.heap[q]? = some (.cells (rowC z n).toArray T.a62) ∧ Sat w (coP b c X' :: r3) := fun {w} y hs => by
        have hs : Sat w (pt c (.cells (coC b X' m).toArray T.a59) :: z03  ekS evF m.ids (z1l  ((⟨q, z, y, { n with owed := z0z  none n }⟩ : RowM) :: m.rs)) :: z03  ekI evF m.pids (z11   ((⟨q, z, y, { n with owed := z0z  none n }⟩ : RowM) :: m.rs)) :: z03  ekI evSl m.owed (z0c   ((⟨q, z, y, { n with owed := z0z  none n }⟩ : RowM) :: m.rs)) ::
            pt q (.cells (rowC z { n with owed := z0z  none n }).toArray T.a62) :: slc T.a13 1 z (n.parts.flatMap encI) :: slc T.a13 1 y ((z0z  none n).flatMap encI) :: HP.all (m.rs.map z2u ) :: r3) := by
          have e3 : z1l  ((⟨q, z, y, { n with owed := z0z  none n }⟩ : RowM) :: m.rs) = (n.id, q) :: z1l  m.rs := rfl
          have e4 : z11   ((⟨q, z, y, { n with owed := z0z  none n }⟩ : RowM) :: m.rs) = (n.pid, q) :: z11   m.rs := rfl
          rw [ec, e3, e4]
          exact hs.sub
        exact ⟨(hs.pick [4]).get, z3c     (t := ⟨q, z, y, { n with owed := z0z  none n }⟩) (m := m) (hfin y) hX' hs⟩
      by_cases ho : z1a   n = true
      · have eo : z0z  none n = n.parts := by unfold z0z ; rw [if_pos ho]
        have eM : ∀ y, (n.pid, y) :: z0c   m.rs = z0c   ((⟨q, z, y, { n with owed := z0z  none n }⟩ : RowM) :: m.rs) := fun y => by
          have ho2 : z1a   { n with owed := z0z  none n } = true := ho
          unfold z0c  
          rw [List.filter_cons_of_pos (by exact ho2), List.map_cons]
        refine z07      (by rw [ho]; rfl) ?_
        refine zt    hs fun w' hs => ?_
        refine z6o   (⟨0, 0, none⟩, ()) (fun h => by simp at h) ?_
        refine zh    ?_
        refine z3k     (0, ()) (fun h => by simp at h) ?_
        refine zh    ?_
        refine z04    ?_
        refine z8     hs ?_
        refine z6o   (⟨0, 0, none⟩, ()) (fun h => by simp at h) ?_
        refine zh    ?_
        refine z3k     (0, ()) (fun h => by simp at h) ?_
        refine zh    ?_
        refine z04    ?_
        refine z8     hs ?_
        refine z6o   (⟨0, 0, none⟩, ()) (fun h => by simp at h) ?_
        refine zh    ?_
        refine z3k     (⟨none, 0, 0⟩, ()) (fun h => by simp at h) ?_
        refine zh    ?_
        refine z04    ?_
        refine z8     hs ?_
        refine ze        ?_
        refine zj     (fun _ w' => w'.heap[q]? = some (.cells (rowC z n).toArray T.a62) ∧ Sat w' (coP b c X' :: r3)) ?_ (by rintro _ w2 hs; refine zh    ?_; exact ⟨rfl, rfl, hs⟩)
        refine zw       rfl ?_
        refine zj     (fun _ w' => w'.heap[q]? = some (.cells (rowC z n).toArray T.a62) ∧ Sat w' (coP b c X' :: r3)) ?_ (by rintro _ w2 hs; refine zh    ?_; exact zg    hs)
        refine zt    hs fun w' hs => ?_
        refine zf    ?_
        refine z0y    hs ?_
        refine zf    ?_
        refine z0y    hs ?_
        refine zf    ?_
        refine z8     hs ?_
        have hs : Sat w' (pt c (.cells (coC b X m).toArray T.a59) :: slc T.a13 1 z (n.parts.flatMap encI) :: z03  ekS evF m.ids ((n.id, q) :: z1l  m.rs) :: z03  ekI evF m.pids ((n.pid, q) :: z11   m.rs) :: z03  ekI evSl m.owed (z0c   m.rs) :: pt q (.cells (rowC z n).toArray T.a62) :: HP.all (m.rs.map z2u ) :: r3) := hs.sub
        refine zb      (ze1      z n.parts (by omega) hs) fun _ w' hs => ?_
        obtain ⟨y, rfl, hs⟩ := hs
        refine zd     ?_ (by first | trivial | (repeat (first | exact trivial | exact fun _ => z09     hs | exact fun _ => z0g     hs | refine And.intro ?_ ?_)))
        refine ze        ?_
        refine z4x     (k := n.pid) hs (z0c   m.rs) (.inr ⟨hout, rfl⟩) y (fun w' hs => ?_)
        refine ze        ?_
        refine zg    (hend y ?_)
        rw [eM y] at hs
        rw [eo] at hs ⊢
        exact hs.sub
      · have eo : z0z  none n = [] := by unfold z0z ; rw [if_neg ho]
        refine zw       (by simpa using ho) ?_
        refine zt    hs fun w' hs => ?_
        refine zf    ?_
        refine z8     hs ?_
        refine zf    ?_
        refine z8     hs ?_
        refine zga     (k := n.pid) hs (z0c   m.rs) (.inr ⟨hout, rfl⟩) (fun w' hs => ?_)
        refine ze        ?_
        refine ⟨rfl, rfl, hend ⟨none, 0, 0⟩ ?_⟩
        have eM : z0c   m.rs = z0c   ((⟨q, z, ⟨none, 0, 0⟩, { n with owed := z0z  none n }⟩ : RowM) :: m.rs) := by
          have ho2 : ¬ z1a   { n with owed := z0z  none n } = true := ho
          unfold z0c  
          rw [List.filter_cons_of_neg (by exact ho2)]
        rw [eM] at hs
        have hs : Sat w' (slc T.a13 1 ⟨none, 0, 0⟩ (([] : List Int).flatMap encI) :: _) := hs.slc_nil
        rw [eo] at hs ⊢
        exact hs.sub
end
section
variable {w:World} {l r r1 r2 r3 r4 l':List HP} {b c q:Nat} {x z:Sl} {n:RowT} {X X':CoT} {M:LedA} {D:DiskA}
theorem z060 (v:Int) (hs:Sat w l):Ret P F.a226 #[.int .u64 (IntKind.wrap .u64 v)] w λvs w'=>∃ z:Sl,vs=[z.v]/\Sat w' (slc T.a63 1 z ((uW v).flatMap zk)::l):=by
 have e:IntKind.wrap .u64 v=(((v % 18446744073709551616).toNat:Nat):Int):=by rw [zxj];omega
 rw [e];exact zl1 _ (by omega) hs
theorem zfq (v:Int):(uW v).length<=10:=(za2 _).2
theorem zbx:∀ ps:List Int,(ps.flatMap uW).length<=10*ps.length
 | []=>Nat.le_refl _
 | p::ps=>by
  have h1:=zfq p;have h2:=zbx ps;rw [List.flatMap_cons,List.length_append,List.length_cons];omega
set_option maxHeartbeats 2000000 in
theorem z053 (hp:n.parts.length<=1000) [hf:FocB l q (.cells (rowC x n).toArray T.a62) r] [hx:FocR l x 1 (n.parts.flatMap encI)] (hs:Sat w l):Ret P F.a206 #[.pointer (some ⟨q,0,none⟩)] w λvs w'=>vs=[.string (z34 n)]/\Sat w' l :=
 zss _ <| by
  delta z08o AC AE AN AO AQ AR Aa Ab Ac Ak Al Ao Av B3 BG Bc Be Bf Br;have hf:FocB l q (.cells [.string n.id,.int .i64 n.pid,.int .i64 n.epoch,.int .i64 n.who,.int .i64 n.state,.slice x.a x.len x.cap,.int .i64 n.since,.int .i64 n.limit,.int .i64 n.fate,.bool n.own,.bool n.next].toArray T.a62) r:=hf;have hxl:=hs.slen x (xs:=n.parts) (enc:=encI);refine zt hs λw' hs=>zf (z8 hs ?_);refine zf (z8 hs ?_);refine zf (z8 hs ?_);refine zf (z8 hs ?_);refine zf (z8 hs ?_);refine zf (z8 hs ?_);refine zf (z8 hs ?_)
  obtain ⟨ns,hns⟩:∃ ns:List Int,ns=[n.pid,n.epoch,n.who,n.state,n.since,n.limit,n.fate]:=⟨_,rfl⟩
  refine z9k hs (enc:=encI) [n.pid,n.epoch,n.who,n.state,n.since,n.limit,n.fate] (λy w' hs=>?_);rw [<- hns] at hs
  have hnl:ns.length=7:=by rw [hns];rfl
  have hyl:=hs.slen y (xs:=ns) (enc:=encI);refine ze (zj (λv w'=>∃ z:Sl,v=(z,())/\Sat w' (slc T.a63 1 z ((ns.flatMap uW).flatMap zk)::l)) ?_ ?_)
  ·refine z0a (λk v w=>∃ (i:Nat) (z:Sl),v=(z,(i:Int),())/\i<=7/\7-i=k/\Sat w (slc T.a63 1 z (((ns.take i).flatMap uW).flatMap zk)::slc T.a14 1 y (ns.flatMap encI)::l)) 7 ⟨0,⟨none,0,0⟩,rfl,by omega,rfl,hs.slc_nil⟩ ?_;clear hs;rintro k _ w ⟨i,z,rfl,hi,hk,hs⟩;refine z23 _ _ (zi (λhc=>?_) λhc=>?_);rotate_left
   ·have e:ns.take i=ns:=List.take_of_length_le (by omega);rw [e] at hs;exact zm (zg ⟨z,rfl,hs.sub⟩)
   have hil:i<ns.length:=by omega
   refine z1g hs (xs:=ns) (enc:=encI) i hil (wp_lt ?_);refine zb (z060 ns[i] hs) λ_ w' hs=>?_;obtain ⟨y2,rfl,hs⟩:=hs;refine zd ?_;have h1:=zbx (ns.take i);have h2:=zfq ns[i];rw [List.length_take] at h1;refine wp_app' (x:=z) (y:=y2) (xs:=(ns.take i).flatMap uW) (ys:=uW ns[i]) (enc:=zk) hs (λz2 w' hs=>?_) (by omega)
   have e:(ns.take i).flatMap uW++uW ns[i]=(ns.take (i+1)).flatMap uW:=by
    rw [List.take_add_one,List.getElem?_eq_getElem hil,Option.toList_some,List.flatMap_append,List.flatMap_cons,List.flatMap_nil,List.append_nil]
   rw [e] at hs;exact z22 (us':=[z2.v,.int .i64 ((i+1:Nat):Int)]) (by (try simp (disch:=omega) only [w64]);first|rfl|(congr;omega)) (z0x (7-(i+1)) ⟨i+1,z2,rfl,by omega,rfl,hs.sub⟩)
  clear hs;rintro _ w ⟨z,rfl,hs⟩;refine zh ?_
  obtain ⟨pre,hpre⟩:∃ pre:List UInt8,pre=ns.flatMap uW++(z1q n.own::z1q n.next::uW (n.parts.length:Nat)):=⟨_,rfl⟩
  have hpl:pre.length<=100:=by
   have h1:=zbx ns;have h2:=zfq (n.parts.length:Nat);rw [hpre,List.length_append,List.length_cons,List.length_cons];omega
  refine zj (λv w'=>∃ z:Sl,v=(z,())/\Sat w' (slc T.a63 1 z (pre.flatMap zk)::l)) ?_ ?_
  ·refine zt hs λw' hs=>zf (z8 hs ?_);refine zf (z0y hs ?_);refine zf (z0y hs ?_);refine zb (zkt n.own hs) λ_ w' hs=>?_;obtain ⟨y1,rfl,hs⟩:=hs;refine zd ?_ (by first|trivial|(repeat (first|exact trivial|exact λ_=>z09 hs|exact λ_=>z0g hs|refine And.intro ?_ ?_)));refine zb (zkt n.next hs) λ_ w' hs=>?_;obtain ⟨y2,rfl,hs⟩:=hs;refine zd ?_ (by first|trivial|(repeat (first|exact trivial|exact λ_=>z09 hs|exact λ_=>z0g hs|refine And.intro ?_ ?_)));refine ze ?_;rw [hxl];refine zb (z060 _ hs) λ_ w' hs=>?_;obtain ⟨y3,rfl,hs⟩:=hs;refine zd (z9k hs (enc:=z0h) [y1,y2,y3] (λy4 w' hs=>?_))
   have hjoin:=zku y4 [(y1,[z1q n.own]),(y2,[z1q n.next]),(y3,uW (n.parts.length:Nat))] (hx:=(inferInstance:FocR (slc T.a53 1 y4 ([y1,y2,y3].flatMap z0h)::_) y4 1 ([y1,y2,y3].flatMap z0h))) (λp hp=>by
    simp only [List.mem_cons,List.not_mem_nil,or_false] at hp
    rcases hp with rfl|rfl|rfl <;> exact inferInstance) (by simp) (by have:=zfq (n.parts.length:Nat);simp only [List.flatMap_cons,List.flatMap_nil,List.append_nil,List.length_append,List.length_cons,List.length_nil];omega) hs
   refine zb hjoin λ_ w' hs=>?_;obtain ⟨y5,rfl,hs⟩:=hs;refine zd ?_
   have e5:[(y1,[z1q n.own]),(y2,[z1q n.next]),(y3,uW (n.parts.length:Nat))].flatMap Prod.snd=z1q n.own::z1q n.next::uW (n.parts.length:Nat):=by simp
   rw [e5] at hs;refine wp_app' (x:=z) (y:=y5) (xs:=ns.flatMap uW) (ys:=z1q n.own::z1q n.next::uW (n.parts.length:Nat)) (enc:=zk) hs (λz2 w' hs=>?_) (by rw [<- List.length_append,<- hpre];omega);rw [<- hpre] at hs;exact ze (zg ⟨z2,rfl,hs.sub⟩)
  clear hs;rintro _ w ⟨z,rfl,hs⟩;refine zh (zf ?_);refine z8 hs ?_;rw [hxl];refine zj (λv w'=>∃ z:Sl,v=(z,())/\Sat w' (slc T.a63 1 z ((z7n n).flatMap zk)::l)) ?_ ?_;rotate_left
  ·rintro _ w2 ⟨z2,rfl,hs⟩;refine zh (zq5 hs (x:=z2) (bs:=z7n n) ?_);exact wp_lt ⟨rfl,rfl,hs.tail⟩
  have e0:z7n n=pre++n.parts.flatMap uW:=by
   rw [hpre,hns];unfold z7n;simp
  refine z0a (λk v w=>∃ (i:Nat) (z:Sl),v=(z,(i:Int),())/\i<=n.parts.length/\n.parts.length-i=k/\Sat w (slc T.a63 1 z ((pre++(n.parts.take i).flatMap uW).flatMap zk)::l)) n.parts.length ⟨0,z,rfl,by omega,rfl,by simpa using hs⟩ ?_;clear hs;rintro k _ w ⟨i,z,rfl,hi,hk,hs⟩;refine z23 _ _ (zi (λhc=>?_) λhc=>?_);rotate_left
  ·have e:n.parts.take i=n.parts:=List.take_of_length_le (by omega);rw [e,<- e0] at hs;exact zm (zg ⟨z,rfl,hs⟩)
  have hil:i<n.parts.length:=by omega
  have hxr:FocR (slc T.a63 1 z ((pre++(n.parts.take i).flatMap uW).flatMap zk)::l) x 1 (n.parts.flatMap encI):=FocR.tail
  have hxe:(⟨x.a,n.parts.length,x.cap⟩:Sl)=x:=by rw [<- hxl]
  refine z1g (x:=⟨x.a,n.parts.length,x.cap⟩) (xs:=n.parts) (enc:=encI) (hf:=by rw [hxe];exact hxr) hs i hil (wp_lt ?_);refine zb (z060 n.parts[i] hs) λ_ w' hs=>?_;obtain ⟨y2,rfl,hs⟩:=hs;refine zd ?_;have h1:=zbx (n.parts.take i);have h2:=zfq n.parts[i];rw [List.length_take] at h1;refine wp_app' (x:=z) (y:=y2) (xs:=pre++(n.parts.take i).flatMap uW) (ys:=uW n.parts[i]) (enc:=zk) hs (λz2 w' hs=>?_) (by rw [List.length_append];omega)
  have e:pre++(n.parts.take i).flatMap uW++uW n.parts[i]=pre++(n.parts.take (i+1)).flatMap uW:=by
   rw [List.take_add_one,List.getElem?_eq_getElem hil,Option.toList_some,List.flatMap_append,List.flatMap_cons,List.flatMap_nil,List.append_nil,List.append_assoc]
  rw [e] at hs;exact z22 (us':=[z2.v,.int .i64 ((i+1:Nat):Int)]) (by (try simp (disch:=omega) only [w64]);first|rfl|(congr;omega)) (z0x (n.parts.length-(i+1)) ⟨i+1,z2,rfl,by omega,rfl,hs.sub⟩)
def zn0 (M:LedA) (D:DiskA) (n:RowT) (now e:Int) (M':LedA) (D':DiskA):Prop:=∃ x:Sl,z0v M D (z00 now x [recT n now])=(e,M',D')
set_option maxHeartbeats 1000000 in
theorem z0dl (now:Int) (hX':OkT X') (hcfg:X.same X') (hl:X'.l.Perm ({ n with owed:=z0z (z5k X.l n.pid) n }::X.l.filter λr=>!decide (r.pid=n.pid))) (hids:∀ t ∈ X.l,t.pid=n.pid↔t.id=n.id) (hpl:n.parts.length<=1000) (hsz:n.id.size<=1000)
  [hf:Fo l (coP b) c X r1] [hf1:Fo r1 leP b M r2] [hf2:Fo r2 dk M.1.L.d D r3] [hq:FocB r3 q (.cells (rowC z n).toArray T.a62) r4] [hz:FocS r4 z T.a13 1 (n.parts.flatMap encI) r] (h:Cpl M.1.L.pre M.1.L.l D) (hn:M.2.l.length<=100000000) (hs:Sat w l) :
  Ret P F.a199 #[.pointer (some ⟨c,0,none⟩),.pointer (some ⟨q,0,none⟩),.int .i64 now] w λvs w'=>∃ (e:Int) (M':LedA) (D':DiskA),vs=[.int .i64 e]/\zn0 M D n now e M' D'/\(e=0->w'.heap[q]? = some (.cells (rowC z n).toArray T.a62))/\Sat w' (coP b c (if e=0 then X' else X)::leP b M'::dk M.1.L.d D'::r) :=
 zsl _ _ now <| by
  delta z08h AC AE Aa Ab Ac Ad Al Am An Ao Aw B5 Bp
  have hs:=hs.perm (hf.perm.trans (.cons _ (hf1.perm.trans (.cons _ (hf2.perm.trans (.cons _ (hq.perm.trans (.cons _ hz.perm))))))))
  clear hf hf1 hf2 hq hz
  refine zj (λv w'=>∃ (e:Int) (M':LedA) (D':DiskA),v=(e,())/\zn0 M D n now e M' D'/\Sat w' (coP b c X::pt q (.cells (rowC z n).toArray T.a62)::slc T.a13 1 z (n.parts.flatMap encI)::leP b M'::dk M.1.L.d D'::r)) ?_ ?_
  ·refine zt hs λw' hs=>?_
   obtain ⟨m,hp,hX,hs⟩:=z67 hs
   refine zf ?_
   refine z0y hs ?_
   refine zf ?_
   refine z0y hs ?_
   refine wp_must (by omega) ?_
   refine zb (z053 (n:=n) (x:=z) (q:=q) hpl hs) λ_ w' hs=>?_
   obtain ⟨rfl,hs⟩:=hs
   refine zd ?_ (by first|trivial|(repeat (first|exact trivial|exact λ_=>z09 hs|exact λ_=>z0g hs|refine And.intro ?_ ?_)))
   refine ze ?_
   have hs:Sat w' (leP b M::dk M.1.L.d D::coP b c X::pt q (.cells (rowC z n).toArray T.a62)::slc T.a13 1 z (n.parts.flatMap encI)::r):=by
    have h1:Sat w' (coP b c X::leP b M::dk M.1.L.d D::pt q (.cells (rowC z n).toArray T.a62)::slc T.a13 1 z (n.parts.flatMap encI)::r):=z4g m hp hX hs
    exact h1.sub
   refine zb (z0ag (b:=b) (M:=M) (D:=D) (tK n.id) (z34 n) now h hn (λx _=>rfl) hs) λ_ w' hs=>?_
   obtain ⟨x,rfl,hs⟩:=hs
   refine zd ?_
   refine wp_lt ?_
   refine ze ?_
   exact zg ⟨(z0v M D (z00 now x [recT n now])).1,(z0v M D (z00 now x [recT n now])).2.1,(z0v M D (z00 now x [recT n now])).2.2,rfl,⟨x,rfl⟩,hs.sub⟩
  clear hs
  rintro _ w ⟨e,M',D',rfl,hw,hs⟩
  refine zh ?_
  refine zi (λhe=>?_) λhe=>?_
  ·have he:e≠0:=by simpa using he
   refine wp_lt ?_
   refine ⟨rfl,e,M',D',rfl,hw,λh=>absurd h he,?_⟩
   rw [if_neg he]
   exact hs.sub
  ·have he:e=0:=by simpa using he
   subst he
   refine zb (z02e (b:=b) (c:=c) (q:=q) (n:=n) (z:=z) (X:=X) hX' hcfg hl hids hpl hs) λ_ w' hs=>?_
   obtain ⟨rfl,hg,hs⟩:=hs
   refine zd ?_
   refine ⟨rfl,0,M',D',rfl,hw,λ_=>hg,?_⟩
   rw [if_pos rfl]
   exact hs.sub
end
theorem zma {l:List RowT} {n:RowT} (h:l.Pairwise λa b=>a.pid<b.pid):(z4t l n).Perm (n::l.filter λr=>!decide (r.pid=n.pid)):=by
 by_cases hx:∃ r ∈ l,r.pid=n.pid
 ·obtain ⟨r,hr,e⟩:=hx;obtain ⟨a,b,rfl⟩:=List.append_of_mem hr;rw [z86 hr e,List.map_append,List.map_cons,if_pos e];rw [List.pairwise_append,List.pairwise_cons] at h;obtain ⟨h1,⟨h2,h3⟩,h4⟩:=h
  have na:∀ x ∈ a,¬ x.pid=n.pid:=λx hx=>by have:=h4 x hx r (List.mem_cons_self ..);omega
  have nb:∀ x ∈ b,¬ x.pid=n.pid:=λx hx=>by have:=h2 x hx;omega
  have ea:a.map (λx=>if x.pid=n.pid then n else x)=a:=by
   conv=>rhs;rw [<- List.map_id a]
   exact List.map_congr_left λx hx=>if_neg (na x hx)
  have eb:b.map (λx=>if x.pid=n.pid then n else x)=b:=by
   conv=>rhs;rw [<- List.map_id b]
   exact List.map_congr_left λx hx=>if_neg (nb x hx)
  have fa:a.filter (λr=>!decide (r.pid=n.pid))=a:=List.filter_eq_self.2 λx hx=>by simpa using na x hx
  have fb:b.filter (λr=>!decide (r.pid=n.pid))=b:=List.filter_eq_self.2 λx hx=>by simpa using nb x hx
  rw [ea,eb,List.filter_append,List.filter_cons_of_neg (by simp [e]),fa,fb];exact List.perm_middle
 ·have hx:∀ r ∈ l,r.pid≠n.pid:=λr hr e=>hx ⟨r,hr,e⟩;rw [zbe hx,List.filter_eq_self.2 λx hx2=>by simpa using hx x hx2];exact List.perm_append_singleton n l
theorem z09d {X:CoT} {n:RowT} (hX:OkT X) (ha:z6g X (.row n)):∀ t ∈ X.l,t.pid=n.pid↔t.id=n.id:=λt ht=>by
 obtain ⟨-,⟨r,hr,e1,e2⟩|⟨h,-⟩⟩:=ha
 ·exact ⟨λe=>by rw [z9f hX.pids ht hr (e.trans e1.symm),e2],λe=>by rw [zfx hX.ids ht hr (e.trans e2.symm),e1]⟩
 ·have:=h t ht;exact ⟨λe=>by omega,λe=>absurd e this.2⟩
theorem z8j {r n:RowT} (h:z1a n=true):z0z (some r) n=if r.state=n.state/\r.epoch=n.epoch/\r.parts.length=n.parts.length then r.owed else n.parts:=by unfold z0z;rw [if_pos h]
theorem zap {was:Option RowT} {n:RowT} (h:¬ z1a n=true):z0z was n=[]:=by unfold z0z;rw [if_neg h]
theorem zds {r:RowT}:z1a r=true↔2<=r.state/\r.state<=4:=by simp [z1a]
theorem zbd {X:CoT} {r:RowT} (h:OkRow X r) (hn:¬ z1a r=true):r.owed=[]:=by
 apply Decidable.byContradiction;intro hne;exact hn (h.owes.1 hne)
def zd5 (X:CoT) (M:LedA) (D:DiskA) (a:ActT) (now e:Int) (X':CoT) (M':LedA) (D':DiskA):Prop:=match a with
 | .row n=>zn0 M D n now e M' D'/\X'=if e=0 then X.put n else X
 | a=>e=0/\X'=X.act a/\M'=M/\D'=D
section
variable {w:World} {l r r1 r2 r3 r4 l':List HP} {b c q:Nat} {x z:Sl} {n:RowT} {X:CoT} {M:LedA} {D:DiskA}
theorem zaq (now:Int) (hX:OkT X) (ha:z6g X (.row n)) (ho:z0z (z5k X.l n.pid) n=n.owed)
  [hf:Fo l (coP b) c X r1] [hf1:Fo r1 leP b M r2] [hf2:Fo r2 dk M.1.L.d D r3] [hq:FocB r3 q (.cells (rowC z n).toArray T.a62) r4] [hz:FocS r4 z T.a13 1 (n.parts.flatMap encI) r] (h:Cpl M.1.L.pre M.1.L.l D) (hn:M.2.l.length<=100000000) (hs:Sat w l) :
  Ret P F.a199 #[.pointer (some ⟨c,0,none⟩),.pointer (some ⟨q,0,none⟩),.int .i64 now] w λvs w'=>∃ (e:Int) (M':LedA) (D':DiskA),vs=[.int .i64 e]/\zn0 M D n now e M' D'/\(e=0->w'.heap[q]? = some (.cells (rowC z n).toArray T.a62))/\Sat w' (coP b c (if e=0 then X.put n else X)::leP b M'::dk M.1.L.d D'::r):=by
 have hpl:=z56 hX ha.1;have hp1:=hX.parts;have hid:=ha.1.id;simp only [idT,Bool.and_eq_true,decide_eq_true_eq] at hid;refine z0dl (X:=X) (X':=X.put n) (n:=n) now (zi9 hX ha) ⟨rfl,rfl,rfl⟩ ?_ (z09d hX ha) (by omega) (by omega) h hn hs;rw [ho];exact zma hX.pids
theorem zx7 (all:List Int) (r:RowT) (who limit:Int):{ z2e all r who limit with who:=who }=z2e all r who limit:=by
 unfold z2e
 repeat' split
 all_goals rfl
set_option maxHeartbeats 1000000 in
theorem z05s (hX:1<=X.parts/\X.parts<=256) (rr:RowT) (hr5:rr.state≠5) (hs0:0<=rr.state/\rr.state<=5) (who limit:Int) {m:CoM} (hs:Sat w (pt q (.cells (rowC z { rr with limit:=limit }).toArray T.a62)::slc T.a13 1 z (rr.parts.flatMap encI)::pt c (.cells (coC b X m).toArray T.a59)::l)) :
  Ret P F.a202 #[.pointer (some ⟨c,0,none⟩),.pointer (some ⟨q,0,none⟩),.int .i64 who] w λvs w'=>vs=[]/\∃ z':Sl,Sat w' (pt q (.cells (rowC z' (z2e (z24 X.parts) rr who limit)).toArray T.a62)::slc T.a13 1 z' ((z2e (z24 X.parts) rr who limit).parts.flatMap encI)::pt c (.cells (coC b X m).toArray T.a59)::l) :=
 zso _ _ who <| by
  delta z08k AB AD AO AQ AR AS Aa Ab Ac Ad Ah Aj Ao Az;refine zf (z8 hs ?_);refine wp_lt (zj (λ_ w'=>∃ z':Sl,Sat w' (pt q (.cells (rowC z' { z2e (z24 X.parts) rr who limit with who:=rr.who }).toArray T.a62)::slc T.a13 1 z' ((z2e (z24 X.parts) rr who limit).parts.flatMap encI)::pt c (.cells (coC b X m).toArray T.a59)::l)) ?_ ?_);rotate_left
  ·rintro _ w2 ⟨z',hs⟩;refine zh (zf ?_);refine zy hs λw' hs=>?_;have hs:Sat w' (pt q (.cells (rowC z' { z2e (z24 X.parts) rr who limit with who:=who }).toArray T.a62)::slc T.a13 1 z' ((z2e (z24 X.parts) rr who limit).parts.flatMap encI)::pt c (.cells (coC b X m).toArray T.a59)::l):=hs;rw [zx7] at hs;exact ⟨rfl,rfl,z',hs⟩
  unfold z2e;refine zi (λh0=>?_) λh0=>?_
  ·have h0:rr.state=0:=h0;rw [if_pos h0];refine zf (zy hs λw' hs=>?_);refine zb (zpw (b:=b) (c:=c) (X:=X) (m:=m) hX hs) λ_ w' hs=>?_;obtain ⟨z2,rfl,hs⟩:=hs;refine zd (zf ?_);exact zy hs λw' hs=>zg ⟨z2,hs.sub⟩
  have h0:¬ rr.state=0:=h0;rw [if_neg h0];refine wp_lt (zj (λ_ w'=>∃ z':Sl,Sat w' (pt q (.cells (rowC z' { (if rr.state=1 then { rr with who:=who,limit:=limit,state:=3,parts:=z24 X.parts,owed:=z24 X.parts } else if rr.state=4 then { rr with who:=who,limit:=limit } else { rr with who:=who,limit:=limit,next:=rr.next || decide (who>rr.who) }:RowT) with who:=rr.who }).toArray T.a62)::slc T.a13 1 z' ((if rr.state=1 then { rr with who:=who,limit:=limit,state:=3,parts:=z24 X.parts,owed:=z24 X.parts } else if rr.state=4 then { rr with who:=who,limit:=limit } else { rr with who:=who,limit:=limit,next:=rr.next || decide (who>rr.who) }:RowT).parts.flatMap encI)::pt c (.cells (coC b X m).toArray T.a59)::l)) ?_ ?_);rotate_left
  ·rintro _ w2 hs;exact zh (zg hs)
  refine zi (λh1=>?_) λh1=>?_
  ·rw [if_pos h1];refine zf (zy hs λw' hs=>?_);refine zb (zpw (b:=b) (c:=c) (X:=X) (m:=m) hX hs) λ_ w' hs=>?_;obtain ⟨z2,rfl,hs⟩:=hs;refine zd (zf ?_);exact zy hs λw' hs=>zg ⟨z2,hs.sub⟩
  have h1:¬ rr.state=1:=h1;rw [if_neg h1];refine wp_lt (zj (λv w'=>v=(decide (rr.state=2\/rr.state=3),())/\Sat w' (pt q (.cells (rowC z { rr with limit:=limit }).toArray T.a62)::slc T.a13 1 z (rr.parts.flatMap encI)::pt c (.cells (coC b X m).toArray T.a59)::l)) ?_ ?_)
  ·refine zi (λh2=>?_) λh2=>?_
   ·refine zg ⟨?_,hs⟩;have e:decide (rr.state=2\/rr.state=3)=true:=decide_eq_true (.inl h2)
    have e2:(rr.state == 2)=true:=by simpa using h2
    rw [e,e2]
   ·refine wp_lt (zg ⟨?_,hs⟩);have e:decide (rr.state=2\/rr.state=3)=decide (rr.state=3):=decide_eq_decide.2 ⟨λh=>h.elim (λh=>absurd h h2) λh=>h,.inr⟩;have e2:(rr.state == 3)=decide (rr.state=3):=rfl;rw [e,e2]
  clear hs;rintro _ w ⟨rfl,hs⟩;refine zh (zj (λ_ w'=>∃ z':Sl,Sat w' (pt q (.cells (rowC z' { (if rr.state=4 then { rr with who:=who,limit:=limit } else { rr with who:=who,limit:=limit,next:=rr.next || decide (who>rr.who) }:RowT) with who:=rr.who }).toArray T.a62)::slc T.a13 1 z' ((if rr.state=4 then { rr with who:=who,limit:=limit } else { rr with who:=who,limit:=limit,next:=rr.next || decide (who>rr.who) }:RowT).parts.flatMap encI)::pt c (.cells (coC b X m).toArray T.a59)::l)) ?_ ?_);rotate_left
  ·rintro _ w2 hs;exact zh (zg hs)
  refine zi (λh3=>?_) λh3=>?_
  ·rw [if_neg (by omega)];refine zf (z8 hs ?_);refine z04 (z8 hs ?_);refine zf (zy hs λw' hs=>?_);exact zg ⟨z,hs.sub⟩
  ·have h4:rr.state=4:=by omega
   rw [if_pos h4];exact zg ⟨z,hs.sub⟩
def zaw (p:Int × Int × Int) (e:Int):List Value:=if e≠0 then [.int .i64 0,.int .i64 0,.int .i64 e] else [.int .i64 p.1,.int .i64 p.2.1,.int .i64 p.2.2]
theorem z01x {X:CoT} {rr:RowT} (h:OkRow X rr) (hr5:rr.state≠5) (all:List Int) (who limit:Int):z0z (some rr) (z2e all rr who limit)=(z2e all rr who limit).owed:=by
 have hst:=h.state;unfold z2e
 by_cases h0:rr.state=0
 ·rw [if_pos h0,z8j (by rfl)];exact if_neg (λh=>by have h:=h.1;rw [h0] at h;cases h)
 rw [if_neg h0]
 by_cases h1:rr.state=1
 ·rw [if_pos h1,z8j (by rfl)];exact if_neg (λh=>by have h:=h.1;rw [h1] at h;cases h)
 rw [if_neg h1]
 by_cases h4:rr.state=4
 ·rw [if_pos h4,z8j (zds.2 (by show 2<=rr.state/\rr.state<=4;omega))];exact if_pos ⟨rfl,rfl,rfl⟩
 ·rw [if_neg h4,z8j (zds.2 (by show 2<=rr.state/\rr.state<=4;omega))];exact if_pos ⟨rfl,rfl,rfl⟩
set_option maxHeartbeats 2000000 in
theorem z034     (id : ByteArray) (who limit now : Int) (hX : OkT X) (hok : (!z1h   now || !idT id || !z1h   who || decide (limit < 1) || decide (limit > 1099511627776)) = false) (hno : idF X.l id = none)
    [hf : Fo l (coP b) c X r1] [hf1 : Fo r1 leP b M r2] [hf2 : Fo r2 dk M.1.L.d D r] (h : Cpl M.1.L.pre M.1.L.l D) (hn : M.2.l.length ≤ 100000000) (hs : Sat w l) :
    Ret P F.a196 #[.pointer (some ⟨c, 0, none⟩), .string id, .int .i64 who, .int .i64 limit, .int .i64 now] w fun vs w' => ∃ (e : Int) (X' : CoT) (M' : LedA) (D' : DiskA), zd5   X M D (z2o   X id who limit now).2 now e X' M' D' ∧ vs = zaw  (z2o   X id who limit now).1 e ∧ Sat w' (coP b c X' :: leP b M' :: dk M.1.L.d D' :: r) :=
  zsi         _ id who limit now <| by
    have hact := zhn      hX id who limit now;unfold z2o   at hact ⊢;rw [hok, hno] at hact ⊢;simp only [Bool.false_eq_true, if_false] at hact ⊢;delta zxx AC AE AP AR AW Aa Ab Ac Ad Af Ag Aj Al Am Ao Ap Av Aw BW ;have hs := hs.perm (hf.perm.trans (.cons _ (hf1.perm.trans (.cons _ hf2.perm))));clear hf hf1 hf2;obtain ⟨m, hp, hX2, hs⟩ := z67     hs;have hpl := hp.length_eq;rw [List.length_map] at hpl;refine zf    (z8     hs ?_);refine zft       hs fun it w' hs => (zj     (fun v w' => v = (z2v   X.l, ()) ∧ Sat w' (pt c (.cells (coC b X m).toArray T.a59) :: z03  ekS evF m.ids (z1l  m.rs) :: z03  ekI evF m.pids (z11   m.rs) :: z03  ekI evSl m.owed (z0c   m.rs) :: HP.all (m.rs.map z2u ) :: leP b M :: dk M.1.L.d D :: r)) ?_ ?_)
    · refine z0a     (fun k v w => ∃ (mx : Int) (seen todo : List (Int × Nat)) (last : Option (Int × Nat)), v = (mx, ()) ∧ todo.length = k ∧ (seen ++ todo).Perm (z11   m.rs) ∧ 0 ≤ mx ∧ (∀ x ∈ seen, x.1 ≤ mx) ∧ (mx = 0 ∨ ∃ x ∈ seen, mx = x.1) ∧
          Sat w (itP ekI evF it m.pids (z11   m.rs) todo last :: pt c (.cells (coC b X m).toArray T.a59) :: z03  ekS evF m.ids (z1l  m.rs) :: z03  ekI evSl m.owed (z0c   m.rs) :: HP.all (m.rs.map z2u ) :: leP b M :: dk M.1.L.d D :: r)) (z11   m.rs).length
          ⟨0, [], z11   m.rs, none, rfl, rfl, .refl _, Int.le_refl _, (fun _ h => by cases h), .inl rfl, hs.sub⟩ ?_
      clear hs;rintro k _ w ⟨mx, seen, todo, last, rfl, hk, hperm, h0, h1, h2, hs⟩;refine zh    (zi6      hs (fun (kk : Int) (v : Nat) => (kk, (some ⟨v, 0, none⟩ : Option Addr), ())) (fun (kk : Int) (v : Nat) todo' w' hp2 hs => ?_) fun he => ?_)
      · refine z23   kk ((some ⟨v, 0, none⟩ : Option Addr)) ?_
        refine zky     hs (kk, (some ⟨v, 0, none⟩ : Option Addr), ()) (z23   kk ((some ⟨v, 0, none⟩ : Option Addr)) ?_);refine wp_lt (wp_lt ?_);refine z0x   todo'.length ⟨if kk > mx then kk else mx, seen ++ [(kk, v)], todo', some (kk, v), ?_, rfl, ?_, ?_, ?_, ?_, hs⟩ (by rw [← hk, hp2.length_eq, List.length_cons]; omega)
        · simp only [gt_iff_lt, decide_eq_true_eq]
        · rw [List.append_assoc, List.singleton_append]
          exact ((List.Perm.append_left seen hp2).symm).trans hperm
        · split <;> omega
        · intro x hx
          rcases List.mem_append.1 hx with hx | hx
          · have := h1 x hx
            split <;> omega
          · rw [List.mem_singleton.1 hx]
            show kk ≤ _;split <;> omega
        · split
          · exact .inr ⟨(kk, v), by simp, rfl⟩
          · rcases h2 with h2 | ⟨x, hx, h2⟩
            · exact .inl h2
            · exact .inr ⟨x, List.mem_append_left _ hx, h2⟩
      · subst he
        rw [List.append_nil] at hperm;have hs := hs.itDone;refine zm      (zg    ⟨?_, hs.sub⟩)
        congr 1
        obtain ⟨g1, g2⟩ := zdj      X.l 0
        have hin : ∀ x ∈ seen, ∃ t ∈ X.l, x.1 = t.pid := fun x hx => by
          obtain ⟨u, hu, e⟩ := List.mem_map.1 (hperm.mem_iff.1 hx);exact ⟨u.r, zb9    hp hu, by rw [← e]⟩
        have hle1 : mx ≤ z2v   X.l := by
          rcases h2 with h2 | ⟨x, hx, h2⟩
          · rw [h2]; exact g1
          · obtain ⟨t, ht, e⟩ := hin x hx
            rw [h2, e]; exact g2 t ht
        have hle2 : z2v   X.l ≤ mx := by
          rcases zhr      X.l 0 with e | ⟨t, ht, e⟩
          · have e : z2v   X.l = 0 := e
            omega
          · have e : z2v   X.l = t.pid := e
            obtain ⟨u, hu, rfl⟩ := zpi    hp ht;have := h1 (u.r.pid, u.at_) (hperm.mem_iff.2 (List.mem_map.2 ⟨u, hu, rfl⟩));rw [e]; exact this
        exact Int.le_antisymm hle1 hle2
    clear hs;rintro _ w ⟨rfl, hs⟩;refine zh    (zt    hs fun w' hs => ?_);refine zf    (z8     hs ?_);refine zd3     hs (zf    ?_);refine z8     hs (wp_lt ?_);refine ze        ?_
    have hlen : (((z1l  m.rs).length : Nat) : Int) = (X.l.length : Nat) := by unfold z1l ; rw [List.length_map, hpl]
    rw [hlen]
    by_cases hrow : X.rows ≤ X.l.length
    · rw [if_pos hrow] at hact ⊢
      exact zw       (decide_eq_true hrow) ⟨rfl, 0, X, M, D, ⟨rfl, rfl, rfl, rfl⟩, rfl, z4g      m hp hX hs⟩
    rw [if_neg hrow] at hact ⊢;refine z07      (decide_eq_false hrow) (wp_lt ?_)
    by_cases hlast : z2v   X.l ≥ 1048576
    · rw [if_pos hlast] at hact ⊢
      exact zw       (decide_eq_true hlast) ⟨rfl, 0, X, M, D, ⟨rfl, rfl, rfl, rfl⟩, rfl, z4g      m hp hX hs⟩
    rw [if_neg hlast] at hact ⊢;refine z07      (decide_eq_false hlast) ?_;have hl0 := (zdj      X.l 0).1;have hl0 : 0 ≤ z2v   X.l := hl0;rw [w64 (by omega) (by omega)];refine zr      hs fun q w' hs => ?_;have hs : Sat w' (pt q (.cells (rowC ⟨none, 0, 0⟩ (zba  id (z2v   X.l + 1) who limit)).toArray T.a62) :: _) := hs;have hs : Sat w' (slc T.a13 1 ⟨none, 0, 0⟩ ((zba  id (z2v   X.l + 1) who limit).parts.flatMap encI) :: _) := hs.slc_nil
    have hs : Sat w' (coP b c X :: leP b M :: dk M.1.L.d D :: pt q (.cells (rowC ⟨none, 0, 0⟩ (zba  id (z2v   X.l + 1) who limit)).toArray T.a62) :: slc T.a13 1 ⟨none, 0, 0⟩ ((zba  id (z2v   X.l + 1) who limit).parts.flatMap encI) :: r) := by
      have h1 : Sat w' (coP b c X :: leP b M :: dk M.1.L.d D :: pt q (.cells (rowC ⟨none, 0, 0⟩ (zba  id (z2v   X.l + 1) who limit)).toArray T.a62) :: slc T.a13 1 ⟨none, 0, 0⟩ ((zba  id (z2v   X.l + 1) who limit).parts.flatMap encI) :: r) := z4g      m hp hX hs;exact h1
    refine zb      (zaq     (b := b) (c := c) (q := q) (z := ⟨none, 0, 0⟩) (n := zba  id (z2v   X.l + 1) who limit) (X := X) now hX hact (zap     (by simp [z1a  , zba ])) h hn hs) fun _ w' hs => ?_;obtain ⟨e, M', D', rfl, hw, hg, hs⟩ := hs;refine zd     (wp_lt ?_);refine zi    (fun he => ?_) fun he => ?_
    · have he : e ≠ 0 := by simpa using he
      refine wp_lt ⟨rfl, e, _, M', D', ⟨hw, rfl⟩, ?_, hs⟩;unfold zaw ;rw [if_pos he]
    · have he : e = 0 := by simpa using he
      refine zxh   (p := .int .i64) (x := z2v   X.l + 1) (by
        rw [show Addr.add (Addr.add ⟨q, 0, none⟩ 0) 1 = ⟨q, 1, none⟩ from rfl]
        exact zcy     (inferInstance : One P T.a14).ok.1 (hg he) rfl) ?_
      refine wp_lt ⟨rfl, e, _, M', D', ⟨hw, rfl⟩, ?_, hs⟩;unfold zaw ;rw [if_neg (by simp [he])]
set_option maxHeartbeats 2000000 in
theorem z09i (id:ByteArray) (who limit now:Int) (hX:OkT X)
  [hf:Fo l (coP b) c X r1] [hf1:Fo r1 leP b M r2] [hf2:Fo r2 dk M.1.L.d D r] (h:Cpl M.1.L.pre M.1.L.l D) (hn:M.2.l.length<=100000000) (hs:Sat w l) :
  Ret P F.a186 #[.pointer (some ⟨c,0,none⟩),.string id,.int .i64 who,.int .i64 limit,.int .i64 now] w λvs w'=>∃ (e:Int) (X':CoT) (M':LedA) (D':DiskA),zd5 X M D (z2o X id who limit now).2 now e X' M' D'/\vs=zaw (z2o X id who limit now).1 e/\Sat w' (coP b c X'::leP b M'::dk M.1.L.d D'::r) :=
 zh8 _ id who limit now <| by
  have hact:=zhn hX id who limit now;delta zxt AA AB AC AD AE AP AR AS Aa Ab Ac Ad Ah Aj Al Am An Ao Ap Aq B2;have hs:=hs.perm (hf.perm.trans (.cons _ (hf1.perm.trans (.cons _ hf2.perm))));clear hf hf1 hf2;refine wp_lt (z06 ?_ (by simp));refine zj (λv w'=>v=((!z1h now || !idT id || !z1h who || decide (limit<1) || decide (limit>1099511627776)),())/\Sat w' (coP b c X::leP b M::dk M.1.L.d D::r)) ?_ ?_
  ·refine zb (z6z now hs) λ_ w' hs=>?_;obtain ⟨rfl,hs⟩:=hs;refine zd ?_
   cases h1:z1h now with
   | false =>
    exact zw rfl (zg ⟨by simp,hs⟩)
   | true =>
    refine z07 rfl (zb (z00v id hs) λ_ w' hs=>?_);obtain ⟨rfl,hs⟩:=hs;refine zd ?_
    cases h2:idT id with
    | false =>
     exact zw rfl (zg ⟨by simp,hs⟩)
    | true =>
     refine z07 rfl (zb (z6z who hs) λ_ w' hs=>?_);obtain ⟨rfl,hs⟩:=hs;refine zd (wp_lt ?_);exact zg ⟨by simp,hs⟩
  clear hs;rintro _ w ⟨rfl,hs⟩;refine zh ?_
  cases hbad:(!z1h now || !idT id || !z1h who || decide (limit<1) || decide (limit>1099511627776)) with
  | true =>
   refine zw rfl ?_
   have e:z2o X id who limit now=((0,0,2),.no):=by unfold z2o;rw [hbad];rfl
   rw [e];exact ⟨rfl,0,X,M,D,⟨rfl,rfl,rfl,rfl⟩,rfl,hs⟩
  | false =>
  refine z07 rfl ?_;have hbad2:=hbad;simp only [Bool.or_eq_false_iff,Bool.not_eq_false',decide_eq_false_iff_not] at hbad2;obtain ⟨⟨⟨⟨ht,hid⟩,hwho⟩,hl1⟩,hl2⟩:=hbad2;obtain ⟨m,hp,hX2,hs⟩:=z67 hs;refine zf (z8 hs ?_);refine z0dt hp hX hs (λt RS hpm hpr hidf htX htid hs=>?_) λhidf=>?_;rotate_left
  ·refine zw rfl ?_;have hs:Sat w (coP b c X::leP b M::dk M.1.L.d D::r):=z4g m hp hX hs;refine zb (z034 (b:=b) (c:=c) (M:=M) (D:=D) id who limit now hX hbad hidf h hn hs) λ_ w' hs=>?_;obtain ⟨e,X',M',D',h1,rfl,hs⟩:=hs
   by_cases he:e≠0
   ·have ea:∀ p,zaw p e=[.int .i64 0,.int .i64 0,.int .i64 e]:=λp=>if_pos he;rw [ea];refine ⟨(0,0,e,()),rfl,trivial,z90 _ _ _ ?_⟩;refine wp_lt (wp_lt ?_);exact wp_lt ⟨rfl,e,X',M',D',h1,by rw [ea],hs⟩
   ·have ea:∀ p:Int × Int × Int,zaw p e=[.int .i64 p.1,.int .i64 p.2.1,.int .i64 p.2.2]:=λp=>if_neg he;rw [ea];refine ⟨((z2o X id who limit now).1.1,(z2o X id who limit now).1.2.1,(z2o X id who limit now).1.2.2,()),rfl,trivial,z90 _ _ _ ?_⟩;refine wp_lt (wp_lt ?_);exact wp_lt ⟨rfl,e,X',M',D',h1,by rw [ea],hs⟩
  have k:=hX.row _ htX;have hkp:=z56 hX k;have hXp:=hX.parts;have hback:∀ {w:World},Sat w (coF b c X m t RS (leP b M::dk M.1.L.d D::r))->Sat w (coP b c X::leP b M::dk M.1.L.d D::r):=λ{w} hs=>z3c (t:=t) (m:=m) hpr hX hs
  have einit:z2o X id who limit now=if t.r.state=5 then ((0,0,24),.no) else if who<t.r.who then ((0,0,20),.no) else
    if who=t.r.who/\t.r.state=0 then ((t.r.pid,t.r.epoch,0),.row { t.r with limit:=limit,fate:=0 }) else ((0,0,23),.row (z2e (z24 X.parts) t.r who limit)):=by
   unfold z2o;rw [hbad,hidf];rfl
  rw [einit] at hact ⊢;refine z07 rfl (zf ?_);refine z8 hs (wp_lt ?_)
  by_cases h5:t.r.state=5
  ·rw [if_pos h5];exact zw (by simpa using h5) ⟨rfl,0,X,M,D,⟨rfl,rfl,rfl,rfl⟩,rfl,hback hs⟩
  rw [if_neg h5] at hact ⊢;refine z07 (by simpa using h5) (zf ?_);refine z8 hs (wp_lt ?_)
  by_cases hfen:who<t.r.who
  ·rw [if_pos hfen];exact zw (decide_eq_true hfen) ⟨rfl,0,X,M,D,⟨rfl,rfl,rfl,rfl⟩,rfl,hback hs⟩
  rw [if_neg hfen] at hact ⊢;refine z07 (decide_eq_false hfen) (zb (ze2 (q:=t.at_) (x:=t.x) (n:=t.r) (by omega) hs) λ_ w' hs=>?_);obtain ⟨q,z,rfl,hs⟩:=hs;refine zd (zf ?_);refine zy hs λw' hs=>?_;have hs:Sat w' (pt q (.cells (rowC z { t.r with limit:=limit }).toArray T.a62)::slc T.a13 1 z (t.r.parts.flatMap encI)::coF b c X m t RS (leP b M::dk M.1.L.d D::r)):=hs;refine zf (z8 hs ?_);refine z04 (z8 hs ?_);have hpf:z5k X.l t.r.pid=some t.r:=zhz hX.pids htX
  by_cases hsame:who=t.r.who/\t.r.state=0
  ·rw [if_pos hsame] at hact ⊢;refine zw (by simpa using hsame) (zf ?_);refine zy hs λw' hs=>?_;have hs:Sat w' (pt q (.cells (rowC z { t.r with limit:=limit,fate:=0 }).toArray T.a62)::slc T.a13 1 z (t.r.parts.flatMap encI)::coF b c X m t RS (leP b M::dk M.1.L.d D::r)):=hs;have hs:Sat w' (coP b c X::leP b M::dk M.1.L.d D::pt q (.cells (rowC z { t.r with limit:=limit,fate:=0 }).toArray T.a62)::slc T.a13 1 z (({ t.r with limit:=limit,fate:=0 }:RowT).parts.flatMap encI)::r):=z3c (t:=t) (m:=m) hpr hX hs
   refine zb (zaq (b:=b) (c:=c) (q:=q) (z:=z) (n:={ t.r with limit:=limit,fate:=0 }) (X:=X) now hX hact (by
    show z0z (z5k X.l t.r.pid) { t.r with limit:=limit,fate:=0 }=t.r.owed
    have hno:¬ z1a t.r=true:=λho=>by have:=zds.1 ho;omega
    rw [zap (by exact hno),zbd k hno]) h hn hs) λ_ w' hs=>?_
   obtain ⟨e,M',D',rfl,hw,hg,hs⟩:=hs;refine zd (wp_lt ?_);refine zi (λhe=>?_) λhe=>?_
   ·have he:e≠0:=by simpa using he
    refine wp_lt ⟨rfl,e,_,M',D',⟨hw,rfl⟩,?_,hs⟩;unfold zaw;rw [if_pos he]
   ·have he:e=0:=by simpa using he
    refine zgb λw2 hw2=>?_
    have hg2:w2.heap[q]? = some (.cells (rowC z { t.r with limit:=limit,fate:=0 }).toArray T.a62):=by rw [hw2.1];exact hg he
    have hs:=hs.heap hw2;refine zf ?_
    refine zxh (p:=.int .i64) (x:=t.r.pid) (by
     rw [show Addr.add (Addr.add ⟨q,0,none⟩ 0) 1=⟨q,1,none⟩ from rfl]
     exact zcy (inferInstance:One P T.a14).ok.1 hg2 rfl) ?_
    refine zf ?_
    refine zxh (p:=.int .i64) (x:=t.r.epoch) (by
     rw [show Addr.add (Addr.add ⟨q,0,none⟩ 0) 2=⟨q,2,none⟩ from rfl]
     exact zcy (inferInstance:One P T.a13).ok.1 hg2 rfl) ?_
    refine wp_lt (wp_lt ?_);refine ze ⟨rfl,e,_,M',D',⟨hw,rfl⟩,?_,hs⟩;unfold zaw;rw [if_neg (by simp [he])]
  ·rw [if_neg hsame] at hact ⊢;refine z07 (by simpa using hsame) ?_
   have hs:Sat w' (pt q (.cells (rowC z { t.r with limit:=limit }).toArray T.a62)::slc T.a13 1 z (t.r.parts.flatMap encI)::pt c (.cells (coC b X m).toArray T.a59)::z03 ekS evF m.ids (z1l (t::RS))::z03 ekI evF m.pids (z11 (t::RS))::z03 ekI evSl m.owed (z0c (t::RS)) ::
     pt t.at_ (.cells (rowC t.x t.r).toArray T.a62)::slc T.a13 1 t.x (t.r.parts.flatMap encI)::slc T.a13 1 t.y (t.r.owed.flatMap encI)::HP.all (RS.map z2u)::leP b M::dk M.1.L.d D::r):=hs
   refine zb (z05s (b:=b) (c:=c) (q:=q) (z:=z) (X:=X) (m:=m) hX.parts t.r h5 k.state who limit hs) λ_ w' hs=>?_;obtain ⟨rfl,z2,hs⟩:=hs;refine zd ?_;have hs:Sat w' (coP b c X::leP b M::dk M.1.L.d D::pt q (.cells (rowC z2 (z2e (z24 X.parts) t.r who limit)).toArray T.a62)::slc T.a13 1 z2 ((z2e (z24 X.parts) t.r who limit).parts.flatMap encI)::r):=z3c (t:=t) (m:=m) hpr hX hs
   refine zb (zaq (b:=b) (c:=c) (q:=q) (z:=z2) (n:=z2e (z24 X.parts) t.r who limit) (X:=X) now hX hact (by
    rw [(zjk _ _ _ _).1,hpf]
    exact z01x k h5 _ _ _) h hn hs) λ_ w' hs=>?_
   obtain ⟨e,M',D',rfl,hw,hg,hs⟩:=hs;refine zd (wp_lt ?_);refine zi (λhe=>?_) λhe=>?_
   ·have he:e≠0:=by simpa using he
    refine wp_lt ⟨rfl,e,_,M',D',⟨hw,rfl⟩,?_,hs⟩;unfold zaw;rw [if_pos he]
   ·have he:e=0:=by simpa using he
    refine ⟨rfl,e,_,M',D',⟨hw,rfl⟩,?_,hs⟩;unfold zaw;rw [if_neg (by simp [he])]
end
section
variable {w:World} {l r:List HP} {b c:Nat} {X:CoT}
theorem z02c (x:Sl) (xs:List Int) (i:Nat) (hi:i<xs.length) (hn:xs.length<=1000000000) (hs:Sat w (slc T.a13 1 x (xs.flatMap encI)::l)) :
  Ret P F.a139 #[x.v,.int .i64 (i:Int),.int .i64 ((i+1:Nat):Int)] w λvs w'=>∃ z:Sl,vs=[z.v]/\Sat w' (slc T.a13 1 z ((xs.take i++xs.drop (i+1)).flatMap encI)::l) :=
 zrs x _ _ <| by
  delta z07r AC AE AT Aa Ab Ak Al Bc;have hl:=hs.slen x (xs:=xs) (enc:=encI);have hcap:=hs.slc_cap;refine wp_must (by omega) (z06 ?_ (by simp;omega));refine wp_lt (zt hs λw' hs=>?_);refine wp_must (by omega) (wp_must (by omega) ?_);rw [Int.toNat_natCast,Int.toNat_natCast]
  have hrd:Rd w' 1 ⟨z0k x.a 1 (i+1) x.cap,x.len-(i+1),x.cap-(i+1)⟩ ((xs.drop (i+1)).flatMap encI) :=
   (FocR.post (l:=slc T.a13 1 x (xs.flatMap encI)::l) (x:=x) (sz:=1) (xs:=xs) (enc:=encI) (n:=i+1) (m:=x.cap) (c:=x.cap-(i+1)) hcap).rd w' hs
  have hs:=hs.slc_pre (n:=i) (by omega);rw [z5u] at hs
  have hroom:i+(x.len-(i+1))<=x.cap:=by omega
  refine zvc (x:=⟨x.a,i,x.cap⟩) (y:=⟨z0k x.a 1 (i+1) x.cap,x.len-(i+1),x.cap-(i+1)⟩) (el:=T.a13) (sz:=1) (xs:=xs.take i) (ys:=xs.drop (i+1)) (enc:=encI) hs hrd hroom (λw' hs=>?_);refine ze (wp_must (by show (0:Int)<=((i+(x.len-(i+1)):Nat):Int)/\((i+(x.len-(i+1)):Nat):Int)<=((x.len:Nat):Int)/\((x.len:Nat):Int)<=((x.cap:Nat):Int);omega) ?_);rw [Int.toNat_natCast,Int.toNat_natCast]
  have hroom2:i+(x.len-(i+1))+(x.len-(i+(x.len-(i+1))))<=x.cap:=by omega
  refine zq2 (t:=T.a44) (el:=T.a13) (x:=⟨x.a,i+(x.len-(i+1)),x.cap⟩) (n:=i+(x.len-(i+1))) (m:=x.len-(i+(x.len-(i+1)))) hs (Nat.le_refl _) hroom2 (λw' hs=>?_);exact ⟨rfl,_,rfl,hs⟩
theorem zud {a:List Int} {v:Int} (h:a.Pairwise (· < ·)) (hl:∀ p ∈ a,p<v):(a++[v]).Pairwise (· < ·):=by
 rw [List.pairwise_append];exact ⟨h,List.pairwise_singleton ..,λp hp q hq=>by rw [List.mem_singleton.1 hq];exact hl p hp⟩
theorem zv5 {ys:List Int} (h:ys.Pairwise (· <= ·)) {k:Nat} (hk:k<ys.length) (h0:0<k) (hne:ys[k]≠ys[k-1]):∀ p ∈ ys.take k,p<ys[k]:=λp hp=>by
 obtain ⟨j,hj,rfl⟩:=List.mem_take_iff_getElem.1 hp;have h1:=List.pairwise_iff_getElem.1 h (k-1) k (by omega) hk (by omega)
 have h2:ys[j]<=ys[k-1]:=by
  by_cases e:j=k-1
  ·subst e;exact Int.le_refl _
  ·exact List.pairwise_iff_getElem.1 h j (k-1) (by omega) (by omega) (by omega)
 omega
theorem zfe {ys:List Int} {k:Nat} (hk:k<ys.length) (p:Int):p ∈ ys.take (k+1)↔p ∈ ys.take k\/p=ys[k]:=by
 rw [List.take_add_one,List.getElem?_eq_getElem hk,Option.toList_some,List.mem_append,List.mem_singleton]
set_option maxHeartbeats 2000000 in
theorem zx8 (x:Sl) (ys:List Int) (h:ys.Pairwise (· <= ·)) (hn:ys.length<=1000000) (hs:Sat w (slc T.a13 1 x (ys.flatMap encI)::l)) :
  Ret P F.a137 #[x.v] w λvs w'=>∃ (z:Sl) (zs:List Int),vs=[z.v]/\zs.Pairwise (· < ·)/\(∀ p,p ∈ zs↔p ∈ ys)/\Sat w' (slc T.a13 1 z (zs.flatMap encI)::l) :=
 zrq x <| by
  delta z07p AC AE AR AS AT AU AW Aa Ab Ac Ak Al Av Aw Az
  have hl:=hs.slen x (xs:=ys) (enc:=encI)
  have hcap:=hs.slc_cap
  refine zi (λhc=>?_) λhc=>?_
  ·refine ⟨rfl,x,ys,rfl,?_,λ_=>.rfl,hs⟩
   match ys,hl with
   | [],_=>exact .nil
   | [a],_=>exact List.pairwise_singleton ..
   | a::b::t,hl=>simp only [List.length_cons] at hl;omega
  refine zj (λv w'=>ys.Pairwise (· < ·)/\Sat w' (slc T.a13 1 x (ys.flatMap encI)::l)) ?_ ?_
  rotate_left
  ·rintro _ w2 ⟨h1,hs⟩
   refine zh ?_
   exact ⟨rfl,x,ys,rfl,h1,λ_=>.rfl,hs⟩
  refine z0a (λq v w=>∃ k:Nat,v=((k:Int),())/\1<=k/\k<=ys.length/\ys.length-k=q/\(ys.take k).Pairwise (· < ·)/\Sat w (slc T.a13 1 x (ys.flatMap encI)::l)) (ys.length-1) ⟨1,rfl,by omega,by omega,rfl,?_,hs⟩ ?_
  ·match ys,hl with
   | [],hl=>simp only [List.length_nil] at hl;omega
   | a::t,_=>exact List.pairwise_singleton ..
  clear hs
  rintro q _ w ⟨k,rfl,hk1,hk,hq,hso,hs⟩
  refine zh ?_
  refine zi (λhc2=>?_) λhc2=>?_
  rotate_left
  ·rw [List.take_of_length_le (by omega)] at hso
   exact zm (zg ⟨hso,hs⟩)
  have hkl:k<ys.length:=by omega
  have ek:IntKind.wrap .i64 ((k:Int)-1)=((k-1:Nat):Int):=by rw [w64 (by omega) (by omega)];omega
  refine zj (λv w'=>v=((k:Int),())/\ys[k]≠ys[k-1]/\Sat w' (slc T.a13 1 x (ys.flatMap encI)::l)) ?_ ?_
  rotate_left
  ·rintro _ w2 ⟨rfl,hne,hs⟩
   refine zh ?_
   have e2:IntKind.wrap .i64 ((k:Int)+1)=((k+1:Nat):Int):=by rw [w64 (by omega) (by omega)];omega
   rw [e2]
   refine wp_lt ?_
   refine z0x (ys.length-(k+1)) ⟨k+1,rfl,by omega,by omega,rfl,?_,hs⟩
   rw [List.take_add_one,List.getElem?_eq_getElem hkl,Option.toList_some]
   exact zud hso (zv5 h hkl hk1 hne)
  refine zt hs λw' hs=>?_
  refine z1g hs (xs:=ys) (enc:=encI) k hkl ?_
  rw [ek]
  refine z1g hs (xs:=ys) (enc:=encI) (k-1) (by omega) ?_
  refine ze ?_
  by_cases heq:ys[k]=ys[k-1]
  rotate_left
  ·refine z07 (by simpa using heq) ?_
   exact zg ⟨rfl,heq,hs⟩
  refine zw (by simpa using heq) ?_
  refine wp_must (by omega) ?_
  simp only [Int.toNat_natCast]
  refine zj (λv w'=>∃ (i:Nat) (zs tl:List Int),v=((i:Int),())/\zs.length=i/\(zs++tl).length=ys.length/\zs.Pairwise (· < ·)/\(∀ p,p ∈ zs↔p ∈ ys)/\Sat w' (slc T.a13 1 x ((zs++tl).flatMap encI)::l)) ?_ ?_
  ·refine z0a (λq v w=>∃ (i j:Nat) (zs tl:List Int),v=((i:Int),(j:Int),())/\1<=j/\k+j<=ys.length/\ys.length-(k+j)=q/\zs.length=i/\i+1<=k+j/\(zs++tl).length=ys.length/\(zs++tl).drop (k+j-1)=ys.drop (k+j-1)/\zs.Pairwise (· < ·)/\(∀ p,p ∈ zs↔p ∈ ys.take (k+j))/\Sat w (slc T.a13 1 x ((zs++tl).flatMap encI)::l)) (ys.length-(k+1))
    ⟨k,1,ys.take k,ys.drop k,rfl,by omega,by omega,rfl,by rw [List.length_take];omega,by omega,by rw [List.take_append_drop],by rw [List.take_append_drop],hso,λp=>?_,by rw [List.take_append_drop];exact hs⟩ ?_
   ·rw [zfe hkl]
    refine ⟨.inl,λhh=>hh.elim (λh=>h) λe=>?_⟩
    rw [e,heq]
    exact List.mem_take_iff_getElem.2 ⟨k-1,by omega,rfl⟩
   clear hs
   rintro q _ w ⟨i,j,zs,tl,rfl,hj,hkj,hq2,hzl,hij,htl,hdr,hzs,hmem,hs⟩
   refine z23 _ _ ?_
   refine zi (λhc3=>?_) λhc3=>?_
   rotate_left
   ·have e:k+j=ys.length:=by omega
    rw [e,List.take_length] at hmem
    exact zm (zg ⟨i,zs,tl,rfl,hzl,htl,hzs,hmem,hs⟩)
   have hkj2:k+j<ys.length:=by omega
   have hfr:FocR (slc T.a13 1 x ((zs++tl).flatMap encI)::l) ⟨z0k x.a 1 k x.cap,x.len-k,0⟩ 1 (((zs++tl).drop k).flatMap encI):=FocR.post hcap
   have z4r:∀ (d:Nat) (hd:k+j-1<=k+d) (hd2:d<((zs++tl).drop k).length) (hd3:k+d<ys.length),((zs++tl).drop k)[d]=ys[k+d]:=λd hd hd2 hd3=>by
    rw [List.getElem_drop]
    have e1:((zs++tl).drop (k+j-1))[k+d-(k+j-1)]? = (ys.drop (k+j-1))[k+d-(k+j-1)]? := by rw [hdr]
    rw [List.getElem?_drop,List.getElem?_drop,show k+j-1+(k+d-(k+j-1))=k+d by omega,List.getElem?_eq_getElem hd3,List.getElem?_eq_getElem (by rw [htl];exact hd3)] at e1
    exact Option.some.inj e1
   have hdl:((zs++tl).drop k).length=ys.length-k:=by rw [List.length_drop,htl]
   have ej:IntKind.wrap .i64 ((j:Int)-1)=((j-1:Nat):Int):=by rw [w64 (by omega) (by omega)];omega
   refine zt hs λw' hs=>?_
   refine z1g (x:=⟨z0k x.a 1 k x.cap,x.len-k,0⟩) hs (xs:=(zs++tl).drop k) (enc:=encI) j (by omega) ?_
   rw [ej]
   refine z1g (x:=⟨z0k x.a 1 k x.cap,x.len-k,0⟩) hs (xs:=(zs++tl).drop k) (enc:=encI) (j-1) (by omega) ?_
   refine ze ?_
   have g1:=z4r j (by omega) (by omega) (by omega)
   have g2:=z4r (j-1) (by omega) (by omega) (by omega)
   have ei:k+(j-1)=k+j-1:=by omega
   refine zj (λv w'=>∃ (zs' tl':List Int),v=(((zs'.length:Nat):Int),())/\zs'.length+1<=k+(j+1)/\(zs'++tl').length=ys.length/\(zs'++tl').drop (k+(j+1)-1)=ys.drop (k+(j+1)-1)/\zs'.Pairwise (· < ·)/\(∀ p,p ∈ zs'↔p ∈ ys.take (k+(j+1)))/\Sat w' (slc T.a13 1 x ((zs'++tl').flatMap encI)::l)) ?_ ?_
   rotate_left
   ·rintro _ w2 ⟨zs',tl',rfl,a1,a2,a3,a4,a5,hs⟩
    refine zh ?_
    have e2:IntKind.wrap .i64 ((j:Int)+1)=((j+1:Nat):Int):=by rw [w64 (by omega) (by omega)];omega
    rw [e2]
    refine wp_lt ?_
    exact z0x (ys.length-(k+(j+1))) ⟨zs'.length,j+1,zs',tl',rfl,by omega,by omega,rfl,rfl,a1,a2,a3,a4,a5,hs⟩
   have hdr2:ys.drop (k+(j+1)-1)=(ys.drop (k+j-1)).drop 1:=by rw [List.drop_drop];congr 1;omega
   by_cases hne:ys[k+j]=ys[k+j-1]
   ·refine z07 (by simp [g1,g2,ei,hne]) ?_
    refine zg ⟨zs,tl,by rw [hzl],by omega,htl,?_,hzs,λp=>?_,hs⟩
    ·rw [hdr2,<- hdr,List.drop_drop];congr 1;omega
    ·rw [show k+(j+1)=k+j+1 by omega,zfe hkj2,hmem]
     refine ⟨.inl,λhh=>hh.elim (λh=>h) λe=>?_⟩
     rw [e,hne]
     exact List.mem_take_iff_getElem.2 ⟨k+j-1,by omega,rfl⟩
   ·refine zw (by simp [g1,g2,ei,hne]) ?_
    refine z1g (x:=⟨z0k x.a 1 k x.cap,x.len-k,0⟩) hs (xs:=(zs++tl).drop k) (enc:=encI) j (by omega) ?_
    refine zq3 hs (xs:=zs++tl) (enc:=encI) i (by omega) ys[k+j] (λw' hs=>?_) rfl rfl (by show [Value.int .i64 ((zs++tl).drop k)[j]]=[Value.int .i64 ys[k+j]];rw [g1])
    have e3:IntKind.wrap .i64 ((i:Int)+1)=((i+1:Nat):Int):=by rw [w64 (by omega) (by omega)];omega
    rw [e3]
    refine wp_lt ?_
    have htne:tl≠[]:=λe=>by rw [e,List.append_nil] at htl;omega
    obtain ⟨t0,tl',rfl⟩:=List.exists_cons_of_ne_nil htne
    have eset:(zs++t0::tl').set i ys[k+j]=(zs++[ys[k+j]])++tl':=by
     rw [<- hzl,List.set_append_right _ _ (Nat.le_refl _),Nat.sub_self]
     simp
    rw [eset] at hs
    refine zg ⟨zs++[ys[k+j]],tl',by rw [List.length_append,hzl];rfl,by rw [List.length_append,hzl];simp;omega,by simp at htl ⊢;omega,?_,?_,λp=>?_,hs⟩
    ·have e4:(zs++[ys[k+j]]++tl').drop (k+(j+1)-1)=(zs++t0::tl').drop (k+(j+1)-1):=by
      rw [<- eset]
      apply List.ext_getElem?
      intro d
      rw [List.getElem?_drop,List.getElem?_drop,List.getElem?_set_ne (by omega)]
     rw [e4,hdr2,<- hdr,List.drop_drop];congr 1;omega
    ·refine zud hzs λp hp=>?_
     exact zv5 h hkj2 (by omega) hne p ((hmem p).1 hp)
    ·rw [show k+(j+1)=k+j+1 by omega,zfe hkj2,List.mem_append,hmem,List.mem_singleton]
  clear hs
  rintro _ w ⟨i,zs,tl,rfl,hzl,htl,hzs,hmem,hs⟩
  refine zh ?_
  have hil:i<=ys.length:=by rw [List.length_append] at htl;omega
  refine wp_must (by omega) ?_
  simp only [Int.toNat_natCast]
  have hs:=hs.slc_pre (n:=i) (by omega)
  rw [z5u,<- hzl,List.take_left] at hs
  rw [<- hzl]
  have hm1:zs.length+(x.len-zs.length)<=x.cap:=by omega
  refine zq2 (t:=T.a44) (el:=T.a13) (x:=⟨x.a,zs.length,x.cap⟩) (n:=zs.length) (m:=x.len-zs.length) hs (Nat.le_refl _) hm1 (λw' hs=>?_)
  have hm2:zs.length<=x.cap:=by omega
  refine wp_must (by omega) ?_
  refine zm (zm (zm ?_))
  exact ⟨rfl,⟨x.a,zs.length,x.cap⟩,zs,rfl,hzs,hmem,hs⟩
def zcb (X:CoT) (p:Int):Bool:=decide (p<0) || decide (p>=X.parts)
theorem z02b (p:Int) {m:CoM} [hf:FocB l c (.cells (coC b X m).toArray T.a59) r] (hs:Sat w l):Ret P F.a193 #[.pointer (some ⟨c,0,none⟩),.int .i64 p] w λvs w'=>vs=[.bool (zcb X p)]/\Sat w' l :=
 zsf _ p <| by
  delta z08c AD Ab Ah Aj;refine z04 (z8 hs ?_);exact wp_lt ⟨rfl,rfl,hs⟩
theorem zqn (x:Sl) (xs:List Int) (hb:xs.length<=100000000) {m:CoM} [hf:FocB l c (.cells (coC b X m).toArray T.a59) r] [hx:FocR l x 1 (xs.flatMap encI)] (hs:Sat w l) :
  Ret P F.a138 #[x.v,.func (.func F.a193) #[.pointer (some ⟨c,0,none⟩)] #[]] w λvs w'=>vs=[.bool (xs.any (zcb X))]/\Sat w' l :=
 zrr x _ <| by
  delta z07q Ab Aj Am
  have hidx:Ret P F.a141 #[x.v,.func (.func F.a193) #[.pointer (some ⟨c,0,none⟩)] #[]] w λvs w'=>(∃ i:Int,vs=[.int .i64 i]/\(decide (i>=0))=xs.any (zcb X))/\Sat w' l :=
   zru x _ <| by
    delta z07t AR AV AW Aa Ab Ac Ak Al Av Az
    have hl:=hs.slen x (xs:=xs) (enc:=encI)
    refine zj (λq w'=>xs.any (zcb X)=false/\Sat w' l) ?_ ?_
    rotate_left
    ·rintro _ w2 ⟨h,hs⟩
     refine zh ?_
     exact ⟨rfl,⟨-1,rfl,by rw [h];rfl⟩,hs⟩
    refine z0a (λq v w=>∃ i:Nat,v=((i:Int),())/\i<=xs.length/\xs.length-i=q/\(xs.take i).any (zcb X)=false/\Sat w l) xs.length ⟨0,rfl,by omega,rfl,rfl,hs⟩ ?_
    clear hs
    rintro q _ w ⟨i,rfl,hi,hq,ha,hs⟩
    refine zh ?_
    refine zi (λhc=>?_) λhc=>?_
    rotate_left
    ·rw [List.take_of_length_le (by omega)] at ha
     exact zm (zg ⟨ha,hs⟩)
    have hil:i<xs.length:=by omega
    refine wp_lt ?_
    refine z1g hs (xs:=xs) (enc:=encI) i hil ?_
    refine ⟨F.a193,#[.pointer (some ⟨c,0,none⟩)],#[],rfl,by kernel_rfl,?_⟩
    refine Calls.mono (z02b (b:=b) (c:=c) (X:=X) (m:=m) xs[i] hs) λe w' ⟨vs,he,hv,hs⟩=>?_
    subst hv
    refine ⟨(zcb X xs[i],()),he,trivial,?_⟩
    refine zh ?_
    have htk:(xs.take (i+1)).any (zcb X)=zcb X xs[i]:=by
     rw [List.take_add_one,List.getElem?_eq_getElem hil,Option.toList_some,List.any_append,ha];simp
    cases hbt:zcb X xs[i] with
    | true =>
     refine zw rfl ?_
     refine wp_lt ?_
     refine zm (zm ?_)
     refine ⟨rfl,⟨(i:Int),rfl,?_⟩,hs⟩
     rw [decide_eq_true (by omega)]
     exact (List.any_eq_true.2 ⟨xs[i],List.getElem_mem hil,hbt⟩).symm
    | false =>
     refine z07 rfl ?_
     refine z22 (us':=[.int .i64 ((i+1:Nat):Int)]) (by (try simp (disch:=omega) only [w64]);first|rfl|(congr;omega)) ?_
     exact z0x (xs.length-(i+1)) ⟨i+1,rfl,by omega,rfl,by rw [htk];exact hbt,hs⟩
  refine zb hidx λ_ w' hs=>?_
  obtain ⟨⟨i,rfl,hi⟩,hs⟩:=hs
  refine zd ?_
  refine wp_lt ?_
  refine ⟨rfl,?_,hs⟩
  rw [hi]
end
def zca (p e:Int):List Value:=[.int .i64 (if e≠0 then e else p)]
def z02x (p:Int × Int) (e:Int):List Value:=if e≠0 then [.int .i64 0,.int .i64 e] else [.int .i64 p.1,.int .i64 p.2]
section
variable {w:World} {l r r1 r2 r3 r4 l':List HP} {b c q:Nat} {x z:Sl} {n:RowT} {X:CoT} {M:LedA} {D:DiskA}
set_option maxHeartbeats 4000000 in
theorem z0by (pid epoch now:Int) (p:Sl) (ps:List Int) (hX:OkT X) (hsz:X.parts+ps.length<=12)
  [hf:Fo l (coP b) c X r1] [hf1:Fo r1 leP b M r2] [hf2:Fo r2 dk M.1.L.d D r] [hps:FocR r p 1 (ps.flatMap encI)] (h:Cpl M.1.L.pre M.1.L.l D) (hn:M.2.l.length<=100000000) (hs:Sat w l) :
  Ret P F.a183 #[.pointer (some ⟨c,0,none⟩),.int .i64 pid,.int .i64 epoch,.int .i64 now,p.v] w λvs w'=>∃ (e:Int) (X':CoT) (M':LedA) (D':DiskA),zd5 X M D (z6c X pid epoch now ps).2 now e X' M' D'/\vs=zca (z6c X pid epoch now ps).1 e/\Sat w' (coP b c X'::leP b M'::dk M.1.L.d D'::r) :=
 zh6 _ pid epoch now p <| by
  have hact:=zth hX pid epoch now ps;delta zxr AA AB AC AD AE AN AO AP AR AS AZ Aa Ab Ac Ad Ah Ak Al Am An Ao Ap Aq Az B2 Bc;have hs:=hs.perm (hf.perm.trans (.cons _ (hf1.perm.trans (.cons _ hf2.perm))));clear hf hf1 hf2;have hpl:=hs.slen p (xs:=ps) (enc:=encI);have hXp:=hX.parts;refine wp_lt (z06 ?_ (by simp));refine zb (z6z now hs) λ_ w' hs=>?_;obtain ⟨rfl,hs⟩:=hs;refine zd (wp_lt ?_)
  cases ht:z1h now with
  | false =>
   refine zw rfl ?_
   have e:z6c X pid epoch now ps=(2,.no):=by unfold z6c;rw [if_pos ht]
   rw [e];exact ⟨rfl,0,X,M,D,⟨rfl,rfl,rfl,rfl⟩,rfl,hs⟩
  | true =>
  refine z07 rfl ?_;obtain ⟨m,hp,hX2,hs⟩:=z67 hs;refine zf (z8 hs ?_);refine zau hp hX hs (λt RS hpm hpr hpf htX htp hs=>?_) λhpf=>?_;rotate_left
  ·refine zw rfl ?_
   have e:z6c X pid epoch now ps=(3,.no):=by unfold z6c;rw [if_neg (by rw [ht];simp),hpf]
   rw [e];exact ⟨rfl,0,X,M,D,⟨rfl,rfl,rfl,rfl⟩,rfl,z4g m hp hX hs⟩
  refine z07 rfl ?_;have k:=hX.row _ htX;have hkp:=z56 hX k;have hback:∀ {w:World},Sat w (coF b c X m t RS (leP b M::dk M.1.L.d D::r))->Sat w (coP b c X::leP b M::dk M.1.L.d D::r):=λ{w} hs=>z3c (t:=t) (m:=m) hpr hX hs
  have eadd:z6c X pid epoch now ps=if ps=[]\/ps.any (λp=>decide (p<0) || decide (p>=X.parts))=true then (2,.no) else if epoch<t.r.epoch then (20,.no) else if t.r.state=5 then (24,.no) else
    if epoch>t.r.epoch then (22,.no) else if t.r.state≠0/\t.r.state≠1 then (23,.no) else
    if t.r.state=1/\(z8r X.parts t.r.parts ps).length=t.r.parts.length then (0,.no) else
     (0,.row { t.r with state:=1,since:=if t.r.state=0 then now else t.r.since,parts:=z8r X.parts t.r.parts ps }):=by
   unfold z6c;rw [if_neg (by rw [ht];simp),hpf]
  rw [eadd] at hact ⊢;refine zj (λv w'=>v=(decide (ps=[]\/ps.any (λp=>decide (p<0) || decide (p>=X.parts))=true),())/\Sat w' (coF b c X m t RS (leP b M::dk M.1.L.d D::r))) ?_ ?_
  ·by_cases h0:ps=[]
   ·refine zw (by rw [hpl,h0];rfl) (zg ⟨?_,hs⟩);rw [decide_eq_true (.inl h0)]
   ·have hlen:ps.length≠0:=λe=>h0 (List.length_eq_zero_iff.1 e);refine z07 (by rw [hpl];simpa using h0) ?_;have hpr2:FocR (coF b c X m t RS (leP b M::dk M.1.L.d D::r)) p 1 (ps.flatMap encI):=inferInstance;refine zb (zqn (b:=b) (c:=c) (X:=X) (m:=m) p ps (by omega) hs) λ_ w' hs=>?_;obtain ⟨rfl,hs⟩:=hs;refine zd (zg ⟨?_,hs⟩)
    congr 1
    have e:ps.any (zcb X)=decide (ps.any (λp=>decide (p<0) || decide (p>=X.parts))=true):=Bool.decide_eq_true.symm;rw [e];exact decide_eq_decide.2 ⟨.inr,λhh=>hh.elim (λhh=>absurd hh h0) λhh=>hh⟩
  clear hs;rintro _ w ⟨rfl,hs⟩;refine zh ?_
  by_cases hbad:ps=[]\/ps.any (λp=>decide (p<0) || decide (p>=X.parts))=true
  ·refine zw (decide_eq_true hbad) ?_;rw [if_pos hbad];exact ⟨rfl,0,X,M,D,⟨rfl,rfl,rfl,rfl⟩,rfl,hback hs⟩
  rw [if_neg hbad] at hact ⊢;refine z07 (decide_eq_false hbad) (zf ?_);refine z8 hs (wp_lt ?_)
  by_cases h20:epoch<t.r.epoch
  ·rw [if_pos h20];exact zw (decide_eq_true h20) ⟨rfl,0,X,M,D,⟨rfl,rfl,rfl,rfl⟩,rfl,hback hs⟩
  rw [if_neg h20] at hact ⊢;refine z07 (decide_eq_false h20) (zf ?_);refine z8 hs (wp_lt ?_)
  by_cases h5:t.r.state=5
  ·rw [if_pos h5];exact zw (by simpa using h5) ⟨rfl,0,X,M,D,⟨rfl,rfl,rfl,rfl⟩,rfl,hback hs⟩
  rw [if_neg h5] at hact ⊢;refine z07 (by simpa using h5) (zf ?_);refine z8 hs (wp_lt ?_)
  by_cases h22:epoch>t.r.epoch
  ·rw [if_pos h22];exact zw (decide_eq_true h22) ⟨rfl,0,X,M,D,⟨rfl,rfl,rfl,rfl⟩,rfl,hback hs⟩
  rw [if_neg h22] at hact ⊢;refine z07 (decide_eq_false h22) (zf ?_);refine z8 hs (z04 ?_);refine z8 hs (wp_lt ?_)
  by_cases h23:t.r.state≠0/\t.r.state≠1
  ·rw [if_pos h23];exact zw (by simp [h23.1,h23.2]) ⟨rfl,0,X,M,D,⟨rfl,rfl,rfl,rfl⟩,rfl,hback hs⟩
  rw [if_neg h23] at hact ⊢;refine z07 (by simp;omega) (zb (ze2 (q:=t.at_) (x:=t.x) (n:=t.r) (by omega) hs) λ_ w' hs=>?_);obtain ⟨q,z,rfl,hs⟩:=hs;refine zd (zf ?_);refine z8 hs (zj (λv w'=>Sat w' (pt q (.cells (rowC z { t.r with state:=1,since:=if t.r.state=0 then now else t.r.since }).toArray T.a62)::slc T.a13 1 z (t.r.parts.flatMap encI)::coF b c X m t RS (leP b M::dk M.1.L.d D::r))) ?_ ?_)
  ·by_cases h0:t.r.state=0
   ·refine zw (by simpa using h0) (zf ?_);refine zy hs λw' hs=>zf (zy hs λw' hs=>?_);refine zg ?_;rw [if_pos h0];exact hs
   ·have h1:t.r.state=1:=by omega
    refine z07 (by simpa using h0) (zg ?_);rw [if_neg h0]
    have e:({ t.r with state:=1,since:=t.r.since }:RowT)=t.r:=by
     rw [<- h1]
    rw [e];exact hs
  clear hs;rintro _ w hs;refine zh ?_;generalize hsi:(if t.r.state=0 then now else t.r.since)=si at hs hact ⊢;refine zf (z8 hs ?_);have hpr3:FocR (pt q (.cells (rowC z { t.r with state:=1,since:=si }).toArray T.a62)::slc T.a13 1 z (t.r.parts.flatMap encI)::coF b c X m t RS (leP b M::dk M.1.L.d D::r)) p 1 (ps.flatMap encI):=inferInstance;refine wp_app' (x:=z) (y:=p) (xs:=t.r.parts) (ys:=ps) (enc:=encI) hs (λz2 w' hs=>?_) (by omega);refine zf ?_;have hs:Sat w' (pt q (.cells (rowC z { t.r with state:=1,since:=si }).toArray T.a62)::slc T.a13 1 z2 ((t.r.parts++ps).flatMap encI)::coF b c X m t RS (leP b M::dk M.1.L.d D::r)):=hs.sub;refine zy hs λw' hs=>zf (z8 hs ?_);have hs:Sat w' (slc T.a13 1 z2 ((t.r.parts++ps).flatMap encI)::pt q (.cells (rowC z2 { t.r with state:=1,since:=si }).toArray T.a62)::coF b c X m t RS (leP b M::dk M.1.L.d D::r)):=hs.pick [1];refine zb (zx0 z2 (t.r.parts++ps) (by rw [List.length_append];omega) hs) λ_ w' hs=>?_;obtain ⟨rfl,ys,hy1,hy2,hs⟩:=hs;refine zd (zf ?_);refine z8 hs ?_;have hyl:=hy1.length_eq;rw [List.length_append] at hyl;refine zb (zx8 z2 ys hy2 (by omega) hs) λ_ w' hs=>?_;obtain ⟨z3,zs,rfl,hz1,hz2,hs⟩:=hs
  have ezs:zs=z8r X.parts t.r.parts ps:=zaj hz1 (z8s _ _ _) λv=>by
   rw [hz2,hy1.mem_iff,List.mem_append,z9w];refine ⟨λhv=>⟨?_,hv⟩,λhv=>hv.2⟩
   rcases hv with hv|hv
   ·exact k.range v hv
   ·have hnb:¬ (v<0\/v>=X.parts):=λhb=>hbad (.inr (List.any_eq_true.2 ⟨v,hv,by simpa using hb⟩));omega
  rw [<- ezs] at hact ⊢;refine zd (zf ?_);refine zy hs λw' hs=>?_;have hs:Sat w' (pt q (.cells (rowC z3 { t.r with state:=1,since:=si,parts:=zs }).toArray T.a62)::slc T.a13 1 z3 (zs.flatMap encI)::coF b c X m t RS (leP b M::dk M.1.L.d D::r)):=hs;have hz3l:=hs.slen z3 (xs:=zs) (enc:=encI);have htxl:=hs.slen t.x (xs:=t.r.parts) (enc:=encI);refine zt hs λw' hs=>zf (z8 hs ?_);refine zf (z8 hs ?_);refine z04 (z8 hs ?_);refine z04 (z8 hs ?_);refine ze ?_
  by_cases hsame:t.r.state=1/\zs.length=t.r.parts.length
  ·rw [if_pos hsame];exact zw (by simp [hz3l,htxl,hsame.1,hsame.2]) ⟨rfl,0,X,M,D,⟨rfl,rfl,rfl,rfl⟩,rfl,hback hs.tail.tail⟩
  rw [if_neg hsame] at hact ⊢;refine z07 ?_ ?_
  ·by_cases h1:t.r.state=1
   ·have h2:¬ zs.length=t.r.parts.length:=λh2=>hsame ⟨h1,h2⟩;simp [h1,hz3l,htxl];omega
   ·simp [Ne.symm h1]
  have hs:Sat w' (coP b c X::leP b M::dk M.1.L.d D::pt q (.cells (rowC z3 { t.r with state:=1,since:=si,parts:=zs }).toArray T.a62)::slc T.a13 1 z3 (({ t.r with state:=1,since:=si,parts:=zs }:RowT).parts.flatMap encI)::r):=z3c (t:=t) (m:=m) hpr hX hs
  refine zb (zaq (b:=b) (c:=c) (q:=q) (z:=z3) (n:={ t.r with state:=1,since:=si,parts:=zs }) (X:=X) now hX hact (by
   show z0z _ _=t.r.owed
   have hno:¬ z1a t.r=true:=λho=>by have:=zds.1 ho;omega
   rw [zap (by simp [z1a]),zbd k hno]) h hn hs) λ_ w' hs=>?_
  obtain ⟨e,M',D',rfl,hw,hg,hs⟩:=hs;refine zd (wp_lt ?_);refine ⟨rfl,e,_,M',D',⟨hw,rfl⟩,?_,hs⟩;unfold zca
  by_cases he:e≠0
  ·rw [if_pos he]
  ·rw [if_neg he]
   have he:e=0:=by omega
   rw [he]
set_option maxHeartbeats 2000000 in
theorem z004 {m:CoM} {t:RowM} {RS:List RowM} (commit:Bool) (now:Int) (hX:OkT X) (hpr:((t::RS).map (·.r)).Perm X.l) (htX:t.r ∈ X.l) (h1:t.r.state=1) (hact:z6g X (.row { t.r with state:=if commit=true then 2 else 3,own:=!commit,owed:=t.r.parts }))
  (h:Cpl M.1.L.pre M.1.L.l D) (hn:M.2.l.length<=100000000) (hs:Sat w (coF b c X m t RS (leP b M::dk M.1.L.d D::r))) :
  Ret P F.a194 #[.pointer (some ⟨c,0,none⟩),.pointer (some ⟨t.at_,0,none⟩),.bool commit,.int .i64 now] w λvs w'=>∃ (e:Int) (X':CoT) (M':LedA) (D':DiskA),zd5 X M D (.row { t.r with state:=if commit=true then 2 else 3,own:=!commit,owed:=t.r.parts }) now e X' M' D'/\vs=zca 23 e/\Sat w' (coP b c X'::leP b M'::dk M.1.L.d D'::r) :=
 zsg _ _ commit now <| by
  delta z08d AS Aa Ab Ac Ad Al Am Ao Az B2;have k:=hX.row _ htX;have hkp:=z56 hX k;have hXp:=hX.parts;refine zb (ze2 (q:=t.at_) (x:=t.x) (n:=t.r) (by omega) hs) λ_ w' hs=>?_;obtain ⟨q,z,rfl,hs⟩:=hs;refine zd (zf ?_);refine zy hs λw' hs=>zf (zy hs λw' hs=>?_);refine zj (λv w'=>Sat w' (pt q (.cells (rowC z { t.r with state:=if commit=true then 2 else 3,own:=!commit,owed:=t.r.parts }).toArray T.a62)::slc T.a13 1 z (t.r.parts.flatMap encI)::coF b c X m t RS (leP b M::dk M.1.L.d D::r))) ?_ ?_
  ·cases commit with
   | true =>
    refine zw rfl (zf ?_);refine zy hs λw' hs=>zf (zy hs λw' hs=>?_);exact zg hs
   | false =>
    exact z07 rfl (zg hs)
  clear hs;rintro _ w hs;refine zh ?_;have hs:Sat w (coP b c X::leP b M::dk M.1.L.d D::pt q (.cells (rowC z { t.r with state:=if commit=true then 2 else 3,own:=!commit,owed:=t.r.parts }).toArray T.a62)::slc T.a13 1 z (({ t.r with state:=if commit=true then 2 else 3,own:=!commit,owed:=t.r.parts }:RowT).parts.flatMap encI)::r):=z3c (t:=t) (m:=m) hpr hX hs;have hpf:z5k X.l t.r.pid=some t.r:=zhz hX.pids htX
  refine zb (zaq (b:=b) (c:=c) (q:=q) (z:=z) (X:=X) now hX hact (by
   show z0z (z5k X.l t.r.pid) _=t.r.parts;rw [hpf,z8j (by cases commit <;> rfl)];refine if_neg λhh=>?_;have hh:t.r.state=if commit=true then 2 else 3:=hh.1
   split at hh <;> omega) h hn hs) λ_ w' hs=>?_
  obtain ⟨e,M',D',rfl,hw,hg,hs⟩:=hs;refine zd (wp_lt ?_);refine zi (λhe=>?_) λhe=>?_
  ·have he:e≠0:=by simpa using he
   refine wp_lt ⟨rfl,e,_,M',D',⟨hw,rfl⟩,?_,hs⟩;unfold zca;rw [if_pos he]
  ·have he:e=0:=by simpa using he
   refine ⟨rfl,e,_,M',D',⟨hw,rfl⟩,?_,hs⟩;unfold zca;rw [if_neg (by simp [he])]
set_option maxHeartbeats 2000000 in
theorem z0c0 (pid epoch:Int) (commit:Bool) (now:Int) (hX:OkT X)
  [hf:Fo l (coP b) c X r1] [hf1:Fo r1 leP b M r2] [hf2:Fo r2 dk M.1.L.d D r] (h:Cpl M.1.L.pre M.1.L.l D) (hn:M.2.l.length<=100000000) (hs:Sat w l) :
  Ret P F.a185 #[.pointer (some ⟨c,0,none⟩),.int .i64 pid,.int .i64 epoch,.bool commit,.int .i64 now] w λvs w'=>∃ (e:Int) (X':CoT) (M':LedA) (D':DiskA),zd5 X M D (z6e X pid epoch commit now).2 now e X' M' D'/\vs=z02x (z6e X pid epoch commit now).1 e/\Sat w' (coP b c X'::leP b M'::dk M.1.L.d D'::r) :=
 zh7 _ pid epoch commit now <| by
  have hact:=ztu hX pid epoch commit now;delta zxs AA AP AR Ab Ac Ad Al Am Ao Ap Aq;have hs:=hs.perm (hf.perm.trans (.cons _ (hf1.perm.trans (.cons _ hf2.perm))));clear hf hf1 hf2;refine wp_lt (z06 ?_ (by simp));refine zb (z6z now hs) λ_ w' hs=>?_;obtain ⟨rfl,hs⟩:=hs;refine zd (wp_lt ?_)
  cases ht:z1h now with
  | false =>
   refine zw rfl ?_
   have e:z6e X pid epoch commit now=((0,2),.no):=by unfold z6e;rw [if_pos ht]
   rw [e];exact ⟨rfl,0,X,M,D,⟨rfl,rfl,rfl,rfl⟩,rfl,hs⟩
  | true =>
  refine z07 rfl ?_;obtain ⟨m,hp,hX2,hs⟩:=z67 hs;refine zf (z8 hs ?_);refine zau hp hX hs (λt RS hpm hpr hpf htX htp hs=>?_) λhpf=>?_;rotate_left
  ·refine wp_lt (zw rfl ?_)
   have e:z6e X pid epoch commit now=((0,3),.no):=by unfold z6e;rw [if_neg (by rw [ht];simp),hpf]
   rw [e];exact ⟨rfl,0,X,M,D,⟨rfl,rfl,rfl,rfl⟩,rfl,z4g m hp hX hs⟩
  refine wp_lt (z07 rfl ?_);have k:=hX.row _ htX;have hXe:=hX.epochs;have hback:∀ {w:World},Sat w (coF b c X m t RS (leP b M::dk M.1.L.d D::r))->Sat w (coP b c X::leP b M::dk M.1.L.d D::r):=λ{w} hs=>z3c (t:=t) (m:=m) hpr hX hs
  have eend:z6e X pid epoch commit now=if zem t.r epoch commit=true then ((t.r.epoch,0),.no) else if epoch<t.r.epoch then ((0,20),.no) else if t.r.state=5 then ((0,24),.no) else
    if epoch>t.r.epoch then ((0,22),.no) else if t.r.state=0 then ((t.r.epoch,0),.no) else
    if t.r.state=1 then ((0,23),.row { t.r with state:=if commit=true then 2 else 3,own:=!commit,owed:=t.r.parts }) else
    if t.r.state=2/\commit=false then ((0,22),.no) else ((0,23),.no):=by
   unfold z6e;rw [if_neg (by rw [ht];simp),hpf]
  rw [eend] at hact ⊢;refine zb (z059 (q:=t.at_) (x:=t.x) (n:=t.r) epoch commit (by have:=k.epoch;omega) hs) λ_ w' hs=>?_;obtain ⟨rfl,hs⟩:=hs;refine zd (wp_lt ?_)
  by_cases hend:zem t.r epoch commit=true
  ·rw [if_pos hend];refine zw hend (zf ?_);refine z8 hs (wp_lt ?_);exact ⟨rfl,0,X,M,D,⟨rfl,rfl,rfl,rfl⟩,rfl,hback hs⟩
  rw [if_neg hend] at hact ⊢;refine z07 (by simpa using hend) (zf ?_);refine z8 hs (wp_lt ?_)
  by_cases h20:epoch<t.r.epoch
  ·rw [if_pos h20];exact zw (decide_eq_true h20) ⟨rfl,0,X,M,D,⟨rfl,rfl,rfl,rfl⟩,rfl,hback hs⟩
  rw [if_neg h20] at hact ⊢;refine z07 (decide_eq_false h20) (zf ?_);refine z8 hs (wp_lt ?_)
  by_cases h5:t.r.state=5
  ·rw [if_pos h5];exact zw (by simpa using h5) ⟨rfl,0,X,M,D,⟨rfl,rfl,rfl,rfl⟩,rfl,hback hs⟩
  rw [if_neg h5] at hact ⊢;refine z07 (by simpa using h5) (zf ?_);refine z8 hs (wp_lt ?_)
  by_cases h22:epoch>t.r.epoch
  ·rw [if_pos h22];exact zw (decide_eq_true h22) ⟨rfl,0,X,M,D,⟨rfl,rfl,rfl,rfl⟩,rfl,hback hs⟩
  rw [if_neg h22] at hact ⊢;refine z07 (decide_eq_false h22) (zf ?_);refine z8 hs (wp_lt ?_)
  by_cases h0:t.r.state=0
  ·rw [if_pos h0];refine zw (by simpa using h0) (zf ?_);refine z8 hs (wp_lt ?_);exact ⟨rfl,0,X,M,D,⟨rfl,rfl,rfl,rfl⟩,rfl,hback hs⟩
  rw [if_neg h0] at hact ⊢;refine z07 (by simpa using h0) (zf ?_);refine z8 hs (wp_lt ?_)
  by_cases h1:t.r.state=1
  ·rw [if_pos h1] at hact ⊢;refine zw (by simpa using h1) (zb (z004 (b:=b) (c:=c) (m:=m) (t:=t) (RS:=RS) commit now hX hpr htX h1 hact h hn hs) λ_ w' hs=>?_);obtain ⟨e,X',M',D',hd,rfl,hs⟩:=hs;unfold zca;refine zd (wp_lt ?_);refine ⟨rfl,e,X',M',D',hd,?_,hs⟩;unfold z02x
   by_cases he:e≠0
   ·rw [if_pos he,if_pos he]
   ·rw [if_neg he,if_neg he]
  rw [if_neg h1] at hact ⊢;refine z07 (by simpa using h1) (zf ?_);refine z8 hs (wp_lt ?_)
  by_cases h2:t.r.state=2/\commit=false
  ·rw [if_pos h2];exact zw (by simp [h2.1,h2.2]) ⟨rfl,0,X,M,D,⟨rfl,rfl,rfl,rfl⟩,rfl,hback hs⟩
  ·rw [if_neg h2];exact z07 (by simpa using h2) ⟨rfl,0,X,M,D,⟨rfl,rfl,rfl,rfl⟩,rfl,hback hs⟩
end
end Go.Dec
namespace Go.Proofs.YtogdpmpccmpekaaGreat
open Go.RowKit Go.Maps Go.Sort Go.Proofs Go.Dec Go.ChangeMaps
section
variable {K V:Type} {ek:K->Value} {ev:V->Value} {P:Program} {w:World} {F:Fence} {n:Nat} {ops:Array Oper} {rest:List Oper} {o:Oper} {a:Act} {Q:Exit->Act->World->Prop}
def z06d (ek:K->Value) (ev:V->Value) (W:World) (b:Nat) (es:List (K × V)):Prop:=∃ E c,MOk ek ev E c es/\W.heap[b]? = some (.map E c)
def zd6 (ek:K->Value) (ev:V->Value) (W:World) (r b:Nat) (es todo:List (K × V)) (last:Option (K × V)):Prop :=
 ∃ E c since c0 seen,ItOk ek ev E c since c0 seen es todo last/\W.heap[r]? = some (.mapIter (some b) since seen c0)/\W.heap[b]? = some (.map E c)
theorem zd6.walks {W W':World} {r b:Nat} {es todo:List (K × V)} {last:Option (K × V)} (h:zd6 ek ev W r b es todo last) (hk:KeepsWalks W W'):zd6 ek ev W' r b es todo last:=by
 obtain ⟨E,c,since,c0,seen,h1,h2,h3⟩:=h;exact ⟨E,c,since,c0,seen,h1,hk.same _ _ h2 rfl,hk.same _ _ h3 rfl⟩
theorem zd6.left_eq {W:World} {r b:Nat} {es todo:List (K × V)} {last:Option (K × V)} (h:zd6 ek ev W r b es todo last):W.rangeLeft b r=todo.length:=by
 obtain ⟨E,c,since,c0,seen,h1,h2,h3⟩:=h;simp only [World.rangeLeft,h2,h3];obtain ⟨ys,hys,hl⟩:=h1.todo;rw [<- hys.length_eq,<- Array.length_toList];simpa using congrArg List.length hl
theorem zjp (hg:o.guard=none) (m:Operand) (t:TypeId) (hop:o.op=Op.range t m) (k e:TypeId) (ht:P.underlying t=some (.map k e)) (b:Nat) {es:List (K × V)} (hm:a.eval m=.map (some b)) (h:z06d ek ev w b es)
  (hK:∀ w',zd6 ek ev w' w.heap.size b es es none->w.grownBy w' none->w'.heap.size=w.heap.size+1->wpListIn F n P ops Q rest (a.put o.dst (.pointer (some ⟨w.heap.size,0,none⟩))) w') :
  wpListIn F n P ops Q (o::rest) a w:=by
 obtain ⟨E,c,hok,hb⟩:=h;refine wpListIn_plain hg λK' hK'=>?_;unfold Oper.wpIn;refine ⟨by simp [Oper.about,hop],?_⟩;rw [Oper.semAt_plain F _ _ (by rw [hop];intro c hc';cases hc')];simp [execOp,hop,hm,run_range_map w t k e b E c ht hb,Result.andThen];refine hK' _ _ (hK _ ?_ ?_ ?_)
 ·have hlt:b<w.heap.size:=(Array.getElem?_eq_some_iff.1 hb).1;refine ⟨E,c,c,c,#[],⟨hok,?_,Nat.le_refl _,Nat.le_refl _,(λkv h=>by cases h),?_⟩,World.alloc_heap_new w _,(Below.heap_alloc _ _ _ hlt).trans hb⟩
  ·obtain ⟨xs,-,-,-,-,h5⟩:=hok;exact h5
  ·obtain ⟨xs,h1,-,h3,-⟩:=hok;exact ⟨xs,h1,by rw [ziw];exact h3⟩
 ·exact World.grownBy_alloc w _ none
 ·simp
theorem z00w {E:Array MapEntry} {c since c0:Nat} {seen:Array Nat} {es todo:List (K × V)} {last:Option (K × V)} (hok:ItOk ek ev E c since c0 seen es todo last) {e:MapEntry} (he:e ∈ (leftOf E seen).toList) :
  ∃ k v todo',todo.Perm ((k,v)::todo')/\e.key=ek k/\e.val=ev v/\ItOk ek ev E c since c (seen.push e.born) es todo' (some (k,v)):=by
 obtain ⟨hmok,hold,hlook,hclk,-,ys,hys,hleft⟩:=hok;obtain ⟨xs,hxs,hnd,hkv,hborn,hlt⟩:=hmok;have hpush:=zlz hborn he;have hmem:(e.key,e.val) ∈ (leftOf E seen).toList.map λe=>(e.key,e.val):=List.mem_map.2 ⟨e,he,rfl⟩
 have hmap:=hpush.map λe=>(e.key,e.val)
 rw [hleft,List.map_cons] at hmap
 obtain ⟨ys',hys',hmap'⟩:∃ ys':List (K × V),∃ kv:K × V,ys.Perm (kv::ys')/\(e.key,e.val)=(ek kv.1,ev kv.2)/\(leftOf E (seen.push e.born)).toList.map (λe=>(e.key,e.val))=ys'.map λx=>(ek x.1,ev x.2):=by
  rw [hleft] at hmem;obtain ⟨a,b,hab⟩:=List.append_of_mem he
  have h3:leftOf E seen=⟨a++e::b⟩:=by
   apply Array.toList_inj.1;exact hab
  have h4:(leftOf E (seen.push e.born)).toList=a++b:=by
   have h5:(leftOf E (seen.push e.born)).toList=(leftOf E seen).toList.filter λy=>!(y.born == e.born):=by
    unfold leftOf;rw [Array.toList_filter,Array.toList_filter,List.filter_filter];refine List.filter_congr λy _=>?_;simp only [Array.contains_push];cases seen.contains y.born <;> cases (y.born == e.born) <;> rfl
   rw [h5,hab,List.filter_append,List.filter_cons_of_neg (by simp)]
   have hpw:(a++e::b).Pairwise λa b=>a.born<b.born:=by
    rw [<- hab];unfold leftOf;rw [Array.toList_filter];exact hborn.filter _
   rw [List.pairwise_append,List.pairwise_cons] at hpw
   congr 1
   ·exact List.filter_eq_self.2 λy hy=>by
     have:=hpw.2.2 y hy e (List.mem_cons_self ..)
     have:(y.born == e.born)=false:=by rw [beq_eq_false_iff_ne];omega
     rw [this];rfl
   ·exact List.filter_eq_self.2 λy hy=>by
     have:=hpw.2.1.1 y hy
     have:(y.born == e.born)=false:=by rw [beq_eq_false_iff_ne];omega
     rw [this];rfl
  rw [hab,List.map_append,List.map_cons] at hleft
  have hl:a.length<ys.length:=by
   have:=congrArg List.length hleft;simp at this;omega
  have e1:=List.take_append_drop a.length ys;have e2:ys.drop a.length=ys[a.length]::ys.drop (a.length+1):=List.drop_eq_getElem_cons hl
  have h6:(a.map λe=>(e.key,e.val))++((e.key,e.val)::b.map λe=>(e.key,e.val))=(ys.take a.length).map (λx=>(ek x.1,ev x.2))++((ek ys[a.length].1,ev ys[a.length].2)::(ys.drop (a.length+1)).map λx=>(ek x.1,ev x.2)):=by
   rw [hleft]
   conv=>lhs;rw [<- e1,e2]
   rw [List.map_append,List.map_cons]
  have h7:=List.append_inj h6 (by simp;omega);rw [List.cons.injEq] at h7;refine ⟨ys.take a.length++ys.drop (a.length+1),ys[a.length],?_,h7.2.1,?_⟩
  ·conv=>lhs;rw [<- e1,e2]
   exact List.perm_middle
  ·rw [h4,List.map_append,List.map_append,h7.1,h7.2.2]
 obtain ⟨hp,hkve,hl'⟩:=hmap';simp only [Prod.mk.injEq] at hkve
 have heE:e ∈ E.toList:=by
  unfold leftOf at he;rw [Array.toList_filter] at he;exact (List.mem_filter.1 he).1
 exact ⟨hys'.1,hys'.2,ys',hys.symm.trans hp,hkve.1,hkve.2,⟨xs,hxs,hnd,hkv,hborn,hlt⟩,hold,hclk,hclk,(λkv h=>⟨rfl,e,heE,seen,rfl,by obtain rfl:=Option.some.inj h;exact hkve⟩),ys',.refl _,hl'⟩
theorem zkv (hg:o.guard=none) (it:Operand) (hop:o.op=Op.next it false) (b r:Nat) {es todo:List (K × V)} {last:Option (K × V)} (hit:a.eval it=.pointer (some ⟨r,0,none⟩)) (h:zd6 ek ev w r b es todo last)
  (hDone:todo=[]->wpListIn F n P ops Q rest (a.put o.dst (.tuple #[.bool false])) w)
  (hMore:∀ k v todo' w',todo.Perm ((k,v)::todo')->zd6 ek ev w' r b es todo' (some (k,v))->w.grownBy w' (some r)->w'.heap.size=w.heap.size->(Instr.entry (.pointer (some ⟨r,0,none⟩))).run P w'=.ok (.tuple #[ek k,ev v]) w' ->
   wpListIn F n P ops Q rest (a.put o.dst (.tuple #[.bool true,ek k,ev v])) w') :
  wpListIn F n P ops Q (o::rest) a w:=by
 obtain ⟨E,c,since,c0,seen,hok,hr,hb⟩:=h
 have hne:r≠b:=λe=>by subst e;rw [hr] at hb;cases hb
 refine wpListIn_plain hg λK' hK'=>?_;unfold Oper.wpIn;refine ⟨by simp [Oper.about,hop],?_⟩;rw [Oper.semAt_plain F _ _ (by rw [hop];intro c hc';cases hc')]
 rcases run_next_at (P:=P) w o.type r b since c0 seen E c hr hb hok.old hok.look with ⟨h0,hrun⟩|⟨e,he,w1,hw1,hrun⟩
 ·simp [execOp,hop,hit,hrun,Result.andThen];refine hK' _ _ (hDone ?_);obtain ⟨ys,hys,hleft⟩:=hok.todo
  have h2:ys.length=0:=by
   have:=congrArg List.length hleft;rw [List.length_map,List.length_map,Array.length_toList,h0] at this;exact this.symm
  exact (hys.symm.trans (by rw [List.length_eq_zero_iff.1 h2])).eq_nil
 ·obtain ⟨k,v,todo',hp,hk,hv,hok'⟩:=z00w hok he;simp [execOp,hop,hit,hrun,Result.andThen];rw [hk,hv];have hlt:r<w.heap.size:=(Array.getElem?_eq_some_iff.1 hr).1
  have hh:w1.heap=w.heap:=by rcases hw1 with rfl|rfl <;> rfl
  have hg':w.grownBy (setBlock w1 r (.mapIter (some b) since (seen.push e.born) c)) (some r):=by
   rcases hw1 with rfl|rfl
   ·exact grownBy_putObj' _ _ _
   ·have:=grownBy_putObj' w r (.mapIter (some b) since (seen.push e.born) c);exact ⟨this.os,this.tape,this.output,this.size,this.block⟩
  have hr':(setBlock w1 r (.mapIter (some b) since (seen.push e.born) c)).heap[r]? = some (.mapIter (some b) since (seen.push e.born) c):=by
   simp [setBlock,hh,hlt]
  have hb':(setBlock w1 r (.mapIter (some b) since (seen.push e.born) c)).heap[b]? = some (.map E c):=by
   refine (hg'.block b (Array.getElem?_eq_some_iff.1 hb).1 (λe=>hne (Option.some.inj e).symm)).trans hb
  refine hK' _ _ (hMore k v todo' _ hp ⟨E,c,since,c,seen.push e.born,hok',hr',hb'⟩ hg' (by simp [setBlock,hh]) ?_);obtain ⟨-,e2,he2,s',hs',h1,h2⟩:=hok'.lst _ rfl;obtain ⟨xs,-,-,-,hborn,-⟩:=hok'.ok
  have hnd:(E.toList.map (·.born)).Nodup:=by
   rw [List.Nodup,List.pairwise_map]
   exact hborn.imp λ{a b} h=>by omega
  rw [hs'] at hr' hb';have:=run_entry_at (P:=P) _ r b since s' E c e2 hr' hb' he2 hnd;rw [hs',this,h1,h2]
end
set_option maxRecDepth 100000 in
set_option maxHeartbeats 1000000 in
theorem z00y (F:Fence) (n:Nat) (h10:F.fn 268) (hro:F.round=none) (hn:1<=n) (l Bm b:Nat) (es:List (Int × Nat)) (J Jx:List Int->World->Prop)
  (hY:∀ pre x W,J pre W->pre.length<es.length->YieldAt F (n-1) Tryz.prog l #[.int .i64 x] W λe W'=>(e=.returned (.bool true)/\J (pre++[x]) W'/\KeepsWalks W W')\/(e=.returned (.bool false)/\Jx (pre++[x]) W'))
  (W:World) (hJ:AbidesFrom W.heap.size J) (hm:W.cell? ⟨Bm,0,none⟩=some (.map (some b))) (hown:z06d ekI evF W b es) (h0:J [] W) :
  CallsIn F n Tryz.prog 268 #[.func (.yield l) #[] #[],.pointer (some ⟨Bm,0,none⟩)] W λe W'=>(∃ v,e=.returned v)/\((∃ xs:List Int,xs.Perm (es.map Prod.fst)/\J xs W')\/(∃ pre,True/\Jx pre W')):=by
 refine callsIn_of_wp Tryz.func268 rfl h10 ?_ hro;simp only [Tryz.ntmps268,List.size_toArray,List.length_cons,List.length_nil,Nat.reduceAdd,Nat.reduceSub,Array.replicate_succ,Array.replicate_zero,List.push_toArray,List.append_toArray,List.nil_append,List.cons_append]
 gi_wp2_with (first
  | (gi_at_range;refine zjp rfl _ 171 rfl 2 175 Tryz.underlying171 b rfl hown ?_;intro w0 hrg0 hg0 hs0)
  | gi_in)
 go_frame
 gi_loopw [3] (λ_ wr=>∃ (todo:List (Int × Nat)) (pre:List Int) (last:Option (Int × Nat)),zd6 ekI evF wr W.heap.size b es todo last/\(pre++todo.map Prod.fst).Perm (es.map Prod.fst)/\pre.length+todo.length=es.length/\J pre wr)
  (λ_ wr=>wr.rangeLeft b W.heap.size)
 case atStart =>
  exact ⟨es,[],_,hrg0,by simp,by simp,hJ [] W w0 none h0 hg0 (λr e=>by cases e)⟩
 case round =>
  obtain ⟨todo,pre,last,hrg,hperm,hlen,hJs⟩:=hrel
  gi_wp2_with (first
   | (gi_at_next;refine zkv rfl _ rfl b W.heap.size rfl hrg ?_ ?_)
   | gi_in)
  ·intro hc0
   gi_wp2
   go_end0
   subst hc0;exact ⟨⟨_,rfl⟩,.inl ⟨pre,by simpa using hperm,hJs⟩⟩
  ·intro x c todo' w2 hp2 hrg2 hg2 hs2 hen;have hJ2:J pre w2:=hJ pre wr w2 (some W.heap.size) hJs hg2 (λr e=>by cases e;obtain ⟨E,c,since,c0,seen,h1,h2,h3⟩:=hrg;exact ⟨Nat.le_refl _,_,h2,rfl⟩);clear hs2;have hl2:=hp2.length_eq;obtain ⟨fn,tmps,assign,body,hy,hR⟩:=hY pre x _ hJ2 (by simp at hl2;omega)
   gi_wp2
   refine hR.mono ?_
   have hpm:((pre++[x])++todo'.map Prod.fst).Perm (es.map Prod.fst):=by
    rw [List.append_assoc];exact (List.Perm.append_left pre (hp2.map Prod.fst).symm).trans hperm
   rintro e W3 (⟨rfl,hJ3,hk3⟩|⟨rfl,hJx3⟩)
   ·gi_wp2
    have hrg4:=hrg2.walks hk3
    go_roundw
    case rel=>exact ⟨todo',pre++[x],_,hrg4,hpm,by simp at hl2 ⊢;omega,hJ3⟩
    case measure=>rw [hrg4.left_eq,hrg.left_eq,hl2];simp
   ·gi_wp2
    exact bodyPost_ret (results_none rfl _ _ _) rfl ⟨⟨_,rfl⟩,.inr ⟨pre++[x],trivial,hJx3⟩⟩
end Go.Proofs.YtogdpmpccmpekaaGreat
namespace Go.Proofs.YtogdpmpccmpekaaGreat
open Go.RowKit Go.Maps Go.Sort Go.Proofs Go.Shelf Go.Dec
theorem z0gc:(Tryz.prog.info? 2).map (λi=>(i.zero,i.size,i.bytes))=some (some (.int .i64 0),1,8):=by kernel_rfl
attribute [local go_sem] Oper.semAt_some
set_option maxRecDepth 100000 in
set_option maxHeartbeats 2000000 in
theorem zvj (n:Nat) (hn:2<=n) (gf:Nat) (lb:Array Value) (eg:∀ args w,(callFunc gf args).run Tryz.prog w=.ok (.enter gf args) w) (w:World) (S:List Int->Prop) (N:Nat) (hN:N<=100000)
  (hseq:SeqStopsK Fence.wide (n-1) Tryz.prog gf lb (λx=>#[.int .i64 x]) KeepsWalks S (λ_=>True) N w) :
  CallsIn Fence.wide n Tryz.prog 309 #[.slice none 0 0,.func (.func gf) #[] lb] w λe W'=>∃ v xs,e=.returned v/\S xs/\W'.ownsRow w.heap.size 2 1 v xs.length (xs.flatMap Go.Dec.encI)/\Below w.heap.size w W':=by
 have h1:1<=n:=by omega
 obtain ⟨i0,hi,hz0,hz1,hz2⟩:=info_parts z0gc;refine callsIn_of_wp_marks Tryz.func309 rfl trivial ?_ rfl;simp only [Tryz.ntmps309,List.size_toArray,List.length_cons,List.length_nil,Nat.reduceAdd,Nat.reduceSub,Array.replicate_succ,Array.replicate_zero,List.push_toArray,List.append_toArray,List.nil_append,List.cons_append]
 gi_wp2
 have bO:=Boxed.new w 190 (.slice none 0 0);have hB0:Below w.heap.size w (w.alloc (.cells #[.slice none 0 0] 190)):=(Below.refl _ w).alloc (Nat.le_refl _) _
 refine wpIn_rangeFunc_ownH rfl h1 (gf:=gf) (lb:=lb) rfl trivial eg (encs:=λx=>#[.int .i64 x]) (Kp:=KeepsWalks) (S:=S) (Sp:=λ_=>True) (N:=N) hseq walksK_t (λW l o o' _ h _ hw=>KeepsWalks.putObj _ h hw) hB0 (λ_=>rfl)
  (λpre W=>(∃ v,Boxed W w.heap.size 190 v/\W.ownsRow w.heap.size 2 1 v pre.length (pre.flatMap Go.Dec.encI)/\True)/\Below w.heap.size w W)
  (λ_ _ _=>False)
  (OwnFrom.and (Own.from (holdsRow_own w.heap.size w.heap.size 190 2 1 (λpre:List Int=>pre.length) (λpre=>pre.flatMap Go.Dec.encI) (λ_ _=>True)) _) (ownFrom_below (Nat.le_refl _) (by simp)))
  (λ_ _ _ _ _ hs _ _=>hs)
  ⟨⟨_,bO,World.ownsRow_nil _ _ _ _,trivial⟩,hB0⟩
  (λx a' W=>a'={ tmps:=#[.slice none 0 0,.func (.func gf) #[] lb,.pointer (some ⟨w.heap.size,0,none⟩),undef,.slice none 0 0,.int .i64 x,.func (.func gf) #[] lb,.int .i64 x,undef,undef,undef,undef,undef],defers:=[] })
  ?hax ?assign ?body ?done ?stop
 case hax =>
  rintro x a' u W W' row h hg hr;exact h
 case assign =>
  intro l pre x W K hI hK
  gi_wp2
  exact hK _ _ (KeepsFrom.refl _ _) ((KeepsOthers.refl _).walks) hI rfl
 case body =>
  rintro l pre x a' W hl-⟨⟨v,hv,hrow,-⟩,hB⟩ rfl hlt;have hcv:=hv.cell
  have hml:100000<=maxLen:=by decide
  have hvl:=hv.lt
  gi_wp2_with (gi_at_builtin;refine wpListIn_append_own _ rfl _ _ 190 rfl w.heap.size 2 i0 _ 1 8 Tryz.underlying190 hi hz0 hz1 hz2 rfl (by decide) _ _ _ rfl (hrow.alloc _) ⟨W.heap.size,0,none⟩ 1 1 [.int .i64 x] rfl rfl (cell_one_new _ _ _) (by simp [Value.oneCell']) (by omega) (by omega) (by simp;omega) ?_;intro v' w1 hown' hgrow _;obtain ⟨g',cap',rfl⟩:=ownsRow_succ hown';obtain ⟨hv1,hv2,hr2,hk2,hb2⟩:=hv.appended (by decide) hrow (by omega) (by omega) hown' hgrow;have hc1:=hv1.cell;have hf1:=hv1.frozen)
  exact ⟨hk2.from _,hk2.walks,⟨_,hv2,by simpa [Go.Dec.encI] using hr2,trivial⟩,hB.trans (hb2.mono (by omega))⟩
 case done =>
  rintro D xs W hD hS ⟨⟨v,hv,hrow,-⟩,hB⟩ hK;have hcv:=hv.cell
  gi_wp2
  refine ⟨by simp,.inl ⟨_,_,rfl,run_takeDeferred hK,?_⟩⟩;refine ⟨_,results_tmp rfl _ _ _,v,xs,rfl,hS,hrow.kept (grownBy_putObj' _ _ _) ?_,hB.grown (grownBy_putObj' _ _ _) hB.size (λk e=>by cases e;simp at hD;omega)⟩
  rcases hrow.2 with ⟨rfl,_⟩|⟨g,cap,cur,rfl,_,hgb,_⟩
  ·exact .inl rfl
  ·refine .inr λe'=>?_;simp only [Value.ownBlock,Option.some.injEq] at e';subst e';rw [hgb] at hK;cases hK
 case stop =>
  rintro D c pre W _ _ h _;exact h.elim
end Go.Proofs.YtogdpmpccmpekaaGreat
namespace Go.Dec
open Go.RowKit Go.Maps Go.Sort Go.Proofs Go.Shelf Go.Proofs.YtogdpmpccmpekaaGreat
section
variable {w:World} {l r:List HP}
theorem zvn (Bm m:Nat) (es:List (Int × Nat)) (tm:TypeId) (hlen:es.length<=100000) (hs:Sat w (pt Bm (.cells #[.map (some m)] tm)::z03 ekI evF m es::l)) :
  Ret P F.a136 #[.func (.func F.a71) #[] #[.pointer (some ⟨Bm,0,none⟩)]] w λvs w'=>∃ (x:Sl) (xs:List Int),vs=[x.v]/\xs.Perm (es.map Prod.fst)/\Sat w' (slc T.a14 1 x (xs.flatMap Go.Dec.encI)::z03 ekI evF m es::l):=by
 refine zrp _ ?_;delta z07o AO Ab;obtain ⟨E,c,hok,hs1⟩:=(hs.pick [1]).mapOpen;have hb:=hs1.get;have hBm:=hs.get;have hBl:Bm<w.heap.size:=(Array.getElem?_eq_some_iff.1 hBm).1;have hml:m<w.heap.size:=(Array.getElem?_eq_some_iff.1 hb).1
 have hcell:w.cell? ⟨Bm,0,none⟩=some (.map (some m)):=by rw [z3h hBm];rfl
 have hseq:SeqStopsK Fence.wide (3-1) Tryz.prog 268 #[.pointer (some ⟨Bm,0,none⟩)] (λx=>#[.int .i64 x]) KeepsWalks (λxs=>xs.Perm (es.map Prod.fst)) (λ_=>True) es.length w:=λlp J Jx W hW hJ hJx hY h0 =>
  z00y Fence.wide (3-1) trivial rfl (by omega) lp Bm m es J Jx hY W hJ ((hW.cell (p:=⟨Bm,0,none⟩) hBl).trans hcell) ⟨E,c,hok,(hW.block m hml).trans hb⟩ h0
 have hap:=callsIn_wide.1 (zvj 3 (by omega) 268 #[.pointer (some ⟨Bm,0,none⟩)] (enters_of Tryz.func268 (by kernel_rfl) rfl) w _ es.length hlen hseq);refine Calls.mono hap ?_;rintro e W ⟨v,xs,rfl,hp,hrow,hB⟩;have hsR:=zpn hs hB;obtain ⟨hxl,h|⟨g,cap,cur,rfl,hg,hgb,hcap,-,hcur,htk⟩⟩:=hrow
 ·obtain ⟨rfl,hn0⟩:=h;obtain rfl:=List.length_eq_zero_iff.1 hn0;refine ⟨(⟨none,0,0⟩,()),rfl,trivial,rfl,⟨none,0,0⟩,[],rfl,hp,?_⟩;exact ((zc6 hsR).tail).slc_nil
 ·have hsR:=zc6 (zdw hsR (b:=g) (by simp;omega) hgb);refine ⟨(⟨some ⟨g,0,none⟩,xs.length,cap⟩,()),rfl,trivial,rfl,⟨some ⟨g,0,none⟩,xs.length,cap⟩,xs,rfl,hp,?_⟩;have hsR:=(hsR.pick [1]).tail;refine hsR.imp λq hq=>.inr ⟨g,0,cur,(0,0),rfl,hq,by rw [hxl],hcap,by simp [hcur],λi hi=>?_,z2g _ _⟩;rw [<- htk,List.length_take] at hi;rw [<- htk,Nat.zero_add,List.getElem?_take,if_pos (by omega)];simp
theorem z01z (Bm m:Nat) (es:List (Int × Nat)) (tm:TypeId) (hlen:es.length<=12) (hs:Sat w (pt Bm (.cells #[.map (some m)] tm)::z03 ekI evF m es::l)) :
  Ret P F.a148 #[.func (.func F.a71) #[] #[.pointer (some ⟨Bm,0,none⟩)]] w λvs w'=>∃ (x:Sl) (xs:List Int),vs=[x.v]/\xs.Perm (es.map Prod.fst)/\xs.Pairwise (· <= ·)/\Sat w' (slc T.a14 1 x (xs.flatMap Go.Dec.encI)::z03 ekI evF m es::l) :=
 zs0 _ <| by
  delta z07z AO Ab An
  refine zb (zvn Bm m es tm (by omega) hs) λ_ w' hs=>?_
  obtain ⟨x,xs,rfl,hp,hs⟩:=hs
  refine zd ?_
  have hl:=hp.length_eq
  rw [List.length_map] at hl
  refine zb (zpr x xs (by omega) hs) λ_ w' hs=>?_
  obtain ⟨rfl,ys,h1,h2,hs⟩:=hs
  refine zd ?_
  exact ⟨rfl,x,ys,rfl,h1.trans hp,h2,hs⟩
theorem zx1:∀ {a b:List Int},a.Perm b->a.Pairwise (· <= ·)->b.Pairwise (· < ·)->a=b:=λ{a b} hp ha hb =>
 List.Perm.eq_of_pairwise (le:=λx y:Int=>x<=y) (λx y _ _ h1 h2=>by omega) ha (hb.imp λh=>by omega) hp
variable {b c:Nat} {X:CoT}
theorem z0aa (hX12:X.l.length<=12) [hf:Fo l (coP b) c X r] (hs:Sat w l):Ret P F.a198 #[.pointer (some ⟨c,0,none⟩)] w λvs w'=>∃ x:Sl,vs=[x.v]/\Sat w' (slc T.a14 1 x ((X.l.map (·.pid)).flatMap Go.Dec.encI)::coP b c X::r) :=
 zsk _ <| by
  delta z08g AO Ab Ao Ap
  obtain ⟨m,hp,hX,hs⟩:=z67 (hs.perm hf.perm)
  refine zf ?_
  refine z8 hs ?_
  have hsort:Ret P F.a210 #[.map (some m.pids)] w λvs w'=>∃ (x:Sl) (xs:List Int),vs=[x.v]/\xs.Perm ((z11 m.rs).map Prod.fst)/\xs.Pairwise (· <= ·)/\Sat w' (slc T.a14 1 x (xs.flatMap Go.Dec.encI)::z03 ekI evF m.pids (z11 m.rs)::pt c (.cells (coC b X m).toArray T.a59)::z03 ekS evF m.ids (z1l m.rs)::z03 ekI evSl m.owed (z0c m.rs)::HP.all (m.rs.map z2u)::r) :=
   zsw _ <| by
    delta z08s AO Ab
    have hk:Ret P F.a70 #[.map (some m.pids)] w λvs w'=>∃ B:Nat,vs=[.func (.func F.a71) #[] #[.pointer (some ⟨B,0,none⟩)]]/\Sat w' (pt B (.cells #[.map (some m.pids)] T.a22)::z03 ekI evF m.pids (z11 m.rs)::pt c (.cells (coC b X m).toArray T.a59)::z03 ekS evF m.ids (z1l m.rs)::z03 ekI evSl m.owed (z0c m.rs)::HP.all (m.rs.map z2u)::r) :=
     zz9 _ <| by
      delta z0fd Ab Af Ag
      refine zr hs λB w' hs=>?_
      exact ⟨rfl,B,rfl,hs.sub⟩
    refine zb hk λ_ w' hs=>?_
    obtain ⟨B,rfl,hs⟩:=hs
    refine zd ?_
    refine zb (z01z B m.pids (z11 m.rs) T.a22 (by
     have:=hp.length_eq
     rw [List.length_map] at this
     unfold z11
     rw [List.length_map];omega) hs) λ_ w' hs=>?_
    obtain ⟨x,xs,rfl,h1,h2,hs⟩:=hs
    refine zd ?_
    exact ⟨rfl,x,xs,rfl,h1,h2,hs⟩
  refine zb hsort λ_ w' hs=>?_
  obtain ⟨x,xs,rfl,h1,h2,hs⟩:=hs
  refine zd ?_
  have e:xs=X.l.map (·.pid):=zx1 (h1.trans (by
   have:=hp.map (·.pid)
   rw [List.map_map] at this
   unfold z11
   rw [List.map_map]
   exact this)) h2 (by rw [List.pairwise_map];exact hX.pids)
  rw [e] at hs
  refine ⟨rfl,x,rfl,?_⟩
  have h3:Sat w' (coP b c X::slc T.a14 1 x ((X.l.map (·.pid)).flatMap Go.Dec.encI)::r):=z4g m hp hX hs
  exact h3.sub
end
def z4z (m:MarkT):List Value:=[.int .i64 m.pid,.int .i64 m.epoch,.int .i64 m.part,.bool m.commit]
instance:EncA z4z [.int .i64,.int .i64,.int .i64,.bool] (λm=>(m.pid,m.epoch,m.part,m.commit,())):=⟨λ_=>rfl⟩
instance:EncN z4z 4:=⟨λ_=>rfl,by decide,by simp [z4z,Value.oneCell']⟩
section
variable {w:World} {l r r1 r2 r3 r4 l':List HP} {b c q:Nat} {x z:Sl} {n:RowT} {X:CoT} {M:LedA} {D:DiskA} {Q:Post} {S:World->Prop}
theorem z09g {m:CoM} (hX:OkT X) (rr:RowT) (k:OkRow X rr) (hq:Sat w (pt q (.cells (rowC x rr).toArray T.a62)::slc T.a13 1 x (rr.parts.flatMap encI)::pt c (.cells (coC b X m).toArray T.a59)::l)) :
  Ret P F.a195 #[.pointer (some ⟨c,0,none⟩),.pointer (some ⟨q,0,none⟩)] w λvs w'=>∃ (a:Nat) (z:Sl),vs=[.pointer (some ⟨a,0,none⟩)]/\Sat w' (pt a (.cells (rowC z (z6h X rr)).toArray T.a62)::slc T.a13 1 z ((z6h X rr).parts.flatMap encI)::pt q (.cells (rowC x rr).toArray T.a62)::slc T.a13 1 x (rr.parts.flatMap encI)::pt c (.cells (coC b X m).toArray T.a59)::l) :=
 zsh _ _ <| by
  delta z08e AC AE AO AQ AR AS Aa Ab Ac Ad Ah Ai Aj Ao Av Az B2
  have hkp:=z56 hX k
  have hXp:=hX.parts
  have hXe:=hX.epochs
  have hke:=k.epoch
  refine zb (ze2 (q:=q) (x:=x) (n:=rr) (by omega) hq) λ_ w' hs=>?_
  obtain ⟨a,z,rfl,hs⟩:=hs
  refine zd ?_
  refine zf ?_
  refine z8 hs ?_
  refine wp_lt ?_
  refine zj (λv w'=>Sat w' (pt a (.cells (rowC z { rr with fate:=z9n rr }).toArray T.a62)::pt q (.cells (rowC x rr).toArray T.a62)::slc T.a13 1 x (rr.parts.flatMap encI)::pt c (.cells (coC b X m).toArray T.a59)::l)) ?_ ?_
  ·unfold z9n
   by_cases h2:rr.state=2
   ·refine zw (by simpa using h2) ?_
    refine zf ?_
    refine zy hs λw' hs=>?_
    rw [if_pos h2]
    exact zg hs.sub
   ·refine z07 (by simpa using h2) ?_
    rw [if_neg h2]
    refine zf ?_
    refine z8 hs ?_
    refine z04 ?_
    refine z8 hs ?_
    refine wp_lt ?_
    refine zj (λv w'=>Sat w' (pt a (.cells (rowC z { rr with fate:=if rr.state=3/\rr.own=true then 2 else 3 }).toArray T.a62)::pt q (.cells (rowC x rr).toArray T.a62)::slc T.a13 1 x (rr.parts.flatMap encI)::pt c (.cells (coC b X m).toArray T.a59)::l)) ?_ (by rintro _ w2 hs;refine zh ?_;exact zg hs)
    by_cases h3:rr.state=3/\rr.own=true
    ·refine zw (by simp [h3.1,h3.2]) ?_
     refine zf ?_
     refine zy hs λw' hs=>?_
     rw [if_pos h3]
     exact zg hs.sub
    ·refine z07 (by
      cases ho:rr.own
      ·simp
      ·have:¬ rr.state=3:=λh=>h3 ⟨h,ho⟩
       simp [this]) ?_
     refine zf ?_
     refine zy hs λw' hs=>?_
     rw [if_neg h3]
     exact zg hs.sub
  clear hs hq
  rintro _ w hs
  refine zh ?_
  refine zf ?_
  refine zy hs λw' hs=>?_
  refine zf ?_
  refine zy hs λw' hs=>?_
  refine zf ?_
  refine zy hs λw' hs=>?_
  refine zf ?_
  refine zy hs λw' hs=>?_
  refine zt hs λw' hs=>?_
  refine zf ?_
  refine z8 hs ?_
  refine zf ?_
  refine z8 hs ?_
  refine ze ?_
  unfold z6h
  by_cases he:rr.epoch>=X.epochs
  ·refine zw (decide_eq_true he) ?_
   refine zf ?_
   refine zy hs λw' hs=>?_
   rw [if_pos he]
   have hs:Sat w' (slc T.a13 1 ⟨none,0,0⟩ (([]:List Int).flatMap encI)::_):=hs.slc_nil
   exact ⟨rfl,a,⟨none,0,0⟩,rfl,hs.pick [1,0]⟩
  rw [if_neg he]
  refine z07 (decide_eq_false he) ?_
  refine zf ?_
  refine z8 hs ?_
  refine zf ?_
  rw [w64 (by show -9223372036854775808<=rr.epoch+1;omega) (by show rr.epoch+1<9223372036854775808;omega)]
  refine zy hs λw' hs=>?_
  refine zf ?_
  refine zy hs λw' hs=>?_
  refine zf ?_
  refine z8 hs ?_
  by_cases hn:rr.next=true
  ·rw [if_pos hn]
   refine zj (λv w'=>∃ z2:Sl,Sat w' (pt a (.cells (rowC z2 ⟨rr.id,rr.pid,rr.epoch+1,rr.who,4,z24 X.parts,0,rr.limit,z9n rr,false,false,z24 X.parts⟩).toArray T.a62)::slc T.a13 1 z2 ((z24 X.parts).flatMap encI)::pt q (.cells (rowC x rr).toArray T.a62)::slc T.a13 1 x (rr.parts.flatMap encI)::pt c (.cells (coC b X m).toArray T.a59)::l)) ?_ ?_
   ·refine zw hn ?_
    refine zf ?_
    refine zy hs λw' hs=>?_
    refine zb (zpw (b:=b) (c:=c) (X:=X) (m:=m) hX.parts hs) λ_ w' hs=>?_
    obtain ⟨z2,rfl,hs⟩:=hs
    refine zd ?_
    refine zf ?_
    refine zy hs λw' hs=>?_
    exact zg ⟨z2,hs.sub⟩
   ·rintro _ w2 ⟨z2,hs⟩
    refine zh ?_
    exact ⟨rfl,a,z2,rfl,hs⟩
  ·rw [if_neg hn]
   refine zj (λv w'=>Sat w' (pt a (.cells (rowC ⟨none,0,0⟩ ⟨rr.id,rr.pid,rr.epoch+1,rr.who,0,[],0,rr.limit,z9n rr,false,false,[]⟩).toArray T.a62)::pt q (.cells (rowC x rr).toArray T.a62)::slc T.a13 1 x (rr.parts.flatMap encI)::pt c (.cells (coC b X m).toArray T.a59)::l)) ?_ ?_
   ·refine z07 (by simpa using hn) ?_
    exact zg hs
   ·rintro _ w2 hs
    refine zh ?_
    have hs:Sat w2 (slc T.a13 1 ⟨none,0,0⟩ (([]:List Int).flatMap encI)::_):=hs.slc_nil
    exact ⟨rfl,a,⟨none,0,0⟩,rfl,hs.pick [1,0]⟩
def z7j (t:RowM):Sl:=if z1a t.r=true then t.y else ⟨none,0,0⟩
theorem z04n {t:RowM} {RS:List RowM} (hnd:(((t::RS).map (·.r)).map (·.pid)).Nodup) {v:Sl} (h:(t.r.pid,v) ∈ z0c (t::RS)):z1a t.r=true/\v=t.y:=by
 obtain ⟨u,hu,e⟩:=List.mem_map.1 h;have h1:=List.mem_filter.1 hu;simp only [Prod.mk.injEq] at e
 rcases List.mem_cons.1 h1.1 with rfl|h2
 ·exact ⟨h1.2,e.2.symm⟩
 ·rw [List.map_cons,List.map_cons,List.nodup_cons] at hnd;exact absurd (by rw [<- e.1];exact List.mem_map.2 ⟨u.r,List.mem_map_of_mem h2,rfl⟩) hnd.1
theorem zq6 {m:CoM} {t:RowM} {RS:List RowM} {g:Prop} {f:Sl->Prog} (hnd:(((t::RS).map (·.r)).map (·.pid)).Nodup) (hs:Sat w (coF b c X m t RS l)) (h:(f (z7j t)).wp P S w Q) :
  (Prog.read g (Instr.lookup T.a23 (.map (some m.owed)) (.int .i64 t.r.pid) false) sL (u1 f)).wp P S w Q:=by
 refine z5p (k:=t.r.pid) (ev:=evSl) (dv:=λv=>v) hs (λv hv=>?_) λhv=>?_
 ·obtain ⟨h1,rfl⟩:=z04n hnd hv;have e:z7j t=t.y:=if_pos h1;rw [<- e];exact h
 ·have hno:¬ z1a t.r=true:=λho=>hv t.y (by unfold z0c;rw [List.filter_cons_of_pos (by exact ho),List.map_cons];exact List.mem_cons_self ..);have e:z7j t=⟨none,0,0⟩:=if_neg hno;rw [e] at h;exact h
theorem zwl {m:CoM} {t:RowM} {RS:List RowM} (ho:¬ z1a t.r=true->t.r.owed=[]):FocR (coF b c X m t RS l) (z7j t) 1 (t.r.owed.flatMap encI):=by
 unfold z7j
 by_cases h:z1a t.r=true
 ·rw [if_pos h]
  infer_instance
 ·rw [if_neg h,ho h];exact FocR.nil' 1
theorem z06k {t:RowM} {RS:List RowM} (hX:OkT X) (hpr:((t::RS).map (·.r)).Perm X.l):(((t::RS).map (·.r)).map (·.pid)).Nodup:=(hpr.map (·.pid)).symm.nodup (zdt hX)
theorem zgp:∀ {xs:List Int} {i:Nat} (hi:i<xs.length),xs.Pairwise (· < ·)->xs.filter (λp=>!decide (p=xs[i]))=xs.take i++xs.drop (i+1)
 | x::xs,0,hi,h=>by
  rw [List.pairwise_cons] at h;rw [List.filter_cons_of_neg (by simp)];show xs.filter _=xs
  exact List.filter_eq_self.2 λy hy=>by have:=h.1 y hy;simp;omega
 | x::xs,i+1,hi,h=>by
  rw [List.pairwise_cons] at h
  have hil:i<xs.length:=by simpa using hi
  have hx:=h.1 xs[i] (List.getElem_mem hil);rw [List.filter_cons_of_pos (by simp;omega)];show x::xs.filter (λp=>!decide (p=xs[i]))=x::(xs.take i++xs.drop (i+1));rw [zgp hil h.2]
set_option maxHeartbeats 4000000 in
theorem z008 (pid epoch part now:Int) (hX:OkT X)
  [hf:Fo l (coP b) c X r1] [hf1:Fo r1 leP b M r2] [hf2:Fo r2 dk M.1.L.d D r] (h:Cpl M.1.L.pre M.1.L.l D) (hn:M.2.l.length<=100000000) (hs:Sat w l) :
  Ret P F.a187 #[.pointer (some ⟨c,0,none⟩),.int .i64 pid,.int .i64 epoch,.int .i64 part,.int .i64 now] w λvs w'=>∃ (e:Int) (X':CoT) (M':LedA) (D':DiskA),zd5 X M D (z3t X pid epoch part now).2 now e X' M' D'/\vs=zca (z3t X pid epoch part now).1 e/\Sat w' (coP b c X'::leP b M'::dk M.1.L.d D'::r) :=
 zh9 _ pid epoch part now <| by
  have hact:=zor hX pid epoch part now
  delta zxu AA AC AE AO AP AR Aa Ab Ac Ad Ak Al Am Ao Ap Aq Av Az B2 BQ Bb
  have hs:=hs.perm (hf.perm.trans (.cons _ (hf1.perm.trans (.cons _ hf2.perm))))
  clear hf hf1 hf2
  refine wp_lt ?_
  refine z06 ?_ (by simp)
  refine zb (z6z now hs) λ_ w' hs=>?_
  obtain ⟨rfl,hs⟩:=hs
  refine zd ?_
  refine wp_lt ?_
  cases ht:z1h now with
  | false =>
   refine zw rfl ?_
   have e:z3t X pid epoch part now=(2,.no):=by unfold z3t;rw [if_pos ht]
   rw [e]
   exact ⟨rfl,0,X,M,D,⟨rfl,rfl,rfl,rfl⟩,rfl,hs⟩
  | true =>
  refine z07 rfl ?_
  obtain ⟨m,hp,hX2,hs⟩:=z67 hs
  refine zf ?_
  refine z8 hs ?_
  refine zau hp hX hs (λt RS hpm hpr hpf htX htp hs=>?_) λhpf=>?_
  rotate_left
  ·refine zw rfl ?_
   have e:z3t X pid epoch part now=(3,.no):=by unfold z3t;rw [if_neg (by rw [ht];simp),hpf]
   rw [e]
   exact ⟨rfl,0,X,M,D,⟨rfl,rfl,rfl,rfl⟩,rfl,z4g m hp hX hs⟩
  refine z07 rfl ?_
  subst htp
  have k:=hX.row _ htX
  have hkp:=z56 hX k
  have hXp:=hX.parts
  have hol:t.r.owed.length<=t.r.parts.length:=k.owed.length_le
  have hnd:=z06k hX hpr
  have hback:∀ {w:World},Sat w (coF b c X m t RS (leP b M::dk M.1.L.d D::r))->Sat w (coP b c X::leP b M::dk M.1.L.d D::r):=λ{w} hs=>z3c (t:=t) (m:=m) hpr hX hs
  have emark:z3t X t.r.pid epoch part now=if epoch≠t.r.epoch\/t.r.owed.contains part=false then (0,.no) else
    if t.r.owed.length=1 then (0,.row (z6h X t.r)) else (0,.owes { t.r with owed:=t.r.owed.filter λp=>!decide (p=part) }):=by
   unfold z3t
   rw [if_neg (by rw [ht];simp),hpf]
  rw [emark] at hact ⊢
  refine zf ?_
  refine z8 hs ?_
  refine zq6 hnd hs ?_
  have hor:FocR (coF b c X m t RS (leP b M::dk M.1.L.d D::r)) (z7j t) 1 (t.r.owed.flatMap encI):=zwl (zbd k)
  have hosl:=hs.slen (z7j t) (xs:=t.r.owed) (enc:=encI)
  refine zb (z05r (z7j t) t.r.owed part (by omega) hs) λ_ w' hs=>?_
  obtain ⟨hs,hcase⟩:=hs
  rcases hcase with ⟨i,hi,hip,rfl⟩|⟨hno,rfl⟩
  rotate_left
  ·refine zd ?_
   refine wp_lt ?_
   refine zf ?_
   refine z8 hs ?_
   refine zw (by simp) ?_
   have hc:t.r.owed.contains part=false:=by simpa using hno
   rw [if_pos (.inr hc)]
   exact ⟨rfl,0,X,M,D,⟨rfl,rfl,rfl,rfl⟩,rfl,hback hs⟩
  refine zd ?_
  refine wp_lt ?_
  refine zf ?_
  refine z8 hs ?_
  have hc:t.r.owed.contains part=true:=by rw [<- hip];simp
  by_cases hep:epoch≠t.r.epoch
  ·refine zw (by simp [hep]) ?_
   rw [if_pos (.inl hep)]
   exact ⟨rfl,0,X,M,D,⟨rfl,rfl,rfl,rfl⟩,rfl,hback hs⟩
  have hep2:epoch=t.r.epoch:=by omega
  refine z07 (by simp [hep2]) ?_
  have hneg:¬ (epoch≠t.r.epoch\/t.r.owed.contains part=false):=λhh=>hh.elim hep λhh=>by rw [hc] at hh;cases hh
  rw [if_neg hneg] at hact ⊢
  have hne:t.r.owed≠[]:=λe=>by rw [e] at hi;simp at hi
  have ho:z1a t.r=true:=k.owes.1 hne
  by_cases h1:t.r.owed.length=1
  ·rw [if_pos h1] at hact ⊢
   refine zw (by rw [hosl,h1];rfl) ?_
   have hs:Sat w' (pt t.at_ (.cells (rowC t.x t.r).toArray T.a62)::slc T.a13 1 t.x (t.r.parts.flatMap encI)::pt c (.cells (coC b X m).toArray T.a59)::z03 ekS evF m.ids (z1l (t::RS))::z03 ekI evF m.pids (z11 (t::RS))::z03 ekI evSl m.owed (z0c (t::RS)) ::
     slc T.a13 1 t.y (t.r.owed.flatMap encI)::HP.all (RS.map z2u)::leP b M::dk M.1.L.d D::r):=hs.sub
   refine zb (z09g (b:=b) (c:=c) (q:=t.at_) (x:=t.x) (X:=X) (m:=m) hX t.r k hs) λ_ w' hs=>?_
   obtain ⟨a,z,rfl,hs⟩:=hs
   refine zd ?_
   have hs:Sat w' (coP b c X::leP b M::dk M.1.L.d D::pt a (.cells (rowC z (z6h X t.r)).toArray T.a62)::slc T.a13 1 z ((z6h X t.r).parts.flatMap encI)::r):=z3c (t:=t) (m:=m) hpr hX hs
   refine zb (zaq (b:=b) (c:=c) (q:=a) (z:=z) (n:=z6h X t.r) (X:=X) now hX hact (by
    rw [(zle X t.r).1,hpf]
    unfold z6h
    split
    ·exact zap (by simp [z1a])
    split
    ·rw [z8j (by rfl)]
     exact if_neg λhh=>by have hh:t.r.epoch=t.r.epoch+1:=hh.2.1;omega
    ·exact zap (by simp [z1a])) h hn hs) λ_ w' hs=>?_
   obtain ⟨e,M',D',rfl,hw,hg,hs⟩:=hs
   refine zd ?_
   refine wp_lt ?_
   refine ⟨rfl,e,_,M',D',⟨hw,rfl⟩,?_,hs⟩
   unfold zca
   by_cases he:e≠0
   ·rw [if_pos he]
   ·rw [if_neg he]
    have he:e=0:=by omega
    rw [he]
  ·rw [if_neg h1] at hact ⊢
   refine z07 (by rw [hosl];simp;omega) ?_
   refine zj (λv w'=>Sat w' (coP b c (X.put { t.r with owed:=t.r.owed.filter λp=>!decide (p=part) })::leP b M::dk M.1.L.d D::r)) ?_ ?_
   rotate_left
   ·rintro _ w2 hs
    refine zh ?_
    exact ⟨rfl,0,_,M,D,⟨rfl,rfl,rfl,rfl⟩,rfl,hs⟩
   refine zt hs λw' hs=>?_
   refine zf ?_
   refine z0y hs ?_
   have hor2:FocR (coF b c X m t RS (leP b M::dk M.1.L.d D::r)) (z7j t) 1 (t.r.owed.flatMap encI):=zwl (zbd k)
   refine zb (ze1 (z7j t) t.r.owed (by omega) hs) λ_ w' hs=>?_
   obtain ⟨y,rfl,hs⟩:=hs
   refine zd ?_ (by first|trivial|(repeat (first|exact trivial|exact λ_=>z09 hs|exact λ_=>z0g hs|refine And.intro ?_ ?_)))
   have ei:IntKind.wrap .i64 ((i:Int)+1)=((i+1:Nat):Int):=by rw [w64 (by omega) (by omega)];omega
   rw [ei]
   refine zb (z02c y t.r.owed i hi (by omega) hs) λ_ w' hs=>?_
   obtain ⟨y2,rfl,hs⟩:=hs
   refine zd ?_ (by first|trivial|(repeat (first|exact trivial|exact λ_=>z09 hs|exact λ_=>z0g hs|refine And.intro ?_ ?_)))
   have hfc:t.r.owed.take i++t.r.owed.drop (i+1)=t.r.owed.filter λp=>!decide (p=part):=by
    rw [<- hip]
    exact (zgp hi (k.parts.sublist k.owed)).symm
   rw [hfc] at hs
   refine ze ?_
   have hset:(∃ v0,(z0c (t::RS)).Perm ((t.r.pid,v0)::z0c RS))\/((∀ v,(t.r.pid,v) ∉ z0c (t::RS))/\z0c RS=z0c (t::RS)):=by
    refine .inl ⟨t.y,?_⟩
    unfold z0c
    rw [List.filter_cons_of_pos (by exact ho),List.map_cons]
   refine z4x (k:=t.r.pid) hs (z0c RS) hset y2 (λw' hs=>?_)
   refine ze ?_
   refine zg ?_
   obtain ⟨n2,hn2⟩:∃ n2:RowT,n2={ t.r with owed:=t.r.owed.filter λp=>!decide (p=part) }:=⟨_,rfl⟩
   rw [<- hn2] at hact ⊢
   have e1:n2.pid=t.r.pid:=by rw [hn2]
   have hX3:OkT (X.put n2):=zi9 hX hact
   have hperm:(((⟨t.at_,t.x,y2,n2⟩:RowM)::RS).map (·.r)).Perm (X.put n2).l:=by
    have h2:=zma (n:=n2) hX.pids
    refine List.Perm.trans ?_ h2.symm
    refine .cons _ ?_
    have h3:=hpr.filter λr=>!decide (r.pid=n2.pid)
    rw [List.map_cons,zlk (by simpa using hnd) e1.symm] at h3
    exact h3
   have eM:(t.r.pid,y2)::z0c RS=z0c ((⟨t.at_,t.x,y2,n2⟩:RowM)::RS):=by
    have ho2:z1a n2=true:=by rw [hn2];exact ho
    unfold z0c
    rw [List.filter_cons_of_pos (by exact ho2),List.map_cons,e1]
   rw [eM] at hs
   have e3:z1l (t::RS)=z1l ((⟨t.at_,t.x,y2,n2⟩:RowM)::RS):=by rw [hn2];rfl
   have e4:z11 (t::RS)=z11 ((⟨t.at_,t.x,y2,n2⟩:RowM)::RS):=by rw [hn2];rfl
   rw [e3,e4] at hs
   have hrow:rowC t.x t.r=rowC t.x n2:=by rw [hn2]
   have hpar:t.r.parts=n2.parts:=by rw [hn2]
   have how:t.r.owed.filter (λp=>!decide (p=part))=n2.owed:=by rw [hn2]
   rw [how] at hs
   have hs:Sat w' (pt c (.cells (coC b (X.put n2) m).toArray T.a59)::z03 ekS evF m.ids (z1l ((⟨t.at_,t.x,y2,n2⟩:RowM)::RS))::z03 ekI evF m.pids (z11 ((⟨t.at_,t.x,y2,n2⟩:RowM)::RS))::z03 ekI evSl m.owed (z0c ((⟨t.at_,t.x,y2,n2⟩:RowM)::RS)) ::
     pt t.at_ (.cells (rowC t.x n2).toArray T.a62)::slc T.a13 1 t.x (n2.parts.flatMap encI)::slc T.a13 1 y2 (n2.owed.flatMap encI)::HP.all (RS.map z2u)::leP b M::dk M.1.L.d D::r):=by
    have ec:coC b (X.put n2) m=coC b X m:=rfl
    rw [ec,<- hrow,<- hpar]
    exact hs.sub
   exact z3c (t:=⟨t.at_,t.x,y2,n2⟩) (m:=m) hperm hX3 hs
theorem zm2 (hX:OkT X):∀ l:List RowT,(∀ r ∈ l,OkRow X r)->(z37 l).length<=256*l.length
 | [],_=>Nat.le_refl _
 | r::l,h=>by
  have h1:=zm2 hX l λx hx=>h x (List.mem_cons_of_mem _ hx);have k:=h r (List.mem_cons_self ..);have h2:=z56 hX k;have h3:=k.owed.length_le;have h4:=hX.parts;unfold z37 at *;rw [List.flatMap_cons,List.length_append,List.length_map,List.length_cons];omega
def mkT (r:RowT) (p:Int):MarkT:=⟨r.pid,r.epoch,p,decide (r.state=2)⟩
theorem zwe (l:List RowT) (r:RowT):z37 (l++[r])=z37 l++r.owed.map (mkT r):=by unfold z37;rw [List.flatMap_append,List.flatMap_cons,List.flatMap_nil,List.append_nil];rfl
set_option maxHeartbeats 2000000 in
theorem znx (hX12:X.l.length<=12) [hf:Fo l (coP b) c X r] (hs:Sat w l):Ret P F.a188 #[.pointer (some ⟨c,0,none⟩)] w λvs w'=>∃ z:Sl,vs=[z.v]/\Sat w' (slc T.a60 4 z ((z37 X.l).flatMap z4z)::coP b c X::r) :=
 zha _ <| by
  delta zxv AC AE AO AR Aa Ab Ac Ad Ak Al Ao Ap Aq Av Bc Bf Br
  have hs:=hs.perm hf.perm
  clear hf
  refine z06 ?_ (by simp)
  refine zb (z0aa (b:=b) (c:=c) hX12 hs) λ_ w' hs=>?_
  obtain ⟨x,rfl,hs⟩:=hs
  refine zd ?_
  have hxl:=hs.slen x (xs:=X.l.map λr:RowT=>r.pid) (enc:=encI)
  rw [List.length_map] at hxl
  refine zj (λv w'=>∃ z:Sl,v=(z,())/\Sat w' (slc T.a60 4 z ((z37 X.l).flatMap z4z)::coP b c X::r)) ?_ ?_
  rotate_left
  ·rintro _ w2 ⟨z,rfl,hs⟩
   refine zh ?_
   exact ⟨rfl,z,rfl,hs⟩
  refine z0a (λq v w=>∃ (i:Nat) (z:Sl),v=(z,(i:Int),())/\i<=X.l.length/\X.l.length-i=q/\Sat w (slc T.a60 4 z ((z37 (X.l.take i)).flatMap z4z)::slc T.a14 1 x ((X.l.map (·.pid)).flatMap encI)::coP b c X::r)) X.l.length ⟨0,⟨none,0,0⟩,rfl,by omega,rfl,hs.slc_nil⟩ ?_
  clear hs
  rintro q _ w ⟨i,z,rfl,hi,hq,hs⟩
  refine z23 _ _ ?_
  refine zi (λhc=>?_) λhc=>?_
  rotate_left
  ·rw [List.take_of_length_le (by omega)] at hs
   exact zm (zg ⟨z,rfl,hs.sub⟩)
  have hil:i<X.l.length:=by omega
  have hil2:i<(X.l.map (·.pid)).length:=by rw [List.length_map];exact hil
  have htk:X.l.take (i+1)=X.l.take i++[X.l[i]]:=by rw [List.take_add_one,List.getElem?_eq_getElem hil,Option.toList_some]
  refine zj (λv w'=>∃ z:Sl,v=(z,())/\Sat w' (slc T.a60 4 z ((z37 (X.l.take (i+1))).flatMap z4z)::slc T.a14 1 x ((X.l.map (·.pid)).flatMap encI)::coP b c X::r)) ?_ ?_
  rotate_left
  ·rintro _ w2 ⟨z2,rfl,hs⟩
   refine zh ?_
   refine z22 (us':=[z2.v,.int .i64 ((i+1:Nat):Int)]) (by (try simp (disch:=omega) only [w64]);first|rfl|(congr;omega)) ?_
   exact z0x (X.l.length-(i+1)) ⟨i+1,z2,rfl,by omega,rfl,hs⟩
  refine z1g hs (xs:=X.l.map λr:RowT=>r.pid) (enc:=encI) i hil2 ?_
  rw [List.getElem_map]
  refine wp_lt ?_
  obtain ⟨m,hp,hX,hs⟩:=z67 (hs.pick [2])
  have hml:=zm2 hX (X.l.take i) λr hr=>hX.row r (List.mem_of_mem_take hr)
  rw [List.length_take] at hml
  refine zf ?_
  refine z8 hs ?_
  refine zau hp hX hs (λt RS hpm hpr hpf htX htp hs=>?_) λhpf=>?_
  rotate_left
  ·exact absurd rfl (z9y.1 hpf _ (List.getElem_mem hil))
  have etr:t.r=X.l[i]:=z9f hX.pids htX (List.getElem_mem hil) htp
  rw [htk,zwe,<- etr]
  have k:=hX.row _ htX
  have hkp:=z56 hX k
  have hXp:=hX.parts
  have hol:t.r.owed.length<=t.r.parts.length:=k.owed.length_le
  have hnd:=z06k hX hpr
  refine zf ?_
  refine z8 hs ?_
  refine zq6 hnd hs ?_
  have hor:∀ l,FocR (coF b c X m t RS l) (z7j t) 1 (t.r.owed.flatMap encI):=λl=>zwl (zbd k)
  have hosl:=(hor _).rd w hs |>.len (enc:=encI) (xs:=t.r.owed) (λ_=>rfl) (by decide)
  refine zj (λv w'=>∃ z:Sl,v=(z,())/\Sat w' (slc T.a60 4 z ((z37 (X.l.take i)++t.r.owed.map (mkT t.r)).flatMap z4z)::coF b c X m t RS (slc T.a14 1 x ((X.l.map (·.pid)).flatMap encI)::r))) ?_ ?_
  rotate_left
  ·rintro _ w2 ⟨z2,rfl,hs⟩
   refine zh ?_
   refine zg ⟨z2,rfl,?_⟩
   have h3:Sat w2 (coP b c X::slc T.a60 4 z2 ((z37 (X.l.take i)++t.r.owed.map (mkT t.r)).flatMap z4z)::slc T.a14 1 x ((X.l.map (·.pid)).flatMap encI)::r):=z3c (t:=t) (m:=m) hpr hX hs
   exact h3.pick [1,1,0]
  refine z0a (λq v w=>∃ (j:Nat) (z:Sl),v=(z,(j:Int),())/\j<=t.r.owed.length/\t.r.owed.length-j=q/\Sat w (slc T.a60 4 z ((z37 (X.l.take i)++(t.r.owed.take j).map (mkT t.r)).flatMap z4z)::coF b c X m t RS (slc T.a14 1 x ((X.l.map (·.pid)).flatMap encI)::r))) t.r.owed.length ⟨0,z,rfl,by omega,rfl,?_⟩ ?_
  ·simp only [List.take_zero,List.map_nil,List.append_nil]
   exact hs.sub
  clear hs
  rintro q2 _ w ⟨j,z,rfl,hj,hq2,hs⟩
  refine z23 _ _ ?_
  refine zi (λhc=>?_) λhc=>?_
  rotate_left
  ·have e:t.r.owed.take j=t.r.owed:=List.take_of_length_le (by omega)
   rw [e] at hs
   exact zm (zg ⟨z,rfl,hs⟩)
  have hjl:j<t.r.owed.length:=by omega
  have hor2:FocR (slc T.a60 4 z ((z37 (X.l.take i)++(t.r.owed.take j).map (mkT t.r)).flatMap z4z)::coF b c X m t RS (slc T.a14 1 x ((X.l.map (·.pid)).flatMap encI)::r)) (z7j t) 1 (t.r.owed.flatMap encI):=⟨λw hs=>(hor _).rd w hs.tail⟩
  refine z1g (x:=z7j t) (hf:=hor2) hs (xs:=t.r.owed) (enc:=encI) j hjl ?_
  refine wp_lt ?_
  refine zj (λv w'=>∃ z:Sl,v=(z,())/\Sat w' (slc T.a60 4 z ((z37 (X.l.take i)++(t.r.owed.take (j+1)).map (mkT t.r)).flatMap z4z)::coF b c X m t RS (slc T.a14 1 x ((X.l.map (·.pid)).flatMap encI)::r))) ?_ ?_
  rotate_left
  ·rintro _ w2 ⟨z2,rfl,hs⟩
   refine zh ?_
   refine z22 (us':=[z2.v,.int .i64 ((j+1:Nat):Int)]) (by (try simp (disch:=omega) only [w64]);first|rfl|(congr;omega)) ?_
   exact z0x (t.r.owed.length-(j+1)) ⟨j+1,z2,rfl,by omega,rfl,hs⟩
  refine zt hs λw' hs=>?_
  refine zf ?_
  refine z8 hs ?_
  refine zf ?_
  refine z8 hs ?_
  refine z66 hs (xs:=z37 (X.l.take i)++(t.r.owed.take j).map (mkT t.r)) (enc:=z4z) (mkT t.r t.r.owed[j]) (λz2 w' hs=>?_) rfl (by rw [List.length_append,List.length_map,List.length_take];omega)
  refine ze ?_
  refine zg ⟨z2,rfl,?_⟩
  have e:z37 (X.l.take i)++(t.r.owed.take j).map (mkT t.r)++[mkT t.r t.r.owed[j]]=z37 (X.l.take i)++(t.r.owed.take (j+1)).map (mkT t.r):=by
   rw [List.take_add_one,List.getElem?_eq_getElem hjl,Option.toList_some,List.map_append,List.append_assoc]
   rfl
  rw [e] at hs
  exact hs
end
end Go.Dec
