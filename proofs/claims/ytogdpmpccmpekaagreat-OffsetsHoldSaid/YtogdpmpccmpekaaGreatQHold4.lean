/- What the claim of this folder leans on: our own texts, joined, without what it does not use. -/
import Derived.Test.YtogdpmpccmpekaaGreatQHold3
set_option linter.unusedVariables false
set_option linter.unusedSimpArgs false
namespace Go.Dec
def z09l (d:Option Addr) (prefix_:ByteArray) (c_0 c_1:Int) (c_2:Int):Prog :=
As T.a35 (Bq c_0 c_1 c_2) λa0=>
Ab T.a13 a0 2 λn1=>
Bc (decide (n1<1)=false) T.a13 a0 2 λn2=>
Ac (decide (n1<1) || decide (n2>1024)) (
Ac (Option.isNone d) (
Ad 0 [Al none,Ak 1])<|
Ad 0 [Al none,Ak 2])<|
Az (ld T.a51 (Addr.add a0 0)) λn3 n4=>
Bv F.a133 [Al d,.string prefix_,Ar n3 n4] λp5 n6=>
Ai n6 λn7=>
Ac (n7 != 0) (
Ai n7 λn8=>
Ad 0 [Al none,Ak n8])<|
Ab T.a13 a0 2 λn9=>
As T.a36 (.agg #[Al p5,Al d,.string prefix_,Ak n9,Al none,Al none]) λa10=>
Av 1 (
AD F.a93 [A8 a10] λs11=>
AC F.a30 [Al d,.string s11] λn12=>
Ac (decide (n12>0)) (
Ad 1 [.bool true])<|
AD F.a93 [A8 a10] λs13=>
Aw F.a94 [Al d,.string s13] λb14=>
Ad 1 [.bool b14]) λb15=>
AK 1 (
Ac b15 (
AD F.a93 [A8 a10] λs16=>
AC F.a29 [Al d,.string s16] λn17=>
Ai n17 λn18=>
Ac (n18 != 0) (
Ai n18 λn19=>
Ad 0 [Al none,Ak n19])<|
Ad 1 [])<|
Ad 1 [])<|
AC F.a89 [A8 a10] λn20=>
Ai n20 λn21=>
Aq F.a114 [Al p5] λl22=>
AK 1 (
AR 2 (0,()) λn23=>
Ac (decide (n23<(Ag l22))) (
.ex [.adr] (c1 λa24=>0<=n23/\n23<(Ag l22)/\l22.a=some a24) (u1 λa25=>
AX T.a0 a25 (Int.toNat n23*7) λn26 n27 n28 n29 n30 n31 l32=>
AI T.a0 λa33=>
AJ T.a0 a33 (AM n26 n27 n28 n29 n30 n31 l32)<|
Ab T.a14 a33 0 λn34=>
AK 3 (
Ac (decide (n34>=n21)) (
AL T.a0 a33 λn35 n36 n37 n38 n39 n40 l41=>
Am F.a92 [A8 a10,AM n35 n36 n37 n38 n39 n40 l41]<|
Ad 3 [])<|
Ad 3 [])<|
Ad 2 [Ak (Ao (n23+1))]))<|
Ad 1 [])<|
Ad 0 [A8 a10,Ak 0]
theorem zv3 (d:Option Addr) (prefix_:ByteArray) (c_0 c_1 c_2:Int):FnS (z09l d prefix_ c_0 c_1 c_2) F.a80 #[.pointer d,.string prefix_,.agg #[.int .i64 c_0,.int .i64 c_1,.int .i64 c_2]]:=dV ⟨[(18741891978888913616950,[]),(1083197534374707740536733770,[])],[(0,[])],[(9,[(54,.one .bool)])],[(0,[(67,.one (.int .i64))])]⟩ Go.Proofs.Tryz.func57 (by kernel_rfl)
def z09o (p:Option Addr):Prog :=
Ac (Option.isNone p) (
Ad 0 [Ak 0])<|
Aa p λa1=>
AH T.a33 (Addr.add a1 0) 0 λp2=>
AC F.a116 [Al p2] λn3=>
Ai n3 λn4=>
Ad 0 [Ak n4]
theorem zv6 (p:Option Addr):FnS (z09o p) F.a83 #[.pointer p]:=dV ⟨[],[],[],[]⟩ Go.Proofs.Tryz.func58 (by kernel_rfl)
def zeh  : Prog :=
.act (Instr.box T.a4 (.agg #[.int .i64 0,.slice none 0 0])) sA (u1 λa0 =>
.done 0 [.pointer (some a0)])
theorem zee :FnS (zeh ) F.a3 #[]:=dV ⟨[],[],[],[]⟩ Go.Proofs.Tryz.func59 (by kernel_rfl)
def z09p (p:Option Addr) (pid epoch:Int) (commit:Bool) (time:Int):Prog :=
Ac (Option.isNone p) (
Ad 0 [Ak 0,.bool false,Ak 1])<|
Bs F.a101 [Ak pid,Ak epoch,.bool commit,Ak time] λn0 n1 n2 n3 n4 n5 l6=>
BD F.a90 [Al p,AM n0 n1 n2 n3 n4 n5 l6] λn7 b8 n9=>
Ai n7 λn10=>
Ay b8 λb11=>
Ai n9 λn12=>
Ad 0 [Ak n10,.bool b11,Ak n12]
theorem zv7 (p:Option Addr) (pid epoch:Int) (commit:Bool) (time:Int):FnS (z09p p pid epoch commit time) F.a84 #[.pointer p,.int .i64 pid,.int .i64 epoch,.bool commit,.int .i64 time]:=dV ⟨[],[],[],[]⟩ Go.Proofs.Tryz.func61 (by kernel_rfl)
def z09m (p:Option Addr) (b_0 b_1 b_2 b_3 b_4 b_5:Int) (b_6:Sl):Prog :=
As T.a0 (AM b_0 b_1 b_2 b_3 b_4 b_5 b_6) λa0=>
Au (Option.isNone p) (
Ad 0 [Ak 0,.bool false,Ak 1])<|
AL T.a0 a0 λn2 n3 n4 n5 n6 n7 l8=>
Aw F.a95 [AM n2 n3 n4 n5 n6 n7 l8] λb9=>
Au b9 (
Ad 0 [Ak 0,.bool false,Ak 2])<|
AL T.a0 a0 λn11 n12 n13 n14 n15 n16 l17=>
BD F.a90 [Al p,AM n11 n12 n13 n14 n15 n16 l17] λn18 b19 n20=>
Ai n18 λn21=>
Ay b19 λb22=>
Ai n20 λn23=>
Ad 0 [Ak n21,.bool b22,Ak n23]
theorem zv4 (p:Option Addr) (b_0 b_1 b_2 b_3 b_4 b_5:Int) (b_6:Sl):FnS (z09m p b_0 b_1 b_2 b_3 b_4 b_5 b_6) F.a81 #[.pointer p,.agg #[.int .i64 b_0,.int .i64 b_1,.int .i64 b_2,.int .i64 b_3,.int .i64 b_4,.int .i64 b_5,.slice b_6.a b_6.len b_6.cap]]:=dV ⟨[],[],[],[]⟩ Go.Proofs.Tryz.func63 (by kernel_rfl)
def zf3 (t:Option Addr):Prog :=
Ac (Option.isNone t) (
Ad 0 [.slice none 0 0])<|
Aa t λa1=>
Af T.a46 a1 1 λl2=>
Aq F.a142 [l2.v] λl3=>
Ad 0 [l3.v]
theorem zxz (t:Option Addr):FnS (zf3 t) F.a4 #[.pointer t]:=dV ⟨[],[],[],[]⟩ Go.Proofs.Tryz.func64 (by kernel_rfl)
def z09n (p:Option Addr):Prog :=
Ac (Option.isNone p) (
Ad 0 [.slice none 0 0])<|
Aa p λa1=>
AH T.a33 (Addr.add a1 0) 0 λp2=>
Aq F.a114 [Al p2] λl3=>
Ad 0 [l3.v]
theorem zv5 (p:Option Addr):FnS (z09n p) F.a82 #[.pointer p]:=dV ⟨[],[],[],[]⟩ Go.Proofs.Tryz.func66 (by kernel_rfl)
def zf5 (t:Option Addr) (key:ByteArray):Prog :=
AI T.a37 λa0=>
Ac (Option.isNone t) (
AJ T.a37 a0 (.agg #[Ak 0,.string (ByteArray.mk #[]),.string (ByteArray.mk #[]),.bool false,Ak 0])<|
BE T.a37 a0 λn1 s2 s3 b4 n5=>
Ad 0 [BF n1 s2 s3 b4 n5,.bool false])<|
Bg F.a7 [Al t,.string key] λn6 b7=>
Ai n6 λn8=>
Ay b7 λb9=>
Ac (not b9) (
AJ T.a37 a0 (.agg #[Ak 0,.string (ByteArray.mk #[]),.string (ByteArray.mk #[]),.bool false,Ak 0])<|
BE T.a37 a0 λn10 s11 s12 b13 n14=>
Ad 0 [BF n10 s11 s12 b13 n14,.bool false])<|
Aa t λa16=>
Af T.a46 a16 1 λl17=>
.ex [.adr] (c1 λa18=>0<=n8/\n8<(Ag l17)/\l17.a=some a18) (u1 λa19=>
BG T.a37 a19 (Int.toNat n8*5) λn20 s21 s22 b23 n24=>
AJ T.a37 a0 (BF n20 s21 s22 b23 n24)<|
BE T.a37 a0 λn25 s26 s27 b28 n29=>
Ad 0 [BF n25 s26 s27 b28 n29,.bool true])
theorem zy1 (t:Option Addr) (key:ByteArray):FnS (zf5 t key) F.a6 #[.pointer t,.string key]:=dV ⟨[],[],[],[]⟩ Go.Proofs.Tryz.func67 (by kernel_rfl)
def z09r (p:Option Addr) (offset most:Int) (committed:Bool):Prog :=
Ac (Option.isNone p) (
Ad 0 [.slice none 0 0,Ak 0,Ak 1])<|
Aa p λa1=>
AH T.a33 (Addr.add a1 0) 0 λp2=>
A9 F.a118 [Al p2,Ak offset,Ak most] λl3 n4=>
Ai n4 λn5=>
Ac (n5 != 0) (
Ai n5 λn6=>
Ad 0 [.slice none 0 0,Ak 0,Ak n6])<|
Ai offset λn7=>
.bind 1 [.one .slc,.one (.int .i64)] (
.loop 2 [.one .slc,.one (.int .i64),.one (.int .i64)] (⟨none,0,0⟩,(n7,(0,()))) (u3 λl8 (n9 n10:Int)=>
Ac (decide (n10<(Ag l3))) (
.ex [.adr] (c1 λa11=>0<=n10/\n10<(Ag l3)/\l3.a=some a11) (u1 λa12=>
AX T.a0 a12 (Int.toNat n10*7) λn13 n14 n15 n16 n17 n18 l19=>
AI T.a0 λa20=>
AJ T.a0 a20 (AM n13 n14 n15 n16 n17 n18 l19)<|
Av 3 (
Ae<|
AV (committed=true) (ld T.a14 (Addr.add a20 0)) λn21=>
Ac committed (
AC F.a87 [Al p] λn22=>
Aj<|
Ad 3 [.bool (decide (n21>=n22))])<|
Aj<|
Ad 3 [.bool false]) λb23=>
Ac b23 (
Ad 1 [l8.v,Ak n9])<|
Av 3 (
Ae<|
AF (not committed=false) p λa25=>
.read (not committed=false) (ld T.a31 (Addr.add a25 5)) sP (u1 λp26=>
Bo (not committed=false) T.a0 a20 λn27 n28 n29 n30 n31 n32 l33=>
Ac (not committed) (
Aj<|
Ad 3 [.bool true])<|
AC F.a54 [Al p26,AM n27 n28 n29 n30 n31 n32 l33] λn34=>
Aj<|
Ad 3 [.bool (n34 == 1)])) λb35=>
AN 3 (
Ac b35 (
AL T.a0 a20 λn36 n37 n38 n39 n40 n41 l42=>
Ap (Instr.buildSlice T.a38 1 #[(0,AM n36 n37 n38 n39 n40 n41 l42)]) λl43=>
Aq F.a99 [l43.v] λl44=>
Ap (app T.a46 T.a46 T.a46 l8.v l44.v) λl45=>
Ad 3 [l45.v])<|
Ad 3 [l8.v]) λl46=>
AL T.a0 a20 λn47 n48 n49 n50 n51 n52 l53=>
AC F.a102 [AM n47 n48 n49 n50 n51 n52 l53] λn54=>
Ai n54 λn55=>
Ad 2 [l46.v,Ak n55,Ak (Ao (n10+1))]))<|
Ad 1 [l8.v,Ak n9])) (u2 λl56 (n57:Int)=>
Ai n57 λn58=>
Ad 0 [l56.v,Ak n58,Ak 0])
theorem zv9 (p:Option Addr) (offset most:Int) (committed:Bool):FnS (z09r p offset most committed) F.a86 #[.pointer p,.int .i64 offset,.int .i64 most,.bool committed]:=dV ⟨[(73196680484479534366778,[(13,.one .slc)])],[(0,[(13,.one .slc),(14,.one (.int .i64))])],[(11,[(47,.one .bool)]),(12,[(58,.one .bool)])],[(0,[(13,.one .slc),(14,.one (.int .i64)),(36,.one (.int .i64))])]⟩ Go.Proofs.Tryz.func72 (by kernel_rfl)
def zf4 (t:Option Addr) (l:Sl):Prog :=
Au (Option.isNone t) (
Ad 0 [Ak 1])<|
Aa t λa2=>
Ab T.a14 a2 0 λn3=>
Aw F.a11 [Ak n3,l.v] λb4=>
.ex [.adr] (c1 λa5=>not b4=false/\decide ((Ag l)>0)=true->0<=Ao ((Ag l)-1)/\Ao ((Ag l)-1)<(Ag l)/\l.a=some a5) (u1 λa6=>
Bc (not b4=false/\decide ((Ag l)>0)=true) T.a14 (Addr.add a6 (Int.toNat (Ao ((Ag l)-1))*5)) 0 λn7=>
Au (not b4 || decide ((Ag l)>0) && decide (n7>1099511627776)) (
Ad 0 [Ak 8])<|
AK 1 (
AR 2 (0,()) λn9=>
Ac (decide (n9<(Ag l))) (
.ex [.adr] (c1 λa10=>0<=n9/\n9<(Ag l)/\l.a=some a10) (u1 λa11=>
BG T.a37 a11 (Int.toNat n9*5) λn12 s13 s14 b15 n16=>
AI T.a37 λa17=>
AJ T.a37 a17 (BF n12 s13 s14 b15 n16)<|
BE T.a37 a17 λn18 s19 s20 b21 n22=>
Am F.a10 [Al t,BF n18 s19 s20 b21 n22]<|
Ad 2 [Ak (Ao (n9+1))]))<|
Ad 1 [])<|
Ad 0 [Ak 0])
theorem zy0 (t:Option Addr) (l:Sl):FnS (zf4 t l) F.a5 #[.pointer t,.slice l.a l.len l.cap]:=dV ⟨[],[(1,[])],[],[(1,[(35,.one (.int .i64))])]⟩ Go.Proofs.Tryz.func73 (by kernel_rfl)
def z09x (p:Option Addr):Prog :=
Aa p λa1=>
Be T.a54 (Addr.add a1 0) 2 λs2=>
.must (((ByteArray.size s2+4:Nat):Int)<=9223372036854775807) <|
Bf (s2++(ByteArray.mk #[46,116,109,112])) λs3=>
Ad 0 [.string s3]
theorem zvf (p:Option Addr):FnS (z09x p) F.a93 #[.pointer p]:=dV ⟨[],[],[],[]⟩ Go.Proofs.Tryz.func113 (by kernel_rfl)
def z09y (d:Option Addr) (name:ByteArray):Prog :=
A9 F.a28 [Al d,.string name] λl0 n1=>
Ai n1 λn2=>
Ay (n2 == 0) λb3=>
Ad 0 [.bool b3]
theorem zvg (d:Option Addr) (name:ByteArray):FnS (z09y d name) F.a94 #[.pointer d,.string name]:=dV ⟨[],[],[],[]⟩ Go.Proofs.Tryz.func114 (by kernel_rfl)
def z09t (p:Option Addr):Prog :=
Aa p λa1=>
Ab T.a13 a1 3 λn2=>
Bv F.a13 [Ak n2] λp3 n4=>
Aa p λa6=>
An T.a27 a6 4 (Al p3)<|
Bh F.a53 [] λp7=>
Aa p λa9=>
An T.a31 a9 5 (Al p7)<|
AN 1 (
Ae<|
Aa p λa11=>
Bk T.a28 (Addr.add a11 0) 1 λp12=>
AD F.a91 [Al p] λs13=>
Aj<|
A9 F.a28 [Al p12,.string s13] λl14 n15=>
Ai n15 λn16=>
Aj<|
Ad 1 [l14.v]) λl17=>
.call F.a40 [l17.v] (.tup [.one .slc,.one .bool]) (u2 λl18 b19=>
Ay b19 λb20=>
Ac (not b20) (
Ad 0 [Ak 0])<|
Bh F.a177 [l18.v] λp21=>
AQ F.a184 [Al p21] λn22=>
AD F.a183 [Al p21,Ak 262144] λs23=>
AD F.a183 [Al p21,Ak 262144] λs24=>
Ah n22 λn25=>
Bf s23 λs26=>
Bf s24 λs27=>
Av 1 (
AC F.a179 [Al p21] λn28=>
Ac (n28 != 0) (
Ad 1 [.bool true])<|
AC F.a85 [Al p] λn29=>
Ac (decide (n25>IntKind.wrap .u64 n29)) (
Ad 1 [.bool true])<|
AC F.a83 [Al p] λn30=>
Ad 1 [.bool (decide (Ao n25<n30))]) λb31=>
Ac b31 (
Ad 0 [Ak 0])<|
Ap (convert T.a54 T.a50 (.string s26)) λl32=>
Aa p λa34=>
Ab T.a13 a34 3 λn35=>
Bv F.a12 [l32.v,Ak n35] λp36 n37=>
Ai n37 λn38=>
Av 1 (
Ac (n38 != 0) (
Ad 1 [.bool true])<|
AC F.a17 [Al p36] λn39=>
Ad 1 [.bool (decide (n39>Ao n25))]) λb40=>
Ac b40 (
Ad 0 [Ak 0])<|
Ap (convert T.a54 T.a50 (.string s27)) λl41=>
Bv F.a52 [l41.v] λp42 n43=>
Ai n43 λn44=>
Av 1 (
Ac (n44 != 0) (
Ad 1 [.bool true])<|
AC F.a56 [Al p42] λn45=>
Ad 1 [.bool (decide (n45>Ao n25))]) λb46=>
Ac b46 (
Ad 0 [Ak 0])<|
Aa p λa48=>
An T.a27 a48 4 (Al p36)<|
Aa p λa50=>
An T.a31 a50 5 (Al p42)<|
Ai (Ao n25) λn51=>
Ad 0 [Ak n51])
theorem zvb (p:Option Addr):FnS (z09t p) F.a89 #[.pointer p]:=dV ⟨[],[],[(3,[(3,.one .slc)]),(9,[(71,.one .bool)]),(12,[(90,.one .bool)]),(15,[(105,.one .bool)])],[]⟩ Go.Proofs.Tryz.func116 (by kernel_rfl)
def z09w (p:Option Addr) (b_0 b_1 b_2 b_3 b_4 b_5:Int) (b_6:Sl):Prog :=
As T.a0 (AM b_0 b_1 b_2 b_3 b_4 b_5 b_6) λa0=>
Ae<|
Aa p λa2=>
AH T.a27 a2 4 λp3=>
AL T.a0 a0 λn4 n5 n6 n7 n8 n9 l10=>
AC F.a18 [Al p3,AM n4 n5 n6 n7 n8 n9 l10] λn11=>
Aj<|
Ae<|
Aa p λa13=>
AH T.a31 a13 5 λp14=>
AL T.a0 a0 λn15 n16 n17 n18 n19 n20 l21=>
AC F.a60 [Al p14,AM n15 n16 n17 n18 n19 n20 l21] λn22=>
Aj<|
Ad 0 []
theorem zve (p:Option Addr) (b_0 b_1 b_2 b_3 b_4 b_5:Int) (b_6:Sl):FnS (z09w p b_0 b_1 b_2 b_3 b_4 b_5 b_6) F.a92 #[.pointer p,.agg #[.int .i64 b_0,.int .i64 b_1,.int .i64 b_2,.int .i64 b_3,.int .i64 b_4,.int .i64 b_5,.slice b_6.a b_6.len b_6.cap]]:=dV ⟨[],[],[],[]⟩ Go.Proofs.Tryz.func118 (by kernel_rfl)
def z09u (p:Option Addr) (b_0 b_1 b_2 b_3 b_4 b_5:Int) (b_6:Sl):Prog :=
As T.a0 (AM b_0 b_1 b_2 b_3 b_4 b_5 b_6) λa0=>
AC F.a85 [Al p] λn1=>
An T.a14 a0 0 (Ak n1)<|
AL T.a0 a0 λn2 n3 n4 n5 n6 n7 l8=>
BH F.a88 [Al p,AM n2 n3 n4 n5 n6 n7 l8] λb9 n10 n11=>
AI T.a7 λa12=>
AJ T.a7 a12 (BI b9 n10)<|
Ai n11 λn13=>
By ((n13 != 0)=false) T.a3 a12 0 λb14=>
Ac (n13 != 0 || b14) (
Ae<|
Ab T.a14 a12 1 λn15=>
Bz T.a3 a12 0 λb16=>
Ai n15 λn17=>
Ay b16 λb18=>
Ai n13 λn19=>
Aj<|
Ad 0 [Ak n17,.bool b18,Ak n19])<|
B8 1 (
Ae<|
Aa p λa21=>
Bk T.a33 (Addr.add a21 0) 0 λp22=>
AL T.a0 a0 λn23 n24 n25 n26 n27 n28 l29=>
Ap (Instr.buildSlice T.a38 1 #[(0,AM n23 n24 n25 n26 n27 n28 l29)]) λl30=>
Aj<|
.call F.a115 [Al p22,l30.v] (.tup [.one (.int .i64),.one (.int .i64)]) (u2 λ(n31 n32:Int)=>
Ai n31 λn33=>
Ai n32 λn34=>
Aj<|
Ad 1 [Ak n34,Ak n33])) λn35 n36=>
AA 1 (
Ac (n35 == 0) (
Aa p λa38=>
AH T.a33 (Addr.add a38 0) 0 λp39=>
AC F.a121 [Al p39] λn40=>
Ai n40 λn41=>
Ad 1 [Ak n41])<|
Ad 1 [Ak n35]) λn42=>
Ac (n42 != 0) (
Ai n42 λn43=>
Ad 0 [Ak 0,.bool false,Ak n43])<|
An T.a14 a0 0 (Ak n36)<|
AL T.a0 a0 λn44 n45 n46 n47 n48 n49 l50=>
Bs F.a96 [AM n44 n45 n46 n47 n48 n49 l50] λn51 n52 n53 n54 n55 n56 l57=>
Am F.a92 [Al p,AM n51 n52 n53 n54 n55 n56 l57]<|
Ai n36 λn58=>
Ad 0 [Ak n58,.bool false,Ak 0]
theorem zvc (p:Option Addr) (b_0 b_1 b_2 b_3 b_4 b_5:Int) (b_6:Sl):FnS (z09u p b_0 b_1 b_2 b_3 b_4 b_5 b_6) F.a90 #[.pointer p,.agg #[.int .i64 b_0,.int .i64 b_1,.int .i64 b_2,.int .i64 b_3,.int .i64 b_4,.int .i64 b_5,.slice b_6.a b_6.len b_6.cap]]:=dV ⟨[(2269814212195778602,[(8,.one (.int .i64))])],[],[(5,[(8,.one (.int .i64)),(9,.one (.int .i64))])],[]⟩ Go.Proofs.Tryz.func120 (by kernel_rfl)
def z09z (b_0 b_1 b_2 b_3 b_4 b_5:Int) (b_6:Sl):Prog :=
As T.a0 (AM b_0 b_1 b_2 b_3 b_4 b_5 b_6) λa0=>
Ab T.a13 a0 4 λn1=>
Bc ((n1 == 2)=false) T.a13 a0 4 λn2=>
Ay (n1 == 2 || n2 == 3) λb3=>
Ad 0 [.bool b3]
theorem zvh (b_0 b_1 b_2 b_3 b_4 b_5:Int) (b_6:Sl):FnS (z09z b_0 b_1 b_2 b_3 b_4 b_5 b_6) F.a95 #[.agg #[.int .i64 b_0,.int .i64 b_1,.int .i64 b_2,.int .i64 b_3,.int .i64 b_4,.int .i64 b_5,.slice b_6.a b_6.len b_6.cap]]:=dV ⟨[],[],[],[]⟩ Go.Proofs.Tryz.func125 (by kernel_rfl)
def zf6 (t:Option Addr) (key:ByteArray):Prog :=
AC F.a8 [Al t,.string key] λn0=>
Ai n0 λn1=>
Ae<|
Aa t λa3=>
Af T.a46 a3 1 λl4=>
AF (decide (n1<(Ag l4))=true) t λa6=>
AG (decide (n1<(Ag l4))=true) T.a46 a6 1 λl7=>
.ex [.adr] (c1 λa8=>decide (n1<(Ag l4))=true->0<=n1/\n1<(Ag l7)/\l7.a=some a8) (u1 λa9=>
Bx (decide (n1<(Ag l4))=true) T.a54 (Addr.add (Addr.add a9 (Int.toNat n1*5)) 1) 0 λs10=>
Ai n1 λn11=>
Ay (decide (n1<(Ag l4)) && ByteArray.toList s10 == ByteArray.toList key) λb12=>
Aj<|
Ad 0 [Ak n11,.bool b12])
theorem zy2 (t:Option Addr) (key:ByteArray):FnS (zf6 t key) F.a7 #[.pointer t,.string key]:=dV ⟨[],[],[],[]⟩ Go.Proofs.Tryz.func130 (by kernel_rfl)
def z00x (p:Option Addr):Prog :=
Ac (Option.isNone p) (
Ad 0 [Ak 0])<|
Aa p λa1=>
AH T.a31 a1 5 λp2=>
Aq F.a57 [Al p2] λl3=>
Ac ((Ag l3) == 0) (
AC F.a85 [Al p] λn4=>
Ai n4 λn5=>
Ad 0 [Ak n5])<|
Aa p λa7=>
AH T.a31 a7 5 λp8=>
AC F.a59 [Al p8] λn9=>
AC F.a83 [Al p] λn10=>
Ai (if n10>n9 then n10 else n9) λn11=>
Ad 0 [Ak n11]
theorem zho (p:Option Addr):FnS (z00x p) F.a87 #[.pointer p]:=dV ⟨[],[],[],[]⟩ Go.Proofs.Tryz.func136 (by kernel_rfl)
def z092 (v:Option Addr) (b_0 b_1 b_2 b_3 b_4 b_5:Int) (b_6:Sl):Prog :=
As T.a0 (AM b_0 b_1 b_2 b_3 b_4 b_5 b_6) λa0=>
Ac (Option.isNone v) (
Ad 0 [Ak 0])<|
BJ 1 (
Ae<|
Aa v λa2=>
BK T.a21 a2 2 λm3=>
Bb T.a14 a0 1 λn4=>
Bb T.a13 a0 2 λn5=>
BL (Instr.lookup T.a21 (.map m3) (Ar n4 n5) true) λn6 n7 n8 n9 b10=>
AI T.a18 λa11=>
Aj<|
AJ T.a18 a11 (BB n6 n7 n8 n9)<|
Ay b10 λb12=>
Aj<|
Ad 1 [A8 a11,.bool b12]) λa13 b14=>
AL T.a0 a0 λn15 n16 n17 n18 n19 n20 l21=>
Aw F.a63 [AM n15 n16 n17 n18 n19 n20 l21] λb22=>
Au b22 (
Ad 0 [Ak 3])<|
Ae<|
Bb T.a14 a0 0 λn24=>
AC F.a59 [Al v] λn25=>
Ay (decide (n24>=n25)) λb26=>
Aj<|
Ac b26 (
Ad 0 [Ak 0])<|
Ab T.a13 a0 4 λn27=>
Bc ((n27 == 1 && b14)=true) T.a14 a0 0 λn28=>
Bc ((n27 == 1 && b14)=true) T.a14 a13 2 λn29=>
Au (n27 == 1 && b14 && decide (n28>=n29)) (
Ad 0 [Ak 2])<|
Ad 0 [Ak 1]
theorem zui (v:Option Addr) (b_0 b_1 b_2 b_3 b_4 b_5:Int) (b_6:Sl):FnS (z092 v b_0 b_1 b_2 b_3 b_4 b_5 b_6) F.a54 #[.pointer v,.agg #[.int .i64 b_0,.int .i64 b_1,.int .i64 b_2,.int .i64 b_3,.int .i64 b_4,.int .i64 b_5,.slice b_6.a b_6.len b_6.cap]]:=dV ⟨[],[],[(3,[(5,.one .adr),(6,.one .bool)])],[]⟩ Go.Proofs.Tryz.func137 (by kernel_rfl)
def z080 (from_:Int) (l:Sl):Prog :=
AK 1 (
AR 2 (0,()) λn0=>
Ac (decide (n0<(Ag l))) (
.ex [.adr] (c1 λa1=>0<=n0/\n0<(Ag l)/\l.a=some a1) (u1 λa2=>
BG T.a37 a2 (Int.toNat n0*5) λn3 s4 s5 b6 n7=>
AI T.a37 λa8=>
Ai n0 λn9=>
AJ T.a37 a8 (BF n3 s4 s5 b6 n7)<|
Ae<|
Bc ((n9 == 0)=true) T.a14 a8 0 λn10=>
Bc ((n9 == 0 && decide (n10<from_))=false/\decide (n9>0)=true) T.a14 a8 0 λn11=>
.ex [.adr] (c1 λa12=>(n9 == 0 && decide (n10<from_))=false/\decide (n9>0)=true->0<=Ao (n9-1)/\Ao (n9-1)<(Ag l)/\l.a=some a12) (u1 λa13=>
Bc ((n9 == 0 && decide (n10<from_))=false/\decide (n9>0)=true) T.a14 (Addr.add a13 (Int.toNat (Ao (n9-1))*5)) 0 λn14=>
Aj<|
Ac (n9 == 0 && decide (n10<from_) || decide (n9>0) && decide (n11<=n14)) (
Ad 0 [.bool false])<|
Ad 2 [Ak (Ao (n0+1))])))<|
Ad 1 [])<|
Ad 0 [.bool true]
theorem ztf (from_:Int) (l:Sl):FnS (z080 from_ l) F.a11 #[.int .i64 from_,.slice l.a l.len l.cap]:=dV ⟨[],[(0,[])],[],[(0,[(9,.one (.int .i64))])]⟩ Go.Proofs.Tryz.func140 (by kernel_rfl)
def zf9 (t:Option Addr) (r_0:Int) (r_1 r_2:ByteArray) (r_3:Bool) (r_4:Int):Prog :=
As T.a37 (BF r_0 r_1 r_2 r_3 r_4) λa0=>
Be T.a54 (Addr.add a0 1) 0 λs1=>
Bg F.a7 [Al t,.string s1] λn2 b3=>
Ai n2 λn4=>
Ay b3 λb5=>
By (b5=true) T.a3 (Addr.add a0 1) 2 λb6=>
Ay (b5 && b6) λb7=>
AK 1 (
Ac b7 (
Aa t λa9=>
Af T.a46 a9 1 λl10=>
Aq F.a144 [l10.v,Ak n4,Ak (Ao (n4+1))] λl11=>
Aa t λa13=>
An T.a46 a13 1 l11.v<|
Ad 1 [])<|
Ay b5 λb14=>
AK 2 (
Ac b14 (
Ae<|
Aa t λa16=>
Af T.a46 a16 1 λl17=>
BE T.a37 a0 λn18 s19 s20 b21 n22=>
.ex [.adr] (c1 λa23=>0<=n4/\n4<(Ag l17)/\l17.a=some a23) (u1 λa24=>
An T.a37 a24 (Int.toNat n4*5) (BF n18 s19 s20 b21 n22)<|
Aj<|
Ad 2 []))<|
Bz T.a3 (Addr.add a0 1) 2 λb25=>
Ay (not b25) λb26=>
AK 3 (
Ac b26 (
AK 4 (
Ae<|
Aa t λa28=>
.hold True (ld T.a46 (Addr.add a28 1)) sL (u1 λl29=>
BE T.a37 a0 λn30 s31 s32 b33 n34=>
Ap (Instr.buildSlice T.a46 1 #[(0,BF n30 s31 s32 b33 n34)]) λl35=>
Aj<|
Aq F.a146 [l29.v,Ak n4,l35.v] λl36=>
Aa t λa38=>
An T.a46 a38 1 l36.v<|
Aj<|
Ad 4 []))<|
Ad 3 [])<|
Ad 3 [])<|
Ad 2 [])<|
Ad 1 [])<|
Ab T.a14 a0 0 λn39=>
Aa t λa41=>
An T.a14 a41 0 (Ak (Ao (n39+1)))<|
Ad 0 []
theorem zy5 (t:Option Addr) (r_0:Int) (r_1 r_2:ByteArray) (r_3:Bool) (r_4:Int):FnS (zf9 t r_0 r_1 r_2 r_3 r_4) F.a10 #[.pointer t,.agg #[.int .i64 r_0,.string r_1,.string r_2,.bool r_3,.int .i64 r_4]]:=dV ⟨[(590007579982553940009,[]),(590295739989961474080,[]),(590295810350115717134,[])],[],[(7,[])],[]⟩ Go.Proofs.Tryz.func141 (by kernel_rfl)
def zf7 (t:Option Addr) (key:ByteArray):Prog :=
As T.a26 (Al t) λa0=>
As T.a54 (.string key) λa1=>
AU T.a26 a0 λp2=>
Aa p2 λa4=>
Af T.a46 a4 1 λl5=>
AC F.a159 [Ak (Ag l5),.func (Fn.func 211) #[] #[A8 a0,A8 a1]] λn6=>
Ai n6 λn7=>
Ad 0 [Ak n7]
theorem zy3 (t:Option Addr) (key:ByteArray):FnS (zf7 t key) F.a8 #[.pointer t,.string key]:=dV ⟨[],[],[],[]⟩ Go.Proofs.Tryz.func147 (by kernel_rfl)
def z081 (most:Int):Prog :=
Ac (decide (most<1) || decide (most>4096)) (
Ad 0 [Al none,Ak 2])<|
.act (Instr.makeMap T.a19 none) sM (u1 λm0=>
As T.a6 (.agg #[Ak most,Ak 0,.map m0]) λa1=>
Ad 0 [A8 a1,Ak 0])
theorem ztg (most:Int):FnS (z081 most) F.a13 #[.int .i64 most]:=dV ⟨[],[],[],[]⟩ Go.Proofs.Tryz.func174 (by kernel_rfl)
def zqf  : Prog :=
.act (Instr.makeMap T.a20 none) sM (u1 λm0 =>
.act (Instr.makeMap T.a21 none) sM (u1 λm1 =>
.act (Instr.box T.a16 (.agg #[.int .i64 0,.map m0,.map m1])) sA (u1 λa2 =>
.done 0 [.pointer (some a2)])))
theorem zkc :FnS (zqf ) F.a53 #[]:=dV ⟨[],[],[],[]⟩ Go.Proofs.Tryz.func175 (by kernel_rfl)
def z09v (p:Option Addr):Prog :=
Aa p λa1=>
Be T.a54 (Addr.add a1 0) 2 λs2=>
.must (((ByteArray.size s2+5:Nat):Int)<=9223372036854775807) <|
Bf (s2++(ByteArray.mk #[46,115,110,97,112])) λs3=>
Ad 0 [.string s3]
theorem zvd (p:Option Addr):FnS (z09v p) F.a91 #[.pointer p]:=dV ⟨[],[],[],[]⟩ Go.Proofs.Tryz.func176 (by kernel_rfl)
def z09q (p:Option Addr):Prog :=
Ac (Option.isNone p) (
Ad 0 [Ak 0])<|
Aa p λa1=>
AH T.a33 (Addr.add a1 0) 0 λp2=>
AC F.a117 [Al p2] λn3=>
Ai n3 λn4=>
Ad 0 [Ak n4]
theorem zv8 (p:Option Addr):FnS (z09q p) F.a85 #[.pointer p]:=dV ⟨[],[],[],[]⟩ Go.Proofs.Tryz.func179 (by kernel_rfl)
def z085 (t:Option Addr) (b_0 b_1 b_2 b_3 b_4 b_5:Int) (b_6:Sl):Prog :=
As T.a0 (AM b_0 b_1 b_2 b_3 b_4 b_5 b_6) λa0=>
AL T.a0 a0 λn1 n2 n3 n4 n5 n6 l7=>
BH F.a16 [Al t,AM n1 n2 n3 n4 n5 n6 l7] λb8 n9 n10=>
AI T.a7 λa11=>
AJ T.a7 a11 (BI b8 n9)<|
Ai n10 λn12=>
Au (n12 != 0) (
Ai n12 λn14=>
Ad 0 [Ak n14])<|
Bz T.a3 a11 0 λb15=>
Au b15 (
Ad 0 [Ak 4])<|
Ae<|
Ab T.a14 a0 0 λn17=>
Aa t λa19=>
Ab T.a14 a19 1 λn20=>
Ay (decide (n17<n20)) λb21=>
Aj<|
Ac b21 (
Ad 0 [Ak 8])<|
AL T.a0 a0 λn22 n23 n24 n25 n26 n27 l28=>
AC F.a102 [AM n22 n23 n24 n25 n26 n27 l28] λn29=>
Aa t λa31=>
An T.a14 a31 1 (Ak n29)<|
Ab T.a14 a0 1 λn32=>
Ac (n32 == 0) (
Ad 0 [Ak 0])<|
Ab T.a14 a0 1 λn33=>
.call F.a20 [Al t,Ak n33] (.tup [.agg [.int .i64,.int .i64,.int .i64,.int .i64,.int .i64,.int .i64,.int .i64],.one .bool]) (u8 λ(n34 n35 n36 n37 n38 n39 n40:Int) b41=>
AI T.a5 λa42=>
AJ T.a5 a42 (BM n34 n35 n36 n37 n38 n39 n40)<|
Ay b41 λb43=>
Ab T.a14 a0 5 λn44=>
Ai n44 λn45=>
AA 1 (
Ac b43 (
Ab T.a14 a42 6 λn46=>
Ai (if n46>n45 then n46 else n45) λn47=>
Ad 1 [Ak n47])<|
Ad 1 [Ak n45]) λn48=>
Ab T.a13 a0 4 λn49=>
AK 1 (
AK 2 (
Ay (n49 == 2) λb50=>
Av 3 (
Ac b50 (
Ad 3 [.bool b50])<|
Ay (n49 == 3) λb51=>
Ad 3 [.bool b51]) λb52=>
Ac b52 (
Ae<|
Aa t λa54=>
B2 T.a19 a54 2 λm55=>
Ab T.a14 a0 1 λn56=>
Ab T.a14 a0 1 λn57=>
Ab T.a13 a0 2 λn58=>
Br (Instr.mapUpdate T.a19 (.map m55) (Ak n56) (.agg #[Ak n57,Ak (Ao (n58+1)),Ak 0,Ak 0,Ak 0,Ak (-1),Ak n48]))<|
Aj<|
Ad 0 [Ak 0])<|
Au (n49 == 1) (
BN T.a5 a42 λn60 n61 n62 n63 n64 n65 n66=>
Aw F.a15 [BM n60 n61 n62 n63 n64 n65 n66] λb67=>
AK 3 (
Ac (not b67) (
Ab T.a14 a0 0 λn68=>
An T.a14 a42 5 (Ak n68)<|
Ad 3 [])<|
Ad 3 [])<|
Ad 2 [])<|
Ad 2 [])<|
Ae<|
Aa t λa70=>
B2 T.a19 a70 2 λm71=>
Ab T.a14 a0 1 λn72=>
Ab T.a14 a0 1 λn73=>
Ab T.a13 a0 2 λn74=>
Ab T.a13 a0 3 λn75=>
Af T.a39 a0 6 λl76=>
Ab T.a14 a0 0 λn77=>
Ab T.a14 a42 5 λn78=>
Br (Instr.mapUpdate T.a19 (.map m71) (Ak n72) (.agg #[Ak n73,Ak n74,Ak n75,Ak (Ag l76),Ak n77,Ak n78,Ak n48]))<|
Aj<|
Ad 1 [])<|
Ad 0 [Ak 0])
theorem ztl (t:Option Addr) (b_0 b_1 b_2 b_3 b_4 b_5:Int) (b_6:Sl):FnS (z085 t b_0 b_1 b_2 b_3 b_4 b_5 b_6) F.a18 #[.pointer t,.agg #[.int .i64 b_0,.int .i64 b_1,.int .i64 b_2,.int .i64 b_3,.int .i64 b_4,.int .i64 b_5,.slice b_6.a b_6.len b_6.cap]]:=dV ⟨[(34587645138207506480,[(9,.one (.int .i64))]),(737869762948382064695,[(55,.one .bool)]),(2166395068749415481073467467,[])],[(1,[]),(4,[])],[],[]⟩ Go.Proofs.Tryz.func184 (by kernel_rfl)
def z095 (v:Option Addr) (b_0 b_1 b_2 b_3 b_4 b_5:Int) (b_6:Sl):Prog :=
As T.a0 (AM b_0 b_1 b_2 b_3 b_4 b_5 b_6) λa0=>
AL T.a0 a0 λn1 n2 n3 n4 n5 n6 l7=>
AC F.a55 [Al v,AM n1 n2 n3 n4 n5 n6 l7] λn8=>
Ai n8 λn9=>
Ac (n9 != 0) (
Ai n9 λn10=>
Ad 0 [Ak n10])<|
AL T.a0 a0 λn11 n12 n13 n14 n15 n16 l17=>
AC F.a102 [AM n11 n12 n13 n14 n15 n16 l17] λn18=>
Aa v λa20=>
An T.a14 a20 0 (Ak n18)<|
BJ 1 (
Ae<|
Aa v λa22=>
BK T.a20 a22 1 λm23=>
Bb T.a14 a0 1 λn24=>
BL (Instr.lookup T.a20 (.map m23) (Ak n24) true) λn25 n26 n27 n28 b29=>
AI T.a18 λa30=>
Aj<|
AJ T.a18 a30 (BB n25 n26 n27 n28)<|
Ay b29 λb31=>
Aj<|
Ad 1 [A8 a30,.bool b31]) λa32 b33=>
Ab T.a13 a0 4 λn34=>
Ay (n34 == 1 && not b33) λb35=>
AK 1 (
Ac b35 (
Ae<|
Aa v λa37=>
B2 T.a20 a37 1 λm38=>
Ab T.a14 a0 1 λn39=>
Ab T.a14 a0 1 λn40=>
Ab T.a13 a0 2 λn41=>
Ab T.a14 a0 0 λn42=>
Br (Instr.mapUpdate T.a20 (.map m38) (Ak n39) (.agg #[Ak n40,Ak n41,Ak n42,Ak (-1)]))<|
Aj<|
Ad 1 [])<|
AL T.a0 a0 λn43 n44 n45 n46 n47 n48 l49=>
Aw F.a63 [AM n43 n44 n45 n46 n47 n48 l49] λb50=>
Ay (b50 && b33) λb51=>
AK 2 (
Ac b51 (
Ae<|
Aa v λa53=>
B2 T.a20 a53 1 λm54=>
Ab T.a14 a0 1 λn55=>
B7 (Builtin.delete_ #[T.a20,T.a14] T.a59 #[.map m54,Ak n55])<|
Aj<|
Ab T.a13 a0 4 λn56=>
AK 3 (
Ac (n56 == 3) (
Ab T.a14 a0 0 λn57=>
An T.a14 a32 3 (Ak n57)<|
Ae<|
Aa v λa59=>
B2 T.a21 a59 2 λm60=>
Az (ld T.a17 (Addr.add a32 0)) λn61 n62=>
BO T.a18 a32 λn63 n64 n65 n66=>
Br (Instr.mapUpdate T.a21 (.map m60) (Ar n61 n62) (BB n63 n64 n65 n66))<|
Aj<|
Ad 3 [])<|
Ad 3 [])<|
Ad 2 [])<|
Ad 2 [])<|
Ad 1 [])<|
Ad 0 [Ak 0]
theorem zun (v:Option Addr) (b_0 b_1 b_2 b_3 b_4 b_5:Int) (b_6:Sl):FnS (z095 v b_0 b_1 b_2 b_3 b_4 b_5 b_6) F.a60 #[.pointer v,.agg #[.int .i64 b_0,.int .i64 b_1,.int .i64 b_2,.int .i64 b_3,.int .i64 b_4,.int .i64 b_5,.slice b_6.a b_6.len b_6.cap]]:=dV ⟨[(309182778366441411431104577,[]),(309484419525534710019129395,[]),(309485009820782118771359773,[])],[],[(5,[(6,.one .adr),(7,.one .bool)])],[]⟩ Go.Proofs.Tryz.func185 (by kernel_rfl)
def z09s (p:Option Addr) (b_0 b_1 b_2 b_3 b_4 b_5:Int) (b_6:Sl):Prog :=
As T.a0 (AM b_0 b_1 b_2 b_3 b_4 b_5 b_6) λa0=>
AI T.a7 λa1=>
.bind 1 [.one .adr,.one (.int .i64)] (
Ae<|
Aa p λa3=>
Bk T.a27 a3 4 λp4=>
.hold True (ld T.a0 a0) (sG [.int .i64,.int .i64,.int .i64,.int .i64,.int .i64,.int .i64,.slc]) (u7 λ(n5 n6 n7 n8 n9 n10:Int) l11=>
.both (
Aj<|
BH F.a16 [Al p4,AM n5 n6 n7 n8 n9 n10 l11] λb12 n13 n14=>
AI T.a7 λa15=>
AJ T.a7 a15 (BI b12 n13)<|
Ai n14 λn16=>
Aj<|
Ad 1 [A8 a15,Ak n16]) <|
AI T.a7 λa17=>
Aj<|
BH F.a16 [Al p4,AM n5 n6 n7 n8 n9 n10 l11] λb18 n19 n20=>
AJ T.a7 a17 (BI b18 n19)<|
Ai n20 λn21=>
Aj<|
Ad 1 [A8 a17,Ak n21])) (u2 λa22 (n23:Int)=>
By ((n23 != 0)=false) T.a3 a22 0 λb24=>
Ac (n23 != 0 || b24) (
BQ T.a7 a22 λb25 n26=>
AJ T.a7 a1 (BI b25 n26)<|
Ai n23 λn27=>
BQ T.a7 a1 λb28 n29=>
Ad 0 [BI b28 n29,Ak n27])<|
AA 1 (
Ae<|
.hold True (ld T.a7 a22) (sG [.bool,.int .i64]) (u2 λb30 (n31:Int)=>
Aa p λa33=>
AH T.a31 a33 5 λp34=>
AL T.a0 a0 λn35 n36 n37 n38 n39 n40 l41=>
AC F.a55 [Al p34,AM n35 n36 n37 n38 n39 n40 l41] λn42=>
Aj<|
AJ T.a7 a1 (BI b30 n31)<|
Ai n42 λn43=>
Aj<|
Ad 1 [Ak n43])) λn44=>
BQ T.a7 a1 λb45 n46=>
Ad 0 [BI b45 n46,Ak n44])
theorem zva (p:Option Addr) (b_0 b_1 b_2 b_3 b_4 b_5:Int) (b_6:Sl):FnS (z09s p b_0 b_1 b_2 b_3 b_4 b_5 b_6) F.a88 #[.pointer p,.agg #[.int .i64 b_0,.int .i64 b_1,.int .i64 b_2,.int .i64 b_3,.int .i64 b_4,.int .i64 b_5,.slice b_6.a b_6.len b_6.cap]]:=dV ⟨[],[],[(1,[(6,.one .adr),(7,.one (.int .i64))]),(4,[(5,.one (.int .i64))])],[]⟩ Go.Proofs.Tryz.func186 (by kernel_rfl)
def zuk (v:Option Addr):Prog :=
Ac (Option.isNone v) (
Ad 0 [.slice none 0 0])<|
Aa v λa1=>
B2 T.a20 a1 1 λm2=>
.act (Instr.range T.a20 (.map m2)) sA (u1 λa3=>
AN 1 (
.loop 2 [.one .slc] (⟨none,0,0⟩,()) (u1 λl4=>
.next (Instr.next (A8 a3) false T.a59) ([.one (.int .i64),.agg [.int .i64,.int .i64,.int .i64,.int .i64]]) (u5 λ(n5 n6 n7 n8 n9:Int)=>
.act (Instr.entry (A8 a3)) (.tup [.one (.int .i64),.agg [.int .i64,.int .i64,.int .i64,.int .i64]]) (u5 λ(n10 n11 n12 n13 n14:Int)=>
AI T.a18 λa15=>
AJ T.a18 a15 (BB n11 n12 n13 n14)<|
BO T.a18 a15 λn16 n17 n18 n19=>
BR F.a62 [BB n16 n17 n18 n19] λn20 n21 n22 n23=>
Ap (Instr.buildSlice T.a42 1 #[(0,BB n20 n21 n22 n23)]) λl24=>
Ap (app T.a42 T.a42 T.a42 l4.v l24.v) λl25=>
Ad 2 [l25.v])) <|
Ad 1 [l4.v])) λl26=>
Am F.a147 [l26.v,.func (Fn.func 259) #[] #[]]<|
Ad 0 [l26.v])
theorem zhk (v:Option Addr) {w:World} {R:List Value->World->Prop} (h:(zuk v).wp P (λ_=>True) w λe vs w'=>e=0/\R vs w') :
  Calls P F.a57 #[.pointer v] w λe w'=>∃ vs,e=.returned (z9f vs)/\R vs w' :=
 z9y (zhz Go.Proofs.Tryz.func202 (by kernel_rfl) (by kernel_rfl) (by kernel_rfl)) zi6 mix [.val (.pointer v)] (by rw [show zio P 25 ⟨zi5,[(13,[.one (.int .i64),.agg [.int .i64,.int .i64,.int .i64,.int .i64]]),(15,[.one (.int .i64),.agg [.int .i64,.int .i64,.int .i64,.int .i64]])]⟩ { cnd:=[],blk:=[(0,[(3,.one .slc)])],reg:=[],lps:=[(0,[(3,.one .slc)])] } [.tmp 2] (zb7 Go.Proofs.Tryz.f202) [.val (.pointer v)]=zuk v from by kernel_rfl];exact h)
def z00s (v:Option Addr):Prog :=
Ac (Option.isNone v) (
Ad 0 [Ak 0])<|
Aa v λa1=>
Ab T.a14 a1 0 λn2=>
Ai n2 λn3=>
Aa v λa5=>
B2 T.a20 a5 1 λm6=>
.act (Instr.range T.a20 (.map m6)) sA (u1 λa7=>
AA 1 (
AR 2 (n3,()) λn8=>
.next (Instr.next (A8 a7) false T.a59) ([.one (.int .i64),.agg [.int .i64,.int .i64,.int .i64,.int .i64]]) (u5 λ(n9 n10 n11 n12 n13:Int)=>
.act (Instr.entry (A8 a7)) (.tup [.one (.int .i64),.agg [.int .i64,.int .i64,.int .i64,.int .i64]]) (u5 λ(n14 n15 n16 n17 n18:Int)=>
AI T.a18 λa19=>
AJ T.a18 a19 (BB n15 n16 n17 n18)<|
Ab T.a14 a19 2 λn20=>
Ai (if n20<n8 then n20 else n8) λn21=>
Ad 2 [Ak n21])) <|
Ad 1 [Ak n8]) λn22=>
Ai n22 λn23=>
Ad 0 [Ak n23])
theorem zum (v:Option Addr) {w:World} {R:List Value->World->Prop} (h:(z00s v).wp P (λ_=>True) w λe vs w'=>e=0/\R vs w') :
  Calls P F.a59 #[.pointer v] w λe w'=>∃ vs,e=.returned (z9f vs)/\R vs w' :=
 z9y (zhz Go.Proofs.Tryz.func203 (by kernel_rfl) (by kernel_rfl) (by kernel_rfl)) zi6 mix [.val (.pointer v)] (by rw [show zio P 26 ⟨zi5,[(17,[.one (.int .i64),.agg [.int .i64,.int .i64,.int .i64,.int .i64]]),(19,[.one (.int .i64),.agg [.int .i64,.int .i64,.int .i64,.int .i64]])]⟩ { cnd:=[],blk:=[(0,[(3,.one (.int .i64))])],reg:=[],lps:=[(0,[(3,.one (.int .i64))])] } [.tmp 2] (zb7 Go.Proofs.Tryz.f203) [.val (.pointer v)]=z00s v from by kernel_rfl];exact h)
def z098 (b_0 b_1 b_2 b_3 b_4 b_5:Int) (b_6:Sl):Prog :=
As T.a0 (AM b_0 b_1 b_2 b_3 b_4 b_5 b_6) λa0=>
Ab T.a13 a0 4 λn1=>
Bc ((n1 == 2)=false) T.a13 a0 4 λn2=>
Ay (n1 == 2 || n2 == 3) λb3=>
Ad 0 [.bool b3]
theorem zuq (b_0 b_1 b_2 b_3 b_4 b_5:Int) (b_6:Sl):FnS (z098 b_0 b_1 b_2 b_3 b_4 b_5 b_6) F.a63 #[.agg #[.int .i64 b_0,.int .i64 b_1,.int .i64 b_2,.int .i64 b_3,.int .i64 b_4,.int .i64 b_5,.slice b_6.a b_6.len b_6.cap]]:=dV ⟨[],[],[],[]⟩ Go.Proofs.Tryz.func204 (by kernel_rfl)
def z02k (s:Sl) (i:Int) (j:Int):Prog :=
.must (0<=i/\i<=j/\j<=(Ag s)/\(Ag s)<=((s.cap:Nat):Int)) <|
Ac (i == j) (
Ad 0 [s.v])<|
Ai (Ag s) λn0=>
Ae<|
.must (0<=i/\i<=((s.cap:Nat):Int)) <|
.must (0<=j/\j<=(Ag s)) <|
Ap (app T.a46 T.a46 T.a46 (.slice s.a (Int.toNat i) s.cap) (.slice (z0q s.a 5 (Int.toNat j) s.cap) (s.len-Int.toNat j) (s.cap-Int.toNat j))) λl1=>
Aj<|
.must (0<=(Ag l1)/\(Ag l1)<=n0/\n0<=((l1.cap:Nat):Int)) <|
B7 (Builtin.clear_ #[T.a46] T.a59 #[.slice (z0q l1.a 5 (Int.toNat (Ag l1)) l1.cap) (Int.toNat n0-Int.toNat (Ag l1)) (l1.cap-Int.toNat (Ag l1))])<|
Ad 0 [l1.v]
theorem zos (s:Sl) (i j:Int):FnS (z02k s i j) F.a144 #[.slice s.a s.len s.cap,.int .i64 i,.int .i64 j]:=dV ⟨[],[],[],[]⟩ Go.Proofs.Tryz.func208 (by kernel_rfl)
def z02m (s:Sl) (i:Int) (v:Sl):Prog :=
.must (0<=i/\i<=(Ag s)) <|
Ai (Ag v) λn0=>
Ac (n0 == 0) (
Ad 0 [s.v])<|
Ai (Ag s) λn1=>
Ac (i == n1) (
Ap (app T.a46 T.a46 T.a46 s.v v.v) λl2=>
Ad 0 [l2.v])<|
Ac (decide (Ao (n1+n0)>((s.cap:Nat):Int))) (
.must (0<=i/\i<=((s.cap:Nat):Int)) <|
Ap (app T.a46 T.a13 T.a46 (.slice s.a (Int.toNat i) s.cap) (Ak (Ao (Ao (n1+n0)-i)))) λl3=>
.must (0<=i/\i<=(Ag l3)) <|
BS (Builtin.copy_ #[T.a46,T.a46] T.a13 #[.slice (z0q l3.a 5 (Int.toNat i) l3.cap) (l3.len-Int.toNat i) (l3.cap-Int.toNat i),v.v]) λn4=>
Ae<|
.must (0<=Ao (i+n0)/\Ao (i+n0)<=(Ag l3)) <|
.must (0<=i/\i<=(Ag s)) <|
BS (Builtin.copy_ #[T.a46,T.a46] T.a13 #[.slice (z0q l3.a 5 (Int.toNat (Ao (i+n0))) l3.cap) (l3.len-Int.toNat (Ao (i+n0))) (l3.cap-Int.toNat (Ao (i+n0))),.slice (z0q s.a 5 (Int.toNat i) s.cap) (s.len-Int.toNat i) (s.cap-Int.toNat i)]) λn5=>
Aj<|
Ad 0 [l3.v])<|
.must (0<=Ao (n1+n0)/\Ao (n1+n0)<=((s.cap:Nat):Int)) <|
.must (0<=Ao (i+n0)/\Ao (i+n0)<=((Int.toNat (Ao (n1+n0)):Nat):Int)) <|
.act (zht 264 (#[]++#[v.v,.slice (z0q s.a 5 (Int.toNat (Ao (i+n0))) s.cap) (Int.toNat (Ao (n1+n0))-Int.toNat (Ao (i+n0))) (s.cap-Int.toNat (Ao (i+n0)))]++#[])) sB (u1 λb6=>
Ac (not b6) (
Ae<|
.must (0<=Ao (i+n0)/\Ao (i+n0)<=((Int.toNat (Ao (n1+n0)):Nat):Int)) <|
.must (0<=i/\i<=((Int.toNat (Ao (n1+n0)):Nat):Int)) <|
BS (Builtin.copy_ #[T.a46,T.a46] T.a13 #[.slice (z0q s.a 5 (Int.toNat (Ao (i+n0))) s.cap) (Int.toNat (Ao (n1+n0))-Int.toNat (Ao (i+n0))) (s.cap-Int.toNat (Ao (i+n0))),.slice (z0q s.a 5 (Int.toNat i) s.cap) (Int.toNat (Ao (n1+n0))-Int.toNat i) (s.cap-Int.toNat i)]) λn7=>
Aj<|
.must (0<=i/\i<=((Int.toNat (Ao (n1+n0)):Nat):Int)) <|
BS (Builtin.copy_ #[T.a46,T.a46] T.a13 #[.slice (z0q s.a 5 (Int.toNat i) s.cap) (Int.toNat (Ao (n1+n0))-Int.toNat i) (s.cap-Int.toNat i),v.v]) λn8=>
Ad 0 [.slice s.a (Int.toNat (Ao (n1+n0))) s.cap])<|
.must (0<=n1/\n1<=((Int.toNat (Ao (n1+n0)):Nat):Int)) <|
BS (Builtin.copy_ #[T.a46,T.a46] T.a13 #[.slice (z0q s.a 5 (Int.toNat n1) s.cap) (Int.toNat (Ao (n1+n0))-Int.toNat n1) (s.cap-Int.toNat n1),v.v]) λn9=>
.must (0<=i/\i<=((Int.toNat (Ao (n1+n0)):Nat):Int)) <|
Am F.a158 [.slice (z0q s.a 5 (Int.toNat i) s.cap) (Int.toNat (Ao (n1+n0))-Int.toNat i) (s.cap-Int.toNat i),Ak n0]<|
Ad 0 [.slice s.a (Int.toNat (Ao (n1+n0))) s.cap])
theorem zou (s:Sl) (i:Int) (v:Sl):FnS (z02m s i v) F.a146 #[.slice s.a s.len s.cap,.int .i64 i,.slice v.a v.len v.cap]:=dV ⟨[],[],[],[]⟩ Go.Proofs.Tryz.func209 (by kernel_rfl)
def zf8 (i:Int) (fv0:Option Addr) (fv1:Option Addr):Prog :=
Ae<|
Bl T.a26 fv0 λp0=>
Aa p0 λa2=>
Af T.a46 a2 1 λl3=>
.ex [.adr] (c1 λa4=>0<=i/\i<(Ag l3)/\l3.a=some a4) (u1 λa5=>
Be T.a54 (Addr.add (Addr.add a5 (Int.toNat i*5)) 1) 0 λs6=>
Bi (Instr.loadAt T.a54 (Al fv1)) λs7=>
Ay (not (Op.bytesLess (ByteArray.toList s6) (ByteArray.toList s7))) λb8=>
Aj<|
Ad 0 [.bool b8])
theorem zy4 (i:Int) (fv0 fv1:Option Addr):FnS (zf8 i fv0 fv1) F.a9 #[.int .i64 i,.pointer fv0,.pointer fv1]:=dV ⟨[],[],[],[]⟩ Go.Proofs.Tryz.func211 (by kernel_rfl)
def z084 (t:Option Addr) (b_0 b_1 b_2 b_3 b_4 b_5:Int) (b_6:Sl):Prog :=
As T.a0 (AM b_0 b_1 b_2 b_3 b_4 b_5 b_6) λa0=>
AI T.a7 λa1=>
Ac (Option.isNone t) (
AJ T.a7 a1 (BI false 0)<|
BQ T.a7 a1 λb2 n3=>
Ad 0 [BI b2 n3,Ak 1])<|
AL T.a0 a0 λn4 n5 n6 n7 n8 n9 l10=>
AC F.a104 [AM n4 n5 n6 n7 n8 n9 l10] λn11=>
Ai n11 λn12=>
Bc ((n12 != 0)=false) T.a14 a0 1 λn13=>
Ac (n12 != 0 || n13 == 0) (
AJ T.a7 a1 (BI false 0)<|
Ai n12 λn14=>
BQ T.a7 a1 λb15 n16=>
Ad 0 [BI b15 n16,Ak n14])<|
Ab T.a14 a0 1 λn17=>
.call F.a20 [Al t,Ak n17] (.tup [.agg [.int .i64,.int .i64,.int .i64,.int .i64,.int .i64,.int .i64,.int .i64],.one .bool]) (u8 λ(n18 n19 n20 n21 n22 n23 n24:Int) b25=>
AI T.a5 λa26=>
AJ T.a5 a26 (BM n18 n19 n20 n21 n22 n23 n24)<|
Ay b25 λb27=>
Ab T.a13 a0 2 λn28=>
Ab T.a13 a26 1 λn29=>
Ac (decide (n28<n29)) (
AL T.a0 a0 λn30 n31 n32 n33 n34 n35 l36=>
Aw F.a22 [AM n30 n31 n32 n33 n34 n35 l36] λb37=>
Ac b37 (
AJ T.a7 a1 (.agg #[.bool true,Ak (-1)])<|
BQ T.a7 a1 λb38 n39=>
Ad 0 [BI b38 n39,Ak 0])<|
AJ T.a7 a1 (BI false 0)<|
BQ T.a7 a1 λb40 n41=>
Ad 0 [BI b40 n41,Ak 20])<|
AL T.a0 a0 λn42 n43 n44 n45 n46 n47 l48=>
Aw F.a22 [AM n42 n43 n44 n45 n46 n47 l48] λb49=>
AK 1 (
Ac (not b49) (
BN T.a5 a26 λn50 n51 n52 n53 n54 n55 n56=>
AL T.a0 a0 λn57 n58 n59 n60 n61 n62 l63=>
.call F.a21 [BM n50 n51 n52 n53 n54 n55 n56,AM n57 n58 n59 n60 n61 n62 l63] (.tup [.agg [.bool,.int .i64],.one .bool]) (u3 λb64 (n65:Int) b66=>
AI T.a7 λa67=>
AJ T.a7 a67 (BI b64 n65)<|
Au b66 (
BQ T.a7 a67 λb69 n70=>
AJ T.a7 a1 (BI b69 n70)<|
BQ T.a7 a1 λb71 n72=>
Ad 0 [BI b71 n72,Ak 0])<|
Ad 1 []))<|
Ad 1 [])<|
BN T.a5 a26 λn73 n74 n75 n76 n77 n78 n79=>
AL T.a0 a0 λn80 n81 n82 n83 n84 n85 l86=>
AC F.a19 [Al t,BM n73 n74 n75 n76 n77 n78 n79,.bool b27,AM n80 n81 n82 n83 n84 n85 l86] λn87=>
AJ T.a7 a1 (BI false 0)<|
Ai n87 λn88=>
BQ T.a7 a1 λb89 n90=>
Ad 0 [BI b89 n90,Ak n88])
theorem ztj (t:Option Addr) (b_0 b_1 b_2 b_3 b_4 b_5:Int) (b_6:Sl):FnS (z084 t b_0 b_1 b_2 b_3 b_4 b_5 b_6) F.a16 #[.pointer t,.agg #[.int .i64 b_0,.int .i64 b_1,.int .i64 b_2,.int .i64 b_3,.int .i64 b_4,.int .i64 b_5,.slice b_6.a b_6.len b_6.cap]]:=dV ⟨[(18374686479678046251,[])],[],[],[]⟩ Go.Proofs.Tryz.func245 (by kernel_rfl)
def z087 (t:Option Addr) (pid:Int):Prog :=
AI T.a5 λa0=>
Aa t λa2=>
B2 T.a19 a2 2 λm3=>
.read True (Instr.lookup T.a19 (.map m3) (Ak pid) true) (.tup [.agg [.int .i64,.int .i64,.int .i64,.int .i64,.int .i64,.int .i64,.int .i64],.one .bool]) (u8 λ(n4 n5 n6 n7 n8 n9 n10:Int) b11=>
AI T.a5 λa12=>
AJ T.a5 a12 (BM n4 n5 n6 n7 n8 n9 n10)<|
Ay b11 λb13=>
Ac (not b13) (
AJ T.a5 a0 (.agg #[Ak pid,Ak (-1),Ak 0,Ak 0,Ak 0,Ak (-1),Ak 0])<|
BN T.a5 a0 λn14 n15 n16 n17 n18 n19 n20=>
Ad 0 [BM n14 n15 n16 n17 n18 n19 n20,.bool false])<|
BN T.a5 a12 λn21 n22 n23 n24 n25 n26 n27=>
AJ T.a5 a0 (BM n21 n22 n23 n24 n25 n26 n27)<|
BN T.a5 a0 λn28 n29 n30 n31 n32 n33 n34=>
Ad 0 [BM n28 n29 n30 n31 n32 n33 n34,.bool true])
theorem ztn (t:Option Addr) (pid:Int):FnS (z087 t pid) F.a20 #[.pointer t,.int .i64 pid]:=dV ⟨[],[],[],[]⟩ Go.Proofs.Tryz.func246 (by kernel_rfl)
def z083 (r_0 r_1 r_2 r_3 r_4 r_5:Int) (r_6:Int):Prog :=
As T.a5 (BM r_0 r_1 r_2 r_3 r_4 r_5 r_6) λa0=>
Ab T.a14 a0 5 λn1=>
Ay (decide (n1>=0)) λb2=>
Ad 0 [.bool b2]
theorem zti (r_0 r_1 r_2 r_3 r_4 r_5 r_6:Int):FnS (z083 r_0 r_1 r_2 r_3 r_4 r_5 r_6) F.a15 #[.agg #[.int .i64 r_0,.int .i64 r_1,.int .i64 r_2,.int .i64 r_3,.int .i64 r_4,.int .i64 r_5,.int .i64 r_6]]:=dV ⟨[],[],[],[]⟩ Go.Proofs.Tryz.func247 (by kernel_rfl)
def z093 (v:Option Addr) (b_0 b_1 b_2 b_3 b_4 b_5:Int) (b_6:Sl):Prog :=
As T.a0 (AM b_0 b_1 b_2 b_3 b_4 b_5 b_6) λa0=>
Ac (Option.isNone v) (
Ad 0 [Ak 1])<|
AL T.a0 a0 λn1 n2 n3 n4 n5 n6 l7=>
AC F.a104 [AM n1 n2 n3 n4 n5 n6 l7] λn8=>
Ai n8 λn9=>
Ac (n9 != 0) (
Ai n9 λn10=>
Ad 0 [Ak n10])<|
Ae<|
Ab T.a14 a0 0 λn11=>
Aa v λa13=>
Ab T.a14 a13 0 λn14=>
Ay (decide (n11<n14)) λb15=>
Aj<|
Ac b15 (
Ad 0 [Ak 8])<|
Ab T.a13 a0 4 λn16=>
Au (n16 != 0) (
AL T.a0 a0 λn18 n19 n20 n21 n22 n23 l24=>
AC F.a61 [Al v,AM n18 n19 n20 n21 n22 n23 l24] λn25=>
Ai n25 λn26=>
Ad 0 [Ak n26])<|
Ad 0 [Ak 0]
theorem zuj (v:Option Addr) (b_0 b_1 b_2 b_3 b_4 b_5:Int) (b_6:Sl):FnS (z093 v b_0 b_1 b_2 b_3 b_4 b_5 b_6) F.a55 #[.pointer v,.agg #[.int .i64 b_0,.int .i64 b_1,.int .i64 b_2,.int .i64 b_3,.int .i64 b_4,.int .i64 b_5,.slice b_6.a b_6.len b_6.cap]]:=dV ⟨[],[],[],[]⟩ Go.Proofs.Tryz.func248 (by kernel_rfl)
def z097 (l_0 l_1 l_2:Int) (l_3:Int):Prog :=
As T.a18 (BB l_0 l_1 l_2 l_3) λa0=>
AI T.a15 λa1=>
Ab T.a14 (Addr.add a0 0) 0 λn2=>
Ab T.a13 (Addr.add a0 0) 1 λn3=>
Ab T.a14 a0 2 λn4=>
Ab T.a14 a0 3 λn5=>
AJ T.a15 a1 (BB n2 n3 n4 n5)<|
BO T.a15 a1 λn6 n7 n8 n9=>
Ad 0 [BB n6 n7 n8 n9]
theorem zup (l_0 l_1 l_2 l_3:Int):FnS (z097 l_0 l_1 l_2 l_3) F.a62 #[.agg #[.int .i64 l_0,.int .i64 l_1,.int .i64 l_2,.int .i64 l_3]]:=dV ⟨[],[],[],[]⟩ Go.Proofs.Tryz.func257 (by kernel_rfl)
def z094 (a_0 a_1 a_2 a_3 b_0 b_1 b_2:Int) (b_3:Int):Prog :=
As T.a15 (BB a_0 a_1 a_2 a_3) λa0=>
As T.a15 (BB b_0 b_1 b_2 b_3) λa1=>
Ab T.a14 a0 2 λn2=>
Ab T.a14 a1 2 λn3=>
AC F.a1 [Ak n2,Ak n3] λn4=>
Ai n4 λn5=>
Ad 0 [Ak n5]
theorem zul (a_0 a_1 a_2 a_3 b_0 b_1 b_2 b_3:Int):FnS (z094 a_0 a_1 a_2 a_3 b_0 b_1 b_2 b_3) F.a58 #[.agg #[.int .i64 a_0,.int .i64 a_1,.int .i64 a_2,.int .i64 a_3],.agg #[.int .i64 b_0,.int .i64 b_1,.int .i64 b_2,.int .i64 b_3]]:=dV ⟨[],[],[],[]⟩ Go.Proofs.Tryz.func259 (by kernel_rfl)
def z082 (r_0 r_1 r_2 r_3 r_4 r_5:Int) (r_6:Int):Prog :=
As T.a5 (BM r_0 r_1 r_2 r_3 r_4 r_5 r_6) λa0=>
Ab T.a13 a0 2 λn1=>
Ab T.a13 a0 3 λn2=>
Ai (Ao (n1+n2)) λn3=>
Ad 0 [Ak n3]
theorem zth (r_0 r_1 r_2 r_3 r_4 r_5 r_6:Int):FnS (z082 r_0 r_1 r_2 r_3 r_4 r_5 r_6) F.a14 #[.agg #[.int .i64 r_0,.int .i64 r_1,.int .i64 r_2,.int .i64 r_3,.int .i64 r_4,.int .i64 r_5,.int .i64 r_6]]:=dV ⟨[],[],[],[]⟩ Go.Proofs.Tryz.func293 (by kernel_rfl)
def z089 (b_0 b_1 b_2 b_3 b_4 b_5:Int) (b_6:Sl):Prog :=
As T.a0 (AM b_0 b_1 b_2 b_3 b_4 b_5 b_6) λa0=>
Ab T.a13 a0 4 λn1=>
Bc ((n1 == 2)=false) T.a13 a0 4 λn2=>
Ay (n1 == 2 || n2 == 3) λb3=>
Ad 0 [.bool b3]
theorem ztp (b_0 b_1 b_2 b_3 b_4 b_5:Int) (b_6:Sl):FnS (z089 b_0 b_1 b_2 b_3 b_4 b_5 b_6) F.a22 #[.agg #[.int .i64 b_0,.int .i64 b_1,.int .i64 b_2,.int .i64 b_3,.int .i64 b_4,.int .i64 b_5,.slice b_6.a b_6.len b_6.cap]]:=dV ⟨[],[],[],[]⟩ Go.Proofs.Tryz.func295 (by kernel_rfl)
def z088 (r_0 r_1 r_2 r_3 r_4 r_5 r_6 b_0 b_1 b_2 b_3 b_4 b_5:Int) (b_6:Sl):Prog :=
As T.a5 (BM r_0 r_1 r_2 r_3 r_4 r_5 r_6) λa0=>
As T.a0 (AM b_0 b_1 b_2 b_3 b_4 b_5 b_6) λa1=>
AI T.a7 λa2=>
Av 1 (
Ae<|
Ab T.a13 a1 2 λn3=>
Ab T.a13 a0 1 λn4=>
AV ((n3 != n4)=false) (ld T.a13 (Addr.add a1 3)) λn5=>
.hold ((n3 != n4)=false) (ld T.a39 (Addr.add a1 6)) sL (u1 λl6=>
.read ((n3 != n4)=false) (ld T.a5 a0) (sG [.int .i64,.int .i64,.int .i64,.int .i64,.int .i64,.int .i64,.int .i64]) (u7 λ(n7 n8 n9 n10 n11 n12 n13:Int)=>
Ac (n3 != n4) (
Aj<|
Ad 1 [.bool true])<|
AC F.a14 [BM n7 n8 n9 n10 n11 n12 n13] λn14=>
Aj<|
Ad 1 [.bool (decide (Ao (n5+(Ag l6))>n14))]))) λb15=>
Ac b15 (
AJ T.a7 a2 (BI false 0)<|
BQ T.a7 a2 λb16 n17=>
Ad 0 [BI b16 n17,.bool false])<|
Ab T.a13 a1 3 λn18=>
Ab T.a13 a0 2 λn19=>
AG ((n18 == n19)=true) T.a39 a1 6 λl20=>
Bc ((n18 == n19)=true) T.a13 a0 3 λn21=>
Ac (n18 == n19 && (Ag l20) == n21) (
Ab T.a14 a0 4 λn22=>
AJ T.a7 a2 (BI true n22)<|
BQ T.a7 a2 λb23 n24=>
Ad 0 [BI b23 n24,.bool true])<|
AJ T.a7 a2 (.agg #[.bool true,Ak (-1)])<|
BQ T.a7 a2 λb25 n26=>
Ad 0 [BI b25 n26,.bool true]
theorem zto (r_0 r_1 r_2 r_3 r_4 r_5 r_6 b_0 b_1 b_2 b_3 b_4 b_5:Int) (b_6:Sl):FnS (z088 r_0 r_1 r_2 r_3 r_4 r_5 r_6 b_0 b_1 b_2 b_3 b_4 b_5 b_6) F.a21 #[.agg #[.int .i64 r_0,.int .i64 r_1,.int .i64 r_2,.int .i64 r_3,.int .i64 r_4,.int .i64 r_5,.int .i64 r_6],.agg #[.int .i64 b_0,.int .i64 b_1,.int .i64 b_2,.int .i64 b_3,.int .i64 b_4,.int .i64 b_5,.slice b_6.a b_6.len b_6.cap]]:=dV ⟨[],[],[(1,[(21,.one .bool)])],[]⟩ Go.Proofs.Tryz.func296 (by kernel_rfl)
def z086 (t:Option Addr) (r_0 r_1 r_2 r_3 r_4 r_5 r_6:Int) (there:Bool) (b_0 b_1 b_2 b_3 b_4 b_5:Int) (b_6:Sl):Prog :=
As T.a5 (BM r_0 r_1 r_2 r_3 r_4 r_5 r_6) λa0=>
As T.a0 (AM b_0 b_1 b_2 b_3 b_4 b_5 b_6) λa1=>
BN T.a5 a0 λn2 n3 n4 n5 n6 n7 n8=>
AC F.a14 [BM n2 n3 n4 n5 n6 n7 n8] λn9=>
Ai n9 λn10=>
Ab T.a13 a1 2 λn11=>
Ab T.a13 a0 1 λn12=>
AA 1 (
Ac (decide (n11>n12)) (
Ad 1 [Ak 0])<|
Ad 1 [Ak n10]) λn13=>
BN T.a5 a0 λn14 n15 n16 n17 n18 n19 n20=>
Aw F.a15 [BM n14 n15 n16 n17 n18 n19 n20] λb21=>
Bc (b21=true) T.a13 a1 2 λn22=>
Bc (b21=true) T.a13 a0 1 λn23=>
Bc (b21=true/\decide (n22>n23)=false) T.a13 a1 4 λn24=>
Au (b21 && (decide (n22>n23) || n24 == 0)) (
Ad 0 [Ak 22])<|
AL T.a0 a1 λn26 n27 n28 n29 n30 n31 l32=>
Aw F.a22 [AM n26 n27 n28 n29 n30 n31 l32] λb33=>
Bc (not b33=true) T.a13 a1 3 λn34=>
Au (not b33 && n34 != n13) (
Ad 0 [Ak 21])<|
Ae<|
AF (not there=true) t λa37=>
B4 (not there=true) T.a19 a37 2 λm38=>
BT (not there=true) (Builtin.len_ #[T.a19] T.a13 #[.map m38]) λn39=>
AF (not there=true) t λa41=>
Bc (not there=true) T.a13 a41 0 λn42=>
Ay (not there && decide (n39>=n42)) λb43=>
Aj<|
Ac b43 (
Ad 0 [Ak 5])<|
Ad 0 [Ak 0]
theorem ztm (t:Option Addr) (r_0 r_1 r_2 r_3 r_4 r_5 r_6:Int) (there:Bool) (b_0 b_1 b_2 b_3 b_4 b_5:Int) (b_6:Sl):FnS (z086 t r_0 r_1 r_2 r_3 r_4 r_5 r_6 there b_0 b_1 b_2 b_3 b_4 b_5 b_6) F.a19 #[.pointer t,.agg #[.int .i64 r_0,.int .i64 r_1,.int .i64 r_2,.int .i64 r_3,.int .i64 r_4,.int .i64 r_5,.int .i64 r_6],.bool there,.agg #[.int .i64 b_0,.int .i64 b_1,.int .i64 b_2,.int .i64 b_3,.int .i64 b_4,.int .i64 b_5,.slice b_6.a b_6.len b_6.cap]]:=dV ⟨[(2097168,[(9,.one (.int .i64))])],[],[],[]⟩ Go.Proofs.Tryz.func297 (by kernel_rfl)
def z096 (v:Option Addr) (b_0 b_1 b_2 b_3 b_4 b_5:Int) (b_6:Sl):Prog :=
As T.a0 (AM b_0 b_1 b_2 b_3 b_4 b_5 b_6) λa0=>
Ab T.a14 a0 1 λn1=>
Ab T.a13 a0 2 λn2=>
AI T.a17 λa3=>
AJ T.a17 a3 (Ar n1 n2)<|
Av 1 (
Ae<|
Aa v λa5=>
BK T.a21 a5 2 λm6=>
.hold True (ld T.a17 a3) (sG [.int .i64,.int .i64]) (u2 λ(n7 n8:Int)=>
BL (Instr.lookup T.a21 (.map m6) (Ar n7 n8) true) λn9 n10 n11 n12 b13=>
AI T.a18 λa14=>
Aj<|
AJ T.a18 a14 (BB n9 n10 n11 n12)<|
Ay b13 λb15=>
Aj<|
Ad 1 [.bool b15])) λb16=>
BJ 1 (
Ae<|
Aa v λa18=>
BK T.a20 a18 1 λm19=>
Bb T.a14 a0 1 λn20=>
BL (Instr.lookup T.a20 (.map m19) (Ak n20) true) λn21 n22 n23 n24 b25=>
AI T.a18 λa26=>
Aj<|
AJ T.a18 a26 (BB n21 n22 n23 n24)<|
Ay b25 λb27=>
Aj<|
Ad 1 [A8 a26,.bool b27]) λa28 b29=>
Au b16 (
Ad 0 [Ak 20])<|
Ax (b29=true) (ld T.a17 (Addr.add a28 0)) λn31 n32=>
Ax (b29=true) (ld T.a17 a3) λn33 n34=>
Au (b29 && not (n31 == n33 && n32 == n34)) (
Ad 0 [Ak 22])<|
Ab T.a13 a0 4 λn36=>
AF ((n36 == 1 && not b29)=true) v λa38=>
B4 ((n36 == 1 && not b29)=true) T.a20 a38 1 λm39=>
BT ((n36 == 1 && not b29)=true) (Builtin.len_ #[T.a20] T.a13 #[.map m39]) λn40=>
Au (n36 == 1 && not b29 && decide (n40>=1024)) (
Ad 0 [Ak 5])<|
Ab T.a13 a0 4 λn42=>
AF ((n42 == 3 && b29)=true) v λa44=>
B4 ((n42 == 3 && b29)=true) T.a21 a44 2 λm45=>
BT ((n42 == 3 && b29)=true) (Builtin.len_ #[T.a21] T.a13 #[.map m45]) λn46=>
Au (n42 == 3 && b29 && decide (n46>=4096)) (
Ad 0 [Ak 5])<|
Ad 0 [Ak 0]
theorem zuo (v:Option Addr) (b_0 b_1 b_2 b_3 b_4 b_5:Int) (b_6:Sl):FnS (z096 v b_0 b_1 b_2 b_3 b_4 b_5 b_6) F.a61 #[.pointer v,.agg #[.int .i64 b_0,.int .i64 b_1,.int .i64 b_2,.int .i64 b_3,.int .i64 b_4,.int .i64 b_5,.slice b_6.a b_6.len b_6.cap]]:=dV ⟨[],[],[(2,[(7,.one .bool)]),(3,[(8,.one .adr),(9,.one .bool)])],[]⟩ Go.Proofs.Tryz.func298 (by kernel_rfl)
def z02r (l:Sl):Prog :=
.call F.a163 [Ak 50] (sG [.int .i64,.int .i64,.int .i64]) (u3 λ(n0 n1 n2:Int)=>
AI T.a35 λa3=>
AJ T.a35 a3 (Bq n0 n1 n2)<|
Bv F.a36 [Ak 1048576] λp4 n5=>
Ai n5 λn6=>
Bw T.a35 a3 λn7 n8 n9=>
Bv F.a75 [Al p4,.string (ByteArray.mk #[111]),Bq n7 n8 n9] λp10 n11=>
Ai n11 λn12=>
Ac (n12 != 0) (
Ad 0 [.bool false])<|
AK 1 (
AO 2 (⟨none,0,0⟩,(0,())) λl13 n14=>
Ac (decide (n14<(Ag l))) (
AN 3 (
.ex [.adr] (c1 λa15=>0<=n14/\n14<(Ag l)/\l.a=some a15) (u1 λa16=>
.read True (ld T.a55 (Addr.add a16 (Int.toNat n14*7))) (sG [.int .i64,.int .i64,.int .i64,.int .i64,.int .i64,.bool,.slc]) (u7 λ(n17 n18 n19 n20 n21:Int) b22 l23=>
AI T.a55 λa24=>
Ai n14 λn25=>
AJ T.a55 a24 (.agg #[Ak n17,Ak n18,Ak n19,Ak n20,Ak n21,.bool b22,l23.v])<|
Ac (decide (n25>=30)) (
Ad 1 [])<|
Ab T.a13 a24 0 λn26=>
AK 4 (
Ac (decide (n26>=3)) (
Ab T.a14 a24 1 λn27=>
Ab T.a13 a24 2 λn28=>
Bz T.a3 a24 5 λb29=>
Ab T.a14 a24 4 λn30=>
AE F.a70 [Al p10,Ak n27,Ak n28,.bool b29,Ak n30] λb31 n32=>
Ad 4 [])<|
Af T.a49 a24 6 λl33=>
Aq F.a164 [l33.v] λl34=>
AN 5 (
AO 6 (⟨none,0,0⟩,(0,())) λl35 n36=>
Ac (decide (n36<(Ag l34))) (
.ex [.adr] (c1 λa37=>0<=n36/\n36<(Ag l34)/\l34.a=some a37) (u1 λa38=>
BC T.a57 a38 (Int.toNat n36*4) λn39 n40 n41 n42=>
AI T.a57 λa43=>
AJ T.a57 a43 (BB n39 n40 n41 n42)<|
BO T.a57 a43 λn44 n45 n46 n47=>
BR F.a165 [BB n44 n45 n46 n47] λn48 n49 n50 n51=>
Ap (Instr.buildSlice T.a43 1 #[(0,BB n48 n49 n50 n51)]) λl52=>
Ap (app T.a43 T.a43 T.a43 l35.v l52.v) λl53=>
Ad 6 [l53.v,Ak (Ao (n36+1))]))<|
Ad 5 [l35.v]) λl54=>
Ab T.a14 a24 1 λn55=>
Ab T.a13 a24 2 λn56=>
Ab T.a13 a24 3 λn57=>
Ab T.a14 a24 4 λn58=>
AE F.a72 [Al p10,Ak n55,Ak n56,Ak n57,Ak n58,l54.v] λb59 n60=>
Ad 4 [])<|
Aq F.a68 [Al p10] λl61=>
Aq F.a69 [Al p10] λl62=>
AK 4 (
AR 5 (0,()) λn63=>
Ac (decide (n63<(Ag l13))) (
.ex [.adr] (c1 λa64=>0<=n63/\n63<(Ag l13)/\l13.a=some a64) (u1 λa65=>
BC T.a23 a65 (Int.toNat n63*4) λn66 n67 n68 n69=>
AI T.a23 λa70=>
AJ T.a23 a70 (BB n66 n67 n68 n69)<|
Ab T.a13 a70 0 λn71=>
.call F.a71 [Al p10,Ak n71] (.tup [.agg [.int .i64,.int .i64,.int .i64,.int .i64],.one .bool]) (u5 λ(n72 n73 n74 n75:Int) b76=>
AI T.a23 λa77=>
AJ T.a23 a77 (BB n72 n73 n74 n75)<|
Ay b76 λb78=>
Ac (not b78) (
Ad 0 [.bool false])<|
Ad 5 [Ak (Ao (n63+1))])))<|
Ad 4 [])<|
AK 4 (
AR 5 (0,()) λn79=>
Ac (decide (n79<(Ag l61))) (
AK 6 (
.ex [.adr] (c1 λa80=>0<=n79/\n79<(Ag l61)/\l61.a=some a80) (u1 λa81=>
BC T.a23 a81 (Int.toNat n79*4) λn82 n83 n84 n85=>
AI T.a23 λa86=>
AJ T.a23 a86 (BB n82 n83 n84 n85)<|
Av 7 (
BU 8 (false,(0,())) λb87 n88=>
Ac (decide (n88<(Ag l62))) (
Av 9 (
.ex [.adr] (c1 λa89=>0<=n88/\n88<(Ag l62)/\l62.a=some a89) (u1 λa90=>
AX T.a0 a90 (Int.toNat n88*7) λn91 n92 n93 n94 n95 n96 l97=>
AI T.a0 λa98=>
Ai n88 λn99=>
AJ T.a0 a98 (AM n91 n92 n93 n94 n95 n96 l97)<|
Af T.a39 a98 6 λl100=>
Av 10 (
BU 11 (b87,(0,())) λb101 n102=>
Ac (decide (n102<(Ag l100))) (
Av 12 (
.ex [.adr] (c1 λa103=>0<=n102/\n102<(Ag l100)/\l100.a=some a103) (u1 λa104=>
AY T.a2 a104 (Int.toNat n102*4) λs105 s106 b107 n108=>
AI T.a2 λa109=>
AJ T.a2 a109 (AZ s105 s106 b107 n108)<|
Ba T.a2 a109 λs110 s111 b112 n113=>
BV F.a171 [AZ s110 s111 b112 n113] λn114 n115 n116 n117 n118=>
AI T.a57 λa119=>
AJ T.a57 a119 (BB n114 n115 n116 n117)<|
Ai n118 λn120=>
Av 13 (
Ae<|
.hold ((n120 != 0)=false) (ld T.a57 a119) (sG [.int .i64,.int .i64,.int .i64,.int .i64]) (u4 λ(n121 n122 n123 n124:Int)=>
.read ((n120 != 0)=false) (ld T.a23 a86) (sG [.int .i64,.int .i64,.int .i64,.int .i64]) (u4 λ(n125 n126 n127 n128:Int)=>
Ac (n120 != 0) (
Aj<|
Ad 13 [.bool true])<|
BR F.a166 [BB n125 n126 n127 n128] λn129 n130 n131 n132=>
Aj<|
Ad 13 [.bool (not (n121 == n129 && (n122 == n130 && (n123 == n131 && n124 == n132))))]))) λb133=>
Ac b133 (
Ad 12 [.bool b101])<|
.must (0<=Ao (n99+1)/\Ao (n99+1)<=(Ag l62)) <|
Av 13 (
BU 14 (b101,(0,())) λb134 n135=>
Ac (decide (n135<((l62.len-Int.toNat (Ao (n99+1)):Nat):Int))) (
.ex [.adr] (c1 λa136=>0<=n135/\n135<((l62.len-Int.toNat (Ao (n99+1)):Nat):Int)/\z0q l62.a 7 (Int.toNat (Ao (n99+1))) l62.cap=some a136) (u1 λa137=>
AX T.a0 a137 (Int.toNat n135*7) λn138 n139 n140 n141 n142 n143 l144=>
AI T.a0 λa145=>
AJ T.a0 a145 (AM n138 n139 n140 n141 n142 n143 l144)<|
Bc (b134=false) T.a13 a145 4 λn146=>
Bc (b134=false/\(n146 == 2)=true) T.a14 a145 1 λn147=>
Bc (b134=false/\(n146 == 2)=true) T.a14 a98 1 λn148=>
Bc (b134=false/\(n146 == 2 && n147 == n148)=true) T.a13 a145 2 λn149=>
Bc (b134=false/\(n146 == 2 && n147 == n148)=true) T.a13 a98 2 λn150=>
Ay (b134 || n146 == 2 && n147 == n148 && n149 == n150) λb151=>
Ad 14 [.bool b151,Ak (Ao (n135+1))]))<|
Ad 13 [.bool b134]) λb152=>
Ad 12 [.bool b152])) λb153=>
Ad 11 [.bool b153,Ak (Ao (n102+1))])<|
Ad 10 [.bool b101]) λb154=>
Ad 9 [.bool b154])) λb155=>
Ad 8 [.bool b155,Ak (Ao (n88+1))])<|
Ad 7 [.bool b87]) λb156=>
Ac (not b156) (
Ad 0 [.bool false])<|
Ad 6 []))<|
Ad 5 [Ak (Ao (n79+1))])<|
Ad 4 [])<|
Ad 3 [l61.v]))) λl157=>
Ad 2 [l157.v,Ak (Ao (n14+1))])<|
Ad 1 [])<|
Aw F.a162 [] λb158=>
Ay b158 λb159=>
Ad 0 [.bool b159])
theorem zoz (l:Sl):FnS (z02r l) F.a161 #[.slice l.a l.len l.cap]:=dV ⟨[(10141204801530687306794314760247,[])],[(0,[]),(1,[(8,.one .slc)]),(2,[(11,.one .slc)]),(4,[]),(6,[]),(7,[]),(8,[(22,.one .bool)]),(9,[(22,.one .bool)]),(10,[(22,.one .bool)]),(11,[(22,.one .bool)]),(12,[(22,.one .bool)])],[(40,[(143,.one .bool)])],[(0,[(8,.one .slc),(46,.one (.int .i64))]),(2,[(11,.one .slc),(70,.one (.int .i64))]),(4,[(97,.one (.int .i64))]),(6,[(113,.one (.int .i64))]),(8,[(22,.one .bool),(119,.one (.int .i64))]),(10,[(22,.one .bool),(127,.one (.int .i64))]),(12,[(22,.one .bool),(149,.one (.int .i64))])]⟩ Go.Proofs.Tryz.func3 (by kernel_rfl)
def z02s (seg:Int):Prog :=
AI T.a35 λa0=>
Ai (Int.tmod seg 200) λn1=>
AA 1 (
Ac (decide (n1<0)) (
Ai (Ao (0-n1)) λn2=>
Ad 1 [Ak n2])<|
Ad 1 [Ak n1]) λn3=>
AJ T.a35 a0 (.agg #[Ak (Ao (64+n3)),Ak 30,Ak 20])<|
Bw T.a35 a0 λn4 n5 n6=>
Ad 0 [Bq n4 n5 n6]
theorem zp0 (seg:Int):FnS (z02s seg) F.a163 #[.int .i64 seg]:=dV ⟨[(1576966,[(0,.one (.int .i64))])],[],[],[]⟩ Go.Proofs.Tryz.func12 (by kernel_rfl)
def z09g (d:Option Addr) (prefix_:ByteArray) (c_0 c_1:Int) (c_2:Int):Prog :=
As T.a35 (Bq c_0 c_1 c_2) λa0=>
Bw T.a35 a0 λn1 n2 n3=>
Bv F.a80 [Al d,.string prefix_,Bq n1 n2 n3] λp4 n5=>
Ai n5 λn6=>
Ac (n6 != 0) (
Ai n6 λn7=>
Ad 0 [Al none,Ak n7])<|
AC F.a83 [Al p4] λn8=>
Bh F.a3 [] λp9=>
As T.a24 (.agg #[Al p4,Ak n8,Al p9]) λa10=>
Am F.a74 [A8 a10]<|
Ad 0 [A8 a10,Ak 0]
theorem zuy (d:Option Addr) (prefix_:ByteArray) (c_0 c_1 c_2:Int):FnS (z09g d prefix_ c_0 c_1 c_2) F.a75 #[.pointer d,.string prefix_,.agg #[.int .i64 c_0,.int .i64 c_1,.int .i64 c_2]]:=dV ⟨[],[],[],[]⟩ Go.Proofs.Tryz.func14 (by kernel_rfl)
def z09c (o:Option Addr) (pid epoch:Int) (commit:Bool) (time:Int):Prog :=
Ac (Option.isNone o) (
Ad 0 [.bool false,Ak 1])<|
Aa o λa1=>
AH T.a32 a1 0 λp2=>
BD F.a84 [Al p2,Ak pid,Ak epoch,.bool commit,Ak time] λn3 b4 n5=>
Ai n3 λn6=>
Ay b4 λb7=>
Ai n5 λn8=>
AK 1 (
Ac (n8 == 0) (
Am F.a74 [Al o]<|
Ad 1 [])<|
Ad 1 [])<|
Ay b7 λb9=>
Ai n8 λn10=>
Ad 0 [.bool b9,Ak n10]
theorem zuu (o:Option Addr) (pid epoch:Int) (commit:Bool) (time:Int):FnS (z09c o pid epoch commit time) F.a70 #[.pointer o,.int .i64 pid,.int .i64 epoch,.bool commit,.int .i64 time]:=dV ⟨[(52776558133279,[])],[],[],[]⟩ Go.Proofs.Tryz.func15 (by kernel_rfl)
def z02t (l:Sl):Prog :=
Ac (decide ((Ag l)>4)) (
.must ((0:Int)<=4/\4<=((l.cap:Nat):Int)) <|
Ad 0 [.slice l.a 4 l.cap])<|
Ad 0 [l.v]
theorem zp1 (l:Sl):FnS (z02t l) F.a164 #[.slice l.a l.len l.cap]:=dV ⟨[],[],[],[]⟩ Go.Proofs.Tryz.func16 (by kernel_rfl)
def z02u (c_0 c_1 c_2:Int) (c_3:Int):Prog :=
As T.a57 (BB c_0 c_1 c_2 c_3) λa0=>
AI T.a23 λa1=>
Ab T.a13 a0 0 λn2=>
Ab T.a14 a0 1 λn3=>
Ab T.a13 a0 2 λn4=>
Ab T.a13 a0 3 λn5=>
AJ T.a23 a1 (BB n2 n3 n4 n5)<|
BO T.a23 a1 λn6 n7 n8 n9=>
Ad 0 [BB n6 n7 n8 n9]
theorem zp2 (c_0 c_1 c_2 c_3:Int):FnS (z02u c_0 c_1 c_2 c_3) F.a165 #[.agg #[.int .i64 c_0,.int .i64 c_1,.int .i64 c_2,.int .i64 c_3]]:=dV ⟨[],[],[],[]⟩ Go.Proofs.Tryz.func17 (by kernel_rfl)
def z00w (o:Option Addr) (pid epoch seq time:Int) (cs:Sl):Prog :=
Ac (Option.isNone o) (
Ad 0 [.bool false,Ak 1])<|
Ac ((Ag cs) == 0) (
Ad 0 [.bool false,Ak 3])<|
AI T.a0 λa0=>
AJ T.a0 a0 (.agg #[Ak 0,Ak pid,Ak epoch,Ak seq,Ak 1,Ak time,.slice none 0 0])<|
AK 1 (
AR 2 (0,()) λn1=>
Ac (decide (n1<(Ag cs))) (
.ex [.adr] (c1 λa2=>0<=n1/\n1<(Ag cs)/\cs.a=some a2) (u1 λa3=>
BC T.a23 a3 (Int.toNat n1*4) λn4 n5 n6 n7=>
AI T.a23 λa8=>
AJ T.a23 a8 (BB n4 n5 n6 n7)<|
BO T.a23 a8 λn9 n10 n11 n12=>
.call F.a77 [BB n9 n10 n11 n12,Ak time] (.tup [.agg [.str,.str,.bool,.int .i64],.one (.int .i64)]) (u5 λs13 s14 b15 (n16 n17:Int)=>
AI T.a2 λa18=>
AJ T.a2 a18 (AZ s13 s14 b15 n16)<|
Ai n17 λn19=>
Ac (n19 != 0) (
Ai n19 λn20=>
Ad 0 [.bool false,Ak n20])<|
Af T.a39 a0 6 λl21=>
Ba T.a2 a18 λs22 s23 b24 n25=>
Ap (Instr.buildSlice T.a39 1 #[(0,AZ s22 s23 b24 n25)]) λl26=>
Ap (app T.a39 T.a39 T.a39 l21.v l26.v) λl27=>
An T.a39 a0 6 l27.v<|
Ad 2 [Ak (Ao (n1+1))])))<|
Ad 1 [])<|
Ae<|
Aa o λa29=>
AH T.a32 a29 0 λp30=>
AL T.a0 a0 λn31 n32 n33 n34 n35 n36 l37=>
BD F.a81 [Al p30,AM n31 n32 n33 n34 n35 n36 l37] λn38 b39 n40=>
Ai n38 λn41=>
Ay b39 λb42=>
Ai n40 λn43=>
Aj<|
Ay b42 λb44=>
Ai n43 λn45=>
Ad 0 [.bool b44,Ak n45]
theorem zhn (o:Option Addr) (pid epoch seq time:Int) (cs:Sl):FnS (z00w o pid epoch seq time cs) F.a72 #[.pointer o,.int .i64 pid,.int .i64 epoch,.int .i64 seq,.int .i64 time,.slice cs.a cs.len cs.cap]:=dV ⟨[],[(0,[])],[],[(0,[(35,.one (.int .i64))])]⟩ Go.Proofs.Tryz.func18 (by kernel_rfl)
def z09a (o:Option Addr):Prog :=
Ac (Option.isNone o) (
Ad 0 [.slice none 0 0])<|
Aa o λa1=>
AH T.a26 a1 2 λp2=>
Aq F.a4 [Al p2] λl3=>
AN 1 (
AO 2 (⟨none,0,0⟩,(0,())) λl4 n5=>
Ac (decide (n5<(Ag l3))) (
.ex [.adr] (c1 λa6=>0<=n5/\n5<(Ag l3)/\l3.a=some a6) (u1 λa7=>
BG T.a37 a7 (Int.toNat n5*5) λn8 s9 s10 b11 n12=>
AI T.a37 λa13=>
AJ T.a37 a13 (BF n8 s9 s10 b11 n12)<|
AY T.a2 a13 1 λs14 s15 b16 n17=>
BV F.a76 [AZ s14 s15 b16 n17] λn18 n19 n20 n21 n22=>
AI T.a23 λa23=>
AJ T.a23 a23 (BB n18 n19 n20 n21)<|
Ai n22 λn24=>
BO T.a23 a23 λn25 n26 n27 n28=>
Ap (Instr.buildSlice T.a43 1 #[(0,BB n25 n26 n27 n28)]) λl29=>
Ap (app T.a43 T.a43 T.a43 l4.v l29.v) λl30=>
Ad 2 [l30.v,Ak (Ao (n5+1))]))<|
Ad 1 [l4.v]) λl31=>
Ad 0 [l31.v]
theorem zus (o:Option Addr):FnS (z09a o) F.a68 #[.pointer o]:=dV ⟨[],[(0,[(3,.one .slc)])],[],[(0,[(3,.one .slc),(16,.one (.int .i64))])]⟩ Go.Proofs.Tryz.func19 (by kernel_rfl)
def z09b (o:Option Addr):Prog :=
Ac (Option.isNone o) (
Ad 0 [.slice none 0 0])<|
Aa o λa1=>
AH T.a32 a1 0 λp2=>
Aq F.a82 [Al p2] λl3=>
Ad 0 [l3.v]
theorem zut (o:Option Addr):FnS (z09b o) F.a69 #[.pointer o]:=dV ⟨[],[],[],[]⟩ Go.Proofs.Tryz.func20 (by kernel_rfl)
def z09d (o:Option Addr) (part:Int):Prog :=
AI T.a23 λa0=>
Ac (Option.isNone o || decide (part<0) || decide (part>255)) (
AJ T.a23 a0 (BB 0 0 0 0)<|
BO T.a23 a0 λn1 n2 n3 n4=>
Ad 0 [BB n1 n2 n3 n4,.bool false])<|
BJ 1 (
Ae<|
Aa o λa6=>
Bk T.a26 a6 2 λp7=>
.both (
AD F.a79 [Ak part] λs8=>
.both (
Aj<|
BW F.a6 [Al p7,.string s8] λn9 s10 s11 b12 n13 b14=>
AI T.a37 λa15=>
AJ T.a37 a15 (BF n9 s10 s11 b12 n13)<|
Ay b14 λb16=>
Aj<|
Ad 1 [A8 a15,.bool b16]) <|
AI T.a37 λa17=>
Aj<|
BW F.a6 [Al p7,.string s8] λn18 s19 s20 b21 n22 b23=>
AJ T.a37 a17 (BF n18 s19 s20 b21 n22)<|
Ay b23 λb24=>
Aj<|
Ad 1 [A8 a17,.bool b24]) <|
AI T.a37 λa25=>
AD F.a79 [Ak part] λs26=>
Aj<|
BW F.a6 [Al p7,.string s26] λn27 s28 s29 b30 n31 b32=>
AJ T.a37 a25 (BF n27 s28 s29 b30 n31)<|
Ay b32 λb33=>
Aj<|
Ad 1 [A8 a25,.bool b33]) λa34 b35=>
Ac (not b35) (
AJ T.a23 a0 (BB 0 0 0 0)<|
BO T.a23 a0 λn36 n37 n38 n39=>
Ad 0 [BB n36 n37 n38 n39,.bool false])<|
AY T.a2 a34 1 λs40 s41 b42 n43=>
BV F.a76 [AZ s40 s41 b42 n43] λn44 n45 n46 n47 n48=>
AI T.a23 λa49=>
AJ T.a23 a49 (BB n44 n45 n46 n47)<|
Ai n48 λn50=>
BO T.a23 a49 λn51 n52 n53 n54=>
AJ T.a23 a0 (BB n51 n52 n53 n54)<|
BO T.a23 a0 λn55 n56 n57 n58=>
Ad 0 [BB n55 n56 n57 n58,.bool true]
theorem zuv (o:Option Addr) (part:Int):FnS (z09d o part) F.a71 #[.pointer o,.int .i64 part]:=dV ⟨[],[],[(3,[(6,.one .adr),(7,.one .bool)])],[]⟩ Go.Proofs.Tryz.func21 (by kernel_rfl)
def z02z (r_0 r_1:ByteArray) (r_2:Bool) (r_3:Int):Prog :=
As T.a2 (AZ r_0 r_1 r_2 r_3) λa0=>
AI T.a57 λa1=>
Be T.a54 a0 1 λs2=>
Ap (convert T.a54 T.a50 (.string s2)) λl3=>
As T.a56 (.agg #[l3.v,Ak 0,Ak 0]) λa4=>
AQ F.a167 [A8 a4] λn5=>
Ah n5 λn6=>
AQ F.a167 [A8 a4] λn7=>
Ah n7 λn8=>
AQ F.a167 [A8 a4] λn9=>
Ah n9 λn10=>
Ac (decide (n6>2199023255552) || decide (n8>1000) || decide (n10>1099511627776)) (
AJ T.a57 a1 (BB 0 0 0 0)<|
BO T.a57 a1 λn11 n12 n13 n14=>
Ad 0 [BB n11 n12 n13 n14,Ak 6])<|
AK 1 (
AR 2 (0,()) λn15=>
Ac (decide (n15<=255)) (
AI T.a57 λa16=>
AJ T.a57 a16 (.agg #[Ak n15,Ak (Ao n6),Ak (Ao n8),Ak (Ao n10)])<|
BO T.a57 a16 λn17 n18 n19 n20=>
.call F.a172 [BB n17 n18 n19 n20,Ak 0] (.tup [.agg [.str,.str,.bool,.int .i64],.one (.int .i64)]) (u5 λs21 s22 b23 (n24 n25:Int)=>
AI T.a2 λa26=>
AJ T.a2 a26 (AZ s21 s22 b23 n24)<|
Ai n25 λn27=>
Bx ((n27 == 0)=true) T.a54 a26 0 λs28=>
Bx ((n27 == 0)=true) T.a54 a0 0 λs29=>
Bx ((n27 == 0 && ByteArray.toList s28 == ByteArray.toList s29)=true) T.a54 a26 1 λs30=>
Bx ((n27 == 0 && ByteArray.toList s28 == ByteArray.toList s29)=true) T.a54 a0 1 λs31=>
By ((n27 == 0 && ByteArray.toList s28 == ByteArray.toList s29 && ByteArray.toList s30 == ByteArray.toList s31)=true) T.a3 a0 2 λb32=>
Ac (n27 == 0 && ByteArray.toList s28 == ByteArray.toList s29 && ByteArray.toList s30 == ByteArray.toList s31 && not b32) (
BO T.a57 a16 λn33 n34 n35 n36=>
AJ T.a57 a1 (BB n33 n34 n35 n36)<|
BO T.a57 a1 λn37 n38 n39 n40=>
Ad 0 [BB n37 n38 n39 n40,Ak 0])<|
Ai (Ao (n15+1)) λn41=>
Ad 2 [Ak n41]))<|
Ad 1 [])<|
AJ T.a57 a1 (BB 0 0 0 0)<|
BO T.a57 a1 λn42 n43 n44 n45=>
Ad 0 [BB n42 n43 n44 n45,Ak 6]
theorem zp7 (r_0 r_1:ByteArray) (r_2:Bool) (r_3:Int):FnS (z02z r_0 r_1 r_2 r_3) F.a171 #[.agg #[.string r_0,.string r_1,.bool r_2,.int .i64 r_3]]:=dV ⟨[],[(0,[])],[],[(0,[(8,.one (.int .i64))])]⟩ Go.Proofs.Tryz.func22 (by kernel_rfl)
def z02v (c_0 c_1 c_2:Int) (c_3:Int):Prog :=
As T.a23 (BB c_0 c_1 c_2 c_3) λa0=>
AI T.a57 λa1=>
Ab T.a13 a0 0 λn2=>
Ab T.a14 a0 1 λn3=>
Ab T.a13 a0 2 λn4=>
Ab T.a13 a0 3 λn5=>
AJ T.a57 a1 (BB n2 n3 n4 n5)<|
BO T.a57 a1 λn6 n7 n8 n9=>
Ad 0 [BB n6 n7 n8 n9]
theorem zp3 (c_0 c_1 c_2 c_3:Int):FnS (z02v c_0 c_1 c_2 c_3) F.a166 #[.agg #[.int .i64 c_0,.int .i64 c_1,.int .i64 c_2,.int .i64 c_3]]:=dV ⟨[],[],[],[]⟩ Go.Proofs.Tryz.func23 (by kernel_rfl)
def z99  : Prog :=
.act (new T.a23) sA (u1 λa0 =>
.actU (st T.a23 a0 (.agg #[.int .i64 7,.int .i64 300,.int .i64 2,.int .i64 5])) <|
.read True (ld T.a23 a0) (sG [.int .i64,.int .i64,.int .i64,.int .i64]) (u4 λ(n1 n2 n3 n4:Int) =>
.call F.a77 [.agg #[.int .i64 n1,.int .i64 n2,.int .i64 n3,.int .i64 n4],.int .i64 9] (.tup [.agg [.str,.str,.bool,.int .i64],.one (.int .i64)]) (u5 λs5 s6 b7 (n8 n9:Int) =>
.act (new T.a2) sA (u1 λa10 =>
.actU (st T.a2 a10 (.agg #[.string s5,.string s6,.bool b7,.int .i64 n8])) <|
.lt (.int .i64) (n9) λ(n11:Int) =>
.call F.a36 [.int .i64 65536] (.tup [.one .ptr,.one (.int .i64)]) (u2 λp12 (n13:Int) =>
.lt (.int .i64) (n13) λ(n14:Int) =>
.call F.a163 [.int .i64 0] (sG [.int .i64,.int .i64,.int .i64]) (u3 λ(n15 n16 n17:Int) =>
.call F.a75 [.pointer p12,.string (ByteArray.mk #[111]),.agg #[.int .i64 n15,.int .i64 n16,.int .i64 n17]] (.tup [.one .ptr,.one (.int .i64)]) (u2 λp18 (n19:Int) =>
.lt (.int .i64) (n19) λ(n20:Int) =>
.read ((n11 != 0)=false) (ld T.a54 (Addr.add a10 0)) sS (u1 λs21 =>
.read ((n11 != 0 || not (ByteArray.toList s21 == ByteArray.toList (ByteArray.mk #[111,48,48,55])))=false) (ld T.a54 (Addr.add a10 1)) sS (u1 λs22 =>
.ite (n11 != 0 || not (ByteArray.toList s21 == ByteArray.toList (ByteArray.mk #[111,48,48,55])) || not (ByteArray.toList s22 == ByteArray.toList (ByteArray.mk #[172,2,2,5])) || n20 != 0 || Option.isNone p18) (
.done 0 [.bool false]) (
.read True (ld T.a23 a0) (sG [.int .i64,.int .i64,.int .i64,.int .i64]) (u4 λ(n23 n24 n25 n26:Int) =>
.act (Instr.buildSlice T.a43 1 #[(0,.agg #[.int .i64 n23,.int .i64 n24,.int .i64 n25,.int .i64 n26])]) sL (u1 λl27 =>
.call F.a72 [.pointer p18,.int .i64 3,.int .i64 0,.int .i64 0,.int .i64 9,l27.v] (.tup [.one .bool,.one (.int .i64)]) (u2 λb28 (n29:Int) =>
.lt (.bool) (b28) λb30 =>
.lt (.int .i64) (n29) λ(n31:Int) =>
.call F.a71 [.pointer p18,.int .i64 7] (.tup [.agg [.int .i64,.int .i64,.int .i64,.int .i64],.one .bool]) (u5 λ(n32 n33 n34 n35:Int) b36 =>
.act (new T.a23) sA (u1 λa37 =>
.actU (st T.a23 a37 (.agg #[.int .i64 n32,.int .i64 n33,.int .i64 n34,.int .i64 n35])) <|
.lt (.bool) (b36) λb38 =>
.call F.a73 [.pointer p18] sL (u1 λl39 =>
.call F.a70 [.pointer p18,.int .i64 3,.int .i64 0,.bool true,.int .i64 9] (.tup [.one .bool,.one (.int .i64)]) (u2 λb40 (n41:Int) =>
.lt (.bool) (b40) λb42 =>
.lt (.int .i64) (n41) λ(n43:Int) =>
.call F.a71 [.pointer p18,.int .i64 7] (.tup [.agg [.int .i64,.int .i64,.int .i64,.int .i64],.one .bool]) (u5 λ(n44 n45 n46 n47:Int) b48 =>
.act (new T.a23) sA (u1 λa49 =>
.actU (st T.a23 a49 (.agg #[.int .i64 n44,.int .i64 n45,.int .i64 n46,.int .i64 n47])) <|
.lt (.bool) (b48) λb50 =>
.ex [.adr] (c1 λa51=>(not b30 && n31 == 0 && not b38 && ((l39.len:Nat):Int) == 1)=true->(0:Int)<=0/\0<((l39.len:Nat):Int)/\l39.a=some a51) (u1 λa52 =>
.read ((not b30 && n31 == 0 && not b38 && ((l39.len:Nat):Int) == 1)=true) (ld T.a14 (Addr.add (Addr.add (Addr.add a52 0) 2) 1)) (sI .i64) (u1 λ(n53:Int) =>
.read ((not b30 && n31 == 0 && not b38 && ((l39.len:Nat):Int) == 1 && n53 == 300 && n43 == 0 && b50)=true) (ld T.a23 a49) (sG [.int .i64,.int .i64,.int .i64,.int .i64]) (u4 λ(n54 n55 n56 n57:Int) =>
.read ((not b30 && n31 == 0 && not b38 && ((l39.len:Nat):Int) == 1 && n53 == 300 && n43 == 0 && b50)=true) (ld T.a23 a0) (sG [.int .i64,.int .i64,.int .i64,.int .i64]) (u4 λ(n58 n59 n60 n61:Int) =>
.lt (.bool) (not b30 && n31 == 0 && not b38 && ((l39.len:Nat):Int) == 1 && n53 == 300 && n43 == 0 && b50 && (n54 == n58 && (n55 == n59 && (n56 == n60 && n57 == n61)))) λb62 =>
.done 0 [.bool b62])))))))))))))))))))))))
theorem zac :FnS (z99 ) F.a162 #[]:=dV ⟨[],[],[],[]⟩ Go.Proofs.Tryz.func24 (by kernel_rfl)
def z09f (o:Option Addr):Prog :=
Ae<|
Aa o λa1=>
AH T.a32 a1 0 λp2=>
Aa o λa4=>
Ab T.a14 a4 1 λn5=>
.call F.a86 [Al p2,Ak n5,Ak 1099511627776,.bool true] (.tup [.one .slc,.one (.int .i64),.one (.int .i64)]) (u3 λl6 (n7 n8:Int)=>
Ai n7 λn9=>
Ai n8 λn10=>
Aj<|
Ac (n10 != 0) (
Ad 0 [])<|
AK 1 (
AR 2 (0,()) λn11=>
Ac (decide (n11<(Ag l6))) (
.ex [.adr] (c1 λa12=>0<=n11/\n11<(Ag l6)/\l6.a=some a12) (u1 λa13=>
BG T.a37 a13 (Int.toNat n11*5) λn14 s15 s16 b17 n18=>
AI T.a37 λa19=>
AJ T.a37 a19 (BF n14 s15 s16 b17 n18)<|
AY T.a2 a19 1 λs20 s21 b22 n23=>
BV F.a76 [AZ s20 s21 b22 n23] λn24 n25 n26 n27 n28=>
AI T.a23 λa29=>
AJ T.a23 a29 (BB n24 n25 n26 n27)<|
Ai n28 λn30=>
AK 3 (
Ac (n30 == 0) (
AK 4 (
Ae<|
Aa o λa32=>
Bk T.a26 a32 2 λp33=>
BE T.a37 a19 λn34 s35 s36 b37 n38=>
Ap (Instr.buildSlice T.a46 1 #[(0,BF n34 s35 s36 b37 n38)]) λl39=>
Aj<|
AC F.a5 [Al p33,l39.v] λn40=>
Aj<|
Ad 4 [])<|
Ad 3 [])<|
Ad 3 [])<|
Ad 2 [Ak (Ao (n11+1))]))<|
Ad 1 [])<|
Aa o λa42=>
An T.a14 a42 1 (Ak n9)<|
Ad 0 [])
theorem zux (o:Option Addr):FnS (z09f o) F.a74 #[.pointer o]:=dV ⟨[(142989288169013285,[])],[(0,[])],[(7,[])],[(0,[(26,.one (.int .i64))])]⟩ Go.Proofs.Tryz.func60 (by kernel_rfl)
def z09i (c_0 c_1 c_2 c_3:Int) (time:Int):Prog :=
As T.a23 (BB c_0 c_1 c_2 c_3) λa0=>
AI T.a2 λa1=>
BO T.a23 a0 λn2 n3 n4 n5=>
Aw F.a67 [BB n2 n3 n4 n5] λb6=>
Ac (not b6 || decide (time<0) || decide (time>1099511627776)) (
AJ T.a2 a1 (.agg #[.string (ByteArray.mk #[]),.string (ByteArray.mk #[]),.bool false,Ak 0])<|
Ba T.a2 a1 λs7 s8 b9 n10=>
Ad 0 [AZ s7 s8 b9 n10,Ak 2])<|
AN 1 (
Ae<|
Ab T.a14 a0 1 λn11=>
Bb T.a13 a0 2 λn12=>
Bb T.a13 a0 3 λn13=>
Aq F.a188 [.int .u64 (IntKind.wrap .u64 n11)] λl14=>
Aq F.a188 [.int .u64 (IntKind.wrap .u64 n12)] λl15=>
Aj<|
Aq F.a188 [.int .u64 (IntKind.wrap .u64 n13)] λl16=>
Ap (Instr.buildSlice T.a47 3 #[(0,l14.v),(1,l15.v),(2,l16.v)]) λl17=>
Aq F.a176 [l17.v] λl18=>
Aj<|
Ad 1 [l18.v]) λl19=>
AA 1 (
Ae<|
Ab T.a13 a0 0 λn20=>
.hold True (convert T.a50 T.a54 l19.v) sS (u1 λs21=>
AD F.a79 [Ak n20] λs22=>
Aj<|
AJ T.a2 a1 (AZ s22 s21 false time)<|
Aj<|
Ad 1 [Ak 0])) λn23=>
Ba T.a2 a1 λs24 s25 b26 n27=>
Ad 0 [AZ s24 s25 b26 n27,Ak n23]
theorem zv0 (c_0 c_1 c_2 c_3 time:Int):FnS (z09i c_0 c_1 c_2 c_3 time) F.a77 #[.agg #[.int .i64 c_0,.int .i64 c_1,.int .i64 c_2,.int .i64 c_3],.int .i64 time]:=dV ⟨[],[],[(3,[(6,.one .slc)]),(4,[(5,.one (.int .i64))])],[]⟩ Go.Proofs.Tryz.func62 (by kernel_rfl)
def z09h (r_0 r_1:ByteArray) (r_2:Bool) (r_3:Int):Prog :=
As T.a2 (AZ r_0 r_1 r_2 r_3) λa0=>
AI T.a23 λa1=>
Be T.a54 a0 0 λs2=>
By ((((ByteArray.size s2:Nat):Int) != 4)=false) T.a3 a0 2 λb3=>
Ac (((ByteArray.size s2:Nat):Int) != 4 || b3) (
AJ T.a23 a1 (BB 0 0 0 0)<|
BO T.a23 a1 λn4 n5 n6 n7=>
Ad 0 [BB n4 n5 n6 n7,Ak 6])<|
AI T.a23 λa8=>
AJ T.a23 a8 (BB 0 0 0 0)<|
Be T.a54 a0 0 λs9=>
.must ((0:Int)<=1/\1<=((ByteArray.size s9:Nat):Int)) <|
Ap (convert T.a54 T.a50 (.string (ByteArray.extract s9 1 (ByteArray.size s9)))) λl10=>
AK 1 (
AR 2 (0,()) λn11=>
Ac (decide (n11<(Ag l10))) (
.ex [.adr] (c1 λa12=>0<=n11/\n11<(Ag l10)/\l10.a=some a12) (u1 λa13=>
AT T.a58 a13 (Int.toNat n11*1) λn14=>
Bd n14 λn15=>
Ac (decide (n15<48) || decide (n15>57)) (
AJ T.a23 a1 (BB 0 0 0 0)<|
BO T.a23 a1 λn16 n17 n18 n19=>
Ad 0 [BB n16 n17 n18 n19,Ak 6])<|
Ab T.a13 a8 0 λn20=>
An T.a13 a8 0 (Ak (Ao (Ao (n20*10)+Ao (IntKind.wrap .u8 (n15-48)))))<|
Ad 2 [Ak (Ao (n11+1))]))<|
Ad 1 [])<|
Be T.a54 a0 1 λs21=>
Ap (convert T.a54 T.a50 (.string s21)) λl22=>
Bh F.a177 [l22.v] λp23=>
AQ F.a184 [Al p23] λn24=>
AQ F.a184 [Al p23] λn25=>
AQ F.a184 [Al p23] λn26=>
Ah n24 λn27=>
Ah n25 λn28=>
Ah n26 λn29=>
AC F.a179 [Al p23] λn30=>
Ac (n30 != 0 || decide (n27>1099511627776) || decide (n28>64) || decide (n29>2147483647)) (
AJ T.a23 a1 (BB 0 0 0 0)<|
BO T.a23 a1 λn31 n32 n33 n34=>
Ad 0 [BB n31 n32 n33 n34,Ak 6])<|
An T.a14 a8 1 (Ak (Ao n27))<|
An T.a13 a8 2 (Ak (Ao n28))<|
An T.a13 a8 3 (Ak (Ao n29))<|
Av 1 (
Ae<|
BO T.a23 a8 λn35 n36 n37 n38=>
Aw F.a67 [BB n35 n36 n37 n38] λb39=>
.hold (not b39=false) (ld T.a54 (Addr.add a0 0)) sS (u1 λs40=>
Bc (not b39=false) T.a13 a8 0 λn41=>
Ac (not b39) (
Aj<|
Ad 1 [.bool true])<|
AD F.a79 [Ak n41] λs42=>
Aj<|
Ad 1 [.bool (not (ByteArray.toList s40 == ByteArray.toList s42))])) λb43=>
Ac b43 (
AJ T.a23 a1 (BB 0 0 0 0)<|
BO T.a23 a1 λn44 n45 n46 n47=>
Ad 0 [BB n44 n45 n46 n47,Ak 6])<|
BO T.a23 a8 λn48 n49 n50 n51=>
AJ T.a23 a1 (BB n48 n49 n50 n51)<|
BO T.a23 a1 λn52 n53 n54 n55=>
Ad 0 [BB n52 n53 n54 n55,Ak 0]
theorem zuz (r_0 r_1:ByteArray) (r_2:Bool) (r_3:Int):FnS (z09h r_0 r_1 r_2 r_3) F.a76 #[.agg #[.string r_0,.string r_1,.bool r_2,.int .i64 r_3]]:=dV ⟨[],[(0,[])],[(16,[(91,.one .bool)])],[(0,[(26,.one (.int .i64))])]⟩ Go.Proofs.Tryz.func65 (by kernel_rfl)
def z09k (part:Int):Prog :=
Ap (Instr.buildSlice T.a50 3 #[(0,.int .u8 (IntKind.wrap .u8 (Ao (48+Ao (Int.tdiv part 100))))),(1,.int .u8 (IntKind.wrap .u8 (Ao (48+Int.tmod (Ao (Int.tdiv part 10)) 10)))),(2,.int .u8 (IntKind.wrap .u8 (Ao (48+Int.tmod part 10))))]) λl0=>
Bi (convert T.a50 T.a54 l0.v) λs1=>
.must (((1+ByteArray.size s1:Nat):Int)<=9223372036854775807) <|
Bf ((ByteArray.mk #[111])++s1) λs2=>
Ad 0 [.string s2]
theorem zv2 (part:Int):FnS (z09k part) F.a79 #[.int .i64 part]:=dV ⟨[],[],[],[]⟩ Go.Proofs.Tryz.func68 (by kernel_rfl)
def z030 (c_0 c_1 c_2 c_3:Int) (time:Int):Prog :=
As T.a57 (BB c_0 c_1 c_2 c_3) λa0=>
AI T.a2 λa1=>
Ab T.a13 a0 0 λn2=>
Bc (decide (n2<0)=false) T.a13 a0 0 λn3=>
Bc ((decide (n2<0) || decide (n3>255))=false) T.a14 a0 1 λn4=>
Bc ((decide (n2<0) || decide (n3>255) || decide (n4<0))=false) T.a14 a0 1 λn5=>
Bc ((decide (n2<0) || decide (n3>255) || decide (n4<0) || decide (n5>1099511627776))=false) T.a13 a0 2 λn6=>
Bc ((decide (n2<0) || decide (n3>255) || decide (n4<0) || decide (n5>1099511627776) || decide (n6<0))=false) T.a13 a0 2 λn7=>
Bc ((decide (n2<0) || decide (n3>255) || decide (n4<0) || decide (n5>1099511627776) || decide (n6<0) || decide (n7>64))=false) T.a13 a0 3 λn8=>
Bc ((decide (n2<0) || decide (n3>255) || decide (n4<0) || decide (n5>1099511627776) || decide (n6<0) || decide (n7>64) || decide (n8<0))=false) T.a13 a0 3 λn9=>
Ac (decide (n2<0) || decide (n3>255) || decide (n4<0) || decide (n5>1099511627776) || decide (n6<0) || decide (n7>64) || decide (n8<0) || decide (n9>2147483647) || decide (time<0) || decide (time>1099511627776)) (
AJ T.a2 a1 (.agg #[.string (ByteArray.mk #[]),.string (ByteArray.mk #[]),.bool false,Ak 0])<|
Ba T.a2 a1 λs10 s11 b12 n13=>
Ad 0 [AZ s10 s11 b12 n13,Ak 2])<|
Ab T.a14 a0 1 λn14=>
Aq F.a169 [.int .u64 (IntKind.wrap .u64 n14)] λl15=>
Ab T.a13 a0 2 λn16=>
Aq F.a169 [.int .u64 (IntKind.wrap .u64 n16)] λl17=>
Ap (app T.a50 T.a50 T.a50 l15.v l17.v) λl18=>
Ab T.a13 a0 3 λn19=>
Aq F.a169 [.int .u64 (IntKind.wrap .u64 n19)] λl20=>
Ap (app T.a50 T.a50 T.a50 l18.v l20.v) λl21=>
AA 1 (
Ae<|
Ab T.a13 a0 0 λn22=>
.hold True (convert T.a50 T.a54 l21.v) sS (u1 λs23=>
AD F.a173 [Ak n22] λs24=>
.must (((1+ByteArray.size s24:Nat):Int)<=9223372036854775807) <|
Aj<|
AJ T.a2 a1 (.agg #[.string ((ByteArray.mk #[111])++s24),.string s23,.bool false,Ak time])<|
Aj<|
Ad 1 [Ak 0])) λn25=>
Ba T.a2 a1 λs26 s27 b28 n29=>
Ad 0 [AZ s26 s27 b28 n29,Ak n25]
theorem zp8 (c_0 c_1 c_2 c_3 time:Int):FnS (z030 c_0 c_1 c_2 c_3 time) F.a172 #[.agg #[.int .i64 c_0,.int .i64 c_1,.int .i64 c_2,.int .i64 c_3],.int .i64 time]:=dV ⟨[],[],[(6,[(5,.one (.int .i64))])],[]⟩ Go.Proofs.Tryz.func70 (by kernel_rfl)
def z09e (o:Option Addr):Prog :=
Ac (Option.isNone o) (
Ad 0 [.slice none 0 0])<|
Aa o λa1=>
AH T.a32 a1 0 λp2=>
Aq F.a82 [Al p2] λl3=>
AN 1 (
AO 2 (⟨none,0,0⟩,(0,())) λl4 n5=>
Ac (decide (n5<(Ag l3))) (
AN 3 (
.ex [.adr] (c1 λa6=>0<=n5/\n5<(Ag l3)/\l3.a=some a6) (u1 λa7=>
AX T.a0 a7 (Int.toNat n5*7) λn8 n9 n10 n11 n12 n13 l14=>
AI T.a0 λa15=>
Ai n5 λn16=>
AJ T.a0 a15 (AM n8 n9 n10 n11 n12 n13 l14)<|
Av 4 (
Ae<|
Ab T.a13 a15 4 λn17=>
Bo ((n17 != 1)=false) T.a0 a15 λn18 n19 n20 n21 n22 n23 l24=>
.must ((n17 != 1)=false->0<=Ao (n16+1)/\Ao (n16+1)<=(Ag l3)) <|
Ac (n17 != 1) (
Aj<|
Ad 4 [.bool true])<|
Aw F.a78 [AM n18 n19 n20 n21 n22 n23 l24,.slice (z0q l3.a 7 (Int.toNat (Ao (n16+1))) l3.cap) (l3.len-Int.toNat (Ao (n16+1))) (l3.cap-Int.toNat (Ao (n16+1)))] λb25=>
Aj<|
Ad 4 [.bool b25]) λb26=>
Ac b26 (
Ad 3 [l4.v])<|
Af T.a39 a15 6 λl27=>
AN 4 (
AO 5 ({ a:=l4.a,len:=l4.len,cap:=l4.cap },(0,())) λl28 n29=>
Ac (decide (n29<(Ag l27))) (
.ex [.adr] (c1 λa30=>0<=n29/\n29<(Ag l27)/\l27.a=some a30) (u1 λa31=>
AY T.a2 a31 (Int.toNat n29*4) λs32 s33 b34 n35=>
AI T.a2 λa36=>
AJ T.a2 a36 (AZ s32 s33 b34 n35)<|
Ba T.a2 a36 λs37 s38 b39 n40=>
BV F.a76 [AZ s37 s38 b39 n40] λn41 n42 n43 n44 n45=>
AI T.a23 λa46=>
AJ T.a23 a46 (BB n41 n42 n43 n44)<|
Ai n45 λn47=>
AN 6 (
Ac (n47 == 0) (
Ab T.a14 a15 1 λn48=>
Ab T.a13 a15 2 λn49=>
BO T.a23 a46 λn50 n51 n52 n53=>
Ap (Instr.buildSlice T.a44 1 #[(0,.agg #[Ak n48,Ak n49,Ak n50,Ak n51,Ak n52,Ak n53])]) λl54=>
Ap (app T.a44 T.a44 T.a44 l28.v l54.v) λl55=>
Ad 6 [l55.v])<|
Ad 6 [l28.v]) λl56=>
Ad 5 [l56.v,Ak (Ao (n29+1))]))<|
Ad 4 [l28.v]) λl57=>
Ad 3 [l57.v])) λl58=>
Ad 2 [l58.v,Ak (Ao (n5+1))])<|
Ad 1 [l4.v]) λl59=>
Ad 0 [l59.v]
theorem zuw (o:Option Addr):FnS (z09e o) F.a73 #[.pointer o]:=dV ⟨[(2356571555416395284529,[(4,.one .slc)])],[(0,[(4,.one .slc)]),(1,[(4,.one .slc)]),(2,[(4,.one .slc)])],[(8,[(35,.one .bool)])],[(0,[(4,.one .slc),(20,.one (.int .i64))]),(2,[(4,.one .slc),(39,.one (.int .i64))])]⟩ Go.Proofs.Tryz.func71 (by kernel_rfl)
def z099 (c_0 c_1 c_2:Int) (c_3:Int):Prog :=
As T.a23 (BB c_0 c_1 c_2 c_3) λa0=>
Ab T.a13 a0 0 λn1=>
Bc (decide (n1>=0)=true) T.a13 a0 0 λn2=>
Bc ((decide (n1>=0) && decide (n2<=255))=true) T.a14 a0 1 λn3=>
Bc ((decide (n1>=0) && decide (n2<=255) && decide (n3>=0))=true) T.a14 a0 1 λn4=>
Bc ((decide (n1>=0) && decide (n2<=255) && decide (n3>=0) && decide (n4<=1099511627776))=true) T.a13 a0 2 λn5=>
Bc ((decide (n1>=0) && decide (n2<=255) && decide (n3>=0) && decide (n4<=1099511627776) && decide (n5>=0))=true) T.a13 a0 2 λn6=>
Bc ((decide (n1>=0) && decide (n2<=255) && decide (n3>=0) && decide (n4<=1099511627776) && decide (n5>=0) && decide (n6<=64))=true) T.a13 a0 3 λn7=>
Bc ((decide (n1>=0) && decide (n2<=255) && decide (n3>=0) && decide (n4<=1099511627776) && decide (n5>=0) && decide (n6<=64) && decide (n7>=0))=true) T.a13 a0 3 λn8=>
Ay (decide (n1>=0) && decide (n2<=255) && decide (n3>=0) && decide (n4<=1099511627776) && decide (n5>=0) && decide (n6<=64) && decide (n7>=0) && decide (n8<=2147483647)) λb9=>
Ad 0 [.bool b9]
theorem zur (c_0 c_1 c_2 c_3:Int):FnS (z099 c_0 c_1 c_2 c_3) F.a67 #[.agg #[.int .i64 c_0,.int .i64 c_1,.int .i64 c_2,.int .i64 c_3]]:=dV ⟨[],[],[],[]⟩ Go.Proofs.Tryz.func122 (by kernel_rfl)
def z031 (n:Int):Prog :=
Ae<|
.must (0<=Ao (Int.tdiv n 100)/\Ao (Int.tdiv n 100)<=Ao (Ao (Int.tdiv n 100)+1)/\Ao (Ao (Int.tdiv n 100)+1)<=10) <|
.must (0<=Int.tmod (Ao (Int.tdiv n 10)) 10/\Int.tmod (Ao (Int.tdiv n 10)) 10<=Ao (Int.tmod (Ao (Int.tdiv n 10)) 10+1)/\Ao (Int.tmod (Ao (Int.tdiv n 10)) 10+1)<=10) <|
.must (((ByteArray.size (ByteArray.extract (ByteArray.mk #[48,49,50,51,52,53,54,55,56,57]) (Int.toNat (Ao (Int.tdiv n 100))) (Int.toNat (Ao (Ao (Int.tdiv n 100)+1))))+ByteArray.size (ByteArray.extract (ByteArray.mk #[48,49,50,51,52,53,54,55,56,57]) (Int.toNat (Int.tmod (Ao (Int.tdiv n 10)) 10)) (Int.toNat (Ao (Int.tmod (Ao (Int.tdiv n 10)) 10+1)))):Nat):Int)<=9223372036854775807) <|
.must (0<=Int.tmod n 10/\Int.tmod n 10<=Ao (Int.tmod n 10+1)/\Ao (Int.tmod n 10+1)<=10) <|
.must (((ByteArray.size (ByteArray.extract (ByteArray.mk #[48,49,50,51,52,53,54,55,56,57]) (Int.toNat (Ao (Int.tdiv n 100))) (Int.toNat (Ao (Ao (Int.tdiv n 100)+1)))++ByteArray.extract (ByteArray.mk #[48,49,50,51,52,53,54,55,56,57]) (Int.toNat (Int.tmod (Ao (Int.tdiv n 10)) 10)) (Int.toNat (Ao (Int.tmod (Ao (Int.tdiv n 10)) 10+1))))+ByteArray.size (ByteArray.extract (ByteArray.mk #[48,49,50,51,52,53,54,55,56,57]) (Int.toNat (Int.tmod n 10)) (Int.toNat (Ao (Int.tmod n 10+1)))):Nat):Int)<=9223372036854775807) <|
Bf (ByteArray.extract (ByteArray.mk #[48,49,50,51,52,53,54,55,56,57]) (Int.toNat (Ao (Int.tdiv n 100))) (Int.toNat (Ao (Ao (Int.tdiv n 100)+1)))++ByteArray.extract (ByteArray.mk #[48,49,50,51,52,53,54,55,56,57]) (Int.toNat (Int.tmod (Ao (Int.tdiv n 10)) 10)) (Int.toNat (Ao (Int.tmod (Ao (Int.tdiv n 10)) 10+1)))++ByteArray.extract (ByteArray.mk #[48,49,50,51,52,53,54,55,56,57]) (Int.toNat (Int.tmod n 10)) (Int.toNat (Ao (Int.tmod n 10+1)))) λs0=>
Aj<|
Ad 0 [.string s0]
theorem zp9 (n:Int):FnS (z031 n) F.a173 #[.int .i64 n]:=dV ⟨[],[],[],[]⟩ Go.Proofs.Tryz.func133 (by kernel_rfl)
def z09j (b_0 b_1 b_2 b_3 b_4 b_5:Int) (b_6:Sl) (behind:Sl):Prog :=
As T.a0 (AM b_0 b_1 b_2 b_3 b_4 b_5 b_6) λa0=>
Aw F.a143 [behind.v,.func (Fn.func 195) #[] #[A8 a0]] λb1=>
Ay b1 λb2=>
Ad 0 [.bool b2]
theorem zv1 (b_0 b_1 b_2 b_3 b_4 b_5:Int) (b_6 behind:Sl):FnS (z09j b_0 b_1 b_2 b_3 b_4 b_5 b_6 behind) F.a78 #[.agg #[.int .i64 b_0,.int .i64 b_1,.int .i64 b_2,.int .i64 b_3,.int .i64 b_4,.int .i64 b_5,.slice b_6.a b_6.len b_6.cap],.slice behind.a behind.len behind.cap]:=dV ⟨[],[],[],[]⟩ Go.Proofs.Tryz.func134 (by kernel_rfl)
def zt0:RecM:=⟨ByteArray.mk #[],ByteArray.mk #[],false,0⟩
def z38 (c:ComM) (time:Int):RecM × Int:=if z4a c/\(0<=time/\time<=1099511627776) then (z2v c time,0) else (zt0,2)
theorem z89 (n:Nat) (h:n<=9):(((z5t n).toNat:Nat):Int)=48+n:=by
 unfold z5t
 rw [UInt8.toNat_ofNat']
 omega
theorem ztc {x:Int} (h:0<=x/\x<256):IntKind.wrap .u8 x=x:=by
 have:=z9h x.toNat
 rw [show ((x.toNat:Nat):Int)=x by omega] at this
 rw [this];omega
def z54 (l:List UInt8):Int:=l.foldl (λn d=>n*10+((d.toNat:Int)-48)) 0
theorem zsq (l:List UInt8) (d:UInt8):z54 (l++[d])=z54 l*10+((d.toNat:Int)-48):=by
 unfold z54
 rw [List.foldl_append,List.foldl_cons,List.foldl_nil]
theorem zjm {p:Int} (hp:0<=p/\p<=255):z54 (z7y p)=p:=by
 unfold z54 z7y
 simp only [List.foldl_cons,List.foldl_nil]
 rw [z89 _ (by omega),z89 _ (by omega),z89 _ (by omega)]
 omega
theorem z04h {p:Int} (hp:0<=p/\p<=255):∀ d ∈ z7y p,¬ ((d.toNat:Int)<48\/(d.toNat:Int)>57):=λd hd=>by
 unfold z7y at hd
 simp only [List.mem_cons,List.not_mem_nil,or_false] at hd
 rcases hd with rfl|rfl|rfl <;> rw [z89 _ (by omega)] <;> omega
theorem z91 {r:RecM} {c:ComM} (h:z3r r c):r.key.size=4/\(r.key.extract 1 r.key.size).data.toList=z7y c.part/\r.value.data.toList=z43 c:=by
 obtain ⟨-,h1,h2,-⟩:=h
 rw [h1,h2]
 exact ⟨rfl,rfl,by simp⟩
section
variable {w:World} {l r:List HP}
theorem zm9 (m:Nat) (hm:m<=255) (hs:Sat w l):Ret P F.a79 #[.int .i64 (m:Int)] w λvs w'=>vs=[.string (z11 m)]/\Sat w' l :=
 zv2 _ <| by
  delta z09k Ad Ao Ap Bf Bi
  have e1:IntKind.wrap .u8 (IntKind.wrap .i64 (48+IntKind.wrap .i64 (Int.tdiv (m:Int) 100)))=(((z5t (m / 100)).toNat:Nat):Int):=by
   rw [zab m (by omega),z89 _ (by omega),show (100:Int).toNat=100 from rfl,w64 (x:=((m / 100:Nat):Int)) (by omega) (by omega),w64 (by omega) (by omega),ztc (by omega)]
  have e2:IntKind.wrap .u8 (IntKind.wrap .i64 (48+Int.tmod (IntKind.wrap .i64 (Int.tdiv (m:Int) 10)) 10))=(((z5t (m / 10 % 10)).toNat:Nat):Int):=by
   rw [zab m (by omega),z89 _ (by omega),show (10:Int).toNat=10 from rfl,w64 (x:=((m / 10:Nat):Int)) (by omega) (by omega),z8p _ (by omega),show (10:Int).toNat=10 from rfl,w64 (by omega) (by omega),ztc (by omega)]
  have e3:IntKind.wrap .u8 (IntKind.wrap .i64 (48+Int.tmod (m:Int) 10))=(((z5t (m % 10)).toNat:Nat):Int):=by
   rw [z8p m (by omega),z89 _ (by omega),show (10:Int).toNat=10 from rfl,w64 (by omega) (by omega),ztc (by omega)]
  rw [e1,e2,e3]
  refine z7s hs (enc:=zi) [z5t (m / 100),z5t (m / 10 % 10),z5t (m % 10)] λx w' hs=>?_
  refine zn4 hs (bs:=[z5t (m / 100),z5t (m / 10 % 10),z5t (m % 10)]) ?_
  refine wp_must (by show ((1+3:Nat):Int)<=_;omega) ?_
  refine wp_lt ?_
  exact ⟨rfl,rfl,hs.tail⟩
theorem zwz (c:ComM) (hs:Sat w l):Ret P F.a67 #[.agg (z0b c).toArray] w λvs w'=>vs=[.bool (decide (z4a c))]/\Sat w' l :=
 zur c.part c.off c.mem c.gen <| by
  delta z099 Ab Ad As Ay BB Bc
  refine zq hs λa0 w' hs=>?_
  refine z8 hs ?_
  refine z8 hs ?_
  refine z8 hs ?_
  refine z8 hs ?_
  refine z8 hs ?_
  refine z8 hs ?_
  refine z8 hs ?_
  refine z8 hs ?_
  refine wp_lt ?_
  refine ⟨rfl,?_,hs.tail⟩
  congr 2
  rw [Bool.eq_iff_iff,decide_eq_true_iff (p:=z4a c)]
  unfold z4a
  simp only [Bool.and_eq_true,decide_eq_true_eq]
  constructor
  ·rintro ⟨⟨⟨⟨⟨⟨⟨h1,h2⟩,h3⟩,h4⟩,h5⟩,h6⟩,h7⟩,h8⟩
   exact ⟨⟨h1,h2⟩,⟨h3,h4⟩,⟨h5,h6⟩,h7,h8⟩
  ·rintro ⟨⟨h1,h2⟩,⟨h3,h4⟩,⟨h5,h6⟩,h7,h8⟩
   exact ⟨⟨⟨⟨⟨⟨⟨h1,h2⟩,h3⟩,h4⟩,h5⟩,h6⟩,h7⟩,h8⟩
theorem zme (c:ComM) (time:Int) (hs:Sat w l):Ret P F.a77 #[.agg (z0b c).toArray,.int .i64 time] w λvs w'=>vs=[.agg (z01 (z38 c time).1).toArray,.int .i64 (z38 c time).2]/\Sat w' l :=
 zv0 c.part c.off c.mem c.gen time <| by
  delta z09i AA AD AI AJ AN AZ Ab Ac Ad Ae Aj Ak Ap Aq As Aw BB BO Ba Bb;unfold z38
  refine zq hs λa0 w' hs=>?_
  refine zn hs λa1 w' hs=>?_
  refine zg hs ?_
  refine zb (zwz c hs) λ_ w' hs=>?_
  obtain ⟨rfl,hs⟩:=hs
  refine zd ?_
  by_cases h:z4a c/\(0<=time/\time<=1099511627776)
  rotate_left
  ·rw [if_neg h]
   refine z3b (by
    rw [Bool.or_eq_true,Bool.or_eq_true,decide_eq_true_eq,decide_eq_true_eq,Bool.not_eq_true',decide_eq_false_iff_not]
    by_cases h1:z4a c
    ·have:¬ (0<=time/\time<=1099511627776):=λh2=>h ⟨h1,h2⟩
     omega
    ·exact .inl (.inl h1)) ?_
   refine zm hs λw' hs=>?_
   refine zg hs ?_
   exact ⟨rfl,rfl,hs.sub⟩
  rw [if_pos h]
  obtain ⟨hm,ht⟩:=h
  have hm':=hm
  obtain ⟨m1,m2,m3,m4⟩:=hm'
  refine z1r (by rw [decide_eq_true hm,decide_eq_false (by omega),decide_eq_false (by omega)];rfl) ?_
  refine zl (λq w'=>∃ z:Sl,q=(z,())/\Sat w' (slc T.a58 1 z ((z43 c).flatMap zi)::pt a0 (.cells #[.int .i64 c.part,.int .i64 c.off,.int .i64 c.mem,.int .i64 c.gen] T.a23)::pt a1 (.cells #[.string (ByteArray.mk #[]),.string (ByteArray.mk #[]),.bool false,.int .i64 0] T.a2)::l)) ?_ ?_
  ·refine zv hs λw' hs=>?_
   refine z8 hs ?_
   refine z14 hs ?_
   refine z14 hs ?_
   refine zb (z3v c.off (by omega) hs) λ_ w' hs=>?_
   obtain ⟨z1,rfl,hs⟩:=hs
   refine zd ?_ (by first|trivial|(repeat (first|exact trivial|exact λ_=>z08 hs|exact λ_=>z0f hs|refine And.intro ?_ ?_)))
   refine zb (z3v c.mem (by omega) hs) λ_ w' hs=>?_
   obtain ⟨z2,rfl,hs⟩:=hs
   refine zd ?_ (by first|trivial|(repeat (first|exact trivial|exact λ_=>z08 hs|exact λ_=>z0f hs|refine And.intro ?_ ?_)))
   refine ze ?_
   refine zb (z3v c.gen (by omega) hs) λ_ w' hs=>?_
   obtain ⟨z3,rfl,hs⟩:=hs
   refine zd ?_
   refine z7s hs (enc:=z0c) [z1,z2,z3] λz4 w' hs=>?_
   have h1:=(z18 c.off).2
   have h2:=(z18 c.mem).2
   have h3:=(z18 c.gen).2
   refine zb (zn3 z4 z1 z2 z3 (uI c.off) (uI c.mem) (uI c.gen) (by omega) hs) λ_ w' hs=>?_
   obtain ⟨z5,rfl,hs⟩:=hs
   refine zd ?_
   refine ze ?_
   have hs:Sat w' (slc T.a58 1 z5 ((z43 c).flatMap zi)::_):=hs
   exact zf ⟨z5,rfl,hs.sub⟩
  clear hs
  rintro _ w ⟨z,rfl,hs⟩
  refine zk ?_
  refine zl (λq w'=>q=(0,())/\Sat w' (pt a1 (.cells #[.string (z11 c.part),.string ⟨(z43 c).toArray⟩,.bool false,.int .i64 time] T.a2)::l)) ?_ ?_
  ·refine zv hs λw' hs=>?_
   refine z8 hs ?_
   refine zrk (p:=.str) (x:=(⟨(z43 c).toArray⟩:ByteArray)) (zbk hs) ?_
   have hk:=zm9 c.part.toNat (by omega) hs
   rw [show ((c.part.toNat:Nat):Int)=c.part by omega] at hk
   refine zb hk λ_ w' hs=>?_
   obtain ⟨rfl,hs⟩:=hs
   refine zd ?_ ⟨trivial,λ_=>zbk hs⟩
   refine ze ?_
   refine zm hs λw' hs=>?_
   refine ze ?_
   exact zf ⟨rfl,hs.sub⟩
  clear hs
  rintro _ w ⟨rfl,hs⟩
  refine zk ?_
  refine zg hs ?_
  exact ⟨rfl,rfl,hs.sub⟩
end
abbrev com0:ComM:=⟨0,0,0,0⟩
theorem zeo:∀ (l:List UInt8),(∀ d ∈ l,¬ ((d.toNat:Int)<48\/(d.toNat:Int)>57))->l.length<=3->0<=z54 l/\z54 l<=999
 | [],_,_=>by decide
 | [a],h,_=>by
  have h1:=h a (by simp)
  unfold z54
  simp only [List.foldl_cons,List.foldl_nil]
  omega
 | [a,b],h,_=>by
  have h1:=h a (by simp)
  have h2:=h b (by simp)
  unfold z54
  simp only [List.foldl_cons,List.foldl_nil]
  omega
 | [a,b,c],h,_=>by
  have h1:=h a (by simp)
  have h2:=h b (by simp)
  have h3:=h c (by simp)
  unfold z54
  simp only [List.foldl_cons,List.foldl_nil]
  omega
 | _::_::_::_::_,_,h=>by simp at h
theorem zih (a b:ByteArray):(ByteArray.toList a == ByteArray.toList b)=decide (a=b):=by
 rw [Bool.eq_iff_iff,beq_iff_eq,decide_eq_true_iff]
 exact ⟨λh=>by rw [ByteArray.toList_eq,ByteArray.toList_eq] at h;exact ByteArray.ext (Array.ext' h),λh=>by rw [h]⟩
section
variable {w:World} {l r:List HP}
set_option maxHeartbeats 1000000 in
theorem ze2 (r:RecM) (hv:r.value.size<=1000000) (hs:Sat w l):Ret P F.a76 #[.agg (z01 r).toArray] w λvs w'=>∃ (c:ComM) (e:Int),vs=[.agg (z0b c).toArray,.int .i64 e]/\zrq r c e/\Sat w' l :=
 zuz r.key r.value r.gone r.time <| by
  delta z09h AC AD AI AJ AK AQ AR AT AZ Ab Ac Ad Ae Ag Ah Aj Ak Al An Ao Ap As Av Aw BB BO Bc Bd Be Bh By
  refine zq hs λa0 w' hs=>?_
  refine zn hs λa1 w' hs=>?_
  refine z8 hs ?_
  refine z8 hs ?_
  by_cases h1:r.key.size≠4\/r.gone=true
  ·refine z3b (by
    rw [Bool.or_eq_true]
    rcases h1 with h1|h1
    ·left;simp;omega
    ·right;exact h1) ?_
   refine zm hs λw' hs=>?_
   refine zg hs ?_
   refine ⟨rfl,com0,6,rfl,.inr ⟨rfl,rfl,λc' h=>?_⟩,hs.sub⟩
   rcases h1 with h1|h1
   ·exact h1 (z91 h).1
   ·rw [h.2.2.2] at h1;cases h1
  have hk4:r.key.size=4:=Classical.byContradiction λh=>h1 (.inl h)
  have hgn:r.gone=false:=by
   cases hg:r.gone with
   | false=>rfl
   | true=>exact absurd (.inr hg) h1
  refine z1r (by rw [hk4,hgn];rfl) ?_
  refine zn hs λa8 w' hs=>?_
  refine zm hs λw' hs=>?_
  refine z8 hs ?_
  refine wp_must (by rw [hk4];omega) ?_
  refine zbq hs λx w' hs=>?_
  obtain ⟨bs,hbs⟩:∃ bs,bs=(r.key.extract 1 r.key.size).data.toList:=⟨_,rfl⟩
  have hbl:bs.length=3:=by
   rw [hbs]
   show (r.key.extract 1 r.key.size).size=3
   rw [ByteArray.size_extract,hk4];rfl
  rw [<- hbs] at hs
  have hxl:=hs.slen x (xs:=bs) (enc:=zi)
  have hno:∀ {c':ComM},z3r r c'->bs=z7y c'.part:=λh=>by rw [hbs];exact (z91 h).2.1
  refine zl (λq w'=>(∀ d ∈ bs,¬ ((d.toNat:Int)<48\/(d.toNat:Int)>57))/\Sat w' (pt a8 (.cells #[.int .i64 (z54 bs),.int .i64 0,.int .i64 0,.int .i64 0] T.a23)::pt a0 (.cells #[.string r.key,.string r.value,.bool r.gone,.int .i64 r.time] T.a2)::pt a1 (.cells #[.int .i64 0,.int .i64 0,.int .i64 0,.int .i64 0] T.a23)::l)) ?_ ?_
  ·refine z03 (λm q w=>∃ i:Nat,q=((i:Int),())/\i<=bs.length/\bs.length-i=m/\(∀ d ∈ bs.take i,¬ ((d.toNat:Int)<48\/(d.toNat:Int)>57)) /\
    Sat w (slc T.a58 1 x (bs.flatMap zi)::pt a8 (.cells #[.int .i64 (z54 (bs.take i)),.int .i64 0,.int .i64 0,.int .i64 0] T.a23)::pt a1 (.cells #[.int .i64 0,.int .i64 0,.int .i64 0,.int .i64 0] T.a23)::pt a0 (.cells #[.string r.key,.string r.value,.bool r.gone,.int .i64 r.time] T.a2)::l)) bs.length
    ⟨0,rfl,by omega,rfl,(λd hd=>by simp at hd),hs⟩ ?_
   clear hs
   rintro m _ w ⟨i,rfl,hi,hm,hd,hs⟩
   refine zk ?_
   refine zh (λhc=>?_) λhc=>?_
   rotate_left
   ·rw [List.take_of_length_le (by omega)] at hs hd
    exact zo (zf ⟨hd,hs.sub⟩)
   have hil:i<bs.length:=by omega
   have htk:bs.take (i+1)=bs.take i++[bs[i]]:=by rw [List.take_add_one,List.getElem?_eq_getElem hil,Option.toList_some]
   have hb3:=zeo (bs.take i) hd (by rw [List.length_take];omega)
   refine z1z hs (xs:=bs) (enc:=zi) i hil ?_
   refine wp_lt ?_
   by_cases hbad:((bs[i].toNat:Int)<48\/(bs[i].toNat:Int)>57)
   ·refine z3b (by rw [Bool.or_eq_true,decide_eq_true_eq,decide_eq_true_eq];exact hbad) ?_
    refine zm hs λw' hs=>?_
    refine zg hs ?_
    refine zo (zo ?_)
    refine ⟨rfl,com0,6,rfl,.inr ⟨rfl,rfl,λc' h=>?_⟩,hs.sub⟩
    have hm:=hno h
    exact z04h h.1.1 _ (by rw [<- hm];exact List.getElem_mem hil) hbad
   refine z1r (by rw [Bool.or_eq_false_iff,decide_eq_false_iff_not,decide_eq_false_iff_not];omega) ?_
   refine z8 hs ?_
   rw [ztc (by omega),w64 (x:=(bs[i].toNat:Int)-48) (by omega) (by omega),w64 (x:=z54 (bs.take i)*10) (by omega) (by omega),w64 (by omega) (by omega),<- zsq,<- htk]
   refine z02 hs λw' hs=>?_
   refine z1k (us':=[.int .i64 ((i+1:Nat):Int)]) (by (try simp (disch:=omega) only [w64]);first|rfl|(congr;omega)) ?_
   refine z0l (bs.length-(i+1)) ⟨i+1,rfl,by omega,rfl,λd hd2=>?_,hs.sub⟩
   rw [htk] at hd2
   rcases List.mem_append.1 hd2 with hd2|hd2
   ·exact hd d hd2
   ·rw [List.mem_singleton.1 hd2];exact hbad
  clear hs
  rintro _ w ⟨hdig,hs⟩
  refine zk ?_
  have hpb:=zeo bs hdig (by omega)
  refine z8 hs ?_
  refine zbq hs λy w' hs=>?_
  obtain ⟨vs,hvs⟩:∃ vs,vs=r.value.data.toList:=⟨_,rfl⟩
  rw [<- hvs] at hs
  have hvl:vs.length<=1000000:=by rw [hvs];exact hv
  have hval:∀ {c':ComM},z3r r c'->vs=z43 c':=λh=>by rw [hvs];exact (z91 h).2.2
  refine zb (zm3 y vs (by omega) hs) λ_ w' hs=>?_
  obtain ⟨p,rfl,hs⟩:=hs
  refine zd ?_
  refine zb (z9t (p:=p) hs) λ_ w' hs=>?_
  obtain ⟨rfl,hs⟩:=hs
  refine zd ?_
  refine zb (z9t (p:=p) hs) λ_ w' hs=>?_
  obtain ⟨rfl,hs⟩:=hs
  refine zd ?_
  refine zb (z9t (p:=p) hs) λ_ w' hs=>?_
  obtain ⟨rfl,hs⟩:=hs
  refine zd ?_
  refine wp_lt ?_
  refine wp_lt ?_
  refine wp_lt ?_
  refine zb (zli (p:=p) hs) λ_ w' hs=>?_
  obtain ⟨en,rfl,hen,hs⟩:=hs
  refine zd ?_
  have hread:∀ {c':ComM},z3r r c'->(zx (some vs)).1=c'.off.toNat/\(zx (zx (some vs)).2).1=c'.mem.toNat/\(zx (zx (zx (some vs)).2).2).1=c'.gen.toNat/\(zx (zx (zx (some vs)).2).2).2=some []:=λh=>by
   rw [hval h];exact zdt h.1
  have hinv:=z00m (bs:=vs)
  generalize (zx (some vs)).1=o at hs hread hinv hen ⊢
  generalize (zx (zx (some vs)).2).1=m at hs hread hinv hen ⊢
  generalize (zx (zx (zx (some vs)).2).2).1=g at hs hread hinv hen ⊢
  generalize (zx (zx (zx (some vs)).2).2).2=fin at hs hread hinv hen ⊢
  by_cases hcd:en≠0\/(o:Int)>1099511627776\/(m:Int)>64\/(g:Int)>2147483647
  ·refine z3b (by
    rw [Bool.or_eq_true,Bool.or_eq_true,Bool.or_eq_true,decide_eq_true_eq,decide_eq_true_eq,decide_eq_true_eq]
    rcases hcd with h|h|h|h
    ·exact .inl (.inl (.inl (by simpa using h)))
    ·exact .inl (.inl (.inr h))
    ·exact .inl (.inr h)
    ·exact .inr h) ?_
   refine zm hs λw' hs=>?_
   refine zg hs ?_
   refine ⟨rfl,com0,6,rfl,.inr ⟨rfl,rfl,λc' h=>?_⟩,hs.sub⟩
   obtain ⟨q1,q2,q3,q4⟩:=hread h
   obtain ⟨-,q5,q6,q7⟩:=h.1
   have:=hen.2 q4
   omega
  have hen0:en=0:=by omega
  have hfin:=hen.1 hen0
  refine z1r (by
   rw [Bool.or_eq_false_iff,Bool.or_eq_false_iff,Bool.or_eq_false_iff,decide_eq_false_iff_not,decide_eq_false_iff_not,decide_eq_false_iff_not]
   refine ⟨⟨⟨by rw [hen0];rfl,?_⟩,?_⟩,?_⟩ <;> omega) ?_
  rw [w64 (by omega) (by omega),w64 (by omega) (by omega),w64 (by omega) (by omega)]
  refine z02 hs λw' hs=>?_
  refine z02 hs λw' hs=>?_
  refine z02 hs λw' hs=>?_
  obtain ⟨c,hc⟩:∃ c:ComM,c=⟨z54 bs,o,m,g⟩:=⟨_,rfl⟩
  have hs:Sat w' (pt a8 (.cells #[.int .i64 (z54 bs),.int .i64 o,.int .i64 m,.int .i64 g] T.a23)::pt a0 (.cells #[.string r.key,.string r.value,.bool r.gone,.int .i64 r.time] T.a2)::pt a1 (.cells #[.int .i64 0,.int .i64 0,.int .i64 0,.int .i64 0] T.a23)::l):=hs.sub
  have hs:Sat w' (pt a8 (.cells #[.int .i64 c.part,.int .i64 c.off,.int .i64 c.mem,.int .i64 c.gen] T.a23)::pt a0 (.cells #[.string r.key,.string r.value,.bool r.gone,.int .i64 r.time] T.a2)::pt a1 (.cells #[.int .i64 0,.int .i64 0,.int .i64 0,.int .i64 0] T.a23)::l):=by rw [hc];exact hs
  have huniq:∀ {c':ComM},z3r r c'->c'=c:=λ{c'} h=>by
   obtain ⟨q1,q2,q3,q4⟩:=hread h
   obtain ⟨q0,q5,q6,q7⟩:=h.1
   have hp:=zjm q0
   rw [<- hno h] at hp
   rw [hc]
   obtain ⟨a,b,d,e⟩:=c'
   simp only at q1 q2 q3 hp q5 q6 q7
   rw [hp,q1,q2,q3]
   congr 1 <;> omega
  refine zl (λq w'=>q=(decide (¬ (z4a c/\r.key=z11 c.part)),())/\Sat w' (pt a8 (.cells #[.int .i64 c.part,.int .i64 c.off,.int .i64 c.mem,.int .i64 c.gen] T.a23)::pt a0 (.cells #[.string r.key,.string r.value,.bool r.gone,.int .i64 r.time] T.a2)::pt a1 (.cells #[.int .i64 0,.int .i64 0,.int .i64 0,.int .i64 0] T.a23)::l)) ?_ ?_
  ·refine zv hs λw' hs=>?_
   refine zg hs ?_
   refine zb (zwz c hs) λ_ w' hs=>?_
   obtain ⟨rfl,hs⟩:=hs
   refine zd ?_
   refine z14 hs ?_
   refine z8 hs ?_
   by_cases hm:z4a c
   ·refine z1r (by rw [decide_eq_true hm];rfl) ?_
    have hk:=zm9 c.part.toNat (by have:=hm.1;omega) hs
    rw [show ((c.part.toNat:Nat):Int)=c.part by have:=hm.1;omega] at hk
    refine zb hk λ_ w' hs=>?_
    obtain ⟨rfl,hs⟩:=hs
    refine zd ?_ ⟨trivial,λ_=>z08 hs⟩
    refine ze ?_
    refine zf ⟨?_,hs⟩
    rw [zih]
    have:(!decide (r.key=z11 c.part))=decide (¬ (z4a c/\r.key=z11 c.part)):=by
     rw [Bool.eq_iff_iff];simp [hm]
    rw [this]
   ·refine z3b (by rw [decide_eq_false hm];rfl) ?_
    refine ze ?_
    refine zf ⟨?_,hs⟩
    have:decide (¬ (z4a c/\r.key=z11 c.part))=true:=by simp [hm]
    rw [this]
  clear hs
  rintro _ w ⟨rfl,hs⟩
  refine zk ?_
  by_cases hok:z4a c/\r.key=z11 c.part
  ·refine z1r (by simp [hok]) ?_
   refine zg hs ?_
   refine zm hs λw' hs=>?_
   refine zg hs ?_
   refine ⟨rfl,c,0,rfl,.inl ⟨rfl,hok.1,hok.2,?_,hgn⟩,hs.sub⟩
   have e:=hinv hfin
   have e2:vs=z43 c:=by
    rw [e,hc]
    show _=uI (o:Int)++(uI (m:Int)++uI (g:Int))
    unfold uI
    rw [Int.toNat_natCast,Int.toNat_natCast,Int.toNat_natCast]
   rw [<- e2,hvs]
  ·refine z3b (by simp only [decide_eq_true_eq];exact hok) ?_
   refine zm hs λw' hs=>?_
   refine zg hs ?_
   refine ⟨rfl,com0,6,rfl,.inr ⟨rfl,rfl,λc' h=>?_⟩,hs.sub⟩
   have:=huniq h
   subst this
   exact hok ⟨h.1,h.2.1⟩
end
structure RowA where
 pid:Int
 epoch:Int
 seq:Int
 count:Int
 base:Int
 frm:Int
 time:Int
def zhs (t:RowA):List Value:=[.int .i64 t.pid,.int .i64 t.epoch,.int .i64 t.seq,.int .i64 t.count,.int .i64 t.base,.int .i64 t.frm,.int .i64 t.time]
abbrev evW (t:RowA):Value:=.agg #[.int .i64 t.pid,.int .i64 t.epoch,.int .i64 t.seq,.int .i64 t.count,.int .i64 t.base,.int .i64 t.frm,.int .i64 t.time]
structure TabA where
 most:Int
 next:Int
 rows:List RowA
def z5o (A:TabA) (pid:Int):Option RowA:=A.rows.find? λr=>decide (r.pid=pid)
def z07b (pid:Int):RowA:=⟨pid,-1,0,0,0,-1,0⟩
def z0v (A:TabA) (pid:Int):RowA:=(z5o A pid).getD (z07b pid)
def z9l (rs:List RowA):List RowA:=rs.filter λr=>decide (0<=r.frm)
structure okRw (r:RowA) (next:Int):Prop where
 pid:1<=r.pid/\r.pid<=1048576
 epoch:0<=r.epoch/\r.epoch<=32768
 time:0<=r.time/\r.time<=1099511627776
 count:0<=r.count/\r.count<=64
 seq:0<=r.seq
 base:0<=r.base
 frm : -1<=r.frm
 none_:r.count=0->r.seq=0/\r.base=0/\r.frm = -1
 some_:0<r.count->r.epoch<=32767/\r.seq+r.count<=2147483648/\r.base+r.count<=next/\r.frm<=r.base
structure okTb (A:TabA):Prop where
 most:1<=A.most/\A.most<=4096
 next:0<=A.next/\A.next<=1099511627777
 many:(A.rows.length:Int)<=A.most
 row:∀ r ∈ A.rows,okRw r A.next
 byPid:A.rows.Pairwise λa b=>a.pid<b.pid
 apart:(z9l A.rows).Pairwise λa b=>a.frm≠b.frm
instance:KeyT P T.a14 ekI:=zz1 (by kernel_rfl)
instance:MapT P T.a19 T.a14 (.agg #[.int .i64 0,.int .i64 0,.int .i64 0,.int .i64 0,.int .i64 0,.int .i64 0,.int .i64 0]):=⟨T.a5,by kernel_rfl,by kernel_rfl⟩
def z3o (rs:List RowA):List (Int × RowA):=rs.map λr=>(r.pid,r)
def tb (t:Nat) (A:TabA):HP:=HP.ex λm:Nat=>HP.and (okTb A) (HP.star (pt t (.cells #[.int .i64 A.most,.int .i64 A.next,.map (some m)] T.a6)) (z1e ekI evW m (z3o A.rows)))
theorem okRw.seqs {r:RowA} {next:Int} (h:okRw r next):r.seq+r.count<=2147483648:=by
 have h1:=h.count;have h2:=h.seq
 rcases Int.lt_or_le 0 r.count with h3|h3
 ·exact (h.some_ h3).2.1
 ·have:=(h.none_ (by omega)).1;omega
theorem z2r {A:TabA} {pid:Int} {t:RowA} (h:z5o A pid=some t):t ∈ A.rows/\t.pid=pid:=⟨List.mem_of_find?_eq_some h,by simpa using List.find?_some h⟩
theorem zdq {A:TabA} {pid:Int} (h:z5o A pid=none):∀ t ∈ A.rows,t.pid≠pid:=λt ht=>by simpa using List.find?_eq_none.1 h t ht
theorem zjv (A:TabA) (pid:Int):(∃ t,z5o A pid=some t/\(pid,t) ∈ z3o A.rows)\/(z5o A pid=none/\∀ t,(pid,t) ∉ z3o A.rows):=by
 cases h:z5o A pid with
 | some t=>exact .inl ⟨t,rfl,List.mem_map.2 ⟨t,(z2r h).1,by rw [(z2r h).2]⟩⟩
 | none=>exact .inr ⟨rfl,λt ht=>by
   obtain ⟨u,hu,e⟩:=List.mem_map.1 ht
   simp only [Prod.mk.injEq] at e
   exact zdq h u hu e.1⟩
theorem zie {A:TabA} (hok:okTb A) (pid:Int):0<=(z0v A pid).seq/\0<=(z0v A pid).count/\(z0v A pid).seq+(z0v A pid).count<=2147483648 /\ -1<=(z0v A pid).epoch/\(z0v A pid).epoch<=32768 /\ -1<=(z0v A pid).frm/\(z0v A pid).pid=pid:=by
 unfold z0v
 cases h:z5o A pid with
 | none=>simp [z07b]
 | some t =>
  have h1:=hok.row t (z2r h).1
  have:=h1.seqs;have:=h1.seq;have:=h1.count;have:=h1.epoch;have:=h1.frm;have:=(z2r h).2
  simp only [Option.getD_some];omega
section
variable {w:World} {l r r1 r2 l':List HP} {t:Nat} {A:TabA}
theorem zbn (hs:Sat w (tb t A::l)):∃ m:Nat,okTb A/\Sat w (pt t (.cells #[.int .i64 A.most,.int .i64 A.next,.map (some m)] T.a6)::z1e ekI evW m (z3o A.rows)::l):=by
 obtain ⟨m,hs⟩:=hs.ex
 obtain ⟨hok,hs⟩:=hs.and
 exact ⟨m,hok,hs.star⟩
theorem z0ag (m:Nat) (hok:okTb A) (hs:Sat w (pt t (.cells #[.int .i64 A.most,.int .i64 A.next,.map (some m)] T.a6)::z1e ekI evW m (z3o A.rows)::l)):Sat w (tb t A::l):=.ex_mk m (.and_mk hok (.star_mk hs))
theorem z3s (m:Nat) (hok:okTb A) (hs:Sat w l) {es1:List (Int × RowA)} [h1:FocB l t (.cells [.int .i64 A.most,.int .i64 A.next,.map (some m)].toArray T.a6) r1] [h2:FoM r1 m ekI evW es1 r2] [h4:Sub r2 l']
  (hp1:es1.Perm (z3o A.rows):=by exact .refl _):Sat w (tb t A::l'):=by
 have hs:=hs.perm (h1.perm.trans (.cons _ h2.perm))
 have hs:=((hs.pick [1]).mapPerm hp1).pick [1]
 have hs:Sat w (tb t A::r2):=z0ag m hok hs
 exact hs.sub
theorem z019 (hs:Sat w (tb t A::l)):okTb A:=(zbn hs).choose_spec.1
instance {r:RowA} {b:Bool}:IsR (.tup [.agg [.int .i64,.int .i64,.int .i64,.int .i64,.int .i64,.int .i64,.int .i64],.one .bool]) [.agg (zhs r).toArray,.bool b] (r.pid,r.epoch,r.seq,r.count,r.base,r.frm,r.time,b,()):=⟨rfl⟩
def z0ac (o:Option RowA):Int × Int × Int × Int × Int × Int × Int × Bool × Unit :=
 ((o.getD ⟨0,0,0,0,0,0,0⟩).pid,(o.getD ⟨0,0,0,0,0,0,0⟩).epoch,(o.getD ⟨0,0,0,0,0,0,0⟩).seq,(o.getD ⟨0,0,0,0,0,0,0⟩).count,(o.getD ⟨0,0,0,0,0,0,0⟩).base,(o.getD ⟨0,0,0,0,0,0,0⟩).frm,(o.getD ⟨0,0,0,0,0,0,0⟩).time,o.isSome,())
theorem z07k (most:Int) (hs:Sat w l):Ret P F.a13 #[.int .i64 most] w λvs w' =>
  (1<=most/\most<=4096/\∃ t,vs=[.pointer (some ⟨t,0,none⟩),.int .i64 0]/\Sat w' (tb t ⟨most,0,[]⟩::l))\/((most<1\/most>4096)/\vs=[.pointer none,.int .i64 2]/\Sat w' l) :=
 ztg most <| by
  delta z081 A8 Ac Ad Ak Al As
  refine zh (λh=>?_) λh=>?_
  ·exact ⟨rfl,.inr ⟨h,rfl,hs⟩⟩
  refine zcn ekI evW hs λm w' hs=>?_
  refine zq hs λt w' hs=>?_
  refine ⟨rfl,.inl ⟨by omega,by omega,t,rfl,?_⟩⟩
  exact z3s m (A:=⟨most,0,[]⟩) ⟨by show 1<=most/\most<=4096;omega,by show (0:Int)<=0/\(0:Int)<=_;omega,by show (0:Int)<=most;omega,by simp,by simp,by simp [z9l]⟩ hs
theorem zxo (pid:Int) [hf:Fo l tb t A r] (hs:Sat w l):Ret P F.a20 #[.pointer (some ⟨t,0,none⟩),.int .i64 pid] w λvs w'=>vs=[.agg (zhs (z0v A pid)).toArray,.bool (z5o A pid).isSome]/\Sat w' (tb t A::r) :=
 ztn _ _ <| by
  delta z087 AI AJ Aa Ac Ad Ak Ay B2 BM BN
  obtain ⟨m,hok,hs⟩:=zbn (hs.perm hf.perm)
  refine zn hs λa0 w' hs=>?_
  refine zj ?_
  refine z8 hs ?_
  have ho:=zjv A pid
  unfold z0v
  generalize z5o A pid=o at ho ⊢
  refine z00p hs o ho z0ac ?_
  refine zeb _ _ _ _ _ _ _ _ ?_
  refine zn hs λa12 w' hs=>?_
  refine zm hs λw' hs=>?_
  refine wp_lt ?_
  cases o with
  | none =>
   refine z0p ?_ (by simp)
   refine zm hs λw' hs=>?_
   refine zg hs ?_
   exact ⟨rfl,rfl,z3s m hok hs⟩
  | some x =>
   refine zu ?_ (by simp)
   refine zg hs ?_
   refine zm hs λw' hs=>?_
   refine zg hs ?_
   exact ⟨rfl,rfl,z3s m hok hs⟩
theorem zri (x:RowA) (h1:0<=x.seq+x.count/\x.seq+x.count<=2147483648) (hs:Sat w l):Ret P F.a14 #[.agg (zhs x).toArray] w λvs w'=>vs=[.int .i64 (x.seq+x.count)]/\Sat w' l :=
 zth x.pid x.epoch x.seq x.count x.base x.frm x.time <| by
  delta z082 Ab Ad Ai Ak Ao As BM
  refine zq hs λa0 w' hs=>?_
  refine z8 hs ?_
  refine z8 hs ?_
  refine z1a ?_
  exact ⟨rfl,rfl,hs.tail⟩
theorem zr3 (x:RowA) (hs:Sat w l):Ret P F.a15 #[.agg (zhs x).toArray] w λvs w'=>vs=[.bool (decide (0<=x.frm))]/\Sat w' l :=
 zti x.pid x.epoch x.seq x.count x.base x.frm x.time <| by
  delta z083 Ab Ad As Ay BM
  refine zq hs λa0 w' hs=>?_
  refine z8 hs ?_
  refine wp_lt ?_
  exact ⟨rfl,rfl,hs.tail⟩
theorem zii (b:BatM) (hs:Sat w l):Ret P F.a22 #[.agg (zp b).toArray] w λvs w'=>vs=[.bool (z04 b)]/\Sat w' l :=
 ztp b.base b.pid b.epoch b.seq b.kind b.time b.x <| by
  delta z089 AM Ab Ad As Ay Bc
  refine zq hs λa0 w' hs=>?_
  refine z8 hs ?_
  refine z8 hs ?_
  refine wp_lt ?_
  exact ⟨rfl,rfl,hs.tail⟩
end
structure VerA where
 again:Bool
 base:Int
def zgh (v:VerA):List Value:=[.bool v.again,.int .i64 v.base]
def z8z (r:RowA) (b:BatM):VerA × Bool :=
 if b.epoch≠r.epoch\/b.seq+b.rs.length>r.seq+r.count then (⟨false,0⟩,false) else if b.seq=r.seq/\(b.rs.length:Int)=r.count then (⟨true,r.base⟩,true) else (⟨true,-1⟩,true)
def zbc (A:TabA) (r:RowA) (there:Bool) (b:BatM):Int :=
 if 0<=r.frm/\(b.epoch>r.epoch\/b.kind=0) then 22
 else if z04 b=false/\b.seq≠(if b.epoch>r.epoch then 0 else r.seq+r.count) then 21
 else if there=false/\(A.rows.length:Int)>=A.most then 5 else 0
def z1p (A:TabA) (b:BatM):VerA × Int :=
 if z07 b≠0\/b.pid=0 then (⟨false,0⟩,z07 b)
 else if b.epoch<(z0v A b.pid).epoch then (if z04 b then (⟨true,-1⟩,0) else (⟨false,0⟩,20))
 else if z04 b=false/\(z8z (z0v A b.pid) b).2=true then ((z8z (z0v A b.pid) b).1,0)
 else (⟨false,0⟩,zbc A (z0v A b.pid) (z5o A b.pid).isSome b)
instance {v:VerA} {b:Bool}:IsR (.tup [.agg [.bool,.int .i64],.one .bool]) [.agg (zgh v).toArray,.bool b] (v.again,v.base,b,()):=⟨rfl⟩
instance {v:VerA} {n:Int}:IsR (.tup [.agg [.bool,.int .i64],.one (.int .i64)]) [.agg (zgh v).toArray,.int .i64 n] (v.again,v.base,n,()):=⟨rfl⟩
section
variable {w:World} {l r r1 r2 l':List HP} {t:Nat} {A:TabA}
theorem z00g (x:RowA) (b:BatM) [hb:FocR l b.x 4 (b.rs.flatMap z01)] (h1:0<=x.seq+x.count/\x.seq+x.count<=2147483648) (h2:0<=b.seq/\b.seq<=2147483647) (h3:b.rs.length<=64) (hs:Sat w l) :
  Ret P F.a21 #[.agg (zhs x).toArray,.agg (zp b).toArray] w λvs w'=>vs=[.agg (zgh (z8z x b).1).toArray,.bool (z8z x b).2]/\Sat w' l :=
 zto x.pid x.epoch x.seq x.count x.base x.frm x.time b.base b.pid b.epoch b.seq b.kind b.time b.x <| by
  delta z088 AC AG AI AJ AM AV Ab Ac Ad Ae Ag Aj Ak Ao As Av BI BM BQ Bc;unfold z8z
  have hl:=hs.slen b.x (xs:=b.rs) (enc:=z01)
  refine zq hs λa0 w' hs=>?_
  refine zq hs λa1 w' hs=>?_
  refine zn hs λa2 w' hs=>?_
  have hs:Sat w' (pt a2 (.cells #[.bool false,.int .i64 0] T.a7)::pt a1 (.cells #[.int .i64 b.base,.int .i64 b.pid,.int .i64 b.epoch,.int .i64 b.seq,.int .i64 b.kind,.int .i64 b.time,.slice b.x.a b.x.len b.x.cap] T.a0) ::
   pt a0 (.cells #[.int .i64 x.pid,.int .i64 x.epoch,.int .i64 x.seq,.int .i64 x.count,.int .i64 x.base,.int .i64 x.frm,.int .i64 x.time] T.a5)::l):=hs
  refine zl (λv w'=>v=(decide (b.epoch≠x.epoch\/b.seq+b.rs.length>x.seq+x.count),())/\Sat w' (pt a2 (.cells #[.bool false,.int .i64 0] T.a7)::pt a1 (.cells #[.int .i64 b.base,.int .i64 b.pid,.int .i64 b.epoch,.int .i64 b.seq,.int .i64 b.kind,.int .i64 b.time,.slice b.x.a b.x.len b.x.cap] T.a0) ::
   pt a0 (.cells #[.int .i64 x.pid,.int .i64 x.epoch,.int .i64 x.seq,.int .i64 x.count,.int .i64 x.base,.int .i64 x.frm,.int .i64 x.time] T.a5)::l)) ?_ ?_
  ·refine zv hs λw' hs=>?_
   refine z8 hs ?_
   refine z8 hs ?_
   refine z14 hs ?_
   refine z14 hs ?_
   refine zg hs ?_
   refine zh (λh=>?_) λh=>?_
   ·refine ze ?_
    exact zf ⟨by rw [decide_eq_true (.inl h)],hs⟩
   ·refine zb (zri x h1 hs) λ_ w' hs=>?_
    obtain ⟨rfl,hs⟩:=hs
    refine zd ?_ ⟨⟨trivial,λ_=>z08 hs⟩,λ_=>z08 hs⟩
    refine ze ?_
    refine zf ⟨?_,hs⟩
    rw [w64 (by omega) (by omega),hl]
    have:(b.epoch≠x.epoch\/b.seq+b.rs.length>x.seq+x.count)↔b.seq+((b.rs.length:Nat):Int)>x.seq+x.count:=⟨λh'=>h'.resolve_left h,.inr⟩
    rw [decide_eq_decide.2 this]
  clear hs
  rintro _ w ⟨rfl,hs⟩
  refine zk ?_
  refine zh (λh=>?_) λh=>?_
  ·rw [if_pos h]
   refine zm hs λw' hs=>?_
   refine zg hs ?_
   exact ⟨rfl,rfl,hs.sub⟩
  rw [if_neg h]
  refine z8 hs ?_
  refine z8 hs ?_
  refine z8 hs ?_
  refine z8 hs ?_
  refine zh (λh=>?_) λh=>?_
  ·rw [if_pos (by rw [hl] at h;exact h)]
   refine z8 hs ?_
   refine zm hs λw' hs=>?_
   refine zg hs ?_
   exact ⟨rfl,rfl,hs.sub⟩
  ·rw [if_neg (by rw [hl] at h;exact h)]
   refine zm hs λw' hs=>?_
   refine zg hs ?_
   exact ⟨rfl,rfl,hs.sub⟩
theorem z00j (x:RowA) (there:Bool) (b:BatM) [hf:Fo l tb t A r] (h1:0<=x.seq+x.count/\x.seq+x.count<=2147483648) (hs:Sat w l) :
  Ret P F.a19 #[.pointer (some ⟨t,0,none⟩),.agg (zhs x).toArray,.bool there,.agg (zp b).toArray] w λvs w'=>vs=[.int .i64 (zbc A x there b)]/\Sat w' (tb t A::r) :=
 ztm _ x.pid x.epoch x.seq x.count x.base x.frm x.time there b.base b.pid b.epoch b.seq b.kind b.time b.x <| by
  delta z086 AA AC AF AL AM Ab Ac Ad Ae Ai Aj Ak As Au Aw Ay B4 BM BN BT Bc;unfold zbc
  obtain ⟨m,hok,hs⟩:=zbn (hs.perm hf.perm)
  refine zq hs λa0 w' hs=>?_
  refine zq hs λa1 w' hs=>?_
  refine zg hs ?_
  refine zb (zri x h1 hs) λ_ _ hs=>?_
  obtain ⟨rfl,hs⟩:=hs
  refine zd ?_
  refine wp_lt ?_
  refine z8 hs ?_
  refine z8 hs ?_
  have hs:Sat _ (pt a1 (.cells #[.int .i64 b.base,.int .i64 b.pid,.int .i64 b.epoch,.int .i64 b.seq,.int .i64 b.kind,.int .i64 b.time,.slice b.x.a b.x.len b.x.cap] T.a0) ::
   pt a0 (.cells #[.int .i64 x.pid,.int .i64 x.epoch,.int .i64 x.seq,.int .i64 x.count,.int .i64 x.base,.int .i64 x.frm,.int .i64 x.time] T.a5)::pt t (.cells #[.int .i64 A.most,.int .i64 A.next,.map (some m)] T.a6)::z1e ekI evW m (z3o A.rows)::r):=hs
  refine zl (λv w'=>v=((if b.epoch>x.epoch then 0 else x.seq+x.count),())/\Sat w' (pt a1 (.cells #[.int .i64 b.base,.int .i64 b.pid,.int .i64 b.epoch,.int .i64 b.seq,.int .i64 b.kind,.int .i64 b.time,.slice b.x.a b.x.len b.x.cap] T.a0) ::
   pt a0 (.cells #[.int .i64 x.pid,.int .i64 x.epoch,.int .i64 x.seq,.int .i64 x.count,.int .i64 x.base,.int .i64 x.frm,.int .i64 x.time] T.a5)::pt t (.cells #[.int .i64 A.most,.int .i64 A.next,.map (some m)] T.a6)::z1e ekI evW m (z3o A.rows)::r)) ?_ ?_
  ·refine zh (λh=>?_) λh=>?_
   ·exact zf ⟨by rw [if_pos h],hs⟩
   ·exact zf ⟨by rw [if_neg h],hs⟩
  clear hs
  rintro _ w ⟨rfl,hs⟩
  refine zk ?_
  refine zg hs ?_
  refine zb (zr3 x hs) λ_ _ hs=>?_
  obtain ⟨rfl,hs⟩:=hs
  refine zd ?_
  refine z8 hs ?_
  refine z8 hs ?_
  refine z8 hs ?_
  refine wp_lt ?_
  refine zh (λh=>?_) λh=>?_
  ·rw [if_pos h]
   exact ⟨rfl,rfl,z3s m hok hs⟩
  rw [if_neg h]
  refine zg hs ?_
  refine zb (zii b hs) λ_ _ hs=>?_
  obtain ⟨rfl,hs⟩:=hs
  refine zd ?_
  refine z8 hs ?_
  refine wp_lt ?_
  refine zh (λh=>?_) λh=>?_
  ·rw [if_pos (by simpa using h)]
   exact ⟨rfl,rfl,z3s m hok hs⟩
  rw [if_neg (by simpa using h)]
  refine zv hs λw' hs=>?_
  refine z0j ?_
  refine z8 hs ?_
  refine ze9 hs ?_
  refine z0j ?_
  refine z8 hs ?_
  refine wp_lt ?_
  refine ze ?_
  have hlen:(z3o A.rows).length=A.rows.length:=by unfold z3o;rw [List.length_map]
  rw [hlen]
  refine zh (λh=>?_) λh=>?_
  ·rw [if_pos (by simpa using h)]
   exact ⟨rfl,rfl,z3s m hok hs⟩
  ·rw [if_neg (by simpa using h)]
   exact ⟨rfl,rfl,z3s m hok hs⟩
theorem zg3 (b:BatM) [hf:Fo l tb t A r] [hb:FocR r b.x 4 (b.rs.flatMap z01)] (hs:Sat w l) :
  Ret P F.a16 #[.pointer (some ⟨t,0,none⟩),.agg (zp b).toArray] w λvs w'=>vs=[.agg (zgh (z1p A b).1).toArray,.int .i64 (z1p A b).2]/\Sat w' (tb t A::r) :=
 ztj _ b.base b.pid b.epoch b.seq b.kind b.time b.x <| by
  delta z084 AC AI AJ AK AL AM Ab Ac Ad Ai Ak Al As Au Aw Ay BI BM BN BQ Bc;unfold z1p
  have hs:Sat w (tb t A::r):=hs.perm hf.perm
  have hok:=z019 hs
  refine zq hs λa0 w' hs=>?_
  refine zn hs λa1 w' hs=>?_
  refine zu ?_ (by simp)
  refine zg hs ?_
  refine zb (z9u b hs) λ_ _ hs=>?_
  obtain ⟨rfl,hs⟩:=hs
  refine zd ?_
  refine wp_lt ?_
  refine z8 hs ?_
  refine zh (λh=>?_) λh=>?_
  ·rw [if_pos h]
   refine zm hs λw' hs=>?_
   refine wp_lt ?_
   refine zg hs ?_
   exact ⟨rfl,rfl,hs.sub⟩
  rw [if_neg h]
  have hv:z07 b=0:=Decidable.not_not.1 λe=>h (.inl e)
  obtain ⟨hs1,hs2,hnum,hfit,hnx⟩:=z16 b hv
  have hl64:b.rs.length<=64:=by
   unfold zt at hs2
   split at hs2
   ·have:=hfit.2
    rename_i hm
    rw [if_pos hm] at this;omega
   ·omega
  refine z8 hs ?_
  refine zb (zxo b.pid hs) λ_ _ hs=>?_
  obtain ⟨rfl,hs⟩:=hs
  refine zd ?_
  obtain ⟨hr1,hr2,hr3,hr4,hr5,hr6,hr7⟩:=zie hok b.pid
  generalize z0v A b.pid=x at *
  refine zn hs λa26 w' hs=>?_
  refine zm hs λw' hs=>?_
  refine wp_lt ?_
  refine z8 hs ?_
  refine z8 hs ?_
  refine zh (λh=>?_) λh=>?_
  ·rw [if_pos h]
   refine zg hs ?_
   refine zb (zii b hs) λ_ _ hs=>?_
   obtain ⟨rfl,hs⟩:=hs
   refine zd ?_
   refine zh (λh=>?_) λh=>?_
   ·rw [if_pos h]
    refine zm hs λw' hs=>?_
    refine zg hs ?_
    exact ⟨rfl,rfl,hs.sub⟩
   ·rw [if_neg h]
    refine zm hs λw' hs=>?_
    refine zg hs ?_
    exact ⟨rfl,rfl,hs.sub⟩
  rw [if_neg h]
  refine zg hs ?_
  refine zb (zii b hs) λ_ _ hs=>?_
  obtain ⟨rfl,hs⟩:=hs
  refine zd ?_
  have hs:Sat _ (tb t A::pt a26 (.cells #[.int .i64 x.pid,.int .i64 x.epoch,.int .i64 x.seq,.int .i64 x.count,.int .i64 x.base,.int .i64 x.frm,.int .i64 x.time] T.a5)::pt a1 (.cells #[.bool false,.int .i64 0] T.a7) ::
   pt a0 (.cells #[.int .i64 b.base,.int .i64 b.pid,.int .i64 b.epoch,.int .i64 b.seq,.int .i64 b.kind,.int .i64 b.time,.slice b.x.a b.x.len b.x.cap] T.a0)::r):=hs.sub
  refine zl (λ_ w'=>¬ (z04 b=false/\(z8z x b).2=true)/\Sat w' (tb t A::pt a26 (.cells #[.int .i64 x.pid,.int .i64 x.epoch,.int .i64 x.seq,.int .i64 x.count,.int .i64 x.base,.int .i64 x.frm,.int .i64 x.time] T.a5)::pt a1 (.cells #[.bool false,.int .i64 0] T.a7) ::
   pt a0 (.cells #[.int .i64 b.base,.int .i64 b.pid,.int .i64 b.epoch,.int .i64 b.seq,.int .i64 b.kind,.int .i64 b.time,.slice b.x.a b.x.len b.x.cap] T.a0)::r)) ?_ ?_
  ·refine zh (λh=>?_) λh=>?_
   ·refine zg hs ?_
    refine zg hs ?_
    refine zb (z00g x b ⟨by omega,by omega⟩ hnum.2.2.2.2.1 hl64 hs) λ_ _ hs=>?_
    obtain ⟨rfl,hs⟩:=hs
    refine zd ?_
    refine zn hs λa67 w' hs=>?_
    refine zm hs λw' hs=>?_
    refine wp_lt ?_
    refine zh (λh2=>?_) λh2=>?_
    ·rw [if_pos ⟨by simpa using h,h2⟩]
     refine zg hs ?_
     refine zm hs λw' hs=>?_
     refine zg hs ?_
     refine zo ?_
     exact ⟨rfl,rfl,hs.sub⟩
    ·exact zf ⟨λe=>h2 e.2,hs.sub⟩
   ·exact zf ⟨λe=>h (by rw [e.1];simp),hs⟩
  clear hs
  rintro _ w ⟨hno,hs⟩
  refine zk ?_
  rw [if_neg hno]
  refine zg hs ?_
  refine zg hs ?_
  refine zb (z00j x (z5o A b.pid).isSome b ⟨by omega,by omega⟩ hs) λ_ _ hs=>?_
  obtain ⟨rfl,hs⟩:=hs
  refine zd ?_
  refine zm hs λw' hs=>?_
  refine wp_lt ?_
  refine zg hs ?_
  exact ⟨rfl,rfl,hs.sub⟩
end
def z9k (A:TabA) (b:BatM):Int:=match z5o A b.pid with
 | none=>b.time
 | some r=>if r.time>b.time then r.time else b.time
def z6x (A:TabA) (b:BatM):Int:=if b.kind=1/\(z0v A b.pid).frm<0 then b.base else (z0v A b.pid).frm
def z4i (A:TabA) (b:BatM):RowA:=if z04 b then ⟨b.pid,b.epoch+1,0,0,0,-1,z9k A b⟩ else ⟨b.pid,b.epoch,b.seq,b.rs.length,b.base,z6x A b,z9k A b⟩
def z83 (pid:Int) (rs:List RowA):List RowA:=rs.filter λr=>!decide (r.pid=pid)
def z9g (x:RowA) (rs:List RowA):List RowA:=rs.filter (λr=>decide (r.pid<x.pid))++x::rs.filter (λr=>decide (x.pid<r.pid))
def z5m (A:TabA) (b:BatM):TabA:=⟨A.most,b.base+zt b,if b.pid=0 then A.rows else z9g (z4i A b) A.rows⟩
def zkq (A:TabA) (b:BatM):Int × TabA :=
 if (z1p A b).2≠0 then ((z1p A b).2,A) else if (z1p A b).1.again then (4,A) else if b.base<A.next then (8,A) else (0,z5m A b)
theorem zmh (x:RowA) (rs:List RowA):(z9g x rs).Perm (x::z83 x.pid rs):=by
 unfold z9g z83
 refine List.perm_middle.trans (.cons _ ?_)
 have h:=List.filter_append_perm (λr:RowA=>decide (r.pid<x.pid)) (rs.filter λr=>!decide (r.pid=x.pid))
 rw [List.filter_filter,List.filter_filter] at h
 have e1:rs.filter (λr=>decide (r.pid<x.pid))=rs.filter (λr=>decide (r.pid<x.pid) && !decide (r.pid=x.pid)):=List.filter_congr λr _=>by
  rw [Bool.eq_iff_iff];simp;omega
 have e2:rs.filter (λr=>decide (x.pid<r.pid))=rs.filter (λr=>!decide (r.pid<x.pid) && !decide (r.pid=x.pid)):=List.filter_congr λr _=>by
  rw [Bool.eq_iff_iff];simp;omega
 rw [e1,e2];exact h
theorem zsx {x:RowA} {rs:List RowA} (h:rs.Pairwise λa b=>a.pid<b.pid):(z9g x rs).Pairwise λa b=>a.pid<b.pid:=by
 unfold z9g
 rw [List.pairwise_append,List.pairwise_cons]
 refine ⟨h.filter _,⟨λr hr=>?_,h.filter _⟩,λa ha c hc=>?_⟩
 ·simpa using (List.mem_filter.1 hr).2
 ·have h1:a.pid<x.pid:=by simpa using (List.mem_filter.1 ha).2
  rcases List.mem_cons.1 hc with rfl|hc
  ·exact h1
  ·have h2:x.pid<c.pid:=by simpa using (List.mem_filter.1 hc).2
   omega
theorem zdp {pid:Int} {rs:List RowA} (h:∀ r ∈ rs,r.pid≠pid):z83 pid rs=rs:=List.filter_eq_self.2 λr hr=>by simp [h r hr]
theorem zau {x:RowA}:∀ {rs:List RowA},x ∈ rs->(rs.Pairwise λa b=>a.pid<b.pid)->rs.Perm (x::z83 x.pid rs)
 | y::rs,hx,h=>by
  rw [List.pairwise_cons] at h
  unfold z83
  rw [List.filter_cons]
  rcases List.mem_cons.1 hx with rfl|hx
  ·rw [if_neg (by simp)]
   have:=zdp (pid:=x.pid) (rs:=rs) (λr hr=>by have:=h.1 r hr;omega)
   unfold z83 at this
   rw [this]
  ·have h1:=h.1 x hx
   rw [if_pos (by simp;omega)]
   exact ((zau hx h.2).cons y).trans (.swap _ _ _)
theorem zso {a b:List RowA} (h:a.Perm b):(z9l a).Perm (z9l b):=h.filter _
theorem zg7 {a b:List RowA} (h:a.Perm b) (ha:(z9l a).Pairwise λx y=>x.frm≠y.frm):(z9l b).Pairwise λx y=>x.frm≠y.frm :=
 (List.Perm.pairwise_iff (λ{x y} h=>Ne.symm h) (zso h)).1 ha
theorem zen {A:TabA} {b:BatM} (h1:(z1p A b).2=0) (h2:(z1p A b).1.again=false):z07 b=0/\(b.pid≠0->(z0v A b.pid).epoch<=b.epoch/\¬ (z04 b=false/\(z8z (z0v A b.pid) b).2=true)/\zbc A (z0v A b.pid) (z5o A b.pid).isSome b=0):=by
 unfold z1p at h1 h2
 split at h1
 ·rename_i h
  rw [if_pos h] at h2
  refine ⟨h1,λhp=>absurd h (λh=>h.elim (λh=>h h1) hp)⟩
 rename_i h
 rw [if_neg h] at h2
 have hv:z07 b=0:=Decidable.not_not.1 λe=>h (.inl e)
 refine ⟨hv,λhp=>?_⟩
 split at h1
 ·rename_i h3
  rw [if_pos h3] at h2
  split at h1
  ·rename_i h4;rw [if_pos h4] at h2;cases h2
  ·cases h1
 rename_i h3
 rw [if_neg h3] at h2
 split at h1
 ·rename_i h4
  rw [if_pos h4] at h2
  obtain ⟨-,h4⟩:=h4
  unfold z8z at h2 h4
  split at h4
  ·cases h4
  ·rename_i h5
   rw [if_neg h5] at h2
   split at h2 <;> cases h2
 ·rename_i h4
  exact ⟨by omega,h4,h1⟩
theorem zsa {A:TabA} {x:RowA} {there:Bool} {b:BatM} (h:zbc A x there b=0):¬ (0<=x.frm/\(b.epoch>x.epoch\/b.kind=0))/\¬ (z04 b=false/\b.seq≠(if b.epoch>x.epoch then 0 else x.seq+x.count))/\(there=false->(A.rows.length:Int)<A.most):=by
 unfold zbc at h
 by_cases h1:0<=x.frm/\(b.epoch>x.epoch\/b.kind=0)
 ·rw [if_pos h1] at h;cases h
 rw [if_neg h1] at h
 by_cases h2:z04 b=false/\b.seq≠(if b.epoch>x.epoch then 0 else x.seq+x.count)
 ·rw [if_pos h2] at h;cases h
 rw [if_neg h2] at h
 by_cases h3:there=false/\(A.rows.length:Int)>=A.most
 ·rw [if_pos h3] at h;cases h
 exact ⟨h1,h2,λe=>by rcases Int.lt_or_le (A.rows.length:Int) A.most with h|h;exact h;exact absurd ⟨e,h⟩ h3⟩
theorem zmn (A:TabA) (b:BatM):(z4i A b).pid=b.pid:=by unfold z4i;split <;> rfl
theorem z04k {A:TabA} (hok:okTb A) {b:BatM} (hb:0<=b.time/\b.time<=1099511627776):0<=z9k A b/\z9k A b<=1099511627776:=by
 unfold z9k
 split
 ·exact hb
 ·rename_i r hr
  have:=(hok.row r (z2r hr).1).time
  split <;> omega
theorem z04p {A:TabA} {b:BatM} (hok:okTb A) (h1:(z1p A b).2=0) (h2:(z1p A b).1.again=false) (h3:A.next<=b.base):okTb (z5m A b):=by
 obtain ⟨hv,hj⟩:=zen h1 h2
 obtain ⟨hs1,hs2,hnum,hfit,hnx⟩:=z16 b hv
 have hn0:=hok.next
 by_cases hp0:b.pid=0
 ·have e:z5m A b=⟨A.most,b.base+zt b,A.rows⟩:=by unfold z5m;rw [if_pos hp0]
  rw [e]
  exact ⟨hok.most,⟨by show 0<=b.base+zt b;omega,by show b.base+zt b<=_;omega⟩,hok.many,λr hr=>by
   have h:=hok.row r hr
   exact ⟨h.pid,h.epoch,h.time,h.count,h.seq,h.base,h.frm,h.none_,λhc=>by have:=h.some_ hc;show _/\_/\_<=b.base+zt b/\_;omega⟩,hok.byPid,hok.apart⟩
 obtain ⟨hje,-,hfr⟩:=hj hp0
 obtain ⟨hf1,hf2,hf3⟩:=zsa hfr
 have e:z5m A b=⟨A.most,b.base+zt b,z9g (z4i A b) A.rows⟩:=by unfold z5m;rw [if_neg hp0]
 have hpp:=zmh (z4i A b) A.rows
 rw [zmn] at hpp
 obtain ⟨hnk,hnb,hnp,hne,hns,hnt⟩:=hnum
 have hlate:=z04k hok hnt
 have hF:=zie hok b.pid
 have hfrm:(z0v A b.pid).frm<A.next:=by
  unfold z0v
  cases h:z5o A b.pid with
  | none=>show (-1:Int)<_;omega
  | some y =>
   have hy:=hok.row y (z2r h).1
   show y.frm<A.next
   rcases Int.lt_or_le 0 y.count with hc|hc
   ·have:=hy.some_ hc;omega
   ·have:=hy.none_ (by have:=hy.count;omega);omega
 have hokN:okRw (z4i A b) (b.base+zt b):=by
  unfold z4i
  by_cases hm:z04 b=true
  ·rw [if_pos hm]
   exact ⟨by show 1<=b.pid/\b.pid<=_;omega,by show 0<=b.epoch+1/\b.epoch+1<=_;omega,hlate,by show (0:Int)<=0/\(0:Int)<=64;omega,Int.le_refl _,Int.le_refl _,Int.le_refl _,λ_=>⟨rfl,rfl,rfl⟩,λh=>absurd h (by show ¬ (0:Int)<0;omega)⟩
  ·rw [if_neg hm]
   have hm:z04 b=false:=by simpa using hm
   have hlen:zt b=b.rs.length:=by unfold zt;rw [hm];rfl
   have hseq:b.seq+b.rs.length<=2147483648:=by
    unfold z07 at hv
    split at hv
    ·cases hv
    split at hv
    ·cases hv
    split at hv
    ·rename_i h;exact absurd hv h
    split at hv
    ·cases hv
    ·rename_i h
     rcases Int.lt_or_le 2147483647 (b.seq+(zt b-1)) with h9|h9
     ·exact absurd (.inr ⟨by omega,hm,by omega⟩) h
     ·omega
   have hfrm2 : -1<=z6x A b/\z6x A b<=b.base:=by
    unfold z6x
    split
    ·omega
    ·omega
   exact ⟨by show 1<=b.pid/\b.pid<=_;omega,by show 0<=b.epoch/\b.epoch<=_;omega,hlate,by show (0:Int)<=b.rs.length/\(b.rs.length:Int)<=64;omega,hns.1,hnb.1,hfrm2.1,λh=>absurd h (by show ¬ (b.rs.length:Int)=0;omega),λ_=>by
    show b.epoch<=_/\b.seq+(b.rs.length:Int)<=_/\b.base+(b.rs.length:Int)<=b.base+zt b/\z6x A b<=b.base
    omega⟩
 have hrest:z83 b.pid A.rows ⊆ A.rows:=λr hr=>(List.mem_filter.1 hr).1
 rw [e]
 refine ⟨hok.most,⟨by show 0<=b.base+zt b;omega,by show b.base+zt b<=_;omega⟩,?_,λr hr=>?_,zsx hok.byPid,?_⟩
 ·show ((z9g (z4i A b) A.rows).length:Int)<=A.most
  rw [hpp.length_eq,List.length_cons]
  cases h:z5o A b.pid with
  | none =>
   have:=hf3 (by rw [h];rfl)
   rw [zdp (zdq h)];omega
  | some y =>
   have h4:=(zau (z2r h).1 hok.byPid).length_eq
   rw [(z2r h).2,List.length_cons] at h4
   have:=hok.many
   omega
 ·have hr:r ∈ z9g (z4i A b) A.rows:=hr
  rcases List.mem_cons.1 (hpp.mem_iff.1 hr) with rfl|hr
  ·exact hokN
  ·have h:=hok.row r (hrest hr)
   exact ⟨h.pid,h.epoch,h.time,h.count,h.seq,h.base,h.frm,h.none_,λhc=>by have:=h.some_ hc;show _/\_/\_<=b.base+zt b/\_;omega⟩
 ·refine zg7 hpp.symm ?_
  have hsub:(z9l (z83 b.pid A.rows)).Pairwise λx y=>x.frm≠y.frm:=hok.apart.sublist ((List.filter_sublist).filter _)
  unfold z9l
  rw [List.filter_cons]
  split
  rotate_left
  ·exact hsub
  rename_i hop
  have hop:0<=(z4i A b).frm:=by simpa using hop
  rw [List.pairwise_cons]
  refine ⟨λy hy=>?_,hsub⟩
  have hy1:=List.mem_filter.1 hy
  have hy2:0<=y.frm:=by simpa using hy1.2
  have hyr:=hok.row y (hrest hy1.1)
  have hm:¬ z04 b=true:=λhm=>by unfold z4i at hop;rw [if_pos hm] at hop;exact absurd hop (by show ¬ (0:Int) <= -1;omega)
  unfold z4i
  rw [if_neg hm]
  show z6x A b≠y.frm
  have hylt:y.frm<A.next:=by
   rcases Int.lt_or_le 0 y.count with hc|hc
   ·have:=hyr.some_ hc;omega
   ·have:=hyr.none_ (by have:=hyr.count;omega);omega
  unfold z6x
  split
  ·omega
  ·rename_i hk
   cases h:z5o A b.pid with
   | none =>
    have:(z0v A b.pid).frm = -1:=by unfold z0v;rw [h];rfl
    omega
   | some z =>
    have hz:z0v A b.pid=z:=by unfold z0v;rw [h];rfl
    rw [hz] at *
    by_cases hzo:0<=z.frm
    ·have h5:=zg7 (zau (z2r h).1 hok.byPid) hok.apart
     rw [(z2r h).2] at h5
     unfold z9l at h5
     rw [List.filter_cons,if_pos (by simpa using hzo),List.pairwise_cons] at h5
     exact h5.1 y hy
    ·omega
theorem z06r {A:TabA} (hok:okTb A) (pid:Int):(∃ v0,(z3o A.rows).Perm ((pid,v0)::z3o (z83 pid A.rows)))\/((∀ v,(pid,v) ∉ z3o A.rows)/\z3o (z83 pid A.rows)=z3o A.rows):=by
 rcases zjv A pid with ⟨y,hy,-⟩|⟨hn,hno⟩
 ·left
  refine ⟨y,?_⟩
  have h:=(zau (z2r hy).1 hok.byPid).map λr:RowA=>(r.pid,r)
  rw [(z2r hy).2,List.map_cons,(z2r hy).2] at h
  exact h
 ·right
  exact ⟨hno,by rw [zdp (zdq hn)]⟩
theorem z04i (x:RowA) (rs:List RowA):((x.pid,x)::z3o (z83 x.pid rs)).Perm (z3o (z9g x rs)):=((zmh x rs).map λr:RowA=>(r.pid,r)).symm
theorem zze {A:TabA} {n:Int} (hok:okTb A) (h1:A.next<=n) (h2:n<=1099511627777):okTb ⟨A.most,n,A.rows⟩ :=
 ⟨hok.most,⟨by have:=hok.next;show 0<=n;omega,h2⟩,hok.many,λr hr=>by
  have h:=hok.row r hr
  exact ⟨h.pid,h.epoch,h.time,h.count,h.seq,h.base,h.frm,h.none_,λhc=>by have:=h.some_ hc;show _/\_/\_<=n/\_;omega⟩,hok.byPid,hok.apart⟩
section
variable {w:World} {l r r1 r2 l':List HP} {t:Nat} {A:TabA}
theorem z05l (b:BatM) [hf:Fo l tb t A r] [hb:FocR r b.x 4 (b.rs.flatMap z01)] (hs:Sat w l) :
  Ret P F.a18 #[.pointer (some ⟨t,0,none⟩),.agg (zp b).toArray] w λvs w'=>vs=[.int .i64 (zkq A b).1]/\Sat w' (tb t (zkq A b).2::r) :=
 ztl _ b.base b.pid b.epoch b.seq b.kind b.time b.x <| by
  delta z085 AA AC AI AJ AK AL AM Aa Ab Ac Ad Ae Af Ag Ai Aj Ak Al An Ao As Au Av Aw Ay B2 BH BI BM BN Br Bz;unfold zkq
  have hs:Sat w (tb t A::r):=hs.perm hf.perm
  have hok:=z019 hs
  refine zq hs λa0 w' hs=>?_
  refine zg hs ?_
  refine zb (zg3 b hs) λ_ _ hs=>?_
  obtain ⟨rfl,hs⟩:=hs
  refine zd ?_
  have hnx:=z04p (b:=b) hok
  have hjf:=zen (A:=A) (b:=b)
  generalize hje:z1p A b=j at *
  obtain ⟨v,e⟩:=j
  refine zn hs λa11 w' hs=>?_
  refine zm hs λw' hs=>?_
  refine wp_lt ?_
  refine wp_lt ?_
  refine zh (λh=>?_) λh=>?_
  ·rw [if_pos h]
   refine wp_lt ?_
   exact ⟨rfl,rfl,hs.sub⟩
  have he:e=0:=Decidable.not_not.1 h
  subst he
  rw [if_neg (by simp)]
  refine z8 hs ?_
  refine wp_lt ?_
  refine zh (λh=>?_) λh=>?_
  ·rw [if_pos h]
   exact ⟨rfl,rfl,hs.sub⟩
  rw [if_neg h]
  have hag:v.again=false:=by simpa using h
  refine zv hs λw' hs=>?_
  refine z8 hs ?_
  refine zj ?_
  have hs:Sat w' (tb t A::pt a11 (.cells #[.bool v.again,.int .i64 v.base] T.a7)::pt a0 (.cells #[.int .i64 b.base,.int .i64 b.pid,.int .i64 b.epoch,.int .i64 b.seq,.int .i64 b.kind,.int .i64 b.time,.slice b.x.a b.x.len b.x.cap] T.a0)::r):=hs.sub
  obtain ⟨m,-,hs⟩:=zbn hs
  refine z8 hs ?_
  refine wp_lt ?_
  refine ze ?_
  refine zh (λh=>?_) λh=>?_
  ·rw [if_pos h]
   exact ⟨rfl,rfl,z3s m hok hs⟩
  rw [if_neg h]
  have hok':=hnx rfl hag (by omega)
  obtain ⟨hv,hj⟩:=hjf rfl hag
  obtain ⟨hs1,hs2,hnum,hfit,hn2⟩:=z16 b hv
  have hne:=hnum.2.2.2.1
  refine zg hs ?_
  refine zb (z9r b hs) λ_ _ hs=>?_
  obtain ⟨rfl,hs⟩:=hs
  refine zd ?_
  have hnb:z1d b=b.base+zt b:=by unfold z1d;rw [if_neg (by rw [hv];simp)]
  rw [hnb]
  refine zj ?_
  refine z02 hs λw' hs=>?_
  refine z8 hs ?_
  have hok1:okTb ⟨A.most,b.base+zt b,A.rows⟩:=zze hok (by omega) hn2
  refine zh (λh0=>?_) λh0=>?_
  ·refine ⟨rfl,rfl,?_⟩
   have e:z5m A b=⟨A.most,b.base+zt b,A.rows⟩:=by unfold z5m;rw [if_pos h0]
   show Sat _ (tb t (z5m A b)::r)
   rw [e]
   exact z3s m hok1 hs
  have e:z5m A b=⟨A.most,b.base+zt b,z9g (z4i A b) A.rows⟩:=by unfold z5m;rw [if_neg h0]
  show _
  refine z8 hs ?_
  have hs:Sat _ (tb t ⟨A.most,b.base+zt b,A.rows⟩::pt a11 (.cells #[.bool v.again,.int .i64 v.base] T.a7)::pt a0 (.cells #[.int .i64 b.base,.int .i64 b.pid,.int .i64 b.epoch,.int .i64 b.seq,.int .i64 b.kind,.int .i64 b.time,.slice b.x.a b.x.len b.x.cap] T.a0)::r):=z3s m hok1 hs
  refine zb (zxo b.pid hs) λ_ _ hs=>?_
  obtain ⟨rfl,hs⟩:=hs
  refine zd ?_
  have eF:z0v ⟨A.most,b.base+zt b,A.rows⟩ b.pid=z0v A b.pid:=rfl
  have eO:z5o ⟨A.most,b.base+zt b,A.rows⟩ b.pid=z5o A b.pid:=rfl
  rw [eF,eO]
  have hFok:=zie hok b.pid
  have hkeys:=z06r hok b.pid
  have hkp:=z04i (z4i A b) A.rows
  rw [zmn] at hkp
  refine zn hs λa42 w' hs=>?_
  refine zm hs λw' hs=>?_
  refine wp_lt ?_
  refine z8 hs ?_
  refine wp_lt ?_
  have hs:Sat _ (tb t ⟨A.most,b.base+zt b,A.rows⟩::pt a42 (.cells #[.int .i64 (z0v A b.pid).pid,.int .i64 (z0v A b.pid).epoch,.int .i64 (z0v A b.pid).seq,.int .i64 (z0v A b.pid).count,.int .i64 (z0v A b.pid).base,.int .i64 (z0v A b.pid).frm,.int .i64 (z0v A b.pid).time] T.a5) ::
   pt a0 (.cells #[.int .i64 b.base,.int .i64 b.pid,.int .i64 b.epoch,.int .i64 b.seq,.int .i64 b.kind,.int .i64 b.time,.slice b.x.a b.x.len b.x.cap] T.a0)::r):=hs.sub
  refine zl (λv w'=>v=(z9k A b,())/\Sat w' (tb t ⟨A.most,b.base+zt b,A.rows⟩::pt a42 (.cells #[.int .i64 (z0v A b.pid).pid,.int .i64 (z0v A b.pid).epoch,.int .i64 (z0v A b.pid).seq,.int .i64 (z0v A b.pid).count,.int .i64 (z0v A b.pid).base,.int .i64 (z0v A b.pid).frm,.int .i64 (z0v A b.pid).time] T.a5) ::
   pt a0 (.cells #[.int .i64 b.base,.int .i64 b.pid,.int .i64 b.epoch,.int .i64 b.seq,.int .i64 b.kind,.int .i64 b.time,.slice b.x.a b.x.len b.x.cap] T.a0)::r)) ?_ ?_
  ·unfold z9k z0v at *
   cases ho:z5o A b.pid with
   | none =>
    rw [ho] at hs
    refine zu ?_ (by simp)
    exact zf ⟨rfl,hs⟩
   | some y =>
    rw [ho] at hs
    refine z0p ?_ (by simp)
    refine z8 hs ?_
    refine wp_lt ?_
    exact zf ⟨rfl,hs⟩
  clear hs
  rintro _ w ⟨rfl,hs⟩
  refine zk ?_
  refine z8 hs ?_
  obtain ⟨m,-,hs⟩:=zbn hs
  have hfin:∀ {w:World},Sat w (tb t (z5m A b)::r)->0=0/\([.int .i64 0]:List Value)=[.int .i64 0]/\Sat w (tb t (z5m A b)::r):=λh=>⟨rfl,rfl,h⟩
  refine zl (λ_ w'=>Sat w' (tb t (z5m A b)::r)) ?_ (by rintro _ w' hs;refine zk ?_;exact ⟨rfl,rfl,hs⟩)
  refine zl (λ_ w'=>z04 b=false/\Sat w' (pt t (.cells #[.int .i64 A.most,.int .i64 (b.base+zt b),.map (some m)] T.a6)::z1e ekI evW m (z3o A.rows)::pt a42 (.cells #[.int .i64 (z0v A b.pid).pid,.int .i64 (z0v A b.pid).epoch,.int .i64 (z0v A b.pid).seq,.int .i64 (z0v A b.pid).count,.int .i64 (z0v A b.pid).base,.int .i64 (z6x A b),.int .i64 (z0v A b.pid).time] T.a5) ::
   pt a0 (.cells #[.int .i64 b.base,.int .i64 b.pid,.int .i64 b.epoch,.int .i64 b.seq,.int .i64 b.kind,.int .i64 b.time,.slice b.x.a b.x.len b.x.cap] T.a0)::r)) ?_ ?_
  ·refine wp_lt ?_
   refine zl (λv w'=>v=(z04 b,())/\Sat w' (pt t (.cells #[.int .i64 A.most,.int .i64 (b.base+zt b),.map (some m)] T.a6)::z1e ekI evW m (z3o A.rows)::pt a42 (.cells #[.int .i64 (z0v A b.pid).pid,.int .i64 (z0v A b.pid).epoch,.int .i64 (z0v A b.pid).seq,.int .i64 (z0v A b.pid).count,.int .i64 (z0v A b.pid).base,.int .i64 (z0v A b.pid).frm,.int .i64 (z0v A b.pid).time] T.a5) ::
    pt a0 (.cells #[.int .i64 b.base,.int .i64 b.pid,.int .i64 b.epoch,.int .i64 b.seq,.int .i64 b.kind,.int .i64 b.time,.slice b.x.a b.x.len b.x.cap] T.a0)::r)) ?_ ?_
   ·refine zh (λh=>?_) λh=>?_
    ·exact zf ⟨by unfold z04;rw [show (b.kind == 2)=true by simpa using h,decide_eq_true (by simpa using h)];rfl,hs⟩
    ·refine wp_lt ?_
     exact zf ⟨by unfold z04;rw [decide_eq_false (p:=b.kind=2) (by simpa using h)];rfl,hs⟩
   clear hs
   rintro _ w ⟨rfl,hs⟩
   refine zk ?_
   refine zh (λhm=>?_) λhm=>?_
   ·refine zv hs λw' hs=>?_
    refine zj ?_
    refine z8 hs ?_
    refine z8 hs ?_
    refine z8 hs ?_
    refine z8 hs ?_
    have eN:z4i A b=⟨b.pid,b.epoch+1,0,0,0,-1,z9k A b⟩:=by unfold z4i;rw [if_pos hm]
    rw [w64 (x:=b.epoch+1) (by omega) (by omega)]
    refine zbp hs _ hkeys (z4i A b) (λw' hs=>?_) (by rw [eN])
    refine ze ?_
    refine zo (zo ?_)
    exact ⟨rfl,rfl,by show Sat _ (tb t (z5m A b)::r);exact e ▸ z3s m (A:=⟨A.most,b.base+zt b,z9g (z4i A b) A.rows⟩) (e ▸ hok') hs hkp⟩
   have hm:z04 b=false:=by simpa using hm
   refine wp_lt ?_
   refine zh (λh=>?_) λh=>?_
   ·refine zg hs ?_
    refine zb (zr3 (z0v A b.pid) hs) λ_ _ hs=>?_
    obtain ⟨rfl,hs⟩:=hs
    refine zd ?_
    refine zl (λ_ w'=>Sat w' (pt t (.cells #[.int .i64 A.most,.int .i64 (b.base+zt b),.map (some m)] T.a6)::z1e ekI evW m (z3o A.rows)::pt a42 (.cells #[.int .i64 (z0v A b.pid).pid,.int .i64 (z0v A b.pid).epoch,.int .i64 (z0v A b.pid).seq,.int .i64 (z0v A b.pid).count,.int .i64 (z0v A b.pid).base,.int .i64 (z6x A b),.int .i64 (z0v A b.pid).time] T.a5) ::
     pt a0 (.cells #[.int .i64 b.base,.int .i64 b.pid,.int .i64 b.epoch,.int .i64 b.seq,.int .i64 b.kind,.int .i64 b.time,.slice b.x.a b.x.len b.x.cap] T.a0)::r)) ?_ (by rintro _ w' hs;refine zk ?_;exact zf ⟨hm,hs⟩)
    refine zh (λh2=>?_) λh2=>?_
    ·refine z8 hs ?_
     refine z02 hs λw' hs=>?_
     refine zf ?_
     have:z6x A b=b.base:=by unfold z6x;rw [if_pos ⟨h,by simpa using h2⟩]
     rw [this];exact hs.sub
    ·refine zf ?_
     have:z6x A b=(z0v A b.pid).frm:=by unfold z6x;rw [if_neg (λh3=>h2 (by simpa using h3.2))]
     rw [this];exact hs
   ·refine zf ⟨hm,?_⟩
    have:z6x A b=(z0v A b.pid).frm:=by unfold z6x;rw [if_neg (λh3=>h h3.1)]
    rw [this];exact hs
  clear hs
  rintro _ w ⟨hm,hs⟩
  refine zk ?_
  have hl:=hs.slen b.x (xs:=b.rs) (enc:=z01)
  refine zv hs λw' hs=>?_
  refine zj ?_
  refine z8 hs ?_
  refine z8 hs ?_
  refine z8 hs ?_
  refine z8 hs ?_
  refine z8 hs ?_
  refine z8 hs ?_
  refine z8 hs ?_
  refine z8 hs ?_
  have eN:z4i A b=⟨b.pid,b.epoch,b.seq,b.rs.length,b.base,z6x A b,z9k A b⟩:=by unfold z4i;rw [if_neg (by rw [hm];simp)]
  refine zbp hs _ hkeys (z4i A b) (λw' hs=>?_) (by rw [eN,hl])
  refine ze ?_
  refine zf ?_
  exact e ▸ z3s m (A:=⟨A.most,b.base+zt b,z9g (z4i A b) A.rows⟩) (e ▸ hok') hs hkp
end
abbrev ekK (k:Int × Int):Value:=.agg #[.int .i64 k.1,.int .i64 k.2]
theorem z03z (a b:Int × Int) (w:World):(Op.equal T.a17 (ekK a) (ekK b)).run P w=.ok (a.1 == b.1 && a.2 == b.2) w :=
 zlk 10000 (t:=T.a17) (x:=ekK a) (y:=ekK b) (by kernel_rfl) w
theorem ziw {P:Program} {t:TypeId} {q k:IntKind} (hu:P.underlying t=some (.int q)) (e:Bool) (n:Nat) (v:Int) (w:World):(Instr.checkKey e (n+1) t (.int k v)).run P w=.ok () w:=by
 simp [Instr.checkKey,run_underlying hu]
theorem zrv {P:Program} {t:TypeId} {f0 f1:Field} {q0 q1 k0 k1:IntKind} (hu:P.underlying t=some (.struct #[f0,f1])) (h0:P.underlying f0.type=some (.int q0)) (h1:P.underlying f1.type=some (.int q1)) (o0:f0.offset=0) (o1:f1.offset=1)
  (n0 : ¬ f0.name = "_") (n1 : ¬ f1.name = "_") (e : Bool) (n : Nat) (a b : Int) (w : World) : (Instr.checkKey e (n + 2) t (.agg #[.int k0 a, .int k1 b])).run P w = .ok () w := by
 have p0:(part f0.type #[Value.int k0 a,.int k1 b] f0.offset).run P w=.ok (.int k0 a) w:=run_part_plain w (by simp [Program.plainKey,h0]) (by rw [o0];rfl)
 have p1:(part f1.type #[Value.int k0 a,.int k1 b] f1.offset).run P w=.ok (.int k1 b) w:=run_part_plain w (by simp [Program.plainKey,h1]) (by rw [o1];rfl)
 have c0:=ziw (k:=k0) h0 e n a w
 have c1:=ziw (k:=k1) h1 e n b w
 rw [show n+2=(n+1)+1 from rfl,Instr.checkKey]
 simp only [Sem.run_bind,run_underlying hu,Result.andThen_ok]
 rw [<- Array.forIn_toList]
 simp only [List.forIn_cons,List.forIn_nil,Sem.run_bind,n0,n1,ne_eq,not_false_eq_true,if_true,Result.andThen_ok,p0,p1,c0,c1,Sem.run_pure]
theorem zvv (e:Bool) (k:Int × Int) (w:World):(Instr.checkKey e 10000 T.a17 (ekK k)).run P w=.ok () w :=
 zrv (P:=P) (q0:=.i64) (q1:=.i64) Go.Proofs.Tryz.underlying311 (by kernel_rfl) (by kernel_rfl) rfl rfl (by decide) (by decide) e 9998 k.1 k.2 w
theorem zj6 (k:Int × Int) (w:World):∀ (es:List MapEntry) (i:Nat),(∀ e ∈ es,∃ k',e.key=ekK k') ->
  (∃ (j:Nat) (e:MapEntry),es[j]? = some e/\e.key=ekK k/\(Instr.findAsking T.a17 (ekK k) es i).run P w=.ok (some (i+j,e.val)) w) \/
  ((∀ e ∈ es,e.key≠ekK k)/\(Instr.findAsking T.a17 (ekK k) es i).run P w=.ok none w)
 | [],i,_=>.inr ⟨by simp,by simp [Instr.findAsking,Sem.run_pure]⟩
 | e::es,i,h=>by
  obtain ⟨k',hk'⟩:=h e (List.mem_cons_self ..)
  have hrun:(Instr.findAsking T.a17 (ekK k) (e::es) i).run P w=(if (k.1 == k'.1 && k.2 == k'.2)=true then (pure (some (i,e.val)):Sem (Option (Nat × Value))) else Instr.findAsking T.a17 (ekK k) es (i+1)).run P w:=by
   rw [Instr.findAsking]
   simp only [Sem.run_bind,hk',z03z,Result.andThen_ok]
  by_cases hk:k=k'
  ·subst hk
   refine .inl ⟨0,e,rfl,hk',?_⟩
   rw [hrun,if_pos (by simp)];rfl
  ·have hne:¬ (k.1 == k'.1 && k.2 == k'.2)=true:=λh2=>hk (by
    simp only [Bool.and_eq_true,beq_iff_eq] at h2
    exact Prod.ext h2.1 h2.2)
   rcases zj6 k w es (i+1) (λe he=>h e (List.mem_cons_of_mem _ he)) with ⟨j,e',h1,h2,h3⟩|⟨h1,h2⟩
   ·exact .inl ⟨j+1,e',h1,h2,by rw [hrun,if_neg hne,h3,Nat.add_assoc,Nat.add_comm 1 j]⟩
   ·refine .inr ⟨λe' he'=>?_,by rw [hrun,if_neg hne,h2]⟩
    rcases List.mem_cons.1 he' with rfl|he'
    ·rw [hk']
     intro h4
     injection h4 with h4
     simp at h4
     exact hk (Prod.ext h4.1.symm h4.2.symm)
    ·exact h1 e' he'
instance:KeyT P T.a17 ekK where
 inj a b h:=by
  injection h with h4
  simp at h4
  exact Prod.ext h4.1 h4.2
 same a:=by
  show (_ && _)=true
  simp [Instr.sameBits]
 check:=zvv
 find es k w h:=by
  have e:=run_findKey_eq (P:=P) w (k:=T.a17) (by kernel_rfl) (ekK k) es
  rcases zj6 k w es 0 h with ⟨j,e',h1,h2,h3⟩|⟨h1,h2⟩
  ·exact .inl ⟨j,e',h1,h2,by rw [e,h3,Nat.zero_add]⟩
  ·exact .inr ⟨h1,by rw [e,h2]⟩
instance IsK.key {a b:Int}:IsK ekK (.agg #[.int .i64 a,.int .i64 b]) (a,b):=⟨rfl⟩
instance:MapT P T.a20 T.a14 (.agg #[.int .i64 0,.int .i64 0,.int .i64 0,.int .i64 0]):=⟨T.a18,by kernel_rfl,by kernel_rfl⟩
instance:MapT P T.a21 T.a17 (.agg #[.int .i64 0,.int .i64 0,.int .i64 0,.int .i64 0]):=⟨T.a18,by kernel_rfl,by kernel_rfl⟩
open Go.Shelf Go.Proofs
structure TxnA where
 pid:Int
 epoch:Int
 first:Int
 last:Int
instance:Inhabited TxnA:=⟨⟨0,0,0,0⟩⟩
def z1b (t:TxnA):List Value:=[.int .i64 t.pid,.int .i64 t.epoch,.int .i64 t.first,.int .i64 t.last]
instance:EncN z1b 4:=⟨λ_=>rfl,by decide,by simp [z1b,Value.oneCell']⟩
theorem z3l {f : FuncId} {fn B : Func} (h : P.funcs[f]? = some fn) (hn : (fn.name == "runtime.NumGoroutine") = false) (hb : fn = { B with name := fn.name }) : Bears P f B := ⟨fn.name, hn, h.trans (congrArg some hb)⟩
def z0at:Ren:=⟨fun|6=>258|15=>153|14=>305|28=>224|29=>225|20=>322|21=>323|22=>324|23=>325|24=>326|25=>327|26=>328|27=>329|46=>341|47=>270|48=>271|49=>342|50=>343|57=>347|n=>n,fun|22=>308|24=>374|25=>378|3=>3|39=>255|0=>0|53=>335|55=>158|4=>4|46=>328|45=>327|50=>235|5=>5|9=>9|66=>383|70=>386|76=>416|77=>417|n=>n,λn=>n⟩
theorem z014:SlLaysF0.n6 P z0at where
 mixed:=by kernel_rfl
 f6:=z3l Tryz.func258 (by kernel_rfl) (by kernel_rfl)
 f14:=z3l Tryz.func305 (by kernel_rfl) (by kernel_rfl)
 f15:=Tryz.func153.trans (congrArg some (by kernel_rfl))
 f20:=z3l Tryz.func322 (by kernel_rfl) (by kernel_rfl)
 f21:=z3l Tryz.func323 (by kernel_rfl) (by kernel_rfl)
 f22:=z3l Tryz.func324 (by kernel_rfl) (by kernel_rfl)
 f23:=z3l Tryz.func325 (by kernel_rfl) (by kernel_rfl)
 f24:=z3l Tryz.func326 (by kernel_rfl) (by kernel_rfl)
 f25:=z3l Tryz.func327 (by kernel_rfl) (by kernel_rfl)
 f26:=z3l Tryz.func328 (by kernel_rfl) (by kernel_rfl)
 f27:=z3l Tryz.func329 (by kernel_rfl) (by kernel_rfl)
 f28:=Tryz.func224.trans (congrArg some (by kernel_rfl))
 f29:=Tryz.func225.trans (congrArg some (by kernel_rfl))
 f46:=z3l Tryz.func341 (by kernel_rfl) (by kernel_rfl)
 f47:=Tryz.func270.trans (congrArg some (by kernel_rfl))
 f48:=Tryz.func271.trans (congrArg some (by kernel_rfl))
 f49:=z3l Tryz.func342 (by kernel_rfl) (by kernel_rfl)
 f50:=z3l Tryz.func343 (by kernel_rfl) (by kernel_rfl)
 f57:=z3l Tryz.func347 (by kernel_rfl) (by kernel_rfl)
 t0:=Tryz.underlying0
 a0:=Tryz.isAgg0
 z0:=Tryz.sizeOf0
 v0:=Tryz.zeroValue0
 t3:=Tryz.underlying3
 a3:=Tryz.isAgg3
 z3:=Tryz.sizeOf3
 v3:=Tryz.zeroValue3
 t4:=Tryz.underlying4
 a4:=Tryz.isAgg4
 z4:=Tryz.sizeOf4
 v4:=Tryz.zeroValue4
 t5:=Tryz.underlying5
 a5:=Tryz.isAgg5
 z5:=Tryz.sizeOf5
 v5:=Tryz.zeroValue5
 t9:=Tryz.underlying9
 a9:=Tryz.isAgg9
 z9:=Tryz.sizeOf9
 v9:=Tryz.zeroValue9
 t22:=Tryz.underlying308
 a22:=Tryz.isAgg308
 z22:=Tryz.sizeOf308
 v22:=Tryz.zeroValue308
 t25:=Tryz.underlying378
 a25:=Tryz.isAgg378
 z25:=Tryz.sizeOf378
 v25:=Tryz.zeroValue378
 t39:=Tryz.underlying255
 a39:=Tryz.isAgg255
 z39:=Tryz.sizeOf255
 v39:=Tryz.zeroValue255
 t45:=Tryz.underlying327
 a45:=Tryz.isAgg327
 z45:=Tryz.sizeOf327
 v45:=Tryz.zeroValue327
 t46:=Tryz.underlying328
 a46:=Tryz.isAgg328
 z46:=Tryz.sizeOf328
 v46:=Tryz.zeroValue328
 t50:=Tryz.underlying235
 a50:=Tryz.isAgg235
 z50:=Tryz.sizeOf235
 v50:=Tryz.zeroValue235
 t53:=Tryz.underlying335
 a53:=Tryz.isAgg335
 z53:=Tryz.sizeOf335
 v53:=Tryz.zeroValue335
 t55:=Tryz.underlying158
 a55:=Tryz.isAgg158
 z55:=Tryz.sizeOf158
 v55:=Tryz.zeroValue158
 t66:=Tryz.underlying383
 a66:=Tryz.isAgg383
 z66:=Tryz.sizeOf383
 v66:=Tryz.zeroValue383
 t70:=Tryz.underlying386
 a70:=Tryz.isAgg386
 z70:=Tryz.sizeOf386
 v70:=Tryz.zeroValue386
 t76:=Tryz.underlying416
 a76:=Tryz.isAgg416
 z76:=Tryz.sizeOf416
 v76:=Tryz.zeroValue416
 t77:=Tryz.underlying417
 a77:=Tryz.isAgg417
 z77:=Tryz.sizeOf417
 v77:=Tryz.zeroValue417
def zd1 (x y:Int):Int:=if x<y then -1 else if x>y then 1 else 0
section
variable {w:World} {l:List HP} {Q:Post} {S:World->Prop}
theorem zqd (x:Int):Ret P F.a2 #[.int .i64 x] w λvs w'=>vs=[.bool false]/\w'=w :=
 zxy x <| by
  delta zf2 Ad Ay
  refine wp_lt ?_
  exact ⟨rfl,by simp,rfl⟩
theorem zvw (x y:Int):Ret P F.a1 #[.int .i64 x,.int .i64 y] w λvs w'=>vs=[.int .i64 (zd1 x y)]/\w'=w :=
 zxx x y <| by
  delta zf1 Ac Ad Ak Aw Ay
  refine zb (zqd x) λ_ w' hs=>?_
  obtain ⟨rfl,rfl⟩:=hs
  refine zd ?_
  refine wp_lt ?_
  refine zb (zqd y) λ_ w' hs=>?_
  obtain ⟨rfl,rfl⟩:=hs
  refine zd ?_
  refine wp_lt ?_
  refine zu ?_ (by simp)
  refine zu ?_ (by simp)
  unfold zd1
  refine zh (λh=>?_) λh=>?_
  ·rw [if_pos h];exact ⟨rfl,rfl,rfl⟩
  rw [if_neg h]
  refine zh (λh2=>?_) λh2=>?_
  ·rw [if_pos h2];exact ⟨rfl,rfl,rfl⟩
  ·rw [if_neg h2];exact ⟨rfl,rfl,rfl⟩
theorem zrj {P:Program} {T:TypeId} {v:Value} {cs:List Value} {k:Addr->Prog} (hs:Sat w l) [hc:Cells v cs]
  (h:Sat (w.alloc (.cells cs.toArray T)) (pt w.heap.size (.cells cs.toArray T)::l)->(k ⟨w.heap.size,0,none⟩).wp P tt (w.alloc (.cells cs.toArray T)) Q):(Prog.act (Instr.box T v) sA (u1 k)).wp P tt w Q:=by
 have hp:=hs.push (o:=.cells v.cells T) (w':=w.alloc (.cells v.cells T)) rfl
 rw [hc.ok] at hp
 refine ⟨(⟨w.heap.size,0,none⟩,()),w.alloc (.cells v.cells T),by simp only [Instr.box,Sem.run_bind,run_newVar,Result.andThen_ok,Sem.run_pure];rfl,trivial,?_⟩
 rw [hc.ok];exact h hp
def z00z (f:TxnA->Int) (g:FuncId):Prop:=(∀ args w,(callFunc g args).run P w=.ok (.enter g args) w) /\
 ∀ (w:World) (a b:TxnA),Ret P g #[.agg (z1b a).toArray,.agg (z1b b).toArray] w λvs w'=>vs=[.int .i64 (zd1 (f a) (f b))]/\∃ os,w'=Go.Sort.grow w os
theorem zyq (w:World) (a b:Obj):(w.alloc a).alloc b=Go.Sort.grow w (#[a]++#[b]):=by rw [Go.Sort.alloc_eq_grow,Go.Sort.alloc_eq_grow,Go.Sort.grow_grow]
theorem byFirst:z00z TxnA.first F.a58:=⟨enters_of Tryz.func259 (by kernel_rfl) rfl,λw a b=>zul a.pid a.epoch a.first a.last b.pid b.epoch b.first b.last <| by
 delta z094 AC Ab Ad Ai Ak As BB
 refine zrj (Sat.whole w) λhs=>?_
 refine zrj hs λhs=>?_
 refine z8 hs ?_
 refine z8 hs ?_
 refine zb (zvw a.first b.first) λ_ w' h=>?_
 obtain ⟨rfl,rfl⟩:=h
 refine zd ?_
 refine wp_lt ?_
 exact ⟨rfl,rfl,_,zyq _ _ _⟩⟩
abbrev fnV (g:FuncId):Value:=.func (.func g) #[] #[]
theorem zdy (x y:Int):decide (zd1 x y<0)=decide (x<y):=by
 unfold zd1
 rw [decide_eq_decide]
 split
 ·simp [*]
 ·split <;> simp [*]
theorem z0aw (f:TxnA->Int):Go.Sort.SWO (ltOf λa b=>zd1 (f a) (f b)) where
 irrefl x:=by unfold ltOf;rw [zdy];simp
 trans x y z h1 h2:=by
  unfold ltOf at *
  rw [zdy,decide_eq_true_iff] at *
  omega
 ntrans x y z h1 h2:=by
  unfold ltOf at *
  rw [zdy,decide_eq_false_iff_not] at *
  omega
theorem z012 (xs:List TxnA):Go.Sort.flatK z1b 4 xs.toArray=(xs.flatMap z1b).toArray:=by
 have hl:(xs.flatMap z1b).length=xs.length*4:=z2x (enc:=z1b) xs
 refine Go.Sort.ext_get! (by rw [Go.Sort.size_flatK,List.size_toArray,List.size_toArray,hl]) λt ht=>?_
 rw [Go.Sort.size_flatK,List.size_toArray] at ht
 rw [Go.Sort.get_flatK _ _ _ _ (by rw [List.size_toArray];exact ht)]
 have h4:t / 4<xs.length:=by omega
 have e1:xs.toArray[t / 4]! = xs[t / 4]:=by rw [getElem!_pos _ _ (by rw [List.size_toArray];exact h4)];simp
 have e2:(xs.flatMap z1b).toArray[t]! = (xs.flatMap z1b)[t]'(by omega):=by rw [getElem!_pos _ _ (by rw [List.size_toArray];omega)];simp
 rw [e1,e2]
 have h5:t % 4<(z1b xs[t / 4]).length:=by show t % 4<4;omega
 rw [getElem!_pos (z1b xs[t / 4]) (t % 4) h5]
 have h6:=congrArg (λz:List Value=>z[t % 4]?) (zfi (enc:=z1b) (sz:=4) (λ_=>rfl) xs (t / 4) h4)
 have h7:t / 4*4+t % 4=t:=by omega
 simp only [List.getElem?_take,List.getElem?_drop,h7] at h6
 rw [if_pos (by omega),List.getElem?_eq_getElem (by omega),List.getElem?_eq_getElem h5] at h6
 exact (Option.some.inj h6).symm
theorem zxb {w':World} {os:Array Obj} (h:Sat w l) (he:w'.heap=w.heap++os) (h2:w'.os=w.os) (h3:w'.output=w.output):Sat w' l:=by
 refine z8m ⟨λb o hb=>?_,?_⟩ h
 ·have hb:w.heap[b]? = some o:=hb
  show w'.heap[b]? = some o
  rw [he,Array.getElem?_append_left (Array.getElem?_eq_some_iff.1 hb).1]
  exact hb
 ·show World.env' w=World.env' w'
  unfold World.env';rw [h2,h3]
theorem z05h {f:TxnA->Int} {g:FuncId} (hg:z00z f g) (x:Sl) (xs:List TxnA) (h63:xs.length<576460752303423488) (hs:Sat w (slc T.a15 4 x (xs.flatMap z1b)::l)) :
  Ret P F.a147 #[x.v,fnV g] w λvs w'=>vs=[]/\∃ ys:List TxnA,ys.Perm xs/\ys.Pairwise (λa b=>f a<=f b)/\Sat w' (slc T.a15 4 x (ys.flatMap z1b)::l):=by
 have hl:x.len=xs.length:=hs.rd.len (enc:=z1b) (λ_=>rfl) (by decide)
 obtain ⟨xa,xl,xc⟩:=x
 simp only at hl
 subst hl
 by_cases h0:xs.length=0
 ·have e:xs=[]:=List.length_eq_zero_iff.1 h0
  subst e
  refine Calls.mono (AnyF.slices_SortFunc_none z014 xa xc (fnV g) w) λe w' h=>?_
  obtain ⟨he,hw⟩:=h
  subst hw
  exact ⟨[],he,rfl,[],.refl _,.nil,hs⟩
 have hnd:=hs
 obtain ⟨p1,p2,h1,h2,hd,hA,hl⟩:=hnd
 rcases hA with ⟨ha,hl0,hc0,-⟩|⟨b,off,arr,fr,ha,hb,hlen,hle,hsz,hcs,hf⟩
 ·exact absurd hl0 h0
 have ha:xa=some ⟨b,off,none⟩:=ha
 subst ha
 have hle:xs.length<=xc:=hle
 have hsz:off+xc*4<=arr.size:=hsz
 have hlen:(xs.flatMap z1b).length=xs.length*4:=hlen
 have hP:Sat w (pt b (.cells arr T.a15 fr)::l):=⟨p1,p2,h1,h2,hd,hb,hl⟩
 have z2t:=hP.get
 have hblt:b<w.heap.size:=(Array.getElem?_eq_some_iff.1 z2t).1
 have hH:Go.Sort.HoldsK z1b 4 w b off xs.toArray:=by
  unfold Go.Sort.HoldsK
  rw [z012]
  intro j hj
  rw [List.size_toArray] at hj
  have h3:=hcs j hj
  refine ⟨?_,?_⟩
  ·unfold World.cell?
   rw [z2t]
   show arr[off+j]? = some (id ((xs.flatMap z1b).toArray[j]!))
   rw [h3,List.getElem?_eq_getElem hj,getElem!_pos _ _ (by rw [List.size_toArray];exact hj)]
   simp
  ·rw [zam,z2t]
   have:=hf (off+j) (by omega) (by show off+j<off+xc*4;omega)
   simp only [zlr]
   rw [Bool.and_eq_false_iff]
   by_cases hq:fr.1<=off+j
   ·right;exact decide_eq_false λh=>this ⟨hq,h⟩
   ·left;exact decide_eq_false hq
 have hcmp:CmpLays P g #[] z1b 4 (λa b=>zd1 (f a) (f b)) b off xs.toArray.size w:=λm os dk hdk a c=>by
  refine Calls.mono (hg.2 _ a c) λe w' ⟨vs,he,hv,os',hw⟩=>⟨by rw [he,hv];rfl,0,os',hw⟩
 have hc:=AnyQ.slices_SortFunc z014 4 Tryz.isAgg374 Tryz.sizeOf374 z1b (λ_=>rfl) (λt v hv=>(inferInstance:EncN z1b 4).one t v hv) (λa b=>zd1 (f a) (f b)) (z0aw f) g #[] b off xc xs.toArray w hg.1 hcmp hH hblt (by rw [List.size_toArray];omega)
 rw [List.size_toArray] at hc
 refine Calls.mono hc λe w' h=>?_
 obtain ⟨he,d',n,os,hp,hso,hw⟩:=h
 obtain ⟨ys,rfl⟩:∃ ys:List TxnA,d'=ys.toArray:=⟨d'.toList,by simp⟩
 obtain ⟨hp1,-,hp2⟩:=hp
 have hyl:ys.length=xs.length:=by simpa using hp1
 have hperm:ys.Perm xs:=by
  have e1:(ys.toArray.extract 0 xs.length).toList=ys:=by rw [<- hyl];simp
  have e2:(xs.toArray.extract 0 xs.length).toList=xs:=by simp
  rwa [e1,e2] at hp2
 refine ⟨[],he,rfl,ys,hperm,?_,?_⟩
 ·rw [List.pairwise_iff_getElem]
  intro i j hi hj hij
  have h3:=hso i j (Nat.zero_le _) hij (by omega)
  unfold ltOf at h3
  rw [zdy,decide_eq_false_iff_not,getElem!_pos ys.toArray j (by rw [List.size_toArray];exact hj),getElem!_pos ys.toArray i (by rw [List.size_toArray];exact hi)] at h3
  simp only [List.getElem_toArray] at h3
  omega
 ·have hset:=hP.set (o':=.cells (Go.Sort.putCells id off (ys.flatMap z1b).toArray arr) T.a15 fr)
  have hheap:w'.heap=(z33 w b (.cells (Go.Sort.putCells id off (ys.flatMap z1b).toArray arr) T.a15 fr)).heap++os:=by
   rw [hw,<- z012]
   show (w.heap.modify b (Go.Sort.onCells _))++os=w.heap.setIfInBounds b _++os
   congr 1
   apply Array.ext_getElem?
   intro i
   rw [Array.getElem?_modify,Array.getElem?_setIfInBounds]
   by_cases hib:b=i
   ·subst hib
    rw [if_pos rfl,if_pos rfl,z2t,if_pos hblt]
    rfl
   ·rw [if_neg hib,if_neg hib]
  have hs2:=zxb hset hheap (by rw [hw];rfl) (by rw [hw];rfl)
  have hyf:(ys.flatMap z1b).length=xs.length*4:=by rw [z2x (enc:=z1b) ys,hyl]
  refine hs2.imp λq hq=>.inr ⟨b,off,_,fr,rfl,hq,hyf,hle,?_,λi hi=>?_,hf⟩
  ·show off+xc*4<=(Go.Sort.putCells id off (ys.flatMap z1b).toArray arr).size
   unfold Go.Sort.putCells
   rw [Array.size_mapIdx];exact hsz
  ·unfold Go.Sort.putCells
   rw [Array.getElem?_mapIdx]
   have ha2:off+i<arr.size:=by omega
   rw [Array.getElem?_eq_getElem ha2]
   simp only [Option.map_some]
   rw [if_pos ⟨by omega,by rw [List.size_toArray];omega⟩,Nat.add_sub_cancel_left,getElem!_pos _ i (by rw [List.size_toArray];exact hi),List.getElem?_eq_getElem hi]
   simp
end
structure AtM where
 off:Int
 r:RecM
def zr (a:AtM):List Value:=[.int .i64 a.off,.string a.r.key,.string a.r.value,.bool a.r.gone,.int .i64 a.r.time]
instance:EncA zr [.int .i64,.str,.str,.bool,.int .i64] (λa=>(a.off,a.r.key,a.r.value,a.r.gone,a.r.time,())):=⟨λ_=>rfl⟩
instance:EncN zr 5:=⟨λ_=>rfl,by decide,by simp [zr,Value.oneCell']⟩
def atF (base:Int) (i:Nat) (r:RecM):AtM:=⟨IntKind.wrap .i64 (base+i),r⟩
def z2d (b:BatM):List AtM:=if z04 b then [] else b.rs.mapIdx λi r=>atF b.base i r
def z52 (bs:List BatM):List AtM:=bs.flatMap z2d
theorem zd8 (b:BatM):(z2d b).length<=b.rs.length:=by unfold z2d;split <;> simp
theorem zj8 {n:Nat}:∀ (bs:List BatM),(∀ b ∈ bs,b.rs.length<=n)->(z52 bs).length<=bs.length*n
 | [],_=>by simp [z52]
 | b::r,h=>by
  have h1:=zj8 r λc hc=>h c (List.mem_cons_of_mem _ hc)
  have h2:=zd8 b
  have h3:=h b (List.mem_cons_self ..)
  unfold z52 at h1 ⊢
  rw [List.flatMap_cons,List.length_append,List.length_cons,Nat.succ_mul]
  omega
theorem znc {α β:Type} (f:Nat->α->β) {xs:List α} {i:Nat} (hi:i<xs.length):(xs.take (i+1)).mapIdx f=(xs.take i).mapIdx f++[f i xs[i]]:=by
 rw [List.take_add_one,List.getElem?_eq_getElem hi,Option.toList_some,List.mapIdx_append]
 simp only [List.mapIdx_cons,List.mapIdx_nil,List.length_take]
 rw [Nat.min_eq_left (by omega),Nat.zero_add]
section
variable {w:World} {l r:List HP} {b:BatM}
theorem zqc (b:BatM) (hs:Sat w l):Ret P F.a63 #[.agg (zp b).toArray] w λvs w'=>vs=[.bool (z04 b)]/\Sat w' l :=
 zuq b.base b.pid b.epoch b.seq b.kind b.time b.x <| by
  delta z098 AM Ab Ad As Ay Bc
  refine zq hs λa0 w' hs=>?_
  refine z8 hs ?_
  refine z8 hs ?_
  refine wp_lt ?_
  exact ⟨rfl,rfl,hs.tail⟩
theorem z06g (x:Sl) (bs:List BatM) [hx:FocR l x 7 (bs.flatMap zp)] (hbs:∀ b ∈ bs,FocR l b.x 4 (b.rs.flatMap z01)) (hn:bs.length<=1000) (hr:∀ b ∈ bs,b.rs.length<=1000) (hs:Sat w l) :
  Ret P F.a99 #[x.v] w λvs w'=>∃ z:Sl,vs=[z.v]/\Sat w' (slc T.a37 5 z ((z52 bs).flatMap zr)::l) :=
 znj x <| by
  delta z01b AI AJ AL AM AN AO AX AY AZ Ab Ac Ad Af Ag Ai Ak Ao Ap Aw Ba
  have hl:=hs.slen x (xs:=bs) (enc:=zp)
  refine zl (λv w'=>∃ z:Sl,v=(z,())/\Sat w' (slc T.a37 5 z ((z52 bs).flatMap zr)::l)) ?_ (by rintro _ w' ⟨z,rfl,hs⟩;refine zk ?_;exact ⟨rfl,z,rfl,hs⟩)
  refine z03 (λk v w=>∃ (i:Nat) (z:Sl),v=(z,(i:Int),())/\i<=bs.length/\bs.length-i=k/\Sat w (slc T.a37 5 z ((z52 (bs.take i)).flatMap zr)::l)) bs.length ⟨0,⟨none,0,0⟩,rfl,by omega,rfl,hs.slc_nil⟩ ?_
  clear hs
  rintro k _ w ⟨i,z,rfl,hi,hk,hs⟩
  refine zk ?_
  refine zh (λhc=>?_) λhc=>?_
  rotate_left
  ·refine zo (zf ⟨z,rfl,?_⟩)
   rw [List.take_of_length_le (by omega)] at hs
   exact hs
  have hil:i<bs.length:=by omega
  have hbx:=hbs _ (List.getElem_mem hil)
  have hbr:=hr _ (List.getElem_mem hil)
  have hto:z52 (bs.take (i+1))=z52 (bs.take i)++z2d bs[i]:=by
   unfold z52
   rw [List.take_add_one,List.getElem?_eq_getElem hil,Option.toList_some,List.flatMap_append,List.flatMap_singleton]
  have hzl:(z52 (bs.take i)).length<=1000000:=by
   have h1:=zj8 (n:=1000) (bs.take i) λb hb=>hr b (List.mem_of_mem_take hb)
   have h2:(bs.take i).length<=1000:=by rw [List.length_take];omega
   have:=Nat.mul_le_mul_right 1000 h2
   omega
  refine zl (λv w'=>∃ z:Sl,v=(z,())/\Sat w' (slc T.a37 5 z ((z52 (bs.take (i+1))).flatMap zr)::l)) ?_ ?_
  rotate_left
  ·rintro _ w' ⟨z,rfl,hs⟩
   refine zk ?_
   refine z1k (us':=[z.v,.int .i64 ((i+1:Nat):Int)]) (by (try simp (disch:=omega) only [w64]);first|rfl|(congr;omega)) ?_
   refine z0l (bs.length-(i+1)) ?_
   exact ⟨i+1,z,rfl,by omega,rfl,hs⟩
  refine z1s hs i hil ?_
  refine zn hs λc w' hs=>?_
  refine zm hs λw' hs=>?_
  refine zg hs ?_
  refine zb (z6w bs[i] hs) λ_ _ hs=>?_
  obtain ⟨rfl,hs⟩:=hs
  refine zd ?_
  refine zh (λhm=>?_) λhm=>?_
  ·refine zf ⟨z,rfl,?_⟩
   rw [hto,z2d,if_pos hm,List.append_nil]
   exact hs.sub
  refine z8 hs ?_
  have hrl:=hs.slen bs[i].x (xs:=bs[i].rs) (enc:=z01)
  have hfl:z2d bs[i]=bs[i].rs.mapIdx λj r=>atF bs[i].base j r:=by rw [z2d,if_neg hm]
  refine zl (λv w'=>∃ z:Sl,v=(z,())/\Sat w' (slc T.a37 5 z ((z52 (bs.take i)++bs[i].rs.mapIdx λj r=>atF bs[i].base j r).flatMap zr)::l)) ?_ ?_
  rotate_left
  ·rintro _ w' ⟨z,rfl,hs⟩
   refine zk ?_
   refine zf ⟨z,rfl,?_⟩
   rw [hto,hfl]
   exact hs
  refine z03 (λk v w=>∃ (j:Nat) (z:Sl),v=(z,(j:Int),())/\j<=bs[i].rs.length/\bs[i].rs.length-j=k/\Sat w (slc T.a37 5 z ((z52 (bs.take i)++(bs[i].rs.take j).mapIdx λj r=>atF bs[i].base j r).flatMap zr)::pt c (.cells #[.int .i64 bs[i].base,.int .i64 bs[i].pid,.int .i64 bs[i].epoch,.int .i64 bs[i].seq,.int .i64 bs[i].kind,.int .i64 bs[i].time,.slice bs[i].x.a bs[i].x.len bs[i].x.cap] T.a0)::l)) bs[i].rs.length ⟨0,z,rfl,by omega,rfl,by rw [List.take_zero,List.mapIdx_nil,List.append_nil];exact hs.sub⟩ ?_
  clear hs
  rintro k _ w ⟨j,z,rfl,hj,hk,hs⟩
  refine zk ?_
  refine zh (λhc=>?_) λhc=>?_
  rotate_left
  ·refine zo (zf ⟨z,rfl,?_⟩)
   rw [show bs[i].rs.take j=bs[i].rs from List.take_of_length_le (by omega)] at hs
   exact hs.sub
  have hjl:j<bs[i].rs.length:=by omega
  refine z1s hs j hjl ?_
  refine zn hs λe w' hs=>?_
  refine wp_lt ?_
  refine zm hs λw' hs=>?_
  refine z8 hs ?_
  refine zg hs ?_
  refine z3w hs (xs:=z52 (bs.take i)++(bs[i].rs.take j).mapIdx λj r=>atF bs[i].base j r) (enc:=zr) (atF bs[i].base j bs[i].rs[j]) (λz w' hs=>?_) rfl (by rw [List.length_append,List.length_mapIdx,List.length_take];omega)
  refine z1k (us':=[z.v,.int .i64 ((j+1:Nat):Int)]) (by (try simp (disch:=omega) only [w64]);first|rfl|(congr;omega)) ?_
  refine z0l (bs[i].rs.length-(j+1)) ?_
  refine ⟨j+1,z,rfl,by omega,rfl,?_⟩
  rw [znc _ hjl,<- List.append_assoc]
  exact hs.sub
end
end Go.Dec
