/- What the claim of this folder leans on: our own texts, joined, without what it does not use. -/
import Derived.Test.YtgpcickgjngglaaGreatQLApart3
set_option linter.unusedVariables false
set_option linter.unusedSimpArgs false
namespace Go.Dec
def z035 (parts:Sl):Prog :=
Ay 1 (
Bd 2 (0,(0,())) λn0 n1=>
Aj (decide (n1<(An parts))) (
.ex [.adr] (c1 λa2=>0<=n1/\n1<(An parts)/\parts.a=some a2) (u1 λa3=>
AI T.a45 a3 (Int.toNat n1*1) λl4=>
Af (Aw (n0+(An l4))) λn5=>
Ak 2 [Aa n5,Aa (Aw (n1+1))]))<|
Ak 1 [Aa n0]) λn6=>
AO (Instr.makeSlice T.a45 (Aa 0) (Aa n6)) λl7=>
AJ 1 (
AK 2 ({ a:=l7.a,len:=l7.len,cap:=l7.cap },(0,())) λl8 n9=>
Aj (decide (n9<(An parts))) (
.ex [.adr] (c1 λa10=>0<=n9/\n9<(An parts)/\parts.a=some a10) (u1 λa11=>
AI T.a45 a11 (Int.toNat n9*1) λl12=>
AO (app T.a45 T.a45 T.a45 l8.v l12.v) λl13=>
Ak 2 [l13.v,Aa (Aw (n9+1))]))<|
Ak 1 [l8.v]) λl14=>
Ak 0 [l14.v]
theorem zpm (parts:Sl):FnS (z035 parts) F.a170 #[.slice parts.a parts.len parts.cap]:=dV ⟨[],[(0,[(3,.one (.int .i64))]),(2,[(6,.one .slc)])],[],[(0,[(3,.one (.int .i64)),(11,.one (.int .i64))]),(2,[(6,.one .slc),(24,.one (.int .i64))])]⟩ Go.Proofs.Tryz.func73 (by kernel_rfl)
def z03h (n:Int):Prog :=
.bind 1 [.one (.int .u64),.one .slc] (
.loop 2 [.one (.int .u64),.one .slc] (n,(⟨none,0,0⟩,())) (u2 λ(n0:Int) l1=>
Aj (decide (n0>=128)) (
AO (Instr.buildSlice T.a45 1 #[(0,.int .u8 (IntKind.wrap .u8 (((BitVec.toNat (BitVec.ofInt 8 (IntKind.wrap .u8 n0) ||| BitVec.ofInt 8 128):Nat):Int))))]) λl2=>
AO (app T.a45 T.a45 T.a45 l1.v l2.v) λl3=>
Bt (Int.fdiv n0 128) λn4=>
Ak 2 [.int .u64 n4,l3.v])<|
Ak 1 [.int .u64 n0,l1.v])) (u2 λ(n5:Int) l6=>
AO (Instr.buildSlice T.a45 1 #[(0,.int .u8 (IntKind.wrap .u8 n5))]) λl7=>
AO (app T.a45 T.a45 T.a45 l6.v l7.v) λl8=>
Ak 0 [l8.v])
theorem zpy (n:Int):FnS (z03h n) F.a182 #[.int .u64 n]:=dV ⟨[],[(0,[(0,.one (.int .u64)),(3,.one .slc)])],[],[(0,[(0,.one (.int .u64)),(3,.one .slc)])]⟩ Go.Proofs.Tryz.func74 (by kernel_rfl)
def z036 (b:Sl):Prog :=
AT F.a0 [b.v] λl0=>
Ai T.a54 (.agg #[l0.v,Aa 0,Aa 0]) λa1=>
Ak 0 [Ar a1]
theorem zpn (b:Sl):FnS (z036 b) F.a171 #[.slice b.a b.len b.cap]:=dV ⟨[],[],[],[]⟩ Go.Proofs.Tryz.func78 (by kernel_rfl)
def z03d (r:Option Addr):Prog :=
Av F.a180 [Ah r] λb0=>
Aj (not b0) (
Ak 0 [.int .u64 0])<|
AY r λa2=>
Bs F.a186 [BG a2 0] λn3=>
Bt n3 λn4=>
Ak 0 [.int .u64 n4]
theorem zpu (r:Option Addr):FnS (z03d r) F.a178 #[.pointer r]:=dV ⟨[],[],[],[]⟩ Go.Proofs.Tryz.func79 (by kernel_rfl)
def z038 (r:Option Addr):Prog :=
Aj (Option.isNone r) (
Ak 0 [Aa 1])<|
AY r λa1=>
AA F.a184 [BG a1 0] λn2=>
Al 1 (
Aj (decide (n2>0)) (
AY r λa4=>
Bh F.a183 [BG a4 0,Aa 6]<|
Ak 1 [])<|
Ak 1 [])<|
AY r λa6=>
AP T.a1 (Addr.add a6 0) 2 λn7=>
Af n7 λn8=>
Ak 0 [Aa n8]
theorem zpp (r:Option Addr):FnS (z038 r) F.a173 #[.pointer r]:=dV ⟨[(62914569,[])],[],[],[]⟩ Go.Proofs.Tryz.func80 (by kernel_rfl)
def z09r (l:Sl):Prog :=
AJ 1 (
AK 2 (⟨none,0,0⟩,(0,())) λl0 n1=>
Aj (decide (n1<(An l))) (
AJ 3 (
.ex [.adr] (c1 λa2=>0<=n1/\n1<(An l)/\l.a=some a2) (u1 λa3=>
Be T.a0 a3 (Int.toNat n1*7) λn4 n5 n6 n7 n8 n9 l10=>
Ab T.a0 λa11=>
Ac T.a0 a11 (Ba n4 n5 n6 n7 n8 n9 l10)<|
Bb T.a0 a11 λn12 n13 n14 n15 n16 n17 l18=>
Av F.a102 [Ba n12 n13 n14 n15 n16 n17 l18] λb19=>
Aj b19 (
Ak 3 [l0.v])<|
AI T.a37 a11 6 λl20=>
AJ 4 (
AK 5 ({ a:=l0.a,len:=l0.len,cap:=l0.cap },(0,())) λl21 n22=>
Aj (decide (n22<(An l20))) (
.ex [.adr] (c1 λa23=>0<=n22/\n22<(An l20)/\l20.a=some a23) (u1 λa24=>
AL T.a2 a24 (Int.toNat n22*4) λs25 s26 b27 n28=>
Ab T.a2 λa29=>
Af n22 λn30=>
Ac T.a2 a29 (AM s25 s26 b27 n28)<|
AP T.a14 a11 0 λn31=>
AN T.a2 a29 λs32 s33 b34 n35=>
AO (Instr.buildSlice T.a42 1 #[(0,.agg #[Aa (Aw (n31+n30)),.string s32,.string s33,.bool b34,Aa n35])]) λl36=>
AO (app T.a42 T.a42 T.a42 l21.v l36.v) λl37=>
Ak 5 [l37.v,Aa (Aw (n22+1))]))<|
Ak 4 [l21.v]) λl38=>
Ak 3 [l38.v])) λl39=>
Ak 2 [l39.v,Aa (Aw (n1+1))])<|
Ak 1 [l0.v]) λl40=>
Ak 0 [l40.v]
theorem zvr (l:Sl):FnS (z09r l) F.a95 #[.slice l.a l.len l.cap]:=dV ⟨[],[(0,[(3,.one .slc)]),(1,[(3,.one .slc)]),(2,[(3,.one .slc)])],[],[(0,[(3,.one .slc),(10,.one (.int .i64))]),(2,[(3,.one .slc),(19,.one (.int .i64))])]⟩ Go.Proofs.Tryz.func89 (by kernel_rfl)
def z02a (d:Option Addr) (prefix_:ByteArray) (c_0:Int) (c_1:Int):Prog :=
Ai T.a46 (Bg c_0 c_1) λa0=>
AS (Option.isNone d) (
Ak 0 [Ah none,Aa 1])<|
Au 1 (
Av F.a129 [.string prefix_] λb2=>
BE (not b2=false) (ld T.a46 a0) λn3 n4=>
Aj (not b2) (
Ak 1 [.bool true])<|
Av F.a133 [Bg n3 n4] λb5=>
Ax (not b5) λb6=>
Ak 1 [.bool b6]) λb7=>
Aj b7 (
Ak 0 [Ah none,Aa 2])<|
Av F.a27 [Ah d] λb8=>
AS b8 (
Ak 0 [Ah none,Aa 9])<|
Bf (ld T.a46 a0) λn10 n11=>
Ai T.a47 (.agg #[Ah d,.string prefix_,Aa n10,Aa n11,.slice none 0 0]) λa12=>
Bi F.a119 [Ar a12] λl13 n14=>
Af n14 λn15=>
Aj (n15 != 0) (
Af n15 λn16=>
Ak 0 [Ah none,Aa n16])<|
Ay 1 (
Bd 2 (n15,(0,())) λn17 n18=>
Aj (decide (n18<(An l13))) (
Ay 3 (
.ex [.adr] (c1 λa19=>0<=n18/\n18<(An l13)/\l13.a=some a19) (u1 λa20=>
AP T.a14 a20 (Int.toNat n18*1) λn21=>
Af n18 λn22=>
Af n21 λn23=>
AA F.a112 [Ar a12] λn24=>
Aj (decide (n23<n24)) (
AF F.a122 [Ar a12,Aa n23,.string (ByteArray.mk #[46,108,111,103])] λs25=>
AA F.a30 [Ah d,.string s25] λn26=>
Af n26 λn27=>
Aj (n27 != 0) (
Ak 1 [Aa n27])<|
Ak 3 [Aa n27])<|
.call F.a125 [Ar a12,Aa n23] (.tup [.one .bool,.one (.int .i64)]) (u2 λb28 (n29:Int)=>
Ax b28 λb30=>
Af n29 λn31=>
Aj (n31 == 0 && not b30) (
.must (0<=Aw (n22+1)/\Aw (n22+1)<=(An l13)) <|
AA F.a118 [Ar a12,.slice (z0w l13.a 1 (Int.toNat (Aw (n22+1))) l13.cap) (l13.len-Int.toNat (Aw (n22+1))) (l13.cap-Int.toNat (Aw (n22+1)))] λn32=>
Af n32 λn33=>
Ak 1 [Aa n33])<|
Aj (n31 != 0) (
Ak 1 [Aa n31])<|
Ak 3 [Aa n31]))) λn34=>
Ak 2 [Aa n34,Aa (Aw (n18+1))])<|
Ak 1 [Aa n17]) λn35=>
Aj (n35 != 0) (
Af n35 λn36=>
Ak 0 [Ah none,Aa n36])<|
Ak 0 [Ar a12,Aa 0]
theorem zor (d:Option Addr) (prefix_:ByteArray) (c_0 c_1:Int):FnS (z02a d prefix_ c_0 c_1) F.a128 #[.pointer d,.string prefix_,.agg #[.int .i64 c_0,.int .i64 c_1]]:=dV ⟨[],[(1,[(10,.one (.int .i64))]),(2,[(10,.one (.int .i64))])],[(3,[(17,.one .bool)])],[(1,[(10,.one (.int .i64)),(44,.one (.int .i64))])]⟩ Go.Proofs.Tryz.func119 (by kernel_rfl)
def z01r (l:Option Addr):Prog :=
Aj (Option.isNone l) (
Ak 0 [.slice none 0 0])<|
AA F.a111 [Ah l] λn0=>
Bi F.a113 [Ah l,Aa n0,Aa 1099511627776] λl1 n2=>
Af n2 λn3=>
Ak 0 [l1.v]
theorem zo8 (l:Option Addr):FnS (z01r l) F.a109 #[.pointer l]:=dV ⟨[],[],[],[]⟩ Go.Proofs.Tryz.func125 (by kernel_rfl)
def z01v (l:Option Addr) (offset:Int) (most:Int):Prog :=
Ai T.a31 (Ah l) λa0=>
Ai T.a14 (Aa offset) λa1=>
Ai T.a13 (Aa most) λa2=>
B2 T.a31 a0 λp3=>
AS (Option.isNone p3) (
Ak 0 [.slice none 0 0,Aa 1])<|
.read True (ld T.a13 a2) (sI .i64) (u1 λ(n5:Int)=>
AS (decide (n5<1)) (
Ak 0 [.slice none 0 0,Aa 2])<|
Au 1 (
AC<|
.hold True (ld T.a14 a1) (sI .i64) (u1 λ(n7:Int)=>
B2 T.a31 a0 λp8=>
AA F.a111 [Ah p8] λn9=>
Bj (decide (n7<n9)=false) (ld T.a14 a1) λn10=>
.read (decide (n7<n9)=false) (ld T.a31 a0) sP (u1 λp11=>
Aj (decide (n7<n9)) (
AG<|
Ak 1 [.bool true])<|
AA F.a112 [Ah p11] λn12=>
Ax (decide (n10>n12)) λb13=>
AG<|
Ak 1 [.bool b13]))) λb14=>
Aj b14 (
Ak 0 [.slice none 0 0,Aa 8])<|
Ab T.a36 λa15=>
B2 T.a31 a0 λp16=>
AY p16 λa18=>
AI T.a41 a18 4 λl19=>
AA F.a151 [Aa (An l19),.func (Fn.func 195) #[] #[Ar a0,Ar a1]] λn20=>
Af (Aw (n20-1)) λn21=>
Af (if 0>n21 then 0 else n21) λn22=>
Al 1 (
Am 2 (n22,()) λn23=>
B2 T.a31 a0 λp24=>
AY p24 λa26=>
AI T.a41 a26 4 λl27=>
Aj (decide (n23<(An l27))) (
B2 T.a31 a0 λp28=>
AY p28 λa30=>
AI T.a41 a30 4 λl31=>
.ex [.adr] (c1 λa32=>0<=n23/\n23<(An l31)/\l31.a=some a32) (u1 λa33=>
AB T.a32 a33 (Int.toNat n23*1) λp34=>
Au 3 (
AC<|
.hold True (ld T.a31 a0) sP (u1 λp35=>
.read True (ld T.a14 a1) (sI .i64) (u1 λ(n36:Int)=>
AA F.a134 [Ah p34,Aa n36] λn37=>
AG<|
Av F.a127 [Ah p35,Ah p34,Aa n37,.func (Fn.func 198) #[] #[Ar a1,Ar a15,Ar a2]] λb38=>
Ax b38 λb39=>
AG<|
Ak 3 [.bool b39]))) λb40=>
Aj (not b40) (
Ak 1 [])<|
Af (Aw (n23+1)) λn41=>
Ak 2 [Aa n41]))<|
Ak 1 [])<|
BN (ld T.a36 a15) λl42=>
Ak 0 [l42.v,Aa 0])
theorem zoc (l:Option Addr) (offset most:Int):FnS (z01v l offset most) F.a113 #[.pointer l,.int .i64 offset,.int .i64 most]:=dV ⟨[],[(1,[])],[(5,[(18,.one .bool)]),(13,[(11,.one .bool)])],[(1,[(9,.one (.int .i64))])]⟩ Go.Proofs.Tryz.func127 (by kernel_rfl)
def z09t (b_0 b_1 b_2 b_3 b_4 b_5:Int) (b_6:Sl):Prog :=
Ai T.a0 (Ba b_0 b_1 b_2 b_3 b_4 b_5 b_6) λa0=>
Bb T.a0 a0 λn1 n2 n3 n4 n5 n6 l7=>
AA F.a99 [Ba n1 n2 n3 n4 n5 n6 l7] λn8=>
Aj (n8 != 0) (
Ak 0 [Aa 0])<|
AC<|
AR T.a14 a0 0 λn9=>
Bb T.a0 a0 λn10 n11 n12 n13 n14 n15 l16=>
AA F.a98 [Ba n10 n11 n12 n13 n14 n15 l16] λn17=>
Af (Aw (n9+n17)) λn18=>
AG<|
Ak 0 [Aa n18]
theorem zvt (b_0 b_1 b_2 b_3 b_4 b_5:Int) (b_6:Sl):FnS (z09t b_0 b_1 b_2 b_3 b_4 b_5 b_6) F.a97 #[.agg #[.int .i64 b_0,.int .i64 b_1,.int .i64 b_2,.int .i64 b_3,.int .i64 b_4,.int .i64 b_5,.slice b_6.a b_6.len b_6.cap]]:=dV ⟨[],[],[],[]⟩ Go.Proofs.Tryz.func130 (by kernel_rfl)
def z01t (l:Option Addr):Prog :=
Bk (Option.isNone l=false) l λa1=>
B1 (Option.isNone l=false) T.a41 a1 4 λl2=>
Aj (Option.isNone l || (An l2) == 0) (
Ak 0 [Aa 0])<|
AY l λa4=>
AI T.a41 a4 4 λl5=>
.ex [.adr] (c1 λa6=>(0:Int)<=0/\0<(An l5)/\l5.a=some a6) (u1 λa7=>
AB T.a32 a7 0 λp8=>
AY p8 λa10=>
AP T.a14 a10 1 λn11=>
Af n11 λn12=>
Ak 0 [Aa n12])
theorem zoa (l:Option Addr):FnS (z01t l) F.a111 #[.pointer l]:=dV ⟨[],[],[],[]⟩ Go.Proofs.Tryz.func131 (by kernel_rfl)
def z02x (b_0 b_1 b_2 b_3 b_4 b_5:Int) (b_6:Sl):Prog :=
Ai T.a0 (Ba b_0 b_1 b_2 b_3 b_4 b_5 b_6) λa0=>
Au 1 (
AP T.a13 a0 4 λn1=>
Av F.a163 [Aa n1,Aa 0,Aa 3] λb2=>
Ao (b2=false) T.a14 a0 0 λn3=>
Aj b2 (
Ak 1 [.bool true])<|
Av F.a163 [Aa n3,Aa 0,Aa 1099511627776] λb4=>
Ao (b4=false) T.a14 a0 1 λn5=>
Aj b4 (
Ak 1 [.bool true])<|
Av F.a163 [Aa n5,Aa 0,Aa 1048576] λb6=>
Ao (b6=false) T.a13 a0 2 λn7=>
Aj b6 (
Ak 1 [.bool true])<|
Av F.a163 [Aa n7,Aa 0,Aa 32767] λb8=>
Ao (b8=false) T.a13 a0 3 λn9=>
Aj b8 (
Ak 1 [.bool true])<|
Av F.a163 [Aa n9,Aa 0,Aa 2147483647] λb10=>
Ao (b10=false) T.a14 a0 5 λn11=>
Aj b10 (
Ak 1 [.bool true])<|
Av F.a163 [Aa n11,Aa 0,Aa 1099511627776] λb12=>
Ak 1 [.bool b12]) λb13=>
Aj b13 (
Ak 0 [Aa 2])<|
AP T.a14 a0 1 λn14=>
Ao ((n14 == 0)=true) T.a13 a0 4 λn15=>
Ao ((n14 == 0)=true/\(n15 != 0)=false) T.a13 a0 2 λn16=>
Ao ((n14 == 0)=true/\(n15 != 0 || n16 != 0)=false) T.a13 a0 3 λn17=>
Aj (n14 == 0 && (n15 != 0 || n16 != 0 || n17 != 0)) (
Ak 0 [Aa 2])<|
Au 1 (
AC<|
Bb T.a0 a0 λn18 n19 n20 n21 n22 n23 l24=>
Br T.a37 a0 6 λl25=>
Av F.a160 [Ba n18 n19 n20 n21 n22 n23 l24] λb26=>
Bl (not (b26 == ((An l25) == 0))=false) T.a0 a0 λn27 n28 n29 n30 n31 n32 l33=>
AG<|
Aj (not (b26 == ((An l25) == 0))) (
AG<|
Ak 1 [.bool true])<|
Av F.a160 [Ba n27 n28 n29 n30 n31 n32 l33] λb34=>
Ao (b34=true) T.a13 a0 3 λn35=>
AG<|
Ak 1 [.bool (b34 && n35 != 0)]) λb36=>
Aj b36 (
Ak 0 [Aa 2])<|
AI T.a37 a0 6 λl37=>
Aj (decide ((An l37)>64)) (
Ak 0 [Aa 7])<|
AI T.a37 a0 6 λl38=>
Al 1 (
Am 2 (0,()) λn39=>
Aj (decide (n39<(An l38))) (
.ex [.adr] (c1 λa40=>0<=n39/\n39<(An l38)/\l38.a=some a40) (u1 λa41=>
AL T.a2 a41 (Int.toNat n39*4) λs42 s43 b44 n45=>
Ab T.a2 λa46=>
Ac T.a2 a46 (AM s42 s43 b44 n45)<|
AD T.a49 a46 0 λs47=>
AW (decide (((ByteArray.size s47:Nat):Int)>1024)=false) T.a49 a46 1 λs48=>
Aj (decide (((ByteArray.size s47:Nat):Int)>1024) || decide (((ByteArray.size s48:Nat):Int)>1024)) (
Ak 0 [Aa 7])<|
AP T.a14 a46 3 λn49=>
Av F.a163 [Aa n49,Aa 0,Aa 1099511627776] λb50=>
AX (b50=false) T.a3 a46 2 λb51=>
AW (b50=false/\b51=true) T.a49 a46 1 λs52=>
Aj (b50 || b51 && decide (((ByteArray.size s52:Nat):Int)>0)) (
Ak 0 [Aa 2])<|
Ak 2 [Aa (Aw (n39+1))]))<|
Ak 1 [])<|
AC<|
AR T.a14 a0 0 λn53=>
Bb T.a0 a0 λn54 n55 n56 n57 n58 n59 l60=>
AA F.a161 [Ba n54 n55 n56 n57 n58 n59 l60] λn61=>
AG<|
Aj (decide (Aw (Aw (n53+n61)-1)>1099511627776)) (
Ak 0 [Aa 24])<|
Au 1 (
AP T.a14 a0 1 λn62=>
Bl (decide (n62>0)=true) T.a0 a0 λn63 n64 n65 n66 n67 n68 l69=>
Aj (decide (n62>0)) (
Av F.a160 [Ba n63 n64 n65 n66 n67 n68 l69] λb70=>
Ao (not b70=true) T.a13 a0 3 λn71=>
B1 (not b70=true) T.a37 a0 6 λl72=>
Ak 1 [.bool (not b70 && decide (Aw (Aw (n71+(An l72))-1)>2147483647))])<|
Ak 1 [.bool false]) λb73=>
Aj b73 (
Ak 0 [Aa 24])<|
Ak 0 [Aa 0]
theorem zpe (b_0 b_1 b_2 b_3 b_4 b_5:Int) (b_6:Sl):FnS (z02x b_0 b_1 b_2 b_3 b_4 b_5 b_6) F.a162 #[.agg #[.int .i64 b_0,.int .i64 b_1,.int .i64 b_2,.int .i64 b_3,.int .i64 b_4,.int .i64 b_5,.slice b_6.a b_6.len b_6.cap]]:=dV ⟨[],[(0,[])],[(1,[(32,.one .bool)]),(5,[(66,.one .bool)]),(19,[(126,.one .bool)])],[(0,[(74,.one (.int .i64))])]⟩ Go.Proofs.Tryz.func134 (by kernel_rfl)
def zf0 (b:Sl):Prog :=
Aj (Option.isNone b.a) (
Ak 0 [.slice none 0 0])<|
AO (Instr.buildSlice T.a45 0 #[]) λl0=>
AO (app T.a45 T.a45 T.a45 l0.v b.v) λl1=>
Ak 0 [l1.v]
theorem zko (b:Sl):FnS (zf0 b) F.a0 #[.slice b.a b.len b.cap]:=dV ⟨[],[],[],[]⟩ Go.Proofs.Tryz.func135 (by kernel_rfl)
def z03f (r:Option Addr):Prog :=
Bk (not (Option.isNone r)=true) r λa1=>
Ao (not (Option.isNone r)=true) T.a1 (Addr.add a1 0) 2 λn2=>
Ax (not (Option.isNone r) && n2 == 0) λb3=>
Ak 0 [.bool b3]
theorem zpw (r:Option Addr):FnS (z03f r) F.a180 #[.pointer r]:=dV ⟨[],[],[],[]⟩ Go.Proofs.Tryz.func136 (by kernel_rfl)
def z03l (p:Option Addr):Prog :=
Al 1 (
.loop 2 [.one (.int .u64),.one (.int .i64)] (0,(0,())) (u2 λ(n0 n1:Int)=>
Aj (decide (n1<10)) (
AA F.a184 [Ah p] λn2=>
Aj (decide (n1>=n2)) (
Ak 1 [])<|
AC<|
AY p λa4=>
AI T.a45 a4 0 λl5=>
AY p λa7=>
AP T.a13 a7 1 λn8=>
.ex [.adr] (c1 λa9=>0<=Aw (n8+n1)/\Aw (n8+n1)<(An l5)/\l5.a=some a9) (u1 λa10=>
BK T.a52 a10 (Int.toNat (Aw (n8+n1))*1) λn11=>
BL n11 λn12=>
AG<|
Aj (n1 == 9 && decide (n12>1)) (
Ak 1 [])<|
.must (0<=Aw (7*n1)) <|
Bt (IntKind.wrap .u64 (((BitVec.toNat (BitVec.ofInt 64 n0 ||| BitVec.ofInt 64 (IntKind.wrap .u64 (IntKind.wrap .u64 (IntKind.wrap .u8 (((BitVec.toNat (BitVec.ofInt 8 n12 &&& BitVec.ofInt 8 127):Nat):Int)))*2 ^ min (Int.toNat (Aw (7*n1))) 64))):Nat):Int))) λn13=>
Aj (decide (n12>=128)) (
Af (Aw (n1+1)) λn14=>
Ak 2 [.int .u64 n13,Aa n14])<|
Aj (n12 == 0 && decide (n1>0)) (
Ak 1 [])<|
AY p λa16=>
AP T.a13 a16 1 λn17=>
AY p λa19=>
AH T.a13 a19 1 (Aa (Aw (n17+Aw (n1+1))))<|
Bt n13 λn20=>
Ak 0 [.int .u64 n20]))<|
Ak 1 []))<|
Bh F.a183 [Ah p,Aa 6]<|
Ak 0 [.int .u64 0]
theorem zq2 (p:Option Addr):FnS (z03l p) F.a186 #[.pointer p]:=dV ⟨[],[(0,[])],[],[(0,[(3,.one (.int .u64)),(4,.one (.int .i64))])]⟩ Go.Proofs.Tryz.func137 (by kernel_rfl)
def z03j (p:Option Addr):Prog :=
AC<|
AY p λa1=>
AI T.a45 a1 0 λl2=>
AY p λa4=>
AP T.a13 a4 1 λn5=>
Af (Aw ((An l2)-n5)) λn6=>
AG<|
Ak 0 [Aa n6]
theorem zq0 (p:Option Addr):FnS (z03j p) F.a184 #[.pointer p]:=dV ⟨[],[],[],[]⟩ Go.Proofs.Tryz.func138 (by kernel_rfl)
def z03i (p:Option Addr) (e_:Int):Prog :=
AY p λa1=>
AP T.a1 a1 2 λn2=>
Al 1 (
Aj (n2 == 0) (
AY p λa4=>
AH T.a1 a4 2 (Aa e_)<|
Ak 1 [])<|
Ak 1 [])<|
Ak 0 []
theorem zpz (p:Option Addr) (e_:Int):FnS (z03i p e_) F.a183 #[.pointer p,.int .i64 e_]:=dV ⟨[(31457288,[])],[],[],[]⟩ Go.Proofs.Tryz.func139 (by kernel_rfl)
def z01k (b_0 b_1 b_2 b_3 b_4 b_5:Int) (b_6:Sl):Prog :=
Ai T.a0 (Ba b_0 b_1 b_2 b_3 b_4 b_5 b_6) λa0=>
AP T.a13 a0 4 λn1=>
Ao ((n1 == 2)=false) T.a13 a0 4 λn2=>
Ax (n1 == 2 || n2 == 3) λb3=>
Ak 0 [.bool b3]
theorem zo1 (b_0 b_1 b_2 b_3 b_4 b_5:Int) (b_6:Sl):FnS (z01k b_0 b_1 b_2 b_3 b_4 b_5 b_6) F.a102 #[.agg #[.int .i64 b_0,.int .i64 b_1,.int .i64 b_2,.int .i64 b_3,.int .i64 b_4,.int .i64 b_5,.slice b_6.a b_6.len b_6.cap]]:=dV ⟨[],[],[],[]⟩ Go.Proofs.Tryz.func153 (by kernel_rfl)
def z03a (r:Option Addr):Prog :=
Av F.a180 [Ah r] λb0=>
Aj (not b0) (
Ak 0 [.bool false])<|
AC<|
AY r λa2=>
AA F.a184 [BG a2 0] λn3=>
Bk ((n3 == 0)=false) r λa5=>
B1 ((n3 == 0)=false) T.a45 (Addr.add a5 0) 0 λl6=>
Bk ((n3 == 0)=false) r λa8=>
Ao ((n3 == 0)=false) T.a13 (Addr.add a8 0) 1 λn9=>
.ex [.adr] (c1 λa10=>(n3 == 0)=false->0<=n9/\n9<(An l6)/\l6.a=some a10) (u1 λa11=>
.read ((n3 == 0)=false) (ld T.a52 (Addr.add a11 (Int.toNat n9*1))) (sI .u8) (u1 λ(n12:Int)=>
AG<|
Aj (n3 == 0 || decide (n12>1)) (
AY r λa14=>
Bh F.a183 [BG a14 0,Aa 6]<|
Ak 0 [.bool false])<|
AY r λa16=>
AT F.a185 [BG a16 0,Aa 1] λl17=>
.ex [.adr] (c1 λa18=>(0:Int)<=0/\0<(An l17)/\l17.a=some a18) (u1 λa19=>
BK T.a52 a19 0 λn20=>
Ax (n20 == 1) λb21=>
Ak 0 [.bool b21])))
theorem zpr (r:Option Addr):FnS (z03a r) F.a175 #[.pointer r]:=dV ⟨[],[],[],[]⟩ Go.Proofs.Tryz.func156 (by kernel_rfl)
def z039 (r:Option Addr):Prog :=
Aj (Option.isNone r) (
Ak 0 [Aa 1])<|
AY r λa1=>
AP T.a1 (Addr.add a1 0) 2 λn2=>
Af n2 λn3=>
Ak 0 [Aa n3]
theorem zpq (r:Option Addr):FnS (z039 r) F.a174 #[.pointer r]:=dV ⟨[],[],[],[]⟩ Go.Proofs.Tryz.func157 (by kernel_rfl)
def z02b (s:ByteArray):Prog :=
Aj (decide (((ByteArray.size s:Nat):Int)<1) || decide (((ByteArray.size s:Nat):Int)>8)) (
Ak 0 [.bool false])<|
AO (convert T.a49 T.a45 (.string s)) λl0=>
Al 1 (
Am 2 (0,()) λn1=>
Aj (decide (n1<(An l0))) (
.ex [.adr] (c1 λa2=>0<=n1/\n1<(An l0)/\l0.a=some a2) (u1 λa3=>
BK T.a52 a3 (Int.toNat n1*1) λn4=>
BL n4 λn5=>
Aj (not (decide (n5>=97) && decide (n5<=122) || decide (n5>=48) && decide (n5<=57))) (
Ak 0 [.bool false])<|
Ak 2 [Aa (Aw (n1+1))]))<|
Ak 1 [])<|
Ak 0 [.bool true]
theorem zos (s:ByteArray):FnS (z02b s) F.a129 #[.string s]:=dV ⟨[],[(0,[])],[],[(0,[(16,.one (.int .i64))])]⟩ Go.Proofs.Tryz.func169 (by kernel_rfl)
def z02f (c_0:Int) (c_1:Int):Prog :=
Ai T.a46 (Bg c_0 c_1) λa0=>
AP T.a13 a0 0 λn1=>
Ao (decide (n1>=64)=true) T.a13 a0 0 λn2=>
Ao ((decide (n1>=64) && decide (n2<=4194304))=true) T.a13 a0 1 λn3=>
Ao ((decide (n1>=64) && decide (n2<=4194304) && decide (n3>=1))=true) T.a13 a0 1 λn4=>
Ax (decide (n1>=64) && decide (n2<=4194304) && decide (n3>=1) && decide (n4<=4194304)) λb5=>
Ak 0 [.bool b5]
theorem zow (c_0 c_1:Int):FnS (z02f c_0 c_1) F.a133 #[.agg #[.int .i64 c_0,.int .i64 c_1]]:=dV ⟨[],[],[],[]⟩ Go.Proofs.Tryz.func170 (by kernel_rfl)
def z021 (l:Option Addr):Prog :=
AC<|
AY l λa1=>
AB T.a26 a1 0 λp2=>
AY l λa4=>
AD T.a49 a4 1 λs5=>
.must (((ByteArray.size s5+1:Nat):Int)<=9223372036854775807) <|
AT F.a28 [Ah p2,.string (s5++(ByteArray.mk #[45]))] λl6=>
AG<|
AJ 1 (
AK 2 (⟨none,0,0⟩,(0,())) λl7 n8=>
Aj (decide (n8<(An l6))) (
.ex [.adr] (c1 λa9=>0<=n8/\n8<(An l6)/\l6.a=some a9) (u1 λa10=>
AD T.a49 a10 (Int.toNat n8*1) λs11=>
AU s11 λs12=>
Bq F.a117 [Ah l,.string s12,.string (ByteArray.mk #[46,108,111,103])] λn13 b14=>
Af n13 λn15=>
Ax b14 λb16=>
AJ 3 (
Aj b16 (
AO (Instr.buildSlice T.a39 1 #[(0,Aa n15)]) λl17=>
AO (app T.a39 T.a39 T.a39 l7.v l17.v) λl18=>
Ak 3 [l18.v])<|
Ak 3 [l7.v]) λl19=>
Bq F.a117 [Ah l,.string s12,.string (ByteArray.mk #[46,110,101,119])] λn20 b21=>
Af n20 λn22=>
Ax b21 λb23=>
Al 3 (
Aj b23 (
AY l λa25=>
AB T.a26 a25 0 λp26=>
AA F.a30 [Ah p26,.string s12] λn27=>
Af n27 λn28=>
Aj (n28 != 0) (
Af n28 λn29=>
Ak 0 [.slice none 0 0,Aa n29])<|
Ak 3 [])<|
Ak 3 [])<|
Ak 2 [l19.v,Aa (Aw (n8+1))]))<|
Ak 1 [l7.v]) λl30=>
Ak 0 [l30.v,Aa 0]
theorem zoi (l:Option Addr):FnS (z021 l) F.a119 #[.pointer l]:=dV ⟨[(1055531162730529,[(4,.one .slc)]),(73642861106770788396,[])],[(0,[(4,.one .slc)])],[],[(0,[(4,.one .slc),(23,.one (.int .i64))])]⟩ Go.Proofs.Tryz.func172 (by kernel_rfl)
def z01u (l:Option Addr):Prog :=
Bk (Option.isNone l=false) l λa1=>
B1 (Option.isNone l=false) T.a41 a1 4 λl2=>
Aj (Option.isNone l || (An l2) == 0) (
Ak 0 [Aa 0])<|
Az F.a121 [Ah l] λp3=>
AA F.a135 [Ah p3] λn4=>
Af n4 λn5=>
Ak 0 [Aa n5]
theorem zob (l:Option Addr):FnS (z01u l) F.a112 #[.pointer l]:=dV ⟨[],[],[],[]⟩ Go.Proofs.Tryz.func173 (by kernel_rfl)
def z024 (l:Option Addr) (base:Int) (end_:ByteArray):Prog :=
AO (Instr.makeSlice T.a45 (Aa 11) (Aa 11)) λl0=>
Al 1 (
Bd 2 (base,(10,())) λn1 n2=>
Aj (decide (n2>=0)) (
.must (0<=Aw (((BitVec.toNat (BitVec.ofInt 64 n1 &&& BitVec.ofInt 64 15):Nat):Int))/\Aw (((BitVec.toNat (BitVec.ofInt 64 n1 &&& BitVec.ofInt 64 15):Nat):Int))<16) <|
.ex [.adr] (c1 λa3=>0<=n2/\n2<(An l0)/\l0.a=some a3) (u1 λa4=>
AH T.a52 a4 (Int.toNat n2*1) (.int .u8 (bt (ByteArray.mk #[48,49,50,51,52,53,54,55,56,57,97,98,99,100,101,102]) (Aw (((BitVec.toNat (BitVec.ofInt 64 n1 &&& BitVec.ofInt 64 15):Nat):Int)))))<|
Af (Int.fdiv n1 16) λn5=>
Af (Aw (n2-1)) λn6=>
Ak 2 [Aa n5,Aa n6]))<|
Ak 1 [])<|
AC<|
AY l λa8=>
AD T.a49 a8 1 λs9=>
.must (((ByteArray.size s9+1:Nat):Int)<=9223372036854775807) <|
.read True (convert T.a45 T.a49 l0.v) sS (u1 λs10=>
.must (((ByteArray.size (s9++(ByteArray.mk #[45]))+ByteArray.size s10:Nat):Int)<=9223372036854775807) <|
.must (((ByteArray.size (s9++(ByteArray.mk #[45])++s10)+ByteArray.size end_:Nat):Int)<=9223372036854775807) <|
AU (s9++(ByteArray.mk #[45])++s10++end_) λs11=>
AG<|
Ak 0 [.string s11])
theorem zol (l:Option Addr) (base:Int) (end_:ByteArray):FnS (z024 l base end_) F.a122 #[.pointer l,.int .i64 base,.string end_]:=dV ⟨[],[(0,[])],[],[(0,[(1,.one (.int .i64)),(8,.one (.int .i64))])]⟩ Go.Proofs.Tryz.func174 (by kernel_rfl)
def z027 (l:Option Addr) (base:Int):Prog :=
AF F.a122 [Ah l,Aa base,.string (ByteArray.mk #[46,108,111,103])] λs0=>
AU s0 λs1=>
AY l λa3=>
AB T.a26 a3 0 λp4=>
Bi F.a29 [Ah p4,.string s1] λl5 n6=>
Af n6 λn7=>
Aj (n7 != 0) (
Af n7 λn8=>
Ak 0 [.bool false,Aa n8])<|
BO F.a39 [l5.v] λl9 n10 b11=>
Af n10 λn12=>
Ax b11 λb13=>
.bind 1 [.one (.int .i64),.one .bool] (
Aj b13 (
Bq F.a131 [l9.v,Aa base] λn14 b15=>
Af n14 λn16=>
Ax b15 λb17=>
Ak 1 [Aa n16,.bool b17])<|
Ak 1 [Aa 0,.bool false]) (u2 λ(n18:Int) b19=>
Aj (not b19) (
AY l λa21=>
AB T.a26 a21 0 λp22=>
AA F.a30 [Ah p22,.string s1] λn23=>
Af n23 λn24=>
Ak 0 [.bool false,Aa n24])<|
Az F.a126 [Ah l,Aa base,Aa n18] λp25=>
Af base λn26=>
Ay 1 (
Bd 2 (n12,(n26,())) λn27 n28=>
.must (0<=n27/\n27<=(An l5)) <|
BO F.a39 [.slice (z0w l5.a 1 (Int.toNat n27) l5.cap) (l5.len-Int.toNat n27) (l5.cap-Int.toNat n27)] λl29 n30 b31=>
Af n30 λn32=>
Ax b31 λb33=>
Aj (not b33) (
Ak 1 [Aa n27])<|
.call F.a93 [l29.v] (.tup [.agg [.int .i64,.int .i64,.int .i64,.int .i64,.int .i64,.int .i64,.slc],.one (.int .i64)]) (u8 λ(n34 n35 n36 n37 n38 n39:Int) l40 (n41:Int)=>
Ab T.a0 λa42=>
Ac T.a0 a42 (Ba n34 n35 n36 n37 n38 n39 l40)<|
Af n41 λn43=>
Ao ((n43 != 0)=false) T.a14 a42 0 λn44=>
Aj (n43 != 0 || decide (n44<n28)) (
Ak 1 [Aa n27])<|
Bb T.a0 a42 λn45 n46 n47 n48 n49 n50 l51=>
Bh F.a136 [Ah p25,Ba n45 n46 n47 n48 n49 n50 l51,Aa n32]<|
AY p25 λa53=>
AP T.a14 a53 3 λn54=>
Af n54 λn55=>
Af (Aw (n27+n32)) λn56=>
Ak 2 [Aa n56,Aa n55])) λn57=>
Bh F.a124 [Ah l,Ah p25]<|
Aj (n57 == (An l5)) (
Ak 0 [.bool true,Aa 0])<|
AY l λa59=>
AB T.a26 a59 0 λp60=>
AA F.a25 [Ah p60,.string s1,Aa n57] λn61=>
Af n61 λn62=>
Ak 0 [.bool false,Aa n62])
theorem zoo (l:Option Addr) (base:Int):FnS (z027 l base) F.a125 #[.pointer l,.int .i64 base]:=dV ⟨[(2269814212245061674,[(12,.one (.int .i64)),(13,.one .bool)])],[(0,[(10,.one (.int .i64))])],[],[(0,[(10,.one (.int .i64)),(15,.one (.int .i64))])]⟩ Go.Proofs.Tryz.func175 (by kernel_rfl)
def z020 (l:Option Addr) (bases:Sl):Prog :=
Al 1 (
Am 2 (0,()) λn0=>
Aj (decide (n0<(An bases))) (
.ex [.adr] (c1 λa1=>0<=n0/\n0<(An bases)/\bases.a=some a1) (u1 λa2=>
AP T.a14 a2 (Int.toNat n0*1) λn3=>
Af n3 λn4=>
Ay 3 (
AC<|
AY l λa6=>
Bc T.a26 a6 0 λp7=>
AF F.a122 [Ah l,Aa n4,.string (ByteArray.mk #[46,108,111,103])] λs8=>
AG<|
AA F.a30 [Ah p7,.string s8] λn9=>
Af n9 λn10=>
AG<|
Ak 3 [Aa n10]) λn11=>
Aj (n11 != 0) (
Af n11 λn12=>
Ak 0 [Aa n12])<|
Ak 2 [Aa (Aw (n0+1))]))<|
Ak 1 [])<|
Ak 0 [Aa 0]
theorem zoh (l:Option Addr) (bases:Sl):FnS (z020 l bases) F.a118 #[.pointer l,.slice bases.a bases.len bases.cap]:=dV ⟨[],[(0,[])],[(4,[(7,.one (.int .i64))])],[(0,[(10,.one (.int .i64))])]⟩ Go.Proofs.Tryz.func176 (by kernel_rfl)
def z08h (b:Sl):Prog :=
BO F.a39 [b.v] λl0 n1 b2=>
Af n1 λn3=>
Ax b2 λb4=>
Aj (not b4 || n3 != (An b)) (
Ak 0 [.slice none 0 0,.bool false])<|
Ak 0 [l0.v,.bool true]
theorem zug (b:Sl):FnS (z08h b) F.a41 #[.slice b.a b.len b.cap]:=dV ⟨[],[],[],[]⟩ Go.Proofs.Tryz.func185 (by kernel_rfl)
def z03c (r:Option Addr) (most:Int):Prog :=
Av F.a180 [Ah r] λb0=>
Aj (not b0) (
Ak 0 [.string (ByteArray.mk #[])])<|
AY r λa2=>
AP T.a13 (Addr.add a2 0) 1 λn3=>
Af n3 λn4=>
AY r λa6=>
Bs F.a186 [BG a6 0] λn7=>
Bt n7 λn8=>
AY r λa10=>
AP T.a1 (Addr.add a10 0) 2 λn11=>
Ax (n11 != 0) λb12=>
Al 1 (
Aj b12 (
Ak 1 [])<|
Ax (decide (n8>IntKind.wrap .u64 (if 0>most then 0 else most))) λb13=>
Al 2 (
Aj b13 (
AY r λa15=>
Bh F.a183 [BG a15 0,Aa 7]<|
Ak 2 [])<|
AY r λa17=>
AA F.a184 [BG a17 0] λn18=>
AS (decide (n8>IntKind.wrap .u64 n18)) (
AY r λa21=>
Bh F.a183 [BG a21 0,Aa 6]<|
Ak 2 [])<|
AY r λa23=>
AT F.a185 [BG a23 0,Aa (Aw n8)] λl24=>
.read True (convert T.a45 T.a49 l24.v) sS (u1 λs25=>
AU s25 λs26=>
Ak 0 [.string s26]))<|
Ak 1 [])<|
AY r λa28=>
AH T.a13 (Addr.add a28 0) 1 (Aa n4)<|
Ak 0 [.string (ByteArray.mk #[])]
theorem zpt (r:Option Addr) (most:Int):FnS (z03c r most) F.a177 #[.pointer r,.int .i64 most]:=dV ⟨[(147571701062593216545,[]),(147573917678034812954,[])],[],[],[]⟩ Go.Proofs.Tryz.func186 (by kernel_rfl)
def z01w (i:Int) (fv0:Option Addr) (fv1:Option Addr):Prog :=
AC<|
BB T.a31 fv0 λp0=>
AY p0 λa2=>
AI T.a41 a2 4 λl3=>
.ex [.adr] (c1 λa4=>0<=i/\i<(An l3)/\l3.a=some a4) (u1 λa5=>
AB T.a32 a5 (Int.toNat i*1) λp6=>
AY p6 λa8=>
AP T.a14 a8 1 λn9=>
BQ T.a14 fv1 λn10=>
Ax (decide (n9>n10)) λb11=>
AG<|
Ak 0 [.bool b11])
theorem zod (i:Int) (fv0 fv1:Option Addr):FnS (z01w i fv0 fv1) F.a114 #[.int .i64 i,.pointer fv0,.pointer fv1]:=dV ⟨[],[],[],[]⟩ Go.Proofs.Tryz.func195 (by kernel_rfl)
def z029 (l s:Option Addr) (place:Int) (told:Value):Prog :=
AJ 1 (
AC<|
AY l λa1=>
Bc T.a26 a1 0 λp2=>
AY s λa4=>
AP T.a14 a4 1 λn5=>
AF F.a122 [Ah l,Aa n5,.string (ByteArray.mk #[46,108,111,103])] λs6=>
AG<|
Bi F.a29 [Ah p2,.string s6] λl7 n8=>
Af n8 λn9=>
AG<|
Ak 1 [l7.v]) λl10=>
Af place λn11=>
Al 1 (
Am 2 (n11,()) λn12=>
Bk (decide (n12<(An l10))=true) s λa14=>
Ao (decide (n12<(An l10))=true) T.a13 a14 5 λn15=>
Aj (decide (n12<(An l10)) && decide (n12<n15)) (
.must (0<=n12/\n12<=(An l10)) <|
BO F.a39 [.slice (z0w l10.a 1 (Int.toNat n12) l10.cap) (l10.len-Int.toNat n12) (l10.cap-Int.toNat n12)] λl16 n17 b18=>
Af n17 λn19=>
Ax b18 λb20=>
Aj (not b20) (
Ak 0 [.bool true])<|
.call F.a93 [l16.v] (.tup [.agg [.int .i64,.int .i64,.int .i64,.int .i64,.int .i64,.int .i64,.slc],.one (.int .i64)]) (u8 λ(n21 n22 n23 n24 n25 n26:Int) l27 (n28:Int)=>
Ab T.a0 λa29=>
Ac T.a0 a29 (Ba n21 n22 n23 n24 n25 n26 l27)<|
Af n28 λn30=>
Au 3 (
Bl ((n30 != 0)=false) T.a0 a29 λn31 n32 n33 n34 n35 n36 l37=>
Aj (n30 != 0) (
Ak 3 [.bool true])<|
.callv (told) [Ba n31 n32 n33 n34 n35 n36 l37] sB (u1 λb38=>
Ak 3 [.bool (not b38)])) λb39=>
Aj b39 (
Ak 0 [.bool false])<|
Af (Aw (n12+n19)) λn40=>
Ak 2 [Aa n40]))<|
Ak 1 [])<|
Ak 0 [.bool true]
theorem zoq (l s:Option Addr) (place:Int) (told:Value) {w:World} {R:List Value->World->Prop} (h:(z029 l s place told).wp P (λ_=>True) w λe vs w'=>e=0/\R vs w'):Ret P F.a127 #[.pointer l,.pointer s,.int .i64 place,told] w R:=dS (n:=70) (rv:=[.tmp 8]) { cnd:=[],blk:=[(0,[])],reg:=[(1,[(9,.one .slc)]),(8,[(66,.one .bool)])],lps:=[(0,[(11,.one (.int .i64))])] } [.val (.pointer l),.val (.pointer s),.val (.int .i64 place),.any told] Go.Proofs.Tryz.func196 (by kernel_rfl) (by kernel_rfl) (by kernel_rfl) (by kernel_rfl) h
def z02g (s:Option Addr) (offset:Int):Prog :=
AY s λa1=>
AB T.a28 a1 0 λp2=>
.call F.a46 [Ah p2,Aa offset] (.tup [.agg [.int .i64,.int .i64,.int .i64],.one .bool]) (u4 λ(n3 n4 n5:Int) b6=>
Ab T.a10 λa7=>
Ac T.a10 a7 (Ad n3 n4 n5)<|
AS b6 (
AP T.a13 a7 1 λn9=>
Af n9 λn10=>
Ak 0 [Aa n10])<|
AC<|
AY s λa12=>
AP T.a14 a12 1 λn13=>
AY s λa15=>
AP T.a14 a15 2 λn16=>
AT F.a130 [Aa n13,Aa n16] λl17=>
Af (An l17) λn18=>
AG<|
Ak 0 [Aa n18])
theorem zox (s:Option Addr) (offset:Int):FnS (z02g s offset) F.a134 #[.pointer s,.int .i64 offset]:=dV ⟨[],[],[],[]⟩ Go.Proofs.Tryz.func197 (by kernel_rfl)
def z01x (b_0 b_1 b_2 b_3 b_4 b_5:Int) (b_6:Sl) (fv0 fv1:Option Addr) (fv2:Option Addr):Prog :=
Ai T.a0 (Ba b_0 b_1 b_2 b_3 b_4 b_5 b_6) λa0=>
Bb T.a0 a0 λn1 n2 n3 n4 n5 n6 l7=>
BQ T.a14 fv0 λn8=>
.call F.a96 [Ba n1 n2 n3 n4 n5 n6 l7,Aa n8] (.tup [.agg [.int .i64,.int .i64,.int .i64,.int .i64,.int .i64,.int .i64,.slc],.one .bool]) (u8 λ(n9 n10 n11 n12 n13 n14:Int) l15 b16=>
Ab T.a0 λa17=>
Ac T.a0 a17 (Ba n9 n10 n11 n12 n13 n14 l15)<|
Ax b16 λb18=>
Al 1 (
Aj b18 (
BN (Instr.loadAt T.a36 (Ah fv1)) λl19=>
Bb T.a0 a17 λn20 n21 n22 n23 n24 n25 l26=>
AO (Instr.buildSlice T.a36 1 #[(0,Ba n20 n21 n22 n23 n24 n25 l26)]) λl27=>
AO (app T.a36 T.a36 T.a36 l19.v l27.v) λl28=>
B5 (Instr.storeAt T.a36 (Ah fv1) l28.v)<|
Ak 1 [])<|
Ak 1 [])<|
BN (Instr.loadAt T.a36 (Ah fv1)) λl29=>
BQ T.a13 fv2 λn30=>
Ax (decide ((An l29)<n30)) λb31=>
Ak 0 [.bool b31])
theorem zoe (b_0 b_1 b_2 b_3 b_4 b_5:Int) (b_6:Sl) (fv0 fv1 fv2:Option Addr):FnS (z01x b_0 b_1 b_2 b_3 b_4 b_5 b_6 fv0 fv1 fv2) F.a115 #[.agg #[.int .i64 b_0,.int .i64 b_1,.int .i64 b_2,.int .i64 b_3,.int .i64 b_4,.int .i64 b_5,.slice b_6.a b_6.len b_6.cap],.pointer fv0,.pointer fv1,.pointer fv2]:=dV ⟨[(2013265934,[])],[],[],[]⟩ Go.Proofs.Tryz.func198 (by kernel_rfl)
def z09s (b_0 b_1 b_2 b_3 b_4 b_5:Int) (b_6:Sl) (offset:Int):Prog :=
Ai T.a0 (Ba b_0 b_1 b_2 b_3 b_4 b_5 b_6) λa0=>
Ab T.a0 λa1=>
Au 1 (
Bb T.a0 a0 λn2 n3 n4 n5 n6 n7 l8=>
AA F.a99 [Ba n2 n3 n4 n5 n6 n7 l8] λn9=>
Bl ((n9 != 0)=false) T.a0 a0 λn10 n11 n12 n13 n14 n15 l16=>
Aj (n9 != 0) (
Ak 1 [.bool true])<|
AA F.a97 [Ba n10 n11 n12 n13 n14 n15 l16] λn17=>
Ax (decide (offset>=n17)) λb18=>
Ak 1 [.bool b18]) λb19=>
Aj b19 (
Ac T.a0 a1 (.agg #[Aa 0,Aa 0,Aa 0,Aa 0,Aa 0,Aa 0,.slice none 0 0])<|
Bb T.a0 a1 λn20 n21 n22 n23 n24 n25 l26=>
Ak 0 [Ba n20 n21 n22 n23 n24 n25 l26,.bool false])<|
Bb T.a0 a0 λn27 n28 n29 n30 n31 n32 l33=>
Av F.a102 [Ba n27 n28 n29 n30 n31 n32 l33] λb34=>
Ao (b34=false) T.a14 a0 0 λn35=>
AS (b34 || decide (offset<=n35)) (
Bb T.a0 a0 λn37 n38 n39 n40 n41 n42 l43=>
B0 F.a92 [Ba n37 n38 n39 n40 n41 n42 l43] λn44 n45 n46 n47 n48 n49 l50=>
Ac T.a0 a1 (Ba n44 n45 n46 n47 n48 n49 l50)<|
Bb T.a0 a1 λn51 n52 n53 n54 n55 n56 l57=>
Ak 0 [Ba n51 n52 n53 n54 n55 n56 l57,.bool true])<|
Bb T.a0 a0 λn58 n59 n60 n61 n62 n63 l64=>
AP T.a14 a0 0 λn65=>
AI T.a37 a0 6 λl66=>
B0 F.a104 [Ba n58 n59 n60 n61 n62 n63 l64,Aa (Aw (offset-n65)),Aa (An l66)] λn67 n68 n69 n70 n71 n72 l73=>
Ac T.a0 a1 (Ba n67 n68 n69 n70 n71 n72 l73)<|
Bb T.a0 a1 λn74 n75 n76 n77 n78 n79 l80=>
Ak 0 [Ba n74 n75 n76 n77 n78 n79 l80,.bool true]
theorem zvs (b_0 b_1 b_2 b_3 b_4 b_5:Int) (b_6:Sl) (offset:Int):FnS (z09s b_0 b_1 b_2 b_3 b_4 b_5 b_6 offset) F.a96 #[.agg #[.int .i64 b_0,.int .i64 b_1,.int .i64 b_2,.int .i64 b_3,.int .i64 b_4,.int .i64 b_5,.slice b_6.a b_6.len b_6.cap],.int .i64 offset]:=dV ⟨[],[],[(1,[(6,.one .bool)])],[]⟩ Go.Proofs.Tryz.func199 (by kernel_rfl)
def z01h (b_0 b_1 b_2 b_3 b_4 b_5:Int) (b_6:Sl):Prog :=
Ai T.a0 (Ba b_0 b_1 b_2 b_3 b_4 b_5 b_6) λa0=>
Au 1 (
Bb T.a0 a0 λn1 n2 n3 n4 n5 n6 l7=>
Av F.a103 [Ba n1 n2 n3 n4 n5 n6 l7] λb8=>
Bl (not b8=false) T.a0 a0 λn9 n10 n11 n12 n13 n14 l15=>
Aj (not b8) (
Ak 1 [.bool true])<|
Av F.a101 [Ba n9 n10 n11 n12 n13 n14 l15] λb16=>
Ax (not b16) λb17=>
Ak 1 [.bool b17]) λb18=>
Aj b18 (
Ak 0 [Aa 2])<|
AI T.a37 a0 6 λl19=>
AS (decide ((An l19)>64)) (
Ak 0 [Aa 7])<|
AI T.a37 a0 6 λl21=>
Al 1 (
Am 2 (0,()) λn22=>
Aj (decide (n22<(An l21))) (
.ex [.adr] (c1 λa23=>0<=n22/\n22<(An l21)/\l21.a=some a23) (u1 λa24=>
AL T.a2 a24 (Int.toNat n22*4) λs25 s26 b27 n28=>
Ab T.a2 λa29=>
Ac T.a2 a29 (AM s25 s26 b27 n28)<|
AN T.a2 a29 λs30 s31 b32 n33=>
AA F.a106 [AM s30 s31 b32 n33] λn34=>
Af n34 λn35=>
Aj (n35 != 0) (
Af n35 λn36=>
Ak 0 [Aa n36])<|
Ak 2 [Aa (Aw (n22+1))]))<|
Ak 1 [])<|
Bb T.a0 a0 λn37 n38 n39 n40 n41 n42 l43=>
AA F.a98 [Ba n37 n38 n39 n40 n41 n42 l43] λn44=>
Af (Aw (n44-1)) λn45=>
Au 1 (
AP T.a14 a0 0 λn46=>
Ao (decide (n46>Aw (1099511627776-n45))=false) T.a14 a0 1 λn47=>
Bl (decide (n46>Aw (1099511627776-n45))=false/\decide (n47>0)=true) T.a0 a0 λn48 n49 n50 n51 n52 n53 l54=>
Aj (decide (n46>Aw (1099511627776-n45))) (
Ak 1 [.bool true])<|
Aj (decide (n47>0)) (
Av F.a102 [Ba n48 n49 n50 n51 n52 n53 l54] λb55=>
Ao (not b55=true) T.a13 a0 3 λn56=>
Ak 1 [.bool (not b55 && decide (n56>Aw (2147483647-n45)))])<|
Ak 1 [.bool false]) λb57=>
Aj b57 (
Ak 0 [Aa 24])<|
Ak 0 [Aa 0]
theorem zny (b_0 b_1 b_2 b_3 b_4 b_5:Int) (b_6:Sl):FnS (z01h b_0 b_1 b_2 b_3 b_4 b_5 b_6) F.a99 #[.agg #[.int .i64 b_0,.int .i64 b_1,.int .i64 b_2,.int .i64 b_3,.int .i64 b_4,.int .i64 b_5,.slice b_6.a b_6.len b_6.cap]]:=dV ⟨[],[(1,[])],[(1,[(7,.one .bool)]),(13,[(58,.one .bool)])],[(1,[(24,.one (.int .i64))])]⟩ Go.Proofs.Tryz.func203 (by kernel_rfl)
def z09u (b_0 b_1 b_2 b_3 b_4 b_5:Int) (b_6:Sl):Prog :=
Ai T.a0 (Ba b_0 b_1 b_2 b_3 b_4 b_5 b_6) λa0=>
Bb T.a0 a0 λn1 n2 n3 n4 n5 n6 l7=>
Av F.a102 [Ba n1 n2 n3 n4 n5 n6 l7] λb8=>
Aj b8 (
Ak 0 [Aa 1])<|
AI T.a37 a0 6 λl9=>
Af (An l9) λn10=>
Ak 0 [Aa n10]
theorem zvu (b_0 b_1 b_2 b_3 b_4 b_5:Int) (b_6:Sl):FnS (z09u b_0 b_1 b_2 b_3 b_4 b_5 b_6) F.a98 #[.agg #[.int .i64 b_0,.int .i64 b_1,.int .i64 b_2,.int .i64 b_3,.int .i64 b_4,.int .i64 b_5,.slice b_6.a b_6.len b_6.cap]]:=dV ⟨[],[],[],[]⟩ Go.Proofs.Tryz.func204 (by kernel_rfl)
def z02y (n lo:Int) (hi:Int):Prog :=
Ax (decide (n<lo) || decide (n>hi)) λb0=>
Ak 0 [.bool b0]
theorem zpf (n lo hi:Int):FnS (z02y n lo hi) F.a163 #[.int .i64 n,.int .i64 lo,.int .i64 hi]:=dV ⟨[],[],[],[]⟩ Go.Proofs.Tryz.func207 (by kernel_rfl)
def z02v (b_0 b_1 b_2 b_3 b_4 b_5:Int) (b_6:Sl):Prog :=
Ai T.a0 (Ba b_0 b_1 b_2 b_3 b_4 b_5 b_6) λa0=>
AP T.a13 a0 4 λn1=>
Ao ((n1 == 2)=false) T.a13 a0 4 λn2=>
Ax (n1 == 2 || n2 == 3) λb3=>
Ak 0 [.bool b3]
theorem zpc (b_0 b_1 b_2 b_3 b_4 b_5:Int) (b_6:Sl):FnS (z02v b_0 b_1 b_2 b_3 b_4 b_5 b_6) F.a160 #[.agg #[.int .i64 b_0,.int .i64 b_1,.int .i64 b_2,.int .i64 b_3,.int .i64 b_4,.int .i64 b_5,.slice b_6.a b_6.len b_6.cap]]:=dV ⟨[],[],[],[]⟩ Go.Proofs.Tryz.func208 (by kernel_rfl)
def z02w (b_0 b_1 b_2 b_3 b_4 b_5:Int) (b_6:Sl):Prog :=
Ai T.a0 (Ba b_0 b_1 b_2 b_3 b_4 b_5 b_6) λa0=>
Bb T.a0 a0 λn1 n2 n3 n4 n5 n6 l7=>
Av F.a160 [Ba n1 n2 n3 n4 n5 n6 l7] λb8=>
Aj b8 (
Ak 0 [Aa 1])<|
AI T.a37 a0 6 λl9=>
Af (An l9) λn10=>
Ak 0 [Aa n10]
theorem zpd (b_0 b_1 b_2 b_3 b_4 b_5:Int) (b_6:Sl):FnS (z02w b_0 b_1 b_2 b_3 b_4 b_5 b_6) F.a161 #[.agg #[.int .i64 b_0,.int .i64 b_1,.int .i64 b_2,.int .i64 b_3,.int .i64 b_4,.int .i64 b_5,.slice b_6.a b_6.len b_6.cap]]:=dV ⟨[],[],[],[]⟩ Go.Proofs.Tryz.func209 (by kernel_rfl)
def z01s (l:Option Addr) (bs:Sl):Prog :=
Aj (Option.isNone l) (
Ak 0 [Aa 0,Aa 1])<|
Aj ((An bs) == 0) (
Ak 0 [Aa 0,Aa 3])<|
.call F.a123 [Ah l,bs.v] (.tup [.one .slc,.one .slc,.one (.int .i64)]) (u3 λl0 l1 (n2:Int)=>
Af n2 λn3=>
Aj (n3 != 0) (
Af n3 λn4=>
Ak 0 [Aa 0,Aa n4])<|
Ay 1 (
Bd 2 (0,(0,())) λn5 n6=>
Aj (decide (n6<(An l1))) (
.ex [.adr] (c1 λa7=>0<=n6/\n6<(An l1)/\l1.a=some a7) (u1 λa8=>
AI T.a45 a8 (Int.toNat n6*1) λl9=>
Af (Aw (n5+(An l9))) λn10=>
Ak 2 [Aa n10,Aa (Aw (n6+1))]))<|
Ak 1 [Aa n5]) λn11=>
Az F.a121 [Ah l] λp12=>
Av F.a120 [Ah l,Aa n11] λb13=>
.bind 1 [.one .ptr] (
Aj (not b13) (
AA F.a116 [Ah l] λn14=>
Af n14 λn15=>
Aj (n15 != 0) (
Af n15 λn16=>
Ak 0 [Aa 0,Aa n16])<|
AA F.a112 [Ah l] λn17=>
Az F.a126 [Ah l,Aa n17,Aa 0] λp18=>
Ay 2 (
AC<|
AY l λa20=>
Bc T.a26 a20 0 λp21=>
AY p18 λa23=>
AP T.a14 a23 1 λn24=>
AY p18 λa26=>
AR T.a14 a26 1 λn27=>
AF F.a122 [Ah l,Aa n24,.string (ByteArray.mk #[46,108,111,103])] λs28=>
AT F.a130 [Aa n27,Aa 0] λl29=>
AO (Instr.buildSlice T.a43 1 #[(0,l29.v)]) λl30=>
AO (app T.a43 T.a43 T.a43 l30.v l1.v) λl31=>
AG<|
AA F.a24 [Ah p21,.string s28,l31.v] λn32=>
Af n32 λn33=>
AG<|
Ak 2 [Aa n33]) λn34=>
Aj (n34 != 0) (
Af n34 λn35=>
Ak 0 [Aa 0,Aa n35])<|
Bh F.a124 [Ah l,Ah p18]<|
Ak 1 [Ah p18])<|
Ay 2 (
AC<|
AY l λa37=>
Bc T.a26 a37 0 λp38=>
AY p12 λa40=>
AP T.a14 a40 1 λn41=>
AF F.a122 [Ah l,Aa n41,.string (ByteArray.mk #[46,108,111,103])] λs42=>
AG<|
AA F.a24 [Ah p38,.string s42,l1.v] λn43=>
Af n43 λn44=>
AG<|
Ak 2 [Aa n44]) λn45=>
Aj (n45 != 0) (
Af n45 λn46=>
Ak 0 [Aa 0,Aa n46])<|
Ak 1 [Ah p12]) (u1 λp47=>
Al 1 (
Am 2 (0,()) λn48=>
Aj (decide (n48<(An l0))) (
.ex [.adr] (c1 λa49=>0<=n48/\n48<(An l0)/\l0.a=some a49) (u1 λa50=>
Be T.a0 a50 (Int.toNat n48*7) λn51 n52 n53 n54 n55 n56 l57=>
Ab T.a0 λa58=>
Af n48 λn59=>
Ac T.a0 a58 (Ba n51 n52 n53 n54 n55 n56 l57)<|
AC<|
Bb T.a0 a58 λn60 n61 n62 n63 n64 n65 l66=>
.ex [.adr] (c1 λa67=>0<=n59/\n59<(An l1)/\l1.a=some a67) (u1 λa68=>
AI T.a45 a68 (Int.toNat n59*1) λl69=>
Bh F.a136 [Ah p47,Ba n60 n61 n62 n63 n64 n65 l66,Aa (An l69)]<|
AG<|
Ak 2 [Aa (Aw (n48+1))])))<|
Ak 1 [])<|
.ex [.adr] (c1 λa70=>(0:Int)<=0/\0<(An l0)/\l0.a=some a70) (u1 λa71=>
AP T.a14 (Addr.add a71 0) 0 λn72=>
Af n72 λn73=>
Ak 0 [Aa n73,Aa 0])))
theorem zo9 (l:Option Addr) (bs:Sl):FnS (z01s l bs) F.a110 #[.pointer l,.slice bs.a bs.len bs.cap]:=dV ⟨[(2596148429267409202579229989077041,[(12,.one .ptr)])],[(0,[(9,.one (.int .i64))]),(2,[])],[(20,[(14,.one (.int .i64))]),(24,[(15,.one (.int .i64))])],[(0,[(9,.one (.int .i64)),(35,.one (.int .i64))]),(2,[(101,.one (.int .i64))])]⟩ Go.Proofs.Tryz.func211 (by kernel_rfl)
def z01y (l:Option Addr):Prog :=
Aj (Option.isNone l) (
Ak 0 [Aa 1])<|
Az F.a121 [Ah l] λp0=>
Aj (not (Option.isNone p0)) (
Ay 1 (
AC<|
AY l λa2=>
Bc T.a26 a2 0 λp3=>
AY p0 λa5=>
AP T.a14 a5 1 λn6=>
AF F.a122 [Ah l,Aa n6,.string (ByteArray.mk #[46,108,111,103])] λs7=>
AO (Instr.buildSlice T.a44 1 #[(0,.string s7)]) λl8=>
AG<|
AA F.a32 [Ah p3,l8.v] λn9=>
Af n9 λn10=>
AG<|
Ak 1 [Aa n10]) λn11=>
Ak 0 [Aa n11])<|
Ak 0 [Aa 0]
theorem zof (l:Option Addr):FnS (z01y l) F.a116 #[.pointer l]:=dV ⟨[],[],[(5,[(2,.one (.int .i64))])],[]⟩ Go.Proofs.Tryz.func212 (by kernel_rfl)
def z09o (b_0 b_1 b_2 b_3 b_4 b_5:Int) (b_6:Sl):Prog :=
Ai T.a0 (Ba b_0 b_1 b_2 b_3 b_4 b_5 b_6) λa0=>
Ab T.a0 λa1=>
AI T.a37 a0 6 λl2=>
AO (app T.a37 T.a37 T.a37 (.slice none 0 0) l2.v) λl3=>
AH T.a37 a0 6 l3.v<|
Bb T.a0 a0 λn4 n5 n6 n7 n8 n9 l10=>
Ac T.a0 a1 (Ba n4 n5 n6 n7 n8 n9 l10)<|
Bb T.a0 a1 λn11 n12 n13 n14 n15 n16 l17=>
Ak 0 [Ba n11 n12 n13 n14 n15 n16 l17]
theorem zvo (b_0 b_1 b_2 b_3 b_4 b_5:Int) (b_6:Sl):FnS (z09o b_0 b_1 b_2 b_3 b_4 b_5 b_6) F.a92 #[.agg #[.int .i64 b_0,.int .i64 b_1,.int .i64 b_2,.int .i64 b_3,.int .i64 b_4,.int .i64 b_5,.slice b_6.a b_6.len b_6.cap]]:=dV ⟨[],[],[],[]⟩ Go.Proofs.Tryz.func213 (by kernel_rfl)
def z03k (p:Option Addr) (n:Int):Prog :=
AY p λa1=>
AP T.a13 a1 1 λn2=>
AY p λa4=>
AH T.a13 a4 1 (Aa (Aw (n2+n)))<|
AC<|
AY p λa6=>
AI T.a45 a6 0 λl7=>
AY p λa9=>
AP T.a13 a9 1 λn10=>
AY p λa12=>
AP T.a13 a12 1 λn13=>
.must (0<=Aw (n10-n)/\Aw (n10-n)<=n13/\n13<=((l7.cap:Nat):Int)) <|
AG<|
Ak 0 [.slice (z0w l7.a 1 (Int.toNat (Aw (n10-n))) l7.cap) (Int.toNat n13-Int.toNat (Aw (n10-n))) (l7.cap-Int.toNat (Aw (n10-n)))]
theorem zq1 (p:Option Addr) (n:Int):FnS (z03k p n) F.a185 #[.pointer p,.int .i64 n]:=dV ⟨[],[],[],[]⟩ Go.Proofs.Tryz.func225 (by kernel_rfl)
def z033 (on:Bool):Prog :=
Aj on (
AO (Instr.buildSlice T.a45 1 #[(0,.int .u8 1)]) λl0=>
Ak 0 [l0.v])<|
AO (Instr.buildSlice T.a45 1 #[(0,.int .u8 0)]) λl1=>
Ak 0 [l1.v]
theorem zpk (on:Bool):FnS (z033 on) F.a168 #[.bool on]:=dV ⟨[],[],[],[]⟩ Go.Proofs.Tryz.func226 (by kernel_rfl)
def z01z (l:Option Addr) (name:ByteArray) (end_:ByteArray):Prog :=
AY l λa1=>
AD T.a49 a1 1 λs2=>
Af (Aw (((ByteArray.size s2:Nat):Int)+1)) λn3=>
.must ((((ByteArray.size name:Nat):Int) != Aw (Aw (n3+11)+((ByteArray.size end_:Nat):Int)))=false->0<=Aw (n3+11)/\Aw (n3+11)<=((ByteArray.size name:Nat):Int)) <|
Aj (((ByteArray.size name:Nat):Int) != Aw (Aw (n3+11)+((ByteArray.size end_:Nat):Int)) || not (ByteArray.toList (ByteArray.extract name (Int.toNat (Aw (n3+11))) (ByteArray.size name)) == ByteArray.toList end_)) (
Ak 0 [Aa 0,.bool false])<|
.must (0<=n3/\n3<=Aw (n3+11)/\Aw (n3+11)<=((ByteArray.size name:Nat):Int)) <|
AO (convert T.a49 T.a45 (.string (ByteArray.extract name (Int.toNat n3) (Int.toNat (Aw (n3+11)))))) λl4=>
Ay 1 (
Bd 2 (0,(0,())) λn5 n6=>
Aj (decide (n6<(An l4))) (
.ex [.adr] (c1 λa7=>0<=n6/\n6<(An l4)/\l4.a=some a7) (u1 λa8=>
BK T.a52 a8 (Int.toNat n6*1) λn9=>
BL n9 λn10=>
Ax (decide (n10>=48) && decide (n10<=57)) λb11=>
Ay 3 (
Aj b11 (
Af (Aw (((BitVec.toNat (BitVec.ofInt 64 (Aw (n5*16)) ||| BitVec.ofInt 64 (Aw (IntKind.wrap .u8 (n10-48)))):Nat):Int))) λn12=>
Ak 3 [Aa n12])<|
AS (decide (n10>=97) && decide (n10<=102)) (
Af (Aw (((BitVec.toNat (BitVec.ofInt 64 (Aw (n5*16)) ||| BitVec.ofInt 64 (Aw (IntKind.wrap .u8 (IntKind.wrap .u8 (n10-97)+10)))):Nat):Int))) λn14=>
Ak 3 [Aa n14])<|
Ak 0 [Aa 0,.bool false]) λn15=>
Ak 2 [Aa n15,Aa (Aw (n6+1))]))<|
Ak 1 [Aa n5]) λn16=>
Af n16 λn17=>
Ak 0 [Aa n17,.bool true]
theorem zog (l:Option Addr) (name end_:ByteArray):FnS (z01z l name end_) F.a117 #[.pointer l,.string name,.string end_]:=dV ⟨[(19342794667089993088630829,[(9,.one (.int .i64))])],[(0,[(9,.one (.int .i64))])],[],[(0,[(9,.one (.int .i64)),(41,.one (.int .i64))])]⟩ Go.Proofs.Tryz.func242 (by kernel_rfl)
def z023 (l:Option Addr):Prog :=
AY l λa1=>
AI T.a41 a1 4 λl2=>
Aj ((An l2) == 0) (
Ak 0 [Ah none])<|
AC<|
AY l λa4=>
AI T.a41 a4 4 λl5=>
AY l λa7=>
AI T.a41 a7 4 λl8=>
.ex [.adr] (c1 λa9=>0<=Aw ((An l8)-1)/\Aw ((An l8)-1)<(An l5)/\l5.a=some a9) (u1 λa10=>
AB T.a32 a10 (Int.toNat (Aw ((An l8)-1))*1) λp11=>
AG<|
Ak 0 [Ah p11])
theorem zok (l:Option Addr):FnS (z023 l) F.a121 #[.pointer l]:=dV ⟨[],[],[],[]⟩ Go.Proofs.Tryz.func243 (by kernel_rfl)
def z02h (s:Option Addr):Prog :=
AC<|
AY s λa1=>
AP T.a14 a1 1 λn2=>
AY s λa4=>
AP T.a14 a4 2 λn5=>
AY s λa7=>
AP T.a14 a7 3 λn8=>
Af (if n8>if n5>n2 then n5 else n2 then n8 else if n5>n2 then n5 else n2) λn9=>
AG<|
Ak 0 [Aa n9]
theorem zoy (s:Option Addr):FnS (z02h s) F.a135 #[.pointer s]:=dV ⟨[],[],[],[]⟩ Go.Proofs.Tryz.func244 (by kernel_rfl)
def z08f (b:Sl):Prog :=
Aj (decide ((An b)<8)) (
Ak 0 [.slice none 0 0,Aa 0,.bool false])<|
BR F.a45 [b.v] λn0=>
BS n0 λn1=>
Aj (decide (n1>262144) || decide (Aw n1>Aw ((An b)-8))) (
Ak 0 [.slice none 0 0,Aa 0,.bool false])<|
Af (Aw (Aw n1+4)) λn2=>
Au 1 (
AC<|
.must (0<=n2/\n2<=(An b)) <|
.must (0<=n2/\n2<=((b.cap:Nat):Int)) <|
.both (
BR F.a45 [.slice (z0w b.a 1 (Int.toNat n2) b.cap) (b.len-Int.toNat n2) (b.cap-Int.toNat n2)] λn3=>
AO (Instr.buildSlice T.a43 1 #[(0,.slice b.a (Int.toNat n2) b.cap)]) λl4=>
BR F.a43 [l4.v] λn5=>
AG<|
Ak 1 [.bool (n3 != n5)]) <|
AO (Instr.buildSlice T.a43 1 #[(0,.slice b.a (Int.toNat n2) b.cap)]) λl6=>
BR F.a45 [.slice (z0w b.a 1 (Int.toNat n2) b.cap) (b.len-Int.toNat n2) (b.cap-Int.toNat n2)] λn7=>
BR F.a43 [l6.v] λn8=>
AG<|
Ak 1 [.bool (n7 != n8)]) λb9=>
Aj b9 (
Ak 0 [.slice none 0 0,Aa 0,.bool false])<|
.must ((0:Int)<=4/\4<=n2/\n2<=((b.cap:Nat):Int)) <|
AT F.a0 [.slice (z0w b.a 1 4 b.cap) (Int.toNat n2-4) (b.cap-4)] λl10=>
Af (Aw (n2+4)) λn11=>
Ak 0 [l10.v,Aa n11,.bool true]
theorem zue (b:Sl):FnS (z08f b) F.a39 #[.slice b.a b.len b.cap]:=dV ⟨[],[],[(7,[(34,.one .bool)])],[]⟩ Go.Proofs.Tryz.func245 (by kernel_rfl)
def z02d (body:Sl) (base:Int):Prog :=
Az F.a171 [body.v] λp0=>
AA F.a172 [Ah p0] λn1=>
Bs F.a178 [Ah p0] λn2=>
Bs F.a178 [Ah p0] λn3=>
Af n1 λn4=>
Bt n2 λn5=>
Bt n3 λn6=>
AA F.a173 [Ah p0] λn7=>
Aj (n7 != 0 || n4 != 83 || n5 != IntKind.wrap .u64 base || decide (base>1099511627776) || decide (n6>1099511627776)) (
Ak 0 [Aa 0,.bool false])<|
Af (Aw n6) λn8=>
Ax (n6 == 0 || decide (Aw n6>base)) λb9=>
Ak 0 [Aa n8,.bool b9]
theorem zou (body:Sl) (base:Int):FnS (z02d body base) F.a131 #[.slice body.a body.len body.cap,.int .i64 base]:=dV ⟨[],[],[],[]⟩ Go.Proofs.Tryz.func246 (by kernel_rfl)
def z028 (l:Option Addr) (base:Int) (end_:Int):Prog :=
AY l λa1=>
AP T.a13 (Addr.add a1 2) 1 λn2=>
Ae F.a50 [Aa n2] λp3 n4=>
Af n4 λn5=>
AT F.a130 [Aa base,Aa end_] λl6=>
Ai T.a48 (.agg #[Ah p3,Aa base,Aa end_,Aa 0,Aa (-1),Aa (An l6)]) λa7=>
Ak 0 [Ar a7]
theorem zop (l:Option Addr) (base end_:Int):FnS (z028 l base end_) F.a126 #[.pointer l,.int .i64 base,.int .i64 end_]:=dV ⟨[],[],[],[]⟩ Go.Proofs.Tryz.func247 (by kernel_rfl)
def z09p (raw:Sl):Prog :=
Ab T.a0 λa0=>
Ab T.a0 λa1=>
Ac T.a0 a1 (.agg #[Aa 0,Aa 0,Aa 0,Aa 0,Aa 0,Aa 0,.slice none 0 0])<|
Az F.a171 [raw.v] λp2=>
AA F.a172 [Ah p2] λn3=>
Aj (n3 != 1) (
Bb T.a0 a1 λn4 n5 n6 n7 n8 n9 l10=>
Ac T.a0 a0 (Ba n4 n5 n6 n7 n8 n9 l10)<|
Bb T.a0 a0 λn11 n12 n13 n14 n15 n16 l17=>
Ak 0 [Ba n11 n12 n13 n14 n15 n16 l17,Aa 6])<|
AA F.a172 [Ah p2] λn18=>
AA F.a107 [Ah p2,Aa 1099511627776] λn19=>
AA F.a107 [Ah p2,Aa 1048576] λn20=>
Ab T.a0 λa21=>
Ac T.a0 a21 (.agg #[Aa n19,Aa n20,Aa 0,Aa 0,Aa n18,Aa 0,.slice none 0 0])<|
AP T.a14 a21 1 λn22=>
Al 1 (
Aj (decide (n22>0)) (
AA F.a107 [Ah p2,Aa 32767] λn23=>
AH T.a13 a21 2 (Aa n23)<|
Bb T.a0 a21 λn24 n25 n26 n27 n28 n29 l30=>
Av F.a102 [Ba n24 n25 n26 n27 n28 n29 l30] λb31=>
Al 2 (
Aj (not b31) (
AA F.a107 [Ah p2,Aa 2147483647] λn32=>
AH T.a13 a21 3 (Aa n32)<|
Ak 2 [])<|
Ak 2 [])<|
Ak 1 [])<|
Ak 1 [])<|
AA F.a107 [Ah p2,Aa 1099511627776] λn33=>
AH T.a14 a21 5 (Aa n33)<|
AA F.a174 [Ah p2] λn34=>
Ao ((n34 != 0)=false) T.a14 a21 5 λn35=>
Aj (n34 != 0 || decide (n35>1099511627776)) (
Bb T.a0 a1 λn36 n37 n38 n39 n40 n41 l42=>
Ac T.a0 a0 (Ba n36 n37 n38 n39 n40 n41 l42)<|
Bb T.a0 a0 λn43 n44 n45 n46 n47 n48 l49=>
Ak 0 [Ba n43 n44 n45 n46 n47 n48 l49,Aa 6])<|
Bb T.a0 a21 λn50 n51 n52 n53 n54 n55 l56=>
Av F.a102 [Ba n50 n51 n52 n53 n54 n55 l56] λb57=>
Al 1 (
Aj (not b57) (
AA F.a107 [Ah p2,Aa 64] λn58=>
Af n58 λn59=>
Aj (decide (n59>64)) (
Bb T.a0 a1 λn60 n61 n62 n63 n64 n65 l66=>
Ac T.a0 a0 (Ba n60 n61 n62 n63 n64 n65 l66)<|
Bb T.a0 a0 λn67 n68 n69 n70 n71 n72 l73=>
Ak 0 [Ba n67 n68 n69 n70 n71 n72 l73,Aa 6])<|
Al 2 (
.loop 3 [.one .str,.one (.int .i64)] ((ByteArray.mk #[]),(0,())) (u2 λs74 (n75:Int)=>
Aj (decide (n75<n59)) (
AP T.a14 a21 5 λn76=>
.call F.a105 [Ah p2,Aa n76,.string s74] (.tup [.agg [.str,.str,.bool,.int .i64],.one .bool]) (u5 λs77 s78 b79 (n80:Int) b81=>
Ab T.a2 λa82=>
Ac T.a2 a82 (AM s77 s78 b79 n80)<|
Ax b81 λb83=>
Aj (not b83) (
Bb T.a0 a1 λn84 n85 n86 n87 n88 n89 l90=>
Ac T.a0 a0 (Ba n84 n85 n86 n87 n88 n89 l90)<|
Bb T.a0 a0 λn91 n92 n93 n94 n95 n96 l97=>
Ak 0 [Ba n91 n92 n93 n94 n95 n96 l97,Aa 6])<|
AI T.a37 a21 6 λl98=>
AN T.a2 a82 λs99 s100 b101 n102=>
AO (Instr.buildSlice T.a37 1 #[(0,AM s99 s100 b101 n102)]) λl103=>
AO (app T.a37 T.a37 T.a37 l98.v l103.v) λl104=>
AH T.a37 a21 6 l104.v<|
AD T.a49 a82 0 λs105=>
AU s105 λs106=>
Ak 3 [.string s106,Aa (Aw (n75+1))]))<|
Ak 2 []))<|
Ak 1 [])<|
Ak 1 [])<|
Au 1 (
AA F.a173 [Ah p2] λn107=>
Bl ((n107 != 0)=false) T.a0 a21 λn108 n109 n110 n111 n112 n113 l114=>
Aj (n107 != 0) (
Ak 1 [.bool true])<|
AA F.a99 [Ba n108 n109 n110 n111 n112 n113 l114] λn115=>
Ak 1 [.bool (n115 != 0)]) λb116=>
Aj b116 (
Bb T.a0 a1 λn117 n118 n119 n120 n121 n122 l123=>
Ac T.a0 a0 (Ba n117 n118 n119 n120 n121 n122 l123)<|
Bb T.a0 a0 λn124 n125 n126 n127 n128 n129 l130=>
Ak 0 [Ba n124 n125 n126 n127 n128 n129 l130,Aa 6])<|
Bb T.a0 a21 λn131 n132 n133 n134 n135 n136 l137=>
Ac T.a0 a0 (Ba n131 n132 n133 n134 n135 n136 l137)<|
Bb T.a0 a0 λn138 n139 n140 n141 n142 n143 l144=>
Ak 0 [Ba n138 n139 n140 n141 n142 n143 l144,Aa 0]
theorem zvp (raw:Sl):FnS (z09p raw) F.a93 #[.slice raw.a raw.len raw.cap]:=dV ⟨[(985162418487330,[]),(1123700883587100,[]),(19807040591672596250983170100,[])],[(0,[])],[(27,[(89,.one .bool)])],[(0,[(8,.one .str),(59,.one (.int .i64))])]⟩ Go.Proofs.Tryz.func248 (by kernel_rfl)
def z02i (s:Option Addr) (b_0 b_1 b_2 b_3 b_4 b_5:Int) (b_6:Sl) (size:Int):Prog :=
Ai T.a0 (Ba b_0 b_1 b_2 b_3 b_4 b_5 b_6) λa0=>
Bb T.a0 a0 λn1 n2 n3 n4 n5 n6 l7=>
AA F.a132 [Ba n1 n2 n3 n4 n5 n6 l7] λn8=>
Af n8 λn9=>
AC<|
AY s λa11=>
AB T.a28 a11 0 λp12=>
AP T.a14 a0 0 λn13=>
AY s λa15=>
AP T.a13 a15 5 λn16=>
AA F.a48 [Ah p12,Aa n13,Aa n16,Aa n9] λn17=>
AG<|
Bb T.a0 a0 λn18 n19 n20 n21 n22 n23 l24=>
AA F.a97 [Ba n18 n19 n20 n21 n22 n23 l24] λn25=>
AY s λa27=>
AH T.a14 a27 3 (Aa n25)<|
AY s λa29=>
AP T.a14 a29 4 λn30=>
AY s λa32=>
AH T.a14 a32 4 (Aa (if n9>n30 then n9 else n30))<|
AY s λa34=>
AP T.a13 a34 5 λn35=>
AY s λa37=>
AH T.a13 a37 5 (Aa (Aw (n35+size)))<|
Ak 0 []
theorem zoz (s:Option Addr) (b_0 b_1 b_2 b_3 b_4 b_5:Int) (b_6:Sl) (size:Int):FnS (z02i s b_0 b_1 b_2 b_3 b_4 b_5 b_6 size) F.a136 #[.pointer s,.agg #[.int .i64 b_0,.int .i64 b_1,.int .i64 b_2,.int .i64 b_3,.int .i64 b_4,.int .i64 b_5,.slice b_6.a b_6.len b_6.cap],.int .i64 size]:=dV ⟨[],[],[],[]⟩ Go.Proofs.Tryz.func249 (by kernel_rfl)
def z026 (l:Option Addr) (s:Option Addr):Prog :=
AY l λa1=>
AI T.a41 a1 4 λl2=>
AO (Instr.buildSlice T.a41 1 #[(0,Ah s)]) λl3=>
AO (app T.a41 T.a41 T.a41 l2.v l3.v) λl4=>
AY l λa6=>
AH T.a41 a6 4 l4.v<|
Ak 0 []
theorem zon (l s:Option Addr):FnS (z026 l s) F.a124 #[.pointer l,.pointer s]:=dV ⟨[],[],[],[]⟩ Go.Proofs.Tryz.func250 (by kernel_rfl)
def z03e (r:Option Addr) (lo:Int) (hi:Int):Prog :=
Av F.a180 [Ah r] λb0=>
Aj (not b0) (
Ak 0 [Aa 0])<|
AY r λa2=>
AP T.a13 (Addr.add a2 0) 1 λn3=>
Af n3 λn4=>
AA F.a176 [Ah r] λn5=>
Af n5 λn6=>
AY r λa8=>
AP T.a1 (Addr.add a8 0) 2 λn9=>
Al 1 (
Aj (n9 == 0 && (decide (n6<lo) || decide (n6>hi))) (
AY r λa11=>
AH T.a13 (Addr.add a11 0) 1 (Aa n4)<|
AY r λa13=>
Bh F.a183 [BG a13 0,Aa 8]<|
Ak 1 [])<|
Ak 1 [])<|
AY r λa15=>
AP T.a1 (Addr.add a15 0) 2 λn16=>
Aj (n16 != 0) (
Ak 0 [Aa 0])<|
Af n6 λn17=>
Ak 0 [Aa n17]
theorem zpv (r:Option Addr) (lo hi:Int):FnS (z03e r lo hi) F.a179 #[.pointer r,.int .i64 lo,.int .i64 hi]:=dV ⟨[(71916856549572642,[])],[],[],[]⟩ Go.Proofs.Tryz.func253 (by kernel_rfl)
def z08m (x:Option Addr) (offset:Int):Prog :=
Ai T.a28 (Ah x) λa0=>
Ai T.a14 (Aa offset) λa1=>
Ab T.a10 λa2=>
B2 T.a28 a0 λp3=>
Aj (Option.isNone p3) (
Ac T.a10 a2 (Ad 0 0 0)<|
Ag T.a10 a2 λn4 n5 n6=>
Ak 0 [Ad n4 n5 n6,.bool false])<|
Au 1 (
AC<|
.hold True (ld T.a28 a0) sP (u1 λp7=>
B2 T.a28 a0 λp8=>
AY p8 λa10=>
AI T.a38 a10 4 λl11=>
AA F.a151 [Aa (An l11),.func (Fn.func 311) #[] #[Ar a0,Ar a1]] λn12=>
AG<|
.call F.a49 [Ah p7,Aa (Aw (n12-1))] (.tup [.agg [.int .i64,.int .i64,.int .i64],.one .bool]) (u4 λ(n13 n14 n15:Int) b16=>
Ac T.a10 a2 (Ad n13 n14 n15)<|
Ax b16 λb17=>
AG<|
Ak 1 [.bool b17]))) λb18=>
Ag T.a10 a2 λn19 n20 n21=>
Ak 0 [Ad n19 n20 n21,.bool b18]
theorem zul (x:Option Addr) (offset:Int):FnS (z08m x offset) F.a46 #[.pointer x,.int .i64 offset]:=dV ⟨[],[],[(3,[(5,.one .bool)])],[]⟩ Go.Proofs.Tryz.func262 (by kernel_rfl)
def z02c (base:Int) (end_:Int):Prog :=
AO (Instr.buildSlice T.a45 1 #[(0,.int .u8 83)]) λl0=>
AT F.a182 [.int .u64 (IntKind.wrap .u64 base)] λl1=>
AT F.a182 [.int .u64 (IntKind.wrap .u64 end_)] λl2=>
AO (Instr.buildSlice T.a43 3 #[(0,l0.v),(1,l1.v),(2,l2.v)]) λl3=>
AT F.a42 [l3.v] λl4=>
Ak 0 [l4.v]
theorem zot (base end_:Int):FnS (z02c base end_) F.a130 #[.int .i64 base,.int .i64 end_]:=dV ⟨[],[],[],[]⟩ Go.Proofs.Tryz.func263 (by kernel_rfl)
def z01m (b_0 b_1 b_2 b_3 b_4 b_5:Int) (b_6:Sl) (from_:Int) (to_:Int):Prog :=
Ai T.a0 (Ba b_0 b_1 b_2 b_3 b_4 b_5 b_6) λa0=>
Ab T.a0 λa1=>
Bb T.a0 a0 λn2 n3 n4 n5 n6 n7 l8=>
Ab T.a0 λa9=>
Ac T.a0 a9 (Ba n2 n3 n4 n5 n6 n7 l8)<|
AI T.a37 a0 6 λl10=>
.must (0<=from_/\from_<=to_/\to_<=((l10.cap:Nat):Int)) <|
AO (app T.a37 T.a37 T.a37 (.slice none 0 0) (.slice (z0w l10.a 4 (Int.toNat from_) l10.cap) (Int.toNat to_-Int.toNat from_) (l10.cap-Int.toNat from_))) λl11=>
AH T.a37 a9 6 l11.v<|
AP T.a14 a9 0 λn12=>
AH T.a14 a9 0 (Aa (Aw (n12+from_)))<|
AP T.a14 a9 1 λn13=>
Al 1 (
Aj (decide (n13>0)) (
AP T.a13 a9 3 λn14=>
AH T.a13 a9 3 (Aa (Aw (n14+from_)))<|
Ak 1 [])<|
Ak 1 [])<|
Bb T.a0 a9 λn15 n16 n17 n18 n19 n20 l21=>
Ac T.a0 a1 (Ba n15 n16 n17 n18 n19 n20 l21)<|
Bb T.a0 a1 λn22 n23 n24 n25 n26 n27 l28=>
Ak 0 [Ba n22 n23 n24 n25 n26 n27 l28]
theorem zo3 (b_0 b_1 b_2 b_3 b_4 b_5:Int) (b_6:Sl) (from_ to_:Int):FnS (z01m b_0 b_1 b_2 b_3 b_4 b_5 b_6 from_ to_) F.a104 #[.agg #[.int .i64 b_0,.int .i64 b_1,.int .i64 b_2,.int .i64 b_3,.int .i64 b_4,.int .i64 b_5,.slice b_6.a b_6.len b_6.cap],.int .i64 from_,.int .i64 to_]:=dV ⟨[(2130303778839,[])],[],[],[]⟩ Go.Proofs.Tryz.func264 (by kernel_rfl)
def z01l (b_0 b_1 b_2 b_3 b_4 b_5:Int) (b_6:Sl):Prog :=
Ai T.a0 (Ba b_0 b_1 b_2 b_3 b_4 b_5 b_6) λa0=>
Au 1 (
AP T.a13 a0 4 λn1=>
Ao (decide (n1>=0)=true) T.a13 a0 4 λn2=>
Ao ((decide (n1>=0) && decide (n2<=3))=true) T.a14 a0 0 λn3=>
Aj (decide (n1>=0) && decide (n2<=3)) (
Av F.a108 [Aa n3,Aa 0,Aa 1099511627776] λb4=>
Ao (b4=true) T.a14 a0 1 λn5=>
Aj b4 (
Av F.a108 [Aa n5,Aa 0,Aa 1048576] λb6=>
Ao (b6=true) T.a13 a0 2 λn7=>
Ao ((b6 && decide (n7>=0))=true) T.a13 a0 2 λn8=>
Ao ((b6 && decide (n7>=0) && decide (n8<=32767))=true) T.a13 a0 3 λn9=>
Ao ((b6 && decide (n7>=0) && decide (n8<=32767) && decide (n9>=0))=true) T.a13 a0 3 λn10=>
Ao ((b6 && decide (n7>=0) && decide (n8<=32767) && decide (n9>=0) && decide (n10<=2147483647))=true) T.a14 a0 5 λn11=>
Aj (b6 && decide (n7>=0) && decide (n8<=32767) && decide (n9>=0) && decide (n10<=2147483647)) (
Av F.a108 [Aa n11,Aa 0,Aa 1099511627776] λb12=>
Ax b12 λb13=>
Ak 1 [.bool b13])<|
Ak 1 [.bool false])<|
Ak 1 [.bool false])<|
Ak 1 [.bool false]) λb14=>
Ak 0 [.bool b14]
theorem zo2 (b_0 b_1 b_2 b_3 b_4 b_5:Int) (b_6:Sl):FnS (z01l b_0 b_1 b_2 b_3 b_4 b_5 b_6) F.a103 #[.agg #[.int .i64 b_0,.int .i64 b_1,.int .i64 b_2,.int .i64 b_3,.int .i64 b_4,.int .i64 b_5,.slice b_6.a b_6.len b_6.cap]]:=dV ⟨[],[],[(1,[(2,.one .bool)])],[]⟩ Go.Proofs.Tryz.func269 (by kernel_rfl)
def z01j (b_0 b_1 b_2 b_3 b_4 b_5:Int) (b_6:Sl):Prog :=
Ai T.a0 (Ba b_0 b_1 b_2 b_3 b_4 b_5 b_6) λa0=>
AP T.a14 a0 1 λn1=>
Ao ((n1 == 0)=true) T.a13 a0 4 λn2=>
Ao ((n1 == 0)=true/\(n2 != 0)=false) T.a13 a0 2 λn3=>
Ao ((n1 == 0)=true/\(n2 != 0 || n3 != 0)=false) T.a13 a0 3 λn4=>
Aj (n1 == 0 && (n2 != 0 || n3 != 0 || n4 != 0)) (
Ak 0 [.bool false])<|
Bb T.a0 a0 λn5 n6 n7 n8 n9 n10 l11=>
Av F.a102 [Ba n5 n6 n7 n8 n9 n10 l11] λb12=>
Aj b12 (
AP T.a13 a0 3 λn13=>
B1 ((n13 == 0)=true) T.a37 a0 6 λl14=>
Ax (n13 == 0 && (An l14) == 0) λb15=>
Ak 0 [.bool b15])<|
AI T.a37 a0 6 λl16=>
Ax (decide ((An l16)>0)) λb17=>
Ak 0 [.bool b17]
theorem zo0 (b_0 b_1 b_2 b_3 b_4 b_5:Int) (b_6:Sl):FnS (z01j b_0 b_1 b_2 b_3 b_4 b_5 b_6) F.a101 #[.agg #[.int .i64 b_0,.int .i64 b_1,.int .i64 b_2,.int .i64 b_3,.int .i64 b_4,.int .i64 b_5,.slice b_6.a b_6.len b_6.cap]]:=dV ⟨[],[],[],[]⟩ Go.Proofs.Tryz.func270 (by kernel_rfl)
def z01o (r_0 r_1:ByteArray) (r_2:Bool) (r_3:Int):Prog :=
Ai T.a2 (AM r_0 r_1 r_2 r_3) λa0=>
AD T.a49 a0 0 λs1=>
AW (decide (((ByteArray.size s1:Nat):Int)>1024)=false) T.a49 a0 1 λs2=>
AS (decide (((ByteArray.size s1:Nat):Int)>1024) || decide (((ByteArray.size s2:Nat):Int)>1024)) (
Ak 0 [Aa 7])<|
AP T.a14 a0 3 λn4=>
Av F.a108 [Aa n4,Aa 0,Aa 1099511627776] λb5=>
AX (not b5=false) T.a3 a0 2 λb6=>
AW (not b5=false/\b6=true) T.a49 a0 1 λs7=>
AS (not b5 || b6 && not (ByteArray.toList s7 == ByteArray.toList (ByteArray.mk #[]))) (
Ak 0 [Aa 2])<|
Ak 0 [Aa 0]
theorem zo5 (r_0 r_1:ByteArray) (r_2:Bool) (r_3:Int):FnS (z01o r_0 r_1 r_2 r_3) F.a106 #[.agg #[.string r_0,.string r_1,.bool r_2,.int .i64 r_3]]:=dV ⟨[],[],[],[]⟩ Go.Proofs.Tryz.func271 (by kernel_rfl)
def z025 (l:Option Addr) (bs:Sl):Prog :=
AA F.a112 [Ah l] λn0=>
Af n0 λn1=>
.bind 1 [.one .slc,.one .slc] (
.loop 2 [.one (.int .i64),.one .slc,.one .slc,.one (.int .i64)] (n1,(⟨none,0,0⟩,(⟨none,0,0⟩,(0,())))) (u4 λ(n2:Int) l3 l4 (n5:Int)=>
Aj (decide (n5<(An bs))) (
.ex [.adr] (c1 λa6=>0<=n5/\n5<(An bs)/\bs.a=some a6) (u1 λa7=>
Be T.a0 a7 (Int.toNat n5*7) λn8 n9 n10 n11 n12 n13 l14=>
Ab T.a0 λa15=>
Ac T.a0 a15 (Ba n8 n9 n10 n11 n12 n13 l14)<|
AH T.a14 a15 0 (Aa n2)<|
Bb T.a0 a15 λn16 n17 n18 n19 n20 n21 l22=>
Bi F.a94 [Ba n16 n17 n18 n19 n20 n21 l22] λl23 n24=>
Af n24 λn25=>
Aj (n25 != 0) (
Af n25 λn26=>
Ak 0 [.slice none 0 0,.slice none 0 0,Aa n26])<|
Bb T.a0 a15 λn27 n28 n29 n30 n31 n32 l33=>
AO (Instr.buildSlice T.a36 1 #[(0,Ba n27 n28 n29 n30 n31 n32 l33)]) λl34=>
AO (app T.a36 T.a36 T.a36 l3.v l34.v) λl35=>
AO (Instr.buildSlice T.a43 1 #[(0,l23.v)]) λl36=>
AT F.a42 [l36.v] λl37=>
AO (Instr.buildSlice T.a43 1 #[(0,l37.v)]) λl38=>
AO (app T.a43 T.a43 T.a43 l4.v l38.v) λl39=>
Bb T.a0 a15 λn40 n41 n42 n43 n44 n45 l46=>
AA F.a97 [Ba n40 n41 n42 n43 n44 n45 l46] λn47=>
Af n47 λn48=>
Ak 2 [Aa n48,l35.v,l39.v,Aa (Aw (n5+1))]))<|
Ak 1 [l3.v,l4.v])) (u2 λl49 l50=>
Ak 0 [l49.v,l50.v,Aa 0])
theorem zom (l:Option Addr) (bs:Sl):FnS (z025 l bs) F.a123 #[.pointer l,.slice bs.a bs.len bs.cap]:=dV ⟨[],[(0,[(8,.one .slc),(9,.one .slc)])],[],[(0,[(7,.one (.int .i64)),(8,.one .slc),(9,.one .slc),(18,.one (.int .i64))])]⟩ Go.Proofs.Tryz.func274 (by kernel_rfl)
def z022 (l:Option Addr) (n:Int):Prog :=
Az F.a121 [Ah l] λp0=>
AC<|
Bk (not (Option.isNone p0)=true) p0 λa2=>
Ao (not (Option.isNone p0)=true) T.a14 a2 3 λn3=>
Bk (not (Option.isNone p0)=true/\(n3 == 0)=false) p0 λa5=>
Ao (not (Option.isNone p0)=true/\(n3 == 0)=false) T.a13 a5 5 λn6=>
Bk (not (Option.isNone p0)=true/\(n3 == 0)=false) l λa8=>
Ao (not (Option.isNone p0)=true/\(n3 == 0)=false) T.a13 (Addr.add a8 2) 0 λn9=>
Ax (not (Option.isNone p0) && (n3 == 0 || decide (Aw (n6+n)<=n9))) λb10=>
AG<|
Ak 0 [.bool b10]
theorem zoj (l:Option Addr) (n:Int):FnS (z022 l n) F.a120 #[.pointer l,.int .i64 n]:=dV ⟨[],[],[],[]⟩ Go.Proofs.Tryz.func275 (by kernel_rfl)
def z08i (parts:Sl):Prog :=
Ay 1 (
Bd 2 (0,(0,())) λn0 n1=>
Aj (decide (n1<(An parts))) (
.ex [.adr] (c1 λa2=>0<=n1/\n1<(An parts)/\parts.a=some a2) (u1 λa3=>
AI T.a45 a3 (Int.toNat n1*1) λl4=>
Af (Aw (n0+(An l4))) λn5=>
Aj (decide (n5>262144)) (
Ak 0 [.slice none 0 0])<|
Ak 2 [Aa n5,Aa (Aw (n1+1))]))<|
Ak 1 [Aa n0]) λn6=>
AO (Instr.makeSlice T.a45 (Aa 0) (Aa (Aw (n6+8)))) λl7=>
AT F.a44 [.int .u32 (IntKind.wrap .u32 n6)] λl8=>
AO (app T.a45 T.a45 T.a45 l7.v l8.v) λl9=>
AJ 1 (
AK 2 ({ a:=l9.a,len:=l9.len,cap:=l9.cap },(0,())) λl10 n11=>
Aj (decide (n11<(An parts))) (
.ex [.adr] (c1 λa12=>0<=n11/\n11<(An parts)/\parts.a=some a12) (u1 λa13=>
AI T.a45 a13 (Int.toNat n11*1) λl14=>
AO (app T.a45 T.a45 T.a45 l10.v l14.v) λl15=>
Ak 2 [l15.v,Aa (Aw (n11+1))]))<|
Ak 1 [l10.v]) λl16=>
AO (Instr.buildSlice T.a43 1 #[(0,l16.v)]) λl17=>
BR F.a43 [l17.v] λn18=>
AT F.a44 [.int .u32 n18] λl19=>
AO (app T.a45 T.a45 T.a45 l16.v l19.v) λl20=>
Ak 0 [l20.v]
theorem zuh (parts:Sl):FnS (z08i parts) F.a42 #[.slice parts.a parts.len parts.cap]:=dV ⟨[],[(0,[(3,.one (.int .i64))]),(2,[(6,.one .slc)])],[],[(0,[(3,.one (.int .i64)),(11,.one (.int .i64))]),(2,[(6,.one .slc),(32,.one (.int .i64))])]⟩ Go.Proofs.Tryz.func278 (by kernel_rfl)
def z03g (s:ByteArray):Prog :=
AT F.a182 [.int .u64 (IntKind.wrap .u64 (((ByteArray.size s:Nat):Int)))] λl0=>
AO (app T.a45 T.a49 T.a45 l0.v (.string s)) λl1=>
Ak 0 [l1.v]
theorem zpx (s:ByteArray):FnS (z03g s) F.a181 #[.string s]:=dV ⟨[],[],[],[]⟩ Go.Proofs.Tryz.func279 (by kernel_rfl)
def z09q (b_0 b_1 b_2 b_3 b_4 b_5:Int) (b_6:Sl):Prog :=
Ai T.a0 (Ba b_0 b_1 b_2 b_3 b_4 b_5 b_6) λa0=>
Bb T.a0 a0 λn1 n2 n3 n4 n5 n6 l7=>
AA F.a99 [Ba n1 n2 n3 n4 n5 n6 l7] λn8=>
Af n8 λn9=>
Aj (n9 != 0) (
Af n9 λn10=>
Ak 0 [.slice none 0 0,Aa n10])<|
AJ 1 (
AC<|
AR T.a13 a0 4 λn11=>
AR T.a14 a0 0 λn12=>
AR T.a14 a0 1 λn13=>
.both (
AO (Instr.buildSlice T.a45 2 #[(0,.int .u8 1),(1,.int .u8 (IntKind.wrap .u8 n11))]) λl14=>
AT F.a182 [.int .u64 (IntKind.wrap .u64 n12)] λl15=>
AT F.a182 [.int .u64 (IntKind.wrap .u64 n13)] λl16=>
AG<|
AO (Instr.buildSlice T.a43 3 #[(0,l14.v),(1,l15.v),(2,l16.v)]) λl17=>
AT F.a170 [l17.v] λl18=>
AG<|
Ak 1 [l18.v]) <|
AT F.a182 [.int .u64 (IntKind.wrap .u64 n12)] λl19=>
.both (
AO (Instr.buildSlice T.a45 2 #[(0,.int .u8 1),(1,.int .u8 (IntKind.wrap .u8 n11))]) λl20=>
AT F.a182 [.int .u64 (IntKind.wrap .u64 n13)] λl21=>
AG<|
AO (Instr.buildSlice T.a43 3 #[(0,l20.v),(1,l19.v),(2,l21.v)]) λl22=>
AT F.a170 [l22.v] λl23=>
AG<|
Ak 1 [l23.v]) <|
AT F.a182 [.int .u64 (IntKind.wrap .u64 n13)] λl24=>
AO (Instr.buildSlice T.a45 2 #[(0,.int .u8 1),(1,.int .u8 (IntKind.wrap .u8 n11))]) λl25=>
AG<|
AO (Instr.buildSlice T.a43 3 #[(0,l25.v),(1,l19.v),(2,l24.v)]) λl26=>
AT F.a170 [l26.v] λl27=>
AG<|
Ak 1 [l27.v]) λl28=>
AP T.a14 a0 1 λn29=>
AJ 1 (
Aj (decide (n29>0)) (
AP T.a13 a0 2 λn30=>
AT F.a182 [.int .u64 (IntKind.wrap .u64 n30)] λl31=>
AO (app T.a45 T.a45 T.a45 l28.v l31.v) λl32=>
Bb T.a0 a0 λn33 n34 n35 n36 n37 n38 l39=>
Av F.a102 [Ba n33 n34 n35 n36 n37 n38 l39] λb40=>
AJ 2 (
Aj (not b40) (
AP T.a13 a0 3 λn41=>
AT F.a182 [.int .u64 (IntKind.wrap .u64 n41)] λl42=>
AO (app T.a45 T.a45 T.a45 l32.v l42.v) λl43=>
Ak 2 [l43.v])<|
Ak 2 [l32.v]) λl44=>
Ak 1 [l44.v])<|
Ak 1 [l28.v]) λl45=>
AP T.a14 a0 5 λn46=>
AT F.a182 [.int .u64 (IntKind.wrap .u64 n46)] λl47=>
AO (app T.a45 T.a45 T.a45 l45.v l47.v) λl48=>
Bb T.a0 a0 λn49 n50 n51 n52 n53 n54 l55=>
Av F.a102 [Ba n49 n50 n51 n52 n53 n54 l55] λb56=>
Aj b56 (
Ak 0 [l48.v,Aa 0])<|
AI T.a37 a0 6 λl57=>
AT F.a182 [.int .u64 (IntKind.wrap .u64 (An l57))] λl58=>
AO (app T.a45 T.a45 T.a45 l48.v l58.v) λl59=>
AI T.a37 a0 6 λl60=>
AJ 1 (
.loop 2 [.one .slc,.one .str,.one (.int .i64)] ({ a:=l59.a,len:=l59.len,cap:=l59.cap },((ByteArray.mk #[]),(0,()))) (u3 λl61 s62 (n63:Int)=>
Aj (decide (n63<(An l60))) (
.ex [.adr] (c1 λa64=>0<=n63/\n63<(An l60)/\l60.a=some a64) (u1 λa65=>
AL T.a2 a65 (Int.toNat n63*4) λs66 s67 b68 n69=>
Ab T.a2 λa70=>
Ac T.a2 a70 (AM s66 s67 b68 n69)<|
AD T.a49 a70 0 λs71=>
AA F.a100 [.string s62,.string s71] λn72=>
Af n72 λn73=>
AJ 3 (
AC<|
AP T.a14 a70 3 λn74=>
AP T.a14 a0 5 λn75=>
.hold True (ld T.a3 (Addr.add a70 2)) sB (u1 λb76=>
AE T.a49 a70 0 λs77=>
.must (0<=n73/\n73<=((ByteArray.size s77:Nat):Int)) <|
AT F.a169 [Aa (Aw (n74-n75))] λl78=>
AT F.a168 [.bool b76] λl79=>
AT F.a182 [.int .u64 (IntKind.wrap .u64 n73)] λl80=>
AG<|
AT F.a181 [.string (ByteArray.extract s77 (Int.toNat n73) (ByteArray.size s77))] λl81=>
AO (Instr.buildSlice T.a43 4 #[(0,l78.v),(1,l79.v),(2,l80.v),(3,l81.v)]) λl82=>
AT F.a170 [l82.v] λl83=>
AO (app T.a45 T.a45 T.a45 l61.v l83.v) λl84=>
AG<|
Ak 3 [l84.v])) λl85=>
Bp T.a3 a70 2 λb86=>
AJ 3 (
Aj (not b86) (
AD T.a49 a70 1 λs87=>
AT F.a181 [.string s87] λl88=>
AO (app T.a45 T.a45 T.a45 l85.v l88.v) λl89=>
Ak 3 [l89.v])<|
Ak 3 [l85.v]) λl90=>
AD T.a49 a70 0 λs91=>
AU s91 λs92=>
Ak 2 [l90.v,.string s92,Aa (Aw (n63+1))]))<|
Ak 1 [l61.v])) λl93=>
Ak 0 [l93.v,Aa 0]
theorem zvq (b_0 b_1 b_2 b_3 b_4 b_5:Int) (b_6:Sl):FnS (z09q b_0 b_1 b_2 b_3 b_4 b_5 b_6) F.a94 #[.agg #[.int .i64 b_0,.int .i64 b_1,.int .i64 b_2,.int .i64 b_3,.int .i64 b_4,.int .i64 b_5,.slice b_6.a b_6.len b_6.cap]]:=dV ⟨[(567453553048813608,[(5,.one .slc)]),(576443160117510175,[(5,.one .slc)]),(40240300653644914121111346551586913,[(5,.one .slc)])],[(0,[(5,.one .slc)])],[(4,[(5,.one .slc)]),(18,[(5,.one .slc)])],[(0,[(5,.one .slc),(6,.one .str),(66,.one (.int .i64))])]⟩ Go.Proofs.Tryz.func280 (by kernel_rfl)
def z08l (b:Sl):Prog :=
AC<|
.ex [.adr] (c1 λa0=>(0:Int)<=0/\0<(An b)/\b.a=some a0) (u1 λa1=>
BK T.a52 a1 0 λn2=>
.ex [.adr] (c1 λa3=>(0:Int)<=1/\1<(An b)/\b.a=some a3) (u1 λa4=>
BK T.a52 a4 1 λn5=>
.ex [.adr] (c1 λa6=>(0:Int)<=2/\2<(An b)/\b.a=some a6) (u1 λa7=>
BK T.a52 a7 2 λn8=>
.ex [.adr] (c1 λa9=>(0:Int)<=3/\3<(An b)/\b.a=some a9) (u1 λa10=>
BK T.a52 a10 3 λn11=>
BS (IntKind.wrap .u32 (((BitVec.toNat (BitVec.ofInt 32 (IntKind.wrap .u32 (((BitVec.toNat (BitVec.ofInt 32 (IntKind.wrap .u32 (((BitVec.toNat (BitVec.ofInt 32 (IntKind.wrap .u32 n2) ||| BitVec.ofInt 32 (IntKind.wrap .u32 (IntKind.wrap .u32 n5*256))):Nat):Int))) ||| BitVec.ofInt 32 (IntKind.wrap .u32 (IntKind.wrap .u32 n8*65536))):Nat):Int))) ||| BitVec.ofInt 32 (IntKind.wrap .u32 (IntKind.wrap .u32 n11*16777216))):Nat):Int))) λn12=>
AG<|
Ak 0 [.int .u32 n12]))))
theorem zuk (b:Sl):FnS (z08l b) F.a45 #[.slice b.a b.len b.cap]:=dV ⟨[],[],[],[]⟩ Go.Proofs.Tryz.func295 (by kernel_rfl)
def z08j (parts:Sl):Prog :=
BR F.a40 [.int .u32 0,parts.v] λn0=>
BS n0 λn1=>
Ak 0 [.int .u32 n1]
theorem zui (parts:Sl):FnS (z08j parts) F.a43 #[.slice parts.a parts.len parts.cap]:=dV ⟨[],[],[],[]⟩ Go.Proofs.Tryz.func296 (by kernel_rfl)
def z037 (r:Option Addr):Prog :=
Av F.a180 [Ah r] λb0=>
Aj (not b0) (
Ak 0 [Aa 0])<|
AY r λa2=>
AA F.a184 [BG a2 0] λn3=>
Aj (n3 == 0) (
AY r λa5=>
Bh F.a183 [BG a5 0,Aa 6]<|
Ak 0 [Aa 0])<|
AY r λa7=>
AT F.a185 [BG a7 0,Aa 1] λl8=>
.ex [.adr] (c1 λa9=>(0:Int)<=0/\0<(An l8)/\l8.a=some a9) (u1 λa10=>
BK T.a52 a10 0 λn11=>
Af (Aw n11) λn12=>
Ak 0 [Aa n12])
theorem zpo (r:Option Addr):FnS (z037 r) F.a172 #[.pointer r]:=dV ⟨[],[],[],[]⟩ Go.Proofs.Tryz.func297 (by kernel_rfl)
def z08q (gap:Int):Prog :=
Aj (decide (gap<1) || decide (gap>4194304)) (
Ak 0 [Ah none,Aa 2])<|
Ai T.a11 (.agg #[Aa (-1),Aa (-1),Aa (-1),Aa gap,.slice none 0 0]) λa0=>
Ak 0 [Ar a0,Aa 0]
theorem zup (gap:Int):FnS (z08q gap) F.a50 #[.int .i64 gap]:=dV ⟨[],[],[],[]⟩ Go.Proofs.Tryz.func298 (by kernel_rfl)
def z01p (r:Option Addr) (most:Int):Prog :=
Bs F.a178 [Ah r] λn0=>
Bt n0 λn1=>
Aj (decide (n1>IntKind.wrap .u64 most)) (
Af (Aw (most+1)) λn2=>
Ak 0 [Aa n2])<|
Af (Aw n1) λn3=>
Ak 0 [Aa n3]
theorem zo6 (r:Option Addr) (most:Int):FnS (z01p r most) F.a107 #[.pointer r,.int .i64 most]:=dV ⟨[],[],[],[]⟩ Go.Proofs.Tryz.func299 (by kernel_rfl)
def z01n (r:Option Addr) (time:Int) (ahead:ByteArray):Prog :=
Ab T.a2 λa0=>
AA F.a179 [Ah r,Aa (-1099511627776),Aa 1099511627776] λn1=>
Af n1 λn2=>
Av F.a175 [Ah r] λb3=>
Ab T.a2 λa4=>
Ac T.a2 a4 (.agg #[.string (ByteArray.mk #[]),.string (ByteArray.mk #[]),.bool b3,Aa (Aw (time+n2))])<|
AA F.a107 [Ah r,Aa 1024] λn5=>
Af n5 λn6=>
AF F.a177 [Ah r,Aa 1024] λs7=>
AU s7 λs8=>
Aj (decide (n6>((ByteArray.size ahead:Nat):Int))) (
AN T.a2 a4 λs9 s10 b11 n12=>
Ac T.a2 a0 (AM s9 s10 b11 n12)<|
AN T.a2 a0 λs13 s14 b15 n16=>
Ak 0 [AM s13 s14 b15 n16,.bool false])<|
.must (0<=n6/\n6<=((ByteArray.size ahead:Nat):Int)) <|
.must (((ByteArray.size (ByteArray.extract ahead 0 (Int.toNat n6))+ByteArray.size s8:Nat):Int)<=9223372036854775807) <|
AH T.a49 a4 0 (.string (ByteArray.extract ahead 0 (Int.toNat n6)++s8))<|
Bp T.a3 a4 2 λb17=>
Al 1 (
Aj (not b17) (
AF F.a177 [Ah r,Aa 1024] λs18=>
AH T.a49 a4 1 (.string s18)<|
Ak 1 [])<|
Ak 1 [])<|
Au 1 (
AC<|
.hold True (ld T.a2 a4) (sG [.str,.str,.bool,.int .i64]) (u4 λs19 s20 b21 (n22:Int)=>
AA F.a174 [Ah r] λn23=>
AW ((n23 == 0)=true) T.a49 a4 0 λs24=>
Aj (n23 == 0) (
AA F.a100 [.string ahead,.string s24] λn25=>
AG<|
Ac T.a2 a0 (AM s19 s20 b21 n22)<|
Ax (n25 == n6) λb26=>
AG<|
Ak 1 [.bool b26])<|
AG<|
Ac T.a2 a0 (AM s19 s20 b21 n22)<|
AG<|
Ak 1 [.bool false])) λb27=>
AN T.a2 a0 λs28 s29 b30 n31=>
Ak 0 [AM s28 s29 b30 n31,.bool b27]
theorem zo4 (r:Option Addr) (time:Int) (ahead:ByteArray):FnS (z01n r time ahead) F.a105 #[.pointer r,.int .i64 time,.string ahead]:=dV ⟨[(7881299347898405,[])],[],[(10,[(7,.one .bool)])],[]⟩ Go.Proofs.Tryz.func300 (by kernel_rfl)
def z02e (b_0 b_1 b_2 b_3 b_4 b_5:Int) (b_6:Sl):Prog :=
Ai T.a0 (Ba b_0 b_1 b_2 b_3 b_4 b_5 b_6) λa0=>
AI T.a37 a0 6 λl1=>
Ay 1 (
Bd 2 (-1,(0,())) λn2 n3=>
Aj (decide (n3<(An l1))) (
.ex [.adr] (c1 λa4=>0<=n3/\n3<(An l1)/\l1.a=some a4) (u1 λa5=>
AL T.a2 a5 (Int.toNat n3*4) λs6 s7 b8 n9=>
Ab T.a2 λa10=>
Ac T.a2 a10 (AM s6 s7 b8 n9)<|
AP T.a14 a10 3 λn11=>
Af (if n11>n2 then n11 else n2) λn12=>
Ak 2 [Aa n12,Aa (Aw (n3+1))]))<|
Ak 1 [Aa n2]) λn13=>
AI T.a37 a0 6 λl14=>
Ay 1 (
Aj ((An l14) == 0) (
AP T.a14 a0 5 λn15=>
Af n15 λn16=>
Ak 1 [Aa n16])<|
Ak 1 [Aa n13]) λn17=>
Af n17 λn18=>
Ak 0 [Aa n18]
theorem zov (b_0 b_1 b_2 b_3 b_4 b_5:Int) (b_6:Sl):FnS (z02e b_0 b_1 b_2 b_3 b_4 b_5 b_6) F.a132 #[.agg #[.int .i64 b_0,.int .i64 b_1,.int .i64 b_2,.int .i64 b_3,.int .i64 b_4,.int .i64 b_5,.slice b_6.a b_6.len b_6.cap]]:=dV ⟨[(51539640341,[(3,.one (.int .i64))])],[(0,[(3,.one (.int .i64))])],[],[(0,[(3,.one (.int .i64)),(9,.one (.int .i64))])]⟩ Go.Proofs.Tryz.func301 (by kernel_rfl)
def z08o (x:Option Addr) (offset place:Int) (time:Int):Prog :=
AS (Option.isNone x) (
Ak 0 [Aa 1])<|
Av F.a51 [Aa offset,Aa place,Aa time] λb1=>
AS (not b1) (
Ak 0 [Aa 2])<|
AY x λa4=>
AP T.a14 (Addr.add a4 0) 0 λn5=>
Bk (decide (offset<=n5)=false) x λa7=>
Ao (decide (offset<=n5)=false) T.a13 (Addr.add a7 0) 1 λn8=>
AS (decide (offset<=n5) || decide (place<=n8)) (
Ak 0 [Aa 21])<|
AY x λa11=>
AI T.a38 a11 4 λl12=>
Af (An l12) λn13=>
AC<|
Bk ((n13 == 0)=false) x λa15=>
B1 ((n13 == 0)=false) T.a38 a15 4 λl16=>
.ex [.adr] (c1 λa17=>(n13 == 0)=false->0<=Aw (n13-1)/\Aw (n13-1)<(An l16)/\l16.a=some a17) (u1 λa18=>
Ao ((n13 == 0)=false) T.a13 (Addr.add a18 (Int.toNat (Aw (n13-1))*3)) 1 λn19=>
Bk ((n13 == 0)=false) x λa21=>
Ao ((n13 == 0)=false) T.a13 a21 3 λn22=>
AG<|
Al 1 (
Aj (n13 == 0 || decide (Aw (place-n19)>=n22)) (
AJ 2 (
AC<|
AY x λa24=>
Br T.a38 a24 4 λl25=>
AY x λa27=>
AP T.a14 (Addr.add a27 0) 2 λn28=>
AO (Instr.buildSlice T.a38 1 #[(0,Ad offset place n28)]) λl29=>
AG<|
AO (app T.a38 T.a38 T.a38 l25.v l29.v) λl30=>
AG<|
Ak 2 [l30.v]) λl31=>
AY x λa33=>
AH T.a38 a33 4 l31.v<|
Ak 1 [])<|
Ak 1 [])<|
AY x λa35=>
AP T.a14 (Addr.add a35 0) 2 λn36=>
AY x λa38=>
AH T.a12 a38 0 (.agg #[Aa offset,Aa place,Aa (if time>n36 then time else n36)])<|
Ak 0 [Aa 0])
theorem zun (x:Option Addr) (offset place time:Int):FnS (z08o x offset place time) F.a48 #[.pointer x,.int .i64 offset,.int .i64 place,.int .i64 time]:=dV ⟨[(4951741267675589621019836477,[])],[],[(9,[(10,.one .slc)])],[]⟩ Go.Proofs.Tryz.func302 (by kernel_rfl)
def z03b (r:Option Addr):Prog :=
Bs F.a178 [Ah r] λn0=>
Bt n0 λn1=>
Af (Aw (((BitVec.toNat (BitVec.ofInt 64 (Aw (Int.fdiv n1 2)) ^^^ BitVec.ofInt 64 (Aw (0-Aw (IntKind.wrap .u64 (((BitVec.toNat (BitVec.ofInt 64 n1 &&& BitVec.ofInt 64 1):Nat):Int)))))):Nat):Int))) λn2=>
Ak 0 [Aa n2]
theorem zps (r:Option Addr):FnS (z03b r) F.a176 #[.pointer r]:=dV ⟨[],[],[],[]⟩ Go.Proofs.Tryz.func303 (by kernel_rfl)
def z08p (x:Option Addr) (i:Int):Prog :=
Ab T.a10 λa0=>
Aj (decide (i<0)) (
Ac T.a10 a0 (Ad 0 0 0)<|
Ag T.a10 a0 λn1 n2 n3=>
Ak 0 [Ad n1 n2 n3,.bool false])<|
AY x λa5=>
AI T.a38 a5 4 λl6=>
.ex [.adr] (c1 λa7=>0<=i/\i<(An l6)/\l6.a=some a7) (u1 λa8=>
.read True (ld T.a10 (Addr.add a8 (Int.toNat i*3))) (sG [.int .i64,.int .i64,.int .i64]) (u3 λ(n9 n10 n11:Int)=>
Ac T.a10 a0 (Ad n9 n10 n11)<|
Ag T.a10 a0 λn12 n13 n14=>
Ak 0 [Ad n12 n13 n14,.bool true]))
theorem zuo (x:Option Addr) (i:Int):FnS (z08p x i) F.a49 #[.pointer x,.int .i64 i]:=dV ⟨[],[],[],[]⟩ Go.Proofs.Tryz.func310 (by kernel_rfl)
def z08n (i:Int) (fv0:Option Addr) (fv1:Option Addr):Prog :=
AC<|
BB T.a28 fv0 λp0=>
AY p0 λa2=>
AI T.a38 a2 4 λl3=>
.ex [.adr] (c1 λa4=>0<=i/\i<(An l3)/\l3.a=some a4) (u1 λa5=>
AP T.a14 (Addr.add a5 (Int.toNat i*3)) 0 λn6=>
BQ T.a14 fv1 λn7=>
Ax (decide (n6>n7)) λb8=>
AG<|
Ak 0 [.bool b8])
theorem zum (i:Int) (fv0 fv1:Option Addr):FnS (z08n i fv0 fv1) F.a47 #[.int .i64 i,.pointer fv0,.pointer fv1]:=dV ⟨[],[],[],[]⟩ Go.Proofs.Tryz.func311 (by kernel_rfl)
def z01q (n lo:Int) (hi:Int):Prog :=
Ax (decide (n>=lo) && decide (n<=hi)) λb0=>
Ak 0 [.bool b0]
theorem zo7 (n lo hi:Int):FnS (z01q n lo hi) F.a108 #[.int .i64 n,.int .i64 lo,.int .i64 hi]:=dV ⟨[],[],[],[]⟩ Go.Proofs.Tryz.func314 (by kernel_rfl)
def z034 (n:Int):Prog :=
AT F.a182 [.int .u64 (IntKind.wrap .u64 (((BitVec.toNat (BitVec.ofInt 64 (IntKind.wrap .u64 (IntKind.wrap .u64 n*2)) ^^^ BitVec.ofInt 64 (IntKind.wrap .u64 (Int.fdiv n 9223372036854775808))):Nat):Int)))] λl0=>
Ak 0 [l0.v]
theorem zpl (n:Int):FnS (z034 n) F.a169 #[.int .i64 n]:=dV ⟨[],[],[],[]⟩ Go.Proofs.Tryz.func317 (by kernel_rfl)
def z08k (n:Int):Prog :=
AO (Instr.buildSlice T.a45 4 #[(0,.int .u8 (IntKind.wrap .u8 n)),(1,.int .u8 (IntKind.wrap .u8 (Int.fdiv n 256))),(2,.int .u8 (IntKind.wrap .u8 (Int.fdiv n 65536))),(3,.int .u8 (IntKind.wrap .u8 (Int.fdiv n 16777216)))]) λl0=>
Ak 0 [l0.v]
theorem zuj (n:Int):FnS (z08k n) F.a44 #[.int .u32 n]:=dV ⟨[],[],[],[]⟩ Go.Proofs.Tryz.func319 (by kernel_rfl)
def z01i (a:ByteArray) (b:ByteArray):Prog :=
Af (if ((ByteArray.size b:Nat):Int)<((ByteArray.size a:Nat):Int) then ((ByteArray.size b:Nat):Int) else ((ByteArray.size a:Nat):Int)) λn0=>
Al 1 (
Am 2 (0,()) λn1=>
Aj (decide (n1<n0)) (
Af n1 λn2=>
AC<|
.must (0<=n2/\n2<((ByteArray.size a:Nat):Int)) <|
.must (0<=n2/\n2<((ByteArray.size b:Nat):Int)) <|
AG<|
Aj (bt a n2 != bt b n2) (
Af n2 λn3=>
Ak 0 [Aa n3])<|
Ak 2 [Aa (Aw (n1+1))])<|
Ak 1 [])<|
Af n0 λn4=>
Ak 0 [Aa n4]
theorem znz (a b:ByteArray):FnS (z01i a b) F.a100 #[.string a,.string b]:=dV ⟨[],[(0,[])],[],[(0,[(13,.one (.int .i64))])]⟩ Go.Proofs.Tryz.func320 (by kernel_rfl)
def z08g (sum:Int) (parts:Sl):Prog :=
BS (IntKind.wrap .u32 (((BitVec.toNat (BitVec.ofInt 32 4294967295 ^^^ BitVec.ofInt 32 sum):Nat):Int))) λn0=>
BT 1 (
BU 2 (n0,(0,())) λn1 n2=>
Aj (decide (n2<(An parts))) (
BT 3 (
.ex [.adr] (c1 λa3=>0<=n2/\n2<(An parts)/\parts.a=some a3) (u1 λa4=>
AI T.a45 a4 (Int.toNat n2*1) λl5=>
BT 4 (
BU 5 (n1,(0,())) λn6 n7=>
Aj (decide (n7<(An l5))) (
BT 6 (
.ex [.adr] (c1 λa8=>0<=n7/\n7<(An l5)/\l5.a=some a8) (u1 λa9=>
BK T.a52 a9 (Int.toNat n7*1) λn10=>
BL n10 λn11=>
BS (IntKind.wrap .u32 (((BitVec.toNat (BitVec.ofInt 32 n6 ^^^ BitVec.ofInt 32 (IntKind.wrap .u32 n11)):Nat):Int))) λn12=>
BT 7 (
BU 8 (n12,(0,())) λn13 n14=>
Aj (decide (n14<8)) (
BS (IntKind.wrap .u32 (((BitVec.toNat (BitVec.ofInt 32 (Int.fdiv n13 2) ^^^ BitVec.ofInt 32 (IntKind.wrap .u32 (((BitVec.toNat (BitVec.ofInt 32 3988292384 &&& BitVec.ofInt 32 (IntKind.wrap .u32 (0-IntKind.wrap .u32 (((BitVec.toNat (BitVec.ofInt 32 n13 &&& BitVec.ofInt 32 1):Nat):Int))))):Nat):Int)))):Nat):Int))) λn15=>
Ak 8 [.int .u32 n15,Aa (Aw (n14+1))])<|
Ak 7 [.int .u32 n13]) λn16=>
Ak 6 [.int .u32 n16])) λn17=>
Ak 5 [.int .u32 n17,Aa (Aw (n7+1))])<|
Ak 4 [.int .u32 n6]) λn18=>
Ak 3 [.int .u32 n18])) λn19=>
Ak 2 [.int .u32 n19,Aa (Aw (n2+1))])<|
Ak 1 [.int .u32 n1]) λn20=>
BS (IntKind.wrap .u32 (((BitVec.toNat (BitVec.ofInt 32 4294967295 ^^^ BitVec.ofInt 32 n20):Nat):Int))) λn21=>
Ak 0 [.int .u32 n21]
theorem zuf (sum:Int) (parts:Sl):FnS (z08g sum parts) F.a40 #[.int .u32 sum,.slice parts.a parts.len parts.cap]:=dV ⟨[],[(0,[(5,.one (.int .u32))]),(1,[(5,.one (.int .u32))]),(2,[(5,.one (.int .u32))]),(3,[(5,.one (.int .u32))]),(4,[(5,.one (.int .u32))])],[],[(0,[(5,.one (.int .u32)),(14,.one (.int .i64))]),(2,[(5,.one (.int .u32)),(20,.one (.int .i64))]),(4,[(5,.one (.int .u32)),(28,.one (.int .i64))])]⟩ Go.Proofs.Tryz.func327 (by kernel_rfl)
def z08r (offset place:Int) (time:Int):Prog :=
Ax (decide (offset>=0) && decide (offset<=1099511627776) && decide (place>=0) && decide (place<=4194304) && decide (time>=0) && decide (time<=1099511627776)) λb0=>
Ak 0 [.bool b0]
theorem zuq (offset place time:Int):FnS (z08r offset place time) F.a51 #[.int .i64 offset,.int .i64 place,.int .i64 time]:=dV ⟨[],[],[],[]⟩ Go.Proofs.Tryz.func328 (by kernel_rfl)
instance:One P T.a14:=⟨by kernel_rfl,by kernel_rfl⟩
instance:One P T.a13:=⟨by kernel_rfl,by kernel_rfl⟩
instance:One P T.a3:=⟨by kernel_rfl,by kernel_rfl⟩
instance:One P T.a52:=⟨by kernel_rfl,by kernel_rfl⟩
instance:One P T.a49:=⟨by kernel_rfl,by kernel_rfl⟩
instance:Agg P T.a46 2:=⟨by kernel_rfl,by kernel_rfl⟩
instance:Agg P T.a33 3:=⟨by kernel_rfl,by kernel_rfl⟩
instance:One P T.a26:=⟨by kernel_rfl,by kernel_rfl⟩
instance:One P T.a1:=⟨by kernel_rfl,by kernel_rfl⟩
instance:One P T.a37:=⟨by kernel_rfl,by kernel_rfl⟩
instance:Agg P T.a51 1:=⟨by kernel_rfl,by kernel_rfl⟩
instance:Agg P T.a50 5:=⟨by kernel_rfl,by kernel_rfl⟩
instance:Agg P T.a2 4:=⟨by kernel_rfl,by kernel_rfl⟩
instance:One P T.a36:=⟨by kernel_rfl,by kernel_rfl⟩
instance:Agg P T.a0 7:=⟨by kernel_rfl,by kernel_rfl⟩
instance:One P T.a42:=⟨by kernel_rfl,by kernel_rfl⟩
instance:One P T.a44:=⟨by kernel_rfl,by kernel_rfl⟩
instance:One P T.a45:=⟨by kernel_rfl,by kernel_rfl⟩
instance:Agg P T.a35 5:=⟨by kernel_rfl,by kernel_rfl⟩
instance:One P T.a23:=⟨by kernel_rfl,by kernel_rfl⟩
instance:Agg P T.a8 5:=⟨by kernel_rfl,by kernel_rfl⟩
instance:One P T.a30:=⟨by kernel_rfl,by kernel_rfl⟩
instance:One P T.a24:=⟨by kernel_rfl,by kernel_rfl⟩
instance:Agg P T.a19 2:=⟨by kernel_rfl,by kernel_rfl⟩
instance:One P T.a39:=⟨by kernel_rfl,by kernel_rfl⟩
instance:One P T.a31:=⟨by kernel_rfl,by kernel_rfl⟩
instance:One P T.a25:=⟨by kernel_rfl,by kernel_rfl⟩
instance:One P T.a29:=⟨by kernel_rfl,by kernel_rfl⟩
instance:Agg P T.a34 6:=⟨by kernel_rfl,by kernel_rfl⟩
instance:Agg P T.a4 2:=⟨by kernel_rfl,by kernel_rfl⟩
instance:One P T.a43:=⟨by kernel_rfl,by kernel_rfl⟩
instance:Agg P T.a54 3:=⟨by kernel_rfl,by kernel_rfl⟩
instance:One P T.a41:=⟨by kernel_rfl,by kernel_rfl⟩
instance:Agg P T.a47 5:=⟨by kernel_rfl,by kernel_rfl⟩
instance:Agg P T.a9 2:=⟨by kernel_rfl,by kernel_rfl⟩
instance:One P T.a27:=⟨by kernel_rfl,by kernel_rfl⟩
instance:One P T.a28:=⟨by kernel_rfl,by kernel_rfl⟩
instance:Agg P T.a48 6:=⟨by kernel_rfl,by kernel_rfl⟩
instance:One P T.a32:=⟨by kernel_rfl,by kernel_rfl⟩
instance:One P T.a40:=⟨by kernel_rfl,by kernel_rfl⟩
instance:Agg P T.a17 2:=⟨by kernel_rfl,by kernel_rfl⟩
instance:Agg P T.a18 4:=⟨by kernel_rfl,by kernel_rfl⟩
instance:One P T.a21:=⟨by kernel_rfl,by kernel_rfl⟩
instance:One P T.a22:=⟨by kernel_rfl,by kernel_rfl⟩
instance:Agg P T.a16 3:=⟨by kernel_rfl,by kernel_rfl⟩
instance:Agg P T.a7 2:=⟨by kernel_rfl,by kernel_rfl⟩
instance:One P T.a20:=⟨by kernel_rfl,by kernel_rfl⟩
instance:Agg P T.a6 3:=⟨by kernel_rfl,by kernel_rfl⟩
instance:Agg P T.a5 7:=⟨by kernel_rfl,by kernel_rfl⟩
instance:Agg P T.a10 3:=⟨by kernel_rfl,by kernel_rfl⟩
instance:Agg P T.a15 4:=⟨by kernel_rfl,by kernel_rfl⟩
instance:Agg P T.a12 3:=⟨by kernel_rfl,by kernel_rfl⟩
instance:One P T.a38:=⟨by kernel_rfl,by kernel_rfl⟩
instance:Agg P T.a11 5:=⟨by kernel_rfl,by kernel_rfl⟩
instance:Zer P T.a14 (.int .i64 0):=⟨by kernel_rfl⟩
instance:Zer P T.a13 (.int .i64 0):=⟨by kernel_rfl⟩
instance:Zer P T.a3 (.bool false):=⟨by kernel_rfl⟩
instance:Zer P T.a52 (.int .u8 0):=⟨by kernel_rfl⟩
instance:Zer P T.a49 (.string ⟨#[]⟩):=⟨by kernel_rfl⟩
instance:Zer P T.a46 (.agg #[.int .i64 0,.int .i64 0]):=⟨by kernel_rfl⟩
instance:Zer P T.a33 (.agg #[.int .i64 0,.int .i64 0,.int .i64 0]):=⟨by kernel_rfl⟩
instance:Zer P T.a26 (.pointer none):=⟨by kernel_rfl⟩
instance:Zer P T.a1 (.int .i64 0):=⟨by kernel_rfl⟩
instance:Zer P T.a37 (.slice none 0 0):=⟨by kernel_rfl⟩
instance:Zer P T.a51 (.agg #[.slice none 0 0]):=⟨by kernel_rfl⟩
instance:Zer P T.a50 (.agg #[.int .i64 0,.string ⟨#[]⟩,.string ⟨#[]⟩,.int .i64 0,.slice none 0 0]):=⟨by kernel_rfl⟩
instance:Zer P T.a2 (.agg #[.string ⟨#[]⟩,.string ⟨#[]⟩,.bool false,.int .i64 0]):=⟨by kernel_rfl⟩
instance:Zer P T.a36 (.slice none 0 0):=⟨by kernel_rfl⟩
instance:Zer P T.a0 (.agg #[.int .i64 0,.int .i64 0,.int .i64 0,.int .i64 0,.int .i64 0,.int .i64 0,.slice none 0 0]):=⟨by kernel_rfl⟩
instance:Zer P T.a42 (.slice none 0 0):=⟨by kernel_rfl⟩
instance:Zer P T.a44 (.slice none 0 0):=⟨by kernel_rfl⟩
instance:Zer P T.a45 (.slice none 0 0):=⟨by kernel_rfl⟩
instance:Zer P T.a35 (.agg #[.int .i64 0,.string ⟨#[]⟩,.string ⟨#[]⟩,.bool false,.int .i64 0]):=⟨by kernel_rfl⟩
instance:Zer P T.a23 (.map none):=⟨by kernel_rfl⟩
instance:Zer P T.a8 (.agg #[.int .i64 0,.bool false,.int .i64 0,.int .i64 0,.map none]):=⟨by kernel_rfl⟩
instance:Zer P T.a30 (.pointer none):=⟨by kernel_rfl⟩
instance:Zer P T.a24 (.pointer none):=⟨by kernel_rfl⟩
instance:Zer P T.a19 (.agg #[.pointer none,.pointer none]):=⟨by kernel_rfl⟩
instance:Zer P T.a39 (.slice none 0 0):=⟨by kernel_rfl⟩
instance:Zer P T.a31 (.pointer none):=⟨by kernel_rfl⟩
instance:Zer P T.a25 (.pointer none):=⟨by kernel_rfl⟩
instance:Zer P T.a29 (.pointer none):=⟨by kernel_rfl⟩
instance:Zer P T.a34 (.agg #[.pointer none,.pointer none,.string ⟨#[]⟩,.int .i64 0,.pointer none,.pointer none]):=⟨by kernel_rfl⟩
instance:Zer P T.a4 (.agg #[.int .i64 0,.slice none 0 0]):=⟨by kernel_rfl⟩
instance:Zer P T.a43 (.slice none 0 0):=⟨by kernel_rfl⟩
instance:Zer P T.a54 (.agg #[.slice none 0 0,.int .i64 0,.int .i64 0]):=⟨by kernel_rfl⟩
instance:Zer P T.a41 (.slice none 0 0):=⟨by kernel_rfl⟩
instance:Zer P T.a47 (.agg #[.pointer none,.string ⟨#[]⟩,.int .i64 0,.int .i64 0,.slice none 0 0]):=⟨by kernel_rfl⟩
instance:Zer P T.a9 (.agg #[.slice none 0 0,.int .i64 0]):=⟨by kernel_rfl⟩
instance:Zer P T.a27 (.pointer none):=⟨by kernel_rfl⟩
instance:Zer P T.a28 (.pointer none):=⟨by kernel_rfl⟩
instance:Zer P T.a48 (.agg #[.pointer none,.int .i64 0,.int .i64 0,.int .i64 0,.int .i64 0,.int .i64 0]):=⟨by kernel_rfl⟩
instance:Zer P T.a32 (.pointer none):=⟨by kernel_rfl⟩
instance:Zer P T.a40 (.slice none 0 0):=⟨by kernel_rfl⟩
instance:Zer P T.a17 (.agg #[.int .i64 0,.int .i64 0]):=⟨by kernel_rfl⟩
instance:Zer P T.a18 (.agg #[.int .i64 0,.int .i64 0,.int .i64 0,.int .i64 0]):=⟨by kernel_rfl⟩
instance:Zer P T.a21 (.map none):=⟨by kernel_rfl⟩
instance:Zer P T.a22 (.map none):=⟨by kernel_rfl⟩
instance:Zer P T.a16 (.agg #[.int .i64 0,.map none,.map none]):=⟨by kernel_rfl⟩
instance:Zer P T.a7 (.agg #[.bool false,.int .i64 0]):=⟨by kernel_rfl⟩
instance:Zer P T.a20 (.map none):=⟨by kernel_rfl⟩
instance:Zer P T.a6 (.agg #[.int .i64 0,.int .i64 0,.map none]):=⟨by kernel_rfl⟩
instance:Zer P T.a5 (.agg #[.int .i64 0,.int .i64 0,.int .i64 0,.int .i64 0,.int .i64 0,.int .i64 0,.int .i64 0]):=⟨by kernel_rfl⟩
instance:Zer P T.a10 (.agg #[.int .i64 0,.int .i64 0,.int .i64 0]):=⟨by kernel_rfl⟩
instance:Zer P T.a15 (.agg #[.int .i64 0,.int .i64 0,.int .i64 0,.int .i64 0]):=⟨by kernel_rfl⟩
instance:Zer P T.a12 (.agg #[.int .i64 0,.int .i64 0,.int .i64 0]):=⟨by kernel_rfl⟩
instance:Zer P T.a38 (.slice none 0 0):=⟨by kernel_rfl⟩
instance:Zer P T.a11 (.agg #[.int .i64 0,.int .i64 0,.int .i64 0,.int .i64 0,.slice none 0 0]):=⟨by kernel_rfl⟩
instance:SlT P T.a37 T.a2 4 48:=⟨by kernel_rfl,by kernel_rfl⟩
instance:SlT P T.a36 T.a0 7 72:=⟨by kernel_rfl,by kernel_rfl⟩
instance:SlT P T.a42 T.a35 5 56:=⟨by kernel_rfl,by kernel_rfl⟩
instance:SlT P T.a44 T.a49 1 16:=⟨by kernel_rfl,by kernel_rfl⟩
instance:SlT P T.a45 T.a52 1 1:=⟨by kernel_rfl,by kernel_rfl⟩
instance:SlT P T.a39 T.a14 1 8:=⟨by kernel_rfl,by kernel_rfl⟩
instance:SlT P T.a43 T.a45 1 24:=⟨by kernel_rfl,by kernel_rfl⟩
instance:SlT P T.a41 T.a32 1 8:=⟨by kernel_rfl,by kernel_rfl⟩
instance:SlT P T.a40 T.a15 4 32:=⟨by kernel_rfl,by kernel_rfl⟩
instance:SlT P T.a38 T.a10 3 24:=⟨by kernel_rfl,by kernel_rfl⟩
structure RecM where
 key:ByteArray
 value:ByteArray
 gone:Bool
 time:Int
def zu (r:RecM):List Value:=[.string r.key,.string r.value,.bool r.gone,.int .i64 r.time]
instance:EncA zu [.str,.str,.bool,.int .i64] (λr=>(r.key,r.value,r.gone,r.time,())):=⟨λ_=>rfl⟩
instance:EncN zu 4:=⟨λ_=>rfl,by decide,by simp [zu,Value.oneCell']⟩
structure BatM where
 base:Int
 pid:Int
 epoch:Int
 seq:Int
 kind:Int
 time:Int
 x:Sl
 rs:List RecM
def z00 (b:BatM):List Value:=[.int .i64 b.base,.int .i64 b.pid,.int .i64 b.epoch,.int .i64 b.seq,.int .i64 b.kind,.int .i64 b.time,.slice b.x.a b.x.len b.x.cap]
instance:EncA z00 [.int .i64,.int .i64,.int .i64,.int .i64,.int .i64,.int .i64,.slc] (λb=>(b.base,b.pid,b.epoch,b.seq,b.kind,b.time,b.x,())):=⟨λ_=>rfl⟩
instance:EncN z00 7:=⟨λ_=>rfl,by decide,by simp [z00,Value.oneCell']⟩
def z0b (b:BatM):Bool:=decide (b.kind=2) || decide (b.kind=3)
def z37 (b:BatM):Prop:=(0<=b.kind/\b.kind<=3)/\(0<=b.base/\b.base<=1099511627776)/\(0<=b.pid/\b.pid<=1048576)/\(0<=b.epoch/\b.epoch<=32767)/\(0<=b.seq/\b.seq<=2147483647)/\(0<=b.time/\b.time<=1099511627776)
instance (b:BatM):Decidable (z37 b):=by unfold z37;infer_instance
def z36 (b:BatM):Prop:=¬ (b.pid=0/\(b.kind≠0\/b.epoch≠0\/b.seq≠0))/\if z0b b then b.seq=0/\b.rs.length=0 else 0<b.rs.length
instance (b:BatM):Decidable (z36 b):=by unfold z36;infer_instance
def z1y (r:RecM):Int:=if r.key.size>1024\/r.value.size>1024 then 7 else if ¬ (0<=r.time/\r.time<=1099511627776)\/(r.gone=true/\r.value.size>0) then 2 else 0
def z54:List RecM->Int
 | []=>0
 | r::rs=>if z1y r≠0 then z1y r else z54 rs
def zp (b:BatM):Int:=if z0b b then 1 else (b.rs.length:Nat)
def zy (b:BatM):Int:=if ¬ z37 b\/¬ z36 b then 2 else if b.rs.length>64 then 7 else if z54 b.rs≠0 then z54 b.rs else
 if b.base>1099511627776-(zp b-1)\/(b.pid>0/\z0b b=false/\b.seq>2147483647-(zp b-1)) then 24 else 0
def z1s (b:BatM):Int:=if zy b≠0 then 0 else b.base+zp b
theorem zcu:∀ (rs:List RecM) (i:Nat) (hi:i<rs.length),z54 (rs.take i)=0->z1y rs[i]≠0->z54 rs=z1y rs[i]
 | r::rs,0,_,_,h=>by
  have h:z1y r≠0:=h
  show (if z1y r≠0 then z1y r else z54 rs)=z1y r
  rw [if_pos h]
 | r::rs,i+1,hi,h1,h2=>by
  have h1:(if z1y r≠0 then z1y r else z54 (rs.take i))=0:=h1
  by_cases h:z1y r≠0
  ·rw [if_pos h] at h1;exact absurd h1 h
  ·rw [if_neg h] at h1
   show (if z1y r≠0 then z1y r else z54 rs)=_
   rw [if_neg h]
   exact zcu rs i (by simpa using hi) h1 h2
theorem zct:∀ (rs:List RecM) (i:Nat) (hi:i<rs.length),z54 (rs.take i)=0->z1y rs[i]=0->z54 (rs.take (i+1))=0
 | r::rs,0,_,_,h=>by
  have h:z1y r=0:=h
  show (if z1y r≠0 then z1y r else z54 (rs.take 0))=0
  rw [if_neg (by rw [h];simp)];rfl
 | r::rs,i+1,hi,h1,h2=>by
  have h1:(if z1y r≠0 then z1y r else z54 (rs.take i))=0:=h1
  by_cases h:z1y r≠0
  ·rw [if_pos h] at h1;exact absurd h1 h
  ·rw [if_neg h] at h1
   show (if z1y r≠0 then z1y r else z54 (rs.take (i+1)))=0
   rw [if_neg h]
   exact zct rs i (by simpa using hi) h1 h2
theorem zn1 {s:ByteArray}:s.size>0↔s≠ByteArray.mk #[]:=by
 constructor
 ·rintro h rfl;exact absurd h (Nat.lt_irrefl 0)
 ·intro h
  rcases Nat.eq_zero_or_pos s.size with h0|h0
  ·exfalso
   apply h
   obtain ⟨⟨l⟩⟩:=s
   have h0:l.length=0:=h0
   rw [List.length_eq_zero_iff.1 h0]
  ·exact h0
section
variable {w:World} {l r:List HP} {b:BatM}
theorem z6z (b:BatM) (hs:Sat w l):Ret P F.a102 #[.agg (z00 b).toArray] w λvs w'=>vs=[.bool (z0b b)]/\Sat w' l :=
 zo1 b.base b.pid b.epoch b.seq b.kind b.time b.x <| by
  delta z01k AP Ai Ak Ao Ax Ba
  refine zr hs λa0 w' hs=>?_
  refine zb hs ?_
  refine zb hs ?_
  refine wp_lt ?_
  exact ⟨rfl,rfl,hs.tail⟩
theorem ze4 (b:BatM) (hs:Sat w l):Ret P F.a160 #[.agg (z00 b).toArray] w λvs w'=>vs=[.bool (z0b b)]/\Sat w' l :=
 zpc b.base b.pid b.epoch b.seq b.kind b.time b.x <| by
  delta z02v AP Ai Ak Ao Ax Ba
  refine zr hs λa0 w' hs=>?_
  refine zb hs ?_
  refine zb hs ?_
  refine wp_lt ?_
  exact ⟨rfl,rfl,hs.tail⟩
theorem zcf (n lo hi:Int) (hs:Sat w l):Ret P F.a108 #[.int .i64 n,.int .i64 lo,.int .i64 hi] w λvs w'=>vs=[.bool (decide (lo<=n/\n<=hi))]/\Sat w' l :=
 zo7 n lo hi <| by
  delta z01q Ak Ax
  refine wp_lt ?_
  exact ⟨rfl,by rw [Bool.decide_and],hs⟩
theorem zxm (b:BatM) [hb:FocR l b.x 4 (b.rs.flatMap zu)] (hs:Sat w l):Ret P F.a98 #[.agg (z00 b).toArray] w λvs w'=>vs=[.int .i64 (zp b)]/\Sat w' l :=
 zvu b.base b.pid b.epoch b.seq b.kind b.time b.x <| by
  delta z09u AI Aa Af Ai Aj Ak An Av Ba Bb;unfold zp
  have hl:=hs.slen b.x (xs:=b.rs) (enc:=zu)
  refine zr hs λa0 w' hs=>?_
  refine zj hs ?_
  refine z8 (z6z b hs) λ_ _ hs=>?_
  obtain ⟨rfl,hs⟩:=hs
  refine zd ?_
  refine zf (λh=>?_) λh=>?_
  ·rw [if_pos h];exact ⟨rfl,rfl,hs.tail⟩
  ·rw [if_neg h]
   refine zb hs ?_
   refine wp_lt ?_
   rw [hl]
   exact ⟨rfl,rfl,hs.tail⟩
theorem z00d (r:RecM) (hs:Sat w l):Ret P F.a106 #[.agg (zu r).toArray] w λvs w'=>vs=[.int .i64 (z1y r)]/\Sat w' l :=
 zo5 r.key r.value r.gone r.time <| by
  delta z01o AD AM AP AS AW AX Aa Ai Ak Av;unfold z1y
  refine zr hs λa0 w' hs=>?_
  refine zb hs ?_
  refine zb hs ?_
  refine wp_lt ?_
  refine zf (λh=>?_) λh=>?_
  ·rw [if_pos (by omega)];exact ⟨rfl,rfl,hs.tail⟩
  rw [if_neg (by omega)]
  refine zb hs ?_
  refine z8 (zcf r.time 0 1099511627776 hs) λ_ _ hs=>?_
  obtain ⟨rfl,hs⟩:=hs
  refine zd ?_
  refine zb hs ?_
  refine zb hs ?_
  refine wp_lt ?_
  have e:(¬ (0<=r.time/\r.time<=1099511627776)\/(r.gone=true/\r.value.size>0))↔(¬ (0<=r.time/\r.time<=1099511627776)\/(r.gone=true/\¬ r.value=ByteArray.mk #[])):=by rw [zn1]
  refine zf (λh=>?_) λh=>?_
  ·rw [if_pos (e.2 h)];exact ⟨rfl,rfl,hs.tail⟩
  ·rw [if_neg (λh2=>h (e.1 h2))];exact ⟨rfl,rfl,hs.tail⟩
theorem zx7 (b:BatM) (hs:Sat w l):Ret P F.a103 #[.agg (z00 b).toArray] w λvs w'=>vs=[.bool (decide (z37 b))]/\Sat w' l :=
 zo2 b.base b.pid b.epoch b.seq b.kind b.time b.x <| by
  delta z01l AP Aa Ai Aj Ak Ao Au Av Ax Ba
  refine zr hs λa0 w' hs=>?_
  refine zm (λv w'=>v=(decide (z37 b),())/\Sat w' l) ?_ (by rintro _ w' ⟨rfl,hs⟩;refine zl ?_;exact ⟨rfl,rfl,hs⟩)
  have hno:∀ {w'},¬ z37 b->Sat w' (pt a0 (.cells #[.int .i64 b.base,.int .i64 b.pid,.int .i64 b.epoch,.int .i64 b.seq,.int .i64 b.kind,.int .i64 b.time,.slice b.x.a b.x.len b.x.cap] T.a0)::l)->((false,()):Bool × Unit)=(decide (z37 b),())/\Sat w' l:=λh hs=>⟨by rw [decide_eq_false h],hs.tail⟩
  refine zb hs ?_
  refine zb hs ?_
  refine zb hs ?_
  refine zf (λh1=>?_) λh1=>?_
  rotate_left
  ·exact zg (hno (λh=>h1 h.1) hs)
  refine z8 (zcf b.base 0 1099511627776 hs) λ_ _ hs=>?_
  obtain ⟨rfl,hs⟩:=hs
  refine zd ?_
  refine zb hs ?_
  refine zf (λh2=>?_) λh2=>?_
  rotate_left
  ·exact zg (hno (λh=>h2 h.2.1) hs)
  refine z8 (zcf b.pid 0 1048576 hs) λ_ _ hs=>?_
  obtain ⟨rfl,hs⟩:=hs
  refine zd ?_
  refine zb hs ?_
  refine zb hs ?_
  refine zb hs ?_
  refine zb hs ?_
  refine zb hs ?_
  refine zf (λh3=>?_) λh3=>?_
  rotate_left
  ·exact zg (hno (λh=>h3 ⟨⟨⟨⟨h.2.2.1,h.2.2.2.1.1⟩,h.2.2.2.1.2⟩,h.2.2.2.2.1.1⟩,h.2.2.2.2.1.2⟩) hs)
  refine z8 (zcf b.time 0 1099511627776 hs) λ_ _ hs=>?_
  obtain ⟨rfl,hs⟩:=hs
  refine zd ?_
  refine wp_lt ?_
  refine zg ⟨?_,hs.tail⟩
  have:(z37 b)↔(0<=b.time/\b.time<=1099511627776):=⟨λh=>h.2.2.2.2.2,λh=>⟨h1,h2,h3.1.1.1.1,⟨h3.1.1.1.2,h3.1.1.2⟩,⟨h3.1.2,h3.2⟩,h⟩⟩
  rw [decide_eq_decide.2 this]
theorem z067 (b:BatM) [hb:FocR l b.x 4 (b.rs.flatMap zu)] (hs:Sat w l):Ret P F.a101 #[.agg (z00 b).toArray] w λvs w'=>vs=[.bool (decide (z36 b))]/\Sat w' l :=
 zo0 b.base b.pid b.epoch b.seq b.kind b.time b.x <| by
  delta z01j AI AP Ai Aj Ak An Ao Av Ax B1 Ba Bb
  have hl:=hs.slen b.x (xs:=b.rs) (enc:=zu)
  refine zr hs λa0 w' hs=>?_
  refine zb hs ?_
  refine zb hs ?_
  refine zb hs ?_
  refine zb hs ?_
  refine zf (λh1=>?_) λh1=>?_
  ·have:¬ z36 b:=λh=>h.1 ⟨h1.1,or_assoc.1 h1.2⟩
   exact ⟨rfl,by rw [decide_eq_false this],hs.tail⟩
  have h1:¬ (b.pid=0/\(b.kind≠0\/b.epoch≠0\/b.seq≠0)):=λh=>h1 ⟨h.1,or_assoc.2 h.2⟩
  refine zj hs ?_
  refine z8 (z6z b hs) λ_ _ hs=>?_
  obtain ⟨rfl,hs⟩:=hs
  refine zd ?_
  refine zf (λh2=>?_) λh2=>?_
  ·refine zb hs ?_
   refine zb hs ?_
   refine wp_lt ?_
   refine ⟨rfl,?_,hs.tail⟩
   have:z36 b↔(b.seq=0/\b.rs.length=0):=by
    unfold z36
    rw [if_pos h2]
    exact ⟨λh=>h.2,λh=>⟨h1,h⟩⟩
   congr 2
   rw [Bool.eq_iff_iff,decide_eq_true_iff,this,Bool.and_eq_true,beq_iff_eq,beq_iff_eq,hl]
   omega
  ·refine zb hs ?_
   refine wp_lt ?_
   refine ⟨rfl,?_,hs.tail⟩
   have:z36 b↔0<b.rs.length:=by
    unfold z36
    rw [if_neg h2]
    exact ⟨λh=>h.2,λh=>⟨h1,h⟩⟩
   congr 2
   rw [Bool.eq_iff_iff,decide_eq_true_iff,decide_eq_true_iff,this,hl]
   omega
theorem z9f (b:BatM) [hb:FocR l b.x 4 (b.rs.flatMap zu)] (hs:Sat w l):Ret P F.a99 #[.agg (z00 b).toArray] w λvs w'=>vs=[.int .i64 (zy b)]/\Sat w' l :=
 zny b.base b.pid b.epoch b.seq b.kind b.time b.x <| by
  delta z01h AA AI AL AM AN AP AS Aa Ab Ac Af Ai Aj Ak Al Am An Ao Au Av Aw Ax Ba Bb Bl;unfold zy
  have hl:=hs.slen b.x (xs:=b.rs) (enc:=zu)
  refine zr hs λa0 w' hs=>?_
  refine zm (λv w'=>v=(decide (¬ z37 b\/¬ z36 b),())/\Sat w' (pt a0 (.cells #[.int .i64 b.base,.int .i64 b.pid,.int .i64 b.epoch,.int .i64 b.seq,.int .i64 b.kind,.int .i64 b.time,.slice b.x.a b.x.len b.x.cap] T.a0)::l)) ?_ ?_
  ·refine zj hs ?_
   refine z8 (zx7 b hs) λ_ _ hs=>?_
   obtain ⟨rfl,hs⟩:=hs
   refine zd ?_
   refine zj hs ?_
   refine zf (λh1=>?_) λh1=>?_
   ·exact zg ⟨by rw [decide_eq_true (.inl h1)],hs⟩
   refine z8 (z067 b hs) λ_ _ hs=>?_
   obtain ⟨rfl,hs⟩:=hs
   refine zd ?_
   refine wp_lt ?_
   refine zg ⟨?_,hs⟩
   have:(¬ z37 b\/¬ z36 b)↔¬ z36 b:=⟨λh=>h.resolve_left h1,.inr⟩
   rw [decide_eq_decide.2 this,decide_not]
  clear hs
  rintro _ w ⟨rfl,hs⟩
  refine zl ?_
  refine zf (λh1=>?_) λh1=>?_
  ·rw [if_pos h1];exact ⟨rfl,rfl,hs.tail⟩
  rw [if_neg h1]
  have hnum:z37 b:=Decidable.not_not.1 λh=>h1 (.inl h)
  have hfit:z36 b:=Decidable.not_not.1 λh=>h1 (.inr h)
  refine zb hs ?_
  refine wp_lt ?_
  refine zf (λh2=>?_) λh2=>?_
  ·rw [if_pos (by omega)];exact ⟨rfl,rfl,hs.tail⟩
  rw [if_neg (by omega)]
  refine zb hs ?_
  refine zm (λv w'=>z54 b.rs=0/\Sat w' (pt a0 (.cells #[.int .i64 b.base,.int .i64 b.pid,.int .i64 b.epoch,.int .i64 b.seq,.int .i64 b.kind,.int .i64 b.time,.slice b.x.a b.x.len b.x.cap] T.a0)::l)) ?_ ?_
  ·refine z0c (λk v w=>∃ i:Nat,v=((i:Int),())/\i<=b.rs.length/\b.rs.length-i=k/\z54 (b.rs.take i)=0/\Sat w (pt a0 (.cells #[.int .i64 b.base,.int .i64 b.pid,.int .i64 b.epoch,.int .i64 b.seq,.int .i64 b.kind,.int .i64 b.time,.slice b.x.a b.x.len b.x.cap] T.a0)::l)) b.rs.length ⟨0,rfl,by omega,rfl,rfl,hs⟩ ?_
   clear hs
   rintro k _ w ⟨i,rfl,hi,hk,hbad,hs⟩
   refine zl ?_
   refine zf (λhc=>?_) λhc=>?_
   rotate_left
   ·refine zn (zg ⟨?_,hs⟩)
    rwa [List.take_of_length_le (by omega)] at hbad
   have hil:i<b.rs.length:=by omega
   refine z2v hs i hil ?_
   refine zt hs λc w' hs=>?_
   refine zv hs λw' hs=>?_
   refine zj hs ?_
   refine z8 (z00d b.rs[i] hs) λ_ _ hs=>?_
   obtain ⟨rfl,hs⟩:=hs
   refine zd ?_
   refine wp_lt ?_
   refine zf (λh3=>?_) λh3=>?_
   ·refine wp_lt ?_
    refine zn (zn ?_)
    have:=zcu b.rs i hil hbad h3
    rw [if_pos (by rw [this];exact h3),this]
    exact ⟨rfl,rfl,hs.tail.tail⟩
   ·refine z29 (us':=[.int .i64 ((i+1:Nat):Int)]) (by (try simp (disch:=omega) only [w64]);first|rfl|(congr;omega)) ?_
    refine z0z (b.rs.length-(i+1)) ?_
    exact ⟨i+1,rfl,by omega,rfl,zct b.rs i hil hbad (Decidable.not_not.1 h3),hs.sub⟩
  clear hs
  rintro _ w ⟨hbad,hs⟩
  refine zl ?_
  rw [if_neg (by rw [hbad];simp)]
  refine zj hs ?_
  refine z8 (zxm b hs) λ_ _ hs=>?_
  obtain ⟨rfl,hs⟩:=hs
  refine zd ?_
  have hsp:1<=zp b/\zp b<=64:=by
   unfold zp
   have h3:=hfit.2
   split
   ·omega
   ·rename_i hm
    rw [if_neg hm] at h3
    omega
  obtain ⟨-,hba,-,-,hse,-⟩:=hnum
  refine z2a (y:=zp b-1) ?_ (by rw [w64 (by omega) (by omega)])
  refine zm (λv w'=>v=(decide (b.base>1099511627776-(zp b-1)\/(b.pid>0/\z0b b=false/\b.seq>2147483647-(zp b-1))),())/\Sat w' l) ?_ ?_
  ·rw [w64 (x:=1099511627776-(zp b-1)) (by omega) (by omega)]
   refine zb hs ?_
   refine zb hs ?_
   refine zj hs ?_
   refine zf (λh3=>?_) λh3=>?_
   ·exact zg ⟨by rw [decide_eq_true (.inl h3)],hs.tail⟩
   refine zf (λh4=>?_) λh4=>?_
   rotate_left
   ·exact zg ⟨by rw [decide_eq_false (λh=>h.elim h3 λh=>h4 h.1)],hs.tail⟩
   refine z8 (z6z b hs) λ_ _ hs=>?_
   obtain ⟨rfl,hs⟩:=hs
   refine zd ?_
   refine zb hs ?_
   rw [w64 (x:=2147483647-(zp b-1)) (by omega) (by omega)]
   refine zg ⟨?_,hs.tail⟩
   have:(b.base>1099511627776-(zp b-1)\/(b.pid>0/\z0b b=false/\b.seq>2147483647-(zp b-1)))↔(z0b b=false/\b.seq>2147483647-(zp b-1)):=⟨λh=>(h.resolve_left h3).2,λh=>.inr ⟨h4,h⟩⟩
   rw [decide_eq_decide.2 this,Bool.decide_and]
   cases z0b b <;> rfl
  clear hs
  rintro _ w ⟨rfl,hs⟩
  refine zl ?_
  refine zf (λh3=>?_) λh3=>?_
  ·rw [if_pos h3];exact ⟨rfl,rfl,hs⟩
  ·rw [if_neg h3];exact ⟨rfl,rfl,hs⟩
theorem z15 (b:BatM) (hv:zy b=0):1<=zp b/\zp b<=64/\z37 b/\z36 b/\b.base+zp b<=1099511627777:=by
 unfold zy at hv
 split at hv
 ·cases hv
 rename_i h1
 have hnum:z37 b:=Decidable.not_not.1 λh=>h1 (.inl h)
 have hfit:z36 b:=Decidable.not_not.1 λh=>h1 (.inr h)
 split at hv
 ·cases hv
 rename_i h2
 split at hv
 ·rename_i h3;exact absurd hv h3
 split at hv
 ·cases hv
 rename_i h4
 have hsp:1<=zp b/\zp b<=64:=by
  unfold zp
  have h3:=hfit.2
  split
  ·omega
  ·rename_i hm
   rw [if_neg hm] at h3
   omega
 refine ⟨hsp.1,hsp.2,hnum,hfit,?_⟩
 apply Decidable.byContradiction
 intro h5
 exact h4 (.inl (by omega))
theorem z9d (b:BatM) [hb:FocR l b.x 4 (b.rs.flatMap zu)] (hs:Sat w l):Ret P F.a97 #[.agg (z00 b).toArray] w λvs w'=>vs=[.int .i64 (z1s b)]/\Sat w' l :=
 zvt b.base b.pid b.epoch b.seq b.kind b.time b.x <| by
  delta z09t AA AC AG AR Aa Af Ai Aj Ak Aw Ba Bb;unfold z1s
  refine zr hs λa0 w' hs=>?_
  refine zj hs ?_
  refine z8 (z9f b hs) λ_ _ hs=>?_
  obtain ⟨rfl,hs⟩:=hs
  refine zd ?_
  refine zf (λh=>?_) λh=>?_
  ·rw [if_pos h];exact ⟨rfl,rfl,hs.tail⟩
  rw [if_neg h]
  obtain ⟨h1,h2,h3,-⟩:=z15 b (Decidable.not_not.1 h)
  have h3:=h3.2.1
  refine z02 hs λw' hs=>?_
  refine z0s hs ?_
  refine zj hs ?_
  refine z8 (zxm b hs) λ_ w' hs=>?_
  obtain ⟨rfl,hs⟩:=hs
  refine zd ?_ ⟨trivial,λ_=>z07 hs⟩
  refine z2a (y:=b.base+zp b) ?_ (by rw [w64 (by omega) (by omega)])
  refine ze ?_
  exact ⟨rfl,rfl,hs.tail⟩
end
section
variable {w:World} {l r:List HP} {b:BatM}
theorem zc5 (n lo hi:Int) (hs:Sat w l):Ret P F.a163 #[.int .i64 n,.int .i64 lo,.int .i64 hi] w λvs w'=>vs=[.bool (!decide (lo<=n/\n<=hi))]/\Sat w' l :=
 zpf n lo hi <| by
  delta z02y Ak Ax
  refine wp_lt ?_
  refine ⟨rfl,?_,hs⟩
  congr 2
  rw [Bool.eq_iff_iff]
  simp only [Bool.or_eq_true,decide_eq_true_eq,Bool.not_eq_true',decide_eq_false_iff_not]
  omega
theorem z03u (b:BatM) [hb:FocR l b.x 4 (b.rs.flatMap zu)] (hs:Sat w l):Ret P F.a161 #[.agg (z00 b).toArray] w λvs w'=>vs=[.int .i64 (zp b)]/\Sat w' l :=
 zpd b.base b.pid b.epoch b.seq b.kind b.time b.x <| by
  delta z02w AI Aa Af Ai Aj Ak An Av Ba Bb;unfold zp
  have hl:=hs.slen b.x (xs:=b.rs) (enc:=zu)
  refine zr hs λa0 w' hs=>?_
  refine zj hs ?_
  refine z8 (ze4 b hs) λ_ _ hs=>?_
  obtain ⟨rfl,hs⟩:=hs
  refine zd ?_
  refine zf (λh=>?_) λh=>?_
  ·rw [if_pos h];exact ⟨rfl,rfl,hs.tail⟩
  ·rw [if_neg h]
   refine zb hs ?_
   refine wp_lt ?_
   rw [hl]
   exact ⟨rfl,rfl,hs.tail⟩
theorem zyt (b:BatM) [hb:FocR l b.x 4 (b.rs.flatMap zu)] (hs:Sat w l):Ret P F.a162 #[.agg (z00 b).toArray] w λvs w'=>vs=[.int .i64 (zy b)]/\Sat w' l :=
 zpe b.base b.pid b.epoch b.seq b.kind b.time b.x <| by
  delta z02x AA AC AD AG AI AL AM AP AR AW AX Aa Ab Ac Ai Aj Ak Al Am An Ao Au Av Aw B1 Ba Bb Bl Br;unfold zy
  have hl:=hs.slen b.x (xs:=b.rs) (enc:=zu)
  refine zr hs λa0 w' hs=>?_
  refine zm (λv w'=>v=(decide (¬ z37 b),())/\Sat w' (pt a0 (.cells #[.int .i64 b.base,.int .i64 b.pid,.int .i64 b.epoch,.int .i64 b.seq,.int .i64 b.kind,.int .i64 b.time,.slice b.x.a b.x.len b.x.cap] T.a0)::l)) ?_ ?_
  ·have hno:∀ {w'},¬ z37 b->Sat w' (pt a0 (.cells #[.int .i64 b.base,.int .i64 b.pid,.int .i64 b.epoch,.int .i64 b.seq,.int .i64 b.kind,.int .i64 b.time,.slice b.x.a b.x.len b.x.cap] T.a0)::l)->((true,()):Bool × Unit)=(decide (¬ z37 b),())/\Sat w' (pt a0 (.cells #[.int .i64 b.base,.int .i64 b.pid,.int .i64 b.epoch,.int .i64 b.seq,.int .i64 b.kind,.int .i64 b.time,.slice b.x.a b.x.len b.x.cap] T.a0)::l):=λh hs=>⟨by rw [decide_eq_true h],hs⟩
   refine zb hs ?_
   refine z8 (zc5 b.kind 0 3 hs) λ_ _ hs=>?_
   obtain ⟨rfl,hs⟩:=hs
   refine zd ?_
   refine zb hs ?_
   refine zf (λh1=>?_) λh1=>?_
   ·exact zg (hno (λh=>h1 h.1) hs)
   refine z8 (zc5 b.base 0 1099511627776 hs) λ_ _ hs=>?_
   obtain ⟨rfl,hs⟩:=hs
   refine zd ?_
   refine zb hs ?_
   refine zf (λh2=>?_) λh2=>?_
   ·exact zg (hno (λh=>h2 h.2.1) hs)
   refine z8 (zc5 b.pid 0 1048576 hs) λ_ _ hs=>?_
   obtain ⟨rfl,hs⟩:=hs
   refine zd ?_
   refine zb hs ?_
   refine zf (λh3=>?_) λh3=>?_
   ·exact zg (hno (λh=>h3 h.2.2.1) hs)
   refine z8 (zc5 b.epoch 0 32767 hs) λ_ _ hs=>?_
   obtain ⟨rfl,hs⟩:=hs
   refine zd ?_
   refine zb hs ?_
   refine zf (λh4=>?_) λh4=>?_
   ·exact zg (hno (λh=>h4 h.2.2.2.1) hs)
   refine z8 (zc5 b.seq 0 2147483647 hs) λ_ _ hs=>?_
   obtain ⟨rfl,hs⟩:=hs
   refine zd ?_
   refine zb hs ?_
   refine zf (λh5=>?_) λh5=>?_
   ·exact zg (hno (λh=>h5 h.2.2.2.2.1) hs)
   refine z8 (zc5 b.time 0 1099511627776 hs) λ_ _ hs=>?_
   obtain ⟨rfl,hs⟩:=hs
   refine zd ?_
   refine zg ⟨?_,hs⟩
   have:z37 b↔(0<=b.time/\b.time<=1099511627776):=⟨λh=>h.2.2.2.2.2,λh=>⟨Decidable.not_not.1 h1,Decidable.not_not.1 h2,Decidable.not_not.1 h3,Decidable.not_not.1 h4,Decidable.not_not.1 h5,h⟩⟩
   rw [decide_not,decide_eq_decide.2 this]
  clear hs
  rintro _ w ⟨rfl,hs⟩
  refine zl ?_
  refine zf (λh1=>?_) λh1=>?_
  ·rw [if_pos (.inl h1)];exact ⟨rfl,rfl,hs.tail⟩
  have hnum:z37 b:=Decidable.not_not.1 h1
  refine zb hs ?_
  refine zb hs ?_
  refine zb hs ?_
  refine zb hs ?_
  refine zf (λh2=>?_) λh2=>?_
  ·rw [if_pos (.inr λh=>h.1 ⟨h2.1,or_assoc.1 h2.2⟩)];exact ⟨rfl,rfl,hs.tail⟩
  have h2:¬ (b.pid=0/\(b.kind≠0\/b.epoch≠0\/b.seq≠0)):=λh=>h2 ⟨h.1,or_assoc.2 h.2⟩
  refine zm (λv w'=>v=(decide (¬ z36 b),())/\Sat w' (pt a0 (.cells #[.int .i64 b.base,.int .i64 b.pid,.int .i64 b.epoch,.int .i64 b.seq,.int .i64 b.kind,.int .i64 b.time,.slice b.x.a b.x.len b.x.cap] T.a0)::l)) ?_ ?_
  ·refine z02 hs λw' hs=>?_
   refine zj hs ?_
   refine z0s hs ?_
   refine z8 (ze4 b hs) λ_ w' hs=>?_
   obtain ⟨rfl,hs⟩:=hs
   refine zd ?_ ⟨trivial,λ_=>z07 hs⟩
   refine zj hs ?_
   refine ze ?_
   refine zf (λh3=>?_) λh3=>?_
   ·refine ze ?_
    refine zg ⟨?_,hs⟩
    rw [decide_eq_true]
    rintro ⟨-,h4⟩
    apply h3
    rw [Bool.eq_iff_iff,beq_iff_eq,hl]
    by_cases hm:z0b b=true
    ·rw [if_pos hm] at h4;simp [hm,h4.2]
    ·rw [if_neg hm] at h4;simp [hm];intro h5;rw [h5] at h4;simp at h4
   have h3:z0b b=true↔b.rs.length=0:=by
    have:=Decidable.not_not.1 h3
    rw [Bool.eq_iff_iff,beq_iff_eq,hl] at this
    rw [this];omega
   refine z8 (ze4 b hs) λ_ _ hs=>?_
   obtain ⟨rfl,hs⟩:=hs
   refine zd ?_
   refine zb hs ?_
   refine ze ?_
   refine zg ⟨?_,hs⟩
   have:¬ z36 b↔(z0b b=true/\b.seq≠0):=by
    unfold z36
    by_cases hm:z0b b=true
    ·rw [if_pos hm]
     have:=h3.1 hm
     constructor
     ·exact λh=>⟨hm,λh5=>h ⟨h2,h5,this⟩⟩
     ·exact λh h5=>h.2 h5.2.1
    ·rw [if_neg hm]
     have:0<b.rs.length:=Nat.pos_of_ne_zero λh=>hm (h3.2 h)
     constructor
     ·exact λh=>absurd ⟨h2,this⟩ h
     ·exact λh=>absurd h.1 hm
   rw [decide_eq_decide.2 this,Bool.decide_and]
   cases z0b b <;> simp [bne]
   rfl
  clear hs
  rintro _ w ⟨rfl,hs⟩
  refine zl ?_
  refine zf (λh3=>?_) λh3=>?_
  ·rw [if_pos (.inr h3)];exact ⟨rfl,rfl,hs.tail⟩
  have hfit:z36 b:=Decidable.not_not.1 h3
  rw [if_neg (λh=>h.elim h1 h3)]
  refine zb hs ?_
  refine zf (λh4=>?_) λh4=>?_
  ·rw [if_pos (by omega)];exact ⟨rfl,rfl,hs.tail⟩
  rw [if_neg (by omega)]
  refine zb hs ?_
  refine zm (λv w'=>z54 b.rs=0/\Sat w' (pt a0 (.cells #[.int .i64 b.base,.int .i64 b.pid,.int .i64 b.epoch,.int .i64 b.seq,.int .i64 b.kind,.int .i64 b.time,.slice b.x.a b.x.len b.x.cap] T.a0)::l)) ?_ ?_
  ·refine z0c (λk v w=>∃ i:Nat,v=((i:Int),())/\i<=b.rs.length/\b.rs.length-i=k/\z54 (b.rs.take i)=0/\Sat w (pt a0 (.cells #[.int .i64 b.base,.int .i64 b.pid,.int .i64 b.epoch,.int .i64 b.seq,.int .i64 b.kind,.int .i64 b.time,.slice b.x.a b.x.len b.x.cap] T.a0)::l)) b.rs.length ⟨0,rfl,by omega,rfl,rfl,hs⟩ ?_
   clear hs
   rintro k _ w ⟨i,rfl,hi,hk,hbad,hs⟩
   refine zl ?_
   refine zf (λhc=>?_) λhc=>?_
   rotate_left
   ·refine zn (zg ⟨?_,hs⟩)
    rwa [List.take_of_length_le (by omega)] at hbad
   have hil:i<b.rs.length:=by omega
   have hbt:=zcu b.rs i hil hbad
   have hbs':=zct b.rs i hil hbad
   refine z2v hs i hil ?_
   refine zt hs λc w' hs=>?_
   refine zv hs λw' hs=>?_
   refine zb hs ?_
   refine zb hs ?_
   refine zf (λh5=>?_) λh5=>?_
   ·have e:z1y b.rs[i]=7:=by unfold z1y;rw [if_pos (by omega)]
    rw [e] at hbt
    have:=hbt (by decide)
    rw [if_pos (by rw [this];decide),this]
    refine zn (zn ?_)
    exact ⟨rfl,rfl,hs.tail.tail⟩
   refine zb hs ?_
   refine z8 (zc5 b.rs[i].time 0 1099511627776 hs) λ_ _ hs=>?_
   obtain ⟨rfl,hs⟩:=hs
   refine zd ?_
   refine zb hs ?_
   refine zb hs ?_
   refine zf (λh6=>?_) λh6=>?_
   ·have e:z1y b.rs[i]=2:=by
     unfold z1y
     rw [if_neg (by omega),if_pos]
     rcases h6 with h6|⟨h6,h7⟩
     ·exact .inl h6
     ·exact .inr ⟨h6,by omega⟩
    rw [e] at hbt
    have:=hbt (by decide)
    rw [if_pos (by rw [this];decide),this]
    refine zn (zn ?_)
    exact ⟨rfl,rfl,hs.tail.tail⟩
   ·have e:z1y b.rs[i]=0:=by
     unfold z1y
     rw [if_neg (by omega),if_neg]
     rintro (h7|⟨h7,h8⟩)
     ·exact h6 (.inl h7)
     ·exact h6 (.inr ⟨h7,by omega⟩)
    refine z29 (us':=[.int .i64 ((i+1:Nat):Int)]) (by (try simp (disch:=omega) only [w64]);first|rfl|(congr;omega)) ?_
    refine z0z (b.rs.length-(i+1)) ?_
    exact ⟨i+1,rfl,by omega,rfl,hbs' e,hs.sub⟩
  clear hs
  rintro _ w ⟨hbad,hs⟩
  refine zl ?_
  rw [if_neg (by rw [hbad];simp)]
  have hsp:1<=zp b/\zp b<=64:=by
   unfold zp
   have h3:=hfit.2
   split
   ·omega
   ·rename_i hm
    rw [if_neg hm] at h3
    omega
  obtain ⟨-,hba,-,-,hse,-⟩:=hnum
  refine z02 hs λw' hs=>?_
  refine z0s hs ?_
  refine zj hs ?_
  refine z8 (z03u b hs) λ_ w' hs=>?_
  obtain ⟨rfl,hs⟩:=hs
  refine zd ?_ ⟨trivial,λ_=>z07 hs⟩
  refine ze ?_
  rw [w64 (x:=b.base+zp b) (by omega) (by omega),w64 (x:=b.base+zp b-1) (by omega) (by omega)]
  refine zf (λh5=>?_) λh5=>?_
  ·rw [if_pos (.inl (by omega))];exact ⟨rfl,rfl,hs.tail⟩
  refine zm (λv w'=>v=(decide (b.pid>0/\z0b b=false/\b.seq>2147483647-(zp b-1)),())/\Sat w' l) ?_ ?_
  ·refine zb hs ?_
   refine zj hs ?_
   refine zf (λh6=>?_) λh6=>?_
   rotate_left
   ·exact zg ⟨by rw [decide_eq_false (λh=>h6 h.1)],hs.tail⟩
   refine z8 (ze4 b hs) λ_ _ hs=>?_
   obtain ⟨rfl,hs⟩:=hs
   refine zd ?_
   refine zb hs ?_
   refine zb hs ?_
   rw [w64 (x:=b.seq+((b.x.len:Nat):Int)) (by omega) (by omega),w64 (x:=b.seq+((b.x.len:Nat):Int)-1) (by omega) (by omega)]
   refine zg ⟨?_,hs.tail⟩
   have:(b.pid>0/\z0b b=false/\b.seq>2147483647-(zp b-1))↔(z0b b=false/\b.seq+((b.x.len:Nat):Int)-1>2147483647):=by
    constructor
    ·rintro ⟨-,h7,h8⟩
     refine ⟨h7,?_⟩
     unfold zp at h8
     rw [if_neg (by rw [h7];simp)] at h8
     omega
    ·rintro ⟨h7,h8⟩
     refine ⟨h6,h7,?_⟩
     unfold zp
     rw [if_neg (by rw [h7];simp)]
     omega
   rw [decide_eq_decide.2 this,Bool.decide_and]
   cases z0b b <;> rfl
  clear hs
  rintro _ w ⟨rfl,hs⟩
  refine zl ?_
  refine zf (λh6=>?_) λh6=>?_
  ·rw [if_pos (.inr h6)];exact ⟨rfl,rfl,hs⟩
  ·rw [if_neg (λh=>h.elim (λh=>h5 (by omega)) h6)];exact ⟨rfl,rfl,hs⟩
end
structure AtM where
 off:Int
 r:RecM
def zq (a:AtM):List Value:=[.int .i64 a.off,.string a.r.key,.string a.r.value,.bool a.r.gone,.int .i64 a.r.time]
instance:EncA zq [.int .i64,.str,.str,.bool,.int .i64] (λa=>(a.off,a.r.key,a.r.value,a.r.gone,a.r.time,())):=⟨λ_=>rfl⟩
instance:EncN zq 5:=⟨λ_=>rfl,by decide,by simp [zq,Value.oneCell']⟩
def atF (base:Int) (i:Nat) (r:RecM):AtM:=⟨IntKind.wrap .i64 (base+i),r⟩
def z0r (b:BatM):List AtM:=if z0b b then [] else b.rs.mapIdx λi r=>atF b.base i r
def z18 (bs:List BatM):List AtM:=bs.flatMap z0r
theorem zab (b:BatM):(z0r b).length<=b.rs.length:=by unfold z0r;split <;> simp
theorem zjg {n:Nat}:∀ (bs:List BatM),(∀ b ∈ bs,b.rs.length<=n)->(z18 bs).length<=bs.length*n
 | [],_=>by simp [z18]
 | b::r,h=>by
  have h1:=zjg r λc hc=>h c (List.mem_cons_of_mem _ hc)
  have h2:=zab b
  have h3:=h b (List.mem_cons_self ..)
  unfold z18 at h1 ⊢
  rw [List.flatMap_cons,List.length_append,List.length_cons,Nat.succ_mul]
  omega
theorem znp {α β:Type} (f:Nat->α->β) {xs:List α} {i:Nat} (hi:i<xs.length):(xs.take (i+1)).mapIdx f=(xs.take i).mapIdx f++[f i xs[i]]:=by
 rw [List.take_add_one,List.getElem?_eq_getElem hi,Option.toList_some,List.mapIdx_append]
 simp only [List.mapIdx_cons,List.mapIdx_nil,List.length_take]
 rw [Nat.min_eq_left (by omega),Nat.zero_add]
section
variable {w:World} {l r:List HP} {b:BatM}
theorem zql (b:BatM) (hs:Sat w l):Ret P F.a65 #[.agg (z00 b).toArray] w λvs w'=>vs=[.bool (z0b b)]/\Sat w' l :=
 zv0 b.base b.pid b.epoch b.seq b.kind b.time b.x <| by
  delta z08z AP Ai Ak Ao Ax Ba
  refine zr hs λa0 w' hs=>?_
  refine zb hs ?_
  refine zb hs ?_
  refine wp_lt ?_
  exact ⟨rfl,rfl,hs.tail⟩
theorem zwj (x:Sl) (bs:List BatM) [hx:FocR l x 7 (bs.flatMap z00)] (hbs:∀ b ∈ bs,FocR l b.x 4 (b.rs.flatMap zu)) (hn:bs.length<=1000) (hr:∀ b ∈ bs,b.rs.length<=1000) (hs:Sat w l) :
  Ret P F.a95 #[x.v] w λvs w'=>∃ z:Sl,vs=[z.v]/\Sat w' (slc T.a35 5 z ((z18 bs).flatMap zq)::l) :=
 zvr x <| by
  delta z09r AI AJ AK AL AM AN AO AP Aa Ab Ac Af Aj Ak An Av Aw Ba Bb Be
  have hl:=hs.slen x (xs:=bs) (enc:=z00)
  refine zm (λv w'=>∃ z:Sl,v=(z,())/\Sat w' (slc T.a35 5 z ((z18 bs).flatMap zq)::l)) ?_ (by rintro _ w' ⟨z,rfl,hs⟩;refine zl ?_;exact ⟨rfl,z,rfl,hs⟩)
  refine z0c (λk v w=>∃ (i:Nat) (z:Sl),v=(z,(i:Int),())/\i<=bs.length/\bs.length-i=k/\Sat w (slc T.a35 5 z ((z18 (bs.take i)).flatMap zq)::l)) bs.length ⟨0,⟨none,0,0⟩,rfl,by omega,rfl,hs.slc_nil⟩ ?_
  clear hs
  rintro k _ w ⟨i,z,rfl,hi,hk,hs⟩
  refine zl ?_
  refine zf (λhc=>?_) λhc=>?_
  rotate_left
  ·refine zn (zg ⟨z,rfl,?_⟩)
   rw [List.take_of_length_le (by omega)] at hs
   exact hs
  have hil:i<bs.length:=by omega
  have hbx:=hbs _ (List.getElem_mem hil)
  have hbr:=hr _ (List.getElem_mem hil)
  have hto:z18 (bs.take (i+1))=z18 (bs.take i)++z0r bs[i]:=by
   unfold z18
   rw [List.take_add_one,List.getElem?_eq_getElem hil,Option.toList_some,List.flatMap_append,List.flatMap_singleton]
  have hzl:(z18 (bs.take i)).length<=1000000:=by
   have h1:=zjg (n:=1000) (bs.take i) λb hb=>hr b (List.mem_of_mem_take hb)
   have h2:(bs.take i).length<=1000:=by rw [List.length_take];omega
   have:=Nat.mul_le_mul_right 1000 h2
   omega
  refine zm (λv w'=>∃ z:Sl,v=(z,())/\Sat w' (slc T.a35 5 z ((z18 (bs.take (i+1))).flatMap zq)::l)) ?_ ?_
  rotate_left
  ·rintro _ w' ⟨z,rfl,hs⟩
   refine zl ?_
   refine z29 (us':=[z.v,.int .i64 ((i+1:Nat):Int)]) (by (try simp (disch:=omega) only [w64]);first|rfl|(congr;omega)) ?_
   refine z0z (bs.length-(i+1)) ?_
   exact ⟨i+1,z,rfl,by omega,rfl,hs⟩
  refine z2v hs i hil ?_
  refine zt hs λc w' hs=>?_
  refine zv hs λw' hs=>?_
  refine zj hs ?_
  refine z8 (z6z bs[i] hs) λ_ _ hs=>?_
  obtain ⟨rfl,hs⟩:=hs
  refine zd ?_
  refine zf (λhm=>?_) λhm=>?_
  ·refine zg ⟨z,rfl,?_⟩
   rw [hto,z0r,if_pos hm,List.append_nil]
   exact hs.sub
  refine zb hs ?_
  have hrl:=hs.slen bs[i].x (xs:=bs[i].rs) (enc:=zu)
  have hfl:z0r bs[i]=bs[i].rs.mapIdx λj r=>atF bs[i].base j r:=by rw [z0r,if_neg hm]
  refine zm (λv w'=>∃ z:Sl,v=(z,())/\Sat w' (slc T.a35 5 z ((z18 (bs.take i)++bs[i].rs.mapIdx λj r=>atF bs[i].base j r).flatMap zq)::l)) ?_ ?_
  rotate_left
  ·rintro _ w' ⟨z,rfl,hs⟩
   refine zl ?_
   refine zg ⟨z,rfl,?_⟩
   rw [hto,hfl]
   exact hs
  refine z0c (λk v w=>∃ (j:Nat) (z:Sl),v=(z,(j:Int),())/\j<=bs[i].rs.length/\bs[i].rs.length-j=k/\Sat w (slc T.a35 5 z ((z18 (bs.take i)++(bs[i].rs.take j).mapIdx λj r=>atF bs[i].base j r).flatMap zq)::pt c (.cells #[.int .i64 bs[i].base,.int .i64 bs[i].pid,.int .i64 bs[i].epoch,.int .i64 bs[i].seq,.int .i64 bs[i].kind,.int .i64 bs[i].time,.slice bs[i].x.a bs[i].x.len bs[i].x.cap] T.a0)::l)) bs[i].rs.length ⟨0,z,rfl,by omega,rfl,by rw [List.take_zero,List.mapIdx_nil,List.append_nil];exact hs.sub⟩ ?_
  clear hs
  rintro k _ w ⟨j,z,rfl,hj,hk,hs⟩
  refine zl ?_
  refine zf (λhc=>?_) λhc=>?_
  rotate_left
  ·refine zn (zg ⟨z,rfl,?_⟩)
   rw [show bs[i].rs.take j=bs[i].rs from List.take_of_length_le (by omega)] at hs
   exact hs.sub
  have hjl:j<bs[i].rs.length:=by omega
  refine z2v hs j hjl ?_
  refine zt hs λe w' hs=>?_
  refine wp_lt ?_
  refine zv hs λw' hs=>?_
  refine zb hs ?_
  refine zj hs ?_
  refine z5j hs (xs:=z18 (bs.take i)++(bs[i].rs.take j).mapIdx λj r=>atF bs[i].base j r) (enc:=zq) (atF bs[i].base j bs[i].rs[j]) (λz w' hs=>?_) rfl (by rw [List.length_append,List.length_mapIdx,List.length_take];omega)
  refine z29 (us':=[z.v,.int .i64 ((j+1:Nat):Int)]) (by (try simp (disch:=omega) only [w64]);first|rfl|(congr;omega)) ?_
  refine z0z (bs[i].rs.length-(j+1)) ?_
  refine ⟨j+1,z,rfl,by omega,rfl,?_⟩
  rw [znp _ hjl,<- List.append_assoc]
  exact hs.sub
end
def z59:Nat->Nat->List UInt8
 | 0,_=>[]
 | k+1,n=>if n<128 then [UInt8.ofNat n] else UInt8.ofNat (n % 128+128)::z59 k (n / 128)
def z3z (n:Nat):List UInt8:=z59 10 n
def z3y (i:Nat):List UInt8->Option (Nat × Nat)
 | []=>none
 | c::r=>if i>=10\/(i=9/\1<c.toNat) then none else if 128<=c.toNat then (z3y (i+1) r).map λp=>(c.toNat % 128+128*p.1,p.2+1) else if c.toNat=0/\0<i then none else some (c.toNat,1)
theorem z8s (i:Nat) (c:UInt8) (r:List UInt8):z3y i (c::r)=if i>=10\/(i=9/\1<c.toNat) then none else if 128<=c.toNat then (z3y (i+1) r).map λp=>(c.toNat % 128+128*p.1,p.2+1) else if c.toNat=0/\0<i then none else some (c.toNat,1):=rfl
theorem zhr:∀ (k n:Nat),0<k->n<128 ^ k->z59 (k+1) n=z59 k n
 | k+1,n,_,h=>by
  show (if n<128 then _ else _::z59 (k+1) (n / 128))=if n<128 then _ else _::z59 k (n / 128)
  by_cases h1:n<128
  ·rw [if_pos h1,if_pos h1]
  ·rw [if_neg h1,if_neg h1]
   have hk:0<k:=by
    apply Nat.pos_of_ne_zero
    rintro rfl
    simp at h;omega
   rw [zhr k (n / 128) hk]
   rw [Nat.pow_succ] at h
   omega
theorem znc {n:Nat} (h:n<18446744073709551616):z3z n=if n<128 then [UInt8.ofNat n] else UInt8.ofNat (n % 128+128)::z3z (n / 128):=by
 unfold z3z
 rw [zhr 9 (n / 128) (by decide) (by omega)]
 rfl
theorem zkl:∀ (k n:Nat),(z59 k n).length<=k
 | 0,_=>Nat.le_refl _
 | k+1,n=>by
  have:=zkl k (n / 128)
  unfold z59
  split <;> simp <;> omega
theorem zxw (k n:Nat):0<(z59 (k+1) n).length:=by
 unfold z59
 split <;> simp
theorem zar (n:Nat):0<(z3z n).length/\(z3z n).length<=10:=⟨zxw 9 n,zkl 10 n⟩
theorem zmc:∀ (bs:List UInt8) (i v k:Nat),z3y i bs=some (v,k)->0<k/\k<=bs.length/\i+k<=10
 | [],i,v,k,h=>by cases h
 | c::r,i,v,k,h=>by
  unfold z3y at h
  split at h
  ·cases h
  rename_i h1
  split at h
  ·rename_i h2
   cases hr:z3y (i+1) r with
   | none=>rw [hr] at h;cases h
   | some p =>
    rw [hr] at h
    simp only [Option.map_some,Option.some.injEq,Prod.mk.injEq] at h
    have:=zmc r (i+1) p.1 p.2 hr
    simp;omega
  ·split at h
   ·cases h
   ·simp only [Option.some.injEq,Prod.mk.injEq] at h
    simp;omega
theorem zmf:∀ (k i n:Nat) (rest:List UInt8),n<128 ^ k->0<k->n*128 ^ i<18446744073709551616->(0<i->0<n)->i<10->z3y i (z59 k n++rest)=some (n,(z59 k n).length)
 | k+1,i,n,rest,hn,_,h64,hi,hi10=>by
  have hcase:i=0\/i=1\/i=2\/i=3\/i=4\/i=5\/i=6\/i=7\/i=8\/i=9:=by omega
  have h9:i=9->n<2:=λe=>by subst e;simp at h64;omega
  unfold z59
  by_cases h:n<128
  ·rw [if_pos h]
   show (if _ then _ else if _ then _ else if _ then _ else _)=_
   have e:(UInt8.ofNat n).toNat=n:=by simp;omega
   rw [e,if_neg (by omega),if_neg (by omega),if_neg (by omega)]
   rfl
  ·rw [if_neg h]
   have e:(UInt8.ofNat (n % 128+128)).toNat=n % 128+128:=by simp;omega
   have h64':n / 128*128 ^ (i+1)<18446744073709551616:=by
    rw [Nat.pow_succ,Nat.mul_comm (128 ^ i),<- Nat.mul_assoc]
    exact Nat.lt_of_le_of_lt (Nat.mul_le_mul_right _ (Nat.div_mul_le_self n 128)) h64
   have hk:0<k:=by
    apply Nat.pos_of_ne_zero
    rintro rfl
    simp at hn;omega
   have ih:=zmf k (i+1) (n / 128) rest (by rw [Nat.pow_succ] at hn;omega) hk h64' (λ_=>by omega) (by omega)
   rw [List.cons_append]
   show (if _ then _ else if _ then _ else _)=_
   have e3:(n % 128+128) % 128+128*(n / 128)=n:=by omega
   rw [e,if_neg (by omega),if_pos (by omega),ih,Option.map_some,e3,List.length_cons]
theorem zjv {n:Nat} (h:n<18446744073709551616) (rest:List UInt8):z3y 0 (z3z n++rest)=some (n,(z3z n).length) :=
 zmf 10 0 n rest (by omega) (by decide) (by omega) (λh=>absurd h (by decide)) (by decide)
theorem zqz:∀ (bs:List UInt8) (i v k:Nat),i<10->z3y i bs=some (v,k)->bs.take k=z59 (10-i) v/\v*128 ^ i<18446744073709551616/\(0<i->0<v)
 | [],i,v,k,_,h=>by cases h
 | c::r,i,v,k,hi10,h=>by
  have hcase:i=0\/i=1\/i=2\/i=3\/i=4\/i=5\/i=6\/i=7\/i=8\/i=9:=by omega
  have hc:=c.toNat_lt
  unfold z3y at h
  split at h
  ·cases h
  rename_i h1
  split at h
  ·rename_i h2
   cases hr:z3y (i+1) r with
   | none=>rw [hr] at h;cases h
   | some p =>
    rw [hr] at h
    simp only [Option.map_some,Option.some.injEq,Prod.mk.injEq] at h
    obtain ⟨rfl,rfl⟩:=h
    obtain ⟨g1,g2,g3⟩:=zqz r (i+1) p.1 p.2 (by omega) hr
    have hp:=g3 (by omega)
    obtain ⟨m,hm⟩:∃ m,10-i=m+1:=⟨9-i,by omega⟩
    have hm':10-(i+1)=m:=by omega
    rw [hm'] at g1
    refine ⟨?_,?_,λ_=>by omega⟩
    ·rw [hm]
     unfold z59
     rw [if_neg (by omega),List.take_succ_cons,g1]
     have e1:(c.toNat % 128+128*p.1) % 128+128=c.toNat:=by omega
     have e2:(c.toNat % 128+128*p.1) / 128=p.1:=by omega
     rw [e1,e2]
     simp
    ·obtain ⟨m,hm⟩:∃ m,18446744073709551616=m*128 ^ (i+1):=by
      rcases hcase with rfl|rfl|rfl|rfl|rfl|rfl|rfl|rfl|rfl|rfl
      ·exact ⟨2 ^ 57,rfl⟩
      ·exact ⟨2 ^ 50,rfl⟩
      ·exact ⟨2 ^ 43,rfl⟩
      ·exact ⟨2 ^ 36,rfl⟩
      ·exact ⟨2 ^ 29,rfl⟩
      ·exact ⟨2 ^ 22,rfl⟩
      ·exact ⟨2 ^ 15,rfl⟩
      ·exact ⟨2 ^ 8,rfl⟩
      ·exact ⟨2 ^ 1,rfl⟩
      ·omega
     rw [hm] at g2 ⊢
     have hlt:=Nat.lt_of_mul_lt_mul_right g2
     have h5:(p.1+1)*128 ^ (i+1)<=m*128 ^ (i+1):=Nat.mul_le_mul_right _ hlt
     refine Nat.lt_of_lt_of_le ?_ h5
     rw [Nat.pow_succ,Nat.mul_comm (128 ^ i),<- Nat.mul_assoc]
     exact Nat.mul_lt_mul_of_pos_right (by omega) (Nat.pow_pos (by decide))
  ·split at h
   ·cases h
   ·simp only [Option.some.injEq,Prod.mk.injEq] at h
    obtain ⟨rfl,rfl⟩:=h
    obtain ⟨m,hm⟩:∃ m,10-i=m+1:=⟨9-i,by omega⟩
    refine ⟨?_,?_,λ_=>by omega⟩
    ·rw [hm]
     unfold z59
     rw [if_pos (by omega)]
     simp
    ·rcases hcase with rfl|rfl|rfl|rfl|rfl|rfl|rfl|rfl|rfl|rfl <;> simp <;> omega
theorem zme {bs:List UInt8} {v k:Nat} (h:z3y 0 bs=some (v,k)):bs.take k=z3z v/\v<18446744073709551616:=by
 obtain ⟨h1,h2,-⟩:=zqz bs 0 v k (by decide) h
 exact ⟨h1,by simpa using h2⟩
def z0k (x:Sl):List Value:=[.slice x.a x.len x.cap]
instance:Enc1 z0k .slc (λx=>x):=⟨λ_=>rfl⟩
instance:EncN z0k 1:=⟨λ_=>rfl,by decide,by simp [z0k,Value.oneCell']⟩
section
variable {w:World} {l r:List HP} {sz:Nat} {x:Sl}
theorem za9 {α:Type} {enc:α->List Value} [hE:EncN enc sz]:∀ (xs:List α) (n:Nat),(xs.flatMap enc).drop (n*sz)=(xs.drop n).flatMap enc
 | [],n=>by simp
 | x::xs,0=>by simp
 | x::xs,n+1=>by
  rw [List.flatMap_cons,Nat.succ_mul,Nat.add_comm,<- List.drop_drop,List.drop_left' (hE.len x),za9 xs n,List.drop_succ_cons]
theorem FocR.post {α:Type} {enc:α->List Value} [hE:EncN enc sz] {xs:List α} [hf:FocR l x sz (xs.flatMap enc)] {n m c:Nat} (hm:x.len<=m):FocR l ⟨z0w x.a sz n m,x.len-n,c⟩ sz ((xs.drop n).flatMap enc):=⟨λw hs=>by
 obtain ⟨hlen,h0⟩:=hf.rd w hs
 have hl:x.len=xs.length:=(hf.rd w hs).len hE.len hE.pos
 refine ⟨by rw [z3n,List.length_drop,hl],?_⟩
 by_cases hn:x.len-n=0
 ·exact .inl hn
 ·right
  rcases h0 with h0|⟨b,off,arr,T,fr,ha,hb,hc⟩
  ·omega
  ·refine ⟨b,off+n*sz,arr,T,fr,?_,hb,λi hi=>?_⟩
   ·show z0w x.a sz n m=_
    unfold z0w
    rw [if_neg (by omega),ha,Option.map_some,z23]
   ·rw [<- za9,List.length_drop] at hi
    rw [Nat.add_assoc,hc (n*sz+i) (by omega),<- za9,List.getElem?_drop]⟩
end
section
variable {w:World} {l r:List HP} {Q:Post} {S:World->Prop}
theorem zru {P:Program} {t el:TypeId} {sz bytes:Nat} {c:Int} {k:Sl->Prog} [ht:SlT P t el sz bytes] (n:Nat) (hs:Sat w l) (h:∀ x w',Sat w' (slc el sz x []::l)->(k x).wp P S w' Q) (hc:c=n:=by first|rfl|omega) (hb:n*bytes<=281474976710656/\n<=9223372036854775807:=by omega) (hS:∀ w',S w':=by exact λ_=>trivial) :
  (Prog.act (Instr.makeSlice t (.int .i64 0) (.int .i64 c)) sL (u1 k)).wp P S w Q:=by
 subst hc
 obtain ⟨i,z,hi,h2,h3,h4,h5⟩:=ht.parts
 have hrun:=run_make (P:=P) w t el i z ht.ok.1 hi h4 .i64 .i64 0 n (Int.le_refl _) (by omega) (by rw [h3,<- Int.natCast_mul,Nat.mul_comm];omega) (by omega)
 simp only [Int.toNat_zero,Int.toNat_natCast] at hrun
 have hp:=hs.push (o:=.cells (madeCells z.cells (n*i.size)) el) (w':=w.alloc (.cells (madeCells z.cells (n*i.size)) el)) rfl
 refine ⟨(⟨some ⟨w.heap.size,0,none⟩,0,n⟩,()),_,hrun,hS _,h ⟨some ⟨w.heap.size,0,none⟩,0,n⟩ _ ?_⟩
 refine hp.imp λp hp=>.inr ⟨w.heap.size,0,_,_,rfl,hp,by simp,Nat.zero_le _,?_,λi hi=>by simp at hi,z2o _ _⟩
 rw [size_madeCells,h2];simp
theorem zit {P:Program} {T:TypeId} {sz:Nat} {α:Type} {enc:α->List Value} {xs:List α} {i i':Int} {x:Sl} {g g':Prop} {p:Pr} {f:p.D->Prog} (hs:Sat w l) [hf:FocR l x sz (xs.flatMap enc)] [hE:EncN enc sz] [hT:One P T]
  (y:p.D) (hg:g->∃ n,∃ hn:n<xs.length,i=(n:Int)/\enc xs[n]=[p.mk y]) (h:(f y).wp P S w Q) (hgg:g'->g:=by exact id) (hi':i'=i:=by rfl) :
  (Prog.ex [.adr] (c1 λa=>g->0<=i/\i<((x.len:Nat):Int)/\x.a=some a) (u1 λa=>.read g' (ld T (Addr.add a (Int.toNat i'*sz))) (.one (.one p)) (u1 f))).wp P S w Q:=by
 subst hi'
 have hr:=hf.rd w hs
 have hl:x.len=xs.length:=hr.len hE.len hE.pos
 by_cases hgc:g
 ·obtain ⟨n,hn,hin,hen⟩:=hg hgc
  subst hin
  obtain ⟨a,ha,he⟩:=hr.el hE.len (by omega)
  refine ⟨(a,()),λ_=>⟨by omega,by omega,ha⟩,(y,()),λ_=>?_,h⟩
  have:=he n hn
  rw [hen] at this
  have h2:=At.ld1 (P:=P) (T:=T) this rfl
  cases p <;> exact h2
 ·exact ⟨(⟨0,0,none⟩,()),λh=>absurd h hgc,(y,()),λh=>absurd (hgg h) hgc,h⟩
theorem z7h {P:Program} {T:TypeId} {sz:Nat} {α:Type} {enc:α->List Value} {xs:List α} {i i':Int} {j:Nat} {x:Sl} {g g':Prop} {p:Pr} {dec:α->p.D} {f:p.D->Prog} (hs:Sat w l) [hf:FocR l x sz (xs.flatMap enc)] [hE:EncN enc sz] [hD:EncF enc j p dec] [hT:One P T]
  (y:p.D) (hg:g->∃ n,∃ hn:n<xs.length,i=(n:Int)/\dec xs[n]=y) (h:(f y).wp P S w Q) (hgg:g'->g:=by exact id) (hi':i'=i:=by rfl) :
  (Prog.ex [.adr] (c1 λa=>g->0<=i/\i<((x.len:Nat):Int)/\x.a=some a) (u1 λa=>.read g' (ld T (Addr.add (Addr.add a (Int.toNat i'*sz)) j)) (.one (.one p)) (u1 f))).wp P S w Q:=by
 subst hi'
 by_cases hgc:g
 ·obtain ⟨n,hn,hin,hen⟩:=hg hgc
  subst hin hen
  obtain ⟨a,ha,hl,hr⟩:=zec (P:=P) (T:=T) (j:=j) (enc:=enc) (p:=p) (dec:=dec) (x:=x) hs hn
  exact ⟨(a,()),λ_=>⟨by omega,by omega,ha⟩,(dec xs[n],()),λ_=>by rw [Int.toNat_natCast];exact hr,h⟩
 ·exact ⟨(⟨0,0,none⟩,()),λh=>absurd h hgc,(y,()),λh=>absurd (hgg h) hgc,h⟩
theorem z05i {P:Program} {T:TypeId} {sz:Nat} {α:Type} {enc:α->List Value} {xs:List α} {ii:Int} {m j:Nat} {x:Sl} {g':Prop} {p:Pr} {dec:α->p.D} {f:p.D->Prog} (hs:Sat w l) [hf:FocR l x sz (xs.flatMap enc)] [hE:EncN enc sz] [hD:EncF enc j p dec] [hT:One P T]
  (n:Nat) (hn:n<xs.length) (h:(f (dec xs[n])).wp P S w Q) (hm:m=n*sz:=by rfl) (hi:ii=n:=by rfl) :
  (Prog.ex [.adr] (c1 λa=>(0:Int)<=ii/\ii<((x.len:Nat):Int)/\x.a=some a) (u1 λa=>.read g' (ld T (Addr.add (Addr.add a m) j)) (.one (.one p)) (u1 f))).wp P S w Q:=by
 subst hm hi
 obtain ⟨a,ha,hl,hr⟩:=zec (P:=P) (T:=T) (j:=j) (enc:=enc) (p:=p) (dec:=dec) (x:=x) hs hn
 exact ⟨(a,()),⟨by omega,by omega,ha⟩,(dec xs[n],()),λ_=>hr,h⟩
end
instance:ByE P T.a45 T.a52:=⟨by kernel_rfl,by kernel_rfl,by kernel_rfl⟩
instance:StT P T.a49:=⟨by kernel_rfl⟩
theorem z85 (m:Nat) {k:Int} (hk:0<=k):Int.fdiv (m:Int) k=((m / k.toNat:Nat):Int):=by
 obtain ⟨k,rfl⟩:=Int.eq_ofNat_of_zero_le hk
 rw [Int.fdiv_eq_ediv_of_nonneg _ hk];rfl
theorem zdy (m:Nat):IntKind.wrap .u8 (m:Int)=((m % 256:Nat):Int):=by simp [IntKind.wrap,IntKind.bits,IntKind.signed]
theorem zl0 (m:Nat):IntKind.wrap .u32 (m:Int)=((m % 4294967296:Nat):Int):=by simp [IntKind.wrap,IntKind.bits,IntKind.signed]
theorem zhv (m:Nat):IntKind.wrap .u64 (m:Int)=((m % 18446744073709551616:Nat):Int):=by simp [IntKind.wrap,IntKind.bits,IntKind.signed]
theorem z0a8 (m:Nat):(BitVec.toNat (BitVec.ofInt 8 (IntKind.wrap .u8 (m:Int)) ||| BitVec.ofInt 8 128))=m % 128+128:=by
 rw [zdy,BitVec.ofInt_natCast]
 have h:∀ k:Fin 256,(BitVec.ofNat 8 k.val ||| BitVec.ofInt 8 128).toNat=k.val % 128+128:=by decide +kernel
 have:=h ⟨m % 256,by omega⟩
 rw [this]
 show m % 256 % 128+128=_
 omega
theorem z05r (m:Nat) (hm:m<256):(BitVec.toNat (BitVec.ofInt 8 (m:Int) &&& BitVec.ofInt 8 127))=m % 128:=by
 rw [BitVec.ofInt_natCast]
 have h:∀ k:Fin 256,(BitVec.ofNat 8 k.val &&& BitVec.ofInt 8 127).toNat=k.val % 128:=by decide +kernel
 exact h ⟨m,hm⟩
theorem z0ai {n c i:Nat} (hn:n<128 ^ i) (hi:i<=9) (hc:c<256) (h9:i=9->c<=1) :
  IntKind.wrap .u64 (((BitVec.toNat (BitVec.ofInt 64 (n:Int) ||| BitVec.ofInt 64 (IntKind.wrap .u64 (IntKind.wrap .u64 (IntKind.wrap .u8 (((BitVec.toNat (BitVec.ofInt 8 (c:Int) &&& BitVec.ofInt 8 127):Nat):Int)))*2 ^ min (Int.toNat (IntKind.wrap .i64 (7*(i:Int)))) 64))):Nat):Int))=((n+128 ^ i*(c % 128):Nat):Int):=by
 have e1:min (Int.toNat (IntKind.wrap .i64 (7*(i:Int)))) 64=7*i:=by rw [w64 (by omega) (by omega)];omega
 have e2:(2:Nat) ^ (7*i)=128 ^ i:=by rw [Nat.pow_mul]
 have hle:128 ^ i*(c % 128)+128 ^ i<=18446744073709551616:=by
  have hcase:i=0\/i=1\/i=2\/i=3\/i=4\/i=5\/i=6\/i=7\/i=8\/i=9:=by omega
  rcases hcase with rfl|rfl|rfl|rfl|rfl|rfl|rfl|rfl|rfl|rfl <;> simp <;> omega
 rw [z05r c hc,e1,zdy,zhv (c % 128 % 256),show c % 128 % 256 % 18446744073709551616=c % 128 by omega]
 have e3:((c % 128:Nat):Int)*2 ^ (7*i)=((128 ^ i*(c % 128):Nat):Int):=by
  rw [<- e2,Nat.mul_comm (2 ^ (7*i)),Int.natCast_mul];simp
 rw [e3,zhv (128 ^ i*(c % 128)),BitVec.ofInt_natCast,BitVec.ofInt_natCast,BitVec.toNat_or,BitVec.toNat_ofNat,BitVec.toNat_ofNat,Nat.mod_eq_of_lt (show n<2 ^ 64 by omega),Nat.mod_mod,Nat.mod_eq_of_lt (show 128 ^ i*(c % 128)<2 ^ 64 by omega)]
 have h5:=Nat.two_pow_add_eq_or_of_lt (i:=7*i) (b:=n) (by rw [e2];exact hn) (c % 128)
 rw [e2] at h5
 rw [Nat.or_comm,<- h5,zhv,Nat.mod_eq_of_lt (by omega),Nat.add_comm]
section
variable {w:World} {l r:List HP} {Q:Post} {S:World->Prop}
theorem zry (n:Nat) (hn:n<18446744073709551616) (hs:Sat w l):Ret P F.a182 #[.int .u64 (n:Int)] w λvs w'=>∃ z:Sl,vs=[z.v]/\Sat w' (slc T.a52 1 z ((z3z n).flatMap zk)::l) :=
 zpy n <| by
  delta z03h AO Aj Ak Bt
  refine zm (λu w'=>∃ (m:Nat) (z:Sl) (acc:List UInt8),u=((m:Int),z,())/\m<128/\acc.length<=9/\z3z n=acc++[UInt8.ofNat m]/\Sat w' (slc T.a52 1 z (acc.flatMap zk)::l)) ?_ ?_
  ·refine z0c (λk u w=>∃ (z:Sl) (acc:List UInt8),u=((k:Int),z,())/\k<18446744073709551616/\z3z n=acc++z3z k/\Sat w (slc T.a52 1 z (acc.flatMap zk)::l)) n ⟨⟨none,0,0⟩,[],rfl,hn,rfl,hs.slc_nil⟩ ?_
   clear hs
   rintro k _ w ⟨z,acc,rfl,hk,he,hs⟩
   refine zl ?_
   have hal:acc.length<=9:=by
    have h1:=congrArg List.length he
    rw [List.length_append] at h1
    have h2:=zar n
    have h3:=zar k
    omega
   refine zf (λh=>?_) λh=>?_
   ·rw [znc hk,if_neg (by omega)] at he
    refine z5j hs (xs:=acc) (enc:=zk) (UInt8.ofNat (k % 128+128)) (λz w' hs=>?_) ?_
    ·refine z2a (y:=((k / 128:Nat):Int)) ?_ (z85 k (by decide))
     refine z0z (k / 128) ?_
     exact ⟨z,acc++[UInt8.ofNat (k % 128+128)],rfl,by omega,by rw [he];simp,hs⟩
    ·unfold zk
     rw [z0a8,zdy]
     simp
   ·rw [znc hk,if_pos (by omega)] at he
    exact zn (zg ⟨k,z,acc,rfl,by omega,hal,he,hs⟩)
  clear hs
  rintro _ w ⟨m,z,acc,rfl,hm,hal,he,hs⟩
  refine zl ?_
  refine z5j hs (xs:=acc) (enc:=zk) (UInt8.ofNat m) (λz w' hs=>?_) ?_
  ·refine ⟨rfl,z,rfl,?_⟩
   rw [he];exact hs
  ·unfold zk
   rw [zdy]
   simp
theorem zrs (x:Sl) (ps:List (Sl × List UInt8)) [hx:FocR l x 1 ((ps.map Prod.fst).flatMap z0k)] (hps:∀ p ∈ ps,FocR l p.1 1 (p.2.flatMap zk)) (hpl:ps.length<=1000000) (hn:(ps.flatMap Prod.snd).length<=1000000000) (hs:Sat w l) :
  Ret P F.a170 #[x.v] w λvs w'=>∃ z:Sl,vs=[z.v]/\Sat w' (slc T.a52 1 z ((ps.flatMap Prod.snd).flatMap zk)::l) :=
 zpm x <| by
  delta z035 AI AJ AK AO Aa Af Aj Ak An Aw Ay Bd
  have hl:=hs.slen x (xs:=ps.map Prod.fst) (enc:=z0k)
  rw [List.length_map] at hl
  have hstep:∀ i (hi:i<ps.length),(ps.take (i+1)).flatMap Prod.snd=(ps.take i).flatMap Prod.snd++ps[i].2:=λi hi=>by
   rw [List.take_add_one,List.getElem?_eq_getElem hi,Option.toList_some,List.flatMap_append,List.flatMap_singleton]
  have hmany:∀ i,((ps.take i).flatMap Prod.snd).length<=1000000000:=λi=>by
   have:ps.flatMap Prod.snd=(ps.take i).flatMap Prod.snd++(ps.drop i).flatMap Prod.snd:=by rw [<- List.flatMap_append,List.take_append_drop]
   rw [this,List.length_append] at hn
   omega
  refine zm (λu w'=>u=((((ps.flatMap Prod.snd).length:Nat):Int),())/\Sat w' l) ?_ ?_
  ·refine z0c (λk u w=>∃ i:Nat,u=(((((ps.take i).flatMap Prod.snd).length:Nat):Int),(i:Int),())/\i<=ps.length/\ps.length-i=k/\Sat w l) ps.length ⟨0,rfl,by omega,rfl,hs⟩ ?_
   clear hs
   rintro k _ w ⟨i,rfl,hi,hk,hs⟩
   refine zl ?_
   refine zf (λhc=>?_) λhc=>?_
   rotate_left
   ·refine zn (zg ⟨?_,hs⟩)
    rw [List.take_of_length_le (by omega)]
   have hil:i<ps.length:=by omega
   refine z27 hs (xs:=ps.map Prod.fst) (enc:=z0k) i (by rw [List.length_map];exact hil) ?_
   rw [List.getElem_map]
   have hF:=hps _ (List.getElem_mem hil)
   have hpi:=hs.slen ps[i].1 (xs:=ps[i].2) (enc:=zk)
   have h1:=hmany (i+1)
   have h2:=congrArg List.length (hstep i hil)
   rw [List.length_append] at h2
   have e:IntKind.wrap .i64 (((((ps.take i).flatMap Prod.snd).length:Nat):Int)+((ps[i].1.len:Nat):Int))=((((ps.take (i+1)).flatMap Prod.snd).length:Nat):Int):=by rw [w64 (by omega) (by omega)];omega
   refine z83 e ?_
   refine z29 (us':=[.int .i64 ((((ps.take (i+1)).flatMap Prod.snd).length:Nat):Int),.int .i64 ((i+1:Nat):Int)]) (by (try simp (disch:=omega) only [w64]);first|rfl|(congr;omega)) ?_
   refine z0z (ps.length-(i+1)) ?_
   exact ⟨i+1,rfl,by omega,rfl,hs⟩
  clear hs
  rintro _ w ⟨rfl,hs⟩
  refine zl ?_
  refine zru (ps.flatMap Prod.snd).length hs λz w' hs=>?_
  refine zm (λu w'=>∃ z:Sl,u=(z,())/\Sat w' (slc T.a52 1 z ((ps.flatMap Prod.snd).flatMap zk)::l)) ?_ (by rintro _ w' ⟨z,rfl,hs⟩;refine zl ?_;exact ⟨rfl,z,rfl,hs⟩)
  refine z0c (λk u w=>∃ (i:Nat) (z:Sl),u=(z,(i:Int),())/\i<=ps.length/\ps.length-i=k/\Sat w (slc T.a52 1 z (((ps.take i).flatMap Prod.snd).flatMap zk)::l)) ps.length ⟨0,z,rfl,by omega,rfl,hs⟩ ?_
  clear hs
  rintro k _ w ⟨i,z,rfl,hi,hk,hs⟩
  refine zl ?_
  refine zf (λhc=>?_) λhc=>?_
  rotate_left
  ·refine zn (zg ⟨z,rfl,?_⟩)
   rw [List.take_of_length_le (by omega)] at hs
   exact hs
  have hil:i<ps.length:=by omega
  refine z27 hs (xs:=ps.map Prod.fst) (enc:=z0k) i (by rw [List.length_map];exact hil) ?_
  rw [List.getElem_map]
  have hF:=hps _ (List.getElem_mem hil)
  have h1:=hmany (i+1)
  rw [hstep i hil,List.length_append] at h1
  refine wp_app' (xs:=(ps.take i).flatMap Prod.snd) (ys:=ps[i].2) (enc:=zk) hs (λz w' hs=>?_)
  rw [<- hstep i hil] at hs
  refine z29 (us':=[z.v,.int .i64 ((i+1:Nat):Int)]) (by (try simp (disch:=omega) only [w64]);first|rfl|(congr;omega)) ?_
  refine z0z (ps.length-(i+1)) ?_
  exact ⟨i+1,z,rfl,by omega,rfl,hs⟩
theorem zld (x:Sl) (bs:List UInt8) [hx:FocR l x 1 (bs.flatMap zk)] (hn:bs.length<=1000000000) (hs:Sat w l) :
  Ret P F.a0 #[x.v] w λvs w'=>∃ z:Sl,vs=[z.v]/\Sat w' (slc T.a52 1 z (bs.flatMap zk)::l) :=
 zko x <| by
  delta zf0 AO Aj Ak
  have hl:=hs.slen x (xs:=bs) (enc:=zk)
  refine zf (λh=>?_) λh=>?_
  ·have h:x.a=none:=by simpa using h
   have:bs=[]:=by
    obtain ⟨h1,h2|⟨b,off,arr,T',fr,ha,-⟩⟩:=hx.rd w hs
    ·exact List.length_eq_zero_iff.1 (by omega)
    ·rw [h] at ha;cases ha
   subst this
   exact ⟨rfl,⟨none,0,0⟩,rfl,hs.slc_nil⟩
  ·refine z9i hs (enc:=zk) [] bs0 (λb w' hs=>?_)
   refine wp_app' (xs:=[]) (ys:=bs) (enc:=zk) hs (λz w' hs=>?_) (by simp;omega)
   exact ⟨rfl,z,rfl,hs⟩
structure RdM where
 bs:List UInt8
 at_:Nat
 e:Int
def RdM.fail (R:RdM) (e:Int):RdM:=⟨R.bs,R.at_,if R.e=0 then e else R.e⟩
def RdM.uint (R:RdM):Nat × RdM:=if R.e≠0 then (0,R) else match z3y 0 (R.bs.drop R.at_) with
 | some p=>(p.1,⟨R.bs,R.at_+p.2,R.e⟩)
 | none=>(0,⟨R.bs,R.at_,6⟩)
def RdM.done (R:RdM):RdM:=if R.at_<R.bs.length then R.fail 6 else R
def rdP (T':TypeId) (p:Nat) (R:RdM):HP:=HP.ex λx:Sl=>HP.and (R.at_<=R.bs.length/\R.bs.length<=1000000000) (HP.star (pt p (.cells #[.slice x.a x.len x.cap,.int .i64 R.at_,.int .i64 R.e] T')) (slc T.a52 1 x (R.bs.flatMap zk)))
theorem z2c {T':TypeId} {p:Nat} {R:RdM} (hs:Sat w (rdP T' p R::l)):∃ x:Sl,(R.at_<=R.bs.length/\R.bs.length<=1000000000)/\Sat w (pt p (.cells #[.slice x.a x.len x.cap,.int .i64 R.at_,.int .i64 R.e] T')::slc T.a52 1 x (R.bs.flatMap zk)::l):=by
 obtain ⟨x,hs⟩:=hs.ex
 obtain ⟨h,hs⟩:=hs.and
 exact ⟨x,h,hs.star⟩
theorem z1a {T':TypeId} {p:Nat} (R:RdM) {x:Sl} (h:R.at_<=R.bs.length/\R.bs.length<=1000000000) (hs:Sat w (pt p (.cells #[.slice x.a x.len x.cap,.int .i64 R.at_,.int .i64 R.e] T')::slc T.a52 1 x (R.bs.flatMap zk)::l)):Sat w (rdP T' p R::l) :=
 .ex_mk x (.and_mk h (.star_mk hs))
theorem zrr (R:RdM):(R.uint.2).bs=R.bs:=by
 unfold RdM.uint
 split
 ·rfl
 ·split <;> rfl
variable {p:Nat} {R:RdM}
theorem znr (x:Sl) (bs:List UInt8) [hx:FocR l x 1 (bs.flatMap zk)] (hn:bs.length<=1000000000) (hs:Sat w l) :
  Ret P F.a171 #[x.v] w λvs w'=>∃ p:Nat,vs=[.pointer (some ⟨p,0,none⟩)]/\Sat w' (rdP T.a54 p ⟨bs,0,0⟩::l) :=
 zpn x <| by
  delta z036 AT Aa Ai Ak Ar
  refine z8 (zld x bs hn hs) λ_ _ hs=>?_
  obtain ⟨z,rfl,hs⟩:=hs
  refine zd ?_
  refine zr hs λp w' hs=>?_
  exact ⟨rfl,p,rfl,z1a ⟨bs,0,0⟩ ⟨Nat.zero_le _,hn⟩ hs⟩
theorem zdd [hf:Fo l (rdP T.a54) p R r] (hs:Sat w l):Ret P F.a184 #[.pointer (some ⟨p,0,none⟩)] w λvs w'=>vs=[.int .i64 ((R.bs.length-R.at_:Nat):Int)]/\Sat w' (rdP T.a54 p R::r) :=
 zq0 _ <| by
  delta z03j AC AG AI AP AY Aa Af Ak An Aw
  obtain ⟨x,hb,hs⟩:=z2c (hs.perm hf.perm)
  have hl:=hs.slen x (xs:=R.bs) (enc:=zk)
  refine z02 hs λw' hs=>?_
  refine zi ?_
  refine zb hs ?_
  refine zi ?_
  refine zb hs ?_
  refine z2a (y:=((R.bs.length-R.at_:Nat):Int)) ?_ (by rw [w64 (by omega) (by omega)];omega)
  refine ze ?_
  exact ⟨rfl,rfl,z1a R hb hs⟩
theorem z7m (e:Int) [hf:Fo l (rdP T.a54) p R r] (hs:Sat w l):Ret P F.a183 #[.pointer (some ⟨p,0,none⟩),.int .i64 e] w λvs w'=>vs=[]/\Sat w' (rdP T.a54 p (R.fail e)::r) :=
 zpz _ e <| by
  delta z03i AH AP AY Aa Aj Ak Al
  obtain ⟨x,hb,hs⟩:=z2c (hs.perm hf.perm)
  refine zi ?_
  refine zb hs ?_
  refine zm (λ_ w'=>Sat w' (rdP T.a54 p (R.fail e)::r)) ?_ (by rintro _ w' hs;refine zl ?_;exact ⟨rfl,rfl,hs⟩)
  refine zf (λh=>?_) λh=>?_
  ·refine zi ?_
   refine z08 hs λw' hs=>?_
   refine zg ?_
   have e1:R.fail e=⟨R.bs,R.at_,e⟩:=by unfold RdM.fail;rw [if_pos h]
   rw [e1]
   exact z1a ⟨R.bs,R.at_,e⟩ hb hs
  ·have e1:R.fail e=R:=by unfold RdM.fail;rw [if_neg h]
   rw [e1]
   exact zg (z1a R hb hs)
theorem zr8 [hf:Fo l (rdP T.a54) p R r] (he:R.e=0) (hs:Sat w l):Ret P F.a186 #[.pointer (some ⟨p,0,none⟩)] w λvs w'=>vs=[.int .u64 ((R.uint.1:Nat):Int)]/\Sat w' (rdP T.a54 p R.uint.2::r) :=
 zq2 _ <| by
  delta z03l AA AC AG AH AI AP AY Aa Af Ah Aj Ak Al An Aw BK BL Bh Bt
  have hs:=hs.perm hf.perm
  refine zm (λ_ w'=>z3y 0 (R.bs.drop R.at_)=none/\Sat w' (rdP T.a54 p R::r)) ?_ ?_
  rotate_left
  ·rintro _ w' ⟨hno,hs⟩
   refine zl ?_
   refine z8 (z7m (p:=p) 6 hs) λ_ _ hs=>?_
   obtain ⟨rfl,hs⟩:=hs
   refine zd ?_
   have e1:R.uint=(0,R.fail 6):=by unfold RdM.uint RdM.fail;rw [if_neg (by rw [he];simp),hno,if_pos he]
   rw [e1]
   exact ⟨rfl,rfl,hs⟩
  refine z0c (λk u w=>∃ i n:Nat,u=((n:Int),(i:Int),())/\i<=10/\10-i=k/\n<128 ^ i/\z3y 0 (R.bs.drop R.at_)=(z3y i ((R.bs.drop R.at_).drop i)).map (λq=>(n+128 ^ i*q.1,i+q.2))/\Sat w (rdP T.a54 p R::r)) 10
   ⟨0,0,rfl,by omega,rfl,by simp,by simp,hs⟩ ?_
  clear hs
  rintro k _ w ⟨i,n,rfl,hi,hk,hn,hnum,hs⟩
  refine zl ?_
  refine zf (λhc=>?_) λhc=>?_
  rotate_left
  ·refine zn (zg ⟨?_,hs⟩)
   rw [hnum]
   have:z3y i ((R.bs.drop R.at_).drop i)=none:=by
    cases (R.bs.drop R.at_).drop i with
    | nil=>rfl
    | cons c q=>rw [z8s,if_pos (by omega)]
   rw [this];rfl
  refine z8 (zdd (p:=p) hs) λ_ _ hs=>?_
  obtain ⟨rfl,hs⟩:=hs
  refine zd ?_
  refine zf (λhc2=>?_) λhc2=>?_
  ·refine zn (zg ⟨?_,hs⟩)
   rw [hnum,List.drop_drop,List.drop_eq_nil_of_le (by omega)];rfl
  obtain ⟨x,hb,hs⟩:=z2c hs
  have hl:=hs.slen x (xs:=R.bs) (enc:=zk)
  have hlt:R.at_+i<R.bs.length:=by omega
  refine z02 hs λw' hs=>?_
  refine zi ?_
  refine zb hs ?_
  refine zi ?_
  refine zb hs ?_
  refine z27 hs (xs:=R.bs) (enc:=zk) (R.at_+i) hlt ?_ (by rw [w64 (by omega) (by omega)];omega)
  rw [List.drop_drop,List.drop_eq_getElem_cons hlt] at hnum
  generalize R.bs[R.at_+i]=c at hnum
  have hc256:=c.toNat_lt
  refine wp_lt ?_
  refine ze ?_
  have hz:∀ {X:Option (Nat × Nat)},z3y i (c::R.bs.drop (R.at_+i+1))=X->z3y 0 (R.bs.drop R.at_)=X.map (λq=>(n+128 ^ i*q.1,i+q.2)):=λ{X} h=>by rw [hnum,h]
  refine zf (λh9=>?_) λh9=>?_
  ·refine zn (zg ⟨?_,z1a R hb hs⟩)
   refine hz (X:=none) ?_
   rw [z8s]
   rw [if_pos (by right;omega)]
  refine wp_must (by rw [w64 (by omega) (by omega)];omega) ?_
  have h91:i=9->c.toNat<=1:=λe=>by
   apply Nat.le_of_not_lt
   intro h
   exact h9 ⟨by omega,by omega⟩
  rw [z0ai hn (by omega) (by omega) h91]
  refine wp_lt ?_
  refine zf (λh128=>?_) λh128=>?_
  ·refine z2a (y:=((i+1:Nat):Int)) ?_ (by rw [w64 (by omega) (by omega)];omega)
   refine z0z (10-(i+1)) ?_
   have hpos:0<128 ^ i:=Nat.pow_pos (by decide)
   have hmul:128 ^ i*(c.toNat % 128)<=128 ^ i*127:=Nat.mul_le_mul_left _ (by omega)
   refine ⟨i+1,_,rfl,by omega,rfl,by rw [Nat.pow_succ];omega,?_,z1a R hb hs⟩
   rw [hnum]
   rw [z8s]
   rw [if_neg (by omega),if_pos (by omega),List.drop_drop,<- Nat.add_assoc]
   cases z3y (i+1) (R.bs.drop (R.at_+i+1)) with
   | none=>rfl
   | some q =>
    simp only [Option.map_some,Option.some.injEq,Prod.mk.injEq]
    refine ⟨?_,by omega⟩
    rw [Nat.pow_succ,Nat.mul_add,Nat.mul_assoc,Nat.add_assoc]
  refine zf (λh0=>?_) λh0=>?_
  ·refine zn (zg ⟨?_,z1a R hb hs⟩)
   refine hz (X:=none) ?_
   rw [z8s]
   rw [if_neg (by omega),if_neg (by omega),if_pos (by omega)]
  have hsome:=hz (X:=some (c.toNat,1)) (by rw [z8s,if_neg (by omega),if_neg (by omega),if_neg (by omega)])
  have e1:R.uint=(n+128 ^ i*c.toNat,⟨R.bs,R.at_+(i+1),R.e⟩):=by
   unfold RdM.uint
   rw [if_neg (by rw [he];simp),hsome];rfl
  rw [e1]
  refine zi ?_
  refine zb hs ?_
  refine zi ?_
  have e2:IntKind.wrap .i64 ((R.at_:Int)+IntKind.wrap .i64 ((i:Int)+1))=((R.at_+(i+1):Nat):Int):=by rw [w64 (x:=(i:Int)+1) (by omega) (by omega),w64 (by omega) (by omega)];omega
  rw [e2]
  refine z08 hs λw' hs=>?_
  refine wp_lt ?_
  refine zn (zn ⟨rfl,?_,z1a ⟨R.bs,R.at_+(i+1),R.e⟩ ⟨by show R.at_+(i+1)<=R.bs.length;omega,hb.2⟩ hs⟩)
  rw [show c.toNat % 128=c.toNat by omega]
theorem zd7 [hf:Fo l (rdP T.a54) p R r] (hs:Sat w l):Ret P F.a180 #[.pointer (some ⟨p,0,none⟩)] w λvs w'=>vs=[.bool (decide (R.e=0))]/\Sat w' (rdP T.a54 p R::r) :=
 zpw _ <| by
  delta z03f Ak Ao Ax Bk
  obtain ⟨x,hb,hs⟩:=z2c (hs.perm hf.perm)
  refine z0n ?_
  refine zb hs ?_
  refine wp_lt ?_
  refine ⟨rfl,?_,z1a R hb hs⟩
  by_cases h:R.e=0 <;> simp [h]
theorem zrf [hf:Fo l (rdP T.a54) p R r] (hs:Sat w l):Ret P F.a178 #[.pointer (some ⟨p,0,none⟩)] w λvs w'=>vs=[.int .u64 ((R.uint.1:Nat):Int)]/\Sat w' (rdP T.a54 p R.uint.2::r) :=
 zpu _ <| by
  delta z03d AY Ah Aj Ak Av BG Bs Bt
  refine z8 (zd7 (p:=p) hs) λ_ _ hs=>?_
  obtain ⟨rfl,hs⟩:=hs
  refine zd ?_
  refine zf (λh=>?_) λh=>?_
  ·have h:R.e≠0:=by simpa using h
   have e1:R.uint=(0,R):=by unfold RdM.uint;rw [if_pos h]
   rw [e1]
   exact ⟨rfl,rfl,hs⟩
  ·have h:R.e=0:=by simpa using h
   refine zi ?_
   refine z8 (zr8 (p:=p) h hs) λ_ _ hs=>?_
   obtain ⟨rfl,hs⟩:=hs
   refine zd ?_
   refine wp_lt ?_
   exact ⟨rfl,rfl,hs⟩
theorem z071 [hf:Fo l (rdP T.a54) p R r] (hs:Sat w l):Ret P F.a174 #[.pointer (some ⟨p,0,none⟩)] w λvs w'=>vs=[.int .i64 R.e]/\Sat w' (rdP T.a54 p R::r) :=
 zpq _ <| by
  delta z039 AP AY Aa Af Aj Ak
  obtain ⟨x,hb,hs⟩:=z2c (hs.perm hf.perm)
  refine z03 ?_ (by simp)
  refine zi ?_
  refine zb hs ?_
  refine wp_lt ?_
  exact ⟨rfl,rfl,z1a R hb hs⟩
theorem z070 [hf:Fo l (rdP T.a54) p R r] (hs:Sat w l):Ret P F.a173 #[.pointer (some ⟨p,0,none⟩)] w λvs w'=>vs=[.int .i64 R.done.e]/\Sat w' (rdP T.a54 p R.done::r) :=
 zpp _ <| by
  delta z038 AA AP AY Aa Af Aj Ak Al BG Bh
  refine z03 ?_ (by simp)
  refine zi ?_
  refine z8 (zdd (p:=p) hs) λ_ _ hs=>?_
  obtain ⟨rfl,hs⟩:=hs
  refine zd ?_
  refine zm (λ_ w'=>Sat w' (rdP T.a54 p R.done::r)) ?_ ?_
  ·unfold RdM.done
   refine zf (λh=>?_) λh=>?_
   ·rw [if_pos (by omega)]
    refine zi ?_
    refine z8 (z7m (p:=p) 6 hs) λ_ _ hs=>?_
    obtain ⟨rfl,hs⟩:=hs
    refine zd ?_
    exact zg hs
   ·rw [if_neg (by omega)]
    exact zg hs
  clear hs
  rintro _ w hs
  refine zl ?_
  obtain ⟨x,hb,hs⟩:=z2c hs
  refine zi ?_
  refine zb hs ?_
  refine wp_lt ?_
  exact ⟨rfl,rfl,z1a R.done hb hs⟩
end
theorem z0ab {n:Int} (h:0<=n/\n<9223372036854775808):IntKind.wrap .u64 n=((n.toNat:Nat):Int):=by
 obtain ⟨m,rfl⟩:=Int.eq_ofNat_of_zero_le h.1
 show IntKind.wrap .u64 ((m:Nat):Int)=_
 rw [zhv];omega
def uI (n:Int):List UInt8:=z3z n.toNat
theorem z22 (n:Int):0<(uI n).length/\(uI n).length<=10:=zar _
section
variable {w:World} {l r:List HP} {Q:Post} {S:World->Prop}
theorem z5i (n:Int) (hn:0<=n/\n<9223372036854775808) (hs:Sat w l):Ret P F.a182 #[.int .u64 (IntKind.wrap .u64 n)] w λvs w'=>∃ z:Sl,vs=[z.v]/\Sat w' (slc T.a52 1 z ((uI n).flatMap zk)::l):=by
 rw [z0ab hn]
 exact zry n.toNat (by omega) hs
theorem z00u (x a b c:Sl) (aa bs cs:List UInt8) [hx:FocR l x 1 ([a,b,c].flatMap z0k)] [ha:FocR l a 1 (aa.flatMap zk)] [hb:FocR l b 1 (bs.flatMap zk)] [hc:FocR l c 1 (cs.flatMap zk)] (hn:aa.length+bs.length+cs.length<=1000000000) (hs:Sat w l) :
  Ret P F.a170 #[x.v] w λvs w'=>∃ z:Sl,vs=[z.v]/\Sat w' (slc T.a52 1 z ((aa++(bs++cs)).flatMap zk)::l):=by
 have:=@zrs w l x [(a,aa),(b,bs),(c,cs)] hx (by
  intro p hp
  rcases List.mem_cons.1 hp with rfl|hp
  ·exact ha
  rcases List.mem_cons.1 hp with rfl|hp
  ·exact hb
  ·rw [List.mem_singleton.1 hp];exact hc) (by simp) (by simp;omega) hs
 simpa using this
theorem z00v (x a b c d:Sl) (aa bs cs ds:List UInt8) [hx:FocR l x 1 ([a,b,c,d].flatMap z0k)] [ha:FocR l a 1 (aa.flatMap zk)] [hb:FocR l b 1 (bs.flatMap zk)] [hc:FocR l c 1 (cs.flatMap zk)] [hd:FocR l d 1 (ds.flatMap zk)]
  (hn:aa.length+bs.length+cs.length+ds.length<=1000000000) (hs:Sat w l) :
  Ret P F.a170 #[x.v] w λvs w'=>∃ z:Sl,vs=[z.v]/\Sat w' (slc T.a52 1 z ((aa++(bs++(cs++ds))).flatMap zk)::l):=by
 have:=@zrs w l x [(a,aa),(b,bs),(c,cs),(d,ds)] hx (by
  intro p hp
  rcases List.mem_cons.1 hp with rfl|hp
  ·exact ha
  rcases List.mem_cons.1 hp with rfl|hp
  ·exact hb
  rcases List.mem_cons.1 hp with rfl|hp
  ·exact hc
  ·rw [List.mem_singleton.1 hp];exact hd) (by simp) (by simp;omega) hs
 simpa using this
theorem z9h {P:Program} {t:TypeId} {sz:Nat} {α:Type} {enc:α->List Value} {n:Nat} {ps:Array (Nat × Value)} {el:TypeId} {bytes:Nat} {k:Sl->Prog} (hs:Sat w l) [ht:SlT P t el sz bytes] [hE:EncN enc sz] (xs:List α)
  (h:∀ x w',Sat w' (slc el sz x (xs.flatMap enc)::l)->(k x).wp P S w' Q) (hc:z42 P t n ps=some (el,(xs.flatMap enc).toArray):=by kernel_rfl) (hn:xs.length=n:=by rfl) (hS:∀ w',S w':=by exact λ_=>trivial) :
  (Prog.act (Instr.buildSlice t n ps) sL (u1 k)).wp P S w Q:=z9i hs xs hc (λb w' hs=>h _ w' hs) (by simp) hn hS
end
def z52 (R:RdM):List UInt8:=R.bs.drop R.at_
theorem zte {R:RdM} (hb:R.at_<=R.bs.length) :
  (R.e=0/\R.uint.1<18446744073709551616/\R.uint.2.e=0/\R.uint.2.at_<=R.uint.2.bs.length/\R.uint.2.bs=R.bs/\z52 R=z3z R.uint.1++z52 R.uint.2) \/
  (R.uint.1=0/\R.uint.2.e≠0/\R.uint.2.at_<=R.uint.2.bs.length/\(R.e=0->∀ m z,m<18446744073709551616->z52 R≠z3z m++z)):=by
 unfold RdM.uint z52
 by_cases h0:R.e=0
 ·rw [if_neg (by rw [h0];simp)]
  cases hn:z3y 0 (R.bs.drop R.at_) with
  | none =>
   refine .inr ⟨rfl,(show (6:Int)≠0 by decide),hb,λ_ m z hm he=>?_⟩
   rw [he,zjv hm] at hn
   cases hn
  | some p =>
   obtain ⟨v,k⟩:=p
   obtain ⟨h1,h2⟩:=zme hn
   have h3:=zmc _ _ _ _ hn
   rw [List.length_drop] at h3
   refine .inl ⟨h0,h2,h0,by show R.at_+k<=R.bs.length;omega,rfl,?_⟩
   show R.bs.drop R.at_=z3z v++R.bs.drop (R.at_+k)
   rw [<- h1,<- List.drop_drop,List.take_append_drop]
 ·rw [if_pos h0]
  exact .inr ⟨rfl,h0,hb,λh=>absurd h h0⟩
theorem zmr {R:RdM}:(z52 R).length=R.bs.length-R.at_:=by unfold z52;rw [List.length_drop]
theorem z6n {w:World} {l:List HP} {T':TypeId} {p:Nat} {R:RdM} (hs:Sat w (rdP T' p R::l)):R.at_<=R.bs.length/\R.bs.length<=1000000000:=by
 obtain ⟨x,h,-⟩:=z2c hs
 exact h
theorem zs8 {R:RdM} (hb:R.at_<=R.bs.length):R.done.e=0↔R.e=0/\z52 R=[]:=by
 have hl:=zmr (R:=R)
 unfold RdM.done RdM.fail
 by_cases h:R.at_<R.bs.length
 ·rw [if_pos h]
  constructor
  ·intro h2
   by_cases h3:R.e=0
   ·simp [h3] at h2
   ·simp [h3] at h2
  ·rintro ⟨-,h2⟩
   rw [h2] at hl;simp at hl;omega
 ·rw [if_neg h]
  exact ⟨λh2=>⟨h2,List.length_eq_zero_iff.1 (by omega)⟩,λh2=>h2.1⟩
def zig (n:Int):Nat:=if 0<=n then (2*n).toNat else (-2*n-1).toNat
def zag (m:Nat):Int:=if m % 2=1 then -((m / 2:Nat):Int)-1 else ((m / 2:Nat):Int)
def z5y (n:Int):List UInt8:=z3z (zig n)
theorem z05p (n:Int):zag (zig n)=n:=by
 unfold zag zig
 split <;> split <;> omega
theorem z05q (m:Nat):zig (zag m)=m:=by
 unfold zag zig
 split <;> split <;> omega
theorem zyd {n:Int} (h : -9223372036854775808<=n/\n<9223372036854775808):zig n<18446744073709551616:=by
 unfold zig
 split <;> omega
theorem zka (n:Int):0<(z5y n).length/\(z5y n).length<=10:=zar _
theorem xor_zero (x:BitVec 64):x ^^^ BitVec.ofInt 64 0=x:=by
 have:BitVec.ofInt 64 0=0#64:=by decide
 rw [this,BitVec.xor_zero]
theorem zni (x:BitVec 64) {n:Int} (hn:BitVec.ofInt 64 n=BitVec.allOnes 64):(x ^^^ BitVec.ofInt 64 n).toNat=18446744073709551615-x.toNat:=by
 rw [hn,BitVec.xor_allOnes,BitVec.toNat_not]
theorem toNat_ofInt (n:Int):(BitVec.ofInt 64 n).toNat=(n % 18446744073709551616).toNat:=by rw [BitVec.toNat_ofInt];rfl
theorem z8h (n:Int):IntKind.wrap .u64 n=n % 18446744073709551616:=by simp [IntKind.wrap,IntKind.bits,IntKind.signed]
theorem z064 {n:Int} (h : -9223372036854775808<=n/\n<9223372036854775808):Int.fdiv n 9223372036854775808=if 0<=n then 0 else -1:=by
 rw [Int.fdiv_eq_ediv_of_nonneg _ (by omega)]
 split <;> omega
theorem z014 {n:Int} (h : -9223372036854775808<=n/\n<9223372036854775808) :
  (BitVec.toNat (BitVec.ofInt 64 (IntKind.wrap .u64 (IntKind.wrap .u64 n*2)) ^^^ BitVec.ofInt 64 (IntKind.wrap .u64 (Int.fdiv n 9223372036854775808))))=zig n:=by
 rw [z064 h,z8h,z8h]
 unfold zig
 by_cases h0:0<=n
 ·rw [if_pos h0,if_pos h0,z8h,Int.zero_emod,xor_zero,toNat_ofInt];omega
 ·rw [if_neg h0,if_neg h0,zni _ (by rw [z8h];decide),toNat_ofInt];omega
theorem z00y {m:Nat} (h:m<18446744073709551616) :
  IntKind.wrap .i64 (((BitVec.toNat (BitVec.ofInt 64 (IntKind.wrap .i64 (Int.fdiv (m:Int) 2)) ^^^ BitVec.ofInt 64 (IntKind.wrap .i64 (0-IntKind.wrap .i64 (IntKind.wrap .u64 (((BitVec.toNat (BitVec.ofInt 64 (m:Int) &&& BitVec.ofInt 64 1):Nat):Int)))))):Nat):Int))=zag m:=by
 have e1:(BitVec.toNat (BitVec.ofInt 64 (m:Int) &&& BitVec.ofInt 64 1))=m % 2:=by
  rw [BitVec.toNat_and,toNat_ofInt,toNat_ofInt]
  have h1:((m:Int) % 18446744073709551616).toNat=m:=by omega
  have h2:((1:Int) % 18446744073709551616).toNat=1:=by decide
  rw [h1,h2,Nat.and_one_is_mod]
 have e2:Int.fdiv (m:Int) 2=((m / 2:Nat):Int):=by rw [Int.fdiv_eq_ediv_of_nonneg _ (by omega)];omega
 rw [e1,e2,z8h,w64 (x:=((m / 2:Nat):Int)) (by omega) (by omega)]
 unfold zag
 by_cases h0:m % 2=1
 ·rw [if_pos h0,h0]
  have e3:IntKind.wrap .i64 (0-IntKind.wrap .i64 ((((1:Nat):Int)) % 18446744073709551616)) = -1:=by decide
  rw [e3,zni _ (by decide),toNat_ofInt]
  have e4:((((m / 2:Nat):Int)) % 18446744073709551616).toNat=m / 2:=by omega
  rw [e4]
  have e5:IntKind.wrap .i64 ((18446744073709551615-m / 2:Nat):Int) = -((m / 2:Nat):Int)-1:=by
   rw [ziu];split <;> omega
  exact e5
 ·rw [if_neg h0]
  have h2:m % 2=0:=by omega
  rw [h2]
  have e3:IntKind.wrap .i64 (0-IntKind.wrap .i64 ((((0:Nat):Int)) % 18446744073709551616))=0:=by decide
  rw [e3,xor_zero,toNat_ofInt]
  have e4:((((m / 2:Nat):Int)) % 18446744073709551616).toNat=m / 2:=by omega
  rw [e4,w64 (by omega) (by omega)]
def RdM.within (R:RdM) (lo hi:Int):Int × RdM :=
 if R.uint.2.e≠0 then (0,R.uint.2) else if zag R.uint.1<lo\/zag R.uint.1>hi then (0,⟨R.bs,R.at_,8⟩) else (zag R.uint.1,R.uint.2)
theorem znd {R:RdM} (h:R.e≠0):R.uint=(0,R):=by unfold RdM.uint;rw [if_pos h]
section
variable {w:World} {l r:List HP} {p:Nat} {R:RdM}
theorem z05o (n:Int) (hn : -9223372036854775808<=n/\n<9223372036854775808) (hs:Sat w l):Ret P F.a169 #[.int .i64 n] w λvs w'=>∃ z:Sl,vs=[z.v]/\Sat w' (slc T.a52 1 z ((z5y n).flatMap zk)::l) :=
 zpl n <| by
  delta z034 AT Ak;unfold z5y
  have hz:=zyd hn
  rw [z014 hn]
  generalize zig n=m at hz ⊢
  rw [zhv,Nat.mod_eq_of_lt hz]
  refine z8 (zry m hz hs) λ_ _ hs=>?_
  obtain ⟨z,rfl,hs⟩:=hs
  refine zd ?_
  exact ⟨rfl,z,rfl,hs⟩
theorem z072 [hf:Fo l (rdP T.a54) p R r] (hs:Sat w l):Ret P F.a176 #[.pointer (some ⟨p,0,none⟩)] w λvs w'=>vs=[.int .i64 (zag R.uint.1)]/\Sat w' (rdP T.a54 p R.uint.2::r) :=
 zps _ <| by
  delta z03b Aa Af Ah Ak Aw Bs Bt
  have hb:=(z6n (hs.perm hf.perm)).1
  have hlt:R.uint.1<18446744073709551616:=by rcases zte hb with h|h <;> omega
  refine z8 (zrf (p:=p) hs) λ_ _ hs=>?_
  obtain ⟨rfl,hs⟩:=hs
  refine zd ?_
  refine wp_lt ?_
  rw [z00y hlt]
  refine wp_lt ?_
  exact ⟨rfl,rfl,hs⟩
theorem zxi (lo hi:Int) [hf:Fo l (rdP T.a54) p R r] (hs:Sat w l):Ret P F.a179 #[.pointer (some ⟨p,0,none⟩),.int .i64 lo,.int .i64 hi] w λvs w'=>vs=[.int .i64 (R.within lo hi).1]/\Sat w' (rdP T.a54 p (R.within lo hi).2::r) :=
 zpv _ lo hi <| by
  delta z03e AA AH AP AY Aa Af Ah Aj Ak Al Av BG Bh
  have hb0:=z6n (hs.perm hf.perm)
  refine z8 (zd7 (p:=p) hs) λ_ _ hs=>?_
  obtain ⟨rfl,hs⟩:=hs
  refine zd ?_
  refine zf (λh=>?_) λh=>?_
  ·have h:R.e≠0:=by simpa using h
   unfold RdM.within
   rw [znd h,if_pos h]
   exact ⟨rfl,rfl,hs⟩
  have h:R.e=0:=by simpa using h
  obtain ⟨x,hb,hs⟩:=z2c hs
  refine zi ?_
  refine zb hs ?_
  refine wp_lt ?_
  have hs:Sat _ (rdP T.a54 p R::r):=z1a R hb hs
  refine z8 (z072 (p:=p) hs) λ_ _ hs=>?_
  obtain ⟨rfl,hs⟩:=hs
  refine zd ?_
  refine wp_lt ?_
  have hbs:=zrr R
  unfold RdM.within
  have hb2:=z6n hs
  generalize R.uint.1=m at *
  generalize R.uint.2=R1 at *
  obtain ⟨x,-,hs⟩:=z2c hs
  refine zi ?_
  refine zb hs ?_
  refine zm (λ_ w'=>Sat w' (rdP T.a54 p (if R1.e≠0 then R1 else if zag m<lo\/zag m>hi then ⟨R.bs,R.at_,8⟩ else R1)::r)) ?_ ?_
  ·refine zf (λh2=>?_) λh2=>?_
   ·obtain ⟨h3,h4⟩:=h2
    have e:(if R1.e≠0 then R1 else if zag m<lo\/zag m>hi then (⟨R.bs,R.at_,8⟩:RdM) else R1)=⟨R.bs,R.at_,8⟩:=by rw [if_neg (by rw [h3];simp),if_pos h4]
    refine zi ?_
    refine z08 hs λw' hs=>?_
    refine zi ?_
    have hs:Sat w' (rdP T.a54 p ⟨R.bs,R.at_,0⟩::r):=z1a (x:=x) ⟨R.bs,R.at_,0⟩ hb0 (by rw [hbs,h3] at hs;exact hs)
    refine z8 (z7m (p:=p) 8 hs) λ_ w' hs=>?_
    obtain ⟨rfl,hs⟩:=hs
    refine zd ?_
    refine zg ?_
    rw [e]
    exact hs
   ·refine zg ?_
    have e:(if R1.e≠0 then R1 else if zag m<lo\/zag m>hi then (⟨R.bs,R.at_,8⟩:RdM) else R1)=R1:=by
     by_cases h3:R1.e=0
     ·rw [if_neg (by rw [h3];simp),if_neg (λh4=>h2 ⟨h3,h4⟩)]
     ·rw [if_pos h3]
    rw [e]
    exact z1a R1 hb2 hs
  clear hs
  rintro _ w hs
  refine zl ?_
  by_cases h3:R1.e=0
  ·rw [if_neg (by rw [h3];simp)] at hs ⊢
   by_cases h4:zag m<lo\/zag m>hi
   ·rw [if_pos h4] at hs ⊢
    obtain ⟨x,-,hs⟩:=z2c hs
    refine zi ?_
    refine zb hs ?_
    refine z0u ?_ (by simp)
    exact ⟨rfl,rfl,z1a ⟨R.bs,R.at_,8⟩ hb0 hs⟩
   ·rw [if_neg h4] at hs ⊢
    obtain ⟨x,-,hs⟩:=z2c hs
    refine zi ?_
    refine zb hs ?_
    refine z03 ?_ (by rw [h3];simp)
    refine wp_lt ?_
    exact ⟨rfl,rfl,z1a R1 hb2 hs⟩
  ·rw [if_pos h3] at hs ⊢
   obtain ⟨x,-,hs⟩:=z2c hs
   refine zi ?_
   refine zb hs ?_
   refine z0u ?_ h3
   exact ⟨rfl,rfl,z1a R1 hb2 hs⟩
end
end Go.Dec
