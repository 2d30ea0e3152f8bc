/- What the claim of this folder leans on: our own texts, joined, without what it does not use. -/
import Derived.Test.YtogdpmpccmpekaaGreatQHold2
set_option linter.unusedVariables false
set_option linter.unusedSimpArgs false
namespace Go.Dec
def z08m (room:Int):Prog :=
Ac (decide (room<0) || decide (room>4194304)) (
Ad 0 [Al none,Ak 2])<|
.act (Instr.makeMap T.a22 none) sM (u1 λm0=>
As T.a8 (.agg #[Ak (-1),.bool false,Ak room,Ak 0,.map m0]) λa1=>
Ad 0 [A8 a1,Ak 0])
theorem zu2 (room:Int):FnS (z08m room) F.a36 #[.int .i64 room]:=dV ⟨[],[],[],[]⟩ Go.Proofs.Tryz.func13 (by kernel_rfl)
def z08d (d:Option Addr):Prog :=
AF (Option.isNone d=false) d λa1=>
By (Option.isNone d=false) T.a3 (Addr.add a1 0) 1 λb2=>
Ay (Option.isNone d || b2) λb3=>
Ad 0 [.bool b3]
theorem ztt (d:Option Addr):FnS (z08d d) F.a26 #[.pointer d]:=dV ⟨[],[],[],[]⟩ Go.Proofs.Tryz.func56 (by kernel_rfl)
def z08g (d:Option Addr) (name:ByteArray):Prog :=
.call F.a32 [Al d,.string name] (sG [.slc,.int .i64]) (u2 λl0 (n1:Int)=>
Ai (Ag l0) λn2=>
Ad 0 [Ak n2])
theorem ztw (d:Option Addr) (name:ByteArray):FnS (z08g d name) F.a30 #[.pointer d,.string name]:=dV ⟨[],[],[],[]⟩ Go.Proofs.Tryz.func112 (by kernel_rfl)
def z08f (d:Option Addr) (name:ByteArray):Prog :=
AC F.a34 [Al d] λn0=>
Ai n0 λn1=>
Ac (n1 != 0) (
Ai n1 λn2=>
Ad 0 [Ak n2])<|
Aa d λa4=>
B2 T.a22 a4 4 λm5=>
B3 (Instr.lookup T.a22 (.map m5) (.string name) false) λp6=>
Ac (Option.isNone p6) (
Ad 0 [Ak 3])<|
Am F.a33 [Al d,.string name]<|
Aa d λa8=>
Am F.a37 [AP a8 0]<|
Ad 0 [Ak 0]
theorem ztv (d:Option Addr) (name:ByteArray):FnS (z08f d name) F.a29 #[.pointer d,.string name]:=dV ⟨[],[],[],[]⟩ Go.Proofs.Tryz.func115 (by kernel_rfl)
def z02i (s:Sl):Prog :=
Ac (Option.isNone s.a) (
Ad 0 [.slice none 0 0])<|
Ap (Instr.buildSlice T.a46 0 #[]) λl0=>
Ap (app T.a46 T.a46 T.a46 l0.v s.v) λl1=>
Ad 0 [l1.v]
theorem zoq (s:Sl):FnS (z02i s) F.a142 #[.slice s.a s.len s.cap]:=dV ⟨[],[],[],[]⟩ Go.Proofs.Tryz.func126 (by kernel_rfl)
def z00u (x:Int):Prog :=
AC F.a66 [.int .u64 x] λn0=>
Ai n0 λn1=>
Ad 0 [Ak n1]
theorem zhl (x:Int):FnS (z00u x) F.a65 #[.int .u64 x]:=dV ⟨[],[],[],[]⟩ Go.Proofs.Tryz.func153 (by kernel_rfl)
def zf63 (m:Option Nat):Prog :=
As T.a22 (.map m) λa0=>
Ad 0 [.func (Fn.func 226) #[] #[A8 a0]]
theorem zf63_calls (m:Option Nat):FnS (zf63 m) F.a64 #[.map m]:=dV ⟨[],[],[],[]⟩ Go.Proofs.Tryz.func158 (by kernel_rfl)
def zf155 (s:ByteArray) (prefix_:ByteArray):Prog :=
Aw F.a51 [.string s,.string prefix_] λb0=>
Ay b0 λb1=>
Ad 0 [.bool b1]
theorem zf155_calls (s prefix_:ByteArray):FnS (zf155 s prefix_) F.a160 #[.string s,.string prefix_]:=dV ⟨[],[],[],[]⟩ Go.Proofs.Tryz.func159 (by kernel_rfl)
def z08i (d:Option Addr) (name:ByteArray):Prog :=
AI T.a9 λa0=>
AF (Option.isNone d=false) d λa2=>
B4 (Option.isNone d=false) T.a22 a2 4 λm3=>
.read (Option.isNone d=false) (Instr.lookup T.a22 (.map m3) (.string name) false) sP (u1 λp4=>
Ac (Option.isNone d || Option.isNone p4) (
AJ T.a9 a0 (.agg #[.slice none 0 0,Ak 0])<|
B5 T.a9 a0 λl5 n6=>
Ad 0 [B6 l5 n6])<|
Aa d λa8=>
B2 T.a22 a8 4 λm9=>
B3 (Instr.lookup T.a22 (.map m9) (.string name) false) λp10=>
Aa p10 λa12=>
B5 T.a9 a12 λl13 n14=>
AJ T.a9 a0 (B6 l13 n14)<|
B5 T.a9 a0 λl15 n16=>
Ad 0 [B6 l15 n16])
theorem zty (d:Option Addr) (name:ByteArray):FnS (z08i d name) F.a32 #[.pointer d,.string name]:=dV ⟨[],[],[],[]⟩ Go.Proofs.Tryz.func169 (by kernel_rfl)
def z08e (d:Option Addr) (name:ByteArray):Prog :=
Ac (Option.isNone d) (
Ad 0 [.slice none 0 0,Ak 1])<|
Aa d λa1=>
B2 T.a22 a1 4 λm2=>
B3 (Instr.lookup T.a22 (.map m2) (.string name) false) λp3=>
Ac (Option.isNone p3) (
Ad 0 [.slice none 0 0,Ak 3])<|
Aa p3 λa5=>
Af T.a50 a5 0 λl6=>
Aq F.a0 [l6.v] λl7=>
Ad 0 [l7.v,Ak 0]
theorem ztu (d:Option Addr) (name:ByteArray):FnS (z08e d name) F.a28 #[.pointer d,.string name]:=dV ⟨[],[],[],[]⟩ Go.Proofs.Tryz.func170 (by kernel_rfl)
def z08k (d:Option Addr):Prog :=
Au (Option.isNone d) (
Ad 0 [Ak 1])<|
Aa d λa2=>
Bz T.a3 (Addr.add a2 0) 1 λb3=>
Au b3 (
Ad 0 [Ak 9])<|
Ad 0 [Ak 0]
theorem zu0 (d:Option Addr):FnS (z08k d) F.a34 #[.pointer d]:=dV ⟨[],[],[],[]⟩ Go.Proofs.Tryz.func171 (by kernel_rfl)
def z08j (d:Option Addr) (name:ByteArray):Prog :=
Aa d λa1=>
B2 T.a22 a1 4 λm2=>
B3 (Instr.lookup T.a22 (.map m2) (.string name) false) λp3=>
AK 1 (
Ac (not (Option.isNone p3)) (
Ae<|
Aa d λa5=>
Ab T.a13 a5 3 λn6=>
Aa p3 λa8=>
Af T.a50 a8 0 λl9=>
Aa d λa11=>
An T.a13 a11 3 (Ak (Ao (n6-(Ag l9))))<|
Aj<|
Aa d λa13=>
B2 T.a22 a13 4 λm14=>
B7 (Builtin.delete_ #[T.a22,T.a54] T.a59 #[.map m14,.string name])<|
Ad 1 [])<|
Ad 1 [])<|
Ad 0 []
theorem ztz (d:Option Addr) (name:ByteArray):FnS (z08j d name) F.a33 #[.pointer d,.string name]:=dV ⟨[(4398012956684,[])],[],[],[]⟩ Go.Proofs.Tryz.func172 (by kernel_rfl)
def z08n (p:Option Addr):Prog :=
Aa p λa1=>
Ab T.a13 a1 0 λn2=>
AK 1 (
Ac (decide (n2>0)) (
Aa p λa4=>
Ab T.a13 a4 0 λn5=>
Aa p λa7=>
An T.a13 a7 0 (Ak (Ao (n5-1)))<|
Aa p λa9=>
Ab T.a13 a9 0 λn10=>
Aa p λa12=>
An T.a3 a12 1 (.bool (n10 == 0))<|
Ad 1 [])<|
Ad 1 [])<|
Ad 0 []
theorem zu3 (p:Option Addr):FnS (z08n p) F.a37 #[.pointer p]:=dV ⟨[(17179344902,[])],[],[],[]⟩ Go.Proofs.Tryz.func173 (by kernel_rfl)
def z02j (s:Sl) (f:Value):Prog :=
AC F.a145 [s.v,f] λn0=>
Ay (decide (n0>=0)) λb1=>
Ad 0 [.bool b1]
theorem zor (s:Sl) (f:Value) {w:World} {R:List Value->World->Prop} (h:(z02j s f).wp P (λ_=>True) w λe vs w'=>e=0/\R vs w'):Ret P F.a143 #[.slice s.a s.len s.cap,f] w R:=dS (n:=9) (rv:=[.tmp 4]) { cnd:=[],blk:=[],reg:=[],lps:=[] } [.val (.slice s.a s.len s.cap),.any f] Go.Proofs.Tryz.func194 (by kernel_rfl) (by kernel_rfl) (by kernel_rfl) (by kernel_rfl) h
def z02q (n:Int) (f:Value):Prog :=
Ai n λn0=>
AA 1 (
AB 2 (0,(n0,())) λn1 n2=>
Ac (decide (n1<n2)) (
Ai (Ao (Int.fdiv (IntKind.wrap .u64 (Ao (n1+n2))) 2)) λn3=>
Bp f [Ak n3] λb4=>
B8 3 (
Ac (not b4) (
Ai (Ao (n3+1)) λn5=>
Ad 3 [Ak n5,Ak n2])<|
Ai n3 λn6=>
Ad 3 [Ak n1,Ak n6]) λn7 n8=>
Ad 2 [Ak n7,Ak n8])<|
Ad 1 [Ak n1]) λn9=>
Ai n9 λn10=>
Ad 0 [Ak n10]
theorem zoy (n:Int) (f:Value) {w:World} {R:List Value->World->Prop} (h:(z02q n f).wp P (λ_=>True) w λe vs w'=>e=0/\R vs w'):Ret P F.a159 #[.int .i64 n,f] w R:=dS (n:=26) (rv:=[.tmp 4]) { cnd:=[(120259477525,[(5,.one (.int .i64)),(6,.one (.int .i64))])],blk:=[(0,[(5,.one (.int .i64))])],reg:=[],lps:=[(0,[(5,.one (.int .i64)),(6,.one (.int .i64))])] } [.val (.int .i64 n),.any f] Go.Proofs.Tryz.func196 (by kernel_rfl) (by kernel_rfl) (by kernel_rfl) (by kernel_rfl) h
def z00v (x:Int):Prog :=
B9 1 (
Ac (decide (x>=4294967296)) (
Ah (Int.fdiv x 4294967296) λn0=>
Ad 1 [.int .u64 n0,Ak 32])<|
Ad 1 [.int .u64 x,Ak 0]) λn1 n2=>
B9 1 (
Ac (decide (n1>=65536)) (
Ah (Int.fdiv n1 65536) λn3=>
Ai (Ao (n2+16)) λn4=>
Ad 1 [.int .u64 n3,Ak n4])<|
Ad 1 [.int .u64 n1,Ak n2]) λn5 n6=>
B9 1 (
Ac (decide (n5>=256)) (
Ah (Int.fdiv n5 256) λn7=>
Ai (Ao (n6+8)) λn8=>
Ad 1 [.int .u64 n7,Ak n8])<|
Ad 1 [.int .u64 n5,Ak n6]) λn9 n10=>
.must (0<=IntKind.wrap .u8 n9/\IntKind.wrap .u8 n9<256) <|
Ai (Ao (n10+Ao (bt (ByteArray.mk #[0,1,2,2,3,3,3,3,4,4,4,4,4,4,4,4,5,5,5,5,5,5,5,5,5,5,5,5,5,5,5,5,6,6,6,6,6,6,6,6,6,6,6,6,6,6,6,6,6,6,6,6,6,6,6,6,6,6,6,6,6,6,6,6,7,7,7,7,7,7,7,7,7,7,7,7,7,7,7,7,7,7,7,7,7,7,7,7,7,7,7,7,7,7,7,7,7,7,7,7,7,7,7,7,7,7,7,7,7,7,7,7,7,7,7,7,7,7,7,7,7,7,7,7,7,7,7,7,8,8,8,8,8,8,8,8,8,8,8,8,8,8,8,8,8,8,8,8,8,8,8,8,8,8,8,8,8,8,8,8,8,8,8,8,8,8,8,8,8,8,8,8,8,8,8,8,8,8,8,8,8,8,8,8,8,8,8,8,8,8,8,8,8,8,8,8,8,8,8,8,8,8,8,8,8,8,8,8,8,8,8,8,8,8,8,8,8,8,8,8,8,8,8,8,8,8,8,8,8,8,8,8,8,8,8,8,8,8,8,8,8,8,8,8,8,8,8,8,8,8,8,8,8,8,8,8]) (IntKind.wrap .u8 n9)))) λn11=>
Ad 0 [Ak n11]
theorem zhm (x:Int):FnS (z00v x) F.a66 #[.int .u64 x]:=dV ⟨[(413700,[(0,.one (.int .u64)),(2,.one (.int .i64))]),(31477768,[(0,.one (.int .u64)),(2,.one (.int .i64))]),(2013286414,[(0,.one (.int .u64)),(2,.one (.int .i64))])],[],[],[]⟩ Go.Proofs.Tryz.func225 (by kernel_rfl)
def zf50 (s:ByteArray) (prefix_:ByteArray):Prog :=
.must (decide (((ByteArray.size s:Nat):Int)>=((ByteArray.size prefix_:Nat):Int))=true->0<=((ByteArray.size prefix_:Nat):Int)/\((ByteArray.size prefix_:Nat):Int)<=((ByteArray.size s:Nat):Int)) <|
Ay (decide (((ByteArray.size s:Nat):Int)>=((ByteArray.size prefix_:Nat):Int)) && ByteArray.toList (ByteArray.extract s 0 (Int.toNat (((ByteArray.size prefix_:Nat):Int)))) == ByteArray.toList prefix_) λb0=>
Ad 0 [.bool b0]
theorem zf50_calls (s prefix_:ByteArray):FnS (zf50 s prefix_) F.a51 #[.string s,.string prefix_]:=dV ⟨[],[],[],[]⟩ Go.Proofs.Tryz.func227 (by kernel_rfl)
def z08b (d:Option Addr) (name:ByteArray) (n:Int):Prog :=
AC F.a34 [Al d] λn0=>
Ai n0 λn1=>
Ac (n1 != 0) (
Ai n1 λn2=>
Ad 0 [Ak n2])<|
Aa d λa4=>
B2 T.a22 a4 4 λm5=>
B3 (Instr.lookup T.a22 (.map m5) (.string name) false) λp6=>
Au (Option.isNone p6) (
Ad 0 [Ak 3])<|
AF (decide (n<0)=false) p6 λa9=>
AG (decide (n<0)=false) T.a50 a9 0 λl10=>
Au (decide (n<0) || decide (n>(Ag l10))) (
Ad 0 [Ak 2])<|
Ae<|
Aa d λa13=>
Ab T.a13 a13 3 λn14=>
Aa p6 λa16=>
Af T.a50 a16 0 λl17=>
Aa d λa19=>
An T.a13 a19 3 (Ak (Ao (n14-Ao ((Ag l17)-n))))<|
Aj<|
Aa p6 λa21=>
Af T.a50 a21 0 λl22=>
.must (0<=n/\n<=n/\n<=((l22.cap:Nat):Int)) <|
Aa p6 λa24=>
An T.a50 a24 0 (.slice l22.a (Int.toNat n) (Int.toNat n))<|
Aa p6 λa26=>
Ab T.a13 a26 1 λn27=>
Aa p6 λa29=>
An T.a13 a29 1 (Ak (if n<n27 then n else n27))<|
Aa d λa31=>
Am F.a37 [AP a31 0]<|
Ad 0 [Ak 0]
theorem ztr (d:Option Addr) (name:ByteArray) (n:Int):FnS (z08b d name n) F.a24 #[.pointer d,.string name,.int .i64 n]:=dV ⟨[],[],[],[]⟩ Go.Proofs.Tryz.func238 (by kernel_rfl)
def z08a (d:Option Addr) (name:ByteArray) (parts:Sl):Prog :=
AC F.a34 [Al d] λn0=>
Ai n0 λn1=>
Ac (n1 != 0) (
Ai n1 λn2=>
Ad 0 [Ak n2])<|
Aw F.a35 [.string name] λb3=>
Ac (not b3) (
Ad 0 [Ak 2])<|
AA 1 (
AB 2 (0,(0,())) λn4 n5=>
Ac (decide (n5<(Ag parts))) (
.ex [.adr] (c1 λa6=>0<=n5/\n5<(Ag parts)/\parts.a=some a6) (u1 λa7=>
Af T.a50 a7 (Int.toNat n5*1) λl8=>
AC F.a25 [Al d] λn9=>
Ac (decide ((Ag l8)>Ao (n9-n4))) (
Ad 0 [Ak 5])<|
Ai (Ao (n4+(Ag l8))) λn10=>
Ad 2 [Ak n10,Ak (Ao (n5+1))]))<|
Ad 1 [Ak n4]) λn11=>
Aa d λa13=>
B2 T.a22 a13 4 λm14=>
.read True (Instr.lookup T.a22 (.map m14) (.string name) true) (.tup [.one .ptr,.one .bool]) (u2 λp15 b16=>
Ay b16 λb17=>
.bind 1 [.one .ptr] (
Ac (not b17) (
Aa d λa19=>
B2 T.a22 a19 4 λm20=>
.read True (Builtin.len_ #[T.a22] T.a13 #[.map m20]) (sI .i64) (u1 λ(n21:Int)=>
Ac (decide (n21>=128)) (
Ad 0 [Ak 5])<|
As T.a9 (.agg #[.slice none 0 0,Ak 0]) λa22=>
Aa d λa24=>
B2 T.a22 a24 4 λm25=>
Br (Instr.mapUpdate T.a22 (.map m25) (.string name) (A8 a22))<|
Ad 1 [A8 a22]))<|
Ad 1 [Al p15]) (u1 λp26=>
AK 1 (
AR 2 (0,()) λn27=>
Ac (decide (n27<(Ag parts))) (
.ex [.adr] (c1 λa28=>0<=n27/\n27<(Ag parts)/\parts.a=some a28) (u1 λa29=>
Af T.a50 a29 (Int.toNat n27*1) λl30=>
Aa p26 λa32=>
Af T.a50 a32 0 λl33=>
Ap (app T.a50 T.a50 T.a50 l33.v l30.v) λl34=>
Aa p26 λa36=>
An T.a50 a36 0 l34.v<|
Ad 2 [Ak (Ao (n27+1))]))<|
Ad 1 [])<|
Aa d λa38=>
Ab T.a13 a38 3 λn39=>
Aa d λa41=>
An T.a13 a41 3 (Ak (Ao (n39+n11)))<|
Aa d λa43=>
Am F.a37 [AP a43 0]<|
Ad 0 [Ak 0]))
theorem ztq (d:Option Addr) (name:ByteArray) (parts:Sl):FnS (z08a d name parts) F.a23 #[.pointer d,.string name,.slice parts.a parts.len parts.cap]:=dV ⟨[(604426016319167176900660,[(11,.one .ptr)])],[(0,[(8,.one (.int .i64))]),(2,[])],[],[(0,[(8,.one (.int .i64)),(26,.one (.int .i64))]),(2,[(69,.one (.int .i64))])]⟩ Go.Proofs.Tryz.func251 (by kernel_rfl)
def z08h (d:Option Addr) (names:Sl):Prog :=
AC F.a34 [Al d] λn0=>
Ai n0 λn1=>
Ac (n1 != 0) (
Ai n1 λn2=>
Ad 0 [Ak n2])<|
AK 1 (
AR 2 (0,()) λn3=>
Ac (decide (n3<(Ag names))) (
.ex [.adr] (c1 λa4=>0<=n3/\n3<(Ag names)/\names.a=some a4) (u1 λa5=>
Be T.a54 a5 (Int.toNat n3*1) λs6=>
Bf s6 λs7=>
Aa d λa9=>
B2 T.a22 a9 4 λm10=>
B3 (Instr.lookup T.a22 (.map m10) (.string s7) false) λp11=>
Ac (Option.isNone p11) (
Ad 0 [Ak 3])<|
Ad 2 [Ak (Ao (n3+1))]))<|
Ad 1 [])<|
AN 1 (
Ac ((Ag names) == 0) (
Aq F.a27 [Al d,.string (ByteArray.mk #[])] λl12=>
Ad 1 [l12.v])<|
Ad 1 [names.v]) λl13=>
AK 1 (
AR 2 (0,()) λn14=>
Ac (decide (n14<(Ag l13))) (
.ex [.adr] (c1 λa15=>0<=n14/\n14<(Ag l13)/\l13.a=some a15) (u1 λa16=>
Be T.a54 a16 (Int.toNat n14*1) λs17=>
Bf s17 λs18=>
Aa d λa20=>
B2 T.a22 a20 4 λm21=>
B3 (Instr.lookup T.a22 (.map m21) (.string s18) false) λp22=>
Aa p22 λa24=>
Af T.a50 a24 0 λl25=>
Aa p22 λa27=>
An T.a13 a27 1 (Ak (Ag l25))<|
Ad 2 [Ak (Ao (n14+1))]))<|
Ad 1 [])<|
Aa d λa29=>
Am F.a37 [AP a29 0]<|
Ad 0 [Ak 0]
theorem ztx (d:Option Addr) (names:Sl):FnS (z08h d names) F.a31 #[.pointer d,.slice names.a names.len names.cap]:=dV ⟨[(105553116274720,[(1,.one .slc)])],[(0,[]),(2,[])],[],[(0,[(18,.one (.int .i64))]),(2,[(37,.one (.int .i64))])]⟩ Go.Proofs.Tryz.func253 (by kernel_rfl)
def z02l (s:Sl) (f:Value):Prog :=
AK 1 (
AR 2 (0,()) λn0=>
Ac (decide (n0<(Ag s))) (
Ai n0 λn1=>
.ex [.adr] (c1 λa2=>0<=n1/\n1<(Ag s)/\s.a=some a2) (u1 λa3=>
AX T.a0 a3 (Int.toNat n1*7) λn4 n5 n6 n7 n8 n9 l10=>
Bp f [AM n4 n5 n6 n7 n8 n9 l10] λb11=>
Ac b11 (
Ai n1 λn12=>
Ad 0 [Ak n12])<|
Ad 2 [Ak (Ao (n0+1))]))<|
Ad 1 [])<|
Ad 0 [Ak (-1)]
theorem zot (s:Sl) (f:Value) {w:World} {R:List Value->World->Prop} (h:(z02l s f).wp P (λ_=>True) w λe vs w'=>e=0/\R vs w'):Ret P F.a145 #[.slice s.a s.len s.cap,f] w R:=dS (n:=19) (rv:=[.tmp 4]) { cnd:=[],blk:=[(0,[])],reg:=[],lps:=[(0,[(8,.one (.int .i64))])] } [.val (.slice s.a s.len s.cap),.any f] Go.Proofs.Tryz.func254 (by kernel_rfl) (by kernel_rfl) (by kernel_rfl) (by kernel_rfl) h
def z02n (x:Sl) (cmp:Value):Prog :=
Ai (Ag x) λn0=>
AC F.a65 [.int .u64 (IntKind.wrap .u64 n0)] λn1=>
Am F.a156 [x.v,Ak 0,Ak n0,Ak n1,cmp]<|
Ad 0 []
theorem zov (x:Sl) (cmp:Value) {w:World} {R:List Value->World->Prop} (h:(z02n x cmp).wp P (λ_=>True) w λe vs w'=>e=0/\R vs w'):Ret P F.a147 #[.slice x.a x.len x.cap,cmp] w R:=dS (n:=14) (rv:=[]) { cnd:=[],blk:=[],reg:=[],lps:=[] } [.val (.slice x.a x.len x.cap),.any cmp] Go.Proofs.Tryz.func258 (by kernel_rfl) (by kernel_rfl) (by kernel_rfl) (by kernel_rfl) h
def zf1 (x:Int) (y:Int):Prog :=
Aw F.a2 [Ak x] λb0=>
Ay b0 λb1=>
Aw F.a2 [Ak y] λb2=>
Ay b2 λb3=>
Ac b1 (
Ac b3 (
Ad 0 [Ak 0])<|
Ad 0 [Ak (-1)])<|
Ac b3 (
Ad 0 [Ak 1])<|
Ac (decide (x<y)) (
Ad 0 [Ak (-1)])<|
Ac (decide (x>y)) (
Ad 0 [Ak 1])<|
Ad 0 [Ak 0]
theorem zxx (x y:Int):FnS (zf1 x y) F.a1 #[.int .i64 x,.int .i64 y]:=dV ⟨[],[],[],[]⟩ Go.Proofs.Tryz.func260 (by kernel_rfl)
def z08l (s:ByteArray):Prog :=
Ac (decide (((ByteArray.size s:Nat):Int)<1) || decide (((ByteArray.size s:Nat):Int)>24)) (
Ad 0 [.bool false])<|
Ap (convert T.a54 T.a50 (.string s)) λl0=>
AK 1 (
AR 2 (0,()) λn1=>
Ac (decide (n1<(Ag l0))) (
.ex [.adr] (c1 λa2=>0<=n1/\n1<(Ag l0)/\l0.a=some a2) (u1 λa3=>
AT T.a58 a3 (Int.toNat n1*1) λn4=>
Bd n4 λn5=>
Ay (decide (n5>=97) && decide (n5<=122)) λb6=>
Ay (decide (n5>=48) && decide (n5<=57)) λb7=>
Ac (not b6 && not b7 && n5 != 46 && n5 != 45) (
Ad 0 [.bool false])<|
Ad 2 [Ak (Ao (n1+1))]))<|
Ad 1 [])<|
Ad 0 [.bool true]
theorem zu1 (s:ByteArray):FnS (z08l s) F.a35 #[.string s]:=dV ⟨[],[(0,[])],[],[(0,[(18,.one (.int .i64))])]⟩ Go.Proofs.Tryz.func301 (by kernel_rfl)
def z08c (d:Option Addr):Prog :=
Ac (Option.isNone d) (
Ad 0 [Ak 0])<|
Ae<|
Aa d λa1=>
Ab T.a13 a1 2 λn2=>
Aa d λa4=>
Ab T.a13 a4 3 λn5=>
Ai (if 0>Ao (n2-n5) then 0 else Ao (n2-n5)) λn6=>
Aj<|
Ad 0 [Ak n6]
theorem zts (d:Option Addr):FnS (z08c d) F.a25 #[.pointer d]:=dV ⟨[],[],[],[]⟩ Go.Proofs.Tryz.func302 (by kernel_rfl)
def z02p (data:Sl) (a b limit:Int) (cmp:Value):Prog :=
.loop 1 [.one (.int .i64),.one (.int .i64),.one (.int .i64),.one .bool,.one .bool] (a,(b,(limit,(true,(true,()))))) (u5 λ(n0 n1 n2:Int) b3 b4=>
.bind 2 [.one (.int .i64),.one (.int .i64),.one (.int .i64),.one .bool,.one .bool] (
Ai (Ao (n1-n0)) λn5=>
Ac (decide (n5<=12)) (
Am F.a152 [data.v,Ak n0,Ak n1,cmp]<|
Ad 0 [])<|
Ac (n2 == 0) (
Am F.a151 [data.v,Ak n0,Ak n1,cmp]<|
Ad 0 [])<|
AA 3 (
Ac (not b3) (
Am F.a149 [data.v,Ak n0,Ak n1,cmp]<|
Ai (Ao (n2-1)) λn6=>
Ad 3 [Ak n6])<|
Ad 3 [Ak n2]) λn7=>
.call F.a150 [data.v,Ak n0,Ak n1,cmp] (.tup [.one (.int .i64),.one (.int .i64)]) (u2 λ(n8 n9:Int)=>
Ai n8 λn10=>
Ai n9 λn11=>
B8 3 (
Ac (n11 == 2) (
Am F.a157 [data.v,Ak n0,Ak n1,cmp]<|
Ai (Ao (Ao (n1-1)-Ao (n10-n0))) λn12=>
Ad 3 [Ak n12,Ak 1])<|
Ad 3 [Ak n10,Ak n11]) λn13 n14=>
AK 3 (
Ac (b3 && b4 && n14 == 1) (
Aw F.a153 [data.v,Ak n0,Ak n1,cmp] λb15=>
Ac b15 (
Ad 0 [])<|
Ad 3 [])<|
Ad 3 [])<|
Av 3 (
Ae<|
.ex [.adr] (c1 λa16=>decide (n0>0)=true->0<=Ao (n0-1)/\Ao (n0-1)<(Ag data)/\data.a=some a16) (u1 λa17=>
BA (decide (n0>0)=true) T.a15 a17 (Int.toNat (Ao (n0-1))*4) λn18 n19 n20 n21=>
.ex [.adr] (c1 λa22=>decide (n0>0)=true->0<=n13/\n13<(Ag data)/\data.a=some a22) (u1 λa23=>
BA (decide (n0>0)=true) T.a15 a23 (Int.toNat n13*4) λn24 n25 n26 n27=>
Ac (decide (n0>0)) (
.callv (cmp) [BB n18 n19 n20 n21,BB n24 n25 n26 n27] (sI .i64) (u1 λ(n28:Int)=>
Aj<|
Ad 3 [.bool (not (decide (n28<0)))]))<|
Aj<|
Ad 3 [.bool false]))) λb29=>
Ac b29 (
AC F.a155 [data.v,Ak n0,Ak n1,Ak n13,cmp] λn30=>
Ai n30 λn31=>
Ai n31 λn32=>
Ad 2 [Ak n32,Ak n1,Ak n7,.bool b3,.bool b4])<|
Bg F.a154 [data.v,Ak n0,Ak n1,Ak n13,cmp] λn33 b34=>
Ai n33 λn35=>
Ay b34 λb36=>
Ay b36 λb37=>
Ai (Ao (n35-n0)) λn38=>
Ai (Ao (n1-n35)) λn39=>
Ai (Ao (Int.tdiv n5 8)) λn40=>
.bind 3 [.one (.int .i64),.one (.int .i64),.one .bool] (
Ac (decide (n38<n39)) (
Ay (decide (n38>=n40)) λb41=>
Am F.a156 [data.v,Ak n0,Ak n35,Ak n7,cmp]<|
Ai (Ao (n35+1)) λn42=>
Ad 3 [Ak n42,Ak n1,.bool b41])<|
Ay (decide (n39>=n40)) λb43=>
Am F.a156 [data.v,Ak (Ao (n35+1)),Ak n1,Ak n7,cmp]<|
Ai n35 λn44=>
Ad 3 [Ak n0,Ak n44,.bool b43]) (u3 λ(n45 n46:Int) b47=>
Ad 2 [Ak n45,Ak n46,Ak n7,.bool b47,.bool b37]))) (u5 λ(n48 n49 n50:Int) b51 b52=>
Ad 1 [Ak n48,Ak n49,Ak n50,.bool b51,.bool b52]))
theorem zox (data:Sl) (a b limit:Int) (cmp:Value) {w:World} {R:List Value->World->Prop} (h:(z02p data a b limit cmp).wp P (λ_=>True) w λe vs w'=>e=0/\R vs w'):Ret P F.a156 #[.slice data.a data.len data.cap,.int .i64 a,.int .i64 b,.int .i64 limit,cmp] w R:=dS (n:=148) (rv:=[]) { cnd:=[(571957152676085799,[(3,.one (.int .i64))]),(1208335523804270569717816,[(13,.one (.int .i64)),(14,.one (.int .i64))]),(9594035304461697130468212811,[]),(1461501288881759191162698246220685009525288231037,[(1,.one (.int .i64)),(2,.one (.int .i64)),(10,.one .bool)])],blk:=[(1,[(1,.one (.int .i64)),(2,.one (.int .i64)),(3,.one (.int .i64)),(10,.one .bool),(11,.one .bool)])],reg:=[(17,[(97,.one .bool)])],lps:=[(0,[(1,.one (.int .i64)),(2,.one (.int .i64)),(3,.one (.int .i64)),(10,.one .bool),(11,.one .bool)])] } [.val (.slice data.a data.len data.cap),.val (.int .i64 a),.val (.int .i64 b),.val (.int .i64 limit),.any cmp] Go.Proofs.Tryz.func305 (by kernel_rfl) (by kernel_rfl) (by kernel_rfl) (by kernel_rfl) h
def zf2 (x:Int):Prog :=
Ay (x != x) λb0=>
Ad 0 [.bool b0]
theorem zxy (x:Int):FnS (zf2 x) F.a2 #[.int .i64 x]:=dV ⟨[],[],[],[]⟩ Go.Proofs.Tryz.func306 (by kernel_rfl)
def z02o (data:Sl) (a b:Int) (cmp:Value):Prog :=
Ai (Ao (a+1)) λn0=>
AK 1 (
AR 2 (n0,()) λn1=>
Ac (decide (n1<b)) (
AK 3 (
Ai n1 λn2=>
AK 4 (
AR 5 (n2,()) λn3=>
Av 6 (
Ae<|
.ex [.adr] (c1 λa4=>decide (n3>a)=true->0<=n3/\n3<(Ag data)/\data.a=some a4) (u1 λa5=>
BA (decide (n3>a)=true) T.a15 a5 (Int.toNat n3*4) λn6 n7 n8 n9=>
.ex [.adr] (c1 λa10=>decide (n3>a)=true->0<=Ao (n3-1)/\Ao (n3-1)<(Ag data)/\data.a=some a10) (u1 λa11=>
BA (decide (n3>a)=true) T.a15 a11 (Int.toNat (Ao (n3-1))*4) λn12 n13 n14 n15=>
Ac (decide (n3>a)) (
.callv (cmp) [BB n6 n7 n8 n9,BB n12 n13 n14 n15] (sI .i64) (u1 λ(n16:Int)=>
Aj<|
Ad 6 [.bool (decide (n16<0))]))<|
Aj<|
Ad 6 [.bool false]))) λb17=>
Ac b17 (
AK 6 (
Ae<|
.ex [.adr] (c1 λa18=>0<=Ao (n3-1)/\Ao (n3-1)<(Ag data)/\data.a=some a18) (u1 λa19=>
BC T.a15 a19 (Int.toNat (Ao (n3-1))*4) λn20 n21 n22 n23=>
.ex [.adr] (c1 λa24=>0<=n3/\n3<(Ag data)/\data.a=some a24) (u1 λa25=>
BC T.a15 a25 (Int.toNat n3*4) λn26 n27 n28 n29=>
.ex [.adr] (c1 λa30=>0<=n3/\n3<(Ag data)/\data.a=some a30) (u1 λa31=>
An T.a15 a31 (Int.toNat n3*4) (BB n20 n21 n22 n23)<|
.ex [.adr] (c1 λa32=>0<=Ao (n3-1)/\Ao (n3-1)<(Ag data)/\data.a=some a32) (u1 λa33=>
An T.a15 a33 (Int.toNat (Ao (n3-1))*4) (BB n26 n27 n28 n29)<|
Aj<|
Ad 6 [])))))<|
Ai (Ao (n3-1)) λn34=>
Ad 5 [Ak n34])<|
Ad 4 [])<|
Ad 3 [])<|
Ai (Ao (n1+1)) λn35=>
Ad 2 [Ak n35])<|
Ad 1 [])<|
Ad 0 []
theorem zow (data:Sl) (a b:Int) (cmp:Value) {w:World} {R:List Value->World->Prop} (h:(z02o data a b cmp).wp P (λ_=>True) w λe vs w'=>e=0/\R vs w'):Ret P F.a152 #[.slice data.a data.len data.cap,.int .i64 a,.int .i64 b,cmp] w R:=dS (n:=53) (rv:=[]) { cnd:=[],blk:=[(0,[]),(1,[]),(2,[])],reg:=[(4,[(34,.one .bool)]),(6,[])],lps:=[(0,[(8,.one (.int .i64))]),(2,[(9,.one (.int .i64))])] } [.val (.slice data.a data.len data.cap),.val (.int .i64 a),.val (.int .i64 b),.any cmp] Go.Proofs.Tryz.func322 (by kernel_rfl) (by kernel_rfl) (by kernel_rfl) (by kernel_rfl) h
structure RecM where
 key:ByteArray
 value:ByteArray
 gone:Bool
 time:Int
def z01 (r:RecM):List Value:=[.string r.key,.string r.value,.bool r.gone,.int .i64 r.time]
instance:EncA z01 [.str,.str,.bool,.int .i64] (λr=>(r.key,r.value,r.gone,r.time,())):=⟨λ_=>rfl⟩
instance:EncN z01 4:=⟨λ_=>rfl,by decide,by simp [z01,Value.oneCell']⟩
structure BatM where
 base:Int
 pid:Int
 epoch:Int
 seq:Int
 kind:Int
 time:Int
 x:Sl
 rs:List RecM
def zp (b:BatM):List Value:=[.int .i64 b.base,.int .i64 b.pid,.int .i64 b.epoch,.int .i64 b.seq,.int .i64 b.kind,.int .i64 b.time,.slice b.x.a b.x.len b.x.cap]
instance:EncA zp [.int .i64,.int .i64,.int .i64,.int .i64,.int .i64,.int .i64,.slc] (λb=>(b.base,b.pid,b.epoch,b.seq,b.kind,b.time,b.x,())):=⟨λ_=>rfl⟩
instance:EncN zp 7:=⟨λ_=>rfl,by decide,by simp [zp,Value.oneCell']⟩
def z04 (b:BatM):Bool:=decide (b.kind=2) || decide (b.kind=3)
def z6t (b:BatM):Prop:=(0<=b.kind/\b.kind<=3)/\(0<=b.base/\b.base<=1099511627776)/\(0<=b.pid/\b.pid<=1048576)/\(0<=b.epoch/\b.epoch<=32767)/\(0<=b.seq/\b.seq<=2147483647)/\(0<=b.time/\b.time<=1099511627776)
instance (b:BatM):Decidable (z6t b):=by unfold z6t;infer_instance
def z5j (b:BatM):Prop:=¬ (b.pid=0/\(b.kind≠0\/b.epoch≠0\/b.seq≠0))/\if z04 b then b.seq=0/\b.rs.length=0 else 0<b.rs.length
instance (b:BatM):Decidable (z5j b):=by unfold z5j;infer_instance
def z26 (r:RecM):Int:=if r.key.size>1024\/r.value.size>1024 then 7 else if ¬ (0<=r.time/\r.time<=1099511627776)\/(r.gone=true/\r.value.size>0) then 2 else 0
def z62:List RecM->Int
 | []=>0
 | r::rs=>if z26 r≠0 then z26 r else z62 rs
def zt (b:BatM):Int:=if z04 b then 1 else (b.rs.length:Nat)
def z07 (b:BatM):Int:=if ¬ z6t b\/¬ z5j b then 2 else if b.rs.length>64 then 7 else if z62 b.rs≠0 then z62 b.rs else
 if b.base>1099511627776-(zt b-1)\/(b.pid>0/\z04 b=false/\b.seq>2147483647-(zt b-1)) then 24 else 0
def z1d (b:BatM):Int:=if z07 b≠0 then 0 else b.base+zt b
theorem zit:∀ (rs:List RecM) (i:Nat) (hi:i<rs.length),z62 (rs.take i)=0->z26 rs[i]≠0->z62 rs=z26 rs[i]
 | r::rs,0,_,_,h=>by
  have h:z26 r≠0:=h
  show (if z26 r≠0 then z26 r else z62 rs)=z26 r
  rw [if_pos h]
 | r::rs,i+1,hi,h1,h2=>by
  have h1:(if z26 r≠0 then z26 r else z62 (rs.take i))=0:=h1
  by_cases h:z26 r≠0
  ·rw [if_pos h] at h1;exact absurd h1 h
  ·rw [if_neg h] at h1
   show (if z26 r≠0 then z26 r else z62 rs)=_
   rw [if_neg h]
   exact zit rs i (by simpa using hi) h1 h2
theorem zis:∀ (rs:List RecM) (i:Nat) (hi:i<rs.length),z62 (rs.take i)=0->z26 rs[i]=0->z62 (rs.take (i+1))=0
 | r::rs,0,_,_,h=>by
  have h:z26 r=0:=h
  show (if z26 r≠0 then z26 r else z62 (rs.take 0))=0
  rw [if_neg (by rw [h];simp)];rfl
 | r::rs,i+1,hi,h1,h2=>by
  have h1:(if z26 r≠0 then z26 r else z62 (rs.take i))=0:=h1
  by_cases h:z26 r≠0
  ·rw [if_pos h] at h1;exact absurd h1 h
  ·rw [if_neg h] at h1
   show (if z26 r≠0 then z26 r else z62 (rs.take (i+1)))=0
   rw [if_neg h]
   exact zis rs i (by simpa using hi) h1 h2
theorem zms {s:ByteArray}:s.size>0↔s≠ByteArray.mk #[]:=by
 constructor
 ·rintro h rfl;exact absurd h (Nat.lt_irrefl 0)
 ·intro h
  rcases Nat.eq_zero_or_pos s.size with h0|h0
  ·exfalso
   apply h
   obtain ⟨⟨l⟩⟩:=s
   have h0:l.length=0:=h0
   rw [List.length_eq_zero_iff.1 h0]
  ·exact h0
section
variable {w:World} {l r:List HP} {b:BatM}
theorem z6w (b:BatM) (hs:Sat w l):Ret P F.a107 #[.agg (zp b).toArray] w λvs w'=>vs=[.bool (z04 b)]/\Sat w' l :=
 znr b.base b.pid b.epoch b.seq b.kind b.time b.x <| by
  delta z01j AM Ab Ad As Ay Bc
  refine zq hs λa0 w' hs=>?_
  refine z8 hs ?_
  refine z8 hs ?_
  refine wp_lt ?_
  exact ⟨rfl,rfl,hs.tail⟩
theorem zck (n lo hi:Int) (hs:Sat w l):Ret P F.a113 #[.int .i64 n,.int .i64 lo,.int .i64 hi] w λvs w'=>vs=[.bool (decide (lo<=n/\n<=hi))]/\Sat w' l :=
 znx n lo hi <| by
  delta z01p Ad Ay
  refine wp_lt ?_
  exact ⟨rfl,by rw [Bool.decide_and],hs⟩
theorem zxf (b:BatM) [hb:FocR l b.x 4 (b.rs.flatMap z01)] (hs:Sat w l):Ret P F.a103 #[.agg (zp b).toArray] w λvs w'=>vs=[.int .i64 (zt b)]/\Sat w' l :=
 znn b.base b.pid b.epoch b.seq b.kind b.time b.x <| by
  delta z01f AL AM Ac Ad Af Ag Ai Ak As Aw;unfold zt
  have hl:=hs.slen b.x (xs:=b.rs) (enc:=z01)
  refine zq hs λa0 w' hs=>?_
  refine zg hs ?_
  refine zb (z6w b hs) λ_ _ hs=>?_
  obtain ⟨rfl,hs⟩:=hs
  refine zd ?_
  refine zh (λh=>?_) λh=>?_
  ·rw [if_pos h];exact ⟨rfl,rfl,hs.tail⟩
  ·rw [if_neg h]
   refine z8 hs ?_
   refine wp_lt ?_
   rw [hl]
   exact ⟨rfl,rfl,hs.tail⟩
theorem z006 (r:RecM) (hs:Sat w l):Ret P F.a111 #[.agg (z01 r).toArray] w λvs w'=>vs=[.int .i64 (z26 r)]/\Sat w' l :=
 znv r.key r.value r.gone r.time <| by
  delta z01n AZ Ab Ad Ak As Au Aw Be Bx By;unfold z26
  refine zq hs λa0 w' hs=>?_
  refine z8 hs ?_
  refine z8 hs ?_
  refine wp_lt ?_
  refine zh (λh=>?_) λh=>?_
  ·rw [if_pos (by omega)];exact ⟨rfl,rfl,hs.tail⟩
  rw [if_neg (by omega)]
  refine z8 hs ?_
  refine zb (zck r.time 0 1099511627776 hs) λ_ _ hs=>?_
  obtain ⟨rfl,hs⟩:=hs
  refine zd ?_
  refine z8 hs ?_
  refine z8 hs ?_
  refine wp_lt ?_
  have e:(¬ (0<=r.time/\r.time<=1099511627776)\/(r.gone=true/\r.value.size>0))↔(¬ (0<=r.time/\r.time<=1099511627776)\/(r.gone=true/\¬ r.value=ByteArray.mk #[])):=by rw [zms]
  refine zh (λh=>?_) λh=>?_
  ·rw [if_pos (e.2 h)];exact ⟨rfl,rfl,hs.tail⟩
  ·rw [if_neg (λh2=>h (e.1 h2))];exact ⟨rfl,rfl,hs.tail⟩
theorem zwx (b:BatM) (hs:Sat w l):Ret P F.a108 #[.agg (zp b).toArray] w λvs w'=>vs=[.bool (decide (z6t b))]/\Sat w' l :=
 zns b.base b.pid b.epoch b.seq b.kind b.time b.x <| by
  delta z01k AM Ab Ac Ad Ak As Av Aw Ay Bc
  refine zq hs λa0 w' hs=>?_
  refine zl (λv w'=>v=(decide (z6t b),())/\Sat w' l) ?_ (by rintro _ w' ⟨rfl,hs⟩;refine zk ?_;exact ⟨rfl,rfl,hs⟩)
  have hno:∀ {w'},¬ z6t b->Sat w' (pt a0 (.cells #[.int .i64 b.base,.int .i64 b.pid,.int .i64 b.epoch,.int .i64 b.seq,.int .i64 b.kind,.int .i64 b.time,.slice b.x.a b.x.len b.x.cap] T.a0)::l)->((false,()):Bool × Unit)=(decide (z6t b),())/\Sat w' l:=λh hs=>⟨by rw [decide_eq_false h],hs.tail⟩
  refine z8 hs ?_
  refine z8 hs ?_
  refine z8 hs ?_
  refine zh (λh1=>?_) λh1=>?_
  rotate_left
  ·exact zf (hno (λh=>h1 h.1) hs)
  refine zb (zck b.base 0 1099511627776 hs) λ_ _ hs=>?_
  obtain ⟨rfl,hs⟩:=hs
  refine zd ?_
  refine z8 hs ?_
  refine zh (λh2=>?_) λh2=>?_
  rotate_left
  ·exact zf (hno (λh=>h2 h.2.1) hs)
  refine zb (zck b.pid 0 1048576 hs) λ_ _ hs=>?_
  obtain ⟨rfl,hs⟩:=hs
  refine zd ?_
  refine z8 hs ?_
  refine z8 hs ?_
  refine z8 hs ?_
  refine z8 hs ?_
  refine z8 hs ?_
  refine zh (λh3=>?_) λh3=>?_
  rotate_left
  ·exact zf (hno (λh=>h3 ⟨⟨⟨⟨h.2.2.1,h.2.2.2.1.1⟩,h.2.2.2.1.2⟩,h.2.2.2.2.1.1⟩,h.2.2.2.2.1.2⟩) hs)
  refine zb (zck b.time 0 1099511627776 hs) λ_ _ hs=>?_
  obtain ⟨rfl,hs⟩:=hs
  refine zd ?_
  refine wp_lt ?_
  refine zf ⟨?_,hs.tail⟩
  have:(z6t b)↔(0<=b.time/\b.time<=1099511627776):=⟨λh=>h.2.2.2.2.2,λh=>⟨h1,h2,h3.1.1.1.1,⟨h3.1.1.1.2,h3.1.1.2⟩,⟨h3.1.2,h3.2⟩,h⟩⟩
  rw [decide_eq_decide.2 this]
theorem z06e (b:BatM) [hb:FocR l b.x 4 (b.rs.flatMap z01)] (hs:Sat w l):Ret P F.a106 #[.agg (zp b).toArray] w λvs w'=>vs=[.bool (decide (z5j b))]/\Sat w' l :=
 znq b.base b.pid b.epoch b.seq b.kind b.time b.x <| by
  delta z01i AG AL AM Ab Ac Ad Af Ag As Aw Ay Bc
  have hl:=hs.slen b.x (xs:=b.rs) (enc:=z01)
  refine zq hs λa0 w' hs=>?_
  refine z8 hs ?_
  refine z8 hs ?_
  refine z8 hs ?_
  refine z8 hs ?_
  refine zh (λh1=>?_) λh1=>?_
  ·have:¬ z5j b:=λh=>h.1 ⟨h1.1,or_assoc.1 h1.2⟩
   exact ⟨rfl,by rw [decide_eq_false this],hs.tail⟩
  have h1:¬ (b.pid=0/\(b.kind≠0\/b.epoch≠0\/b.seq≠0)):=λh=>h1 ⟨h.1,or_assoc.2 h.2⟩
  refine zg hs ?_
  refine zb (z6w b hs) λ_ _ hs=>?_
  obtain ⟨rfl,hs⟩:=hs
  refine zd ?_
  refine zh (λh2=>?_) λh2=>?_
  ·refine z8 hs ?_
   refine z8 hs ?_
   refine wp_lt ?_
   refine ⟨rfl,?_,hs.tail⟩
   have:z5j b↔(b.seq=0/\b.rs.length=0):=by
    unfold z5j
    rw [if_pos h2]
    exact ⟨λh=>h.2,λh=>⟨h1,h⟩⟩
   congr 2
   rw [Bool.eq_iff_iff,decide_eq_true_iff,this,Bool.and_eq_true,beq_iff_eq,beq_iff_eq,hl]
   omega
  ·refine z8 hs ?_
   refine wp_lt ?_
   refine ⟨rfl,?_,hs.tail⟩
   have:z5j b↔0<b.rs.length:=by
    unfold z5j
    rw [if_neg h2]
    exact ⟨λh=>h.2,λh=>⟨h1,h⟩⟩
   congr 2
   rw [Bool.eq_iff_iff,decide_eq_true_iff,decide_eq_true_iff,this,hl]
   omega
theorem z9u (b:BatM) [hb:FocR l b.x 4 (b.rs.flatMap z01)] (hs:Sat w l):Ret P F.a104 #[.agg (zp b).toArray] w λvs w'=>vs=[.int .i64 (z07 b)]/\Sat w' l :=
 zno b.base b.pid b.epoch b.seq b.kind b.time b.x <| by
  delta z01g AC AI AJ AK AL AM AR AY AZ Ab Ac Ad Af Ag Ai Ak Ao As Au Av Aw Ay Ba Bc Bo;unfold z07
  have hl:=hs.slen b.x (xs:=b.rs) (enc:=z01)
  refine zq hs λa0 w' hs=>?_
  refine zl (λv w'=>v=(decide (¬ z6t b\/¬ z5j b),())/\Sat w' (pt a0 (.cells #[.int .i64 b.base,.int .i64 b.pid,.int .i64 b.epoch,.int .i64 b.seq,.int .i64 b.kind,.int .i64 b.time,.slice b.x.a b.x.len b.x.cap] T.a0)::l)) ?_ ?_
  ·refine zg hs ?_
   refine zb (zwx b hs) λ_ _ hs=>?_
   obtain ⟨rfl,hs⟩:=hs
   refine zd ?_
   refine zg hs ?_
   refine zh (λh1=>?_) λh1=>?_
   ·exact zf ⟨by rw [decide_eq_true (.inl h1)],hs⟩
   refine zb (z06e b hs) λ_ _ hs=>?_
   obtain ⟨rfl,hs⟩:=hs
   refine zd ?_
   refine wp_lt ?_
   refine zf ⟨?_,hs⟩
   have:(¬ z6t b\/¬ z5j b)↔¬ z5j b:=⟨λh=>h.resolve_left h1,.inr⟩
   rw [decide_eq_decide.2 this,decide_not]
  clear hs
  rintro _ w ⟨rfl,hs⟩
  refine zk ?_
  refine zh (λh1=>?_) λh1=>?_
  ·rw [if_pos h1];exact ⟨rfl,rfl,hs.tail⟩
  rw [if_neg h1]
  have hnum:z6t b:=Decidable.not_not.1 λh=>h1 (.inl h)
  have hfit:z5j b:=Decidable.not_not.1 λh=>h1 (.inr h)
  refine z8 hs ?_
  refine wp_lt ?_
  refine zh (λh2=>?_) λh2=>?_
  ·rw [if_pos (by omega)];exact ⟨rfl,rfl,hs.tail⟩
  rw [if_neg (by omega)]
  refine z8 hs ?_
  refine zl (λv w'=>z62 b.rs=0/\Sat w' (pt a0 (.cells #[.int .i64 b.base,.int .i64 b.pid,.int .i64 b.epoch,.int .i64 b.seq,.int .i64 b.kind,.int .i64 b.time,.slice b.x.a b.x.len b.x.cap] T.a0)::l)) ?_ ?_
  ·refine z03 (λk v w=>∃ i:Nat,v=((i:Int),())/\i<=b.rs.length/\b.rs.length-i=k/\z62 (b.rs.take i)=0/\Sat w (pt a0 (.cells #[.int .i64 b.base,.int .i64 b.pid,.int .i64 b.epoch,.int .i64 b.seq,.int .i64 b.kind,.int .i64 b.time,.slice b.x.a b.x.len b.x.cap] T.a0)::l)) b.rs.length ⟨0,rfl,by omega,rfl,rfl,hs⟩ ?_
   clear hs
   rintro k _ w ⟨i,rfl,hi,hk,hbad,hs⟩
   refine zk ?_
   refine zh (λhc=>?_) λhc=>?_
   rotate_left
   ·refine zo (zf ⟨?_,hs⟩)
    rwa [List.take_of_length_le (by omega)] at hbad
   have hil:i<b.rs.length:=by omega
   refine z1s hs i hil ?_
   refine zn hs λc w' hs=>?_
   refine zm hs λw' hs=>?_
   refine zg hs ?_
   refine zb (z006 b.rs[i] hs) λ_ _ hs=>?_
   obtain ⟨rfl,hs⟩:=hs
   refine zd ?_
   refine wp_lt ?_
   refine zh (λh3=>?_) λh3=>?_
   ·refine wp_lt ?_
    refine zo (zo ?_)
    have:=zit b.rs i hil hbad h3
    rw [if_pos (by rw [this];exact h3),this]
    exact ⟨rfl,rfl,hs.tail.tail⟩
   ·refine z1k (us':=[.int .i64 ((i+1:Nat):Int)]) (by (try simp (disch:=omega) only [w64]);first|rfl|(congr;omega)) ?_
    refine z0l (b.rs.length-(i+1)) ?_
    exact ⟨i+1,rfl,by omega,rfl,zis b.rs i hil hbad (Decidable.not_not.1 h3),hs.sub⟩
  clear hs
  rintro _ w ⟨hbad,hs⟩
  refine zk ?_
  rw [if_neg (by rw [hbad];simp)]
  refine zg hs ?_
  refine zb (zxf b hs) λ_ _ hs=>?_
  obtain ⟨rfl,hs⟩:=hs
  refine zd ?_
  have hsp:1<=zt b/\zt b<=64:=by
   unfold zt
   have h3:=hfit.2
   split
   ·omega
   ·rename_i hm
    rw [if_neg hm] at h3
    omega
  obtain ⟨-,hba,-,-,hse,-⟩:=hnum
  refine z1t (y:=zt b-1) ?_ (by rw [w64 (by omega) (by omega)])
  refine zl (λv w'=>v=(decide (b.base>1099511627776-(zt b-1)\/(b.pid>0/\z04 b=false/\b.seq>2147483647-(zt b-1))),())/\Sat w' l) ?_ ?_
  ·rw [w64 (x:=1099511627776-(zt b-1)) (by omega) (by omega)]
   refine z8 hs ?_
   refine z8 hs ?_
   refine zg hs ?_
   refine zh (λh3=>?_) λh3=>?_
   ·exact zf ⟨by rw [decide_eq_true (.inl h3)],hs.tail⟩
   refine zh (λh4=>?_) λh4=>?_
   rotate_left
   ·exact zf ⟨by rw [decide_eq_false (λh=>h.elim h3 λh=>h4 h.1)],hs.tail⟩
   refine zb (z6w b hs) λ_ _ hs=>?_
   obtain ⟨rfl,hs⟩:=hs
   refine zd ?_
   refine z8 hs ?_
   rw [w64 (x:=2147483647-(zt b-1)) (by omega) (by omega)]
   refine zf ⟨?_,hs.tail⟩
   have:(b.base>1099511627776-(zt b-1)\/(b.pid>0/\z04 b=false/\b.seq>2147483647-(zt b-1)))↔(z04 b=false/\b.seq>2147483647-(zt b-1)):=⟨λh=>(h.resolve_left h3).2,λh=>.inr ⟨h4,h⟩⟩
   rw [decide_eq_decide.2 this,Bool.decide_and]
   cases z04 b <;> rfl
  clear hs
  rintro _ w ⟨rfl,hs⟩
  refine zk ?_
  refine zh (λh3=>?_) λh3=>?_
  ·rw [if_pos h3];exact ⟨rfl,rfl,hs⟩
  ·rw [if_neg h3];exact ⟨rfl,rfl,hs⟩
theorem z16 (b:BatM) (hv:z07 b=0):1<=zt b/\zt b<=64/\z6t b/\z5j b/\b.base+zt b<=1099511627777:=by
 unfold z07 at hv
 split at hv
 ·cases hv
 rename_i h1
 have hnum:z6t b:=Decidable.not_not.1 λh=>h1 (.inl h)
 have hfit:z5j b:=Decidable.not_not.1 λh=>h1 (.inr h)
 split at hv
 ·cases hv
 rename_i h2
 split at hv
 ·rename_i h3;exact absurd hv h3
 split at hv
 ·cases hv
 rename_i h4
 have hsp:1<=zt b/\zt b<=64:=by
  unfold zt
  have h3:=hfit.2
  split
  ·omega
  ·rename_i hm
   rw [if_neg hm] at h3
   omega
 refine ⟨hsp.1,hsp.2,hnum,hfit,?_⟩
 apply Decidable.byContradiction
 intro h5
 exact h4 (.inl (by omega))
theorem z9r (b:BatM) [hb:FocR l b.x 4 (b.rs.flatMap z01)] (hs:Sat w l):Ret P F.a102 #[.agg (zp b).toArray] w λvs w'=>vs=[.int .i64 (z1d b)]/\Sat w' l :=
 znm b.base b.pid b.epoch b.seq b.kind b.time b.x <| by
  delta z01e AC AL AM Ac Ad Ae Ai Aj Ak Ao As Bb;unfold z1d
  refine zq hs λa0 w' hs=>?_
  refine zg hs ?_
  refine zb (z9u b hs) λ_ _ hs=>?_
  obtain ⟨rfl,hs⟩:=hs
  refine zd ?_
  refine zh (λh=>?_) λh=>?_
  ·rw [if_pos h];exact ⟨rfl,rfl,hs.tail⟩
  rw [if_neg h]
  obtain ⟨h1,h2,h3,-⟩:=z16 b (Decidable.not_not.1 h)
  have h3:=h3.2.1
  refine zv hs λw' hs=>?_
  refine z14 hs ?_
  refine zg hs ?_
  refine zb (zxf b hs) λ_ w' hs=>?_
  obtain ⟨rfl,hs⟩:=hs
  refine zd ?_ ⟨trivial,λ_=>z08 hs⟩
  refine z1t (y:=b.base+zt b) ?_ (by rw [w64 (by omega) (by omega)])
  refine ze ?_
  exact ⟨rfl,rfl,hs.tail⟩
end
def zig (n:Int):Nat:=if 0<=n then (2*n).toNat else (-2*n-1).toNat
def zag (m:Nat):Int:=if m % 2=1 then -((m / 2:Nat):Int)-1 else ((m / 2:Nat):Int)
def z5q (n:Int):List UInt8:=z2f (zig n)
theorem z05w (n:Int):zag (zig n)=n:=by
 unfold zag zig
 split <;> split <;> omega
theorem z05x (m:Nat):zig (zag m)=m:=by
 unfold zag zig
 split <;> split <;> omega
theorem zy6 {n:Int} (h : -9223372036854775808<=n/\n<9223372036854775808):zig n<18446744073709551616:=by
 unfold zig
 split <;> omega
theorem zjy (n:Int):0<(z5q n).length/\(z5q n).length<=10:=z9a _
theorem xor_zero (x:BitVec 64):x ^^^ BitVec.ofInt 64 0=x:=by
 have:BitVec.ofInt 64 0=0#64:=by decide
 rw [this,BitVec.xor_zero]
theorem zn5 (x:BitVec 64) {n:Int} (hn:BitVec.ofInt 64 n=BitVec.allOnes 64):(x ^^^ BitVec.ofInt 64 n).toNat=18446744073709551615-x.toNat:=by
 rw [hn,BitVec.xor_allOnes,BitVec.toNat_not]
theorem toNat_ofInt (n:Int):(BitVec.ofInt 64 n).toNat=(n % 18446744073709551616).toNat:=by rw [BitVec.toNat_ofInt];rfl
theorem z8t (n:Int):IntKind.wrap .u64 n=n % 18446744073709551616:=by simp [IntKind.wrap,IntKind.bits,IntKind.signed]
theorem z06c {n:Int} (h : -9223372036854775808<=n/\n<9223372036854775808):Int.fdiv n 9223372036854775808=if 0<=n then 0 else -1:=by
 rw [Int.fdiv_eq_ediv_of_nonneg _ (by omega)]
 split <;> omega
theorem z00y {n:Int} (h : -9223372036854775808<=n/\n<9223372036854775808) :
  (BitVec.toNat (BitVec.ofInt 64 (IntKind.wrap .u64 (IntKind.wrap .u64 n*2)) ^^^ BitVec.ofInt 64 (IntKind.wrap .u64 (Int.fdiv n 9223372036854775808))))=zig n:=by
 rw [z06c h,z8t,z8t]
 unfold zig
 by_cases h0:0<=n
 ·rw [if_pos h0,if_pos h0,z8t,Int.zero_emod,xor_zero,toNat_ofInt];omega
 ·rw [if_neg h0,if_neg h0,zn5 _ (by rw [z8t];decide),toNat_ofInt];omega
theorem z00r {m:Nat} (h:m<18446744073709551616) :
  IntKind.wrap .i64 (((BitVec.toNat (BitVec.ofInt 64 (IntKind.wrap .i64 (Int.fdiv (m:Int) 2)) ^^^ BitVec.ofInt 64 (IntKind.wrap .i64 (0-IntKind.wrap .i64 (IntKind.wrap .u64 (((BitVec.toNat (BitVec.ofInt 64 (m:Int) &&& BitVec.ofInt 64 1):Nat):Int)))))):Nat):Int))=zag m:=by
 have e1:(BitVec.toNat (BitVec.ofInt 64 (m:Int) &&& BitVec.ofInt 64 1))=m % 2:=by
  rw [BitVec.toNat_and,toNat_ofInt,toNat_ofInt]
  have h1:((m:Int) % 18446744073709551616).toNat=m:=by omega
  have h2:((1:Int) % 18446744073709551616).toNat=1:=by decide
  rw [h1,h2,Nat.and_one_is_mod]
 have e2:Int.fdiv (m:Int) 2=((m / 2:Nat):Int):=by rw [Int.fdiv_eq_ediv_of_nonneg _ (by omega)];omega
 rw [e1,e2,z8t,w64 (x:=((m / 2:Nat):Int)) (by omega) (by omega)]
 unfold zag
 by_cases h0:m % 2=1
 ·rw [if_pos h0,h0]
  have e3:IntKind.wrap .i64 (0-IntKind.wrap .i64 ((((1:Nat):Int)) % 18446744073709551616)) = -1:=by decide
  rw [e3,zn5 _ (by decide),toNat_ofInt]
  have e4:((((m / 2:Nat):Int)) % 18446744073709551616).toNat=m / 2:=by omega
  rw [e4]
  have e5:IntKind.wrap .i64 ((18446744073709551615-m / 2:Nat):Int) = -((m / 2:Nat):Int)-1:=by
   rw [zim];split <;> omega
  exact e5
 ·rw [if_neg h0]
  have h2:m % 2=0:=by omega
  rw [h2]
  have e3:IntKind.wrap .i64 (0-IntKind.wrap .i64 ((((0:Nat):Int)) % 18446744073709551616))=0:=by decide
  rw [e3,xor_zero,toNat_ofInt]
  have e4:((((m / 2:Nat):Int)) % 18446744073709551616).toNat=m / 2:=by omega
  rw [e4,w64 (by omega) (by omega)]
def RdM.within (R:RdM) (lo hi:Int):Int × RdM :=
 if R.uint.2.e≠0 then (0,R.uint.2) else if zag R.uint.1<lo\/zag R.uint.1>hi then (0,⟨R.bs,R.at_,8⟩) else (zag R.uint.1,R.uint.2)
theorem zn1 {R:RdM} (h:R.e≠0):R.uint=(0,R):=by unfold RdM.uint;rw [if_pos h]
section
variable {w:World} {l r:List HP} {p:Nat} {R:RdM}
theorem z05v (n:Int) (hn : -9223372036854775808<=n/\n<9223372036854775808) (hs:Sat w l):Ret P F.a175 #[.int .i64 n] w λvs w'=>∃ z:Sl,vs=[z.v]/\Sat w' (slc T.a58 1 z ((z5q n).flatMap zi)::l) :=
 zpb n <| by
  delta z033 Ad Aq;unfold z5q
  have hz:=zy6 hn
  rw [z00y hn]
  generalize zig n=m at hz ⊢
  rw [z8y,Nat.mod_eq_of_lt hz]
  refine zb (zrp m hz hs) λ_ _ hs=>?_
  obtain ⟨z,rfl,hs⟩:=hs
  refine zd ?_
  exact ⟨rfl,z,rfl,hs⟩
theorem z07a [hf:Fo l (rdP T.a60) p R r] (hs:Sat w l):Ret P F.a182 #[.pointer (some ⟨p,0,none⟩)] w λvs w'=>vs=[.int .i64 (zag R.uint.1)]/\Sat w' (rdP T.a60 p R.uint.2::r) :=
 zpi _ <| by
  delta z03a AQ Ad Ah Ai Ak Al Ao
  have hb:=(z6h (hs.perm hf.perm)).1
  have hlt:R.uint.1<18446744073709551616:=by rcases zt4 hb with h|h <;> omega
  refine zb (zr4 (p:=p) hs) λ_ _ hs=>?_
  obtain ⟨rfl,hs⟩:=hs
  refine zd ?_
  refine wp_lt ?_
  rw [z00r hlt]
  refine wp_lt ?_
  exact ⟨rfl,rfl,hs⟩
theorem zx9 (lo hi:Int) [hf:Fo l (rdP T.a60) p R r] (hs:Sat w l):Ret P F.a185 #[.pointer (some ⟨p,0,none⟩),.int .i64 lo,.int .i64 hi] w λvs w'=>vs=[.int .i64 (R.within lo hi).1]/\Sat w' (rdP T.a60 p (R.within lo hi).2::r) :=
 zpl _ lo hi <| by
  delta z03d AC AK AP Aa Ab Ac Ad Ai Ak Al Am An Aw
  have hb0:=z6h (hs.perm hf.perm)
  refine zb (zda (p:=p) hs) λ_ _ hs=>?_
  obtain ⟨rfl,hs⟩:=hs
  refine zd ?_
  refine zh (λh=>?_) λh=>?_
  ·have h:R.e≠0:=by simpa using h
   unfold RdM.within
   rw [zn1 h,if_pos h]
   exact ⟨rfl,rfl,hs⟩
  have h:R.e=0:=by simpa using h
  obtain ⟨x,hb,hs⟩:=z21 hs
  refine zj ?_
  refine z8 hs ?_
  refine wp_lt ?_
  have hs:Sat _ (rdP T.a60 p R::r):=z0z R hb hs
  refine zb (z07a (p:=p) hs) λ_ _ hs=>?_
  obtain ⟨rfl,hs⟩:=hs
  refine zd ?_
  refine wp_lt ?_
  have hbs:=zrf R
  unfold RdM.within
  have hb2:=z6h hs
  generalize R.uint.1=m at *
  generalize R.uint.2=R1 at *
  obtain ⟨x,-,hs⟩:=z21 hs
  refine zj ?_
  refine z8 hs ?_
  refine zl (λ_ w'=>Sat w' (rdP T.a60 p (if R1.e≠0 then R1 else if zag m<lo\/zag m>hi then ⟨R.bs,R.at_,8⟩ else R1)::r)) ?_ ?_
  ·refine zh (λh2=>?_) λh2=>?_
   ·obtain ⟨h3,h4⟩:=h2
    have e:(if R1.e≠0 then R1 else if zag m<lo\/zag m>hi then (⟨R.bs,R.at_,8⟩:RdM) else R1)=⟨R.bs,R.at_,8⟩:=by rw [if_neg (by rw [h3];simp),if_pos h4]
    refine zj ?_
    refine z02 hs λw' hs=>?_
    refine zj ?_
    have hs:Sat w' (rdP T.a60 p ⟨R.bs,R.at_,0⟩::r):=z0z (x:=x) ⟨R.bs,R.at_,0⟩ hb0 (by rw [hbs,h3] at hs;exact hs)
    refine zb (z7o (p:=p) 8 hs) λ_ w' hs=>?_
    obtain ⟨rfl,hs⟩:=hs
    refine zd ?_
    refine zf ?_
    rw [e]
    exact hs
   ·refine zf ?_
    have e:(if R1.e≠0 then R1 else if zag m<lo\/zag m>hi then (⟨R.bs,R.at_,8⟩:RdM) else R1)=R1:=by
     by_cases h3:R1.e=0
     ·rw [if_neg (by rw [h3];simp),if_neg (λh4=>h2 ⟨h3,h4⟩)]
     ·rw [if_pos h3]
    rw [e]
    exact z0z R1 hb2 hs
  clear hs
  rintro _ w hs
  refine zk ?_
  by_cases h3:R1.e=0
  ·rw [if_neg (by rw [h3];simp)] at hs ⊢
   by_cases h4:zag m<lo\/zag m>hi
   ·rw [if_pos h4] at hs ⊢
    obtain ⟨x,-,hs⟩:=z21 hs
    refine zj ?_
    refine z8 hs ?_
    refine z0p ?_ (by simp)
    exact ⟨rfl,rfl,z0z ⟨R.bs,R.at_,8⟩ hb0 hs⟩
   ·rw [if_neg h4] at hs ⊢
    obtain ⟨x,-,hs⟩:=z21 hs
    refine zj ?_
    refine z8 hs ?_
    refine zu ?_ (by rw [h3];simp)
    refine wp_lt ?_
    exact ⟨rfl,rfl,z0z R1 hb2 hs⟩
  ·rw [if_pos h3] at hs ⊢
   obtain ⟨x,-,hs⟩:=z21 hs
   refine zj ?_
   refine z8 hs ?_
   refine z0p ?_ h3
   exact ⟨rfl,rfl,z0z R1 hb2 hs⟩
end
abbrev Lf:=Option (List UInt8)
def zx:Lf->Nat × Lf
 | none=>(0,none)
 | some bs=>match z2u 0 bs with
  | none=>(0,none)
  | some p=>(p.1,some (bs.drop p.2))
def z1l (lo hi:Int) (s:Lf):Int × Lf:=match (zx s).2 with
 | none=>(0,none)
 | some t=>if zag (zx s).1<lo\/zag (zx s).1>hi then (0,none) else (zag (zx s).1,some t)
def z10:Lf->Nat × Lf
 | some (c::t)=>(c.toNat,some t)
 | _=>(0,none)
def z4o:Lf->Bool × Lf
 | some (c::t)=>if c.toNat<=1 then (decide (c.toNat=1),some t) else (false,none)
 | _=>(false,none)
def z1j (most:Nat) (s:Lf):ByteArray × Lf:=match (zx s).2 with
 | none=>(⟨#[]⟩,none)
 | some t=>if (zx s).1<=most/\(zx s).1<=t.length then (⟨(t.take (zx s).1).toArray⟩,some (t.drop (zx s).1)) else (⟨#[]⟩,none)
def z00 (most:Int) (s:Lf):Int × Lf:=(if ((zx s).1:Int)>most then most+1 else (zx s).1,(zx s).2)
abbrev bl (s:ByteArray):List UInt8:=s.data.toList
theorem z4v {v:Nat} (h:v<18446744073709551616) (t:List UInt8):zx (some (z2f v++t))=(v,some t):=by
 unfold zx
 simp only [zar h,List.drop_left]
theorem z4u {s:Lf} {t:List UInt8} (h:(zx s).2=some t):(zx s).1<18446744073709551616/\s=some (z2f (zx s).1++t):=by
 cases s with
 | none=>cases h
 | some bs =>
  cases hn:z2u 0 bs with
  | none =>
   have e:zx (some bs)=(0,none):=by unfold zx;simp only [hn]
   rw [e] at h;cases h
  | some p =>
   obtain ⟨v,k⟩:=p
   have e:zx (some bs)=(v,some (bs.drop k)):=by unfold zx;simp only [hn]
   rw [e] at h ⊢
   obtain ⟨h1,h2⟩:=zfu hn
   simp only [Option.some.injEq] at h ⊢
   subst h
   exact ⟨h2,by rw [<- h1,List.take_append_drop]⟩
theorem zn2 {lo hi n:Int} (h1:lo<=n) (h2:n<=hi) (hn : -9223372036854775808<=n/\n<9223372036854775808) (t:List UInt8):z1l lo hi (some (z5q n++t))=(n,some t):=by
 unfold z1l z5q
 simp only [z4v (zy6 hn),z05w]
 rw [if_neg (by omega)]
theorem znh {lo hi:Int} {s:Lf} {t:List UInt8} (h:(z1l lo hi s).2=some t):(lo<=(z1l lo hi s).1/\(z1l lo hi s).1<=hi)/\s=some (z5q (z1l lo hi s).1++t):=by
 unfold z1l at h ⊢
 cases hu:(zx s).2 with
 | none=>rw [hu] at h;cases h
 | some t' =>
  have h2:=z4u hu
  rw [hu] at h
  simp only at h ⊢
  split at h
  ·cases h
  rename_i h3
  simp only [Option.some.injEq] at h
  subst h
  rw [if_neg h3]
  refine ⟨by omega,?_⟩
  unfold z5q
  rw [z05x]
  exact h2.2
theorem zcz {s:Lf} {t:List UInt8} (h:(z10 s).2=some t):(z10 s).1<256/\s=some (UInt8.ofNat (z10 s).1::t):=by
 match s,h with
 | some (c::r),h =>
  have h:some r=some t:=h
  cases h
  refine ⟨c.toNat_lt,?_⟩
  show some (c::t)=some (UInt8.ofNat c.toNat::t)
  rw [UInt8.ofNat_toNat]
 | some [],h=>cases h
 | none,h=>cases h
def z8v (b:Bool):UInt8:=if b then 1 else 0
theorem zs9 (b:Bool) (t:List UInt8):z4o (some (z8v b::t))=(b,some t):=by
 cases b <;> rfl
theorem zwa {s:Lf} {t:List UInt8} (h:(z4o s).2=some t):s=some (z8v (z4o s).1::t):=by
 match s,h with
 | some (c::r),h =>
  unfold z4o at h ⊢
  simp only at h ⊢
  split at h
  ·rename_i h1
   simp only [Option.some.injEq] at h
   subst h
   rw [if_pos h1]
   congr 2
   by_cases h2:c.toNat=1
   ·rw [decide_eq_true h2];exact UInt8.toNat_inj.1 h2
   ·rw [decide_eq_false h2];exact UInt8.toNat_inj.1 (by show c.toNat=0;omega)
  ·cases h
 | some [],h=>cases h
 | none,h=>cases h
theorem z1i (s:ByteArray):(bl s).length=s.size:=rfl
theorem zgc (l:List UInt8):bl ⟨l.toArray⟩=l:=by simp [bl]
theorem zgb {a b:ByteArray} (h:bl a=bl b):a=b:=by
 cases a;cases b;exact congrArg ByteArray.mk (Array.ext' h)
theorem zhg {most:Nat} (x:ByteArray) (h:x.size<=most) (hm:most<4294967296) (t:List UInt8):z1j most (some (uI x.size++(bl x++t)))=(x,some t):=by
 unfold z1j uI
 have e:((x.size:Int)).toNat=x.size:=by omega
 rw [e]
 simp only [z4v (show x.size<18446744073709551616 by omega)]
 rw [if_pos ⟨h,by rw [List.length_append,z1i];omega⟩,<- z1i,List.take_left,List.drop_left]
theorem zk5 {most:Nat} {s:Lf} {t:List UInt8} (h:(z1j most s).2=some t):(z1j most s).1.size<=most/\s=some (uI (z1j most s).1.size++(bl (z1j most s).1++t)):=by
 unfold z1j at h ⊢
 cases hu:(zx s).2 with
 | none=>rw [hu] at h;cases h
 | some t' =>
  have h2:=z4u hu
  rw [hu] at h
  simp only at h ⊢
  split at h
  rotate_left
  ·cases h
  rename_i h3
  simp only [Option.some.injEq] at h
  subst h
  rw [if_pos h3]
  have e:(ByteArray.mk (t'.take (zx s).1).toArray).size=(zx s).1:=by
   show (t'.take (zx s).1).length=_
   rw [List.length_take];omega
  refine ⟨by rw [e];exact h3.1,?_⟩
  rw [e,zgc,List.take_append_drop]
  unfold uI
  exact h2.2
theorem z5r {most n:Int} (h0:0<=n) (hn:n<=most) (hm:most<9223372036854775808) (t:List UInt8):z00 most (some (uI n++t))=(n,some t):=by
 unfold z00 uI
 rw [z4v (by omega),if_neg (by simp only;omega)]
 congr 1
 simp only;omega
theorem z6l {most:Int} (hm:0<=most) {s:Lf} {t:List UInt8} (h:(z00 most s).2=some t):(0<=(z00 most s).1/\(z00 most s).1<=most+1)/\((z00 most s).1<=most->s=some (uI (z00 most s).1++t)):=by
 have h2:=z4u (show (zx s).2=some t from h)
 unfold z00
 simp only
 split
 ·exact ⟨⟨by omega,by omega⟩,λh3=>absurd h3 (by omega)⟩
 ·refine ⟨⟨by omega,by omega⟩,λh3=>?_⟩
  unfold uI
  rw [Int.toNat_natCast]
  exact h2.2
def z0m:List UInt8->List UInt8->Nat
 | a::x,b::y=>if a=b then z0m x y+1 else 0
 | _,_=>0
theorem zai:∀ x y:List UInt8,z0m x y<=x.length/\z0m x y<=y.length
 | [],_=>by simp [z0m]
 | _::_,[]=>by simp [z0m]
 | a::x,b::y=>by
  have:=zai x y
  unfold z0m
  split <;> simp <;> omega
theorem zef:∀ x y:List UInt8,x.take (z0m x y)=y.take (z0m x y)
 | [],_=>by simp [z0m]
 | _::_,[]=>by simp [z0m]
 | a::x,b::y=>by
  unfold z0m
  split
  ·rename_i h
   rw [List.take_succ_cons,List.take_succ_cons,h,zef x y]
  ·rfl
theorem zcw:∀ {x y:List UInt8} {i:Nat} (h1:i<=x.length) (h2:i<=y.length),x.take i=y.take i->(i=x.length\/i=y.length\/x[i]? ≠ y[i]?)->z0m x y=i
 | [],y,i,h1,h2,_,_=>by simp at h1;simp [z0m,h1]
 | _::_,[],i,h1,h2,_,_=>by simp at h2;simp [z0m,h2]
 | a::x,b::y,0,_,_,_,h=>by
  unfold z0m
  rw [if_neg]
  rintro rfl
  rcases h with h|h|h
  ·simp at h
  ·simp at h
  ·simp at h
 | a::x,b::y,i+1,h1,h2,ht,h=>by
  rw [List.take_succ_cons,List.take_succ_cons,List.cons.injEq] at ht
  unfold z0m
  rw [if_pos ht.1,zcw (by simpa using h1) (by simpa using h2) ht.2]
  rcases h with h|h|h
  ·left;simpa using h
  ·right;left;simpa using h
  ·right;right;simpa using h
def z7c (ahead key:ByteArray):List UInt8:=uI (key.size-z0m (bl ahead) (bl key):Nat)++(bl key).drop (z0m (bl ahead) (bl key))
def z6j (time:Int) (ahead:ByteArray) (r:RecM):List UInt8 :=
 z5q (r.time-time)++(z8v r.gone::(uI (z0m (bl ahead) (bl r.key):Nat)++(z7c ahead r.key++if r.gone then [] else uI r.value.size++bl r.value)))
def z2o (time:Int):ByteArray->List RecM->List UInt8
 | _,[]=>[]
 | ahead,r::rs=>z6j time ahead r++z2o time r.key rs
def z2w (b:BatM):List UInt8 :=
 1::UInt8.ofNat b.kind.toNat::(uI b.base++(uI b.pid++((if b.pid>0 then uI b.epoch++(if z04 b then [] else uI b.seq) else [])++(uI b.time++if z04 b then [] else uI b.rs.length++z2o b.time ⟨#[]⟩ b.rs))))
def BatM.p (b:BatM):BatM:={ b with x:=⟨none,0,0⟩ }
def z5a (ahead:ByteArray) (n:Int) (rest:ByteArray):ByteArray:=ahead.extract 0 n.toNat++rest
def z3p (time:Int) (ahead:ByteArray) (s:Lf):Option RecM × Lf :=
 if (z00 1024 (z4o (z1l (-1099511627776) 1099511627776 s).2).2).1>ahead.size then (none,(z1j 1024 (z00 1024 (z4o (z1l (-1099511627776) 1099511627776 s).2).2).2).2) else
 let a:=z1l (-1099511627776) 1099511627776 s
 let b:=z4o a.2
 let c:=z00 1024 b.2
 let d:=z1j 1024 c.2
 let e:=if b.1 then (⟨#[]⟩,d.2) else z1j 1024 d.2
 if e.2.isSome=true/\(z0m (bl ahead) (bl (z5a ahead c.1 d.1)):Int)=c.1 then (some ⟨z5a ahead c.1 d.1,e.1,b.1,time+a.1⟩,e.2) else (none,e.2)
def z4s (time:Int):Nat->ByteArray->Lf->Option (List RecM × Lf)
 | 0,_,s=>some ([],s)
 | n+1,ahead,s=>match (z3p time ahead s).1 with
  | none=>none
  | some x=>(z4s time n x.key (z3p time ahead s).2).map λq=>(x::q.1,q.2)
theorem zpz (ahead rest:ByteArray) (n:Int):bl (z5a ahead n rest)=(bl ahead).take n.toNat++bl rest:=by
 unfold z5a bl
 simp [List.extract_eq_take_drop]
theorem zwg (ahead key:ByteArray):z5a ahead (z0m (bl ahead) (bl key):Nat) ⟨((bl key).drop (z0m (bl ahead) (bl key))).toArray⟩=key:=by
 apply zgb
 rw [zpz,zgc,Int.toNat_natCast,zef,List.take_append_drop]
theorem z3j {r:RecM} (h:z26 r=0):r.key.size<=1024/\r.value.size<=1024/\(0<=r.time/\r.time<=1099511627776)/\(r.gone=true->r.value=⟨#[]⟩):=by
 unfold z26 at h
 split at h
 ·cases h
 rename_i h1
 split at h
 ·cases h
 rename_i h2
 refine ⟨by omega,by omega,by omega,λhg=>?_⟩
 apply Decidable.byContradiction
 intro h3
 exact h2 (.inr ⟨hg,zms.2 h3⟩)
theorem zsz {time:Int} (ht:0<=time/\time<=1099511627776) {r:RecM} (hr:z26 r=0) (ahead:ByteArray) (t:List UInt8):z3p time ahead (some (z6j time ahead r++t))=(some r,some t):=by
 obtain ⟨h1,h2,h3,h4⟩:=z3j hr
 have hle:=zai (bl ahead) (bl r.key)
 rw [z1i,z1i] at hle
 have hd:(ByteArray.mk ((bl r.key).drop (z0m (bl ahead) (bl r.key))).toArray).size=r.key.size-z0m (bl ahead) (bl r.key):=by
  show ((bl r.key).drop _).length=_
  rw [List.length_drop,z1i]
 have e0:z6j time ahead r++t=z5q (r.time-time)++(z8v r.gone::(uI (z0m (bl ahead) (bl r.key):Nat)++(uI ((ByteArray.mk ((bl r.key).drop (z0m (bl ahead) (bl r.key))).toArray).size:Nat)++(bl (ByteArray.mk ((bl r.key).drop (z0m (bl ahead) (bl r.key))).toArray)++((if r.gone then [] else uI r.value.size++bl r.value)++t))))):=by
  rw [hd,zgc]
  unfold z6j z7c
  simp only [List.append_assoc,List.cons_append]
 rw [e0]
 generalize hZ:(if r.gone then [] else uI r.value.size++bl r.value)++t=Z
 have e1:=zn2 (lo := -1099511627776) (hi:=1099511627776) (n:=r.time-time) (by omega) (by omega) (by omega)
 have e3:=z5r (most:=1024) (n:=(z0m (bl ahead) (bl r.key):Nat)) (by omega) (by omega) (by omega)
 have e4:=zhg (most:=1024) (ByteArray.mk ((bl r.key).drop (z0m (bl ahead) (bl r.key))).toArray) (by rw [hd];omega) (by omega)
 unfold z3p
 simp only [e1,zs9,e3,e4,zwg]
 rw [if_neg (by omega)]
 have e5:(if r.gone=true then ((⟨#[]⟩:ByteArray),some Z) else z1j 1024 (some Z))=(r.value,some t):=by
  by_cases hg:r.gone=true
  ·rw [if_pos hg] at hZ ⊢
   rw [h4 hg,<- hZ];rfl
  ·rw [if_neg hg] at hZ ⊢
   rw [<- hZ,List.append_assoc]
   exact zhg _ h2 (by omega) t
 rw [e5]
 simp only [Option.isSome_some,true_and]
 rw [if_pos trivial,show time+(r.time-time)=r.time by omega]
theorem zx7 {time:Int} {ahead:ByteArray} (hah:ahead.size<=1024) {s:Lf} {r:RecM} (h:(z3p time ahead s).1=some r):∃ t,(z3p time ahead s).2=some t/\s=some (z6j time ahead r++t):=by
 unfold z3p at h ⊢
 split at h
 ·cases h
 rename_i hc
 rw [if_neg hc]
 simp only at h ⊢
 generalize ha:z1l (-1099511627776) 1099511627776 s=a at *
 generalize hb:z4o a.2=b at *
 generalize hcc:z00 1024 b.2=c at *
 generalize hd:z1j 1024 c.2=d at *
 generalize he:(if b.1=true then ((⟨#[]⟩:ByteArray),d.2) else z1j 1024 d.2)=e at *
 split at h
 rotate_left
 ·cases h
 rename_i h5
 rw [if_pos h5]
 obtain ⟨h5,h6⟩:=h5
 obtain ⟨t,ht⟩:=Option.isSome_iff_exists.1 h5
 refine ⟨t,ht,?_⟩
 simp only [Option.some.injEq] at h
 have hd2:d.2=some ((if b.1=true then [] else uI e.1.size++bl e.1)++t):=by
  by_cases hg:b.1=true
  ·rw [if_pos hg] at he ⊢
   rw [<- he] at ht
   exact ht
  ·rw [if_neg hg] at he ⊢
   rw [<- he] at ht ⊢
   rw [List.append_assoc]
   exact (zk5 ht).2
 rw [<- hd] at hd2
 have h7:=zk5 hd2
 rw [hd] at h7
 have hc2:c.2=_:=h7.2
 rw [<- hcc] at hc2
 have h8:=z6l (by omega) hc2
 rw [hcc] at h8
 have hle:=zai (bl ahead) (bl (z5a ahead c.1 d.1))
 have hb2:=h8.2 (by omega)
 rw [<- hb] at hb2
 have ha2:=zwa hb2
 rw [hb,<- ha] at ha2
 have h9:=znh ha2
 rw [ha] at h9
 rw [h9.2,<- h]
 unfold z6j z7c
 simp only
 have hn:c.1.toNat=z0m (bl ahead) (bl (z5a ahead c.1 d.1)):=by omega
 have hl1:((bl ahead).take c.1.toNat).length=c.1.toNat:=by rw [List.length_take,hn];omega
 have hdrop:(bl (z5a ahead c.1 d.1)).drop c.1.toNat=bl d.1:=by
  rw [zpz]
  exact List.drop_left' hl1
 have hsz:(z5a ahead c.1 d.1).size-c.1.toNat=d.1.size:=by
  rw [<- z1i,<- z1i,<- hdrop,List.length_drop]
 rw [<- hn,hdrop,hsz,show time+a.1-time=a.1 by omega,show ((c.1.toNat:Nat):Int)=c.1 by omega]
 simp only [List.append_assoc,List.cons_append]
theorem zh7 {time:Int} (ht:0<=time/\time<=1099511627776):∀ {rs:List RecM} (hr:∀ r ∈ rs,z26 r=0) (ahead:ByteArray) (t:List UInt8),z4s time rs.length ahead (some (z2o time ahead rs++t))=some (rs,some t)
 | [],_,_,_=>rfl
 | r::rs,hr,ahead,t=>by
  have e:=zsz ht (hr r (List.mem_cons_self ..)) ahead (z2o time r.key rs++t)
  show z4s time (rs.length+1) ahead (some ((z6j time ahead r++z2o time r.key rs)++t))=_
  rw [List.append_assoc]
  unfold z4s
  rw [e]
  simp only
  rw [zh7 ht (λx hx=>hr x (List.mem_cons_of_mem _ hx)) r.key t]
  rfl
theorem zjt {time:Int}:∀ {n:Nat} {ahead:ByteArray} (hah:ahead.size<=1024) {s:Lf} {rs:List RecM} {t:List UInt8} (hk:∀ r ∈ rs,r.key.size<=1024) (h:z4s time n ahead s=some (rs,some t)),rs.length=n/\s=some (z2o time ahead rs++t)
 | 0,ahead,hah,s,rs,t,hk,h=>by
  simp only [z4s,Option.some.injEq,Prod.mk.injEq] at h
  obtain ⟨rfl,rfl⟩:=h
  exact ⟨rfl,rfl⟩
 | n+1,ahead,hah,s,rs,t,hk,h=>by
  unfold z4s at h
  cases hx:(z3p time ahead s).1 with
  | none=>rw [hx] at h;cases h
  | some x =>
   rw [hx] at h
   simp only [Option.map_eq_some_iff,Prod.mk.injEq] at h
   obtain ⟨⟨rs',s'⟩,h1,rfl,rfl⟩:=h
   obtain ⟨t1,h2,h3⟩:=zx7 hah hx
   rw [h2] at h1
   have hk1:x.key.size<=1024:=hk x (List.mem_cons_self ..)
   obtain ⟨h4,h5⟩:=zjt hk1 (λr hr=>hk r (List.mem_cons_of_mem _ hr)) h1
   simp only [Option.some.injEq] at h5
   refine ⟨by rw [List.length_cons,h4],?_⟩
   rw [h3,h5]
   show some (z6j time ahead x++(z2o time x.key rs'++t))=some ((z6j time ahead x++z2o time x.key rs')++t)
   rw [List.append_assoc]
def z8h:Sl:=⟨none,0,0⟩
structure HdS where
 k:Nat × Lf
 ba:Int × Lf
 pi:Int × Lf
 ep:Int × Lf
 sq:Int × Lf
 tm:Int × Lf
def z3f (k:Nat):Bool:=decide ((k:Int)=2) || decide ((k:Int)=3)
def hdS (s:Lf):HdS :=
 let k:=z10 s
 let ba:=z00 1099511627776 k.2
 let pi:=z00 1048576 ba.2
 let ep:=if pi.1>0 then z00 32767 pi.2 else (0,pi.2)
 let sq:=if pi.1>0/\z3f k.1=false then z00 2147483647 ep.2 else (0,ep.2)
 ⟨k,ba,pi,ep,sq,z00 1099511627776 sq.2⟩
def HdS.b (h:HdS) (rs:List RecM):BatM:=⟨h.ba.1,h.pi.1,h.ep.1,h.sq.1,h.k.1,h.tm.1,z8h,rs⟩
def zl7 (h:HdS):Option BatM :=
 if h.tm.2.isSome=false\/h.tm.1>1099511627776 then none else
 if z3f h.k.1=true then (if h.tm.2=some []/\z07 (h.b [])=0 then some (h.b []) else none) else
 if (z00 64 h.tm.2).1>64 then none else
 match z4s h.tm.1 (z00 64 h.tm.2).1.toNat ⟨#[]⟩ (z00 64 h.tm.2).2 with
 | none=>none
 | some q=>if q.2=some []/\z07 (h.b q.1)=0 then some (h.b q.1) else none
def z63 (raw:List UInt8):Option BatM:=if (z10 (some raw)).1≠1 then none else zl7 (hdS (z10 (some raw)).2)
theorem zl4:∀ {rs:List RecM},z62 rs=0->∀ r ∈ rs,z26 r=0
 | [],_,r,h=>by cases h
 | x::rs,h,r,hr=>by
  have h:(if z26 x≠0 then z26 x else z62 rs)=0:=h
  by_cases hx:z26 x≠0
  ·rw [if_pos hx] at h;exact absurd h hx
  rw [if_neg hx] at h
  rcases List.mem_cons.1 hr with rfl|hr
  ·exact Decidable.not_not.1 hx
  ·exact zl4 h r hr
theorem z1q {b:BatM} (hv:z07 b=0):b.rs.length<=64/\∀ r ∈ b.rs,z26 r=0:=by
 unfold z07 at hv
 split at hv
 ·cases hv
 split at hv
 ·cases hv
 rename_i h2
 split at hv
 ·rename_i h3;exact absurd hv h3
 rename_i h3
 exact ⟨by omega,zl4 (Decidable.not_not.1 h3)⟩
theorem zqm {b:BatM} (h:0<=b.kind):z3f b.kind.toNat=z04 b:=by
 unfold z3f z04
 rw [Int.toNat_of_nonneg h]
theorem zys {b:BatM} (hv:z07 b=0):∃ s1 s2 s3 s4 s5,hdS (z10 (some (z2w b))).2=⟨(b.kind.toNat,s1),(b.base,s2),(b.pid,s3),(b.epoch,s4),(b.seq,s5),(b.time,some (if z04 b then [] else uI b.rs.length++z2o b.time ⟨#[]⟩ b.rs))⟩:=by
 obtain ⟨-,-,⟨hk,hba,hpi,hep,hsq,htm⟩,hfit,-⟩:=z16 b hv
 unfold z2w
 generalize hY:(if z04 b then [] else uI b.rs.length++z2o b.time ⟨#[]⟩ b.rs)=Y
 have e1:∀ t,z10 (some (UInt8.ofNat b.kind.toNat::t))=(b.kind.toNat,some t):=λt=>by
  show ((UInt8.ofNat b.kind.toNat).toNat,some t)=_
  rw [UInt8.toNat_ofNat']
  congr 1
  omega
 have e2:=z5r (most:=1099511627776) (n:=b.base) hba.1 hba.2 (by omega)
 have e3:=z5r (most:=1048576) (n:=b.pid) hpi.1 hpi.2 (by omega)
 have e4:=z5r (most:=32767) (n:=b.epoch) hep.1 hep.2 (by omega)
 have e5:=z5r (most:=2147483647) (n:=b.seq) hsq.1 hsq.2 (by omega)
 have e6:=z5r (most:=1099511627776) (n:=b.time) htm.1 htm.2 (by omega)
 show ∃ s1 s2 s3 s4 s5,hdS (some (UInt8.ofNat b.kind.toNat::_))=_
 unfold hdS
 simp only [e1,e2,e3,zqm hk.1]
 by_cases hp:b.pid>0
 ·rw [if_pos hp,if_pos hp]
  by_cases hm:z04 b=true
  ·have hs0:b.seq=0:=by have:=hfit.2;rw [if_pos hm] at this;exact this.1
   simp only [hm,if_true,Bool.true_eq_false,and_false,if_false,List.append_nil,List.append_assoc,e4,e6]
   exact ⟨_,_,_,_,_,by rw [hs0]⟩
  ·have hm:z04 b=false:=by simpa using hm
   simp only [hm,hp,Bool.false_eq_true,and_self,if_true,if_false,List.append_assoc,e4,e5,e6]
   exact ⟨_,_,_,_,_,rfl⟩
 ·have h0:b.pid=0:=by omega
  have hz:b.kind=0/\b.epoch=0/\b.seq=0:=by
   have:=hfit.1
   refine ⟨?_,?_,?_⟩ <;> (apply Decidable.byContradiction;intro h;apply this;simp [h0,h])
  rw [if_neg hp,if_neg hp,if_neg (λh=>hp h.1)]
  simp only [List.nil_append,e6]
  exact ⟨_,_,_,_,_,by rw [hz.2.1,hz.2.2]⟩
theorem zix {b:BatM} (hv:z07 b=0):z63 (z2w b)=some b.p:=by
 obtain ⟨s1,s2,s3,s4,s5,h⟩:=zys hv
 obtain ⟨-,-,⟨hk,hba,hpi,hep,hsq,htm⟩,hfit,-⟩:=z16 b hv
 obtain ⟨h64,hrs⟩:=z1q hv
 have hb:∀ rs,(HdS.mk (b.kind.toNat,s1) (b.base,s2) (b.pid,s3) (b.epoch,s4) (b.seq,s5) (b.time,some (if z04 b then [] else uI b.rs.length++z2o b.time ⟨#[]⟩ b.rs))).b rs={ b.p with rs:=rs }:=λrs=>by
  unfold HdS.b BatM.p
  simp only [Int.toNat_of_nonneg hk.1]
  rfl
 unfold z63
 rw [h,if_neg (by show ¬ ((1:Nat)≠1);simp)]
 unfold zl7
 rw [if_neg (by simp only [Option.isSome_some];rintro (h|h);cases h;omega)]
 simp only [hb,zqm hk.1]
 by_cases hm:z04 b=true
 ·have h0:b.rs=[]:=by have:=hfit.2;rw [if_pos hm] at this;exact List.length_eq_zero_iff.1 this.2
  rw [if_pos hm,if_pos hm]
  have e:{ b.p with rs:=[] }=b.p:=by rw [<- h0];rfl
  rw [e,if_pos ⟨rfl,hv⟩]
 ·have e1:=z5r (most:=64) (n:=(b.rs.length:Int)) (by omega) (by omega) (by omega) (z2o b.time ⟨#[]⟩ b.rs)
  have e2:=zh7 htm hrs ⟨#[]⟩ []
  rw [List.append_nil] at e2
  rw [if_neg hm,if_neg hm]
  simp only [e1,Int.toNat_natCast,e2]
  rw [if_neg (by omega),if_pos (by first|exact ⟨rfl,hv⟩|exact ⟨trivial,hv⟩)]
  rfl
theorem zqa {s:Lf} {t:List UInt8} (h:(hdS s).tm.2=some t) (htm:(hdS s).tm.1<=1099511627776) {rs:List RecM} (hv:z07 ((hdS s).b rs)=0) :
  s=some (UInt8.ofNat ((hdS s).b rs).kind.toNat::(uI ((hdS s).b rs).base++(uI ((hdS s).b rs).pid++((if ((hdS s).b rs).pid>0 then uI ((hdS s).b rs).epoch++(if z04 ((hdS s).b rs) then [] else uI ((hdS s).b rs).seq) else [])++(uI ((hdS s).b rs).time++t))))):=by
 obtain ⟨-,-,⟨hk,hba,hpi,hep,hsq,-⟩,hfit,-⟩:=z16 _ hv
 unfold hdS at *
 unfold HdS.b at *
 simp only at *
 generalize e1:z10 s=k at *
 generalize e2:z00 1099511627776 k.2=ba at *
 generalize e3:z00 1048576 ba.2=pi at *
 generalize e4:(if pi.1>0 then z00 32767 pi.2 else (0,pi.2))=ep at *
 generalize e5:(if pi.1>0/\z3f k.1=false then z00 2147483647 ep.2 else (0,ep.2))=sq at *
 have hmk:z04 (⟨ba.1,pi.1,ep.1,sq.1,k.1,(z00 1099511627776 sq.2).1,z8h,rs⟩:BatM)=z3f k.1:=rfl
 have h6:=(z6l (by omega) h).2 htm
 have h5:ep.2=some ((if pi.1>0/\z3f k.1=false then uI sq.1 else [])++(uI (z00 1099511627776 sq.2).1++t)):=by
  generalize (z00 1099511627776 sq.2).1=tm at *
  by_cases hc:pi.1>0/\z3f k.1=false
  ·rw [if_pos hc] at e5 ⊢
   rw [<- e5] at h6 hsq ⊢
   exact (z6l (by omega) h6).2 hsq.2
  ·rw [if_neg hc] at e5 ⊢
   rw [<- e5] at h6
   exact h6
 generalize (z00 1099511627776 sq.2).1=tm at *
 have h4:pi.2=some ((if pi.1>0 then uI ep.1 else [])++((if pi.1>0/\z3f k.1=false then uI sq.1 else [])++(uI tm++t))):=by
  by_cases hc:pi.1>0
  ·rw [if_pos hc] at e4 ⊢
   rw [<- e4] at h5 hep ⊢
   exact (z6l (by omega) h5).2 hep.2
  ·rw [if_neg hc] at e4 ⊢
   rw [<- e4] at h5
   exact h5
 rw [<- e3] at h4 hpi
 have h3:=(z6l (by omega) h4).2 hpi.2
 rw [e3] at h3
 rw [<- e2] at h3 hba
 have h2:=(z6l (by omega) h3).2 hba.2
 rw [e2] at h2
 rw [<- e1] at h2
 have h1:=(zcz h2).2
 rw [e1] at h1
 have e:(if pi.1>0 then uI ep.1 else [])++((if pi.1>0/\z3f k.1=false then uI sq.1 else [])++(uI tm++t))=(if pi.1>0 then uI ep.1++(if z3f k.1 then [] else uI sq.1) else [])++(uI tm++t):=by
  by_cases hp:pi.1>0
  ·by_cases hm:z3f k.1=true
   ·simp [hp,hm]
   ·simp [hp,hm]
  ·simp [hp]
 rw [h1,hmk,Int.toNat_natCast,e]
theorem zld {raw:List UInt8} {b:BatM} (h:z63 raw=some b):z07 b=0/\z2w b=raw/\b.p=b:=by
 unfold z63 at h
 split at h
 ·cases h
 rename_i h1
 have h1:(z10 (some raw)).1=1:=Decidable.not_not.1 h1
 generalize hs:(z10 (some raw)).2=s at h
 have hraw:∀ t,s=some t->raw=1::t:=λt ht=>by
  rw [<- hs] at ht
  have:=(zcz ht).2
  rw [h1] at this
  exact Option.some.inj this
 unfold zl7 at h
 split at h
 ·cases h
 rename_i h2
 have h3:(hdS s).tm.2.isSome=true:=by
  cases he:(hdS s).tm.2.isSome with
  | true=>rfl
  | false=>exact absurd (.inl he) h2
 have h4:(hdS s).tm.1<=1099511627776:=by omega
 obtain ⟨t,ht⟩:=Option.isSome_iff_exists.1 h3
 split at h
 ·rename_i hm
  split at h
  rotate_left
  ·cases h
  rename_i h5
  simp only [Option.some.injEq] at h
  subst h
  refine ⟨h5.2,?_,rfl⟩
  have h6:=hraw _ (zqa h5.1 h4 h5.2)
  rw [h6]
  have hm:z04 ((hdS s).b [])=true:=hm
  unfold z2w
  rw [hm]
  rfl
 ·rename_i hm
  split at h
  ·cases h
  rename_i h7
  cases hr:z4s (hdS s).tm.1 (z00 64 (hdS s).tm.2).1.toNat ⟨#[]⟩ (z00 64 (hdS s).tm.2).2 with
  | none=>rw [hr] at h;cases h
  | some q =>
   rw [hr] at h
   simp only at h
   split at h
   rotate_left
   ·cases h
   rename_i h5
   simp only [Option.some.injEq] at h
   subst h
   refine ⟨h5.2,?_,rfl⟩
   obtain ⟨rs,q2⟩:=q
   obtain ⟨rfl,h5⟩:=h5
   have hrs:=(z1q h5).2
   obtain ⟨h8,h9⟩:=zjt (by decide) (λr hr=>(z3j (hrs r hr)).1) hr
   have h10:=z6l (by omega) h9
   have h11:=h10.2 (by omega)
   have h6:=hraw _ (zqa h11 h4 h5)
   rw [h6]
   have hm:z04 ((hdS s).b rs)≠true:=hm
   unfold z2w
   rw [if_neg hm,if_neg hm]
   have e:((hdS s).b rs).rs.length=(z00 64 (hdS s).tm.2).1:=by
    have h12:=h10.1
    have h13:rs.length=(z00 64 (hdS s).tm.2).1.toNat:=h8
    show ((rs.length:Nat):Int)=_
    rw [h13,Int.toNat_of_nonneg h12.1]
   rw [e,List.append_nil]
   rfl
structure ComM where
 part:Int
 off:Int
 mem:Int
 gen:Int
def z0b (c:ComM):List Value:=[.int .i64 c.part,.int .i64 c.off,.int .i64 c.mem,.int .i64 c.gen]
instance:EncA z0b [.int .i64,.int .i64,.int .i64,.int .i64] (λc=>(c.part,c.off,c.mem,c.gen,())):=⟨λ_=>rfl⟩
instance:EncN z0b 4:=⟨λ_=>rfl,by decide,by simp [z0b,Value.oneCell']⟩
def z4a (c:ComM):Prop:=(0<=c.part/\c.part<=255)/\(0<=c.off/\c.off<=1099511627776)/\(0<=c.mem/\c.mem<=64)/\(0<=c.gen/\c.gen<=2147483647)
instance (c:ComM):Decidable (z4a c):=by unfold z4a;infer_instance
def z5t (n:Nat):UInt8:=UInt8.ofNat (48+n)
def z7y (p:Int):List UInt8:=[z5t (p.toNat / 100),z5t (p.toNat / 10 % 10),z5t (p.toNat % 10)]
def z11 (p:Int):ByteArray:=⟨(111::z7y p).toArray⟩
def z43 (c:ComM):List UInt8:=uI c.off++(uI c.mem++uI c.gen)
def z2v (c:ComM) (time:Int):RecM:=⟨z11 c.part,⟨(z43 c).toArray⟩,false,time⟩
def z3r (r:RecM) (c:ComM):Prop:=z4a c/\r.key=z11 c.part/\r.value=⟨(z43 c).toArray⟩/\r.gone=false
theorem zfc {a b:Nat} (ha:a<=9) (hb:b<=9) (h:z5t a=z5t b):a=b:=by
 have:=congrArg UInt8.toNat h
 unfold z5t at this
 simp only [UInt8.toNat_ofNat'] at this
 omega
theorem zz0 {p q:Int} (hp:0<=p/\p<=255) (hq:0<=q/\q<=255) (h:z7y p=z7y q):p=q:=by
 unfold z7y at h
 simp only [List.cons.injEq,and_true] at h
 obtain ⟨h1,h2,h3⟩:=h
 have h1:=zfc (by omega) (by omega) h1
 have h2:=zfc (by omega) (by omega) h2
 have h3:=zfc (by omega) (by omega) h3
 omega
theorem zyz {p q:Int} (hp:0<=p/\p<=255) (hq:0<=q/\q<=255) (h:z11 p=z11 q):p=q:=by
 have:(111::z7y p)=111::z7y q:=by
  have:=congrArg (λb:ByteArray=>b.data.toList) h
  simpa [z11] using this
 exact zz0 hp hq (List.cons.inj this).2
theorem z06u {a b:List UInt8} (h:(⟨a.toArray⟩:ByteArray)=⟨b.toArray⟩):a=b:=by
 have:=congrArg (λb:ByteArray=>b.data.toList) h
 simpa using this
theorem zyy {r:RecM} {c c':ComM} (h:z3r r c) (h':z3r r c'):c=c':=by
 obtain ⟨⟨p1,o1,m1,g1⟩,k1,v1,-⟩:=h
 obtain ⟨⟨p2,o2,m2,g2⟩,k2,v2,-⟩:=h'
 have e1:=zyz p1 p2 (k1.symm.trans k2)
 have e2:=z06u (v1.symm.trans v2)
 unfold z43 at e2
 obtain ⟨e3,e2⟩:=zn0 (by omega) (by omega) e2
 obtain ⟨e4,e2⟩:=zn0 (by omega) (by omega) e2
 have e2:uI c.gen++[]=uI c'.gen++[]:=by rw [e2]
 obtain ⟨e5,-⟩:=zn0 (by omega) (by omega) e2
 obtain ⟨a,b,c,d⟩:=c
 obtain ⟨a',b',c',d'⟩:=c'
 simp only at e1 e3 e4 e5
 subst e1 e3 e4 e5
 rfl
def zrq (r:RecM) (c:ComM) (e:Int):Prop:=(e=0/\z3r r c)\/(e=6/\c=⟨0,0,0,0⟩/\∀ c',¬ z3r r c')
theorem zdt {c:ComM} (h:z4a c):(zx (some (z43 c))).1=c.off.toNat/\(zx (zx (some (z43 c))).2).1=c.mem.toNat/\(zx (zx (zx (some (z43 c))).2).2).1=c.gen.toNat/\(zx (zx (zx (some (z43 c))).2).2).2=some []:=by
 obtain ⟨-,h1,h2,h3⟩:=h
 have e1:zx (some (z43 c))=(c.off.toNat,some (uI c.mem++uI c.gen)):=z4v (by omega) _
 have e2:zx (some (uI c.mem++uI c.gen))=(c.mem.toNat,some (uI c.gen)):=z4v (by omega) _
 have e3:zx (some (uI c.gen))=(c.gen.toNat,some []):=by
  have:=z4v (v:=c.gen.toNat) (by omega) []
  rw [List.append_nil] at this
  exact this
 have f2:(zx (some (z43 c))).2=some (uI c.mem++uI c.gen):=by rw [e1]
 have f3:(zx (zx (some (z43 c))).2).2=some (uI c.gen):=by rw [f2,e2]
 refine ⟨by rw [e1],by rw [f2,e2],by rw [f3,e3],by rw [f3,e3]⟩
theorem z00m {bs:List UInt8} (h:(zx (zx (zx (some bs)).2).2).2=some []):bs=z2f (zx (some bs)).1++(z2f (zx (zx (some bs)).2).1++z2f (zx (zx (zx (some bs)).2).2).1):=by
 obtain ⟨-,h3⟩:=z4u h
 obtain ⟨-,h2⟩:=z4u h3
 obtain ⟨-,h1⟩:=z4u h2
 rw [List.append_nil] at h1
 exact Option.some.inj h1
theorem Ret.mono {P:Program} {f:FuncId} {args:Array Value} {w:World} {R R':List Value->World->Prop} (h:Ret P f args w R) (hi:∀ vs w',R vs w'->R' vs w'):Ret P f args w R' :=
 Calls.mono h λe w' ⟨vs,he,hv⟩=>⟨vs,he,hi _ _ hv⟩
def stR (R:RdM):Lf:=if R.e=0 then some (z4w R) else none
theorem z84 {R:RdM} (h:R.e=0):stR R=some (z4w R):=if_pos h
theorem z74 {R:RdM} (h:R.e≠0):stR R=none:=if_neg h
theorem z00e {R:RdM}:(stR R).isSome=decide (R.e=0):=by
 unfold stR;split <;> simp [*]
theorem z8n {R:RdM}:(R.uint).1=(zx (stR R)).1/\stR R.uint.2=(zx (stR R)).2:=by
 by_cases h:R.e=0
 ·rw [z84 h]
  cases hn:z2u 0 (R.bs.drop R.at_) with
  | none =>
   have e1:R.uint=(0,⟨R.bs,R.at_,6⟩):=by unfold RdM.uint;rw [if_neg (by rw [h];simp)];simp only [hn]
   have e2:zx (some (z4w R))=(0,none):=by unfold zx z4w;simp only [hn]
   rw [e1,e2]
   exact ⟨rfl,if_neg (show ¬ (6:Int)=0 by decide)⟩
  | some q =>
   have e1:R.uint=(q.1,⟨R.bs,R.at_+q.2,R.e⟩):=by unfold RdM.uint;rw [if_neg (by rw [h];simp)];simp only [hn]
   have e2:zx (some (z4w R))=(q.1,some ((z4w R).drop q.2)):=by unfold zx z4w;simp only [hn]
   rw [e1,e2]
   refine ⟨rfl,?_⟩
   show (if R.e=0 then some (R.bs.drop (R.at_+q.2)) else none)=some ((R.bs.drop R.at_).drop q.2)
   rw [if_pos h,List.drop_drop]
 ·rw [zn1 h]
  show 0=(zx (stR R)).1/\stR R=(zx (stR R)).2
  rw [z74 h]
  exact ⟨rfl,rfl⟩
theorem zk1 {R:RdM} {lo hi:Int}:(R.within lo hi).1=(z1l lo hi (stR R)).1/\stR (R.within lo hi).2=(z1l lo hi (stR R)).2:=by
 obtain ⟨h1,h2⟩:=z8n (R:=R)
 unfold RdM.within z1l
 rw [<- h1,<- h2]
 by_cases h:R.uint.2.e=0
 ·rw [if_neg (by rw [h];simp),z84 h]
  simp only
  by_cases hc:zag R.uint.1<lo\/zag R.uint.1>hi
  ·rw [if_pos hc,if_pos hc]
   exact ⟨rfl,if_neg (show ¬ (8:Int)=0 by decide)⟩
  ·rw [if_neg hc,if_neg hc]
   exact ⟨rfl,z84 h⟩
 ·rw [if_pos h]
  show 0=_/\stR R.uint.2=_
  rw [z74 h]
  exact ⟨rfl,rfl⟩
def rdS (T':TypeId) (p:Nat) (s:Lf):HP:=HP.ex λR:RdM=>HP.and (stR R=s) (rdP T' p R)
section
variable {w:World} {l r:List HP} {p:Nat} {s:Lf} {T':TypeId}
theorem z7f (hs:Sat w (rdS T' p s::l)):∃ R:RdM,stR R=s/\Sat w (rdP T' p R::l):=by
 obtain ⟨R,hs⟩:=hs.ex
 obtain ⟨h,hs⟩:=hs.and
 exact ⟨R,h,hs⟩
theorem z2k {R:RdM} (h:stR R=s) (hs:Sat w (rdP T' p R::l)):Sat w (rdS T' p s::l):=.ex_mk R (.and_mk h hs)
theorem zm3 (x:Sl) (bs:List UInt8) [hx:FocR l x 1 (bs.flatMap zi)] (hn:bs.length<=1000000000) (hs:Sat w l) :
  Ret P F.a177 #[x.v] w λvs w'=>∃ p:Nat,vs=[.pointer (some ⟨p,0,none⟩)]/\Sat w' (rdS T.a60 p (some bs)::l) :=
 (znd x bs hn hs).mono λ_ _ h=>by
  obtain ⟨p,rfl,hs⟩:=h
  exact ⟨p,rfl,z2k (R:=⟨bs,0,0⟩) rfl hs⟩
theorem z9t [hf:Fo l (rdS T.a60) p s r] (hs:Sat w l):Ret P F.a184 #[.pointer (some ⟨p,0,none⟩)] w λvs w'=>vs=[.int .u64 ((zx s).1:Int)]/\Sat w' (rdS T.a60 p (zx s).2::r):=by
 obtain ⟨R,rfl,hs⟩:=z7f (hs.perm hf.perm)
 refine (zr4 (p:=p) hs).mono λ_ _ h=>?_
 obtain ⟨rfl,hs⟩:=h
 exact ⟨by rw [z8n.1],z2k z8n.2 hs⟩
theorem zxr (lo hi:Int) [hf:Fo l (rdS T.a60) p s r] (hs:Sat w l):Ret P F.a185 #[.pointer (some ⟨p,0,none⟩),.int .i64 lo,.int .i64 hi] w λvs w'=>vs=[.int .i64 (z1l lo hi s).1]/\Sat w' (rdS T.a60 p (z1l lo hi s).2::r):=by
 obtain ⟨R,rfl,hs⟩:=z7f (hs.perm hf.perm)
 refine (zx9 (p:=p) lo hi hs).mono λ_ _ h=>?_
 obtain ⟨rfl,hs⟩:=h
 exact ⟨by rw [zk1.1],z2k zk1.2 hs⟩
theorem zw5 [hf:Fo l (rdS T.a60) p s r] (hs:Sat w l):Ret P F.a180 #[.pointer (some ⟨p,0,none⟩)] w λvs w'=>∃ e:Int,vs=[.int .i64 e]/\(e=0↔s.isSome=true)/\Sat w' (rdS T.a60 p s::r):=by
 obtain ⟨R,rfl,hs⟩:=z7f (hs.perm hf.perm)
 refine (z079 (p:=p) hs).mono λ_ _ h=>?_
 obtain ⟨rfl,hs⟩:=h
 exact ⟨R.e,rfl,by rw [z00e,decide_eq_true_iff],z2k rfl hs⟩
theorem zli [hf:Fo l (rdS T.a60) p s r] (hs:Sat w l):Ret P F.a179 #[.pointer (some ⟨p,0,none⟩)] w λvs w'=>∃ e:Int,vs=[.int .i64 e]/\(e=0↔s=some [])/\Sat w' r:=by
 obtain ⟨R,rfl,hs⟩:=z7f (hs.perm hf.perm)
 have hb:=(z6h hs).1
 refine (z078 (p:=p) hs).mono λ_ _ h=>?_
 obtain ⟨rfl,hs⟩:=h
 refine ⟨_,rfl,?_,hs.tail⟩
 rw [zs1 hb]
 unfold stR
 by_cases h:R.e=0 <;> simp [h]
end
section
variable {w:World} {l r:List HP} {p:Nat} {s:Lf}
theorem z05n (b:Bool) (hs:Sat w l):Ret P F.a174 #[.bool b] w λvs w'=>∃ z:Sl,vs=[z.v]/\Sat w' (slc T.a58 1 z ([z8v b].flatMap zi)::l) :=
 zpa b <| by
  delta z032 Ac Ad Ap
  refine zh (λh=>?_) λh=>?_
  ·subst h
   refine z6n hs (enc:=zi) (1:UInt8) λz w' hs=>?_
   exact ⟨rfl,z,rfl,hs⟩
  ·have h:b=false:=by simpa using h
   subst h
   refine z6n hs (enc:=zi) (0:UInt8) λz w' hs=>?_
   exact ⟨rfl,z,rfl,hs⟩
theorem zic (n:Nat) {x:Sl} {bs:List UInt8} {e:Int} {at_:Nat} (hn:at_+n<=bs.length) (hb:bs.length<=1000000000) (hcap:x.len<=x.cap) [hf:FocB l p (.cells [.slice x.a x.len x.cap,.int .i64 at_,.int .i64 e].toArray T.a60) r] [hr:FocR r x 1 (bs.flatMap zi)] (hs:Sat w l) :
  Ret P F.a191 #[.pointer (some ⟨p,0,none⟩),.int .i64 n] w λvs w'=>vs=[.slice (z0q x.a 1 at_ x.cap) n (x.cap-at_)]/\Sat w' (pt p (.cells #[.slice x.a x.len x.cap,.int .i64 (at_+n:Nat),.int .i64 e] T.a60)::r) :=
 zpr _ n <| by
  delta z03j Aa Ab Ad Ae Af Aj Ak An Ao
  have hs:=hs.perm hf.perm
  have hl:=hs.slen x (xs:=bs) (enc:=zi)
  refine zj ?_
  refine z8 hs ?_
  refine zj ?_
  have e2:IntKind.wrap .i64 ((at_:Int)+n)=((at_+n:Nat):Int):=by rw [w64 (by omega) (by omega)];omega
  rw [e2]
  refine z02 hs λw' hs=>?_
  refine zv hs λw' hs=>?_
  refine zj ?_
  refine z8 hs ?_
  refine zj ?_
  refine z8 hs ?_
  refine zj ?_
  refine z8 hs ?_
  have e3:IntKind.wrap .i64 (((at_+n:Nat):Int)-n)=(at_:Int):=by rw [w64 (by omega) (by omega)];omega
  rw [e3]
  refine wp_must (by omega) ?_
  refine ze ?_
  refine ⟨rfl,?_,hs⟩
  simp only [Int.toNat_natCast,Nat.add_sub_cancel_left]
end
abbrev polyB:BitVec 32:=0xEDB88320#32
def zye (s:BitVec 32):BitVec 32:=(s >>> 1) ^^^ (polyB &&& (0#32-(s &&& 1#32)))
def zrz:Nat->BitVec 32->BitVec 32
 | 0,s=>s
 | k+1,s=>zye (zrz k s)
def zry (s:BitVec 32) (c:UInt8):BitVec 32:=zrz 8 (s ^^^ BitVec.ofNat 32 c.toNat)
def z5s (s:BitVec 32) (bs:List UInt8):BitVec 32:=bs.foldl zry s
def zsk (x:BitVec 32) (bs:List UInt8):BitVec 32 := ~~~ (z5s (~~~ x) bs)
def zaa (bs:List UInt8):Nat:=(zsk 0#32 bs).toNat
def z3z (n:Nat):List UInt8:=[UInt8.ofNat n,UInt8.ofNat (n / 256),UInt8.ofNat (n / 65536),UInt8.ofNat (n / 16777216)]
def z0h:List UInt8->Nat
 | a::b::c::d::_=>a.toNat+256*b.toNat+65536*c.toNat+16777216*d.toNat
 | _=>0
def z3d (bs:List UInt8):List UInt8:=z3z bs.length++bs
def z3q (bs:List UInt8):List UInt8:=if bs.length>262144 then [] else z3d bs++z3z (zaa (z3d bs))
def z15 (b:List UInt8):Option (List UInt8 × Nat) :=
 if b.length<8\/z0h b>262144\/z0h b+8>b.length then none else if z0h (b.drop (z0h b+4))=zaa (b.take (z0h b+4)) then some ((b.drop 4).take (z0h b),z0h b+8) else none
theorem zww (a b c d:UInt8) (r:List UInt8):z0h (a::b::c::d::r)=a.toNat+256*b.toNat+65536*c.toNat+16777216*d.toNat:=rfl
theorem zm5 {n:Nat} (h:n<4294967296) (r:List UInt8):z0h (z3z n++r)=n:=by
 unfold z3z z0h
 simp
 omega
theorem zfk:∀ (b:List UInt8),4<=b.length->z3z (z0h b)=b.take 4/\z0h b<4294967296
 | a::b::c::d::r,_=>by
  have h1:=a.toNat_lt
  have h2:=b.toNat_lt
  have h3:=c.toNat_lt
  have h4:=d.toNat_lt
  rw [zww]
  refine ⟨?_,by omega⟩
  have e:∀ (x:UInt8) (n:Nat),n % 256=x.toNat->UInt8.ofNat n=x:=λx n h=>by
   apply UInt8.toNat_inj.1
   simp [h]
  unfold z3z
  rw [e a _ (by omega),e b _ (by omega),e c _ (by omega),e d _ (by omega)]
  rfl
theorem z64 (n:Nat):(z3z n).length=4:=rfl
theorem zrb (bs:List UInt8):zaa bs<4294967296:=(zsk 0#32 bs).isLt
theorem z9i {bs:List UInt8} (h:bs.length<=262144) (r:List UInt8):z15 (z3q bs++r)=some (bs,bs.length+8):=by
 have hs:=zrb (z3d bs)
 have hl:(z3d bs).length=bs.length+4:=by unfold z3d;rw [List.length_append,z64];omega
 have e0:z3q bs++r=z3d bs++(z3z (zaa (z3d bs))++r):=by unfold z3q;rw [if_neg (by omega),List.append_assoc]
 have e1:z0h (z3q bs++r)=bs.length:=by
  rw [e0];unfold z3d;rw [List.append_assoc];exact zm5 (by omega) _
 have e2:(z3q bs++r).length=bs.length+8+r.length:=by
  rw [e0,List.length_append,List.length_append,hl,z64];omega
 unfold z15
 rw [e1,e2,if_neg (by omega),e0,<- hl,List.drop_left,List.take_left,zm5 hs,if_pos rfl]
 congr 2
 unfold z3d
 rw [List.append_assoc,show (4:Nat)=(z3z bs.length).length from rfl,List.drop_left,List.take_left]
theorem z7k {b body:List UInt8} {n:Nat} (h:z15 b=some (body,n)):n=body.length+8/\n<=b.length/\body.length<=262144/\b.take n=z3q body:=by
 unfold z15 at h
 split at h
 ·cases h
 rename_i h1
 split at h
 ·rename_i h2
  simp only [Option.some.injEq,Prod.mk.injEq] at h
  obtain ⟨rfl,rfl⟩:=h
  have hbl:((b.drop 4).take (z0h b)).length=z0h b:=by rw [List.length_take,List.length_drop];omega
  refine ⟨by rw [hbl],by omega,by rw [hbl];omega,?_⟩
  have hh:z3d ((b.drop 4).take (z0h b))=b.take (z0h b+4):=by
   unfold z3d
   rw [hbl,(zfk b (by omega)).1,Nat.add_comm,List.take_add]
  unfold z3q
  rw [if_neg (by rw [hbl];omega),hh,<- h2,(zfk (b.drop (z0h b+4)) (by rw [List.length_drop];omega)).1,show z0h b+8=(z0h b+4)+4 from rfl,List.take_add]
 ·cases h
theorem zw8 (b:List UInt8):z15 b=if b.length<8\/z0h b>262144\/z0h b+8>b.length then none else if z3q ((b.drop 4).take (z0h b))=b.take (z0h b+8) then some ((b.drop 4).take (z0h b),z0h b+8) else none:=by
 by_cases h1:b.length<8\/z0h b>262144\/z0h b+8>b.length
 ·unfold z15;rw [if_pos h1,if_pos h1]
 rw [if_neg h1]
 by_cases h2:z3q ((b.drop 4).take (z0h b))=b.take (z0h b+8)
 ·rw [if_pos h2]
  have hbl:((b.drop 4).take (z0h b)).length=z0h b:=by rw [List.length_take,List.length_drop];omega
  have h3:=z9i (bs:=(b.drop 4).take (z0h b)) (by rw [hbl];omega) (b.drop (z0h b+8))
  rw [h2,List.take_append_drop,hbl] at h3
  exact h3
 ·rw [if_neg h2]
  cases hf:z15 b with
  | none=>rfl
  | some q =>
   obtain ⟨g1,g2,g3,g4⟩:=z7k (body:=q.1) (n:=q.2) hf
   unfold z15 at hf
   rw [if_neg h1] at hf
   split at hf
   ·simp only [Option.some.injEq] at hf
    subst hf
    exact absurd g4.symm h2
   ·cases hf
theorem bvi (s:BitVec 32):BitVec.ofInt 32 ((s.toNat:Nat):Int)=s:=by rw [BitVec.ofInt_natCast,BitVec.ofNat_toNat,BitVec.setWidth_eq]
theorem wbv (s:BitVec 32):IntKind.wrap .u32 ((s.toNat:Nat):Int)=((s.toNat:Nat):Int):=by rw [zkt,Nat.mod_eq_of_lt s.isLt]
theorem zwv (s:BitVec 32):BitVec.ofInt 32 4294967295 ^^^ BitVec.ofInt 32 ((s.toNat:Nat):Int) = ~~~ s:=by
 rw [bvi]
 have:BitVec.ofInt 32 4294967295=BitVec.allOnes 32:=by decide +kernel
 rw [this,BitVec.allOnes_xor]
theorem z0a7 (s:BitVec 32):BitVec.ofInt 32 (Int.fdiv ((s.toNat:Nat):Int) 2)=s >>> 1:=by
 rw [z8c _ (by decide),BitVec.ofInt_natCast]
 apply BitVec.eq_of_toNat_eq
 have:=s.isLt
 rw [BitVec.toNat_ofNat,BitVec.toNat_ushiftRight,Nat.shiftRight_eq_div_pow]
 show s.toNat / 2 % 2 ^ 32=s.toNat / 2 ^ 1
 omega
theorem z06w (s:BitVec 32):BitVec.ofInt 32 (IntKind.wrap .u32 (0-((s.toNat:Nat):Int)))=0#32-s:=by
 apply BitVec.eq_of_toNat_eq
 have:=s.isLt
 have e:IntKind.wrap .u32 (0-((s.toNat:Nat):Int))=(((4294967296-s.toNat) % 4294967296:Nat):Int):=by
  simp [IntKind.wrap,IntKind.bits,IntKind.signed];omega
 rw [e,BitVec.ofInt_natCast,BitVec.toNat_ofNat,BitVec.toNat_sub]
 simp
theorem z05j (s:BitVec 32):IntKind.wrap .u32 (((BitVec.toNat (BitVec.ofInt 32 (Int.fdiv ((s.toNat:Nat):Int) 2) ^^^ BitVec.ofInt 32 (IntKind.wrap .u32 (((BitVec.toNat (BitVec.ofInt 32 3988292384 &&& BitVec.ofInt 32 (IntKind.wrap .u32 (0-IntKind.wrap .u32 (((BitVec.toNat (BitVec.ofInt 32 ((s.toNat:Nat):Int) &&& BitVec.ofInt 32 1):Nat):Int))))):Nat):Int)))):Nat):Int))=(((zye s).toNat:Nat):Int):=by
 rw [wbv,wbv,wbv,bvi,bvi,z06w,z0a7]
 rfl
theorem z00q (s:BitVec 32) (c:UInt8):IntKind.wrap .u32 (((BitVec.toNat (BitVec.ofInt 32 ((s.toNat:Nat):Int) ^^^ BitVec.ofInt 32 (IntKind.wrap .u32 ((c.toNat:Nat):Int))):Nat):Int))=(((s ^^^ BitVec.ofNat 32 c.toNat).toNat:Nat):Int):=by
 have:=c.toNat_lt
 rw [wbv,bvi,zkt,Nat.mod_eq_of_lt (by omega),BitVec.ofInt_natCast]
section
variable {w:World} {l r:List HP} {Q:Post} {S:World->Prop}
theorem zvy (s:BitVec 32) (bs:List UInt8) (i:Nat) (hi:i<bs.length):z5s s (bs.take (i+1))=zry (z5s s (bs.take i)) bs[i]:=by
 unfold z5s
 rw [List.take_add_one,List.getElem?_eq_getElem hi,Option.toList_some,List.foldl_append];rfl
theorem z045 (m:BitVec 32) (x:Sl) (ps:List (Sl × List UInt8)) [hx:FocR l x 1 ((ps.map Prod.fst).flatMap z0c)] (hps:∀ p ∈ ps,FocR l p.1 1 (p.2.flatMap zi)/\p.2.length<=1000000000) (hpl:ps.length<=1000000) (hs:Sat w l) :
  Ret P F.a39 #[.int .u32 ((m.toNat:Nat):Int),x.v] w λvs w'=>vs=[.int .u32 (((zsk m (ps.flatMap Prod.snd)).toNat:Nat):Int)]/\Sat w' l :=
 zu6 _ x <| by
  delta z08q AT Ac Ad Af Ag Ak Ao B0 B1 Bd Bu
  have hl:=hs.slen x (xs:=ps.map Prod.fst) (enc:=z0c)
  rw [List.length_map] at hl
  rw [zwv,wbv]
  refine wp_lt ?_
  refine zl (λu w'=>u=((((z5s (~~~ m) (ps.flatMap Prod.snd)).toNat:Nat):Int),())/\Sat w' l) ?_ ?_
  rotate_left
  ·rintro _ w' ⟨rfl,hs⟩
   refine zk ?_
   rw [zwv,wbv]
   refine wp_lt ?_
   exact ⟨rfl,rfl,hs⟩
  refine z03 (λk u w=>∃ i:Nat,u=((((z5s (~~~ m) ((ps.take i).flatMap Prod.snd)).toNat:Nat):Int),(i:Int),())/\i<=ps.length/\ps.length-i=k/\Sat w l) ps.length ⟨0,rfl,by omega,rfl,hs⟩ ?_
  clear hs
  rintro k _ w ⟨i,rfl,hi,hk,hs⟩
  refine zk ?_
  refine zh (λhc=>?_) λhc=>?_
  rotate_left
  ·refine zo (zf ⟨?_,hs⟩)
   rw [List.take_of_length_le (by omega)]
  have hil:i<ps.length:=by omega
  obtain ⟨hF,hpl2⟩:=hps _ (List.getElem_mem hil)
  have hpi:=hs.slen ps[i].1 (xs:=ps[i].2) (enc:=zi)
  refine zl (λu w'=>u=((((z5s (~~~ m) ((ps.take (i+1)).flatMap Prod.snd)).toNat:Nat):Int),())/\Sat w' l) ?_ ?_
  rotate_left
  ·rintro _ w' ⟨rfl,hs⟩
   refine zk ?_
   refine z1k (us':=[.int .u32 (((z5s (~~~ m) ((ps.take (i+1)).flatMap Prod.snd)).toNat:Nat):Int),.int .i64 ((i+1:Nat):Int)]) (by (try simp (disch:=omega) only [w64]);first|rfl|(congr;omega)) ?_
   refine z0l (ps.length-(i+1)) ?_
   exact ⟨i+1,rfl,by omega,rfl,hs⟩
  refine z1z hs (xs:=ps.map Prod.fst) (enc:=z0c) i (by rw [List.length_map];exact hil) ?_
  rw [List.getElem_map]
  have hto:z5s (~~~ m) ((ps.take (i+1)).flatMap Prod.snd)=z5s (z5s (~~~ m) ((ps.take i).flatMap Prod.snd)) ps[i].2:=by
   rw [List.take_add_one,List.getElem?_eq_getElem hil,Option.toList_some,List.flatMap_append,List.flatMap_singleton]
   unfold z5s
   rw [List.foldl_append]
  rw [hto]
  generalize z5s (~~~ m) ((ps.take i).flatMap Prod.snd)=s0
  generalize ps[i]=q at *
  refine zl (λu w'=>u=((((z5s s0 q.2).toNat:Nat):Int),())/\Sat w' l) ?_ (by rintro _ w' ⟨rfl,hs⟩;refine zk ?_;exact zf ⟨rfl,hs⟩)
  refine z03 (λk u w=>∃ j:Nat,u=((((z5s s0 (q.2.take j)).toNat:Nat):Int),(j:Int),())/\j<=q.2.length/\q.2.length-j=k/\Sat w l) q.2.length ⟨0,rfl,by omega,rfl,hs⟩ ?_
  clear hs
  rintro k _ w ⟨j,rfl,hj,hk,hs⟩
  refine zk ?_
  refine zh (λhc=>?_) λhc=>?_
  rotate_left
  ·refine zo (zf ⟨?_,hs⟩)
   rw [List.take_of_length_le (by omega)]
  have hjl:j<q.2.length:=by omega
  refine zl (λu w'=>u=((((z5s s0 (q.2.take (j+1))).toNat:Nat):Int),())/\Sat w' l) ?_ ?_
  rotate_left
  ·rintro _ w' ⟨rfl,hs⟩
   refine zk ?_
   refine z1k (us':=[.int .u32 (((z5s s0 (q.2.take (j+1))).toNat:Nat):Int),.int .i64 ((j+1:Nat):Int)]) (by (try simp (disch:=omega) only [w64]);first|rfl|(congr;omega)) ?_
   refine z0l (q.2.length-(j+1)) ?_
   exact ⟨j+1,rfl,by omega,rfl,hs⟩
  refine z1z hs (xs:=q.2) (enc:=zi) j hjl ?_
  refine wp_lt ?_
  rw [z00q]
  refine wp_lt ?_
  rw [zvy s0 q.2 j hjl]
  generalize z5s s0 (q.2.take j)=s1
  show Prog.wp P _ _ _ _
  refine zl (λu w'=>u=((((zry s1 q.2[j]).toNat:Nat):Int),())/\Sat w' l) ?_ (by rintro _ w' ⟨rfl,hs⟩;refine zk ?_;exact zf ⟨rfl,hs⟩)
  unfold zry
  generalize s1 ^^^ BitVec.ofNat 32 q.2[j].toNat=s2
  refine z03 (λk u w=>∃ i:Nat,u=((((zrz i s2).toNat:Nat):Int),(i:Int),())/\i<=8/\8-i=k/\Sat w l) 8 ⟨0,rfl,by omega,rfl,hs⟩ ?_
  clear hs
  rintro k _ w ⟨i,rfl,hi,hk,hs⟩
  refine zk ?_
  refine zh (λhc=>?_) λhc=>?_
  rotate_left
  ·obtain rfl:i=8:=by omega
   exact zo (zf ⟨rfl,hs⟩)
  rw [z05j]
  refine wp_lt ?_
  refine z1k (us':=[.int .u32 (((zye (zrz i s2)).toNat:Nat):Int),.int .i64 ((i+1:Nat):Int)]) (by (try simp (disch:=omega) only [w64]);first|rfl|(congr;omega)) ?_
  refine z0l (8-(i+1)) ?_
  exact ⟨i+1,rfl,by omega,rfl,hs⟩
theorem z06j (x:Sl) (ps:List (Sl × List UInt8)) [hx:FocR l x 1 ((ps.map Prod.fst).flatMap z0c)] (hps:∀ p ∈ ps,FocR l p.1 1 (p.2.flatMap zi)/\p.2.length<=1000000000) (hpl:ps.length<=1000000) (hs:Sat w l) :
  Ret P F.a42 #[x.v] w λvs w'=>vs=[.int .u32 ((zaa (ps.flatMap Prod.snd):Nat):Int)]/\Sat w' l :=
 zu9 x <| by
  delta z08t Ad Bt Bu
  refine zb (z045 0#32 x ps hps hpl hs) λ_ _ hs=>?_
  obtain ⟨rfl,hs⟩:=hs
  refine zd ?_
  refine wp_lt ?_
  exact ⟨rfl,rfl,hs⟩
theorem zhw (x y:Sl) (bs:List UInt8) [hx:FocR l x 1 ([y].flatMap z0c)] [hy:FocR l y 1 (bs.flatMap zi)] (hn:bs.length<=1000000000) (hs:Sat w l) :
  Ret P F.a42 #[x.v] w λvs w'=>vs=[.int .u32 ((zaa bs:Nat):Int)]/\Sat w' l:=by
 have:=@z06j w l x [(y,bs)] hx (by intro p hp;rw [List.mem_singleton.1 hp];exact ⟨hy,hn⟩) (by simp) hs
 simpa using this
theorem zq4 (n:Nat) (hn:n<4294967296) (hs:Sat w l):Ret P F.a43 #[.int .u32 (n:Int)] w λvs w'=>∃ z:Sl,vs=[z.v]/\Sat w' (slc T.a58 1 z ((z3z n).flatMap zi)::l) :=
 zua n <| by
  delta z08u Ad Ap
  have e0:IntKind.wrap .u8 (n:Int)=(((UInt8.ofNat n).toNat:Nat):Int):=by rw [z9h];simp
  have e1:IntKind.wrap .u8 (Int.fdiv (n:Int) 256)=(((UInt8.ofNat (n / 256)).toNat:Nat):Int):=by rw [z8c n (by decide),z9h];simp
  have e2:IntKind.wrap .u8 (Int.fdiv (n:Int) 65536)=(((UInt8.ofNat (n / 65536)).toNat:Nat):Int):=by rw [z8c n (by decide),z9h];simp
  have e3:IntKind.wrap .u8 (Int.fdiv (n:Int) 16777216)=(((UInt8.ofNat (n / 16777216)).toNat:Nat):Int):=by rw [z8c n (by decide),z9h];simp
  rw [e0,e1,e2,e3]
  refine z9v hs (enc:=zi) (z3z n) (cs:=((z3z n).flatMap zi).toArray) (by kernel_rfl) (λb w' hs=>?_) (by simp)
  exact ⟨rfl,_,rfl,hs⟩
theorem zzk {a b c d:Nat} (ha:a<256) (hb:b<256) (hc:c<256) (hd:d<256) :
  IntKind.wrap .u32 (((BitVec.toNat (BitVec.ofInt 32 (IntKind.wrap .u32 (((BitVec.toNat (BitVec.ofInt 32 (IntKind.wrap .u32 (((BitVec.toNat (BitVec.ofInt 32 (IntKind.wrap .u32 (a:Int)) ||| BitVec.ofInt 32 (IntKind.wrap .u32 (IntKind.wrap .u32 (b:Int)*256))):Nat):Int))) ||| BitVec.ofInt 32 (IntKind.wrap .u32 (IntKind.wrap .u32 (c:Int)*65536))):Nat):Int))) ||| BitVec.ofInt 32 (IntKind.wrap .u32 (IntKind.wrap .u32 (d:Int)*16777216))):Nat):Int))=((a+256*b+65536*c+16777216*d:Nat):Int):=by
 have wm:∀ {m:Nat},m<4294967296->IntKind.wrap .u32 (m:Int)=(m:Int):=λ{m} h=>by rw [zkt,Nat.mod_eq_of_lt h]
 have or2:∀ {x y i:Nat},x<2 ^ i->y*2 ^ i+x<4294967296->BitVec.toNat (BitVec.ofInt 32 (x:Int) ||| BitVec.ofInt 32 ((y*2 ^ i:Nat):Int))=x+y*2 ^ i:=λ{x y i} h1 h2=>by
  rw [BitVec.ofInt_natCast,BitVec.ofInt_natCast,BitVec.toNat_or,BitVec.toNat_ofNat,BitVec.toNat_ofNat,Nat.mod_eq_of_lt (show x<2 ^ 32 by omega),Nat.mod_eq_of_lt (show y*2 ^ i<2 ^ 32 by omega),Nat.or_comm,Nat.mul_comm,<- Nat.two_pow_add_eq_or_of_lt h1,Nat.add_comm]
 have m1:((b:Nat):Int)*256=((b*2 ^ 8:Nat):Int):=rfl
 have m2:((c:Nat):Int)*65536=((c*2 ^ 16:Nat):Int):=rfl
 have m3:((d:Nat):Int)*16777216=((d*2 ^ 24:Nat):Int):=rfl
 rw [wm (show a<_ by omega),wm (show b<_ by omega),wm (show c<_ by omega),wm (show d<_ by omega),m1,m2,m3,wm (show b*2 ^ 8<_ by omega),wm (show c*2 ^ 16<_ by omega),wm (show d*2 ^ 24<_ by omega),
  or2 (by omega) (by omega),wm (show a+b*2 ^ 8<_ by omega),or2 (by omega) (by omega),wm (show a+b*2 ^ 8+c*2 ^ 16<_ by omega),or2 (by omega) (by omega),wm (by omega)]
 congr 1
 omega
theorem zzf {bs:List UInt8} (h:4<=bs.length):z0h bs=bs[0].toNat+256*bs[1].toNat+65536*bs[2].toNat+16777216*bs[3].toNat:=by
 match bs,h with
 | a::b::c::d::r,_=>rfl
theorem z8s {α:Type} {enc:α->List Value} {xs:List α} {sz m:Nat} {ii:Int} {x:Sl} {T:TypeId} {g':Prop} {p:Pr} {dec:α->p.D} {f:p.D->Prog} (hs:Sat w l) [hf:FocR l x sz (xs.flatMap enc)] [hE:EncN enc sz] [hD:Enc1 enc p dec] [hT:One P T]
  (n:Nat) (hn:n<xs.length) (h:(f (dec xs[n])).wp P S w Q) (hm:m=n*sz:=by rfl) (hi:ii=n:=by rfl) :
  (Prog.ex [.adr] (c1 λa=>(0:Int)<=ii/\ii<((x.len:Nat):Int)/\x.a=some a) (u1 λa=>.read g' (ld T (Addr.add a m)) (.one (.one p)) (u1 f))).wp P S w Q:=by
 subst hm hi
 have hr:=hf.rd w hs
 have hl:x.len=xs.length:=hr.len hE.len hE.pos
 obtain ⟨a,ha,he⟩:=hr.el hE.len (by omega)
 refine ⟨(a,()),⟨by omega,by omega,ha⟩,(dec xs[n],()),λ_=>?_,h⟩
 have:=he n hn
 rw [hD.ok] at this
 have h2:=At.ld1 (P:=P) (T:=T) this rfl
 cases p <;> exact h2
theorem zd9 (x:Sl) (bs:List UInt8) [hx:FocR l x 1 (bs.flatMap zi)] (hn:4<=bs.length) (hs:Sat w l):Ret P F.a44 #[x.v] w λvs w'=>vs=[.int .u32 ((z0h bs:Nat):Int)]/\Sat w' l :=
 zub x <| by
  delta z08v AT Ad Ae Ag Aj Bu
  refine zv hs λw' hs=>?_
  refine z8s hs (xs:=bs) (enc:=zi) 0 (by omega) ?_
  refine z8s hs (xs:=bs) (enc:=zi) 1 (by omega) ?_
  refine z8s hs (xs:=bs) (enc:=zi) 2 (by omega) ?_
  refine z8s hs (xs:=bs) (enc:=zi) 3 (by omega) ?_
  rw [zzk (by have:=bs[0].toNat_lt;omega) (by have:=bs[1].toNat_lt;omega) (by have:=bs[2].toNat_lt;omega) (by have:=bs[3].toNat_lt;omega),<- zzf hn]
  refine wp_lt ?_
  refine ze ?_
  exact ⟨rfl,rfl,hs⟩
theorem zq8 (x:Sl) (ps:List (Sl × List UInt8)) [hx:FocR l x 1 ((ps.map Prod.fst).flatMap z0c)] (hps:∀ p ∈ ps,FocR l p.1 1 (p.2.flatMap zi)/\p.2.length<=1000000000) (hpl:ps.length<=1000000) (hs:Sat w l) :
  Ret P F.a41 #[x.v] w λvs w'=>∃ z:Sl,vs=[z.v]/\Sat w' (slc T.a58 1 z ((z3q (ps.flatMap Prod.snd)).flatMap zi)::l) :=
 zu8 x <| by
  delta z08s AA AB AN AO Ac Ad Af Ag Ai Ak Ao Ap Aq Bt
  have hl:=hs.slen x (xs:=ps.map Prod.fst) (enc:=z0c)
  rw [List.length_map] at hl
  have hstep:∀ i (hi:i<ps.length),(ps.take (i+1)).flatMap Prod.snd=(ps.take i).flatMap Prod.snd++ps[i].2:=λi hi=>by
   rw [List.take_add_one,List.getElem?_eq_getElem hi,Option.toList_some,List.flatMap_append,List.flatMap_singleton]
  have hmany:∀ i,((ps.take i).flatMap Prod.snd).length<=(ps.flatMap Prod.snd).length:=λi=>by
   have:ps.flatMap Prod.snd=(ps.take i).flatMap Prod.snd++(ps.drop i).flatMap Prod.snd:=by rw [<- List.flatMap_append,List.take_append_drop]
   rw [this,List.length_append]
   omega
  refine zl (λu w'=>u=((((ps.flatMap Prod.snd).length:Nat):Int),())/\(ps.flatMap Prod.snd).length<=262144/\Sat w' l) ?_ ?_
  ·refine z03 (λk u w=>∃ i:Nat,u=(((((ps.take i).flatMap Prod.snd).length:Nat):Int),(i:Int),())/\i<=ps.length/\ps.length-i=k/\((ps.take i).flatMap Prod.snd).length<=262144/\Sat w l) ps.length ⟨0,rfl,by omega,rfl,by simp,hs⟩ ?_
   clear hs
   rintro k _ w ⟨i,rfl,hi,hk,hsm,hs⟩
   refine zk ?_
   refine zh (λhc=>?_) λhc=>?_
   rotate_left
   ·rw [List.take_of_length_le (by omega)] at hsm ⊢
    exact zo (zf ⟨rfl,hsm,hs⟩)
   have hil:i<ps.length:=by omega
   refine z1z hs (xs:=ps.map Prod.fst) (enc:=z0c) i (by rw [List.length_map];exact hil) ?_
   rw [List.getElem_map]
   obtain ⟨hF,hpb⟩:=hps _ (List.getElem_mem hil)
   have hpi:=hs.slen ps[i].1 (xs:=ps[i].2) (enc:=zi)
   have h1:=hmany (i+1)
   have h2:=congrArg List.length (hstep i hil)
   rw [List.length_append] at h2
   have e:IntKind.wrap .i64 (((((ps.take i).flatMap Prod.snd).length:Nat):Int)+((ps[i].1.len:Nat):Int))=((((ps.take (i+1)).flatMap Prod.snd).length:Nat):Int):=by rw [w64 (by omega) (by omega)];omega
   refine z86 e ?_
   refine zh (λhbig=>?_) λhbig=>?_
   ·refine zo (zo ⟨rfl,⟨none,0,0⟩,rfl,?_⟩)
    have:z3q (ps.flatMap Prod.snd)=[]:=by unfold z3q;rw [if_pos (by omega)]
    rw [this]
    exact hs.slc_nil
   refine z1k (us':=[.int .i64 ((((ps.take (i+1)).flatMap Prod.snd).length:Nat):Int),.int .i64 ((i+1:Nat):Int)]) (by (try simp (disch:=omega) only [w64]);first|rfl|(congr;omega)) ?_
   refine z0l (ps.length-(i+1)) ?_
   exact ⟨i+1,rfl,by omega,rfl,by omega,hs⟩
  clear hs
  rintro _ w ⟨rfl,hsm,hs⟩
  refine zk ?_
  have e8:IntKind.wrap .i64 ((((ps.flatMap Prod.snd).length:Nat):Int)+8)=(((ps.flatMap Prod.snd).length+8:Nat):Int):=by rw [w64 (by omega) (by omega)];omega
  rw [e8,zkt,Nat.mod_eq_of_lt (by omega)]
  refine zrm ((ps.flatMap Prod.snd).length+8) hs λz w' hs=>?_
  refine zb (zq4 (ps.flatMap Prod.snd).length (by omega) hs) λ_ _ hs=>?_
  obtain ⟨y,rfl,hs⟩:=hs
  refine zd ?_
  have hs:=hs.pick [1,0]
  refine wp_app' (xs:=[]) (ys:=z3z (ps.flatMap Prod.snd).length) (enc:=zi) hs (λz w' hs=>?_) (by simp [z64])
  rw [List.nil_append] at hs
  have hs:Sat w' (slc T.a58 1 z ((z3z (ps.flatMap Prod.snd).length).flatMap zi)::l):=hs.sub
  refine zl (λu w'=>∃ z:Sl,u=(z,())/\Sat w' (slc T.a58 1 z ((z3d (ps.flatMap Prod.snd)).flatMap zi)::l)) ?_ ?_
  ·refine z03 (λk u w=>∃ (i:Nat) (z:Sl),u=(z,(i:Int),())/\i<=ps.length/\ps.length-i=k/\Sat w (slc T.a58 1 z ((z3z (ps.flatMap Prod.snd).length++(ps.take i).flatMap Prod.snd).flatMap zi)::l)) ps.length ⟨0,z,rfl,by omega,rfl,?_⟩ ?_
   ·simpa using hs
   clear hs
   rintro k _ w ⟨i,z,rfl,hi,hk,hs⟩
   refine zk ?_
   refine zh (λhc=>?_) λhc=>?_
   rotate_left
   ·refine zo (zf ⟨z,rfl,?_⟩)
    rw [List.take_of_length_le (by omega)] at hs
    exact hs
   have hil:i<ps.length:=by omega
   refine z1z hs (xs:=ps.map Prod.fst) (enc:=z0c) i (by rw [List.length_map];exact hil) ?_
   rw [List.getElem_map]
   have hF:=(hps _ (List.getElem_mem hil)).1
   have h1:=hmany (i+1)
   rw [hstep i hil,List.length_append] at h1
   refine wp_app' (xs:=z3z (ps.flatMap Prod.snd).length++(ps.take i).flatMap Prod.snd) (ys:=ps[i].2) (enc:=zi) hs (λz w' hs=>?_) (by rw [List.length_append,z64];omega)
   rw [List.append_assoc,<- hstep i hil] at hs
   refine z1k (us':=[z.v,.int .i64 ((i+1:Nat):Int)]) (by (try simp (disch:=omega) only [w64]);first|rfl|(congr;omega)) ?_
   refine z0l (ps.length-(i+1)) ?_
   exact ⟨i+1,z,rfl,by omega,rfl,hs⟩
  clear hs
  rintro _ w ⟨z,rfl,hs⟩
  refine zk ?_
  have hhl:(z3d (ps.flatMap Prod.snd)).length=(ps.flatMap Prod.snd).length+4:=by unfold z3d;rw [List.length_append,z64];omega
  have hsl:=zrb (z3d (ps.flatMap Prod.snd))
  refine z6n hs (enc:=z0c) z λy w' hs=>?_
  refine zb (zhw y z (z3d (ps.flatMap Prod.snd)) (by omega) hs) λ_ _ hs=>?_
  obtain ⟨rfl,hs⟩:=hs
  refine zd ?_
  refine zb (zq4 (zaa (z3d (ps.flatMap Prod.snd))) hsl hs) λ_ _ hs=>?_
  obtain ⟨u,rfl,hs⟩:=hs
  refine zd ?_
  have hs:=hs.pick [2,0,0]
  refine wp_app' (xs:=z3d (ps.flatMap Prod.snd)) (ys:=z3z (zaa (z3d (ps.flatMap Prod.snd)))) (enc:=zi) hs (λz w' hs=>?_) (by rw [z64];omega)
  have e:z3q (ps.flatMap Prod.snd)=z3d (ps.flatMap Prod.snd)++z3z (zaa (z3d (ps.flatMap Prod.snd))):=by unfold z3q;rw [if_neg (by omega)]
  rw [<- e] at hs
  exact ⟨rfl,z,rfl,hs.sub⟩
theorem zyp (x y:Sl) (bs:List UInt8) [hx:FocR l x 1 ([y].flatMap z0c)] [hy:FocR l y 1 (bs.flatMap zi)] (hn:bs.length<=1000000000) (hs:Sat w l) :
  Ret P F.a41 #[x.v] w λvs w'=>∃ z:Sl,vs=[z.v]/\Sat w' (slc T.a58 1 z ((z3q bs).flatMap zi)::l):=by
 have:=@zq8 w l x [(y,bs)] hx (by intro p hp;rw [List.mem_singleton.1 hp];exact ⟨hy,hn⟩) (by simp) hs
 simpa using this
theorem zby (x:Sl) (bs:List UInt8) [hx:FocR l x 1 (bs.flatMap zi)] (hcap:x.len<=x.cap) (hn:bs.length<=1000000000) (hs:Sat w l) :
  Ret P F.a38 #[x.v] w λvs w'=>∃ z:Sl,vs=[z.v,.int .i64 ((((z15 bs).getD ([],0)).2:Nat):Int),.bool (z15 bs).isSome]/\Sat w' (slc T.a58 1 z (((z15 bs).getD ([],0)).1.flatMap zi)::l) :=
 zu5 x <| by
  delta z08p Ac Ad Ae Ag Ai Aj Ak Ao Ap Aq Av Bt Bu
  have hl:=hs.slen x (xs:=bs) (enc:=zi)
  have hno:∀ {w':World},z15 bs=none->Sat w' l->∃ z:Sl,[.slice none 0 0,.int .i64 0,.bool false]=[z.v,.int .i64 ((((z15 bs).getD ([],0)).2:Nat):Int),.bool (z15 bs).isSome]/\Sat w' (slc T.a58 1 z (((z15 bs).getD ([],0)).1.flatMap zi)::l):=λ{w'} h hs=>by
   rw [h];exact ⟨⟨none,0,0⟩,rfl,hs.slc_nil⟩
  refine zh (λh=>?_) λh=>?_
  ·exact ⟨rfl,hno (by unfold z15;rw [if_pos (.inl (by omega))]) hs⟩
  refine zb (zd9 x bs (by omega) hs) λ_ _ hs=>?_
  obtain ⟨rfl,hs⟩:=hs
  refine zd ?_
  have hf:=(zfk bs (by omega)).2
  refine wp_lt ?_
  have e1:IntKind.wrap .i64 ((z0h bs:Nat):Int)=((z0h bs:Nat):Int):=by rw [w64 (by omega) (by omega)]
  have e2:IntKind.wrap .i64 (((x.len:Nat):Int)-8)=((bs.length-8:Nat):Int):=by rw [w64 (by omega) (by omega)];omega
  have e3:IntKind.wrap .i64 (((z0h bs:Nat):Int)+4)=((z0h bs+4:Nat):Int):=by rw [w64 (by omega) (by omega)];omega
  rw [e1,e2,e3]
  refine zh (λh2=>?_) λh2=>?_
  ·exact ⟨rfl,hno (by unfold z15;rw [if_pos (by omega)]) hs⟩
  refine wp_lt ?_
  rw [Int.toNat_natCast]
  have hle:z0h bs+8<=bs.length:=by omega
  have hF1:FocR l ⟨z0q x.a 1 (z0h bs+4) x.cap,x.len-(z0h bs+4),x.cap-(z0h bs+4)⟩ 1 ((bs.drop (z0h bs+4)).flatMap zi):=FocR.post hcap
  have hF2:FocR l ⟨x.a,z0h bs+4,x.cap⟩ 1 ((bs.take (z0h bs+4)).flatMap zi):=FocR.pre (by omega)
  have htl:(bs.take (z0h bs+4)).length<=1000000000:=by rw [List.length_take];omega
  have hdl:4<=(bs.drop (z0h bs+4)).length:=by rw [List.length_drop];omega
  refine zl (λu w'=>u=(decide (z0h (bs.drop (z0h bs+4))≠zaa (bs.take (z0h bs+4))),())/\Sat w' l) ?_ ?_
  ·have hbeq:∀ a b:Nat,(((a:Int) != (b:Int)):Bool)=decide (a≠b):=λa b=>by
    rw [Bool.eq_iff_iff];simp;omega
   refine zv hs λw' hs=>?_
   refine wp_must ⟨by omega,show ((z0h bs+4:Nat):Int)<=((x.len:Nat):Int) by omega⟩ ?_
   refine wp_must ⟨by omega,show ((z0h bs+4:Nat):Int)<=((x.cap:Nat):Int) by omega⟩ ?_
   refine zik ?_ ?_
   ·refine zb (zd9 ⟨z0q x.a 1 (z0h bs+4) x.cap,x.len-(z0h bs+4),x.cap-(z0h bs+4)⟩ (bs.drop (z0h bs+4)) hdl hs) λ_ _ hs=>?_
    obtain ⟨rfl,hs⟩:=hs
    refine zd ?_
    refine z6n hs (enc:=z0c) ⟨x.a,z0h bs+4,x.cap⟩ λy w' hs=>?_
    refine zb (zhw y ⟨x.a,z0h bs+4,x.cap⟩ (bs.take (z0h bs+4)) htl hs) λ_ _ hs=>?_
    obtain ⟨rfl,hs⟩:=hs
    refine zd ?_
    refine ze ?_
    exact zf ⟨by rw [hbeq],hs.tail⟩
   ·refine z6n hs (enc:=z0c) ⟨x.a,z0h bs+4,x.cap⟩ λy w' hs=>?_
    refine zb (zd9 ⟨z0q x.a 1 (z0h bs+4) x.cap,x.len-(z0h bs+4),x.cap-(z0h bs+4)⟩ (bs.drop (z0h bs+4)) hdl hs) λ_ _ hs=>?_
    obtain ⟨rfl,hs⟩:=hs
    refine zd ?_
    refine zb (zhw y ⟨x.a,z0h bs+4,x.cap⟩ (bs.take (z0h bs+4)) htl hs) λ_ _ hs=>?_
    obtain ⟨rfl,hs⟩:=hs
    refine zd ?_
    refine ze ?_
    exact zf ⟨by rw [hbeq],hs.tail⟩
  clear hs
  rintro _ w ⟨rfl,hs⟩
  refine zk ?_
  refine zh (λh3=>?_) λh3=>?_
  ·exact ⟨rfl,hno (by unfold z15;rw [if_neg (by omega),if_neg h3]) hs⟩
  have h3:z0h (bs.drop (z0h bs+4))=zaa (bs.take (z0h bs+4)):=Decidable.not_not.1 h3
  have hsome:z15 bs=some ((bs.drop 4).take (z0h bs),z0h bs+8):=by unfold z15;rw [if_neg (by omega),if_pos h3]
  rw [hsome]
  refine wp_must ⟨by omega,by omega,show ((z0h bs+4:Nat):Int)<=((x.cap:Nat):Int) by omega⟩ ?_
  have hF3:FocR l ⟨z0q x.a 1 4 x.cap,x.len-4,x.cap-4⟩ 1 ((bs.drop 4).flatMap zi):=FocR.post hcap
  have hF4:FocR l ⟨z0q x.a 1 4 x.cap,z0h bs+4-4,x.cap-4⟩ 1 (((bs.drop 4).take (z0h bs+4-4)).flatMap zi):=FocR.pre (x:=⟨z0q x.a 1 4 x.cap,x.len-4,x.cap-4⟩) (by rw [List.length_drop];omega)
  refine zb (zl6 ⟨z0q x.a 1 4 x.cap,z0h bs+4-4,x.cap-4⟩ ((bs.drop 4).take (z0h bs+4-4)) (by rw [List.length_take];omega) hs) λ_ _ hs=>?_
  obtain ⟨z,rfl,hs⟩:=hs
  refine zd ?_
  refine z1t (y:=((z0h bs+8:Nat):Int)) ?_ (by rw [w64 (by omega) (by omega)];omega)
  exact ⟨rfl,z,rfl,hs⟩
def zkk (bs:List UInt8):Option (List UInt8):=match z15 bs with
 | some (body,n)=>if n=bs.length then some body else none
 | none=>none
end
section
variable {w:World} {l r:List HP} {p:Nat} {s:Lf}
theorem zr9 {R:RdM} (hb:R.at_<=R.bs.length) (he:R.e=0) (h:R.bs.length-R.at_=0):stR R=some []:=by
 rw [z84 he]
 unfold z4w
 rw [List.drop_eq_nil_of_le (by omega)]
theorem zmv {R:RdM} (he:R.e=0) (h:R.at_<R.bs.length):stR R=some (R.bs[R.at_]::R.bs.drop (R.at_+1)):=by
 rw [z84 he]
 unfold z4w
 rw [List.drop_eq_getElem_cons h]
theorem zfj {x:Sl} {bs:List UInt8} {n k:Nat} (hcap:x.len<=x.cap) (hk:n+k<=bs.length) [hf:FocR l x 1 (bs.flatMap zi)]:FocR l ⟨z0q x.a 1 n x.cap,k,x.cap-n⟩ 1 (((bs.drop n).take k).flatMap zi):=by
 have h:FocR l ⟨z0q x.a 1 n x.cap,x.len-n,x.cap-n⟩ 1 ((bs.drop n).flatMap zi):=FocR.post hcap
 exact FocR.pre (x:=⟨z0q x.a 1 n x.cap,x.len-n,x.cap-n⟩) (by rw [List.length_drop];omega)
theorem zhr [hf:Fo l (rdS T.a60) p s r] (hs:Sat w l):Ret P F.a178 #[.pointer (some ⟨p,0,none⟩)] w λvs w'=>vs=[.int .i64 ((z10 s).1:Int)]/\Sat w' (rdS T.a60 p (z10 s).2::r) :=
 zpe _ <| by
  delta z036 AC AP AT Aa Ac Ad Ag Ai Ak Al Am Ao Aq Aw
  obtain ⟨R,rfl,hs⟩:=z7f (hs.perm hf.perm)
  have hb:=z6h hs
  refine zb (zda (p:=p) hs) λ_ _ hs=>?_
  obtain ⟨rfl,hs⟩:=hs
  refine zd ?_
  refine zh (λh=>?_) λh=>?_
  ·have h:R.e≠0:=by simpa using h
   rw [z74 h]
   exact ⟨rfl,rfl,z2k (z74 h) hs⟩
  have h:R.e=0:=by simpa using h
  refine zj ?_
  refine zb (zdh (p:=p) hs) λ_ _ hs=>?_
  obtain ⟨rfl,hs⟩:=hs
  refine zd ?_
  refine zh (λh2=>?_) λh2=>?_
  ·refine zj ?_
   refine zb (z7o (p:=p) 6 hs) λ_ _ hs=>?_
   obtain ⟨rfl,hs⟩:=hs
   refine zd ?_
   rw [zr9 hb.1 h (by omega)]
   exact ⟨rfl,rfl,z2k (if_neg (by show ¬ (if R.e=0 then (6:Int) else R.e)=0;rw [if_pos h];decide)) hs⟩
  have hlt:R.at_<R.bs.length:=by omega
  rw [zmv h hlt]
  obtain ⟨x,-,hs⟩:=z21 hs
  have hl:=hs.slen x (xs:=R.bs) (enc:=zi)
  have hcap:x.len<=x.cap:=(hs.pick [1]).slc_cap
  refine zj ?_
  refine zb (zic (p:=p) 1 (x:=x) (bs:=R.bs) (at_:=R.at_) (e:=R.e) (by omega) hb.2 hcap hs) λ_ w' hs=>?_
  obtain ⟨rfl,hs⟩:=hs
  refine zd ?_
  refine z8s (hf:=zfj hcap (by omega)) hs (xs:=(R.bs.drop R.at_).take 1) (enc:=zi) 0 (by rw [List.length_take,List.length_drop];omega) ?_ rfl rfl
  have hg:((R.bs.drop R.at_).take 1)[0]'(by rw [List.length_take,List.length_drop];omega)=R.bs[R.at_]:=by simp
  rw [hg]
  have hc:=(R.bs[R.at_]).toNat_lt
  refine z1t (y:=((R.bs[R.at_]).toNat:Int)) ?_ (by rw [w64 (by omega) (by omega)])
  refine ⟨rfl,rfl,z2k (R:=⟨R.bs,R.at_+1,R.e⟩) ?_ (z0z ⟨R.bs,R.at_+1,R.e⟩ ⟨by show R.at_+1<=R.bs.length;omega,hb.2⟩ hs)⟩
  rw [z84 (R:=⟨R.bs,R.at_+1,R.e⟩) h]
  rfl
end
section
variable {w:World} {l r:List HP} {p:Nat} {s:Lf}
theorem z07r {P:Program} {t tx ty el:TypeId} {bytes:Nat} {xs:List UInt8} {t0:ByteArray} {x:Sl} {k:Sl->Prog} {Q:Post} {S:World->Prop} (hs:Sat w l) [ht:SlT P t el 1 bytes] [hst:StT P tx] [hf:FocS l x el 1 (xs.flatMap zi) r]
  (h:∀ z w',Sat w' (slc el 1 z ((xs++bl t0).flatMap zi)::r)->(k z).wp P S w' Q) (hb:(xs.length+t0.size)*bytes<=140737488355328/\xs.length+t0.size<=9223372036854775807) (hS:∀ w',S w':=by exact λ_=>trivial) :
  (Prog.act (app t tx ty (.slice x.a x.len x.cap) (.string t0)) sL (u1 k)).wp P S w Q:=by
 have h1:x.len=xs.length:=(hs.focS x).rd.len (enc:=zi) (λ_=>rfl) (by decide)
 obtain ⟨i,z,hi,h2,rfl,hz,hzs⟩:=ht.parts
 have hsrc:Src P i.size tx (.string t0) t0.size (byteCells t0) w:=by rw [h2];exact Src.ofString w hst.ok t0
 have hs':=hs.focS x
 rw [<- h2] at hs'
 obtain ⟨z,w',hrun,hlen,hs',_⟩:=zl2 (ty:=ty) ht.ok.1 hi hz hzs hs' hsrc (by rw [h1];exact hb.1) (by rw [h1];exact hb.2)
 refine ⟨(z,()),w',hrun,hS _,h z w' ?_⟩
 rw [h2] at hs'
 rw [List.flatMap_append,zal (bl t0)]
 exact hs'
theorem zro (t:ByteArray) (ht:t.size<=1000000000) (hs:Sat w l):Ret P F.a187 #[.string t] w λvs w'=>∃ z:Sl,vs=[z.v]/\Sat w' (slc T.a58 1 z ((uI (t.size:Nat)++bl t).flatMap zi)::l) :=
 zpn t <| by
  delta z03f Ad Ap Aq
  refine zb (z3v ((t.size:Nat):Int) (by omega) hs) λ_ w' hs=>?_
  obtain ⟨x,rfl,hs⟩:=hs
  refine zd ?_
  have hl:=hs.slen x
  have hul:=z18 ((t.size:Nat):Int)
  refine z07r (t0:=t) (xs:=uI (t.size:Nat)) hs (λz w' hs=>?_) (by omega)
  exact ⟨rfl,z,rfl,hs⟩
theorem z044 [hf:Fo l (rdS T.a60) p s r] (hs:Sat w l):Ret P F.a181 #[.pointer (some ⟨p,0,none⟩)] w λvs w'=>vs=[.bool (z4o s).1]/\Sat w' (rdS T.a60 p (z4o s).2::r) :=
 zph _ <| by
  delta z039 AC AF AG AP AS AT Aa Ac Ad Ae Ag Aj Ak Al Am Aq Aw Ay Bc
  obtain ⟨R,rfl,hs⟩:=z7f (hs.perm hf.perm)
  have hb:=z6h hs
  refine zb (zda (p:=p) hs) λ_ _ hs=>?_
  obtain ⟨rfl,hs⟩:=hs
  refine zd ?_
  refine zh (λh=>?_) λh=>?_
  ·have h:R.e≠0:=by simpa using h
   rw [z74 h]
   exact ⟨rfl,rfl,z2k (z74 h) hs⟩
  have h:R.e=0:=by simpa using h
  refine zv hs λw' hs=>?_
  refine zj ?_
  refine zb (zdh (p:=p) hs) λ_ _ hs=>?_
  obtain ⟨rfl,hs⟩:=hs
  refine zd ?_
  obtain ⟨x,-,hs⟩:=z21 hs
  have hl:=hs.slen x (xs:=R.bs) (enc:=zi)
  have hcap:x.len<=x.cap:=(hs.pick [1]).slc_cap
  refine z0j ?_
  refine z8 hs ?_
  refine z0j ?_
  refine z8 hs ?_
  by_cases h2:R.bs.length-R.at_=0
  ·refine zbo hs (xs:=R.bs) (enc:=zi) (0:Int) (λhg=>absurd hg (by rw [h2];simp)) ?_
   refine ze ?_
   refine z0p ?_ (by rw [h2];exact .inl rfl)
   refine zj ?_
   have hs:=z0z R hb hs
   refine zb (z7o (p:=p) 6 hs) λ_ _ hs=>?_
   obtain ⟨rfl,hs⟩:=hs
   refine zd ?_
   rw [zr9 hb.1 h h2]
   exact ⟨rfl,rfl,z2k (if_neg (by show ¬ (if R.e=0 then (6:Int) else R.e)=0;rw [if_pos h];decide)) hs⟩
  ·have hlt:R.at_<R.bs.length:=by omega
   refine zbo hs (xs:=R.bs) (enc:=zi) (((R.bs[R.at_]).toNat:Nat):Int) (λ_=>⟨R.at_,hlt,rfl,rfl⟩) ?_
   refine ze ?_
   rw [zmv h hlt]
   have hc:=(R.bs[R.at_]).toNat_lt
   unfold z4o
   simp only
   refine zh (λh3=>?_) λh3=>?_
   ·rw [if_neg (by omega)]
    refine zj ?_
    have hs:=z0z R hb hs
    refine zb (z7o (p:=p) 6 hs) λ_ _ hs=>?_
    obtain ⟨rfl,hs⟩:=hs
    refine zd ?_
    exact ⟨rfl,rfl,z2k (if_neg (by show ¬ (if R.e=0 then (6:Int) else R.e)=0;rw [if_pos h];decide)) hs⟩
   ·rw [if_pos (by omega)]
    refine zj ?_
    refine zb (zic (p:=p) 1 (x:=x) (bs:=R.bs) (at_:=R.at_) (e:=R.e) (by omega) hb.2 hcap hs) λ_ w' hs=>?_
    obtain ⟨rfl,hs⟩:=hs
    refine zd ?_
    refine z8s (hf:=zfj hcap (by omega)) hs (xs:=(R.bs.drop R.at_).take 1) (enc:=zi) 0 (by rw [List.length_take,List.length_drop];omega) ?_ rfl rfl
    have hg:((R.bs.drop R.at_).take 1)[0]'(by rw [List.length_take,List.length_drop];omega)=R.bs[R.at_]:=by simp
    rw [hg]
    refine wp_lt ?_
    have e:((((R.bs[R.at_]).toNat:Nat):Int) == 1)=decide ((R.bs[R.at_]).toNat=1):=by
     rw [Bool.eq_iff_iff];simp;omega
    rw [e]
    refine ⟨rfl,rfl,z2k (R:=⟨R.bs,R.at_+1,R.e⟩) ?_ (z0z ⟨R.bs,R.at_+1,R.e⟩ ⟨by show R.at_+1<=R.bs.length;omega,hb.2⟩ hs)⟩
    rw [z84 (R:=⟨R.bs,R.at_+1,R.e⟩) h]
    rfl
theorem zre (most:Nat) (hm:most<=1000000000) [hf:Fo l (rdS T.a60) p s r] (hs:Sat w l):Ret P F.a183 #[.pointer (some ⟨p,0,none⟩),.int .i64 (most:Nat)] w λvs w'=>vs=[.string (z1j most s).1]/\Sat w' (rdS T.a60 p (z1j most s).2::r) :=
 zpj _ _ <| by
  delta z03b AC AK AP AQ Aa Ab Ac Ad Ah Ai Ak Al Am An Ao Aq Au Aw Ay Bf Bi
  obtain ⟨R,rfl,hs⟩:=z7f (hs.perm hf.perm)
  have hb:=z6h hs
  refine zb (zda (p:=p) hs) λ_ _ hs=>?_
  obtain ⟨rfl,hs⟩:=hs
  refine zd ?_
  refine zh (λh=>?_) λh=>?_
  ·have h:R.e≠0:=by simpa using h
   rw [z74 h]
   exact ⟨rfl,rfl,z2k (z74 h) hs⟩
  have h:R.e=0:=by simpa using h
  refine zj ?_
  obtain ⟨x,-,hs⟩:=z21 hs
  refine z8 hs ?_
  refine wp_lt ?_
  refine zj ?_
  have hs:=z0z R hb hs
  refine zb (zqz (p:=p) h hs) λ_ _ hs=>?_
  obtain ⟨rfl,hs⟩:=hs
  refine zd ?_
  refine wp_lt ?_
  refine zj ?_
  have hst:=z8n (R:=R)
  have hbs:=zrf R
  generalize hU:R.uint=U at *
  obtain ⟨v,R'⟩:=U
  have hs:Sat _ (rdP T.a60 p R'::r):=hs
  have hbs:R'.bs=R.bs:=hbs
  have hb':=z6h hs
  obtain ⟨y,-,hs⟩:=z21 hs
  have hl:=hs.slen y (xs:=R'.bs) (enc:=zi)
  have hcap:y.len<=y.cap:=(hs.pick [1]).slc_cap
  refine z8 hs ?_
  refine wp_lt ?_
  have hend':∀ {w':World} {e:Int} {y:Sl},e≠0->Sat w' (pt p (.cells #[.slice y.a y.len y.cap,.int .i64 R'.at_,.int .i64 e] T.a60)::slc T.a58 1 y (R'.bs.flatMap zi)::r) ->
    (z1j most (stR R)).2=none->(z1j most (stR R)).1=⟨#[]⟩ ->
    (Prog.ex [.adr] (c1 λa27=>some ((⟨p,0,none⟩:Addr))=some a27) (u1 λa28=>.actU (st T.a13 (Addr.add (Addr.add a28 0) 1) (.int .i64 (R.at_:Int))) <| .done 0 [.string (ByteArray.mk #[])])).wp P (λ_=>True) w' λe vs w'=>e=0/\vs=[.string (z1j most (stR R)).1]/\Sat w' (rdS T.a60 p (z1j most (stR R)).2::r):=by
   intro w' e y he hs h1 h2
   refine zj ?_
   refine z02 hs λw' hs=>?_
   rw [h1,h2]
   refine ⟨rfl,rfl,z2k (R:=⟨R'.bs,R.at_,e⟩) (z74 he) (z0z ⟨R'.bs,R.at_,e⟩ ⟨by rw [hbs];exact hb.1,hb'.2⟩ hs)⟩
  refine z4m ?_
  refine zh (λhe=>?_) λhe=>?_
  ·have he:R'.e≠0:=by simpa using he
   refine z59 ?_
   have h1:(zx (stR R)).2=none:=by rw [<- hst.2];exact z74 he
   refine hend' he hs (by unfold z1j;rw [h1]) (by unfold z1j;rw [h1])
  ·have he:R'.e=0:=by simpa using he
   have h1:(zx (stR R)).2=some (z4w R'):=by rw [<- hst.2];exact z84 he
   have hv:=z4u h1
   have h0:(zx (stR R)).1=v:=hst.1.symm
   have hlen:(z4w R').length=R'.bs.length-R'.at_:=zml
   have ew:IntKind.wrap .u64 (if 0>((most:Nat):Int) then 0 else ((most:Nat):Int))=((most:Nat):Int):=by
    rw [if_neg (by omega),zin (by omega) (by omega)]
   rw [ew]
   refine wp_lt ?_
   refine z4m ?_
   refine zh (λh3=>?_) λh3=>?_
   ·refine zj ?_
    have hs:=z0z R' hb' hs
    refine zb (z7o (p:=p) 7 hs) λ_ _ hs=>?_
    obtain ⟨rfl,hs⟩:=hs
    refine zd ?_
    refine z59 ?_
    refine z59 ?_
    obtain ⟨y2,-,hs⟩:=z21 hs
    refine hend' (e:=(R'.fail 7).e) ?_ hs ?_ ?_
    ·show (if R'.e=0 then (7:Int) else R'.e)≠0
     rw [if_pos he];decide
    ·unfold z1j;rw [h1];simp only;rw [h0,if_neg (by omega)]
    ·unfold z1j;rw [h1];simp only;rw [h0,if_neg (by omega)]
   ·refine zj ?_
    have hs:=z0z R' hb' hs
    refine zb (zdh (p:=p) hs) λ_ _ hs=>?_
    obtain ⟨rfl,hs⟩:=hs
    refine zd ?_
    have eu:IntKind.wrap .u64 ((R'.bs.length-R'.at_:Nat):Int)=((R'.bs.length-R'.at_:Nat):Int):=zin (by omega) (by omega)
    rw [eu]
    refine wp_lt ?_
    refine zh (λh4=>?_) λh4=>?_
    ·refine zj ?_
     refine zb (z7o (p:=p) 6 hs) λ_ _ hs=>?_
     obtain ⟨rfl,hs⟩:=hs
     refine zd ?_
     refine z59 ?_
     refine z59 ?_
     obtain ⟨y2,-,hs⟩:=z21 hs
     refine hend' (e:=(R'.fail 6).e) ?_ hs ?_ ?_
     ·show (if R'.e=0 then (6:Int) else R'.e)≠0
      rw [if_pos he];decide
     ·unfold z1j;rw [h1];simp only;rw [h0,if_neg (by omega)]
     ·unfold z1j;rw [h1];simp only;rw [h0,if_neg (by omega)]
    ·refine zj ?_
     rw [w64 (by omega) (by omega)]
     obtain ⟨y2,-,hs⟩:=z21 hs
     have hcap2:y2.len<=y2.cap:=(hs.pick [1]).slc_cap
     refine zb (zic (p:=p) v (x:=y2) (bs:=R'.bs) (at_:=R'.at_) (e:=R'.e) (by omega) hb'.2 hcap2 hs) λ_ w' hs=>?_
     obtain ⟨rfl,hs⟩:=hs
     refine zd ?_
     refine zn4 (hf:=zfj hcap2 (by omega)) (bs:=(R'.bs.drop R'.at_).take v) hs ?_
     refine wp_lt ?_
     have e1:z1j most (stR R)=(⟨((z4w R').take v).toArray⟩,some ((z4w R').drop v)):=by
      unfold z1j;rw [h1];simp only;rw [h0,if_pos ⟨by omega,by omega⟩]
     rw [e1]
     refine zo (zo ⟨rfl,rfl,z2k (R:=⟨R'.bs,R'.at_+v,R'.e⟩) ?_ (z0z ⟨R'.bs,R'.at_+v,R'.e⟩ ⟨by show R'.at_+v<=R'.bs.length;omega,hb'.2⟩ hs)⟩)
     rw [z84 (R:=⟨R'.bs,R'.at_+v,R'.e⟩) he]
     unfold z4w
     rw [List.drop_drop]
end
section
variable {w:World} {l r:List HP} {p:Nat} {s:Lf}
theorem zad (most:Int) (hm:0<=most/\most<9223372036854775807) [hf:Fo l (rdS T.a60) p s r] (hs:Sat w l):Ret P F.a112 #[.pointer (some ⟨p,0,none⟩),.int .i64 most] w λvs w'=>vs=[.int .i64 (z00 most s).1]/\Sat w' (rdS T.a60 p (z00 most s).2::r) :=
 znw _ most <| by
  delta z01o AQ Ac Ad Ah Ai Ak Al Ao;unfold z00
  refine zb (z9t (p:=p) hs) λ_ _ hs=>?_
  obtain ⟨rfl,hs⟩:=hs
  refine zd ?_
  refine wp_lt ?_
  have e:IntKind.wrap .u64 most=most:=by rw [z8t];omega
  rw [e]
  refine zh (λh=>?_) λh=>?_
  ·refine z1t (y:=most+1) ?_ (by rw [w64 (by omega) (by omega)])
   rw [if_pos h]
   exact ⟨rfl,rfl,hs⟩
  ·refine z1t (y:=((zx s).1:Int)) ?_ (by rw [w64 (by omega) (by omega)])
   rw [if_neg h]
   exact ⟨rfl,rfl,hs⟩
theorem zpt (a b:ByteArray) (ha:a.size<=1000000000) (hs:Sat w l):Ret P F.a105 #[.string a,.string b] w λvs w'=>vs=[.int .i64 (z0m (bl a) (bl b):Nat)]/\Sat w' l :=
 znp a b <| by
  delta z01h AK AR Ac Ad Ae Ai Aj Ak Ao
  refine z1t (y:=((min a.size b.size:Nat):Int)) ?_ (by split <;> omega)
  refine zl (λ_ w'=>(bl a).take (min a.size b.size)=(bl b).take (min a.size b.size)/\Sat w' l) ?_ ?_
  rotate_left
  ·rintro _ w' ⟨ht,hs⟩
   refine zk ?_
   refine wp_lt ?_
   refine ⟨rfl,?_,hs⟩
   rw [zcw (i:=min a.size b.size) (by rw [z1i];omega) (by rw [z1i];omega) ht (by rw [z1i,z1i];omega)]
  refine z03 (λk v w=>∃ i:Nat,v=((i:Int),())/\i<=min a.size b.size/\min a.size b.size-i=k/\(bl a).take i=(bl b).take i/\Sat w l) (min a.size b.size) ⟨0,rfl,by omega,rfl,rfl,hs⟩ ?_
  clear hs
  rintro k _ w ⟨i,rfl,hi,hk,ht,hs⟩
  refine zk ?_
  refine zh (λhc=>?_) λhc=>?_
  rotate_left
  ·refine zo (zf ⟨?_,hs⟩)
   have:i=min a.size b.size:=by omega
   rwa [this] at ht
  have h1:i<(bl a).length:=by rw [z1i];omega
  have h2:i<(bl b).length:=by rw [z1i];omega
  refine wp_lt ?_
  refine zv hs λw' hs=>?_
  refine wp_must (by omega) ?_
  refine wp_must (by omega) ?_
  refine ze ?_
  have hb:∀ (c:ByteArray) (h:i<(bl c).length),bt c (i:Int)=(((bl c)[i]).toNat:Int):=λc h=>by
   unfold bt
   rw [Int.toNat_natCast,List.getD_eq_getElem?_getD,List.getElem?_eq_getElem h];rfl
  rw [hb a h1,hb b h2]
  refine zh (λhd=>?_) λhd=>?_
  ·refine wp_lt ?_
   refine zo (zo ⟨rfl,?_,hs⟩)
   have hne:(bl a)[i]≠(bl b)[i]:=λe=>by rw [e] at hd;simp at hd
   rw [zcw (i:=i) (by omega) (by omega) ht (.inr (.inr (by rw [List.getElem?_eq_getElem h1,List.getElem?_eq_getElem h2];simpa using hne)))]
  ·have he:(bl a)[i]=(bl b)[i]:=by
    apply UInt8.toNat_inj.1
    have:(((bl a)[i]).toNat:Int)=(((bl b)[i]).toNat:Int):=by simpa using hd
    omega
   refine z1k (us':=[.int .i64 ((i+1:Nat):Int)]) (by (try simp (disch:=omega) only [w64]);first|rfl|(congr;omega)) ?_
   refine z0l (min a.size b.size-(i+1)) ?_
   exact ⟨i+1,rfl,by omega,rfl,by rw [List.take_succ_eq_append_getElem h1,List.take_succ_eq_append_getElem h2,ht,he],hs⟩
end
theorem zt5 {lo hi:Int} (h:lo<=0/\0<=hi) (s:Lf):lo<=(z1l lo hi s).1/\(z1l lo hi s).1<=hi:=by
 unfold z1l
 split
 ·exact h
 ·split
  ·exact h
  ·simp only;omega
theorem zg4 {most:Int} (h:0<=most) (s:Lf):0<=(z00 most s).1/\(z00 most s).1<=most+1:=by
 unfold z00
 simp only
 split <;> omega
theorem z00i (most:Nat) (s:Lf):(z1j most s).1.size<=most:=by
 unfold z1j
 split
 ·show 0<=most;omega
 ·split
  ·rename_i h
   show (List.take _ _).length<=most
   rw [List.length_take];omega
  ·show 0<=most;omega
section
variable {w:World} {l r:List HP} {p:Nat} {s:Lf}
theorem z056 (time:Int) (ht:0<=time/\time<=1099511627776) (ahead:ByteArray) (ha:ahead.size<=100000) [hf:Fo l (rdS T.a60) p s r] (hs:Sat w l) :
  Ret P F.a110 #[.pointer (some ⟨p,0,none⟩),.int .i64 time,.string ahead] w λvs w'=>∃ x:RecM,vs=[.agg (z01 x).toArray,.bool (z3p time ahead s).1.isSome]/\(∀ y,(z3p time ahead s).1=some y->x=y)/\x.key.size<=2100/\Sat w' (rdS T.a60 p (z3p time ahead s).2::r) :=
 znu _ _ _ <| by
  delta z01m AC AD AI AJ AK AZ Ac Ad Ae Ai Aj Ak Al An Ao Av Aw Ay Ba Bf Bx Bz
  refine zn hs λa0 w' hs=>?_
  have hbd:=zt5 (lo := -1099511627776) (hi:=1099511627776) (by decide) s
  refine zb (zxr (p:=p) (-1099511627776) 1099511627776 hs) λ_ _ hs=>?_
  obtain ⟨rfl,hs⟩:=hs
  refine zd ?_
  refine wp_lt ?_
  refine zb (z044 (p:=p) hs) λ_ _ hs=>?_
  obtain ⟨rfl,hs⟩:=hs
  refine zd ?_
  refine zn hs λa4 w' hs=>?_
  rw [w64 (by omega) (by omega)]
  refine zm hs λw' hs=>?_
  refine zb (zad (p:=p) 1024 (by omega) hs) λ_ _ hs=>?_
  obtain ⟨rfl,hs⟩:=hs
  refine zd ?_
  refine wp_lt ?_
  refine zb (zre (p:=p) 1024 (by omega) hs) λ_ _ hs=>?_
  obtain ⟨rfl,hs⟩:=hs
  refine zd ?_
  refine wp_lt ?_
  have hR:z3p time ahead s=if (z00 1024 (z4o (z1l (-1099511627776) 1099511627776 s).2).2).1>ahead.size then (none,(z1j 1024 (z00 1024 (z4o (z1l (-1099511627776) 1099511627776 s).2).2).2).2) else
   let a:=z1l (-1099511627776) 1099511627776 s
   let b:=z4o a.2
   let c:=z00 1024 b.2
   let d:=z1j 1024 c.2
   let e:=if b.1 then (⟨#[]⟩,d.2) else z1j 1024 d.2
   if e.2.isSome=true/\(z0m (bl ahead) (bl (z5a ahead c.1 d.1)):Int)=c.1 then (some ⟨z5a ahead c.1 d.1,e.1,b.1,time+a.1⟩,e.2) else (none,e.2):=rfl
  simp only at hR
  have hcb:=zg4 (most:=1024) (by decide) (z4o (z1l (-1099511627776) 1099511627776 s).2).2
  have hdb:=z00i 1024 (z00 1024 (z4o (z1l (-1099511627776) 1099511627776 s).2).2).2
  generalize z3p time ahead s=RR at *
  generalize z1l (-1099511627776) 1099511627776 s=a at *
  generalize z4o a.2=b at *
  generalize z00 1024 b.2=c at *
  generalize z1j 1024 c.2=d at *
  refine zh (λh=>?_) λh=>?_
  ·rw [if_pos h] at hR
   subst hR
   refine zg hs ?_
   refine zm hs λw' hs=>?_
   refine zg hs ?_
   exact ⟨rfl,⟨⟨#[]⟩,⟨#[]⟩,b.1,time+a.1⟩,rfl,(λy hy=>by cases hy),by show 0<=2100;omega,hs.sub⟩
  rw [if_neg h] at hR
  refine wp_must (by omega) ?_
  have hks:(ByteArray.extract ahead 0 (Int.toNat c.1)).size<=1025:=by
   rw [ByteArray.size_extract];omega
  refine wp_must (by omega) ?_
  refine z02 hs λw' hs=>?_
  have ek:ByteArray.extract ahead 0 (Int.toNat c.1)++d.1=z5a ahead c.1 d.1:=rfl
  rw [ek] at hs
  refine z8 hs ?_
  have hkey:(z5a ahead c.1 d.1).size<=2100:=by
   unfold z5a
   rw [ByteArray.size_append]
   omega
  refine zl (λ_ w'=>Sat w' (pt a4 (.cells #[.string (z5a ahead c.1 d.1),.string (if b.1=true then ((⟨#[]⟩:ByteArray),d.2) else z1j 1024 d.2).1,.bool b.1,.int .i64 (time+a.1)] T.a2)::rdS T.a60 p (if b.1=true then ((⟨#[]⟩:ByteArray),d.2) else z1j 1024 d.2).2::pt a0 (.cells #[.string ⟨#[]⟩,.string ⟨#[]⟩,.bool false,.int .i64 0] T.a2)::r)) ?_ ?_
  ·refine zh (λh2=>?_) λh2=>?_
   ·have h2:b.1=false:=by simpa using h2
    refine zb (zre (p:=p) 1024 (by omega) hs) λ_ _ hs=>?_
    obtain ⟨rfl,hs⟩:=hs
    refine zd ?_
    refine z02 hs λw' hs=>?_
    refine zf ?_
    rw [if_neg (by rw [h2];simp)]
    exact hs.sub
   ·have h2:b.1=true:=by simpa using h2
    refine zf ?_
    rw [if_pos h2]
    dsimp only
    exact hs.sub
  rintro _ w1 hs
  generalize (if b.1=true then ((⟨#[]⟩:ByteArray),d.2) else z1j 1024 d.2)=e at *
  refine zl (λq w'=>q=(RR.1.isSome,())/\Sat w' (pt a0 (.cells #[.string (z5a ahead c.1 d.1),.string e.1,.bool b.1,.int .i64 (time+a.1)] T.a2)::rdS T.a60 p e.2::r)) ?_ ?_
  ·refine zv hs λw' hs=>?_
   refine zhj hs ?_
   refine zb (zw5 (p:=p) hs) λ_ _ hs=>?_
   obtain ⟨er,rfl,her,hs⟩:=hs
   refine zd ?_ (by first|trivial|(repeat (first|exact trivial|exact λ_=>z08 hs|exact λ_=>z0f hs|refine And.intro ?_ ?_)))
   refine z8 hs ?_
   refine zh (λh2=>?_) λh2=>?_
   ·have h2:e.2.isSome=true:=her.1 (by simpa using h2)
    refine zb (zpt ahead (z5a ahead c.1 d.1) (by omega) hs) λ_ _ hs=>?_
    obtain ⟨rfl,hs⟩:=hs
    refine zd ?_ (by first|trivial|(repeat (first|exact trivial|exact λ_=>z08 hs|exact λ_=>z0f hs|refine And.intro ?_ ?_)))
    refine ze ?_
    refine zm hs λw' hs=>?_
    refine wp_lt ?_
    refine ze ?_
    refine zf ⟨?_,hs.sub⟩
    have e3:(((z0m (bl ahead) (bl (z5a ahead c.1 d.1)):Nat):Int) == c.1)=RR.1.isSome:=by
     rw [hR]
     by_cases h3:((z0m (bl ahead) (bl (z5a ahead c.1 d.1)):Nat):Int)=c.1
     ·rw [if_pos ⟨h2,h3⟩];simpa using h3
     ·rw [if_neg λh=>h3 h.2];simpa using h3
    rw [e3]
   ·have h2:¬ e.2.isSome=true:=λh=>h2 (by simpa using her.2 h)
    refine ze ?_
    refine zm hs λw' hs=>?_
    refine ze ?_
    refine zf ⟨?_,hs.sub⟩
    rw [hR,if_neg λh=>h2 h.1]
    rfl
  rintro _ w1 ⟨rfl,hs⟩
  refine zg hs ?_
  refine ⟨rfl,⟨z5a ahead c.1 d.1,e.1,b.1,time+a.1⟩,rfl,λy hy=>?_,hkey,?_⟩
  ·rw [hR] at hy
   split at hy
   ·simpa using hy
   ·cases hy
  ·have e4:RR.2=e.2:=by rw [hR];split <;> rfl
   rw [e4]
   exact hs.sub
end
theorem zjj {K V:Type} {kk:K} {v v':V}:∀ {es:List (K × V)},(es.map Prod.fst).Nodup->(kk,v) ∈ es->(kk,v') ∈ es->v'=v
 | a::r,hnd,hv,hv'=>by
  rw [List.map_cons,List.nodup_cons] at hnd
  rcases List.mem_cons.1 hv with h1|h1 <;> rcases List.mem_cons.1 hv' with h2|h2
  ·rw [<- h1] at h2;exact (Prod.mk.inj h2).2
  ·exact absurd (List.mem_map.2 ⟨_,h2,by rw [<- h1]⟩) hnd.1
  ·exact absurd (List.mem_map.2 ⟨_,h1,by rw [<- h2]⟩) hnd.1
  ·exact zjj hnd.2 h1 h2
section
variable {K V:Type} {ek:K->Value} {ev:V->Value} {m:Nat} {es:List (K × V)} {P:Program} {w:World} {l r:List HP} {Q:Post} {S:World->Prop} {T kt:TypeId} {z:Value} {g:Prop} {kk:K} {kv:Value}
theorem zqi [hf:FoM l m ek ev es r] [hT:MapT P T kt z] [hk:KeyT P kt ek] [hkv:IsK ek kv kk] (hs:Sat w l) {v:V} (hv:(kk,v) ∈ es) {ss:List Sh1} {x:HL (prims ss)} (hx:z19 ss x=[ev v,.bool true]) :
  (Instr.lookup T (.map (some m)) kv true).run P w=.ok ((Sh.tup ss).mk x) w:=by
 have hs:=hs.perm hf.perm
 have hnd:=hs.mapNodup
 rcases zcd (P:=P) (T:=T) true hs kk with ⟨v',hv',hr⟩|⟨hno,-⟩
 ·have:v'=v:=zjj hnd hv hv'
  rw [hkv.ok,hr,this]
  show Result.ok (Value.tuple #[ev v,.bool true]) w=Result.ok (Value.tuple (z19 ss x).toArray) w
  rw [hx]
 ·exact absurd hv (hno _)
theorem zm0 [hf:FoM l m ek ev es r] [hT:MapT P T kt z] [hk:KeyT P kt ek] [hkv:IsK ek kv kk] (hs:Sat w l) (hv:∀ v,(kk,v) ∉ es) {ss:List Sh1} {x:HL (prims ss)} (hx:z19 ss x=[z,.bool false]) :
  (Instr.lookup T (.map (some m)) kv true).run P w=.ok ((Sh.tup ss).mk x) w:=by
 have hs:=hs.perm hf.perm
 rcases zcd (P:=P) (T:=T) true hs kk with ⟨v',hv',hr⟩|⟨-,hr⟩
 ·exact absurd hv' (hv _)
 ·rw [hkv.ok,hr]
  show Result.ok (Value.tuple #[z,.bool false]) w=Result.ok (Value.tuple (z19 ss x).toArray) w
  rw [hx]
theorem zcm {ss:List Sh1} {k:HL (prims ss)->Prog} [hf:FoM l m ek ev es r] [hT:MapT P T kt z] [hk:KeyT P kt ek] [hkv:IsK ek kv kk] (hs:Sat w l) (o:Option V) (ho:(∃ v,o=some v/\(kk,v) ∈ es)\/(o=none/\∀ v,(kk,v) ∉ es)) (d:Option V->HL (prims ss))
  (h:(k (d o)).wp P (λw'=>S w'/\(g->(Instr.lookup T (.map (some m)) kv true).run P w'=.ok ((Sh.tup ss).mk (d o)) w')) w Q) (h1:∀ v,z19 ss (d (some v))=[ev v,.bool true]:=by intros;rfl) (h0:z19 ss (d none)=[z,.bool false]:=by rfl) :
  (Prog.hold g (Instr.lookup T (.map (some m)) kv true) (.tup ss) k).wp P S w Q:=by
 refine ⟨d o,λ_=>?_,h⟩
 rcases ho with ⟨v,rfl,hv⟩|⟨rfl,hv⟩
 ·exact zqi hs hv (h1 v)
 ·exact zm0 hs hv h0
theorem z93 {ss:List Sh1} [hf:FoM l m ek ev es r] [hT:MapT P T kt z] [hk:KeyT P kt ek] [hkv:IsK ek kv kk] (hs:Sat w l) {o:Option V} (ho:(∃ v,o=some v/\(kk,v) ∈ es)\/(o=none/\∀ v,(kk,v) ∉ es)) (d:Option V->HL (prims ss))
  (h1:∀ v,z19 ss (d (some v))=[ev v,.bool true]:=by intros;rfl) (h0:z19 ss (d none)=[z,.bool false]:=by rfl) :
  (Instr.lookup T (.map (some m)) kv true).run P w=.ok ((Sh.tup ss).mk (d o)) w:=by
 rcases ho with ⟨v,rfl,hv⟩|⟨rfl,hv⟩
 ·exact zqi hs hv (h1 v)
 ·exact zm0 hs hv h0
theorem z00p {ss:List Sh1} {k:HL (prims ss)->Prog} [hf:FoM l m ek ev es r] [hT:MapT P T kt z] [hk:KeyT P kt ek] [hkv:IsK ek kv kk] (hs:Sat w l) (o:Option V) (ho:(∃ v,o=some v/\(kk,v) ∈ es)\/(o=none/\∀ v,(kk,v) ∉ es)) (d:Option V->HL (prims ss))
  (h:(k (d o)).wp P S w Q) (h1:∀ v,z19 ss (d (some v))=[ev v,.bool true]:=by intros;rfl) (h0:z19 ss (d none)=[z,.bool false]:=by rfl) :
  (Prog.read g (Instr.lookup T (.map (some m)) kv true) (.tup ss) k).wp P S w Q :=
 ⟨d o,λ_=>z93 hs ho d h1 h0,h⟩
end
section
variable {P:Program} {w:World} {l r:List HP} {Q:Post} {S:World->Prop} {t:TypeId} {sz:Nat}
theorem z05r {α:Type} {enc:α->List Value} {xs:List α} {x:Sl} {T:TypeId} {m j:Nat} {ii:Int} {gg g':Prop} {p:Pr} {dec:α->p.D} {f:p.D->Prog} (hs:Sat w l) [hf:FocR l x sz (xs.flatMap enc)] [hE:EncN enc sz] [hD:EncF enc j p dec] [hT:One P T]
  (n:Nat) (hn:n<xs.length) (h:(f (dec xs[n])).wp P S w Q) (hm:m=n*sz:=by rfl) (hi:ii=n:=by rfl) :
  (Prog.ex [.adr] (c1 λa=>gg->(0:Int)<=ii/\ii<((x.len:Nat):Int)/\x.a=some a) (u1 λa=>.read g' (ld T (Addr.add (Addr.add a m) j)) (.one (.one p)) (u1 f))).wp P S w Q:=by
 obtain ⟨a,ha,hl,hr⟩:=ze5 (P:=P) (T:=T) (x:=x) (sz:=sz) (xs:=xs) (enc:=enc) (j:=j) (p:=p) (dec:=dec) hs (n:=n) hn
 subst hm hi
 exact ⟨(a,()),λ_=>⟨by omega,by omega,ha⟩,(dec xs[n],()),λ_=>hr,h⟩
theorem zkr {α β γ δ:Type} {f:α->β->γ->δ->Prog} (a:α) (b:β) (c:γ) (d:δ) (h:(f a b c d).wp P S w Q):(u4 f (a,b,c,d,())).wp P S w Q:=h
theorem zrl {α:Type} {enc:α->List Value} {n:Nat} {ps:Array (Nat × Value)} {el:TypeId} {bytes:Nat} {k:Sl->Prog} (hs:Sat w l) [ht:SlT P t el sz bytes] [hE:EncN enc sz] (xs:List α)
  (h:∀ x w',Sat w' (slc el sz x (xs.flatMap enc)::l)->(k x).wp P S w' Q) (hc:z47 P t n ps=some (el,(xs.flatMap enc).toArray):=by kernel_rfl) (hn:xs.length=n:=by rfl) (hS:∀ w',S w':=by exact λ_=>trivial) :
  (Prog.act (Instr.buildSlice t n ps) sL (u1 k)).wp P S w Q:=z9v hs xs hc (λb w' hs=>h _ w' hs) (by simp) hn hS
end
section
variable {P:Program} {w:World} {l r:List HP} {Q:Post} {S:World->Prop} {α β γ δ ε ζ η θ:Type}
theorem z1v {f:α->β->Prog} (a:α) (b:β) (h:(f a b).wp P S w Q):(u2 f (a,b,())).wp P S w Q:=h
theorem zea {f:α->β->γ->Prog} (a:α) (b:β) (c:γ) (h:(f a b c).wp P S w Q):(u3 f (a,b,c,())).wp P S w Q:=h
theorem z2q {f:α->β->γ->δ->ε->Prog} (a:α) (b:β) (c:γ) (d:δ) (e:ε) (h:(f a b c d e).wp P S w Q):(u5 f (a,b,c,d,e,())).wp P S w Q:=h
theorem ztb {f:α->β->γ->δ->ε->ζ->Prog} (a:α) (b:β) (c:γ) (d:δ) (e:ε) (z:ζ) (h:(f a b c d e z).wp P S w Q):(u6 f (a,b,c,d,e,z,())).wp P S w Q:=h
theorem zks {f:α->β->γ->δ->ε->ζ->η->Prog} (a:α) (b:β) (c:γ) (d:δ) (e:ε) (z:ζ) (y:η) (h:(f a b c d e z y).wp P S w Q):(u7 f (a,b,c,d,e,z,y,())).wp P S w Q:=h
theorem zeb {f:α->β->γ->δ->ε->ζ->η->θ->Prog} (a:α) (b:β) (c:γ) (d:δ) (e:ε) (z:ζ) (y:η) (x:θ) (h:(f a b c d e z y x).wp P S w Q):(u8 f (a,b,c,d,e,z,y,x,())).wp P S w Q:=h
theorem z05s {α:Type} {enc:α->List Value} {xs:List α} {i i':Int} {x:Sl} {T t:TypeId} {sz n':Nat} {k:Prog} {us:List Value} (hs:Sat w l) [hf:FocS l x T sz (xs.flatMap enc) r] [hE:EncN enc sz] [hT:Agg P t n'] (n:Nat) (hn:n<xs.length) (y:α)
  (h:∀ w',Sat w' (slc T sz x ((xs.set n y).flatMap enc)::r)->k.wp P S w' Q) (hy:us=enc y:=by rfl) (hi:i=n:=by first|rfl|omega) (hi':i'=i:=by rfl) (hz:Nat.beq sz n'=true:=by rfl) (hS:∀ w',S w':=by exact λ_=>trivial) :
  (Prog.ex [.adr] (c1 λa=>0<=i/\i<((x.len:Nat):Int)/\x.a=some a) (u1 λa=>.actU (st t (Addr.add a (Int.toNat i'*sz)) (.agg us.toArray)) k)).wp P S w Q:=by
 have hz:=Nat.eq_of_beq_eq_true hz
 subst hi hi' hz
 have hr:=(hs.focS x).rd
 have hl:x.len=xs.length:=hr.len hE.len hE.pos
 obtain ⟨a,ha,he⟩:=hr.el hE.len (by omega)
 refine ⟨(a,()),⟨by omega,by omega,ha⟩,?_⟩
 exact zxw (xs:=xs) (i:=n) (y:=y) hE.len hs ha hn (λb o e=>by subst e;rw [z2a,Int.toNat_natCast]) hT.ok.2 (by show us.toArray.toList=_;rw [hy]) (hE.one y) λw' hs'=>⟨hS _,h w' hs'⟩
theorem zxs {f : FuncId} {cap : Array Value} {args : List Value} {s : Sh} {k : HL s.prims → Prog} {vs₀ : List Value} {R : World → Prop} (hok : (P.funcs[f]?).any (fun fn => fn.body.isSome && fn.name != "runtime.NumGoroutine") = true) (x : HL s.prims)
  (hc:Ret P f (args.toArray++cap) w λvs w'=>vs=vs₀/\R w') (hx:z9f vs₀=s.mk x) (h:∀ w',R w'->S w'/\(k x).wp P S w' Q):(Prog.callv (.func (.func f) #[] cap) args s k).wp P S w Q:=by
 refine ⟨f,#[],cap,rfl,hok,?_⟩
 have e:(#[]:Array Value)++args.toArray++cap=args.toArray++cap:=by simp
 rw [e]
 refine Calls.mono hc λe w' ⟨vs,he,hv,hR⟩=>?_
 exact ⟨x,by rw [he,hv,hx],h w' hR⟩
end
section
variable {P:Program} {w:World} {l r:List HP} {Q:Post} {S:World->Prop} {b off:Nat} {T T':TypeId} {g:Prop}
theorem zr7 {a:Addr} {vs:List Value} {fr:Nat × Nat} {ps:List Pr} (x:HL ps) {n:Nat} (hs:Sat w l) [ha:AddrIs a b off] [hb:FocB l b (.cells vs.toArray T' fr) r] [hT:Agg P T n] (hx:(vs.drop off).take n=HL.vals ps x) (hn:(HL.vals ps x).length=n) :
  (ld T a).run P w=.ok ((Sh.one (.agg ps)).mk x) w:=by
 rw [ha.ok]
 refine At.ldA (P:=P) (T:=T) (vs:=HL.vals ps x) ⟨b,off,vs.toArray,T',fr,rfl,(hs.focB b).get,λi hi=>?_⟩ hn
 rw [<- hx,List.getElem?_take,if_pos (by omega),List.getElem?_drop]
 simp
theorem zae {a:Addr} {vs:List Value} {fr:Nat × Nat} {ps:List Pr} {k:HL ps->Prog} (hs:Sat w l) (x:HL ps) {n:Nat} [ha:AddrIs a b off] [hb:FocB l b (.cells vs.toArray T' fr) r] [hT:Agg P T n] {p:Prog} [hA:App k x p]
  (h:p.wp P S w Q) (hx:(vs.drop off).take n=HL.vals ps x:=by rfl) (hn:(HL.vals ps x).length=n:=by rfl):(Prog.read g (ld T a) (.one (.agg ps)) k).wp P S w Q :=
 ⟨x,λ_=>zr7 (T:=T) x hs hx hn,by rw [hA.ok];exact h⟩
theorem z07u {a:Addr} {vs:List Value} {fr:Nat × Nat} {ps:List Pr} {k:HL ps->Prog} (hs:Sat w l) (x:HL ps) {n:Nat} [ha:AddrIs a b off] [hb:FocB l b (.cells vs.toArray T' fr) r] [hT:Agg P T n] {p:Prog} [hA:App k x p]
  (h:p.wp P (λw'=>S w'/\(g->(ld T a).run P w'=.ok ((Sh.one (.agg ps)).mk x) w')) w Q) (hx:(vs.drop off).take n=HL.vals ps x:=by rfl) (hn:(HL.vals ps x).length=n:=by rfl):(Prog.hold g (ld T a) (.one (.agg ps)) k).wp P S w Q :=
 ⟨x,λ_=>zr7 x hs hx hn,by rw [hA.ok];exact h⟩
end
def zte:BatM:=⟨0,0,0,0,0,0,z8h,[]⟩
abbrev zeroC:Array Value:=#[.int .i64 0,.int .i64 0,.int .i64 0,.int .i64 0,.int .i64 0,.int .i64 0,.slice none 0 0]
theorem zxt {P:Program} {p:Prog} {S:World->Prop} {w:World} {Q0 Q:Post} (h:p.wp P S w Q0) (h0:∀ e vs w,Q0 e vs w->e=0) (hQ:∀ vs w,Q0 0 vs w->Q 0 vs w):p.wp P S w Q :=
 Prog.wp_mono p (λe vs w h=>by have:=h0 e vs w h;subst this;exact hQ vs w h) h
theorem zt1 (time:Int) (n:Nat) (ahead:ByteArray) (s:Lf):z4s time (n+1) ahead s=match (z3p time ahead s).1 with
  | none=>none
  | some x=>(z4s time n x.key (z3p time ahead s).2).map λq=>(x::q.1,q.2):=rfl
def BatM.at (b:BatM) (z:Sl):BatM:={ b with x:=z }
section
variable {w:World} {l r:List HP} {p:Nat} {s:Lf}
theorem zle (x:Sl) (raw:List UInt8) [hx:FocR l x 1 (raw.flatMap zi)] (hn:raw.length<=1000000000) (hs:Sat w l) :
  Ret P F.a97 #[x.v] w λvs w'=>(∃ b z,z63 raw=some b/\vs=[.agg (zp (b.at z)).toArray,.int .i64 0]/\Sat w' (slc T.a2 4 z (b.rs.flatMap z01)::l)) \/
   (z63 raw=none/\vs=[.agg (zp zte).toArray,.int .i64 6]/\Sat w' l) :=
 zvj _ <| by
  delta z0a2 AC AI AJ AK AL AM AZ Ab Ac Ad Af Ai Ak Al An Ao Ap Av Aw Ay Ba Bc Be Bf Bh Bo
  refine zn hs λa0 w' hs=>?_
  refine zn hs λa1 w' hs=>?_
  refine zm hs λw' hs=>?_
  refine zb (zm3 x raw hn hs) λ_ w' hs=>?_
  obtain ⟨p,rfl,hs⟩:=hs
  refine zd ?_
  refine zb (zhr (p:=p) hs) λ_ _ hs=>?_
  obtain ⟨rfl,hs⟩:=hs
  refine zd ?_
  have hfail:∀ {w':World},Sat w' (pt a1 (.cells zeroC T.a0)::pt a0 (.cells zeroC T.a0)::l)->z63 raw=none ->
    (Prog.read True (ld T.a0 ⟨a1,0,none⟩) (sG [.int .i64,.int .i64,.int .i64,.int .i64,.int .i64,.int .i64,.slc]) (u7 λn4 n5 n6 n7 n8 n9 l10 =>
     .actU (st T.a0 ⟨a0,0,none⟩ (.agg #[.int .i64 n4,.int .i64 n5,.int .i64 n6,.int .i64 n7,.int .i64 n8,.int .i64 n9,l10.v])) <|
     .read True (ld T.a0 ⟨a0,0,none⟩) (sG [.int .i64,.int .i64,.int .i64,.int .i64,.int .i64,.int .i64,.slc]) (u7 λn11 n12 n13 n14 n15 n16 l17 =>
     .done 0 [.agg #[.int .i64 n11,.int .i64 n12,.int .i64 n13,.int .i64 n14,.int .i64 n15,.int .i64 n16,l17.v],.int .i64 6]))).wp P (λ_=>True) w' λe vs w=>e=0/\((∃ b z,z63 raw=some b/\vs=[.agg (zp (b.at z)).toArray,.int .i64 0]/\Sat w (slc T.a2 4 z (b.rs.flatMap z01)::l)) \/
      (z63 raw=none/\vs=[.agg (zp zte).toArray,.int .i64 6]/\Sat w l)):=by
   intro w' hs hd
   have hs:Sat w' (pt a1 (.cells [.int .i64 0,.int .i64 0,.int .i64 0,.int .i64 0,.int .i64 0,.int .i64 0,.slice none 0 0].toArray T.a0)::pt a0 (.cells [.int .i64 0,.int .i64 0,.int .i64 0,.int .i64 0,.int .i64 0,.int .i64 0,.slice none 0 0].toArray T.a0)::l):=hs
   refine zg hs ?_
   refine zm hs λw' hs=>?_
   refine zg hs ?_
   exact ⟨rfl,.inr ⟨hd,rfl,hs.sub⟩⟩
  replace hs:Sat _ (rdS T.a60 p (z10 (some raw)).2::pt a1 (.cells zeroC T.a0)::pt a0 (.cells zeroC T.a0)::l):=hs.sub
  refine zh (λh=>?_) λh=>?_
  ·refine hfail hs.sub ?_
   unfold z63
   rw [if_pos (by omega)]
  have hdec:z63 raw=zl7 (hdS (z10 (some raw)).2):=by
   unfold z63
   rw [if_neg (by omega)]
  generalize z63 raw=DD at *
  generalize (z10 (some raw)).2=s at *
  have hH:hdS s=⟨z10 s,z00 1099511627776 (z10 s).2,z00 1048576 (z00 1099511627776 (z10 s).2).2,
   if (z00 1048576 (z00 1099511627776 (z10 s).2).2).1>0 then z00 32767 (z00 1048576 (z00 1099511627776 (z10 s).2).2).2 else (0,(z00 1048576 (z00 1099511627776 (z10 s).2).2).2),
   if (z00 1048576 (z00 1099511627776 (z10 s).2).2).1>0/\z3f (z10 s).1=false then z00 2147483647 (if (z00 1048576 (z00 1099511627776 (z10 s).2).2).1>0 then z00 32767 (z00 1048576 (z00 1099511627776 (z10 s).2).2).2 else (0,(z00 1048576 (z00 1099511627776 (z10 s).2).2).2)).2 else (0,(if (z00 1048576 (z00 1099511627776 (z10 s).2).2).1>0 then z00 32767 (z00 1048576 (z00 1099511627776 (z10 s).2).2).2 else (0,(z00 1048576 (z00 1099511627776 (z10 s).2).2).2)).2),
   z00 1099511627776 (if (z00 1048576 (z00 1099511627776 (z10 s).2).2).1>0/\z3f (z10 s).1=false then z00 2147483647 (if (z00 1048576 (z00 1099511627776 (z10 s).2).2).1>0 then z00 32767 (z00 1048576 (z00 1099511627776 (z10 s).2).2).2 else (0,(z00 1048576 (z00 1099511627776 (z10 s).2).2).2)).2 else (0,(if (z00 1048576 (z00 1099511627776 (z10 s).2).2).1>0 then z00 32767 (z00 1048576 (z00 1099511627776 (z10 s).2).2).2 else (0,(z00 1048576 (z00 1099511627776 (z10 s).2).2).2)).2)).2⟩:=rfl
  refine zb (zhr (p:=p) hs) λ_ _ hs=>?_
  obtain ⟨rfl,hs⟩:=hs
  refine zd ?_
  generalize z10 s=k at *
  refine zb (zad (p:=p) 1099511627776 (by omega) hs) λ_ _ hs=>?_
  obtain ⟨rfl,hs⟩:=hs
  refine zd ?_
  generalize z00 1099511627776 k.2=ba at *
  refine zb (zad (p:=p) 1048576 (by omega) hs) λ_ _ hs=>?_
  obtain ⟨rfl,hs⟩:=hs
  refine zd ?_
  generalize z00 1048576 ba.2=pi at *
  refine zn hs λa2 w' hs=>?_
  refine zm hs λw' hs=>?_
  refine z8 hs ?_
  generalize hep:(if pi.1>0 then z00 32767 pi.2 else (0,pi.2))=ep at *
  generalize hsq:(if pi.1>0/\z3f k.1=false then z00 2147483647 ep.2 else (0,ep.2))=sq at *
  refine zl (λ_ w'=>Sat w' (pt a2 (.cells [.int .i64 ba.1,.int .i64 pi.1,.int .i64 ep.1,.int .i64 sq.1,.int .i64 k.1,.int .i64 0,.slice none 0 0].toArray T.a0)::rdS T.a60 p sq.2::pt a1 (.cells zeroC T.a0)::pt a0 (.cells zeroC T.a0)::l)) ?_ ?_
  ·refine zh (λh=>?_) λh=>?_
   ·rw [if_pos h] at hep
    refine zb (zad (p:=p) 32767 (by omega) hs) λ_ _ hs=>?_
    obtain ⟨rfl,hs⟩:=hs
    refine zd ?_
    rw [hep] at hs ⊢
    refine z02 hs λw' hs=>?_
    refine zg hs ?_
    refine zb (z6w ⟨ba.1,pi.1,ep.1,0,k.1,0,z8h,[]⟩ hs) λ_ w' hs=>?_
    obtain ⟨rfl,hs⟩:=hs
    refine zd ?_
    have em:z04 ⟨ba.1,pi.1,ep.1,0,k.1,0,z8h,[]⟩=z3f k.1:=rfl
    rw [em]
    refine z4m ?_
    refine zh (λh2=>?_) λh2=>?_
    ·have h2:z3f k.1=false:=by simpa using h2
     rw [if_pos ⟨h,h2⟩] at hsq
     refine zb (zad (p:=p) 2147483647 (by omega) hs) λ_ _ hs=>?_
     obtain ⟨rfl,hs⟩:=hs
     refine zd ?_
     rw [hsq] at hs ⊢
     refine z02 hs λw' hs=>?_
     refine z59 ?_
     refine zf ?_
     exact hs.sub
    ·have h2:z3f k.1≠false:=by simpa using h2
     rw [if_neg λh=>h2 h.2] at hsq
     refine z59 ?_
     refine zf ?_
     rw [<- hsq]
     exact hs.sub
   ·rw [if_neg h] at hep
    rw [if_neg λh2=>h h2.1] at hsq
    refine zf ?_
    rw [<- hsq,<- hep]
    exact hs.sub
  rintro _ w1 hs
  refine zb (zad (p:=p) 1099511627776 (by omega) hs) λ_ _ hs=>?_
  obtain ⟨rfl,hs⟩:=hs
  refine zd ?_
  have htb:=zg4 (most:=1099511627776) (by decide) sq.2
  generalize z00 1099511627776 sq.2=tm at *
  refine z02 hs λw' hs=>?_
  refine zb (zw5 (p:=p) hs) λ_ _ hs=>?_
  obtain ⟨er,rfl,her,hs⟩:=hs
  refine zd ?_
  refine z8 hs ?_
  rw [hH] at hdec
  generalize hHH:(⟨k,ba,pi,ep,sq,tm⟩:HdS)=H at *
  have e1:H.tm=tm:=by rw [<- hHH]
  have e2:H.k=k:=by rw [<- hHH]
  unfold zl7 at hdec
  rw [e1,e2] at hdec
  refine zh (λh=>?_) λh=>?_
  ·refine hfail hs.sub ?_
   rw [hdec,if_pos]
   rcases h with h|h
   ·left
    cases hi:tm.2.isSome with
    | false=>rfl
    | true=>exact absurd (her.2 hi) h
   ·right;omega
  have htm:tm.1<=1099511627776:=by
   apply Decidable.byContradiction
   intro hh
   exact h (.inr (by omega))
  have her0:tm.2.isSome=true:=her.1 (Decidable.byContradiction λhh=>h (.inl hh))
  rw [if_neg (by rw [her0];rintro (h|h);cases h;omega)] at hdec
  refine zg hs ?_
  refine zb (z6w ⟨ba.1,pi.1,ep.1,sq.1,k.1,tm.1,z8h,[]⟩ hs) λ_ w' hs=>?_
  obtain ⟨rfl,hs⟩:=hs
  refine zd ?_
  have em:z04 ⟨ba.1,pi.1,ep.1,sq.1,k.1,tm.1,z8h,[]⟩=z3f k.1:=rfl
  rw [em]
  refine zl (λ_ w'=>∃ (rs:List RecM) (z:Sl) (s1:Lf),DD=(if s1=some []/\z07 (H.b rs)=0 then some (H.b rs) else none)/\Sat w' (slc T.a2 4 z (rs.flatMap z01)::pt a2 (.cells [.int .i64 ba.1,.int .i64 pi.1,.int .i64 ep.1,.int .i64 sq.1,.int .i64 k.1,.int .i64 tm.1,.slice z.a z.len z.cap].toArray T.a0)::rdS T.a60 p s1::pt a1 (.cells zeroC T.a0)::pt a0 (.cells zeroC T.a0)::l)) ?_ ?_
  ·refine zh (λh2=>?_) λh2=>?_
   rotate_left
   ·have h2:z3f k.1=true:=by simpa using h2
    rw [if_pos h2] at hdec
    refine zf ⟨[],⟨none,0,0⟩,tm.2,hdec,?_⟩
    have hs:Sat _ (slc T.a2 4 ⟨none,0,0⟩ (([]:List RecM).flatMap z01)::_):=hs.slc_nil
    exact hs.sub
   have h2:z3f k.1=false:=by simpa using h2
   rw [if_neg (by rw [h2];simp)] at hdec
   refine zb (zad (p:=p) 64 (by omega) hs) λ_ _ hs=>?_
   obtain ⟨rfl,hs⟩:=hs
   refine zd ?_
   have hnb:=zg4 (most:=64) (by decide) tm.2
   generalize z00 64 tm.2=n at *
   refine wp_lt ?_
   refine zh (λh3=>?_) λh3=>?_
   ·rw [if_pos h3] at hdec
    have hf:=hfail hs.sub hdec
    exact zxt hf (λ_ _ _ h=>h.1) λvs w h=>z8u (by decide) h
   rw [if_neg h3] at hdec
   refine zl (λ_ w'=>∃ (rs:List RecM) (z:Sl) (s1:Lf),z4s tm.1 n.1.toNat ⟨#[]⟩ n.2=some (rs,s1)/\Sat w' (slc T.a2 4 z (rs.flatMap z01)::pt a2 (.cells [.int .i64 ba.1,.int .i64 pi.1,.int .i64 ep.1,.int .i64 sq.1,.int .i64 k.1,.int .i64 tm.1,.slice z.a z.len z.cap].toArray T.a0)::rdS T.a60 p s1::pt a1 (.cells zeroC T.a0)::pt a0 (.cells zeroC T.a0)::l)) ?_ ?_
   rotate_left
   ·rintro _ w1 ⟨rs,z,s1,hrs,hs⟩
    rw [hrs] at hdec
    exact zf ⟨rs,z,s1,hdec,hs⟩
   refine z03 (λm v w=>∃ (i:Nat) (done:List RecM) (ahead:ByteArray) (z:Sl) (s1:Lf),v=(ahead,((i:Int),()))/\i<=n.1.toNat/\n.1.toNat-i=m/\done.length=i/\ahead.size<=2100 /\
    z4s tm.1 n.1.toNat ⟨#[]⟩ n.2=(z4s tm.1 (n.1.toNat-i) ahead s1).map (λq=>(done++q.1,q.2))/\Sat w (slc T.a2 4 z (done.flatMap z01)::pt a2 (.cells [.int .i64 ba.1,.int .i64 pi.1,.int .i64 ep.1,.int .i64 sq.1,.int .i64 k.1,.int .i64 tm.1,.slice z.a z.len z.cap].toArray T.a0)::rdS T.a60 p s1::pt a1 (.cells zeroC T.a0)::pt a0 (.cells zeroC T.a0)::l)) n.1.toNat
    ⟨0,[],⟨#[]⟩,⟨none,0,0⟩,n.2,rfl,by omega,rfl,rfl,(by show 0<=2100;omega),?_,(show Sat _ (slc T.a2 4 ⟨none,0,0⟩ (([]:List RecM).flatMap z01)::_) from hs.slc_nil).sub⟩ ?_
   ·cases z4s tm.1 n.1.toNat ⟨#[]⟩ n.2 <;> simp
   clear hs
   rintro m _ w ⟨i,done,ahead,z,s1,rfl,hi,hm,hdl,hah,hrec,hs⟩
   refine zh (λhc=>?_) λhc=>?_
   rotate_left
   ·refine zo (zf ⟨done,z,s1,?_,hs⟩)
    have hc:¬ ((i:Int)<n.1):=hc
    rw [hrec,show n.1.toNat-i=0 by omega]
    simp [z4s]
   have hc:(i:Int)<n.1:=hc
   refine z8 hs ?_
   refine zb (z056 (p:=p) tm.1 ⟨htb.1,htm⟩ ahead (by omega) hs) λ_ w' hs=>?_
   obtain ⟨y,rfl,hy,hyk,hs⟩:=hs
   refine ⟨(y.key,y.value,y.gone,y.time,(z3p tm.1 ahead s1).1.isSome,()),rfl,trivial,z2q _ _ _ _ _ ?_⟩
   refine zn hs λa3 w' hs=>?_
   refine zm hs λw' hs=>?_
   refine wp_lt ?_
   have hsucc:n.1.toNat-i=(n.1.toNat-(i+1))+1:=by omega
   rw [hsucc] at hrec
   rw [zt1] at hrec
   refine zh (λh4=>?_) λh4=>?_
   ·have h4:(z3p tm.1 ahead s1).1=none:=by simpa using h4
    rw [h4] at hrec
    have hrec:z4s tm.1 n.1.toNat ⟨#[]⟩ n.2=none:=hrec
    rw [hrec] at hdec
    have hf:=hfail hs.sub hdec
    exact zxt hf (λ_ _ _ h=>h.1) λvs w h=>z8u (by decide) (z8u (by decide) (z8u (by decide) h))
   have h4:(z3p tm.1 ahead s1).1.isSome=true:=by
    cases hq:(z3p tm.1 ahead s1).1 with
    | none=>rw [hq] at h4;exact absurd (by simp) h4
    | some q=>rfl
   obtain ⟨y',hy'⟩:=Option.isSome_iff_exists.1 h4
   obtain rfl:=hy y' hy'
   rw [hy'] at hrec
   refine z8 hs ?_
   refine zg hs ?_
   refine z3w (xs:=done) (enc:=z01) (y:=y) hs (λz' w' hs=>?_) rfl (by omega)
   refine z02 hs λw' hs=>?_
   refine z8 hs ?_
   refine wp_lt ?_
   have e5:IntKind.wrap .i64 ((i:Int)+1)=((i+1:Nat):Int):=by rw [w64 (by omega) (by omega)];omega
   rw [e5]
   refine z0l (n.1.toNat-(i+1)) ?_
   refine ⟨i+1,done++[y],y.key,z',(z3p tm.1 ahead s1).2,rfl,by omega,rfl,by simp [hdl],hyk,?_,hs.sub⟩
   rw [hrec,Option.map_map]
   congr 1
   funext q
   simp
  rintro _ w1 ⟨rs,z,s1,hDD,hs⟩
  have hb:H.b rs=⟨ba.1,pi.1,ep.1,sq.1,k.1,tm.1,z8h,rs⟩:=by rw [<- hHH];rfl
  have hv0:z07 (H.b rs)=z07 ⟨ba.1,pi.1,ep.1,sq.1,k.1,tm.1,z,rs⟩:=by rw [hb];rfl
  refine zl (λq w'=>q=(DD.isNone,())/\Sat w' (slc T.a2 4 z (rs.flatMap z01)::pt a2 (.cells [.int .i64 ba.1,.int .i64 pi.1,.int .i64 ep.1,.int .i64 sq.1,.int .i64 k.1,.int .i64 tm.1,.slice z.a z.len z.cap].toArray T.a0)::pt a1 (.cells zeroC T.a0)::pt a0 (.cells zeroC T.a0)::l)) ?_ ?_
  ·refine zb (zli (p:=p) hs) λ_ w' hs=>?_
   obtain ⟨e,rfl,he,hs⟩:=hs
   refine zd ?_
   refine zg hs ?_
   refine zh (λh5=>?_) λh5=>?_
   ·refine zf ⟨?_,hs.sub⟩
    rw [hDD,if_neg λhh=>h5 (he.2 hh.1)]
    rfl
   ·have h5:s1=some []:=he.1 (Decidable.not_not.1 h5)
    refine zb (z9u ⟨ba.1,pi.1,ep.1,sq.1,k.1,tm.1,z,rs⟩ hs) λ_ w' hs=>?_
    obtain ⟨rfl,hs⟩:=hs
    refine zd ?_
    refine zf ⟨?_,hs.sub⟩
    rw [hDD,<- hv0]
    by_cases h6:z07 (H.b rs)=0
    ·rw [if_pos ⟨h5,h6⟩,h6];rfl
    ·rw [if_neg λhh=>h6 hh.2]
     simpa using h6
  rintro _ w1 ⟨rfl,hs⟩
  refine zh (λh6=>?_) λh6=>?_
  ·exact hfail hs.sub (by simpa using h6)
  ·rw [hDD] at h6
   split at h6
   rotate_left
   ·exact absurd rfl h6
   rename_i h7
   rw [if_pos h7] at hDD
   refine zg hs ?_
   have hs:Sat w1 (slc T.a2 4 z (rs.flatMap z01)::pt a2 (.cells [.int .i64 ba.1,.int .i64 pi.1,.int .i64 ep.1,.int .i64 sq.1,.int .i64 k.1,.int .i64 tm.1,.slice z.a z.len z.cap].toArray T.a0)::pt a1 (.cells zeroC T.a0)::pt a0 (.cells [.int .i64 0,.int .i64 0,.int .i64 0,.int .i64 0,.int .i64 0,.int .i64 0,.slice none 0 0].toArray T.a0)::l):=hs
   refine zm hs λw' hs=>?_
   refine zg hs ?_
   refine ⟨rfl,.inl ⟨H.b rs,z,hDD,?_,?_⟩⟩
   ·rw [hb];rfl
   ·rw [hb];exact hs.sub
end
def shB (base fin:Int):List UInt8:=83::(uI base++uI fin)
def shL (base fin:Int):List UInt8:=z3q (shB base fin)
def frL (b:BatM):List UInt8:=z3q (z2w b)
structure SegA where
 base:Int
 fin:Int
 bs:List BatM
def SegA.file (s:SegA):List UInt8:=shL s.base s.fin++s.bs.flatMap frL
def z0n (bs:List BatM):Int:=match bs.getLast? with
 | none=>0
 | some b=>b.base+zt b
def SegA.reach (s:SegA):Int:=max (max s.base s.fin) (z0n s.bs)
def z61 (x:Int) (rs:List RecM):Int:=rs.foldl (λt r=>max t r.time) x
def z3e (b:BatM):Int:=if b.rs=[] then b.time else z61 (-1) b.rs
def z1g (x:Int) (bs:List BatM):Int:=bs.foldl (λt b=>max t (z3e b)) x
def zy (l:List SegA):Int:=match l.getLast? with
 | none=>0
 | some s=>s.reach
def z0t (l:List SegA):Int:=match l with
 | []=>0
 | s::_=>s.base
def z1w:Int->List BatM->Prop
 | _,[]=>True
 | n,b::bs=>z07 b=0/\b.p=b/\n<=b.base/\z1w (b.base+zt b) bs
structure SegOk (s:SegA):Prop where
 base:0<=s.base/\s.base<=1099511627776
 fin:s.fin=0\/(s.base<s.fin/\s.fin<=1099511627776)
 bs:z1w s.base s.bs
def z0s:Int->List SegA->Prop
 | _,[]=>True
 | n,s::r=>n<=s.base/\SegOk s/\z0s (max s.reach (s.base+1)) r
def z5w (base:Int) (body:List UInt8):Option Int :=
 let a:=z10 (some body)
 let b:=zx a.2
 let c:=zx b.2
 if c.2=some []/\a.1=83/\(b.1:Int)=base/\base<=1099511627776/\c.1<=1099511627776/\(c.1=0\/base<c.1) then some c.1 else none
def z2l:Nat->Int->List UInt8->List BatM × Nat
 | 0,_,_=>([],0)
 | k+1,n,raw=>match z15 raw with
  | none=>([],0)
  | some (body,m)=>match z63 body with
   | none=>([],0)
   | some b=>if b.base<n then ([],0) else (b::(z2l k (b.base+zt b) (raw.drop m)).1,m+(z2l k (b.base+zt b) (raw.drop m)).2)
def z5z (base:Int) (raw:List UInt8):Option (SegA × Nat):=match z15 raw with
 | none=>none
 | some (body,m)=>match z5w base body with
  | none=>none
  | some fin=>some (⟨base,fin,(z2l raw.length base (raw.drop m)).1⟩,m+(z2l raw.length base (raw.drop m)).2)
theorem za7 {bs:List UInt8} (h:bs.length<=262144):(z3q bs).length=bs.length+8:=by
 unfold z3q
 rw [if_neg (by omega),List.length_append,z64]
 show (z3z _++_).length+4=_
 rw [List.length_append,z64]
 omega
theorem zif (base fin:Int):3<=(shB base fin).length/\(shB base fin).length<=21:=by
 have h1:=z18 base
 have h2:=z18 fin
 unfold shB
 rw [List.length_cons,List.length_append]
 omega
theorem z05f (base fin:Int):11<=(shL base fin).length/\(shL base fin).length<=29:=by
 have h:=zif base fin
 unfold shL
 rw [za7 (by omega)]
 omega
theorem z004 {time:Int} {ahead:ByteArray} {r:RecM}:(z6j time ahead r).length<=31+r.key.size+10+r.value.size:=by
 unfold z6j z7c
 have h1:=zjy (r.time-time)
 have h2:=z18 ((z0m (bl ahead) (bl r.key):Nat):Int)
 have h3:=z18 (((r.key.size-z0m (bl ahead) (bl r.key):Nat)):Int)
 have h4:=z18 (r.value.size:Int)
 have h5:=z1i r.key
 have h6:=z1i r.value
 simp only [List.length_append,List.length_cons,List.length_drop]
 split
 ·simp only [List.length_nil];omega
 ·simp only [List.length_append];omega
theorem zdo {time:Int} {n:Nat}:∀ {rs:List RecM} {ahead:ByteArray},(∀ r ∈ rs,r.key.size+r.value.size<=n)->(z2o time ahead rs).length<=rs.length*(41+n)
 | [],_,_=>by simp [z2o]
 | r::rs,ahead,h=>by
  have h1:=z004 (time:=time) (ahead:=ahead) (r:=r)
  have h2:=zdo (time:=time) (n:=n) (rs:=rs) (ahead:=r.key) λx hx=>h x (List.mem_cons_of_mem _ hx)
  have h3:=h r (List.mem_cons_self ..)
  unfold z2o
  rw [List.length_append,List.length_cons,Nat.add_mul]
  omega
theorem z03l {b:BatM} {n:Nat} (h:∀ r ∈ b.rs,r.key.size+r.value.size<=n):2<=(z2w b).length/\(z2w b).length<=62+b.rs.length*(41+n):=by
 have h1:=z18 b.base
 have h2:=z18 b.pid
 have h3:=z18 b.epoch
 have h4:=z18 b.seq
 have h5:=z18 b.time
 have h6:=z18 (b.rs.length:Nat)
 have h7:=zdo (time:=b.time) (ahead:=⟨#[]⟩) h
 unfold z2w
 simp only [List.length_cons,List.length_append]
 split <;> split <;> simp only [List.length_nil,List.length_append] <;> omega
theorem z7d {b:BatM} (hv:z07 b=0):2<=(z2w b).length/\(z2w b).length<=262144:=by
 obtain ⟨h64,hrs⟩:=z1q hv
 have h:=z03l (b:=b) (n:=2048) λr hr=>by
  obtain ⟨h1,h2,-⟩:=z3j (hrs r hr)
  omega
 have:b.rs.length*(41+2048)<=64*(41+2048):=Nat.mul_le_mul_right _ h64
 omega
theorem z6r {b:BatM} (hv:z07 b=0):10<=(frL b).length/\(frL b).length=(z2w b).length+8:=by
 have h:=z7d hv
 unfold frL
 rw [za7 h.2]
 omega
theorem zsb {base fin:Int} (hb:0<=base/\base<=1099511627776) (hf:fin=0\/(base<fin/\fin<=1099511627776)):z5w base (shB base fin)=some fin:=by
 unfold z5w shB
 have e1:z10 (some (83::(uI base++uI fin)))=(83,some (uI base++uI fin)):=rfl
 have e2:zx (some (uI base++uI fin))=(base.toNat,some (uI fin)):=z4v (by omega) _
 have e3:zx (some (uI fin))=(fin.toNat,some []):=by
  have:=z4v (v:=fin.toNat) (by omega) []
  rwa [List.append_nil] at this
 simp only [e1,e2,e3]
 rw [if_pos ⟨trivial,trivial,by omega,by omega,by omega,by omega⟩]
 congr 1
 omega
theorem zja {base fin:Int} {body:List UInt8} (h:z5w base body=some fin):(0<=base/\base<=1099511627776)/\(fin=0\/(base<fin/\fin<=1099511627776))/\body=shB base fin:=by
 unfold z5w at h
 simp only at h
 split at h
 rotate_left
 ·cases h
 rename_i hc
 obtain ⟨h1,h2,h3,h4,h5,h6⟩:=hc
 simp only [Option.some.injEq] at h
 have i1:=z4u h1
 have i2:=z4u i1.2
 have i3:=zcz i2.2
 refine ⟨by omega,by omega,?_⟩
 have e:=i3.2
 rw [h2] at e
 simp only [Option.some.injEq] at e
 rw [e]
 unfold shB uI
 have e1:base.toNat=(zx (z10 (some body)).2).1:=by omega
 have e2:fin.toNat=(zx (zx (z10 (some body)).2).2).1:=by omega
 rw [e1,e2,List.append_nil]
 rfl
theorem z1w.mono {m n:Int} {bs:List BatM} (h:z1w n bs) (hm:m<=n):z1w m bs:=by
 cases bs with
 | nil=>trivial
 | cons b bs=>exact ⟨h.1,h.2.1,by have:=h.2.2.1;omega,h.2.2.2⟩
theorem z1w.valid:∀ {n:Int} {bs:List BatM},z1w n bs->∀ b ∈ bs,z07 b=0/\b.p=b
 | _,b::bs,h,x,hx=>by
  rcases List.mem_cons.1 hx with rfl|hx
  ·exact ⟨h.1,h.2.1⟩
  ·exact h.2.2.2.valid x hx
theorem zw9:z15 []=none:=by
 rw [zw8,if_pos (by simp)]
theorem zhf:∀ {bs:List BatM} {n:Int} {k:Nat} {rest:List UInt8},z1w n bs->bs.length<=k->z15 rest=none->z2l k n (bs.flatMap frL++rest)=(bs,(bs.flatMap frL).length)
 | [],n,0,rest,_,_,_=>rfl
 | [],n,k+1,rest,_,_,hr=>by
  unfold z2l
  rw [List.flatMap_nil,List.nil_append,hr]
  rfl
 | b::bs,n,0,rest,_,hk,_=>by simp at hk
 | b::bs,n,k+1,rest,⟨hv,hp,hn,ho⟩,hk,hr=>by
  have hl:=z7d hv
  have hf:=z6r hv
  unfold z2l
  rw [List.flatMap_cons,List.append_assoc]
  have e:z15 (frL b++(bs.flatMap frL++rest))=some (z2w b,(z2w b).length+8):=z9i hl.2 _
  rw [e]
  simp only
  rw [zix hv]
  simp only
  rw [hp,if_neg (by omega),<- hf.2,List.drop_left,zhf ho (by simpa using hk) hr,List.length_append]
theorem zk3:∀ {k:Nat} {n:Int} {raw:List UInt8},z1w n (z2l k n raw).1/\raw.take (z2l k n raw).2=(z2l k n raw).1.flatMap frL/\(z2l k n raw).2<=raw.length
 | 0,n,raw=>⟨trivial,by simp [z2l],Nat.zero_le _⟩
 | k+1,n,raw=>by
  unfold z2l
  cases hf:z15 raw with
  | none=>exact ⟨trivial,by simp,Nat.zero_le _⟩
  | some q =>
   obtain ⟨body,m⟩:=q
   simp only
   cases hd:z63 body with
   | none=>exact ⟨trivial,by simp,Nat.zero_le _⟩
   | some b =>
    simp only
    by_cases hb:b.base<n
    ·rw [if_pos hb];exact ⟨trivial,by simp,Nat.zero_le _⟩
    rw [if_neg hb]
    obtain ⟨i1,i2,i3⟩:=zk3 (k:=k) (n:=b.base+zt b) (raw:=raw.drop m)
    obtain ⟨d1,d2,d3⟩:=zld hd
    obtain ⟨f1,f2,f3,f4⟩:=z7k hf
    rw [List.length_drop] at i3
    refine ⟨⟨d1,d3,by omega,i1⟩,?_,by simp only;omega⟩
    simp only
    rw [List.take_add,f4,i2,List.flatMap_cons,<- d2]
    rfl
theorem za1:∀ {n:Int} {bs:List BatM},z1w n bs->bs.length*10<=(bs.flatMap frL).length
 | _,[],_=>by simp
 | _,b::bs,⟨h1,_,_,h⟩=>by
  have:=za1 h
  have:=z6r h1
  rw [List.flatMap_cons,List.length_append,List.length_cons]
  omega
theorem z49 (s:SegA):s.file.length=(shL s.base s.fin).length+(s.bs.flatMap frL).length:=by
 unfold SegA.file
 rw [List.length_append]
theorem zxd {s:SegA} (h:SegOk s) {rest:List UInt8} (hr:z15 rest=none):z5z s.base (s.file++rest)=some (s,s.file.length):=by
 have hl:=zif s.base s.fin
 unfold z5z
 have e0:s.file++rest=z3q (shB s.base s.fin)++(s.bs.flatMap frL++rest):=by
  unfold SegA.file shL
  rw [List.append_assoc]
 have e:z15 (s.file++rest)=some (shB s.base s.fin,(shB s.base s.fin).length+8):=by
  rw [e0]
  exact z9i (by omega) _
 rw [e]
 simp only
 rw [zsb h.base h.fin]
 simp only
 have e2:(s.file++rest).drop ((shB s.base s.fin).length+8)=s.bs.flatMap frL++rest:=by
  rw [e0,<- za7 (show (shB s.base s.fin).length<=262144 by omega),List.drop_left]
 have e3:s.bs.length<=(s.file++rest).length:=by
  have:=za1 h.bs
  rw [List.length_append,z49]
  omega
 rw [e2,zhf h.bs e3 hr,z49]
 unfold shL
 rw [za7 (by omega)]
theorem zxc {s:SegA} (h:SegOk s):z5z s.base s.file=some (s,s.file.length):=by
 have:=zxd h zw9
 rwa [List.append_nil] at this
theorem z00a {base:Int} {raw:List UInt8} {s:SegA} {m:Nat} (h:z5z base raw=some (s,m)):SegOk s/\s.base=base/\raw.take m=s.file/\m<=raw.length/\m=s.file.length:=by
 unfold z5z at h
 cases hf:z15 raw with
 | none=>rw [hf] at h;cases h
 | some q =>
  obtain ⟨body,k⟩:=q
  rw [hf] at h
  simp only at h
  cases hh:z5w base body with
  | none=>rw [hh] at h;cases h
  | some fin =>
   rw [hh] at h
   simp only [Option.some.injEq,Prod.mk.injEq] at h
   obtain ⟨rfl,rfl⟩:=h
   obtain ⟨h1,h2,h3⟩:=zja hh
   obtain ⟨i1,i2,i3⟩:=zk3 (k:=raw.length) (n:=base) (raw:=raw.drop k)
   obtain ⟨f1,f2,f3,f4⟩:=z7k hf
   rw [List.length_drop] at i3
   have e:raw.take (k+(z2l raw.length base (raw.drop k)).2)=SegA.file ⟨base,fin,(z2l raw.length base (raw.drop k)).1⟩:=by
    rw [List.take_add,f4,i2,h3]
    rfl
   refine ⟨⟨h1,h2,i1⟩,rfl,e,by omega,?_⟩
   rw [<- e,List.length_take]
   omega
theorem z1w.take:∀ {n:Int} {bs:List BatM} (k:Nat),z1w n bs->z1w n (bs.take k)
 | _,[],k,_=>by simp [z1w]
 | _,b::bs,0,_=>trivial
 | _,b::bs,k+1,⟨h1,h2,h3,h4⟩=>⟨h1,h2,h3,h4.take k⟩
theorem z1x {α:Type} (l:List α) (x:α):(l++[x]).getLast? = some x:=by simp
theorem z5l (bs:List BatM) (b:BatM):z0n (bs++[b])=b.base+zt b:=by
 unfold z0n
 rw [z1x]
theorem zgt (x:Int) (bs:List BatM) (b:BatM):z1g x (bs++[b])=max (z1g x bs) (z3e b):=by
 unfold z1g
 rw [List.foldl_append]
 rfl
theorem z1w.next:∀ {n:Int} {bs:List BatM},0<=n->z1w n bs->(bs≠[]->n<z0n bs)/\(bs=[]->z0n bs=0)/\z0n bs<=1099511627777
 | _,[],_,_=>⟨λh=>absurd rfl h,λ_=>rfl,by decide⟩
 | n,b::bs,hn,⟨h1,h2,h3,h4⟩=>by
  obtain ⟨s1,-,⟨-,hba,-⟩,-,s2⟩:=z16 b h1
  obtain ⟨i1,i2,i3⟩:=h4.next (by omega)
  by_cases hb:bs=[]
  ·subst hb
   have e:z0n [b]=b.base+zt b:=z5l [] b
   rw [e]
   exact ⟨λ_=>by omega,(λh=>by cases h),by omega⟩
  ·have e:z0n (b::bs)=z0n bs:=by
    unfold z0n
    cases bs with
    | nil=>exact absurd rfl hb
    | cons c cs=>rfl
   rw [e]
   have:=i1 hb
   exact ⟨λ_=>by omega,(λh=>by cases h),i3⟩
theorem z6i {s:SegA} (h:SegOk s):s.base<=s.reach/\s.fin<=s.reach/\z0n s.bs<=s.reach/\s.reach<=1099511627777/\(s.bs≠[]->s.base<z0n s.bs):=by
 obtain ⟨i1,i2,i3⟩:=h.bs.next h.base.1
 have h1:=h.base
 have h2:=h.fin
 unfold SegA.reach
 refine ⟨by omega,by omega,by omega,by omega,i1⟩
section
variable {w:World} {l r:List HP} {Q:Post} {S:World->Prop}
theorem z7r {P:Program} {t:TypeId} {sz:Nat} {α:Type} {enc:α->List Value} {n:Nat} {ps:Array (Nat × Value)} {el:TypeId} {bytes:Nat} {k:Sl->Prog} (hs:Sat w l) [ht:SlT P t el sz bytes] [hE:EncN enc sz] (xs:List α)
  (h:∀ x w',Sat w' (slc el sz x (xs.flatMap enc)::l)->S w'/\(k x).wp P S w' Q) (hc:z47 P t n ps=some (el,(xs.flatMap enc).toArray):=by kernel_rfl) (hn:xs.length=n:=by rfl) :
  (Prog.act (Instr.buildSlice t n ps) sL (u1 k)).wp P S w Q:=by
 have hp:=hs.push (o:=.cells (xs.flatMap enc).toArray el) (w':={ w with heap:=w.heap.push (.cells (xs.flatMap enc).toArray el) }) rfl
 have hsz:(xs.flatMap enc).toArray.size=n*sz:=by rw [List.size_toArray,z2x,hn]
 have h1:Sat { w with heap:=w.heap.push (.cells (xs.flatMap enc).toArray el) } (slc el sz ⟨some ⟨w.heap.size,0,none⟩,n,n⟩ (xs.flatMap enc)::l):=by
  have:=hp.slc_of (sz:=sz) hsz
  rwa [List.toList_toArray] at this
 have h2:=h ⟨some ⟨w.heap.size,0,none⟩,n,n⟩ _ h1
 exact ⟨(⟨some ⟨w.heap.size,0,none⟩,n,n⟩,()),_,zh8 hc,h2.1,h2.2⟩
theorem z05o {P:Program} {α:Type} {enc:α->List Value} {xs ys:List α} {t tx ty el el':TypeId} {sz bytes sz' bytes':Nat} {x y:Sl} {k:Sl->Prog} (hs:Sat w l) [ht:SlT P t el sz bytes] [htx:SlT P tx el' sz' bytes'] [hf:FocS l x el sz (xs.flatMap enc) r] [hy:FocR l y sz (ys.flatMap enc)] [hE:EncN enc sz]
  (h:∀ z w',Sat w' (slc el sz z ((xs++ys).flatMap enc)::r)->S w'/\(k z).wp P S w' Q) (hb:(xs.length+ys.length)*bytes<=140737488355328/\xs.length+ys.length<=9223372036854775807:=by omega) :
  (Prog.act (app t tx ty (.slice x.a x.len x.cap) (.slice y.a y.len y.cap)) sL (u1 k)).wp P S w Q:=by
 have h1:x.len=xs.length:=(hs.focS x).rd.len hE.len hE.pos
 have h2:=hs.slen y (xs:=ys) (enc:=enc)
 refine zt6 hs (hy.rd w hs) (λu hu=>?_) (by rw [h1,h2];exact hb.1) (by rw [h1,h2];exact hb.2) λz w' _ hs'=>h z w' ?_
 ·obtain ⟨a,-,hu⟩:=List.mem_flatMap.1 hu
  exact hE.one a u hu
 ·rw [List.flatMap_append];exact hs'
end
abbrev cB (b:BatM):Array Value:=#[.int .i64 b.base,.int .i64 b.pid,.int .i64 b.epoch,.int .i64 b.seq,.int .i64 b.kind,.int .i64 b.time,.slice b.x.a b.x.len b.x.cap]
abbrev cR (r:RecM):Array Value:=#[.string r.key,.string r.value,.bool r.gone,.int .i64 r.time]
theorem zh6 (time:Int):∀ (rs:List RecM) (ahead:ByteArray) (r:RecM),z2o time ahead (rs++[r])=z2o time ahead rs++z6j time (match rs.getLast? with|none=>ahead|some x=>x.key) r
 | [],ahead,r=>by simp [z2o]
 | a::rs,ahead,r=>by
  show z6j time ahead a++z2o time a.key (rs++[r])=z6j time ahead a++z2o time a.key rs++_
  rw [zh6 time rs a.key r,List.append_assoc]
  congr 3
  cases rs with
  | nil=>rfl
  | cons b bs=>rfl
theorem z057 {b:BatM} (hv:z07 b=0) (i:Nat):(z2o b.time ⟨#[]⟩ (b.rs.take i)).length<=133696:=by
 obtain ⟨h64,hrs⟩:=z1q hv
 have h1:=zdo (time:=b.time) (n:=2048) (rs:=b.rs.take i) (ahead:=⟨#[]⟩) λr hr=>by
  obtain ⟨h1,h2,-⟩:=z3j (hrs r (List.mem_of_mem_take hr))
  omega
 have h2:(b.rs.take i).length<=64:=by rw [List.length_take];omega
 have:(b.rs.take i).length*(41+2048)<=64*(41+2048):=Nat.mul_le_mul_right _ h2
 omega
def hdL (b:BatM):List UInt8:=1::UInt8.ofNat b.kind.toNat::(uI b.base++uI b.pid)
def z8e (b:BatM):List UInt8:=if b.pid>0 then uI b.epoch++(if z04 b then [] else uI b.seq) else []
theorem zpw (b:BatM):z2w b=(hdL b++z8e b++uI b.time)++if z04 b then [] else uI b.rs.length++z2o b.time ⟨#[]⟩ b.rs:=by
 unfold z2w hdL z8e
 simp only [List.cons_append,List.append_assoc]
section
variable {w:World} {l r:List HP}
set_option maxHeartbeats 1000000 in
theorem zyi (b:BatM) [hb:FocR l b.x 4 (b.rs.flatMap z01)] (hs:Sat w l) :
  Ret P F.a98 #[.agg (zp b).toArray] w λvs w'=>(z07 b≠0/\vs=[.slice none 0 0,.int .i64 (z07 b)]/\Sat w' l)\/(z07 b=0/\∃ z:Sl,vs=[z.v,.int .i64 0]/\Sat w' (slc T.a58 1 z ((z2w b).flatMap zi)::l)) :=
 zvk b.base b.pid b.epoch b.seq b.kind b.time b.x <| by
  delta z0a3 AC AI AJ AL AM AN AY AZ Ab Ac Ad Ae Af Ag Ai Aj Ak Ao Ap Aq As Aw Bb Be Bf Bz
  have hlx:=hs.slen b.x (xs:=b.rs) (enc:=z01)
  refine zq hs λa0 w' hs=>?_
  refine zg hs ?_
  refine zb (z9u b hs) λ_ w' hs=>?_
  obtain ⟨rfl,hs⟩:=hs
  refine zd ?_
  refine wp_lt ?_
  refine zh (λh=>?_) λh=>?_
  ·refine wp_lt ?_
   exact ⟨rfl,.inl ⟨h,rfl,hs.tail⟩⟩
  have hv:z07 b=0:=Decidable.not_not.1 h
  obtain ⟨-,-,⟨hk,hba,hpi,hep,hsq,htm⟩,hfit,-⟩:=z16 b hv
  obtain ⟨h64,hrs⟩:=z1q hv
  refine zl (λq w'=>∃ z:Sl,q=(z,())/\Sat w' (slc T.a58 1 z ((hdL b).flatMap zi)::pt a0 (.cells (cB b) T.a0)::l)) ?_ ?_
  ·have ek:IntKind.wrap .u8 b.kind=(((UInt8.ofNat b.kind.toNat).toNat:Nat):Int):=by
    rw [wu8 (by omega) (by omega),UInt8.toNat_ofNat'];omega
   have hul1:=z18 b.base
   have hul2:=z18 b.pid
   refine zv hs λw' hs=>?_
   refine z14 hs ?_
   refine z14 hs ?_
   refine z14 hs ?_
   have fin:∀ {w':World} {z1 z2 z3:Sl},Sat w' (slc T.a58 1 z1 (([1,UInt8.ofNat b.kind.toNat]:List UInt8).flatMap zi)::slc T.a58 1 z2 ((uI b.base).flatMap zi)::slc T.a58 1 z3 ((uI b.pid).flatMap zi)::pt a0 (.cells (cB b) T.a0)::l) ->
     (Prog.act (Instr.buildSlice T.a47 3 #[(0,z1.v),(1,z2.v),(2,z3.v)]) sL (u1 λl17=>.call F.a176 [l17.v] sL (u1 λl18=>.untick <| .done 1 [l18.v]))).wp P (λ_=>True) w' (Post.catch (λe vs w'=>e=0/\((z07 b≠0/\vs=[.slice none 0 0,.int .i64 (z07 b)]/\Sat w' l)\/(z07 b=0/\∃ z:Sl,vs=[z.v,.int .i64 0]/\Sat w' (slc T.a58 1 z ((z2w b).flatMap zi)::l)))) 1 λvs w'=>∃ x,vs=z19 [.one .slc] x/\∃ z:Sl,x=(z,())/\Sat w' (slc T.a58 1 z ((hdL b).flatMap zi)::pt a0 (.cells (cB b) T.a0)::l)):=by
    intro w' z1 z2 z3 hs
    refine z7s hs (enc:=z0c) [z1,z2,z3] λz4 w' hs=>?_
    refine zb (zn3 z4 z1 z2 z3 [1,UInt8.ofNat b.kind.toNat] (uI b.base) (uI b.pid) (by simp only [List.length_cons,List.length_nil];omega) hs) λ_ w' hs=>?_
    obtain ⟨z5,rfl,hs⟩:=hs
    refine zd ?_
    refine ze ?_
    refine zf ⟨z5,rfl,?_⟩
    have e:[1,UInt8.ofNat b.kind.toNat]++(uI b.base++uI b.pid)=hdL b:=by unfold hdL;simp
    rw [e] at hs
    exact hs.sub
   rw [ek]
   refine zik ?_ ?_
   ·refine z7r hs (enc:=zi) [1,UInt8.ofNat b.kind.toNat] λz1 w' hs=>⟨(by first|trivial|(repeat (first|exact trivial|exact λ_=>z08 hs|exact λ_=>z0f hs|refine And.intro ?_ ?_))),?_⟩
    refine zb (z3v b.base (by omega) hs) λ_ w' hs=>?_
    obtain ⟨z2,rfl,hs⟩:=hs
    refine zd ?_ (by first|trivial|(repeat (first|exact trivial|exact λ_=>z08 hs|exact λ_=>z0f hs|refine And.intro ?_ ?_)))
    refine zb (z3v b.pid (by omega) hs) λ_ w' hs=>?_
    obtain ⟨z3,rfl,hs⟩:=hs
    refine zd ?_ (by first|trivial|(repeat (first|exact trivial|exact λ_=>z08 hs|exact λ_=>z0f hs|refine And.intro ?_ ?_)))
    refine ze ?_
    exact fin hs.sub
   ·refine zb (z3v b.base (by omega) hs) λ_ w' hs=>?_
    obtain ⟨z2,rfl,hs⟩:=hs
    refine zd ?_ (by first|trivial|(repeat (first|exact trivial|exact λ_=>z08 hs|exact λ_=>z0f hs|refine And.intro ?_ ?_)))
    refine zik ?_ ?_
    ·refine z7r hs (enc:=zi) [1,UInt8.ofNat b.kind.toNat] λz1 w' hs=>⟨(by first|trivial|(repeat (first|exact trivial|exact λ_=>z08 hs|exact λ_=>z0f hs|refine And.intro ?_ ?_))),?_⟩
     refine zb (z3v b.pid (by omega) hs) λ_ w' hs=>?_
     obtain ⟨z3,rfl,hs⟩:=hs
     refine zd ?_ (by first|trivial|(repeat (first|exact trivial|exact λ_=>z08 hs|exact λ_=>z0f hs|refine And.intro ?_ ?_)))
     refine ze ?_
     exact fin hs.sub
    ·refine zb (z3v b.pid (by omega) hs) λ_ w' hs=>?_
     obtain ⟨z3,rfl,hs⟩:=hs
     refine zd ?_ (by first|trivial|(repeat (first|exact trivial|exact λ_=>z08 hs|exact λ_=>z0f hs|refine And.intro ?_ ?_)))
     refine z7r hs (enc:=zi) [1,UInt8.ofNat b.kind.toNat] λz1 w' hs=>⟨(by first|trivial|(repeat (first|exact trivial|exact λ_=>z08 hs|exact λ_=>z0f hs|refine And.intro ?_ ?_))),?_⟩
     refine ze ?_
     exact fin hs.sub
  rintro _ w1 ⟨z,rfl,hs⟩
  have hdl:(hdL b).length<=22:=by
   have hul1:=z18 b.base
   have hul2:=z18 b.pid
   unfold hdL
   simp only [List.length_cons,List.length_append]
   omega
  refine z8 hs ?_
  refine zl (λq w'=>∃ z:Sl,q=(z,())/\Sat w' (slc T.a58 1 z ((hdL b++z8e b).flatMap zi)::pt a0 (.cells (cB b) T.a0)::l)) ?_ ?_
  ·refine zh (λh2=>?_) λh2=>?_
   rotate_left
   ·refine zf ⟨z,rfl,?_⟩
    have e:z8e b=[]:=by unfold z8e;rw [if_neg h2]
    rw [e,List.append_nil]
    exact hs
   have hul:=z18 b.epoch
   refine z8 hs ?_
   refine zb (z3v b.epoch (by omega) hs) λ_ w' hs=>?_
   obtain ⟨z2,rfl,hs⟩:=hs
   refine zd ?_
   refine wp_app' (xs:=hdL b) (ys:=uI b.epoch) (enc:=zi) hs λz3 w' hs=>?_
   refine zg hs ?_
   refine zb (z6w b hs) λ_ w' hs=>?_
   obtain ⟨rfl,hs⟩:=hs
   refine zd ?_
   refine z4m ?_
   refine zh (λh3=>?_) λh3=>?_
   ·have h3:z04 b=false:=by simpa using h3
    have hul2:=z18 b.seq
    refine z8 hs ?_
    refine zb (z3v b.seq (by omega) hs) λ_ w' hs=>?_
    obtain ⟨z4,rfl,hs⟩:=hs
    refine zd ?_
    refine wp_app' (xs:=hdL b++uI b.epoch) (ys:=uI b.seq) (enc:=zi) hs (λz5 w' hs=>?_) (by rw [List.length_append];omega)
    refine z59 ?_
    refine zf ⟨z5,rfl,?_⟩
    have e:z8e b=uI b.epoch++uI b.seq:=by unfold z8e;rw [if_pos h2,h3];rfl
    rw [e,<- List.append_assoc]
    exact hs.sub
   ·have h3:z04 b=true:=by simpa using h3
    refine z59 ?_
    refine zf ⟨z3,rfl,?_⟩
    have e:z8e b=uI b.epoch:=by unfold z8e;rw [if_pos h2,h3,if_pos rfl,List.append_nil]
    rw [e]
    exact hs.sub
  rintro _ w2 ⟨z2,rfl,hs⟩
  have hml:(z8e b).length<=20:=by
   have hul1:=z18 b.epoch
   have hul2:=z18 b.seq
   unfold z8e
   split
   ·split
    ·simp only [List.length_append,List.length_nil];omega
    ·simp only [List.length_append];omega
   ·simp
  have htl:=z18 b.time
  refine z8 hs ?_
  refine zb (z3v b.time (by omega) hs) λ_ w' hs=>?_
  obtain ⟨z3,rfl,hs⟩:=hs
  refine zd ?_
  refine wp_app' (xs:=hdL b++z8e b) (ys:=uI b.time) (enc:=zi) hs (λz4 w' hs=>?_) (by rw [List.length_append];omega)
  refine zg hs ?_
  refine zb (z6w b hs) λ_ w' hs=>?_
  obtain ⟨rfl,hs⟩:=hs
  refine zd ?_
  refine zh (λh3=>?_) λh3=>?_
  ·refine ⟨rfl,.inr ⟨hv,z4,rfl,?_⟩⟩
   rw [zpw,h3,if_pos rfl,List.append_nil]
   exact hs.sub
  have h3:z04 b=false:=by simpa using h3
  have hcl:=z18 ((b.rs.length:Nat):Int)
  refine z8 hs ?_
  rw [hlx]
  refine zb (z3v ((b.rs.length:Nat):Int) (by omega) hs) λ_ w' hs=>?_
  obtain ⟨z5,rfl,hs⟩:=hs
  refine zd ?_
  generalize hX:hdL b++z8e b++uI b.time=X at hs
  have hXl:X.length<=60:=by rw [<- hX];simp only [List.length_append];omega
  refine wp_app' (xs:=X) (ys:=uI (b.rs.length:Nat)) (enc:=zi) hs (λz6 w' hs=>?_) (by omega)
  refine z8 hs ?_
  generalize hY:X++uI ((b.rs.length:Nat):Int)=Y at hs
  have hYl:Y.length<=80:=by rw [<- hY];simp only [List.length_append];omega
  have hfin:z2w b=Y++z2o b.time ⟨#[]⟩ b.rs:=by
   rw [zpw,hX,h3,if_neg (by simp),<- hY,List.append_assoc]
  refine zl (λq w'=>∃ z:Sl,q=(z,())/\Sat w' (slc T.a58 1 z ((z2w b).flatMap zi)::l)) ?_ ?_
  rotate_left
  ·rintro _ w' ⟨z,rfl,hs⟩
   exact ⟨rfl,.inr ⟨hv,z,rfl,hs⟩⟩
  have hrec:=z057 hv
  refine z03 (λm v w=>∃ (i:Nat) (z:Sl),v=(z,((match (b.rs.take i).getLast? with|none=>(⟨#[]⟩:ByteArray)|some x=>x.key),((i:Int),())))/\i<=b.rs.length/\b.rs.length-i=m/\Sat w (slc T.a58 1 z ((Y++z2o b.time ⟨#[]⟩ (b.rs.take i)).flatMap zi)::pt a0 (.cells (cB b) T.a0)::l)) b.rs.length ⟨0,z6,rfl,by omega,rfl,by
   rw [List.take_zero]
   show Sat _ (slc T.a58 1 z6 ((Y++[]).flatMap zi)::_)
   rw [List.append_nil]
   exact hs.sub⟩ ?_
  clear hs
  rintro m _ w ⟨i,z,rfl,hi,hm,hs⟩
  refine zh (λhc=>?_) λhc=>?_
  rotate_left
  ·refine zo (zf ⟨z,rfl,?_⟩)
   have hc:¬ ((i:Int)<((b.x.len:Nat):Int)):=hc
   have hi2:i=b.rs.length:=by omega
   rw [hi2,List.take_length,<- hfin] at hs
   exact hs.sub
  have hc:((i:Int)<((b.x.len:Nat):Int)):=hc
  have hil:i<b.rs.length:=by omega
  refine z1s hs (xs:=b.rs) (enc:=z01) i hil ?_
  refine zn hs λa1 w' hs=>?_
  refine zm hs λw' hs=>?_
  refine z8 hs ?_
  obtain ⟨hr1,hr2,hr3,hr4⟩:=z3j (hrs b.rs[i] (List.getElem_mem hil))
  have hah:∀ x,(match (b.rs.take i).getLast? with|none=>(⟨#[]⟩:ByteArray)|some x=>x.key)=x->x.size<=1024:=by
   intro x hx
   cases hq:(b.rs.take i).getLast? with
   | none=>rw [hq] at hx;subst hx;show 0<=1024;omega
   | some y =>
    rw [hq] at hx
    subst hx
    exact (z3j (hrs y (List.mem_of_mem_take (List.mem_of_getLast? hq)))).1
  have hsn:=zh6 b.time (b.rs.take i) ⟨#[]⟩ b.rs[i]
  rw [<- List.take_succ_eq_append_getElem hil] at hsn
  have hln:=hrec (i+1)
  rw [hsn,List.length_append] at hln
  have hlast:(match (b.rs.take (i+1)).getLast? with|none=>(⟨#[]⟩:ByteArray)|some x=>x.key)=b.rs[i].key:=by
   rw [List.take_succ_eq_append_getElem hil,z1x]
  generalize (match (b.rs.take i).getLast? with|none=>(⟨#[]⟩:ByteArray)|some x=>x.key)=ahead at *
  have hah:=hah ahead rfl
  refine zb (zpt ahead b.rs[i].key (by omega) hs) λ_ w' hs=>?_
  obtain ⟨rfl,hs⟩:=hs
  refine zd ?_
  refine wp_lt ?_
  have hal:=zai (bl ahead) (bl b.rs[i].key)
  rw [z1i,z1i] at hal
  have hrl:z6j b.time ahead b.rs[i]=(z5q (b.rs[i].time-b.time)++([z8v b.rs[i].gone]++(uI (z0m (bl ahead) (bl b.rs[i].key):Nat)++z7c ahead b.rs[i].key)))++if b.rs[i].gone then [] else uI b.rs[i].value.size++bl b.rs[i].value:=by
   unfold z6j
   simp only [List.append_assoc,List.cons_append,List.nil_append,List.singleton_append]
  generalize hZ:Y++z2o b.time ⟨#[]⟩ (b.rs.take i)=Z at *
  have hZl:Z.length<=200000:=by rw [<- hZ,List.length_append];omega
  have htl1:=zjy (b.rs[i].time-b.time)
  have htl2:=z18 ((z0m (bl ahead) (bl b.rs[i].key):Nat):Int)
  have htl3:(z7c ahead b.rs[i].key).length<=1034:=by
   unfold z7c
   have:=z18 (((b.rs[i].key.size-z0m (bl ahead) (bl b.rs[i].key):Nat)):Int)
   rw [List.length_append,List.length_drop,z1i]
   omega
  refine zl (λq w'=>∃ z:Sl,q=(z,())/\Sat w' (slc T.a58 1 z ((Z++(z5q (b.rs[i].time-b.time)++([z8v b.rs[i].gone]++(uI (z0m (bl ahead) (bl b.rs[i].key):Nat)++z7c ahead b.rs[i].key)))).flatMap zi)::pt a1 (.cells (cR b.rs[i]) T.a2)::pt a0 (.cells (cB b) T.a0)::l)) ?_ ?_
  ·refine zv hs λw' hs=>?_
   refine z8 hs ?_
   refine z8 hs ?_
   refine z14 hs ?_
   refine z14 hs ?_
   refine wp_must (by omega) ?_
   rw [w64 (by omega) (by omega)]
   refine zb (z05v (b.rs[i].time-b.time) (by omega) hs) λ_ w' hs=>?_
   obtain ⟨u1_,rfl,hs⟩:=hs
   refine zd ?_ (by first|trivial|(repeat (first|exact trivial|exact λ_=>z08 hs|exact λ_=>z0f hs|refine And.intro ?_ ?_)))
   refine zb (z05n b.rs[i].gone hs) λ_ w' hs=>?_
   obtain ⟨u2_,rfl,hs⟩:=hs
   refine zd ?_ (by first|trivial|(repeat (first|exact trivial|exact λ_=>z08 hs|exact λ_=>z0f hs|refine And.intro ?_ ?_)))
   refine zb (z3v ((z0m (bl ahead) (bl b.rs[i].key):Nat):Int) (by omega) hs) λ_ w' hs=>?_
   obtain ⟨u3_,rfl,hs⟩:=hs
   refine zd ?_ (by first|trivial|(repeat (first|exact trivial|exact λ_=>z08 hs|exact λ_=>z0f hs|refine And.intro ?_ ?_)))
   refine ze ?_
   have ext:(ByteArray.extract b.rs[i].key (z0m (bl ahead) (bl b.rs[i].key)) b.rs[i].key.size).size=b.rs[i].key.size-z0m (bl ahead) (bl b.rs[i].key):=by rw [ByteArray.size_extract];omega
   have exb:bl (ByteArray.extract b.rs[i].key (z0m (bl ahead) (bl b.rs[i].key)) b.rs[i].key.size)=(bl b.rs[i].key).drop (z0m (bl ahead) (bl b.rs[i].key)):=by
    unfold bl
    rw [ByteArray.data_extract,Array.toList_extract,List.extract_eq_take_drop]
    exact List.take_of_length_le (by rw [List.length_drop];exact Nat.le_refl _)
   rw [Int.toNat_natCast]
   refine zb (zro (ByteArray.extract b.rs[i].key (z0m (bl ahead) (bl b.rs[i].key)) b.rs[i].key.size) (by omega) hs) λ_ w' hs=>?_
   obtain ⟨u4_,rfl,hs⟩:=hs
   refine zd ?_
   rw [ext,exb] at hs
   have hs:Sat _ (slc T.a58 1 u4_ ((z7c ahead b.rs[i].key).flatMap zi)::_):=hs
   refine z7s hs (enc:=z0c) [u1_,u2_,u3_,u4_] λu5_ w' hs=>?_
   refine zb (z00o u5_ u1_ u2_ u3_ u4_ (z5q (b.rs[i].time-b.time)) [z8v b.rs[i].gone] (uI (z0m (bl ahead) (bl b.rs[i].key):Nat)) (z7c ahead b.rs[i].key) (by simp only [List.length_cons,List.length_nil];omega) hs) λ_ w' hs=>?_
   obtain ⟨u6_,rfl,hs⟩:=hs
   refine zd ?_
   refine wp_app' (xs:=Z) (ys:=z5q (b.rs[i].time-b.time)++([z8v b.rs[i].gone]++(uI (z0m (bl ahead) (bl b.rs[i].key):Nat)++z7c ahead b.rs[i].key))) (enc:=zi) hs (λz5 w' hs=>?_) (by simp only [List.length_append,List.length_cons,List.length_nil];omega)
   refine ze ?_
   refine zf ⟨z5,rfl,?_⟩
   exact hs.sub
  rintro _ w3 ⟨z5,rfl,hs⟩
  refine z8 hs ?_
  refine zl (λq w'=>∃ z:Sl,q=(z,())/\Sat w' (slc T.a58 1 z ((Z++z6j b.time ahead b.rs[i]).flatMap zi)::pt a1 (.cells (cR b.rs[i]) T.a2)::pt a0 (.cells (cB b) T.a0)::l)) ?_ ?_
  ·refine zh (λh5=>?_) λh5=>?_
   ·have h5:b.rs[i].gone=false:=by simpa using h5
    refine z8 hs ?_
    refine zb (zro b.rs[i].value (by omega) hs) λ_ w' hs=>?_
    obtain ⟨u,rfl,hs⟩:=hs
    refine zd ?_
    have hvl:=z18 ((b.rs[i].value.size:Nat):Int)
    have hvs:=z1i b.rs[i].value
    refine wp_app' (xs:=Z++(z5q (b.rs[i].time-b.time)++([z8v b.rs[i].gone]++(uI (z0m (bl ahead) (bl b.rs[i].key):Nat)++z7c ahead b.rs[i].key)))) (ys:=uI (b.rs[i].value.size:Nat)++bl b.rs[i].value) (enc:=zi) hs (λz7 w' hs=>?_) (by simp only [List.length_append,List.length_cons,List.length_nil];omega)
    refine zf ⟨z7,rfl,?_⟩
    rw [hrl,if_neg (by rw [h5];simp),<- List.append_assoc]
    exact hs.sub
   ·have h5:b.rs[i].gone=true:=by simpa using h5
    refine zf ⟨z5,rfl,?_⟩
    rw [hrl,if_pos h5,List.append_nil]
    exact hs.sub
  rintro _ w4 ⟨z7,rfl,hs⟩
  refine z8 hs ?_
  refine wp_lt ?_
  have e5:IntKind.wrap .i64 ((i:Int)+1)=((i+1:Nat):Int):=by rw [w64 (by omega) (by omega)];omega
  rw [e5]
  refine z0l (b.rs.length-(i+1)) ?_
  refine ⟨i+1,z7,by rw [hlast],by omega,rfl,?_⟩
  rw [hsn,<- List.append_assoc,hZ]
  exact hs.sub
end
def zkl (b:BatM) (k:Nat):BatM:=⟨b.base+k,b.pid,b.epoch,if b.pid>0 then b.seq+k else b.seq,b.kind,b.time,b.x,b.rs.drop k⟩
def z0k (off:Int) (b:BatM):Option BatM:=if z07 b≠0\/off>=z1d b then none else if z04 b=true\/off<=b.base then some b else some (zkl b (off-b.base).toNat)
def rsP (b:BatM):HP:=slc T.a2 4 b.x (b.rs.flatMap z01)
def z0i (bs:List BatM):HP:=HP.all (bs.map rsP)
section
variable {w:World} {l r:List HP}
theorem zr1 (b:BatM) [hb:FocR l b.x 4 (b.rs.flatMap z01)] (hlen:b.rs.length<=1000000) (hs:Sat w l):Ret P F.a96 #[.agg (zp b).toArray] w λvs w'=>∃ z:Sl,vs=[.agg (zp (b.at z)).toArray]/\Sat w' (slc T.a2 4 z (b.rs.flatMap z01)::l) :=
 zvi b.base b.pid b.epoch b.seq b.kind b.time b.x <| by
  delta z0a1 AI AJ AL AM Ad Af An Ap As
  refine zq hs λa0 w' hs=>?_
  refine zn hs λa1 w' hs=>?_
  refine z8 hs ?_
  have hs:Sat w' (slc T.a2 4 ⟨none,0,0⟩ (([]:List RecM).flatMap z01)::_):=hs.slc_nil
  refine wp_app' (x:=⟨none,0,0⟩) (xs:=([]:List RecM)) (ys:=b.rs) (enc:=z01) hs (λz w' hs=>?_) (by simp only [List.length_nil];omega)
  rw [List.nil_append] at hs
  refine z02 hs λw' hs=>?_
  refine zg hs ?_
  refine zm hs λw' hs=>?_
  refine zg hs ?_
  refine ⟨rfl,z,rfl,?_⟩
  exact hs.sub
theorem z058 (b:BatM) (k:Nat) (hk:k<=b.rs.length) (hcap:b.x.len<=b.x.cap) (hv:z07 b=0) [hb:FocR l b.x 4 (b.rs.flatMap z01)] (hs:Sat w l):Ret P F.a109 #[.agg (zp b).toArray,.int .i64 (k:Int),.int .i64 (b.x.len:Nat)] w λvs w'=>∃ z:Sl,vs=[.agg (zp ((zkl b k).at z)).toArray]/\Sat w' (slc T.a2 4 z ((b.rs.drop k).flatMap z01)::l) :=
 znt b.base b.pid b.epoch b.seq b.kind b.time b.x _ _ <| by
  delta z01l AI AJ AK AL AM Ab Ac Ad Af Ak An Ao Ap As
  have hl:=hs.slen b.x (xs:=b.rs) (enc:=z01)
  obtain ⟨h64,-⟩:=z1q hv
  obtain ⟨-,-,⟨-,hba,hpi,-,hsq,-⟩,-,-⟩:=z16 b hv
  refine zq hs λa0 w' hs=>?_
  refine zn hs λa1 w' hs=>?_
  refine zg hs ?_
  refine zn hs λa9 w' hs=>?_
  refine zm hs λw' hs=>?_
  refine z8 hs ?_
  refine wp_must (by omega) ?_
  rw [Int.toNat_natCast,Int.toNat_natCast]
  have hf:FocR (pt a9 (.cells #[.int .i64 b.base,.int .i64 b.pid,.int .i64 b.epoch,.int .i64 b.seq,.int .i64 b.kind,.int .i64 b.time,.slice b.x.a b.x.len b.x.cap] T.a0)::pt a1 (.cells #[.int .i64 0,.int .i64 0,.int .i64 0,.int .i64 0,.int .i64 0,.int .i64 0,.slice none 0 0] T.a0)::pt a0 (.cells #[.int .i64 b.base,.int .i64 b.pid,.int .i64 b.epoch,.int .i64 b.seq,.int .i64 b.kind,.int .i64 b.time,.slice b.x.a b.x.len b.x.cap] T.a0)::l) ⟨z0q b.x.a 4 k b.x.cap,b.x.len-k,b.x.cap-k⟩ 4 ((b.rs.drop k).flatMap z01):=FocR.post hcap
  have hs:Sat w' (slc T.a2 4 ⟨none,0,0⟩ (([]:List RecM).flatMap z01)::_):=hs.slc_nil
  refine wp_app' (x:=⟨none,0,0⟩) (y:=⟨z0q b.x.a 4 k b.x.cap,b.x.len-k,b.x.cap-k⟩) (xs:=([]:List RecM)) (ys:=b.rs.drop k) (enc:=z01) hs (λz w' hs=>?_) (by simp only [List.length_nil,List.length_drop];omega)
  rw [List.nil_append] at hs
  refine z02 hs λw' hs=>?_
  refine z8 hs ?_
  rw [w64 (by omega) (by omega)]
  refine z02 hs λw' hs=>?_
  refine z8 hs ?_
  refine zl (λ_ w'=>Sat w' (pt a9 (.cells [.int .i64 (b.base+k),.int .i64 b.pid,.int .i64 b.epoch,.int .i64 (if b.pid>0 then b.seq+k else b.seq),.int .i64 b.kind,.int .i64 b.time,.slice z.a z.len z.cap].toArray T.a0)::slc T.a2 4 z ((b.rs.drop k).flatMap z01)::pt a1 (.cells #[.int .i64 0,.int .i64 0,.int .i64 0,.int .i64 0,.int .i64 0,.int .i64 0,.slice none 0 0] T.a0)::l)) ?_ ?_
  ·refine zh (λh=>?_) λh=>?_
   ·refine z8 hs ?_
    rw [w64 (by omega) (by omega)]
    refine z02 hs λw' hs=>?_
    refine zf ?_
    rw [if_pos h]
    exact hs.sub
   ·refine zf ?_
    rw [if_neg h]
    exact hs.sub
  clear hs
  rintro _ w2 hs
  refine zg hs ?_
  refine zm hs λw' hs=>?_
  refine zg hs ?_
  refine ⟨rfl,z,rfl,?_⟩
  exact hs.sub
theorem z047 (b:BatM) (off:Int) (ho : -9223372036854775808<=off/\off<9223372036854775808) (hcap:b.x.len<=b.x.cap) [hb:FocR l b.x 4 (b.rs.flatMap z01)] (hs:Sat w l):Ret P F.a100 #[.agg (zp b).toArray,.int .i64 off] w λvs w' =>
  (z0k off b=none/\vs=[.agg (zp zte).toArray,.bool false]/\Sat w' l)\/(∃ (c:BatM) (z:Sl),z0k off b=some c/\vs=[.agg (zp (c.at z)).toArray,.bool true]/\Sat w' (slc T.a2 4 z (c.rs.flatMap z01)::l)) :=
 znk b.base b.pid b.epoch b.seq b.kind b.time b.x off <| by
  delta z01c AC AI AJ AL AM Ab Ac Ad Af Ag Ak Ao As Au Av Aw Ay Bc Bo Bs
  have hl:=hs.slen b.x (xs:=b.rs) (enc:=z01)
  refine zq hs λa0 w' hs=>?_
  refine zn hs λa1 w' hs=>?_
  refine zl (λq w'=>q=(decide (z07 b≠0\/off>=z1d b),())/\Sat w' (pt a1 (.cells #[.int .i64 0,.int .i64 0,.int .i64 0,.int .i64 0,.int .i64 0,.int .i64 0,.slice none 0 0] T.a0)::pt a0 (.cells (cB b) T.a0)::l)) ?_ ?_
  ·refine zg hs ?_
   refine zb (z9u b hs) λ_ w' hs=>?_
   obtain ⟨rfl,hs⟩:=hs
   refine zd ?_
   refine zg hs ?_
   refine zh (λh=>?_) λh=>?_
   ·exact zf ⟨by rw [decide_eq_true (.inl h)],hs⟩
   ·refine zb (z9r b hs) λ_ w' hs=>?_
    obtain ⟨rfl,hs⟩:=hs
    refine zd ?_
    refine wp_lt ?_
    refine zf ⟨?_,hs⟩
    rw [decide_eq_decide.2 (show (z07 b≠0\/off>=z1d b)↔off>=z1d b from ⟨λhh=>hh.resolve_left h,.inr⟩)]
  rintro _ w2 ⟨rfl,hs⟩
  refine zh (λh=>?_) λh=>?_
  ·have h:z07 b≠0\/off>=z1d b:=by simpa using h
   refine zm hs λw' hs=>?_
   refine zg hs ?_
   refine ⟨rfl,.inl ⟨by unfold z0k;rw [if_pos h],rfl,hs.tail.tail⟩⟩
  have h:¬ (z07 b≠0\/off>=z1d b):=by simpa using h
  have hv:z07 b=0:=Decidable.byContradiction λhh=>h (.inl hh)
  have hno:off<z1d b:=by
   apply Decidable.byContradiction;intro hh;exact h (.inr (by omega))
  have hnx:z1d b=b.base+zt b:=by unfold z1d;rw [if_neg (by rw [hv];simp)]
  obtain ⟨h64,-⟩:=z1q hv
  obtain ⟨-,-,⟨-,hba,-⟩,-,-⟩:=z16 b hv
  refine zg hs ?_
  refine zb (z6w b hs) λ_ w' hs=>?_
  obtain ⟨rfl,hs⟩:=hs
  refine zd ?_
  refine z8 hs ?_
  refine wp_lt ?_
  refine zh (λh2=>?_) λh2=>?_
  ·refine zg hs ?_
   refine zb (zr1 b (by omega) hs) λ_ w' hs=>?_
   obtain ⟨z,rfl,hs⟩:=hs
   refine ⟨(b.base,b.pid,b.epoch,b.seq,b.kind,b.time,z,()),rfl,trivial,zks _ _ _ _ _ _ _ ?_⟩
   refine zm hs λw' hs=>?_
   refine zg hs ?_
   refine ⟨rfl,.inr ⟨b,z,by unfold z0k;rw [if_neg h,if_pos h2],rfl,hs.sub⟩⟩
  ·have hm:z04 b=false:=by
    cases hm:z04 b with
    | false=>rfl
    | true=>exact absurd (.inl hm) h2
   have hob:¬ off<=b.base:=λhh=>h2 (.inr hh)
   have hsp:zt b=b.rs.length:=by unfold zt;rw [hm];simp
   refine zg hs ?_
   refine z8 hs ?_
   refine z8 hs ?_
   rw [w64 (by omega) (by omega)]
   have eo:off-b.base=(((off-b.base).toNat:Nat):Int):=by omega
   rw [eo]
   refine zb (z058 b (off-b.base).toNat (by omega) hcap hv hs) λ_ w' hs=>?_
   obtain ⟨z,rfl,hs⟩:=hs
   refine ⟨(b.base+(off-b.base).toNat,b.pid,b.epoch,(if b.pid>0 then b.seq+(off-b.base).toNat else b.seq),b.kind,b.time,z,()),rfl,trivial,zks _ _ _ _ _ _ _ ?_⟩
   refine zm hs λw' hs=>?_
   refine zg hs ?_
   refine ⟨rfl,.inr ⟨zkl b (off-b.base).toNat,z,by unfold z0k;rw [if_neg h,if_neg h2],rfl,(show Sat w' (slc T.a2 4 z ((b.rs.drop (off-b.base).toNat).flatMap z01)::l) from hs.sub)⟩⟩
end
instance {b:Nat}:AddrIs ((Addr.add ⟨b,0,none⟩ 1).add 2) b 3:=⟨rfl⟩
section
variable {P:Program} {w:World} {l r:List HP} {Q:Post} {S:World->Prop} {T:TypeId} {sz:Nat} {x y:Sl} {cs ds:List Value}
theorem Sat.slc_pre {n:Nat} (hs:Sat w (slc T sz x cs::l)) (hn:n<=x.len):Sat w (slc T sz ⟨x.a,n,x.cap⟩ (cs.take (n*sz))::l):=by
 refine hs.imp λp hp=>?_
 rcases hp with ⟨h1,h2,h3,rfl⟩|⟨b,off,arr,fr,ha,hb,hlen,hle,hsz,hc,hf⟩
 ·exact .inl ⟨h1,by dsimp only;omega,h3,by simp⟩
 ·have hnl:n*sz<=x.len*sz:=Nat.mul_le_mul_right _ hn
  refine .inr ⟨b,off,arr,fr,ha,hb,?_,by dsimp only;omega,hsz,λi hi=>?_,hf⟩
  ·rw [List.length_take,hlen];dsimp only;omega
  ·rw [List.length_take] at hi
   rw [hc i (by omega),List.getElem?_take,if_pos (by omega)]
theorem zjz {b off o:Nat} {vs:List Value} (hs:Sat w (slc T sz x cs::l)) (ha:x.a=some ⟨b,off,none⟩) (ho:o+vs.length<=x.cap*sz) (h1:∀ v ∈ vs,v.oneCell'=true) :
  ∃ w',(storeCells ⟨b,off+o,none⟩ vs).run P w=.ok () w'/\(cs.length<=o->Sat w' (slc T sz x cs::l))/\(o+vs.length<=cs.length->Sat w' (slc T sz x (cs.take o++vs++cs.drop (o+vs.length))::l)):=by
 obtain ⟨p1,p2,q1,q2,hd,hA,hl⟩:=hs
 rcases hA with ⟨ha',_,_,_⟩|⟨b',off',arr,fr,ha',hb,hlen,hle,hsz,hcs,hf⟩
 ·rw [ha] at ha';cases ha'
 rw [ha] at ha'
 obtain ⟨rfl,rfl⟩:b=b'/\off=off':=by cases ha';exact ⟨rfl,rfl⟩
 have hbw:w.heap[b]? = some (.cells arr T fr):=q1 b _ hb
 have hset:Sat w (pt b (.cells arr T fr)::l):=⟨p1,p2,q1,q2,hd,hb,hl⟩
 refine ⟨_,z8l (P:=P) vs (off:=off+o) (i:=0) hbw (by omega) (λi h1 h2=>hf i (by omega) (by omega)) h1,λh=>?_,λh=>?_⟩
 ·refine hset.set.imp λp hp=>.inr ⟨b,off,_,fr,ha,hp,hlen,hle,by rw [z4l];exact hsz,λi hi=>?_,hf⟩
  rw [getElem?_putCells vs (by omega),if_neg (by omega),hcs i hi]
 ·refine hset.set.imp λp hp=>.inr ⟨b,off,_,fr,ha,hp,?_,hle,by rw [z4l];exact hsz,λi hi=>?_,hf⟩
  ·rw [List.length_append,List.length_append,List.length_take,List.length_drop];omega
  ·rw [List.length_append,List.length_append,List.length_take,List.length_drop] at hi
   rw [getElem?_putCells vs (by omega)]
   by_cases h2:i<o
   ·rw [if_neg (by omega),hcs i (by omega),List.getElem?_append_left (by simp;omega),List.getElem?_append_left (by simp;omega),List.getElem?_take,if_pos h2]
   by_cases h3:i<o+vs.length
   ·rw [if_pos (by omega),List.getElem?_append_left (by simp;omega),List.getElem?_append_right (by simp;omega),List.length_take]
    congr 1;omega
   ·rw [if_neg (by omega),hcs i (by omega),List.getElem?_append_right (by simp;omega),List.getElem?_drop,List.length_append,List.length_take]
    congr 1;omega
theorem zy7 {t tx ty:TypeId} {i:TypeInfo} (ht:P.underlying t=some (.slice T)) (hi:P.info? T=some i)
  (hs:Sat w (slc T i.size x cs::l)) {v:Value} {n:Nat} (hsrc:Src P i.size tx v n ds w) (hroom:x.len+n<=x.cap) :
  ∃ w',(app t tx ty x.v v).run P w=.ok (Sl.mk x.a (x.len+n) x.cap).v w'/\Sat w' (slc T i.size ⟨x.a,x.len+n,x.cap⟩ (cs++ds)::l):=by
 have hs':=hs
 obtain ⟨p1,p2,h1,h2,hd,hA,hl⟩:=hs
 rcases hA with ⟨ha,hl0,hc0,rfl⟩|⟨b,off,arr,fr,ha,hb,hlen,hle,hsz,hcs,hf⟩
 ·have hn0:n=0:=by omega
  subst hn0
  have hds:ds=[]:=List.length_eq_zero_iff.1 (by rw [hsrc.newsLen,Nat.zero_mul])
  subst hds
  obtain ⟨a,ln,cp⟩:=x
  simp only at ha hl0 hc0
  subst ha hl0 hc0
  refine ⟨w,?_,hs'⟩
  rcases hsrc.kind with ⟨e',hk⟩|hk <;>
   simp [app,Builtin.append_,run_underlying ht,run_underlying hk,sizeOf,typeInfo,hi,hsrc.len,hsrc.cells]
 ·have hbw:w.heap[b]? = some (.cells arr T fr):=h1 b _ hb
  obtain ⟨a,ln,cp⟩:=x
  simp only at ha hlen hle hsz hf hroom
  subst ha
  have hfit:off+ln*i.size+ds.length<=arr.size:=by
   rw [hsrc.newsLen,Nat.add_assoc,<- Nat.add_mul]
   exact Nat.le_trans (Nat.add_le_add_left (Nat.mul_le_mul_right _ hroom) _) hsz
  have hrun:=run_append_room_src (P:=P) w t tx ty T i ht hi b off ln cp v n ds hsrc hroom
   (λj hj=>by rw [z37 hbw];simp;omega)
   (λj hj=>by
    have h3:ln*i.size+ds.length<=cp*i.size:=by rw [hsrc.newsLen,<- Nat.add_mul];exact Nat.mul_le_mul_right _ hroom
    have:=hf (off+ln*i.size+j) (by omega) (by omega)
    simp only [World.frozen?,hbw]
    simpa using this)
  rw [zb5 ds hbw] at hrun
  refine ⟨_,hrun,?_⟩
  have hset:Sat w (pt b (.cells arr T fr)::l):=⟨p1,p2,h1,h2,hd,hb,hl⟩
  refine hset.set.imp λp hp=>.inr ⟨b,off,_,fr,rfl,hp,?_,hroom,?_,λj hj=>?_,hf⟩
  ·rw [List.length_append,hlen,hsrc.newsLen,Nat.add_mul]
  ·rw [z4l];exact hsz
  ·rw [List.length_append,hlen] at hj
   rw [getElem?_putCells ds hfit]
   by_cases hjl:j<ln*i.size
   ·rw [if_neg (by omega),hcs j (by omega),List.getElem?_append_left (by omega)]
   ·rw [if_pos (by omega),List.getElem?_append_right (by omega),hlen]
    congr 1;omega
theorem z05p {α:Type} {enc:α->List Value} {xs ys:List α} {tx ty el el':TypeId} {t:TypeId} {bytes sz' bytes':Nat} {k:Sl->Prog} (hs:Sat w (slc el sz x (xs.flatMap enc)::r)) [ht:SlT P t el sz bytes] [htx:SlT P tx el' sz' bytes'] (hy:Rd w sz y (ys.flatMap enc)) [hE:EncN enc sz]
  (hroom:x.len+y.len<=x.cap) (h:∀ w',Sat w' (slc el sz ⟨x.a,x.len+y.len,x.cap⟩ ((xs++ys).flatMap enc)::r)->(k ⟨x.a,x.len+y.len,x.cap⟩).wp P S w' Q) (hS:∀ w',S w':=by exact λ_=>trivial) :
  (Prog.act (app t tx ty (.slice x.a x.len x.cap) (.slice y.a y.len y.cap)) sL (u1 k)).wp P S w Q:=by
 obtain ⟨i,z,hi,rfl,rfl,hz,hzs⟩:=ht.parts
 obtain ⟨w',hrun,hs'⟩:=zy7 (ty:=ty) ht.ok.1 hi hs (zxg ⟨_,htx.ok.1⟩ hy λu hu=>by
  obtain ⟨a,-,hu⟩:=List.mem_flatMap.1 hu
  exact hE.one a u hu) hroom
 rw [<- List.flatMap_append] at hs'
 exact ⟨(⟨x.a,x.len+y.len,x.cap⟩,()),w',hrun,hS _,h w' hs'⟩
theorem zma {z:Array Value} (h:∀ v ∈ z.toList,v.oneCell'=true) {n:Nat}:∀ v ∈ (Builtin.zeroCells z n).toList,v.oneCell'=true:=λv hv=>by
 unfold Builtin.zeroCells at hv
 simp only [Array.toList_map,List.mem_map,Array.mem_toList_iff,Array.mem_range] at hv
 obtain ⟨i,hi,rfl⟩:=hv
 have hp:0<z.size:=by
  rcases Nat.eq_zero_or_pos z.size with h0|h0
  ·rw [h0,Nat.mul_zero] at hi;omega
  ·exact h0
 have hm:=Nat.mod_lt i hp
 rw [getElem!_pos z _ hm]
 exact h _ (by simp)
theorem z05a {t ty:TypeId} {i:TypeInfo} {z:Value} (ht:P.underlying t=some (.slice T)) (hi:P.info? T=some i) (hz:i.zero=some z) (hzs:z.cells.size=sz) (h1:∀ v ∈ z.cells.toList,v.oneCell'=true)
  (hs:Sat w (slc T sz x cs::l)) {n m c:Nat} (hn:x.len<=n) (hm:n+m<=x.cap) :
  ∃ w',(Builtin.clear_ #[t] ty #[.slice (x.a.map λa=>a.add (n*sz)) m c]).run P w=.ok (.tuple #[]) w'/\Sat w' (slc T sz x cs::l):=by
 have hlen:=hs.rd.1
 cases ha:x.a with
 | none=>exact ⟨w,by simp [Builtin.clear_,run_underlying ht],hs⟩
 | some a =>
  obtain ⟨b,off,s⟩:=a
  have hs2:=hs
  obtain ⟨p1,p2,q1,q2,hd,hA,hl⟩:=hs2
  have hsn:s=none:=by
   rcases hA with ⟨ha',_,_,_⟩|⟨b',off',arr,fr,ha',hb,hlen,hle,hsz,hcs,hf⟩
   ·rw [ha] at ha';cases ha'
   ·rw [ha] at ha';cases ha';rfl
  subst hsn
  cases m with
  | zero=>exact ⟨w,by simp [Builtin.clear_,run_underlying ht],hs⟩
  | succ m =>
   have hle:(n+(m+1))*sz<=x.cap*sz:=Nat.mul_le_mul_right _ hm
   rw [Nat.add_mul] at hle
   have hnl:x.len*sz<=n*sz:=Nat.mul_le_mul_right _ hn
   obtain ⟨w',hrun,hsat,-⟩:=zjz (P:=P) (o:=n*sz) (vs:=(Builtin.zeroCells z.cells (m+1)).toList) hs ha (by rw [Array.length_toList,size_zeroCells,hzs];exact hle) (zma h1)
   refine ⟨w',?_,hsat (by omega)⟩
   have e:((⟨b,off,none⟩:Addr).add (n*sz))=⟨b,off+n*sz,none⟩:=z2a _ _ _
   simp [Builtin.clear_,run_underlying ht,zeroValue,typeInfo,hi,hz,e,hrun]
theorem z07t {t ty el:TypeId} {bytes:Nat} {k:Prog} [ht:SlT P t el sz bytes] (hs:Sat w (slc el sz x cs::l)) {n m c:Nat} (hn:x.len<=n) (hm:n+m<=x.cap)
  (h:∀ w',Sat w' (slc el sz x cs::l)->k.wp P S w' Q) (h1:((P.info? el).bind (·.zero)).all (λz=>z.cells.toList.all (·.oneCell'))=true:=by kernel_rfl) (hS:∀ w',S w':=by exact λ_=>trivial) :
  (Prog.act (Builtin.clear_ #[t] ty #[.slice (z0q x.a sz n x.cap) m c]) (.tup []) (u0 k)).wp P S w Q:=by
 obtain ⟨i,z,hi,rfl,rfl,hz,hzs⟩:=ht.parts
 rw [hi] at h1
 have h1:z.cells.toList.all (·.oneCell')=true:=by
  have h2:(i.zero).all (λz=>z.cells.toList.all (·.oneCell'))=true:=h1
  rw [hz] at h2;exact h2
 rw [List.all_eq_true] at h1
 by_cases hc:x.cap=n
 ·have hm0:m=0:=by omega
  subst hm0
  refine ⟨(),w,?_,hS _,h _ hs⟩
  cases ha:z0q x.a i.size n x.cap with
  | none=>simp [Builtin.clear_,run_underlying ht.ok.1,Sh.mk]
  | some a=>simp [Builtin.clear_,run_underlying ht.ok.1,Sh.mk]
 ·obtain ⟨w',hrun,hs'⟩:=z05a (ty:=ty) ht.ok.1 hi hz hzs h1 hs hn hm (c:=c)
  refine ⟨(),w',?_,hS _,h _ hs'⟩
  unfold z0q
  rw [if_neg hc]
  exact hrun
end
end Go.Dec
