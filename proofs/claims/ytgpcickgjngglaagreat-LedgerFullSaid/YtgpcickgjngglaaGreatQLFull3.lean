/- What the claim of this folder leans on: our own texts, joined, without what it does not use. -/
import Derived.Test.YtgpcickgjngglaaGreatQLFull2
set_option linter.unusedVariables false
set_option linter.unusedSimpArgs false
namespace Go.Dec
theorem dS {f:FuncId} {fn:Func} {n:Nat} {rv:List RV} {p:Prog} {w:World} {R:List Value->World->Prop} (H:Hints) (args:List Base) (hf:P.funcs[f]? = some fn) (hb:fn.body.isSome=true) (hn:fn.ntmps=n) (hr:zay fn.results.toList=rv) (he:zis P n ⟨zic,[]⟩ H rv (zb5 fn) args=p) (h:p.wp P (λ_=>True) w λe vs w'=>e=0/\R vs w'):Ret P f (args.map Base.v).toArray w R:=z9l (zi4 hf hb hn hr) zid mix args (by rw [he];exact h)
abbrev FnS (p:Prog) (f:FuncId) (vs:Array Value):Prop:=∀ {w:World} {R:List Value->World->Prop},p.wp P (λ_=>True) w (λe vs w'=>e=0/\R vs w')->Ret P f vs w R
theorem dV {f:FuncId} {fn:Func} {p:Prog} {vs:List Value} (H:Hints) (hf:P.funcs[f]? = some fn) (he:(fn.body.isSome,zis P fn.ntmps ⟨zic,[]⟩ H (zay fn.results.toList) (zb5 fn) (vs.map Base.val))=(true,p)):FnS p f vs.toArray:=λh=>by
 have e:=dS H (vs.map Base.val) hf (congrArg Prod.fst he) rfl rfl (congrArg Prod.snd he) h
 rwa [List.map_map,show Base.v∘Base.val=id from rfl,List.map_id] at e
abbrev Aa (n:Int):Value:=.int .i64 n
abbrev Ab (t:TypeId) (k:Addr->Prog):Prog:=.act (new t) sA (u1 k)
abbrev Ac (t:TypeId) (a:Addr) (v:Value) (k:Prog):Prog:=.actU (st t a v) k
abbrev Ad (x0:Int) (x1:Int) (x2:Int):Value:=.agg #[.int .i64 x0,.int .i64 x1,.int .i64 x2]
abbrev Ae (x:Int) (k:Int->Prog):Prog:=.lt (.int .i64) x k
abbrev Af (e:Nat) (p:Prog) (k:Int->Prog):Prog:=.bind e [.one (.int .i64)] p (u1 k)
abbrev Ag (b:Bool) (p q:Prog):Prog:=.ite b p q
abbrev Ah (n:Int):Int:=IntKind.wrap .i64 n
abbrev Ai (e:Nat) (l:List Value):Prog:=.done e l
abbrev Aj (f:FuncId) (l:List Value) (k:(Option Addr)->Int->Prog):Prog:=.call f l (.tup [.one .ptr,.one (.int .i64)]) (u2 k)
abbrev Ak (t:TypeId) (a:Addr) (k:Int->Int->Int->Prog):Prog:=.read True (ld t a) (sG [.int .i64,.int .i64,.int .i64]) (u3 k)
abbrev Al (p:Option Addr):Value:=.pointer p
abbrev Am (t:TypeId) (v:Value) (k:Addr->Prog):Prog:=.act (Instr.box t v) sA (u1 k)
abbrev An (e:Nat) (p:Prog) (k:(Option Addr)->Prog):Prog:=.bind e [.one .ptr] p (u1 k)
abbrev Ao (l:Sl):Int:=((l.len:Nat):Int)
abbrev Ap (x0:Int) (x1:ByteArray) (x2:ByteArray) (x3:Int) (x4:Sl):Value:=.agg #[.int .i64 x0,.string x1,.string x2,.int .i64 x3,x4.v]
abbrev Aq (t:TypeId) (a:Addr) (k:Int->ByteArray->ByteArray->Int->Sl->Prog):Prog:=.read True (ld t a) (sG [.int .i64,.str,.str,.int .i64,.slc]) (u5 k)
abbrev Ar (t:TypeId) (a:Addr) (i:Nat) (k:Int->Prog):Prog:=.read True (ld t (Addr.add a i)) (sI .i64) (u1 k)
abbrev As (g:Prop) (t:TypeId) (a:Addr) (i:Nat) (k:Int->Prog):Prog:=.read g (ld t (Addr.add a i)) (sI .i64) (u1 k)
abbrev Au (f:FuncId) (l:List Value) (k:(Option Addr)->Prog):Prog:=.call f l sP (u1 k)
abbrev Av (f:FuncId) (l:List Value) (k:Int->Int->Prog):Prog:=.call f l (.tup [.one (.int .i64),.one (.int .i64)]) (u2 k)
abbrev Aw (f:FuncId) (l:List Value) (k:Bool->Prog):Prog:=.call f l sB (u1 k)
abbrev Ax (e:Nat) (p:Prog) (k:Bool->Prog):Prog:=.bind e [.one .bool] p (u1 k)
abbrev Ay (x:Bool) (k:Bool->Prog):Prog:=.lt (.bool) x k
abbrev Az (f:FuncId) (l:List Value) (k:Int->Prog):Prog:=.call f l (sI .i64) (u1 k)
abbrev AA (t:TypeId) (a:Addr) (i:Nat) (k:(Option Addr)->Prog):Prog:=.read True (ld t (Addr.add a i)) sP (u1 k)
abbrev AB (a:Addr):Value:=.pointer (some a)
abbrev AC (e:Nat) (p:Prog) (k:Prog):Prog:=.bind e [] p (u0 k)
abbrev AD (k:Prog):Prog:=.tick k
abbrev AE (t:TypeId) (a:Addr) (i:Nat) (k:ByteArray->Prog):Prog:=.read True (ld t (Addr.add a i)) sS (u1 k)
abbrev AF (t:TypeId) (a:Addr) (i:Nat) (k:ByteArray->Prog):Prog:=.hold True (ld t (Addr.add a i)) sS (u1 k)
abbrev AG (f:FuncId) (l:List Value) (k:ByteArray->Prog):Prog:=.call f l sS (u1 k)
abbrev AH (k:Prog):Prog:=.untick k
abbrev AI (t:TypeId) (a:Addr) (i:Nat) (v:Value) (k:Prog):Prog:=.actU (st t (Addr.add a i) v) k
abbrev AJ (t:TypeId) (a:Addr) (i:Nat) (k:Sl->Prog):Prog:=.read True (ld t (Addr.add a i)) sL (u1 k)
abbrev AK (e:Nat) (p:Prog) (k:Sl->Prog):Prog:=.bind e [.one .slc] p (u1 k)
abbrev AL (e:Nat) (x:Sl × Int × Unit) (k:Sl->Int->Prog):Prog:=.loop e [.one .slc,.one (.int .i64)] x (u2 k)
abbrev AM (t:TypeId) (a:Addr) (i:Nat) (k:ByteArray->ByteArray->Bool->Int->Prog):Prog:=.read True (ld t (Addr.add a i)) (sG [.str,.str,.bool,.int .i64]) (u4 k)
abbrev AN (x0:ByteArray) (x1:ByteArray) (x2:Bool) (x3:Int):Value:=.agg #[.string x0,.string x1,.bool x2,.int .i64 x3]
abbrev AO (t:TypeId) (a:Addr) (k:ByteArray->ByteArray->Bool->Int->Prog):Prog:=.read True (ld t a) (sG [.str,.str,.bool,.int .i64]) (u4 k)
abbrev AP (m:Sem Value) (k:Sl->Prog):Prog:=.act m sL (u1 k)
abbrev AQ (s:Option Addr) (k:Addr->Prog):Prog:=.ex [.adr] (c1 λa=>s=some a) (u1 k)
abbrev AR (e:Nat) (p:Prog) (k:Int->Int->Prog):Prog:=.bind e [.one (.int .i64),.one (.int .i64)] p (u2 k)
abbrev AS (t:TypeId) (a:Addr) (i:Nat) (k:Int->Prog):Prog:=.hold True (ld t (Addr.add a i)) (sI .i64) (u1 k)
abbrev AT (x:Bool) (p q:Prog):Prog:=.lt .bool x λb=>.ite b p q
abbrev AU (e:Nat) (x:Int × Unit) (k:Int->Prog):Prog:=.loop e [.one (.int .i64)] x (u1 k)
abbrev AV (f:FuncId) (l:List Value) (k:Sl->Prog):Prog:=.call f l sL (u1 k)
abbrev AW (x:ByteArray) (k:ByteArray->Prog):Prog:=.lt (.str) x k
abbrev AX (f:FuncId) (l:List Value) (k:ByteArray->Bool->Prog):Prog:=.call f l (.tup [.one .str,.one .bool]) (u2 k)
abbrev AY (g:Prop) (t:TypeId) (a:Addr) (i:Nat) (k:ByteArray->Prog):Prog:=.read g (ld t (Addr.add a i)) sS (u1 k)
abbrev AZ (g:Prop) (t:TypeId) (a:Addr) (i:Nat) (k:Bool->Prog):Prog:=.read g (ld t (Addr.add a i)) sB (u1 k)
abbrev Ba (x0:Int) (x1:ByteArray) (x2:ByteArray) (x3:Bool) (x4:Int):Value:=.agg #[.int .i64 x0,.string x1,.string x2,.bool x3,.int .i64 x4]
abbrev Bb (x0:Int) (x1:Int) (x2:Int) (x3:Int) (x4:Int) (x5:Int) (x6:Sl):Value:=.agg #[.int .i64 x0,.int .i64 x1,.int .i64 x2,.int .i64 x3,.int .i64 x4,.int .i64 x5,x6.v]
abbrev Bc (t:TypeId) (a:Addr) (k:Int->Int->Int->Int->Int->Int->Sl->Prog):Prog:=.read True (ld t a) (sG [.int .i64,.int .i64,.int .i64,.int .i64,.int .i64,.int .i64,.slc]) (u7 k)
abbrev Bd (t:TypeId) (a:Addr) (i:Nat) (k:(Option Addr)->Prog):Prog:=.hold True (ld t (Addr.add a i)) sP (u1 k)
abbrev Be (e:Nat) (x:Int × Int × Unit) (k:Int->Int->Prog):Prog:=.loop e [.one (.int .i64),.one (.int .i64)] x (u2 k)
abbrev Bf (t:TypeId) (a:Addr) (i:Nat) (k:Int->Int->Int->Int->Int->Int->Sl->Prog):Prog:=.read True (ld t (Addr.add a i)) (sG [.int .i64,.int .i64,.int .i64,.int .i64,.int .i64,.int .i64,.slc]) (u7 k)
abbrev Bg (m:Sem Value) (k:Int->Int->Prog):Prog:=.read True m (sG [.int .i64,.int .i64]) (u2 k)
abbrev Bh (x0:Int) (x1:Int):Value:=.agg #[.int .i64 x0,.int .i64 x1]
abbrev Bi (f:FuncId) (l:List Value) (k:Prog):Prog:=.call f l (.tup []) (u0 k)
abbrev Bj (f:FuncId) (l:List Value) (k:Sl->Int->Prog):Prog:=.call f l (.tup [.one .slc,.one (.int .i64)]) (u2 k)
abbrev Bk (g:Prop) (m:Sem Value) (k:Int->Prog):Prog:=.hold g m (sI .i64) (u1 k)
abbrev Bl (g:Prop) (s:Option Addr) (k:Addr->Prog):Prog:=.ex [.adr] (c1 λa=>g->s=some a) (u1 k)
abbrev Bn (g:Prop) (t:TypeId) (a:Addr) (k:Int->Int->Int->Int->Int->Int->Sl->Prog):Prog:=.read g (ld t a) (sG [.int .i64,.int .i64,.int .i64,.int .i64,.int .i64,.int .i64,.slc]) (u7 k)
abbrev Bo (t:TypeId) (a:Addr) (i:Nat) (k:Int->ByteArray->ByteArray->Bool->Int->Prog):Prog:=.read True (ld t (Addr.add a i)) (sG [.int .i64,.str,.str,.bool,.int .i64]) (u5 k)
abbrev Bp (t:TypeId) (a:Addr) (k:Int->ByteArray->ByteArray->Bool->Int->Prog):Prog:=.read True (ld t a) (sG [.int .i64,.str,.str,.bool,.int .i64]) (u5 k)
abbrev Bq (t:TypeId) (a:Addr) (i:Nat) (k:Bool->Prog):Prog:=.read True (ld t (Addr.add a i)) sB (u1 k)
abbrev Br (f:FuncId) (l:List Value) (k:Int->Bool->Prog):Prog:=.call f l (.tup [.one (.int .i64),.one .bool]) (u2 k)
abbrev Bs (t:TypeId) (a:Addr) (i:Nat) (k:Sl->Prog):Prog:=.hold True (ld t (Addr.add a i)) sL (u1 k)
abbrev Bt (f:FuncId) (l:List Value) (k:Int->Prog):Prog:=.call f l (sI .u64) (u1 k)
abbrev Bu (x:Int) (k:Int->Prog):Prog:=.lt (.int .u64) x k
abbrev Bv (e:Nat) (p:Prog) (k:Addr->Bool->Prog):Prog:=.bind e [.one .adr,.one .bool] p (u2 k)
abbrev Bw (t:TypeId) (a:Addr) (i:Nat) (k:(Option Nat)->Prog):Prog:=.hold True (ld t (Addr.add a i)) sM (u1 k)
abbrev Bx (m:Sem Value) (k:Int->Int->Int->Int->Bool->Prog):Prog:=.hold True m (.tup [.agg [.int .i64,.int .i64,.int .i64,.int .i64],.one .bool]) (u5 k)
abbrev By (x0:Int) (x1:Int) (x2:Int) (x3:Int):Value:=.agg #[.int .i64 x0,.int .i64 x1,.int .i64 x2,.int .i64 x3]
abbrev Bz (f:FuncId) (l:List Value) (k:Bool->Int->Int->Prog):Prog:=.call f l (.tup [.agg [.bool,.int .i64],.one (.int .i64)]) (u3 k)
abbrev B0 (x0:Bool) (x1:Int):Value:=.agg #[.bool x0,.int .i64 x1]
abbrev B1 (f:FuncId) (l:List Value) (k:Int->Int->Int->Int->Int->Int->Sl->Prog):Prog:=.call f l (sG [.int .i64,.int .i64,.int .i64,.int .i64,.int .i64,.int .i64,.slc]) (u7 k)
abbrev B2 (g:Prop) (t:TypeId) (a:Addr) (i:Nat) (k:Sl->Prog):Prog:=.read g (ld t (Addr.add a i)) sL (u1 k)
abbrev B3 (t:TypeId) (a:Addr) (k:(Option Addr)->Prog):Prog:=.read True (ld t a) sP (u1 k)
abbrev B4 (x0:Int) (x1:Int) (x2:Int) (x3:Int) (x4:Int) (x5:Int) (x6:Int):Value:=.agg #[.int .i64 x0,.int .i64 x1,.int .i64 x2,.int .i64 x3,.int .i64 x4,.int .i64 x5,.int .i64 x6]
abbrev B5 (t:TypeId) (a:Addr) (i:Nat) (k:(Option Nat)->Prog):Prog:=.read True (ld t (Addr.add a i)) sM (u1 k)
abbrev B6 (m:Sem Unit) (k:Prog):Prog:=.actU m k
abbrev B7 (t:TypeId) (a:Addr) (k:Int->Int->Int->Int->Int->Int->Int->Prog):Prog:=.read True (ld t a) (sG [.int .i64,.int .i64,.int .i64,.int .i64,.int .i64,.int .i64,.int .i64]) (u7 k)
abbrev B8 (m:Sem Value) (k:Prog):Prog:=.act m (.tup []) (u0 k)
abbrev B9 (t:TypeId) (a:Addr) (k:Int->Int->Int->Int->Prog):Prog:=.read True (ld t a) (sG [.int .i64,.int .i64,.int .i64,.int .i64]) (u4 k)
abbrev BA (m:Sem Value) (k:Int->Prog):Prog:=.act m (sI .i64) (u1 k)
abbrev BB (t:TypeId) (a:Addr) (k:Bool->Int->Prog):Prog:=.read True (ld t a) (sG [.bool,.int .i64]) (u2 k)
abbrev BC (t:TypeId) (p:Option Addr) (k:(Option Addr)->Prog):Prog:=.read True (Instr.loadAt t (.pointer p)) sP (u1 k)
abbrev BD (g:Prop) (t:TypeId) (a:Addr) (i:Nat) (k:(Option Nat)->Prog):Prog:=.read g (ld t (Addr.add a i)) sM (u1 k)
abbrev BE (g:Prop) (m:Sem Value) (k:Int->Prog):Prog:=.read g m (sI .i64) (u1 k)
abbrev BF (g:Prop) (m:Sem Value) (k:Int->Int->Prog):Prog:=.read g m (sG [.int .i64,.int .i64]) (u2 k)
abbrev BG (m:Sem Value) (k:(Option Addr)->Prog):Prog:=.read True m sP (u1 k)
abbrev BH (a:Addr) (i:Nat):Value:=.pointer (some (Addr.add a i))
abbrev BI (t:TypeId) (a:Addr) (k:Sl->Int->Prog):Prog:=.read True (ld t a) (sG [.slc,.int .i64]) (u2 k)
abbrev BJ (x0:Sl) (x1:Int):Value:=.agg #[x0.v,.int .i64 x1]
abbrev BK (e:Nat) (p:Prog) (k:Int->Int->Prog):Prog:=.bind e [.one (.int .u64),.one (.int .i64)] p (u2 k)
abbrev BL (t:TypeId) (a:Addr) (i:Nat) (k:Int->Prog):Prog:=.read True (ld t (Addr.add a i)) (sI .u8) (u1 k)
abbrev BM (x:Int) (k:Int->Prog):Prog:=.lt (.int .u8) x k
abbrev BN (g:Prop) (t:TypeId) (a:Addr) (i:Nat) (k:Int->Int->Int->Int->Prog):Prog:=.read g (ld t (Addr.add a i)) (sG [.int .i64,.int .i64,.int .i64,.int .i64]) (u4 k)
abbrev BO (m:Sem Value) (k:Sl->Prog):Prog:=.read True m sL (u1 k)
abbrev BQ (f:FuncId) (l:List Value) (k:Sl->Int->Bool->Prog):Prog:=.call f l (.tup [.one .slc,.one (.int .i64),.one .bool]) (u3 k)
abbrev BR (t:TypeId) (p:Option Addr) (k:Int->Prog):Prog:=.read True (Instr.loadAt t (.pointer p)) (sI .i64) (u1 k)
abbrev BS (f:FuncId) (l:List Value) (k:Int->Prog):Prog:=.call f l (sI .u32) (u1 k)
abbrev BT (x:Int) (k:Int->Prog):Prog:=.lt (.int .u32) x k
abbrev BU (e:Nat) (p:Prog) (k:Int->Prog):Prog:=.bind e [.one (.int .u32)] p (u1 k)
abbrev BV (e:Nat) (x:Int × Int × Unit) (k:Int->Int->Prog):Prog:=.loop e [.one (.int .u32),.one (.int .i64)] x (u2 k)
def z02q (seg room:Int) (l:Sl):Prog :=
.call F.a156 [Aa seg] (sG [.int .i64,.int .i64,.int .i64]) (u3 λ(n0 n1 n2:Int)=>
Ab T.a33 λa3=>
Ac T.a33 a3 (Ad n0 n1 n2)<|
Ae (Int.tmod room 600) λn4=>
Af 1 (
Ag (decide (n4<0)) (
Ae (Ah (0-n4)) λn5=>
Ai 1 [Aa n5])<|
Ai 1 [Aa n4]) λn6=>
Aj F.a37 [Aa n6] λp7 n8=>
Ae n8 λn9=>
Ak T.a33 a3 λn10 n11 n12=>
Aj F.a73 [Al p7,.string (ByteArray.mk #[120]),Ad n10 n11 n12] λp13 n14=>
Ae n14 λn15=>
Am T.a51 (.agg #[.slice none 0 0]) λa16=>
Ag (n15 != 0) (
Ai 0 [.bool false])<|
An 1 (
.loop 2 [.one .ptr,.one (.int .i64)] (some a16,(0,())) (u2 λp17 (n18:Int)=>
Ag (decide (n18<(Ao l))) (
An 3 (
.ex [.adr] (c1 λa19=>0<=n18/\n18<(Ao l)/\l.a=some a19) (u1 λa20=>
.read True (ld T.a50 (Addr.add a20 (Int.toNat n18*5))) (sG [.int .i64,.str,.str,.int .i64,.slc]) (u5 λ(n21:Int) s22 s23 (n24:Int) l25=>
Ab T.a50 λa26=>
Ae n18 λn27=>
Ac T.a50 a26 (Ap n21 s22 s23 n24 l25)<|
Ag (decide (n27>=30)) (
Ai 1 [Al p17])<|
Aq T.a50 a26 λn28 s29 s30 n31 l32=>
.call F.a159 [Ap n28 s29 s30 n31 l32] (sG [.int .i64,.str,.str,.int .i64,.slc]) (u5 λ(n33:Int) s34 s35 (n36:Int) l37=>
Ac T.a50 a26 (Ap n33 s34 s35 n36 l37)<|
Ar T.a13 a26 0 λn38=>
As (decide (n38<0)=false) T.a13 a26 0 λn39=>
Ag (decide (n38<0) || decide (n39>4)) (
Ai 3 [Al p17])<|
Au F.a165 [Al p17] λp40=>
Aq T.a50 a26 λn41 s42 s43 n44 l45=>
Av F.a155 [Al p13,Al p40,Ap n41 s42 s43 n44 l45] λn46 n47=>
Ae n46 λn48=>
Ae n47 λn49=>
An 4 (
Ag (n48 != 5) (
Ag (n48 != n49) (
Ai 0 [.bool false])<|
Ai 4 [Al p40])<|
Ai 4 [Al p17]) λp50=>
Aw F.a157 [Al p13,Al p50] λb51=>
Ag (not b51) (
Ai 0 [.bool false])<|
Ai 3 [Al p50])))) λp52=>
Ai 2 [Al p52,Aa (Ah (n18+1))])<|
Ai 1 [Al p17])) λp53=>
Ak T.a33 a3 λn54 n55 n56=>
Aj F.a73 [Al p7,.string (ByteArray.mk #[120]),Ad n54 n55 n56] λp57 n58=>
Ae n58 λn59=>
Ax 1 (
Ag (n59 == 0) (
Aw F.a157 [Al p57,Al p53] λb60=>
Ag b60 (
Aw F.a154 [] λb61=>
Ay b61 λb62=>
Ai 1 [.bool b62])<|
Ai 1 [.bool false])<|
Ai 1 [.bool false]) λb63=>
Ai 0 [.bool b63])
theorem zp1 (seg room:Int) (l:Sl):FnS (z02q seg room l) F.a153 #[.int .i64 seg,.int .i64 room,.slice l.a l.len l.cap]:=dV ⟨[(824633729049,[(1,.one (.int .i64))]),(580284393415022003876003912,[(12,.one .ptr)])],[(0,[(12,.one .ptr)]),(1,[(12,.one .ptr)])],[(26,[(6,.one .bool)])],[(0,[(12,.one .ptr),(45,.one (.int .i64))])]⟩ Go.Proofs.Tryz.func3 (by kernel_rfl)
def z02s (seg:Int):Prog :=
Ab T.a33 λa0=>
Ae (Int.tmod seg 200) λn1=>
Af 1 (
Ag (decide (n1<0)) (
Ae (Ah (0-n1)) λn2=>
Ai 1 [Aa n2])<|
Ai 1 [Aa n1]) λn3=>
Ac T.a33 a0 (.agg #[Aa (Ah (64+n3)),Aa 30,Aa 2])<|
Ak T.a33 a0 λn4 n5 n6=>
Ai 0 [Ad n4 n5 n6]
theorem zp3 (seg:Int):FnS (z02s seg) F.a156 #[.int .i64 seg]:=dV ⟨[(1576966,[(0,.one (.int .i64))])],[],[],[]⟩ Go.Proofs.Tryz.func11 (by kernel_rfl)
def z097 (d:Option Addr) (prefix_:ByteArray) (c_0 c_1:Int) (c_2:Int):Prog :=
Am T.a33 (Ad c_0 c_1 c_2) λa0=>
Ak T.a33 a0 λn1 n2 n3=>
Aj F.a77 [Al d,.string prefix_,Ad n1 n2 n3] λp4 n5=>
Ae n5 λn6=>
Ag (n6 != 0) (
Ae n6 λn7=>
Ai 0 [Al none,Aa n7])<|
Au F.a3 [] λp8=>
Am T.a19 (.agg #[Al p8,Al p4]) λa9=>
Az F.a80 [Al p4] λn10=>
.call F.a82 [Al p4,Aa n10,Aa 1099511627776,.bool true] (.tup [.one .slc,.one (.int .i64),.one (.int .i64)]) (u3 λl11 (n12 n13:Int)=>
Ae n12 λn14=>
Ae n13 λn15=>
AA T.a24 a9 0 λp16=>
Az F.a4 [Al p16,l11.v] λn17=>
Ai 0 [AB a9,Aa 0])
theorem zv5 (d:Option Addr) (prefix_:ByteArray) (c_0 c_1 c_2:Int):FnS (z097 d prefix_ c_0 c_1 c_2) F.a73 #[.pointer d,.string prefix_,.agg #[.int .i64 c_0,.int .i64 c_1,.int .i64 c_2]]:=dV ⟨[],[],[],[]⟩ Go.Proofs.Tryz.func13 (by kernel_rfl)
def z02v (o_0:Int) (o_1 o_2:ByteArray) (o_3:Int) (o_4:Sl):Prog :=
Am T.a50 (Ap o_0 o_1 o_2 o_3 o_4) λa0=>
Ab T.a50 λa1=>
AC 1 (
AD<|
AE T.a49 a0 1 λs2=>
AF T.a49 a0 2 λs3=>
AG F.a158 [.string s2] λs4=>
AH<|
AG F.a158 [.string s3] λs5=>
AI T.a49 a0 1 (.string s4)<|
AI T.a49 a0 2 (.string s5)<|
AH<|
Ai 1 [])<|
AJ T.a37 a0 4 λl6=>
AK 1 (
AL 2 (⟨none,0,0⟩,(0,())) λl7 n8=>
Ag (decide (n8<(Ao l6))) (
.ex [.adr] (c1 λa9=>0<=n8/\n8<(Ao l6)/\l6.a=some a9) (u1 λa10=>
AM T.a2 a10 (Int.toNat n8*4) λs11 s12 b13 n14=>
Ab T.a2 λa15=>
Ae n8 λn16=>
Ac T.a2 a15 (AN s11 s12 b13 n14)<|
Ag (decide (n16>=4)) (
Ai 1 [l7.v])<|
AC 3 (
AD<|
AE T.a49 a15 0 λs17=>
AF T.a49 a15 1 λs18=>
AG F.a158 [.string s17] λs19=>
AH<|
AG F.a158 [.string s18] λs20=>
AI T.a49 a15 0 (.string s19)<|
AI T.a49 a15 1 (.string s20)<|
AH<|
Ai 3 [])<|
AO T.a2 a15 λs21 s22 b23 n24=>
AP (Instr.buildSlice T.a37 1 #[(0,AN s21 s22 b23 n24)]) λl25=>
AP (app T.a37 T.a37 T.a37 l7.v l25.v) λl26=>
Ai 2 [l26.v,Aa (Ah (n8+1))]))<|
Ai 1 [l7.v]) λl27=>
AI T.a37 a0 4 l27.v<|
Aq T.a50 a0 λn28 s29 s30 n31 l32=>
Ac T.a50 a1 (Ap n28 s29 s30 n31 l32)<|
Aq T.a50 a1 λn33 s34 s35 n36 l37=>
Ai 0 [Ap n33 s34 s35 n36 l37]
theorem zp6 (o_0:Int) (o_1 o_2:ByteArray) (o_3:Int) (o_4:Sl):FnS (z02v o_0 o_1 o_2 o_3 o_4) F.a159 #[.agg #[.int .i64 o_0,.string o_1,.string o_2,.int .i64 o_3,.slice o_4.a o_4.len o_4.cap]]:=dV ⟨[],[(0,[(3,.one .slc)])],[(1,[]),(7,[])],[(0,[(3,.one .slc),(17,.one (.int .i64))])]⟩ Go.Proofs.Tryz.func14 (by kernel_rfl)
def z031 (l:Option Addr):Prog :=
Am T.a51 (.agg #[.slice none 0 0]) λa0=>
AC 1 (
AD<|
AJ T.a37 a0 0 λl1=>
AQ l λa3=>
AJ T.a37 a3 0 λl4=>
AP (app T.a37 T.a37 T.a37 l1.v l4.v) λl5=>
AI T.a37 a0 0 l5.v<|
AH<|
Ai 1 [])<|
Ai 0 [AB a0]
theorem zpc (l:Option Addr):FnS (z031 l) F.a165 #[.pointer l]:=dV ⟨[],[],[(2,[])],[]⟩ Go.Proofs.Tryz.func15 (by kernel_rfl)
def z02r (l r:Option Addr) (o_0:Int) (o_1 o_2:ByteArray) (o_3:Int) (o_4:Sl):Prog :=
Am T.a50 (Ap o_0 o_1 o_2 o_3 o_4) λa0=>
Ar T.a13 a0 0 λn1=>
Ay (n1 == 0) λb2=>
Ax 1 (
Ag b2 (
Ai 1 [.bool b2])<|
Ay (n1 == 1) λb3=>
Ai 1 [.bool b3]) λb4=>
Ag b4 (
AR 1 (
AD<|
AF T.a49 a0 1 λs5=>
AF T.a49 a0 2 λs6=>
AS T.a14 a0 3 λn7=>
AS T.a14 a0 3 λn8=>
AF T.a49 a0 1 λs9=>
AF T.a49 a0 2 λs10=>
AS T.a14 a0 3 λn11=>
.both (
Az F.a71 [Al l,.string s5,.string s6,Aa n7] λn12=>
AP (Instr.buildSlice T.a37 1 #[(0,AN s9 s10 false n11)]) λl13=>
AH<|
Az F.a164 [Al r,Aa n8,l13.v] λn14=>
Ae n12 λn15=>
Ae n14 λn16=>
AH<|
Ai 1 [Aa n15,Aa n16]) <|
AP (Instr.buildSlice T.a37 1 #[(0,AN s9 s10 false n11)]) λl17=>
Az F.a71 [Al l,.string s5,.string s6,Aa n7] λn18=>
AH<|
Az F.a164 [Al r,Aa n8,l17.v] λn19=>
Ae n18 λn20=>
Ae n19 λn21=>
AH<|
Ai 1 [Aa n20,Aa n21]) λn22 n23=>
Ai 0 [Aa n22,Aa n23])<|
AT (n1 == 2) (
AR 1 (
AD<|
AE T.a49 a0 1 λs25=>
Ar T.a14 a0 3 λn26=>
AF T.a49 a0 1 λs27=>
AS T.a14 a0 3 λn28=>
Az F.a67 [Al l,.string s25,Aa n26] λn29=>
AH<|
Az F.a166 [Al r,.string s27,Aa n28] λn30=>
Ae n29 λn31=>
Ae n30 λn32=>
AH<|
Ai 1 [Aa n31,Aa n32]) λn33 n34=>
Ai 0 [Aa n33,Aa n34])<|
AP (Instr.buildSlice T.a37 0 #[]) λl35=>
AJ T.a37 a0 4 λl36=>
AP (app T.a37 T.a37 T.a37 l35.v l36.v) λl37=>
Ar T.a14 a0 3 λn38=>
Az F.a66 [Al l,Aa n38,l37.v] λn39=>
Ae n39 λn40=>
AC 1 (
AU 2 (0,()) λn41=>
Ag (decide (n41<(Ao l37))) (
Ae n41 λn42=>
.ex [.adr] (c1 λa43=>0<=n42/\n42<(Ao l37)/\l37.a=some a43) (u1 λa44=>
AI T.a49 (Addr.add a44 (Int.toNat n42*4)) 0 (.string (ByteArray.mk #[115,112,111,105,108,116]))<|
Ai 2 [Aa (Ah (n41+1))]))<|
Ai 1 [])<|
Ar T.a14 a0 3 λn45=>
AJ T.a37 a0 4 λl46=>
Az F.a164 [Al r,Aa n45,l46.v] λn47=>
Ae n40 λn48=>
Ae n47 λn49=>
Ai 0 [Aa n48,Aa n49]
theorem zp2 (l r:Option Addr) (o_0:Int) (o_1 o_2:ByteArray) (o_3:Int) (o_4:Sl):FnS (z02r l r o_0 o_1 o_2 o_3 o_4) F.a155 #[.pointer l,.pointer r,.agg #[.int .i64 o_0,.string o_1,.string o_2,.int .i64 o_3,.slice o_4.a o_4.len o_4.cap]]:=dV ⟨[(167772173,[(13,.one .bool)])],[(1,[])],[(4,[(6,.one (.int .i64)),(7,.one (.int .i64))]),(6,[(6,.one (.int .i64)),(7,.one (.int .i64))])],[(1,[(61,.one (.int .i64))])]⟩ Go.Proofs.Tryz.func16 (by kernel_rfl)
def z02t (l:Option Addr) (r:Option Addr):Prog :=
Ag (Option.isNone l) (
Ai 0 [.bool false])<|
AV F.a168 [Al r] λl0=>
AV F.a70 [Al l,.string (ByteArray.mk #[]),.string (ByteArray.mk #[]),Aa 1000] λl1=>
Az F.a69 [Al l] λn2=>
Ag (n2 != (Ao l0) || (Ao l1) != (Ao l0)) (
Ai 0 [.bool false])<|
AC 1 (
AU 2 (0,()) λn3=>
Ag (decide (n3<(Ao l0))) (
.ex [.adr] (c1 λa4=>0<=n3/\n3<(Ao l0)/\l0.a=some a4) (u1 λa5=>
AE T.a49 a5 (Int.toNat n3*1) λs6=>
Ae n3 λn7=>
AW s6 λs8=>
AX F.a68 [Al l,.string s8] λs9 b10=>
AW s9 λs11=>
Ay b10 λb12=>
AX F.a167 [Al r,.string s8] λs13 b14=>
AW s13 λs15=>
Ay b14 λb16=>
.ex [.adr] (c1 λa17=>(not b12 || not (ByteArray.toList s11 == ByteArray.toList s15))=false->0<=n7/\n7<(Ao l1)/\l1.a=some a17) (u1 λa18=>
AY ((not b12 || not (ByteArray.toList s11 == ByteArray.toList s15))=false) T.a49 (Addr.add (Addr.add a18 (Int.toNat n7*5)) 1) 0 λs19=>
.ex [.adr] (c1 λa20=>(not b12 || not (ByteArray.toList s11 == ByteArray.toList s15) || not (ByteArray.toList s19 == ByteArray.toList s8))=false->0<=n7/\n7<(Ao l1)/\l1.a=some a20) (u1 λa21=>
AY ((not b12 || not (ByteArray.toList s11 == ByteArray.toList s15) || not (ByteArray.toList s19 == ByteArray.toList s8))=false) T.a49 (Addr.add (Addr.add a21 (Int.toNat n7*5)) 1) 1 λs22=>
.ex [.adr] (c1 λa23=>(not b12 || not (ByteArray.toList s11 == ByteArray.toList s15) || not (ByteArray.toList s19 == ByteArray.toList s8) || not (ByteArray.toList s22 == ByteArray.toList s15))=false->0<=n7/\n7<(Ao l1)/\l1.a=some a23) (u1 λa24=>
AZ ((not b12 || not (ByteArray.toList s11 == ByteArray.toList s15) || not (ByteArray.toList s19 == ByteArray.toList s8) || not (ByteArray.toList s22 == ByteArray.toList s15))=false) T.a3 (Addr.add (Addr.add a24 (Int.toNat n7*5)) 1) 2 λb25=>
Ag (not b12 || not (ByteArray.toList s11 == ByteArray.toList s15) || not (ByteArray.toList s19 == ByteArray.toList s8) || not (ByteArray.toList s22 == ByteArray.toList s15) || b25) (
Ai 0 [.bool false])<|
Ai 2 [Aa (Ah (n3+1))])))))<|
Ai 1 [])<|
Ai 0 [.bool true]
theorem zp4 (l r:Option Addr):FnS (z02t l r) F.a157 #[.pointer l,.pointer r]:=dV ⟨[],[(0,[])],[],[(0,[(33,.one (.int .i64))])]⟩ Go.Proofs.Tryz.func17 (by kernel_rfl)
def z8w  : Prog :=
.call F.a37 [.int .i64 65536] (.tup [.one .ptr,.one (.int .i64)]) (u2 λp0 (n1:Int) =>
.lt (.int .i64) (n1) λ(n2:Int) =>
.call F.a156 [.int .i64 0] (sG [.int .i64,.int .i64,.int .i64]) (u3 λ(n3 n4 n5:Int) =>
.call F.a73 [.pointer p0,.string (ByteArray.mk #[120]),.agg #[.int .i64 n3,.int .i64 n4,.int .i64 n5]] (.tup [.one .ptr,.one (.int .i64)]) (u2 λp6 (n7:Int) =>
.lt (.int .i64) (n7) λ(n8:Int) =>
.ite (n8 != 0 || Option.isNone p6) (
.done 0 [.bool false]) (
.call F.a71 [.pointer p6,.string (ByteArray.mk #[97]),.string (ByteArray.mk #[49]),.int .i64 0] (sI .i64) (u1 λ(n9:Int) =>
.call F.a71 [.pointer p6,.string (ByteArray.mk #[97]),.string (ByteArray.mk #[50]),.int .i64 0] (sI .i64) (u1 λ(n10:Int) =>
.call F.a71 [.pointer p6,.string (ByteArray.mk #[98]),.string (ByteArray.mk #[120]),.int .i64 0] (sI .i64) (u1 λ(n11:Int) =>
.call F.a67 [.pointer p6,.string (ByteArray.mk #[98]),.int .i64 1] (sI .i64) (u1 λ(n12:Int) =>
.lt (.int .i64) (n9) λ(n13:Int) =>
.lt (.int .i64) (n10) λ(n14:Int) =>
.lt (.int .i64) (n11) λ(n15:Int) =>
.lt (.int .i64) (n12) λ(n16:Int) =>
.call F.a68 [.pointer p6,.string (ByteArray.mk #[97])] (.tup [.one .str,.one .bool]) (u2 λs17 b18 =>
.lt (.str) (s17) λs19 =>
.lt (.bool) (b18) λb20 =>
.call F.a68 [.pointer p6,.string (ByteArray.mk #[98])] (.tup [.one .str,.one .bool]) (u2 λs21 b22 =>
.lt (.str) (s21) λs23 =>
.lt (.bool) (b22) λb24 =>
.bind 1 [.one .bool] (
.ite (n13 == 0 && n14 == 0 && n15 == 0 && n16 == 0 && ByteArray.toList s19 == ByteArray.toList (ByteArray.mk #[50]) && b20 && not b24) (
.call F.a69 [.pointer p6] (sI .i64) (u1 λ(n25:Int) =>
.ite (n25 == 1) (
.call F.a72 [.pointer p6] (sI .i64) (u1 λ(n26:Int) =>
.ite (n26 == 3) (
.call F.a67 [.pointer p6,.string (ByteArray.mk #[98]),.int .i64 2] (sI .i64) (u1 λ(n27:Int) =>
.lt (.bool) (n27 == 3) λb28 =>
.done 1 [.bool b28])) (
.done 1 [.bool false]))) (
.done 1 [.bool false]))) (
.done 1 [.bool false])) (u1 λb29 =>
.done 0 [.bool b29])))))))))))
theorem za1 :FnS (z8w ) F.a154 #[]:=dV ⟨[],[],[(8,[(0,.one .bool)])],[]⟩ Go.Proofs.Tryz.func18 (by kernel_rfl)
def z02u (s:ByteArray):Prog :=
Ag (decide (((ByteArray.size s:Nat):Int)>12)) (
.must ((0:Int)<=12/\12<=((ByteArray.size s:Nat):Int)) <|
AW (ByteArray.extract s 0 12) λs0=>
Ai 0 [.string s0])<|
AW s λs1=>
Ai 0 [.string s1]
theorem zp5 (s:ByteArray):FnS (z02u s) F.a158 #[.string s]:=dV ⟨[],[],[],[]⟩ Go.Proofs.Tryz.func34 (by kernel_rfl)
def z092 (l:Option Addr) (key:ByteArray):Prog :=
Ag (Option.isNone l) (
Ai 0 [.string (ByteArray.mk #[]),.bool false])<|
AQ l λa1=>
AA T.a24 a1 0 λp2=>
.call F.a5 [Al p2,.string key] (.tup [.agg [.int .i64,.str,.str,.bool,.int .i64],.one .bool]) (u6 λ(n3:Int) s4 s5 b6 (n7:Int) b8=>
Ab T.a35 λa9=>
Ac T.a35 a9 (Ba n3 s4 s5 b6 n7)<|
Ay b8 λb10=>
AE T.a49 (Addr.add a9 1) 1 λs11=>
AW s11 λs12=>
Ay b10 λb13=>
Ai 0 [.string s12,.bool b13])
theorem zv0 (l:Option Addr) (key:ByteArray):FnS (z092 l key) F.a68 #[.pointer l,.string key]:=dV ⟨[],[],[],[]⟩ Go.Proofs.Tryz.func36 (by kernel_rfl)
def z095 (l:Option Addr) (key value:ByteArray) (time:Int):Prog :=
AP (Instr.buildSlice T.a37 1 #[(0,AN key value false time)]) λl0=>
Az F.a66 [Al l,Aa time,l0.v] λn1=>
Ae n1 λn2=>
Ai 0 [Aa n2]
theorem zv3 (l:Option Addr) (key value:ByteArray) (time:Int):FnS (z095 l key value time) F.a71 #[.pointer l,.string key,.string value,.int .i64 time]:=dV ⟨[],[],[],[]⟩ Go.Proofs.Tryz.func37 (by kernel_rfl)
def z091 (l:Option Addr) (key:ByteArray) (time:Int):Prog :=
Ag (Option.isNone l) (
Ai 0 [Aa 1])<|
AQ l λa1=>
AA T.a24 a1 0 λp2=>
.call F.a5 [Al p2,.string key] (.tup [.agg [.int .i64,.str,.str,.bool,.int .i64],.one .bool]) (u6 λ(n3:Int) s4 s5 b6 (n7:Int) b8=>
Ab T.a35 λa9=>
Ac T.a35 a9 (Ba n3 s4 s5 b6 n7)<|
Ay b8 λb10=>
Ag (not b10) (
Ai 0 [Aa 3])<|
AP (Instr.buildSlice T.a37 1 #[(0,.agg #[.string key,.string (ByteArray.mk #[]),.bool true,Aa time])]) λl11=>
Az F.a66 [Al l,Aa time,l11.v] λn12=>
Ae n12 λn13=>
Ai 0 [Aa n13])
theorem zuz (l:Option Addr) (key:ByteArray) (time:Int):FnS (z091 l key time) F.a67 #[.pointer l,.string key,.int .i64 time]:=dV ⟨[],[],[],[]⟩ Go.Proofs.Tryz.func38 (by kernel_rfl)
def z090 (l:Option Addr) (time:Int) (rs:Sl):Prog :=
Ag (Option.isNone l) (
Ai 0 [Aa 1])<|
Ab T.a0 λa0=>
Ac T.a0 a0 (Bb 0 0 0 0 0 time rs)<|
AD<|
AQ l λa2=>
AA T.a30 a2 1 λp3=>
Bc T.a0 a0 λn4 n5 n6 n7 n8 n9 l10=>
.call F.a78 [Al p3,Bb n4 n5 n6 n7 n8 n9 l10] (.tup [.one (.int .i64),.one .bool,.one (.int .i64)]) (u3 λ(n11:Int) b12 (n13:Int)=>
Ae n11 λn14=>
Ay b12 λb15=>
Ae n13 λn16=>
AH<|
Ag (n16 != 0) (
Ae n16 λn17=>
Ai 0 [Aa n17])<|
AI T.a14 a0 0 (Aa n14)<|
AC 1 (
AD<|
AQ l λa19=>
Bd T.a24 a19 0 λp20=>
Bc T.a0 a0 λn21 n22 n23 n24 n25 n26 l27=>
AP (Instr.buildSlice T.a36 1 #[(0,Bb n21 n22 n23 n24 n25 n26 l27)]) λl28=>
AV F.a95 [l28.v] λl29=>
AH<|
Az F.a4 [Al p20,l29.v] λn30=>
AH<|
Ai 1 [])<|
Ai 0 [Aa 0])
theorem zuy (l:Option Addr) (time:Int) (rs:Sl):FnS (z090 l time rs) F.a66 #[.pointer l,.int .i64 time,.slice rs.a rs.len rs.cap]:=dV ⟨[],[],[(8,[])],[]⟩ Go.Proofs.Tryz.func39 (by kernel_rfl)
def z094 (l:Option Addr) (from_ to_:ByteArray) (most:Int):Prog :=
Ag (Option.isNone l) (
Ai 0 [.slice none 0 0])<|
AQ l λa1=>
AA T.a24 a1 0 λp2=>
AV F.a7 [Al p2,.string from_,.string to_,Aa most] λl3=>
Ai 0 [l3.v]
theorem zv2 (l:Option Addr) (from_ to_:ByteArray) (most:Int):FnS (z094 l from_ to_ most) F.a70 #[.pointer l,.string from_,.string to_,.int .i64 most]:=dV ⟨[],[],[],[]⟩ Go.Proofs.Tryz.func40 (by kernel_rfl)
def z093 (l:Option Addr):Prog :=
Ag (Option.isNone l) (
Ai 0 [Aa 0])<|
AQ l λa1=>
AA T.a24 a1 0 λp2=>
Az F.a6 [Al p2] λn3=>
Ae n3 λn4=>
Ai 0 [Aa n4]
theorem zv1 (l:Option Addr):FnS (z093 l) F.a69 #[.pointer l]:=dV ⟨[],[],[],[]⟩ Go.Proofs.Tryz.func41 (by kernel_rfl)
def z096 (l:Option Addr):Prog :=
Ag (Option.isNone l) (
Ai 0 [Aa 0])<|
AQ l λa1=>
AA T.a30 a1 1 λp2=>
AV F.a79 [Al p2] λl3=>
Af 1 (
Be 2 (0,(0,())) λn4 n5=>
Ag (decide (n5<(Ao l3))) (
.ex [.adr] (c1 λa6=>0<=n5/\n5<(Ao l3)/\l3.a=some a6) (u1 λa7=>
Bf T.a0 a7 (Int.toNat n5*7) λn8 n9 n10 n11 n12 n13 l14=>
Ab T.a0 λa15=>
Ac T.a0 a15 (Bb n8 n9 n10 n11 n12 n13 l14)<|
AJ T.a37 a15 6 λl16=>
Ae (Ah (n4+(Ao l16))) λn17=>
Ai 2 [Aa n17,Aa (Ah (n5+1))]))<|
Ai 1 [Aa n4]) λn18=>
Az F.a69 [Al l] λn19=>
Ae (Ah (n18-n19)) λn20=>
Ai 0 [Aa n20]
theorem zv4 (l:Option Addr):FnS (z096 l) F.a72 #[.pointer l]:=dV ⟨[],[(0,[(3,.one (.int .i64))])],[],[(0,[(3,.one (.int .i64)),(14,.one (.int .i64))])]⟩ Go.Proofs.Tryz.func42 (by kernel_rfl)
def z098 (d:Option Addr) (prefix_:ByteArray) (c_0 c_1:Int) (c_2:Int):Prog :=
Am T.a33 (Ad c_0 c_1 c_2) λa0=>
Ar T.a13 a0 2 λn1=>
As (decide (n1<1)=false) T.a13 a0 2 λn2=>
Ag (decide (n1<1) || decide (n2>1024)) (
Ag (Option.isNone d) (
Ai 0 [Al none,Aa 1])<|
Ai 0 [Al none,Aa 2])<|
Bg (ld T.a46 (Addr.add a0 0)) λn3 n4=>
Aj F.a128 [Al d,.string prefix_,Bh n3 n4] λp5 n6=>
Ae n6 λn7=>
Ag (n7 != 0) (
Ae n7 λn8=>
Ai 0 [Al none,Aa n8])<|
Ar T.a13 a0 2 λn9=>
Am T.a34 (.agg #[Al p5,Al d,.string prefix_,Aa n9,Al none,Al none]) λa10=>
Ax 1 (
AG F.a89 [AB a10] λs11=>
Az F.a31 [Al d,.string s11] λn12=>
Ag (decide (n12>0)) (
Ai 1 [.bool true])<|
AG F.a89 [AB a10] λs13=>
Aw F.a90 [Al d,.string s13] λb14=>
Ai 1 [.bool b14]) λb15=>
AC 1 (
Ag b15 (
AG F.a89 [AB a10] λs16=>
Az F.a30 [Al d,.string s16] λn17=>
Ae n17 λn18=>
Ag (n18 != 0) (
Ae n18 λn19=>
Ai 0 [Al none,Aa n19])<|
Ai 1 [])<|
Ai 1 [])<|
Az F.a85 [AB a10] λn20=>
Ae n20 λn21=>
AV F.a109 [Al p5] λl22=>
AC 1 (
AU 2 (0,()) λn23=>
Ag (decide (n23<(Ao l22))) (
.ex [.adr] (c1 λa24=>0<=n23/\n23<(Ao l22)/\l22.a=some a24) (u1 λa25=>
Bf T.a0 a25 (Int.toNat n23*7) λn26 n27 n28 n29 n30 n31 l32=>
Ab T.a0 λa33=>
Ac T.a0 a33 (Bb n26 n27 n28 n29 n30 n31 l32)<|
Ar T.a14 a33 0 λn34=>
AC 3 (
Ag (decide (n34>=n21)) (
Bc T.a0 a33 λn35 n36 n37 n38 n39 n40 l41=>
Bi F.a88 [AB a10,Bb n35 n36 n37 n38 n39 n40 l41]<|
Ai 3 [])<|
Ai 3 [])<|
Ai 2 [Aa (Ah (n23+1))]))<|
Ai 1 [])<|
Ai 0 [AB a10,Aa 0]
theorem zv6 (d:Option Addr) (prefix_:ByteArray) (c_0 c_1 c_2:Int):FnS (z098 d prefix_ c_0 c_1 c_2) F.a77 #[.pointer d,.string prefix_,.agg #[.int .i64 c_0,.int .i64 c_1,.int .i64 c_2]]:=dV ⟨[(18741891978888913616950,[]),(1083197534374707740536733770,[])],[(0,[])],[(9,[(54,.one .bool)])],[(0,[(67,.one (.int .i64))])]⟩ Go.Proofs.Tryz.func63 (by kernel_rfl)
def zer  : Prog :=
.act (Instr.box T.a4 (.agg #[.int .i64 0,.slice none 0 0])) sA (u1 λa0 =>
.done 0 [.pointer (some a0)])
theorem zem :FnS (zer ) F.a3 #[]:=dV ⟨[],[],[],[]⟩ Go.Proofs.Tryz.func64 (by kernel_rfl)
def z09d (p:Option Addr) (offset most:Int) (committed:Bool):Prog :=
Ag (Option.isNone p) (
Ai 0 [.slice none 0 0,Aa 0,Aa 1])<|
AQ p λa1=>
AA T.a31 (Addr.add a1 0) 0 λp2=>
Bj F.a113 [Al p2,Aa offset,Aa most] λl3 n4=>
Ae n4 λn5=>
Ag (n5 != 0) (
Ae n5 λn6=>
Ai 0 [.slice none 0 0,Aa 0,Aa n6])<|
Ae offset λn7=>
.bind 1 [.one .slc,.one (.int .i64)] (
.loop 2 [.one .slc,.one (.int .i64),.one (.int .i64)] (⟨none,0,0⟩,(n7,(0,()))) (u3 λl8 (n9 n10:Int)=>
Ag (decide (n10<(Ao l3))) (
.ex [.adr] (c1 λa11=>0<=n10/\n10<(Ao l3)/\l3.a=some a11) (u1 λa12=>
Bf T.a0 a12 (Int.toNat n10*7) λn13 n14 n15 n16 n17 n18 l19=>
Ab T.a0 λa20=>
Ac T.a0 a20 (Bb n13 n14 n15 n16 n17 n18 l19)<|
Ax 3 (
AD<|
Bk (committed=true) (ld T.a14 (Addr.add a20 0)) λn21=>
Ag committed (
Az F.a83 [Al p] λn22=>
AH<|
Ai 3 [.bool (decide (n21>=n22))])<|
AH<|
Ai 3 [.bool false]) λb23=>
Ag b23 (
Ai 1 [l8.v,Aa n9])<|
Ax 3 (
AD<|
Bl (not committed=false) p λa25=>
.read (not committed=false) (ld T.a29 (Addr.add a25 5)) sP (u1 λp26=>
Bn (not committed=false) T.a0 a20 λn27 n28 n29 n30 n31 n32 l33=>
Ag (not committed) (
AH<|
Ai 3 [.bool true])<|
Az F.a56 [Al p26,Bb n27 n28 n29 n30 n31 n32 l33] λn34=>
AH<|
Ai 3 [.bool (n34 == 1)])) λb35=>
AK 3 (
Ag b35 (
Bc T.a0 a20 λn36 n37 n38 n39 n40 n41 l42=>
AP (Instr.buildSlice T.a36 1 #[(0,Bb n36 n37 n38 n39 n40 n41 l42)]) λl43=>
AV F.a95 [l43.v] λl44=>
AP (app T.a42 T.a42 T.a42 l8.v l44.v) λl45=>
Ai 3 [l45.v])<|
Ai 3 [l8.v]) λl46=>
Bc T.a0 a20 λn47 n48 n49 n50 n51 n52 l53=>
Az F.a97 [Bb n47 n48 n49 n50 n51 n52 l53] λn54=>
Ae n54 λn55=>
Ai 2 [l46.v,Aa n55,Aa (Ah (n10+1))]))<|
Ai 1 [l8.v,Aa n9])) (u2 λl56 (n57:Int)=>
Ae n57 λn58=>
Ai 0 [l56.v,Aa n58,Aa 0])
theorem zvb (p:Option Addr) (offset most:Int) (committed:Bool):FnS (z09d p offset most committed) F.a82 #[.pointer p,.int .i64 offset,.int .i64 most,.bool committed]:=dV ⟨[(73196680484479534366778,[(13,.one .slc)])],[(0,[(13,.one .slc),(14,.one (.int .i64))])],[(11,[(47,.one .bool)]),(12,[(58,.one .bool)])],[(0,[(13,.one .slc),(14,.one (.int .i64)),(36,.one (.int .i64))])]⟩ Go.Proofs.Tryz.func65 (by kernel_rfl)
def z09b (p:Option Addr):Prog :=
Ag (Option.isNone p) (
Ai 0 [Aa 0])<|
AQ p λa1=>
AA T.a31 (Addr.add a1 0) 0 λp2=>
Az F.a111 [Al p2] λn3=>
Ae n3 λn4=>
Ai 0 [Aa n4]
theorem zv9 (p:Option Addr):FnS (z09b p) F.a80 #[.pointer p]:=dV ⟨[],[],[],[]⟩ Go.Proofs.Tryz.func66 (by kernel_rfl)
def zf3 (t:Option Addr) (l:Sl):Prog :=
AT (Option.isNone t) (
Ai 0 [Aa 1])<|
AQ t λa2=>
Ar T.a14 a2 0 λn3=>
Aw F.a12 [Aa n3,l.v] λb4=>
.ex [.adr] (c1 λa5=>not b4=false/\decide ((Ao l)>0)=true->0<=Ah ((Ao l)-1)/\Ah ((Ao l)-1)<(Ao l)/\l.a=some a5) (u1 λa6=>
As (not b4=false/\decide ((Ao l)>0)=true) T.a14 (Addr.add a6 (Int.toNat (Ah ((Ao l)-1))*5)) 0 λn7=>
AT (not b4 || decide ((Ao l)>0) && decide (n7>1099511627776)) (
Ai 0 [Aa 8])<|
AC 1 (
AU 2 (0,()) λn9=>
Ag (decide (n9<(Ao l))) (
.ex [.adr] (c1 λa10=>0<=n9/\n9<(Ao l)/\l.a=some a10) (u1 λa11=>
Bo T.a35 a11 (Int.toNat n9*5) λn12 s13 s14 b15 n16=>
Ab T.a35 λa17=>
Ac T.a35 a17 (Ba n12 s13 s14 b15 n16)<|
Bp T.a35 a17 λn18 s19 s20 b21 n22=>
Bi F.a11 [Al t,Ba n18 s19 s20 b21 n22]<|
Ai 2 [Aa (Ah (n9+1))]))<|
Ai 1 [])<|
Ai 0 [Aa 0])
theorem zy5 (t:Option Addr) (l:Sl):FnS (zf3 t l) F.a4 #[.pointer t,.slice l.a l.len l.cap]:=dV ⟨[],[(1,[])],[],[(1,[(35,.one (.int .i64))])]⟩ Go.Proofs.Tryz.func67 (by kernel_rfl)
def z030 (l:Option Addr) (time:Int) (rs:Sl):Prog :=
Az F.a162 [Bb 0 0 0 0 0 time rs] λn0=>
Ae n0 λn1=>
AC 1 (
Ag (n1 == 0) (
AQ l λa3=>
AJ T.a37 a3 0 λl4=>
AP (app T.a37 T.a37 T.a37 (.slice none 0 0) l4.v) λl5=>
AP (app T.a37 T.a37 T.a37 l5.v rs.v) λl6=>
AQ l λa8=>
AI T.a37 a8 0 l6.v<|
Ai 1 [])<|
Ai 1 [])<|
Ae n1 λn9=>
Ai 0 [Aa n9]
theorem zpb (l:Option Addr) (time:Int) (rs:Sl):FnS (z030 l time rs) F.a164 #[.pointer l,.int .i64 time,.slice rs.a rs.len rs.cap]:=dV ⟨[(549622644750,[])],[],[],[]⟩ Go.Proofs.Tryz.func68 (by kernel_rfl)
def z032 (l:Option Addr) (key:ByteArray) (time:Int):Prog :=
AX F.a167 [Al l,.string key] λs0 b1=>
AW s0 λs2=>
Ay b1 λb3=>
Ag (not b3) (
Ai 0 [Aa 3])<|
AP (Instr.buildSlice T.a37 1 #[(0,.agg #[.string key,.string (ByteArray.mk #[]),.bool true,Aa time])]) λl4=>
Az F.a164 [Al l,Aa time,l4.v] λn5=>
Ae n5 λn6=>
Ai 0 [Aa n6]
theorem zpd (l:Option Addr) (key:ByteArray) (time:Int):FnS (z032 l key time) F.a166 #[.pointer l,.string key,.int .i64 time]:=dV ⟨[],[],[],[]⟩ Go.Proofs.Tryz.func69 (by kernel_rfl)
def z034 (l:Option Addr):Prog :=
.loop 1 [.one .slc] (⟨none,0,0⟩,()) (u1 λl0=>
AK 2 (
AQ l λa2=>
AJ T.a37 a2 0 λl3=>
.bind 3 [.one .str,.one .bool] (
.loop 4 [.one .str,.one .bool,.one (.int .i64)] ((ByteArray.mk #[]),(false,(0,()))) (u3 λs4 b5 (n6:Int)=>
Ag (decide (n6<(Ao l3))) (
.ex [.adr] (c1 λa7=>0<=n6/\n6<(Ao l3)/\l3.a=some a7) (u1 λa8=>
AM T.a2 a8 (Int.toNat n6*4) λs9 s10 b11 n12=>
Ab T.a2 λa13=>
Ac T.a2 a13 (AN s9 s10 b11 n12)<|
AE T.a49 a13 0 λs14=>
AX F.a167 [Al l,.string s14] λs15 b16=>
AW s15 λs17=>
Ay b16 λb18=>
AD<|
AY (b18=true/\((Ao l0) == 0)=false) T.a49 a13 0 λs19=>
.ex [.adr] (c1 λa20=>b18=true/\((Ao l0) == 0)=false->0<=Ah ((Ao l0)-1)/\Ah ((Ao l0)-1)<(Ao l0)/\l0.a=some a20) (u1 λa21=>
AY (b18=true/\((Ao l0) == 0)=false) T.a49 a21 (Int.toNat (Ah ((Ao l0)-1))*1) λs22=>
AY ((b18 && ((Ao l0) == 0 || not (Op.bytesLess (ByteArray.toList s19) (ByteArray.toList s22) || ByteArray.toList s19 == ByteArray.toList s22)))=true/\not b5=false) T.a49 a13 0 λs23=>
AH<|
.bind 5 [.one .str,.one .bool] (
Ag (b18 && ((Ao l0) == 0 || not (Op.bytesLess (ByteArray.toList s19) (ByteArray.toList s22) || ByteArray.toList s19 == ByteArray.toList s22)) && (not b5 || Op.bytesLess (ByteArray.toList s23) (ByteArray.toList s4))) (
AE T.a49 a13 0 λs24=>
AW s24 λs25=>
Ai 5 [.string s25,.bool true])<|
Ai 5 [.string s4,.bool b5]) (u2 λs26 b27=>
Ai 4 [.string s26,.bool b27,Aa (Ah (n6+1))]))))<|
Ai 3 [.string s4,.bool b5])) (u2 λs28 b29=>
Ag (not b29) (
Ai 0 [l0.v])<|
AP (Instr.buildSlice T.a44 1 #[(0,.string s28)]) λl30=>
AP (app T.a44 T.a44 T.a44 l0.v l30.v) λl31=>
Ai 2 [l31.v])) λl32=>
Ai 1 [l32.v])
theorem zpf (l:Option Addr):FnS (z034 l) F.a168 #[.pointer l]:=dV ⟨[(110680464442257506356,[(4,.one .str),(5,.one .bool)])],[(1,[(3,.one .slc)]),(2,[(4,.one .str),(5,.one .bool)])],[],[(0,[(3,.one .slc)]),(2,[(4,.one .str),(5,.one .bool),(15,.one (.int .i64))])]⟩ Go.Proofs.Tryz.func70 (by kernel_rfl)
def z033 (l:Option Addr) (key:ByteArray):Prog :=
AQ l λa1=>
AJ T.a37 a1 0 λl2=>
Ae (Ah ((Ao l2)-1)) λn3=>
AC 1 (
AU 2 (n3,()) λn4=>
Ag (decide (n4>=0)) (
AQ l λa6=>
AJ T.a37 a6 0 λl7=>
.ex [.adr] (c1 λa8=>0<=n4/\n4<(Ao l7)/\l7.a=some a8) (u1 λa9=>
AE T.a49 (Addr.add a9 (Int.toNat n4*4)) 0 λs10=>
Ag (ByteArray.toList s10 == ByteArray.toList key) (
AD<|
AQ l λa12=>
AJ T.a37 a12 0 λl13=>
.ex [.adr] (c1 λa14=>0<=n4/\n4<(Ao l13)/\l13.a=some a14) (u1 λa15=>
AE T.a49 (Addr.add a15 (Int.toNat n4*4)) 1 λs16=>
AQ l λa18=>
AJ T.a37 a18 0 λl19=>
.ex [.adr] (c1 λa20=>0<=n4/\n4<(Ao l19)/\l19.a=some a20) (u1 λa21=>
Bq T.a3 (Addr.add a21 (Int.toNat n4*4)) 2 λb22=>
AW s16 λs23=>
Ay (not b22) λb24=>
AH<|
Ai 0 [.string s23,.bool b24])))<|
Ae (Ah (n4-1)) λn25=>
Ai 2 [Aa n25]))<|
Ai 1 [])<|
Ai 0 [.string (ByteArray.mk #[]),.bool false]
theorem zpe (l:Option Addr) (key:ByteArray):FnS (z033 l key) F.a167 #[.pointer l,.string key]:=dV ⟨[],[(0,[])],[],[(0,[(6,.one (.int .i64))])]⟩ Go.Proofs.Tryz.func71 (by kernel_rfl)
def z099 (p:Option Addr) (b_0 b_1 b_2 b_3 b_4 b_5:Int) (b_6:Sl):Prog :=
Am T.a0 (Bb b_0 b_1 b_2 b_3 b_4 b_5 b_6) λa0=>
AT (Option.isNone p) (
Ai 0 [Aa 0,.bool false,Aa 1])<|
Bc T.a0 a0 λn2 n3 n4 n5 n6 n7 l8=>
Aw F.a91 [Bb n2 n3 n4 n5 n6 n7 l8] λb9=>
AT b9 (
Ai 0 [Aa 0,.bool false,Aa 2])<|
Bc T.a0 a0 λn11 n12 n13 n14 n15 n16 l17=>
.call F.a86 [Al p,Bb n11 n12 n13 n14 n15 n16 l17] (.tup [.one (.int .i64),.one .bool,.one (.int .i64)]) (u3 λ(n18:Int) b19 (n20:Int)=>
Ae n18 λn21=>
Ay b19 λb22=>
Ae n20 λn23=>
Ai 0 [Aa n21,.bool b22,Aa n23])
theorem zv7 (p:Option Addr) (b_0 b_1 b_2 b_3 b_4 b_5:Int) (b_6:Sl):FnS (z099 p b_0 b_1 b_2 b_3 b_4 b_5 b_6) F.a78 #[.pointer p,.agg #[.int .i64 b_0,.int .i64 b_1,.int .i64 b_2,.int .i64 b_3,.int .i64 b_4,.int .i64 b_5,.slice b_6.a b_6.len b_6.cap]]:=dV ⟨[],[],[],[]⟩ Go.Proofs.Tryz.func84 (by kernel_rfl)
def z09a (p:Option Addr):Prog :=
Ag (Option.isNone p) (
Ai 0 [.slice none 0 0])<|
AQ p λa1=>
AA T.a31 (Addr.add a1 0) 0 λp2=>
AV F.a109 [Al p2] λl3=>
Ai 0 [l3.v]
theorem zv8 (p:Option Addr):FnS (z09a p) F.a79 #[.pointer p]:=dV ⟨[],[],[],[]⟩ Go.Proofs.Tryz.func86 (by kernel_rfl)
def zf4 (t:Option Addr) (key:ByteArray):Prog :=
Ab T.a35 λa0=>
Ag (Option.isNone t) (
Ac T.a35 a0 (.agg #[Aa 0,.string (ByteArray.mk #[]),.string (ByteArray.mk #[]),.bool false,Aa 0])<|
Bp T.a35 a0 λn1 s2 s3 b4 n5=>
Ai 0 [Ba n1 s2 s3 b4 n5,.bool false])<|
Br F.a8 [Al t,.string key] λn6 b7=>
Ae n6 λn8=>
Ay b7 λb9=>
Ag (not b9) (
Ac T.a35 a0 (.agg #[Aa 0,.string (ByteArray.mk #[]),.string (ByteArray.mk #[]),.bool false,Aa 0])<|
Bp T.a35 a0 λn10 s11 s12 b13 n14=>
Ai 0 [Ba n10 s11 s12 b13 n14,.bool false])<|
AQ t λa16=>
AJ T.a42 a16 1 λl17=>
.ex [.adr] (c1 λa18=>0<=n8/\n8<(Ao l17)/\l17.a=some a18) (u1 λa19=>
Bo T.a35 a19 (Int.toNat n8*5) λn20 s21 s22 b23 n24=>
Ac T.a35 a0 (Ba n20 s21 s22 b23 n24)<|
Bp T.a35 a0 λn25 s26 s27 b28 n29=>
Ai 0 [Ba n25 s26 s27 b28 n29,.bool true])
theorem zy6 (t:Option Addr) (key:ByteArray):FnS (zf4 t key) F.a5 #[.pointer t,.string key]:=dV ⟨[],[],[],[]⟩ Go.Proofs.Tryz.func87 (by kernel_rfl)
def zf6 (t:Option Addr) (from_ to_:ByteArray) (most:Int):Prog :=
Ag (Option.isNone t) (
Ai 0 [.slice none 0 0])<|
AD<|
AQ t λa1=>
Bs T.a42 a1 1 λl2=>
Az F.a9 [Al t,.string from_] λn3=>
.must (0<=n3/\n3<=(Ao l2)) <|
AH<|
AK 1 (
AL 2 (⟨none,0,0⟩,(0,())) λl4 n5=>
Ag (decide (n5<((l2.len-Int.toNat n3:Nat):Int))) (
.ex [.adr] (c1 λa6=>0<=n5/\n5<((l2.len-Int.toNat n3:Nat):Int)/\z0w l2.a 5 (Int.toNat n3) l2.cap=some a6) (u1 λa7=>
Bo T.a35 a7 (Int.toNat n5*5) λn8 s9 s10 b11 n12=>
Ab T.a35 λa13=>
Ac T.a35 a13 (Ba n8 s9 s10 b11 n12)<|
AY (not (ByteArray.toList to_ == ByteArray.toList (ByteArray.mk #[]))=true) T.a49 (Addr.add a13 1) 0 λs14=>
Ag (not (ByteArray.toList to_ == ByteArray.toList (ByteArray.mk #[])) && not (Op.bytesLess (ByteArray.toList s14) (ByteArray.toList to_)) || decide ((Ao l4)>=most)) (
Ai 1 [l4.v])<|
Bp T.a35 a13 λn15 s16 s17 b18 n19=>
AP (Instr.buildSlice T.a42 1 #[(0,Ba n15 s16 s17 b18 n19)]) λl20=>
AP (app T.a42 T.a42 T.a42 l4.v l20.v) λl21=>
Ai 2 [l21.v,Aa (Ah (n5+1))]))<|
Ai 1 [l4.v]) λl22=>
Ai 0 [l22.v]
theorem zy8 (t:Option Addr) (from_ to_:ByteArray) (most:Int):FnS (zf6 t from_ to_ most) F.a7 #[.pointer t,.string from_,.string to_,.int .i64 most]:=dV ⟨[],[(0,[(9,.one .slc)])],[],[(0,[(9,.one .slc),(23,.one (.int .i64))])]⟩ Go.Proofs.Tryz.func90 (by kernel_rfl)
def zf5 (t:Option Addr):Prog :=
Ag (Option.isNone t) (
Ai 0 [Aa 0])<|
AQ t λa1=>
AJ T.a42 a1 1 λl2=>
Ae (Ao l2) λn3=>
Ai 0 [Aa n3]
theorem zy7 (t:Option Addr):FnS (zf5 t) F.a6 #[.pointer t]:=dV ⟨[],[],[],[]⟩ Go.Proofs.Tryz.func91 (by kernel_rfl)
def z09k (p:Option Addr):Prog :=
AQ p λa1=>
AE T.a49 (Addr.add a1 0) 2 λs2=>
.must (((ByteArray.size s2+4:Nat):Int)<=9223372036854775807) <|
AW (s2++(ByteArray.mk #[46,116,109,112])) λs3=>
Ai 0 [.string s3]
theorem zvi (p:Option Addr):FnS (z09k p) F.a89 #[.pointer p]:=dV ⟨[],[],[],[]⟩ Go.Proofs.Tryz.func121 (by kernel_rfl)
def z09l (d:Option Addr) (name:ByteArray):Prog :=
Bj F.a29 [Al d,.string name] λl0 n1=>
Ae n1 λn2=>
Ay (n2 == 0) λb3=>
Ai 0 [.bool b3]
theorem zvj (d:Option Addr) (name:ByteArray):FnS (z09l d name) F.a90 #[.pointer d,.string name]:=dV ⟨[],[],[],[]⟩ Go.Proofs.Tryz.func122 (by kernel_rfl)
def z09g (p:Option Addr):Prog :=
AQ p λa1=>
Ar T.a13 a1 3 λn2=>
Aj F.a14 [Aa n2] λp3 n4=>
AQ p λa6=>
AI T.a25 a6 4 (Al p3)<|
Au F.a54 [] λp7=>
AQ p λa9=>
AI T.a29 a9 5 (Al p7)<|
AK 1 (
AD<|
AQ p λa11=>
Bd T.a26 (Addr.add a11 0) 1 λp12=>
AG F.a87 [Al p] λs13=>
AH<|
Bj F.a29 [Al p12,.string s13] λl14 n15=>
Ae n15 λn16=>
AH<|
Ai 1 [l14.v]) λl17=>
.call F.a41 [l17.v] (.tup [.one .slc,.one .bool]) (u2 λl18 b19=>
Ay b19 λb20=>
Ag (not b20) (
Ai 0 [Aa 0])<|
Au F.a172 [l18.v] λp21=>
Bt F.a179 [Al p21] λn22=>
AG F.a178 [Al p21,Aa 262144] λs23=>
AG F.a178 [Al p21,Aa 262144] λs24=>
Bu n22 λn25=>
AW s23 λs26=>
AW s24 λs27=>
Ax 1 (
Az F.a174 [Al p21] λn28=>
Ag (n28 != 0) (
Ai 1 [.bool true])<|
Az F.a81 [Al p] λn29=>
Ag (decide (n25>IntKind.wrap .u64 n29)) (
Ai 1 [.bool true])<|
Az F.a80 [Al p] λn30=>
Ai 1 [.bool (decide (Ah n25<n30))]) λb31=>
Ag b31 (
Ai 0 [Aa 0])<|
AP (convert T.a49 T.a45 (.string s26)) λl32=>
AQ p λa34=>
Ar T.a13 a34 3 λn35=>
Aj F.a13 [l32.v,Aa n35] λp36 n37=>
Ae n37 λn38=>
Ax 1 (
Ag (n38 != 0) (
Ai 1 [.bool true])<|
Az F.a18 [Al p36] λn39=>
Ai 1 [.bool (decide (n39>Ah n25))]) λb40=>
Ag b40 (
Ai 0 [Aa 0])<|
AP (convert T.a49 T.a45 (.string s27)) λl41=>
Aj F.a53 [l41.v] λp42 n43=>
Ae n43 λn44=>
Ax 1 (
Ag (n44 != 0) (
Ai 1 [.bool true])<|
Az F.a58 [Al p42] λn45=>
Ai 1 [.bool (decide (n45>Ah n25))]) λb46=>
Ag b46 (
Ai 0 [Aa 0])<|
AQ p λa48=>
AI T.a25 a48 4 (Al p36)<|
AQ p λa50=>
AI T.a29 a50 5 (Al p42)<|
Ae (Ah n25) λn51=>
Ai 0 [Aa n51])
theorem zve (p:Option Addr):FnS (z09g p) F.a85 #[.pointer p]:=dV ⟨[],[],[(3,[(3,.one .slc)]),(9,[(71,.one .bool)]),(12,[(90,.one .bool)]),(15,[(105,.one .bool)])],[]⟩ Go.Proofs.Tryz.func124 (by kernel_rfl)
def z09j (p:Option Addr) (b_0 b_1 b_2 b_3 b_4 b_5:Int) (b_6:Sl):Prog :=
Am T.a0 (Bb b_0 b_1 b_2 b_3 b_4 b_5 b_6) λa0=>
AD<|
AQ p λa2=>
AA T.a25 a2 4 λp3=>
Bc T.a0 a0 λn4 n5 n6 n7 n8 n9 l10=>
Az F.a19 [Al p3,Bb n4 n5 n6 n7 n8 n9 l10] λn11=>
AH<|
AD<|
AQ p λa13=>
AA T.a29 a13 5 λp14=>
Bc T.a0 a0 λn15 n16 n17 n18 n19 n20 l21=>
Az F.a62 [Al p14,Bb n15 n16 n17 n18 n19 n20 l21] λn22=>
AH<|
Ai 0 []
theorem zvh (p:Option Addr) (b_0 b_1 b_2 b_3 b_4 b_5:Int) (b_6:Sl):FnS (z09j p b_0 b_1 b_2 b_3 b_4 b_5 b_6) F.a88 #[.pointer p,.agg #[.int .i64 b_0,.int .i64 b_1,.int .i64 b_2,.int .i64 b_3,.int .i64 b_4,.int .i64 b_5,.slice b_6.a b_6.len b_6.cap]]:=dV ⟨[],[],[],[]⟩ Go.Proofs.Tryz.func126 (by kernel_rfl)
def z09e (p:Option Addr):Prog :=
Ag (Option.isNone p) (
Ai 0 [Aa 0])<|
AQ p λa1=>
AA T.a29 a1 5 λp2=>
AV F.a59 [Al p2] λl3=>
Ag ((Ao l3) == 0) (
Az F.a81 [Al p] λn4=>
Ae n4 λn5=>
Ai 0 [Aa n5])<|
AQ p λa7=>
AA T.a29 a7 5 λp8=>
Az F.a61 [Al p8] λn9=>
Az F.a80 [Al p] λn10=>
Ae (if n10>n9 then n10 else n9) λn11=>
Ai 0 [Aa n11]
theorem zvc (p:Option Addr):FnS (z09e p) F.a83 #[.pointer p]:=dV ⟨[],[],[],[]⟩ Go.Proofs.Tryz.func128 (by kernel_rfl)
def z08t (v:Option Addr) (b_0 b_1 b_2 b_3 b_4 b_5:Int) (b_6:Sl):Prog :=
Am T.a0 (Bb b_0 b_1 b_2 b_3 b_4 b_5 b_6) λa0=>
Ag (Option.isNone v) (
Ai 0 [Aa 0])<|
Bv 1 (
AD<|
AQ v λa2=>
Bw T.a22 a2 2 λm3=>
AS T.a14 a0 1 λn4=>
AS T.a13 a0 2 λn5=>
Bx (Instr.lookup T.a22 (.map m3) (Bh n4 n5) true) λn6 n7 n8 n9 b10=>
Ab T.a18 λa11=>
AH<|
Ac T.a18 a11 (By n6 n7 n8 n9)<|
Ay b10 λb12=>
AH<|
Ai 1 [AB a11,.bool b12]) λa13 b14=>
Bc T.a0 a0 λn15 n16 n17 n18 n19 n20 l21=>
Aw F.a65 [Bb n15 n16 n17 n18 n19 n20 l21] λb22=>
AT b22 (
Ai 0 [Aa 3])<|
AD<|
AS T.a14 a0 0 λn24=>
Az F.a61 [Al v] λn25=>
Ay (decide (n24>=n25)) λb26=>
AH<|
Ag b26 (
Ai 0 [Aa 0])<|
Ar T.a13 a0 4 λn27=>
As ((n27 == 1 && b14)=true) T.a14 a0 0 λn28=>
As ((n27 == 1 && b14)=true) T.a14 a13 2 λn29=>
AT (n27 == 1 && b14 && decide (n28>=n29)) (
Ai 0 [Aa 2])<|
Ai 0 [Aa 1]
theorem zup (v:Option Addr) (b_0 b_1 b_2 b_3 b_4 b_5:Int) (b_6:Sl):FnS (z08t v b_0 b_1 b_2 b_3 b_4 b_5 b_6) F.a56 #[.pointer v,.agg #[.int .i64 b_0,.int .i64 b_1,.int .i64 b_2,.int .i64 b_3,.int .i64 b_4,.int .i64 b_5,.slice b_6.a b_6.len b_6.cap]]:=dV ⟨[],[],[(3,[(5,.one .adr),(6,.one .bool)])],[]⟩ Go.Proofs.Tryz.func129 (by kernel_rfl)
def z07q (from_:Int) (l:Sl):Prog :=
AC 1 (
AU 2 (0,()) λn0=>
Ag (decide (n0<(Ao l))) (
.ex [.adr] (c1 λa1=>0<=n0/\n0<(Ao l)/\l.a=some a1) (u1 λa2=>
Bo T.a35 a2 (Int.toNat n0*5) λn3 s4 s5 b6 n7=>
Ab T.a35 λa8=>
Ae n0 λn9=>
Ac T.a35 a8 (Ba n3 s4 s5 b6 n7)<|
AD<|
As ((n9 == 0)=true) T.a14 a8 0 λn10=>
As ((n9 == 0 && decide (n10<from_))=false/\decide (n9>0)=true) T.a14 a8 0 λn11=>
.ex [.adr] (c1 λa12=>(n9 == 0 && decide (n10<from_))=false/\decide (n9>0)=true->0<=Ah (n9-1)/\Ah (n9-1)<(Ao l)/\l.a=some a12) (u1 λa13=>
As ((n9 == 0 && decide (n10<from_))=false/\decide (n9>0)=true) T.a14 (Addr.add a13 (Int.toNat (Ah (n9-1))*5)) 0 λn14=>
AH<|
Ag (n9 == 0 && decide (n10<from_) || decide (n9>0) && decide (n11<=n14)) (
Ai 0 [.bool false])<|
Ai 2 [Aa (Ah (n0+1))])))<|
Ai 1 [])<|
Ai 0 [.bool true]
theorem ztm (from_:Int) (l:Sl):FnS (z07q from_ l) F.a12 #[.int .i64 from_,.slice l.a l.len l.cap]:=dV ⟨[],[(0,[])],[],[(0,[(9,.one (.int .i64))])]⟩ Go.Proofs.Tryz.func132 (by kernel_rfl)
def z07p (t:Option Addr) (r_0:Int) (r_1 r_2:ByteArray) (r_3:Bool) (r_4:Int):Prog :=
Am T.a35 (Ba r_0 r_1 r_2 r_3 r_4) λa0=>
AE T.a49 (Addr.add a0 1) 0 λs1=>
Br F.a8 [Al t,.string s1] λn2 b3=>
Ae n2 λn4=>
Ay b3 λb5=>
AZ (b5=true) T.a3 (Addr.add a0 1) 2 λb6=>
Ay (b5 && b6) λb7=>
AC 1 (
Ag b7 (
AQ t λa9=>
AJ T.a42 a9 1 λl10=>
AV F.a137 [l10.v,Aa n4,Aa (Ah (n4+1))] λl11=>
AQ t λa13=>
AI T.a42 a13 1 l11.v<|
Ai 1 [])<|
Ay b5 λb14=>
AC 2 (
Ag b14 (
AD<|
AQ t λa16=>
AJ T.a42 a16 1 λl17=>
Bp T.a35 a0 λn18 s19 s20 b21 n22=>
.ex [.adr] (c1 λa23=>0<=n4/\n4<(Ao l17)/\l17.a=some a23) (u1 λa24=>
AI T.a35 a24 (Int.toNat n4*5) (Ba n18 s19 s20 b21 n22)<|
AH<|
Ai 2 []))<|
Bq T.a3 (Addr.add a0 1) 2 λb25=>
Ay (not b25) λb26=>
AC 3 (
Ag b26 (
AC 4 (
AD<|
AQ t λa28=>
Bs T.a42 a28 1 λl29=>
Bp T.a35 a0 λn30 s31 s32 b33 n34=>
AP (Instr.buildSlice T.a42 1 #[(0,Ba n30 s31 s32 b33 n34)]) λl35=>
AH<|
AV F.a138 [l29.v,Aa n4,l35.v] λl36=>
AQ t λa38=>
AI T.a42 a38 1 l36.v<|
AH<|
Ai 4 [])<|
Ai 3 [])<|
Ai 3 [])<|
Ai 2 [])<|
Ai 1 [])<|
Ar T.a14 a0 0 λn39=>
AQ t λa41=>
AI T.a14 a41 0 (Aa (Ah (n39+1)))<|
Ai 0 []
theorem ztl (t:Option Addr) (r_0:Int) (r_1 r_2:ByteArray) (r_3:Bool) (r_4:Int):FnS (z07p t r_0 r_1 r_2 r_3 r_4) F.a11 #[.pointer t,.agg #[.int .i64 r_0,.string r_1,.string r_2,.bool r_3,.int .i64 r_4]]:=dV ⟨[(590007579982553940009,[]),(590295739989961474080,[]),(590295810350115717134,[])],[],[(7,[])],[]⟩ Go.Proofs.Tryz.func133 (by kernel_rfl)
def z09h (p:Option Addr) (b_0 b_1 b_2 b_3 b_4 b_5:Int) (b_6:Sl):Prog :=
Am T.a0 (Bb b_0 b_1 b_2 b_3 b_4 b_5 b_6) λa0=>
Az F.a81 [Al p] λn1=>
AI T.a14 a0 0 (Aa n1)<|
Bc T.a0 a0 λn2 n3 n4 n5 n6 n7 l8=>
Bz F.a84 [Al p,Bb n2 n3 n4 n5 n6 n7 l8] λb9 n10 n11=>
Ab T.a7 λa12=>
Ac T.a7 a12 (B0 b9 n10)<|
Ae n11 λn13=>
AZ ((n13 != 0)=false) T.a3 a12 0 λb14=>
Ag (n13 != 0 || b14) (
AD<|
Ar T.a14 a12 1 λn15=>
Bq T.a3 a12 0 λb16=>
Ae n15 λn17=>
Ay b16 λb18=>
Ae n13 λn19=>
AH<|
Ai 0 [Aa n17,.bool b18,Aa n19])<|
AR 1 (
AD<|
AQ p λa21=>
Bd T.a31 (Addr.add a21 0) 0 λp22=>
Bc T.a0 a0 λn23 n24 n25 n26 n27 n28 l29=>
AP (Instr.buildSlice T.a36 1 #[(0,Bb n23 n24 n25 n26 n27 n28 l29)]) λl30=>
AH<|
Av F.a110 [Al p22,l30.v] λn31 n32=>
Ae n31 λn33=>
Ae n32 λn34=>
AH<|
Ai 1 [Aa n34,Aa n33]) λn35 n36=>
Af 1 (
Ag (n35 == 0) (
AQ p λa38=>
AA T.a31 (Addr.add a38 0) 0 λp39=>
Az F.a116 [Al p39] λn40=>
Ae n40 λn41=>
Ai 1 [Aa n41])<|
Ai 1 [Aa n35]) λn42=>
Ag (n42 != 0) (
Ae n42 λn43=>
Ai 0 [Aa 0,.bool false,Aa n43])<|
AI T.a14 a0 0 (Aa n36)<|
Bc T.a0 a0 λn44 n45 n46 n47 n48 n49 l50=>
B1 F.a92 [Bb n44 n45 n46 n47 n48 n49 l50] λn51 n52 n53 n54 n55 n56 l57=>
Bi F.a88 [Al p,Bb n51 n52 n53 n54 n55 n56 l57]<|
Ae n36 λn58=>
Ai 0 [Aa n58,.bool false,Aa 0]
theorem zvf (p:Option Addr) (b_0 b_1 b_2 b_3 b_4 b_5:Int) (b_6:Sl):FnS (z09h p b_0 b_1 b_2 b_3 b_4 b_5 b_6) F.a86 #[.pointer p,.agg #[.int .i64 b_0,.int .i64 b_1,.int .i64 b_2,.int .i64 b_3,.int .i64 b_4,.int .i64 b_5,.slice b_6.a b_6.len b_6.cap]]:=dV ⟨[(2269814212195778602,[(8,.one (.int .i64))])],[],[(5,[(8,.one (.int .i64)),(9,.one (.int .i64))])],[]⟩ Go.Proofs.Tryz.func142 (by kernel_rfl)
def z09m (b_0 b_1 b_2 b_3 b_4 b_5:Int) (b_6:Sl):Prog :=
Am T.a0 (Bb b_0 b_1 b_2 b_3 b_4 b_5 b_6) λa0=>
Ar T.a13 a0 4 λn1=>
As ((n1 == 2)=false) T.a13 a0 4 λn2=>
Ay (n1 == 2 || n2 == 3) λb3=>
Ai 0 [.bool b3]
theorem zvk (b_0 b_1 b_2 b_3 b_4 b_5:Int) (b_6:Sl):FnS (z09m b_0 b_1 b_2 b_3 b_4 b_5 b_6) F.a91 #[.agg #[.int .i64 b_0,.int .i64 b_1,.int .i64 b_2,.int .i64 b_3,.int .i64 b_4,.int .i64 b_5,.slice b_6.a b_6.len b_6.cap]]:=dV ⟨[],[],[],[]⟩ Go.Proofs.Tryz.func144 (by kernel_rfl)
def zf7 (t:Option Addr) (key:ByteArray):Prog :=
Az F.a9 [Al t,.string key] λn0=>
Ae n0 λn1=>
AD<|
AQ t λa3=>
AJ T.a42 a3 1 λl4=>
Bl (decide (n1<(Ao l4))=true) t λa6=>
B2 (decide (n1<(Ao l4))=true) T.a42 a6 1 λl7=>
.ex [.adr] (c1 λa8=>decide (n1<(Ao l4))=true->0<=n1/\n1<(Ao l7)/\l7.a=some a8) (u1 λa9=>
AY (decide (n1<(Ao l4))=true) T.a49 (Addr.add (Addr.add a9 (Int.toNat n1*5)) 1) 0 λs10=>
Ae n1 λn11=>
Ay (decide (n1<(Ao l4)) && ByteArray.toList s10 == ByteArray.toList key) λb12=>
AH<|
Ai 0 [Aa n11,.bool b12])
theorem zy9 (t:Option Addr) (key:ByteArray):FnS (zf7 t key) F.a8 #[.pointer t,.string key]:=dV ⟨[],[],[],[]⟩ Go.Proofs.Tryz.func146 (by kernel_rfl)
def zf8 (t:Option Addr) (key:ByteArray):Prog :=
Am T.a24 (Al t) λa0=>
Am T.a49 (.string key) λa1=>
B3 T.a24 a0 λp2=>
AQ p2 λa4=>
AJ T.a42 a4 1 λl5=>
Az F.a151 [Aa (Ao l5),.func (Fn.func 224) #[] #[AB a0,AB a1]] λn6=>
Ae n6 λn7=>
Ai 0 [Aa n7]
theorem zya (t:Option Addr) (key:ByteArray):FnS (zf8 t key) F.a9 #[.pointer t,.string key]:=dV ⟨[],[],[],[]⟩ Go.Proofs.Tryz.func154 (by kernel_rfl)
def z07r (most:Int):Prog :=
Ag (decide (most<1) || decide (most>4096)) (
Ai 0 [Al none,Aa 2])<|
.act (Instr.makeMap T.a20 none) sM (u1 λm0=>
Am T.a6 (.agg #[Aa most,Aa 0,.map m0]) λa1=>
Ai 0 [AB a1,Aa 0])
theorem ztn (most:Int):FnS (z07r most) F.a14 #[.int .i64 most]:=dV ⟨[],[],[],[]⟩ Go.Proofs.Tryz.func182 (by kernel_rfl)
def zqk  : Prog :=
.act (Instr.makeMap T.a21 none) sM (u1 λm0 =>
.act (Instr.makeMap T.a22 none) sM (u1 λm1 =>
.act (Instr.box T.a16 (.agg #[.int .i64 0,.map m0,.map m1])) sA (u1 λa2 =>
.done 0 [.pointer (some a2)])))
theorem zkj :FnS (zqk ) F.a54 #[]:=dV ⟨[],[],[],[]⟩ Go.Proofs.Tryz.func183 (by kernel_rfl)
def z09i (p:Option Addr):Prog :=
AQ p λa1=>
AE T.a49 (Addr.add a1 0) 2 λs2=>
.must (((ByteArray.size s2+5:Nat):Int)<=9223372036854775807) <|
AW (s2++(ByteArray.mk #[46,115,110,97,112])) λs3=>
Ai 0 [.string s3]
theorem zvg (p:Option Addr):FnS (z09i p) F.a87 #[.pointer p]:=dV ⟨[],[],[],[]⟩ Go.Proofs.Tryz.func184 (by kernel_rfl)
def z09c (p:Option Addr):Prog :=
Ag (Option.isNone p) (
Ai 0 [Aa 0])<|
AQ p λa1=>
AA T.a31 (Addr.add a1 0) 0 λp2=>
Az F.a112 [Al p2] λn3=>
Ae n3 λn4=>
Ai 0 [Aa n4]
theorem zva (p:Option Addr):FnS (z09c p) F.a81 #[.pointer p]:=dV ⟨[],[],[],[]⟩ Go.Proofs.Tryz.func187 (by kernel_rfl)
def z07v (t:Option Addr) (b_0 b_1 b_2 b_3 b_4 b_5:Int) (b_6:Sl):Prog :=
Am T.a0 (Bb b_0 b_1 b_2 b_3 b_4 b_5 b_6) λa0=>
Bc T.a0 a0 λn1 n2 n3 n4 n5 n6 l7=>
Bz F.a17 [Al t,Bb n1 n2 n3 n4 n5 n6 l7] λb8 n9 n10=>
Ab T.a7 λa11=>
Ac T.a7 a11 (B0 b8 n9)<|
Ae n10 λn12=>
AT (n12 != 0) (
Ae n12 λn14=>
Ai 0 [Aa n14])<|
Bq T.a3 a11 0 λb15=>
AT b15 (
Ai 0 [Aa 4])<|
AD<|
Ar T.a14 a0 0 λn17=>
AQ t λa19=>
Ar T.a14 a19 1 λn20=>
Ay (decide (n17<n20)) λb21=>
AH<|
Ag b21 (
Ai 0 [Aa 8])<|
Bc T.a0 a0 λn22 n23 n24 n25 n26 n27 l28=>
Az F.a97 [Bb n22 n23 n24 n25 n26 n27 l28] λn29=>
AQ t λa31=>
AI T.a14 a31 1 (Aa n29)<|
Ar T.a14 a0 1 λn32=>
Ag (n32 == 0) (
Ai 0 [Aa 0])<|
Ar T.a14 a0 1 λn33=>
.call F.a21 [Al t,Aa n33] (.tup [.agg [.int .i64,.int .i64,.int .i64,.int .i64,.int .i64,.int .i64,.int .i64],.one .bool]) (u8 λ(n34 n35 n36 n37 n38 n39 n40:Int) b41=>
Ab T.a5 λa42=>
Ac T.a5 a42 (B4 n34 n35 n36 n37 n38 n39 n40)<|
Ay b41 λb43=>
Ar T.a14 a0 5 λn44=>
Ae n44 λn45=>
Af 1 (
Ag b43 (
Ar T.a14 a42 6 λn46=>
Ae (if n46>n45 then n46 else n45) λn47=>
Ai 1 [Aa n47])<|
Ai 1 [Aa n45]) λn48=>
Ar T.a13 a0 4 λn49=>
AC 1 (
AC 2 (
Ay (n49 == 2) λb50=>
Ax 3 (
Ag b50 (
Ai 3 [.bool b50])<|
Ay (n49 == 3) λb51=>
Ai 3 [.bool b51]) λb52=>
Ag b52 (
AD<|
AQ t λa54=>
B5 T.a20 a54 2 λm55=>
Ar T.a14 a0 1 λn56=>
Ar T.a14 a0 1 λn57=>
Ar T.a13 a0 2 λn58=>
B6 (Instr.mapUpdate T.a20 (.map m55) (Aa n56) (.agg #[Aa n57,Aa (Ah (n58+1)),Aa 0,Aa 0,Aa 0,Aa (-1),Aa n48]))<|
AH<|
Ai 0 [Aa 0])<|
AT (n49 == 1) (
B7 T.a5 a42 λn60 n61 n62 n63 n64 n65 n66=>
Aw F.a16 [B4 n60 n61 n62 n63 n64 n65 n66] λb67=>
AC 3 (
Ag (not b67) (
Ar T.a14 a0 0 λn68=>
AI T.a14 a42 5 (Aa n68)<|
Ai 3 [])<|
Ai 3 [])<|
Ai 2 [])<|
Ai 2 [])<|
AD<|
AQ t λa70=>
B5 T.a20 a70 2 λm71=>
Ar T.a14 a0 1 λn72=>
Ar T.a14 a0 1 λn73=>
Ar T.a13 a0 2 λn74=>
Ar T.a13 a0 3 λn75=>
AJ T.a37 a0 6 λl76=>
Ar T.a14 a0 0 λn77=>
Ar T.a14 a42 5 λn78=>
B6 (Instr.mapUpdate T.a20 (.map m71) (Aa n72) (.agg #[Aa n73,Aa n74,Aa n75,Aa (Ao l76),Aa n77,Aa n78,Aa n48]))<|
AH<|
Ai 1 [])<|
Ai 0 [Aa 0])
theorem ztr (t:Option Addr) (b_0 b_1 b_2 b_3 b_4 b_5:Int) (b_6:Sl):FnS (z07v t b_0 b_1 b_2 b_3 b_4 b_5 b_6) F.a19 #[.pointer t,.agg #[.int .i64 b_0,.int .i64 b_1,.int .i64 b_2,.int .i64 b_3,.int .i64 b_4,.int .i64 b_5,.slice b_6.a b_6.len b_6.cap]]:=dV ⟨[(34587645138207506480,[(9,.one (.int .i64))]),(737869762948382064695,[(55,.one .bool)]),(2166395068749415481073467467,[])],[(1,[]),(4,[])],[],[]⟩ Go.Proofs.Tryz.func192 (by kernel_rfl)
def z08w (v:Option Addr) (b_0 b_1 b_2 b_3 b_4 b_5:Int) (b_6:Sl):Prog :=
Am T.a0 (Bb b_0 b_1 b_2 b_3 b_4 b_5 b_6) λa0=>
Bc T.a0 a0 λn1 n2 n3 n4 n5 n6 l7=>
Az F.a57 [Al v,Bb n1 n2 n3 n4 n5 n6 l7] λn8=>
Ae n8 λn9=>
Ag (n9 != 0) (
Ae n9 λn10=>
Ai 0 [Aa n10])<|
Bc T.a0 a0 λn11 n12 n13 n14 n15 n16 l17=>
Az F.a97 [Bb n11 n12 n13 n14 n15 n16 l17] λn18=>
AQ v λa20=>
AI T.a14 a20 0 (Aa n18)<|
Bv 1 (
AD<|
AQ v λa22=>
Bw T.a21 a22 1 λm23=>
AS T.a14 a0 1 λn24=>
Bx (Instr.lookup T.a21 (.map m23) (Aa n24) true) λn25 n26 n27 n28 b29=>
Ab T.a18 λa30=>
AH<|
Ac T.a18 a30 (By n25 n26 n27 n28)<|
Ay b29 λb31=>
AH<|
Ai 1 [AB a30,.bool b31]) λa32 b33=>
Ar T.a13 a0 4 λn34=>
Ay (n34 == 1 && not b33) λb35=>
AC 1 (
Ag b35 (
AD<|
AQ v λa37=>
B5 T.a21 a37 1 λm38=>
Ar T.a14 a0 1 λn39=>
Ar T.a14 a0 1 λn40=>
Ar T.a13 a0 2 λn41=>
Ar T.a14 a0 0 λn42=>
B6 (Instr.mapUpdate T.a21 (.map m38) (Aa n39) (.agg #[Aa n40,Aa n41,Aa n42,Aa (-1)]))<|
AH<|
Ai 1 [])<|
Bc T.a0 a0 λn43 n44 n45 n46 n47 n48 l49=>
Aw F.a65 [Bb n43 n44 n45 n46 n47 n48 l49] λb50=>
Ay (b50 && b33) λb51=>
AC 2 (
Ag b51 (
AD<|
AQ v λa53=>
B5 T.a21 a53 1 λm54=>
Ar T.a14 a0 1 λn55=>
B8 (Builtin.delete_ #[T.a21,T.a14] T.a53 #[.map m54,Aa n55])<|
AH<|
Ar T.a13 a0 4 λn56=>
AC 3 (
Ag (n56 == 3) (
Ar T.a14 a0 0 λn57=>
AI T.a14 a32 3 (Aa n57)<|
AD<|
AQ v λa59=>
B5 T.a22 a59 2 λm60=>
Bg (ld T.a17 (Addr.add a32 0)) λn61 n62=>
B9 T.a18 a32 λn63 n64 n65 n66=>
B6 (Instr.mapUpdate T.a22 (.map m60) (Bh n61 n62) (By n63 n64 n65 n66))<|
AH<|
Ai 3 [])<|
Ai 3 [])<|
Ai 2 [])<|
Ai 2 [])<|
Ai 1 [])<|
Ai 0 [Aa 0]
theorem zuu (v:Option Addr) (b_0 b_1 b_2 b_3 b_4 b_5:Int) (b_6:Sl):FnS (z08w v b_0 b_1 b_2 b_3 b_4 b_5 b_6) F.a62 #[.pointer v,.agg #[.int .i64 b_0,.int .i64 b_1,.int .i64 b_2,.int .i64 b_3,.int .i64 b_4,.int .i64 b_5,.slice b_6.a b_6.len b_6.cap]]:=dV ⟨[(309182778366441411431104577,[]),(309484419525534710019129395,[]),(309485009820782118771359773,[])],[],[(5,[(6,.one .adr),(7,.one .bool)])],[]⟩ Go.Proofs.Tryz.func193 (by kernel_rfl)
def z010 (v:Option Addr):Prog :=
Ag (Option.isNone v) (
Ai 0 [.slice none 0 0])<|
AQ v λa1=>
B5 T.a21 a1 1 λm2=>
.act (Instr.range T.a21 (.map m2)) sA (u1 λa3=>
AK 1 (
.loop 2 [.one .slc] (⟨none,0,0⟩,()) (u1 λl4=>
.next (Instr.next (AB a3) false T.a53) ([.one (.int .i64),.agg [.int .i64,.int .i64,.int .i64,.int .i64]]) (u5 λ(n5 n6 n7 n8 n9:Int)=>
.act (Instr.entry (AB a3)) (.tup [.one (.int .i64),.agg [.int .i64,.int .i64,.int .i64,.int .i64]]) (u5 λ(n10 n11 n12 n13 n14:Int)=>
Ab T.a18 λa15=>
Ac T.a18 a15 (By n11 n12 n13 n14)<|
B9 T.a18 a15 λn16 n17 n18 n19=>
.call F.a64 [By n16 n17 n18 n19] (sG [.int .i64,.int .i64,.int .i64,.int .i64]) (u4 λ(n20 n21 n22 n23:Int)=>
AP (Instr.buildSlice T.a40 1 #[(0,By n20 n21 n22 n23)]) λl24=>
AP (app T.a40 T.a40 T.a40 l4.v l24.v) λl25=>
Ai 2 [l25.v]))) <|
Ai 1 [l4.v])) λl26=>
Bi F.a139 [l26.v,.func (Fn.func 267) #[] #[]]<|
Ai 0 [l26.v])
theorem zur (v:Option Addr) {w:World} {R:List Value->World->Prop} (h:(z010 v).wp P (λ_=>True) w λe vs w'=>e=0/\R vs w') :
  Calls P F.a59 #[.pointer v] w λe w'=>∃ vs,e=.returned (z91 vs)/\R vs w' :=
 z9l (zi4 Go.Proofs.Tryz.func200 (by kernel_rfl) (by kernel_rfl) (by kernel_rfl)) zid mix [.val (.pointer v)] (by rw [show zis P 25 ⟨zic,[(13,[.one (.int .i64),.agg [.int .i64,.int .i64,.int .i64,.int .i64]]),(15,[.one (.int .i64),.agg [.int .i64,.int .i64,.int .i64,.int .i64]])]⟩ { cnd:=[],blk:=[(0,[(3,.one .slc)])],reg:=[],lps:=[(0,[(3,.one .slc)])] } [.tmp 2] (zb5 Go.Proofs.Tryz.f200) [.val (.pointer v)]=z010 v from by kernel_rfl];exact h)
def z011 (v:Option Addr):Prog :=
Ag (Option.isNone v) (
Ai 0 [Aa 0])<|
AQ v λa1=>
Ar T.a14 a1 0 λn2=>
Ae n2 λn3=>
AQ v λa5=>
B5 T.a21 a5 1 λm6=>
.act (Instr.range T.a21 (.map m6)) sA (u1 λa7=>
Af 1 (
AU 2 (n3,()) λn8=>
.next (Instr.next (AB a7) false T.a53) ([.one (.int .i64),.agg [.int .i64,.int .i64,.int .i64,.int .i64]]) (u5 λ(n9 n10 n11 n12 n13:Int)=>
.act (Instr.entry (AB a7)) (.tup [.one (.int .i64),.agg [.int .i64,.int .i64,.int .i64,.int .i64]]) (u5 λ(n14 n15 n16 n17 n18:Int)=>
Ab T.a18 λa19=>
Ac T.a18 a19 (By n15 n16 n17 n18)<|
Ar T.a14 a19 2 λn20=>
Ae (if n20<n8 then n20 else n8) λn21=>
Ai 2 [Aa n21])) <|
Ai 1 [Aa n8]) λn22=>
Ae n22 λn23=>
Ai 0 [Aa n23])
theorem zut (v:Option Addr) {w:World} {R:List Value->World->Prop} (h:(z011 v).wp P (λ_=>True) w λe vs w'=>e=0/\R vs w') :
  Calls P F.a61 #[.pointer v] w λe w'=>∃ vs,e=.returned (z91 vs)/\R vs w' :=
 z9l (zi4 Go.Proofs.Tryz.func201 (by kernel_rfl) (by kernel_rfl) (by kernel_rfl)) zid mix [.val (.pointer v)] (by rw [show zis P 26 ⟨zic,[(17,[.one (.int .i64),.agg [.int .i64,.int .i64,.int .i64,.int .i64]]),(19,[.one (.int .i64),.agg [.int .i64,.int .i64,.int .i64,.int .i64]])]⟩ { cnd:=[],blk:=[(0,[(3,.one (.int .i64))])],reg:=[],lps:=[(0,[(3,.one (.int .i64))])] } [.tmp 2] (zb5 Go.Proofs.Tryz.f201) [.val (.pointer v)]=z011 v from by kernel_rfl];exact h)
def z08z (b_0 b_1 b_2 b_3 b_4 b_5:Int) (b_6:Sl):Prog :=
Am T.a0 (Bb b_0 b_1 b_2 b_3 b_4 b_5 b_6) λa0=>
Ar T.a13 a0 4 λn1=>
As ((n1 == 2)=false) T.a13 a0 4 λn2=>
Ay (n1 == 2 || n2 == 3) λb3=>
Ai 0 [.bool b3]
theorem zux (b_0 b_1 b_2 b_3 b_4 b_5:Int) (b_6:Sl):FnS (z08z b_0 b_1 b_2 b_3 b_4 b_5 b_6) F.a65 #[.agg #[.int .i64 b_0,.int .i64 b_1,.int .i64 b_2,.int .i64 b_3,.int .i64 b_4,.int .i64 b_5,.slice b_6.a b_6.len b_6.cap]]:=dV ⟨[],[],[],[]⟩ Go.Proofs.Tryz.func202 (by kernel_rfl)
def z02k (s:Sl) (i:Int) (j:Int):Prog :=
.must (0<=i/\i<=j/\j<=(Ao s)/\(Ao s)<=((s.cap:Nat):Int)) <|
Ag (i == j) (
Ai 0 [s.v])<|
Ae (Ao s) λn0=>
AD<|
.must (0<=i/\i<=((s.cap:Nat):Int)) <|
.must (0<=j/\j<=(Ao s)) <|
AP (app T.a42 T.a42 T.a42 (.slice s.a (Int.toNat i) s.cap) (.slice (z0w s.a 5 (Int.toNat j) s.cap) (s.len-Int.toNat j) (s.cap-Int.toNat j))) λl1=>
AH<|
.must (0<=(Ao l1)/\(Ao l1)<=n0/\n0<=((l1.cap:Nat):Int)) <|
B8 (Builtin.clear_ #[T.a42] T.a53 #[.slice (z0w l1.a 5 (Int.toNat (Ao l1)) l1.cap) (Int.toNat n0-Int.toNat (Ao l1)) (l1.cap-Int.toNat (Ao l1))])<|
Ai 0 [l1.v]
theorem zov (s:Sl) (i j:Int):FnS (z02k s i j) F.a137 #[.slice s.a s.len s.cap,.int .i64 i,.int .i64 j]:=dV ⟨[],[],[],[]⟩ Go.Proofs.Tryz.func205 (by kernel_rfl)
def z02l (s:Sl) (i:Int) (v:Sl):Prog :=
.must (0<=i/\i<=(Ao s)) <|
Ae (Ao v) λn0=>
Ag (n0 == 0) (
Ai 0 [s.v])<|
Ae (Ao s) λn1=>
Ag (i == n1) (
AP (app T.a42 T.a42 T.a42 s.v v.v) λl2=>
Ai 0 [l2.v])<|
Ag (decide (Ah (n1+n0)>((s.cap:Nat):Int))) (
.must (0<=i/\i<=((s.cap:Nat):Int)) <|
AP (app T.a42 T.a13 T.a42 (.slice s.a (Int.toNat i) s.cap) (Aa (Ah (Ah (n1+n0)-i)))) λl3=>
.must (0<=i/\i<=(Ao l3)) <|
BA (Builtin.copy_ #[T.a42,T.a42] T.a13 #[.slice (z0w l3.a 5 (Int.toNat i) l3.cap) (l3.len-Int.toNat i) (l3.cap-Int.toNat i),v.v]) λn4=>
AD<|
.must (0<=Ah (i+n0)/\Ah (i+n0)<=(Ao l3)) <|
.must (0<=i/\i<=(Ao s)) <|
BA (Builtin.copy_ #[T.a42,T.a42] T.a13 #[.slice (z0w l3.a 5 (Int.toNat (Ah (i+n0))) l3.cap) (l3.len-Int.toNat (Ah (i+n0))) (l3.cap-Int.toNat (Ah (i+n0))),.slice (z0w s.a 5 (Int.toNat i) s.cap) (s.len-Int.toNat i) (s.cap-Int.toNat i)]) λn5=>
AH<|
Ai 0 [l3.v])<|
.must (0<=Ah (n1+n0)/\Ah (n1+n0)<=((s.cap:Nat):Int)) <|
.must (0<=Ah (i+n0)/\Ah (i+n0)<=((Int.toNat (Ah (n1+n0)):Nat):Int)) <|
.act (zhy 272 (#[]++#[v.v,.slice (z0w s.a 5 (Int.toNat (Ah (i+n0))) s.cap) (Int.toNat (Ah (n1+n0))-Int.toNat (Ah (i+n0))) (s.cap-Int.toNat (Ah (i+n0)))]++#[])) sB (u1 λb6=>
Ag (not b6) (
AD<|
.must (0<=Ah (i+n0)/\Ah (i+n0)<=((Int.toNat (Ah (n1+n0)):Nat):Int)) <|
.must (0<=i/\i<=((Int.toNat (Ah (n1+n0)):Nat):Int)) <|
BA (Builtin.copy_ #[T.a42,T.a42] T.a13 #[.slice (z0w s.a 5 (Int.toNat (Ah (i+n0))) s.cap) (Int.toNat (Ah (n1+n0))-Int.toNat (Ah (i+n0))) (s.cap-Int.toNat (Ah (i+n0))),.slice (z0w s.a 5 (Int.toNat i) s.cap) (Int.toNat (Ah (n1+n0))-Int.toNat i) (s.cap-Int.toNat i)]) λn7=>
AH<|
.must (0<=i/\i<=((Int.toNat (Ah (n1+n0)):Nat):Int)) <|
BA (Builtin.copy_ #[T.a42,T.a42] T.a13 #[.slice (z0w s.a 5 (Int.toNat i) s.cap) (Int.toNat (Ah (n1+n0))-Int.toNat i) (s.cap-Int.toNat i),v.v]) λn8=>
Ai 0 [.slice s.a (Int.toNat (Ah (n1+n0))) s.cap])<|
.must (0<=n1/\n1<=((Int.toNat (Ah (n1+n0)):Nat):Int)) <|
BA (Builtin.copy_ #[T.a42,T.a42] T.a13 #[.slice (z0w s.a 5 (Int.toNat n1) s.cap) (Int.toNat (Ah (n1+n0))-Int.toNat n1) (s.cap-Int.toNat n1),v.v]) λn9=>
.must (0<=i/\i<=((Int.toNat (Ah (n1+n0)):Nat):Int)) <|
Bi F.a150 [.slice (z0w s.a 5 (Int.toNat i) s.cap) (Int.toNat (Ah (n1+n0))-Int.toNat i) (s.cap-Int.toNat i),Aa n0]<|
Ai 0 [.slice s.a (Int.toNat (Ah (n1+n0))) s.cap])
theorem zow (s:Sl) (i:Int) (v:Sl):FnS (z02l s i v) F.a138 #[.slice s.a s.len s.cap,.int .i64 i,.slice v.a v.len v.cap]:=dV ⟨[],[],[],[]⟩ Go.Proofs.Tryz.func206 (by kernel_rfl)
def z09f (p:Option Addr) (b_0 b_1 b_2 b_3 b_4 b_5:Int) (b_6:Sl):Prog :=
Am T.a0 (Bb b_0 b_1 b_2 b_3 b_4 b_5 b_6) λa0=>
Ab T.a7 λa1=>
.bind 1 [.one .adr,.one (.int .i64)] (
AD<|
AQ p λa3=>
Bd T.a25 a3 4 λp4=>
.hold True (ld T.a0 a0) (sG [.int .i64,.int .i64,.int .i64,.int .i64,.int .i64,.int .i64,.slc]) (u7 λ(n5 n6 n7 n8 n9 n10:Int) l11=>
.both (
AH<|
Bz F.a17 [Al p4,Bb n5 n6 n7 n8 n9 n10 l11] λb12 n13 n14=>
Ab T.a7 λa15=>
Ac T.a7 a15 (B0 b12 n13)<|
Ae n14 λn16=>
AH<|
Ai 1 [AB a15,Aa n16]) <|
Ab T.a7 λa17=>
AH<|
Bz F.a17 [Al p4,Bb n5 n6 n7 n8 n9 n10 l11] λb18 n19 n20=>
Ac T.a7 a17 (B0 b18 n19)<|
Ae n20 λn21=>
AH<|
Ai 1 [AB a17,Aa n21])) (u2 λa22 (n23:Int)=>
AZ ((n23 != 0)=false) T.a3 a22 0 λb24=>
Ag (n23 != 0 || b24) (
BB T.a7 a22 λb25 n26=>
Ac T.a7 a1 (B0 b25 n26)<|
Ae n23 λn27=>
BB T.a7 a1 λb28 n29=>
Ai 0 [B0 b28 n29,Aa n27])<|
Af 1 (
AD<|
.hold True (ld T.a7 a22) (sG [.bool,.int .i64]) (u2 λb30 (n31:Int)=>
AQ p λa33=>
AA T.a29 a33 5 λp34=>
Bc T.a0 a0 λn35 n36 n37 n38 n39 n40 l41=>
Az F.a57 [Al p34,Bb n35 n36 n37 n38 n39 n40 l41] λn42=>
AH<|
Ac T.a7 a1 (B0 b30 n31)<|
Ae n42 λn43=>
AH<|
Ai 1 [Aa n43])) λn44=>
BB T.a7 a1 λb45 n46=>
Ai 0 [B0 b45 n46,Aa n44])
theorem zvd (p:Option Addr) (b_0 b_1 b_2 b_3 b_4 b_5:Int) (b_6:Sl):FnS (z09f p b_0 b_1 b_2 b_3 b_4 b_5 b_6) F.a84 #[.pointer p,.agg #[.int .i64 b_0,.int .i64 b_1,.int .i64 b_2,.int .i64 b_3,.int .i64 b_4,.int .i64 b_5,.slice b_6.a b_6.len b_6.cap]]:=dV ⟨[],[],[(1,[(6,.one .adr),(7,.one (.int .i64))]),(4,[(5,.one (.int .i64))])],[]⟩ Go.Proofs.Tryz.func210 (by kernel_rfl)
def zf9 (i:Int) (fv0:Option Addr) (fv1:Option Addr):Prog :=
AD<|
BC T.a24 fv0 λp0=>
AQ p0 λa2=>
AJ T.a42 a2 1 λl3=>
.ex [.adr] (c1 λa4=>0<=i/\i<(Ao l3)/\l3.a=some a4) (u1 λa5=>
AE T.a49 (Addr.add (Addr.add a5 (Int.toNat i*5)) 1) 0 λs6=>
.read True (Instr.loadAt T.a49 (Al fv1)) sS (u1 λs7=>
Ay (not (Op.bytesLess (ByteArray.toList s6) (ByteArray.toList s7))) λb8=>
AH<|
Ai 0 [.bool b8]))
theorem zyb (i:Int) (fv0 fv1:Option Addr):FnS (zf9 i fv0 fv1) F.a10 #[.int .i64 i,.pointer fv0,.pointer fv1]:=dV ⟨[],[],[],[]⟩ Go.Proofs.Tryz.func224 (by kernel_rfl)
def z07u (t:Option Addr) (b_0 b_1 b_2 b_3 b_4 b_5:Int) (b_6:Sl):Prog :=
Am T.a0 (Bb b_0 b_1 b_2 b_3 b_4 b_5 b_6) λa0=>
Ab T.a7 λa1=>
Ag (Option.isNone t) (
Ac T.a7 a1 (B0 false 0)<|
BB T.a7 a1 λb2 n3=>
Ai 0 [B0 b2 n3,Aa 1])<|
Bc T.a0 a0 λn4 n5 n6 n7 n8 n9 l10=>
Az F.a99 [Bb n4 n5 n6 n7 n8 n9 l10] λn11=>
Ae n11 λn12=>
As ((n12 != 0)=false) T.a14 a0 1 λn13=>
Ag (n12 != 0 || n13 == 0) (
Ac T.a7 a1 (B0 false 0)<|
Ae n12 λn14=>
BB T.a7 a1 λb15 n16=>
Ai 0 [B0 b15 n16,Aa n14])<|
Ar T.a14 a0 1 λn17=>
.call F.a21 [Al t,Aa n17] (.tup [.agg [.int .i64,.int .i64,.int .i64,.int .i64,.int .i64,.int .i64,.int .i64],.one .bool]) (u8 λ(n18 n19 n20 n21 n22 n23 n24:Int) b25=>
Ab T.a5 λa26=>
Ac T.a5 a26 (B4 n18 n19 n20 n21 n22 n23 n24)<|
Ay b25 λb27=>
Ar T.a13 a0 2 λn28=>
Ar T.a13 a26 1 λn29=>
Ag (decide (n28<n29)) (
Bc T.a0 a0 λn30 n31 n32 n33 n34 n35 l36=>
Aw F.a23 [Bb n30 n31 n32 n33 n34 n35 l36] λb37=>
Ag b37 (
Ac T.a7 a1 (.agg #[.bool true,Aa (-1)])<|
BB T.a7 a1 λb38 n39=>
Ai 0 [B0 b38 n39,Aa 0])<|
Ac T.a7 a1 (B0 false 0)<|
BB T.a7 a1 λb40 n41=>
Ai 0 [B0 b40 n41,Aa 20])<|
Bc T.a0 a0 λn42 n43 n44 n45 n46 n47 l48=>
Aw F.a23 [Bb n42 n43 n44 n45 n46 n47 l48] λb49=>
AC 1 (
Ag (not b49) (
B7 T.a5 a26 λn50 n51 n52 n53 n54 n55 n56=>
Bc T.a0 a0 λn57 n58 n59 n60 n61 n62 l63=>
.call F.a22 [B4 n50 n51 n52 n53 n54 n55 n56,Bb n57 n58 n59 n60 n61 n62 l63] (.tup [.agg [.bool,.int .i64],.one .bool]) (u3 λb64 (n65:Int) b66=>
Ab T.a7 λa67=>
Ac T.a7 a67 (B0 b64 n65)<|
AT b66 (
BB T.a7 a67 λb69 n70=>
Ac T.a7 a1 (B0 b69 n70)<|
BB T.a7 a1 λb71 n72=>
Ai 0 [B0 b71 n72,Aa 0])<|
Ai 1 []))<|
Ai 1 [])<|
B7 T.a5 a26 λn73 n74 n75 n76 n77 n78 n79=>
Bc T.a0 a0 λn80 n81 n82 n83 n84 n85 l86=>
Az F.a20 [Al t,B4 n73 n74 n75 n76 n77 n78 n79,.bool b27,Bb n80 n81 n82 n83 n84 n85 l86] λn87=>
Ac T.a7 a1 (B0 false 0)<|
Ae n87 λn88=>
BB T.a7 a1 λb89 n90=>
Ai 0 [B0 b89 n90,Aa n88])
theorem ztq (t:Option Addr) (b_0 b_1 b_2 b_3 b_4 b_5:Int) (b_6:Sl):FnS (z07u t b_0 b_1 b_2 b_3 b_4 b_5 b_6) F.a17 #[.pointer t,.agg #[.int .i64 b_0,.int .i64 b_1,.int .i64 b_2,.int .i64 b_3,.int .i64 b_4,.int .i64 b_5,.slice b_6.a b_6.len b_6.cap]]:=dV ⟨[(18374686479678046251,[])],[],[],[]⟩ Go.Proofs.Tryz.func258 (by kernel_rfl)
def z07x (t:Option Addr) (pid:Int):Prog :=
Ab T.a5 λa0=>
AQ t λa2=>
B5 T.a20 a2 2 λm3=>
.read True (Instr.lookup T.a20 (.map m3) (Aa pid) true) (.tup [.agg [.int .i64,.int .i64,.int .i64,.int .i64,.int .i64,.int .i64,.int .i64],.one .bool]) (u8 λ(n4 n5 n6 n7 n8 n9 n10:Int) b11=>
Ab T.a5 λa12=>
Ac T.a5 a12 (B4 n4 n5 n6 n7 n8 n9 n10)<|
Ay b11 λb13=>
Ag (not b13) (
Ac T.a5 a0 (.agg #[Aa pid,Aa (-1),Aa 0,Aa 0,Aa 0,Aa (-1),Aa 0])<|
B7 T.a5 a0 λn14 n15 n16 n17 n18 n19 n20=>
Ai 0 [B4 n14 n15 n16 n17 n18 n19 n20,.bool false])<|
B7 T.a5 a12 λn21 n22 n23 n24 n25 n26 n27=>
Ac T.a5 a0 (B4 n21 n22 n23 n24 n25 n26 n27)<|
B7 T.a5 a0 λn28 n29 n30 n31 n32 n33 n34=>
Ai 0 [B4 n28 n29 n30 n31 n32 n33 n34,.bool true])
theorem ztt (t:Option Addr) (pid:Int):FnS (z07x t pid) F.a21 #[.pointer t,.int .i64 pid]:=dV ⟨[],[],[],[]⟩ Go.Proofs.Tryz.func259 (by kernel_rfl)
def z07t (r_0 r_1 r_2 r_3 r_4 r_5:Int) (r_6:Int):Prog :=
Am T.a5 (B4 r_0 r_1 r_2 r_3 r_4 r_5 r_6) λa0=>
Ar T.a14 a0 5 λn1=>
Ay (decide (n1>=0)) λb2=>
Ai 0 [.bool b2]
theorem ztp (r_0 r_1 r_2 r_3 r_4 r_5 r_6:Int):FnS (z07t r_0 r_1 r_2 r_3 r_4 r_5 r_6) F.a16 #[.agg #[.int .i64 r_0,.int .i64 r_1,.int .i64 r_2,.int .i64 r_3,.int .i64 r_4,.int .i64 r_5,.int .i64 r_6]]:=dV ⟨[],[],[],[]⟩ Go.Proofs.Tryz.func260 (by kernel_rfl)
def z08u (v:Option Addr) (b_0 b_1 b_2 b_3 b_4 b_5:Int) (b_6:Sl):Prog :=
Am T.a0 (Bb b_0 b_1 b_2 b_3 b_4 b_5 b_6) λa0=>
Ag (Option.isNone v) (
Ai 0 [Aa 1])<|
Bc T.a0 a0 λn1 n2 n3 n4 n5 n6 l7=>
Az F.a99 [Bb n1 n2 n3 n4 n5 n6 l7] λn8=>
Ae n8 λn9=>
Ag (n9 != 0) (
Ae n9 λn10=>
Ai 0 [Aa n10])<|
AD<|
Ar T.a14 a0 0 λn11=>
AQ v λa13=>
Ar T.a14 a13 0 λn14=>
Ay (decide (n11<n14)) λb15=>
AH<|
Ag b15 (
Ai 0 [Aa 8])<|
Ar T.a13 a0 4 λn16=>
AT (n16 != 0) (
Bc T.a0 a0 λn18 n19 n20 n21 n22 n23 l24=>
Az F.a63 [Al v,Bb n18 n19 n20 n21 n22 n23 l24] λn25=>
Ae n25 λn26=>
Ai 0 [Aa n26])<|
Ai 0 [Aa 0]
theorem zuq (v:Option Addr) (b_0 b_1 b_2 b_3 b_4 b_5:Int) (b_6:Sl):FnS (z08u v b_0 b_1 b_2 b_3 b_4 b_5 b_6) F.a57 #[.pointer v,.agg #[.int .i64 b_0,.int .i64 b_1,.int .i64 b_2,.int .i64 b_3,.int .i64 b_4,.int .i64 b_5,.slice b_6.a b_6.len b_6.cap]]:=dV ⟨[],[],[],[]⟩ Go.Proofs.Tryz.func261 (by kernel_rfl)
def z08y (l_0 l_1 l_2:Int) (l_3:Int):Prog :=
Am T.a18 (By l_0 l_1 l_2 l_3) λa0=>
Ab T.a15 λa1=>
Ar T.a14 (Addr.add a0 0) 0 λn2=>
Ar T.a13 (Addr.add a0 0) 1 λn3=>
Ar T.a14 a0 2 λn4=>
Ar T.a14 a0 3 λn5=>
Ac T.a15 a1 (By n2 n3 n4 n5)<|
B9 T.a15 a1 λn6 n7 n8 n9=>
Ai 0 [By n6 n7 n8 n9]
theorem zuw (l_0 l_1 l_2 l_3:Int):FnS (z08y l_0 l_1 l_2 l_3) F.a64 #[.agg #[.int .i64 l_0,.int .i64 l_1,.int .i64 l_2,.int .i64 l_3]]:=dV ⟨[],[],[],[]⟩ Go.Proofs.Tryz.func265 (by kernel_rfl)
def z08v (a_0 a_1 a_2 a_3 b_0 b_1 b_2:Int) (b_3:Int):Prog :=
Am T.a15 (By a_0 a_1 a_2 a_3) λa0=>
Am T.a15 (By b_0 b_1 b_2 b_3) λa1=>
Ar T.a14 a0 2 λn2=>
Ar T.a14 a1 2 λn3=>
Az F.a1 [Aa n2,Aa n3] λn4=>
Ae n4 λn5=>
Ai 0 [Aa n5]
theorem zus (a_0 a_1 a_2 a_3 b_0 b_1 b_2 b_3:Int):FnS (z08v a_0 a_1 a_2 a_3 b_0 b_1 b_2 b_3) F.a60 #[.agg #[.int .i64 a_0,.int .i64 a_1,.int .i64 a_2,.int .i64 a_3],.agg #[.int .i64 b_0,.int .i64 b_1,.int .i64 b_2,.int .i64 b_3]]:=dV ⟨[],[],[],[]⟩ Go.Proofs.Tryz.func267 (by kernel_rfl)
def z07s (r_0 r_1 r_2 r_3 r_4 r_5:Int) (r_6:Int):Prog :=
Am T.a5 (B4 r_0 r_1 r_2 r_3 r_4 r_5 r_6) λa0=>
Ar T.a13 a0 2 λn1=>
Ar T.a13 a0 3 λn2=>
Ae (Ah (n1+n2)) λn3=>
Ai 0 [Aa n3]
theorem zto (r_0 r_1 r_2 r_3 r_4 r_5 r_6:Int):FnS (z07s r_0 r_1 r_2 r_3 r_4 r_5 r_6) F.a15 #[.agg #[.int .i64 r_0,.int .i64 r_1,.int .i64 r_2,.int .i64 r_3,.int .i64 r_4,.int .i64 r_5,.int .i64 r_6]]:=dV ⟨[],[],[],[]⟩ Go.Proofs.Tryz.func304 (by kernel_rfl)
def z07z (b_0 b_1 b_2 b_3 b_4 b_5:Int) (b_6:Sl):Prog :=
Am T.a0 (Bb b_0 b_1 b_2 b_3 b_4 b_5 b_6) λa0=>
Ar T.a13 a0 4 λn1=>
As ((n1 == 2)=false) T.a13 a0 4 λn2=>
Ay (n1 == 2 || n2 == 3) λb3=>
Ai 0 [.bool b3]
theorem ztv (b_0 b_1 b_2 b_3 b_4 b_5:Int) (b_6:Sl):FnS (z07z b_0 b_1 b_2 b_3 b_4 b_5 b_6) F.a23 #[.agg #[.int .i64 b_0,.int .i64 b_1,.int .i64 b_2,.int .i64 b_3,.int .i64 b_4,.int .i64 b_5,.slice b_6.a b_6.len b_6.cap]]:=dV ⟨[],[],[],[]⟩ Go.Proofs.Tryz.func306 (by kernel_rfl)
def z07y (r_0 r_1 r_2 r_3 r_4 r_5 r_6 b_0 b_1 b_2 b_3 b_4 b_5:Int) (b_6:Sl):Prog :=
Am T.a5 (B4 r_0 r_1 r_2 r_3 r_4 r_5 r_6) λa0=>
Am T.a0 (Bb b_0 b_1 b_2 b_3 b_4 b_5 b_6) λa1=>
Ab T.a7 λa2=>
Ax 1 (
AD<|
Ar T.a13 a1 2 λn3=>
Ar T.a13 a0 1 λn4=>
Bk ((n3 != n4)=false) (ld T.a13 (Addr.add a1 3)) λn5=>
.hold ((n3 != n4)=false) (ld T.a37 (Addr.add a1 6)) sL (u1 λl6=>
.read ((n3 != n4)=false) (ld T.a5 a0) (sG [.int .i64,.int .i64,.int .i64,.int .i64,.int .i64,.int .i64,.int .i64]) (u7 λ(n7 n8 n9 n10 n11 n12 n13:Int)=>
Ag (n3 != n4) (
AH<|
Ai 1 [.bool true])<|
Az F.a15 [B4 n7 n8 n9 n10 n11 n12 n13] λn14=>
AH<|
Ai 1 [.bool (decide (Ah (n5+(Ao l6))>n14))]))) λb15=>
Ag b15 (
Ac T.a7 a2 (B0 false 0)<|
BB T.a7 a2 λb16 n17=>
Ai 0 [B0 b16 n17,.bool false])<|
Ar T.a13 a1 3 λn18=>
Ar T.a13 a0 2 λn19=>
B2 ((n18 == n19)=true) T.a37 a1 6 λl20=>
As ((n18 == n19)=true) T.a13 a0 3 λn21=>
Ag (n18 == n19 && (Ao l20) == n21) (
Ar T.a14 a0 4 λn22=>
Ac T.a7 a2 (B0 true n22)<|
BB T.a7 a2 λb23 n24=>
Ai 0 [B0 b23 n24,.bool true])<|
Ac T.a7 a2 (.agg #[.bool true,Aa (-1)])<|
BB T.a7 a2 λb25 n26=>
Ai 0 [B0 b25 n26,.bool true]
theorem ztu (r_0 r_1 r_2 r_3 r_4 r_5 r_6 b_0 b_1 b_2 b_3 b_4 b_5:Int) (b_6:Sl):FnS (z07y r_0 r_1 r_2 r_3 r_4 r_5 r_6 b_0 b_1 b_2 b_3 b_4 b_5 b_6) F.a22 #[.agg #[.int .i64 r_0,.int .i64 r_1,.int .i64 r_2,.int .i64 r_3,.int .i64 r_4,.int .i64 r_5,.int .i64 r_6],.agg #[.int .i64 b_0,.int .i64 b_1,.int .i64 b_2,.int .i64 b_3,.int .i64 b_4,.int .i64 b_5,.slice b_6.a b_6.len b_6.cap]]:=dV ⟨[],[],[(1,[(21,.one .bool)])],[]⟩ Go.Proofs.Tryz.func307 (by kernel_rfl)
def z07w (t:Option Addr) (r_0 r_1 r_2 r_3 r_4 r_5 r_6:Int) (there:Bool) (b_0 b_1 b_2 b_3 b_4 b_5:Int) (b_6:Sl):Prog :=
Am T.a5 (B4 r_0 r_1 r_2 r_3 r_4 r_5 r_6) λa0=>
Am T.a0 (Bb b_0 b_1 b_2 b_3 b_4 b_5 b_6) λa1=>
B7 T.a5 a0 λn2 n3 n4 n5 n6 n7 n8=>
Az F.a15 [B4 n2 n3 n4 n5 n6 n7 n8] λn9=>
Ae n9 λn10=>
Ar T.a13 a1 2 λn11=>
Ar T.a13 a0 1 λn12=>
Af 1 (
Ag (decide (n11>n12)) (
Ai 1 [Aa 0])<|
Ai 1 [Aa n10]) λn13=>
B7 T.a5 a0 λn14 n15 n16 n17 n18 n19 n20=>
Aw F.a16 [B4 n14 n15 n16 n17 n18 n19 n20] λb21=>
As (b21=true) T.a13 a1 2 λn22=>
As (b21=true) T.a13 a0 1 λn23=>
As (b21=true/\decide (n22>n23)=false) T.a13 a1 4 λn24=>
AT (b21 && (decide (n22>n23) || n24 == 0)) (
Ai 0 [Aa 22])<|
Bc T.a0 a1 λn26 n27 n28 n29 n30 n31 l32=>
Aw F.a23 [Bb n26 n27 n28 n29 n30 n31 l32] λb33=>
As (not b33=true) T.a13 a1 3 λn34=>
AT (not b33 && n34 != n13) (
Ai 0 [Aa 21])<|
AD<|
Bl (not there=true) t λa37=>
BD (not there=true) T.a20 a37 2 λm38=>
BE (not there=true) (Builtin.len_ #[T.a20] T.a13 #[.map m38]) λn39=>
Bl (not there=true) t λa41=>
As (not there=true) T.a13 a41 0 λn42=>
Ay (not there && decide (n39>=n42)) λb43=>
AH<|
Ag b43 (
Ai 0 [Aa 5])<|
Ai 0 [Aa 0]
theorem zts (t:Option Addr) (r_0 r_1 r_2 r_3 r_4 r_5 r_6:Int) (there:Bool) (b_0 b_1 b_2 b_3 b_4 b_5:Int) (b_6:Sl):FnS (z07w t r_0 r_1 r_2 r_3 r_4 r_5 r_6 there b_0 b_1 b_2 b_3 b_4 b_5 b_6) F.a20 #[.pointer t,.agg #[.int .i64 r_0,.int .i64 r_1,.int .i64 r_2,.int .i64 r_3,.int .i64 r_4,.int .i64 r_5,.int .i64 r_6],.bool there,.agg #[.int .i64 b_0,.int .i64 b_1,.int .i64 b_2,.int .i64 b_3,.int .i64 b_4,.int .i64 b_5,.slice b_6.a b_6.len b_6.cap]]:=dV ⟨[(2097168,[(9,.one (.int .i64))])],[],[],[]⟩ Go.Proofs.Tryz.func308 (by kernel_rfl)
def z08x (v:Option Addr) (b_0 b_1 b_2 b_3 b_4 b_5:Int) (b_6:Sl):Prog :=
Am T.a0 (Bb b_0 b_1 b_2 b_3 b_4 b_5 b_6) λa0=>
Ar T.a14 a0 1 λn1=>
Ar T.a13 a0 2 λn2=>
Ab T.a17 λa3=>
Ac T.a17 a3 (Bh n1 n2)<|
Ax 1 (
AD<|
AQ v λa5=>
Bw T.a22 a5 2 λm6=>
.hold True (ld T.a17 a3) (sG [.int .i64,.int .i64]) (u2 λ(n7 n8:Int)=>
Bx (Instr.lookup T.a22 (.map m6) (Bh n7 n8) true) λn9 n10 n11 n12 b13=>
Ab T.a18 λa14=>
AH<|
Ac T.a18 a14 (By n9 n10 n11 n12)<|
Ay b13 λb15=>
AH<|
Ai 1 [.bool b15])) λb16=>
Bv 1 (
AD<|
AQ v λa18=>
Bw T.a21 a18 1 λm19=>
AS T.a14 a0 1 λn20=>
Bx (Instr.lookup T.a21 (.map m19) (Aa n20) true) λn21 n22 n23 n24 b25=>
Ab T.a18 λa26=>
AH<|
Ac T.a18 a26 (By n21 n22 n23 n24)<|
Ay b25 λb27=>
AH<|
Ai 1 [AB a26,.bool b27]) λa28 b29=>
AT b16 (
Ai 0 [Aa 20])<|
BF (b29=true) (ld T.a17 (Addr.add a28 0)) λn31 n32=>
BF (b29=true) (ld T.a17 a3) λn33 n34=>
AT (b29 && not (n31 == n33 && n32 == n34)) (
Ai 0 [Aa 22])<|
Ar T.a13 a0 4 λn36=>
Bl ((n36 == 1 && not b29)=true) v λa38=>
BD ((n36 == 1 && not b29)=true) T.a21 a38 1 λm39=>
BE ((n36 == 1 && not b29)=true) (Builtin.len_ #[T.a21] T.a13 #[.map m39]) λn40=>
AT (n36 == 1 && not b29 && decide (n40>=1024)) (
Ai 0 [Aa 5])<|
Ar T.a13 a0 4 λn42=>
Bl ((n42 == 3 && b29)=true) v λa44=>
BD ((n42 == 3 && b29)=true) T.a22 a44 2 λm45=>
BE ((n42 == 3 && b29)=true) (Builtin.len_ #[T.a22] T.a13 #[.map m45]) λn46=>
AT (n42 == 3 && b29 && decide (n46>=4096)) (
Ai 0 [Aa 5])<|
Ai 0 [Aa 0]
theorem zuv (v:Option Addr) (b_0 b_1 b_2 b_3 b_4 b_5:Int) (b_6:Sl):FnS (z08x v b_0 b_1 b_2 b_3 b_4 b_5 b_6) F.a63 #[.pointer v,.agg #[.int .i64 b_0,.int .i64 b_1,.int .i64 b_2,.int .i64 b_3,.int .i64 b_4,.int .i64 b_5,.slice b_6.a b_6.len b_6.cap]]:=dV ⟨[],[],[(2,[(7,.one .bool)]),(3,[(8,.one .adr),(9,.one .bool)])],[]⟩ Go.Proofs.Tryz.func309 (by kernel_rfl)
def z08s (a_0 a_1 a_2 a_3 b_0 b_1 b_2:Int) (b_3:Int):Prog :=
Am T.a15 (By a_0 a_1 a_2 a_3) λa0=>
Am T.a15 (By b_0 b_1 b_2 b_3) λa1=>
Ar T.a14 a0 3 λn2=>
Ar T.a14 a1 3 λn3=>
Az F.a1 [Aa n2,Aa n3] λn4=>
Ae n4 λn5=>
Ai 0 [Aa n5]
theorem zuo (a_0 a_1 a_2 a_3 b_0 b_1 b_2 b_3:Int):FnS (z08s a_0 a_1 a_2 a_3 b_0 b_1 b_2 b_3) F.a55 #[.agg #[.int .i64 a_0,.int .i64 a_1,.int .i64 a_2,.int .i64 a_3],.agg #[.int .i64 b_0,.int .i64 b_1,.int .i64 b_2,.int .i64 b_3]]:=dV ⟨[],[],[],[]⟩ Go.Proofs.Tryz.func342 (by kernel_rfl)
def z08c (room:Int):Prog :=
Ag (decide (room<0) || decide (room>4194304)) (
Ai 0 [Al none,Aa 2])<|
.act (Instr.makeMap T.a23 none) sM (u1 λm0=>
Am T.a8 (.agg #[Aa (-1),.bool false,Aa room,Aa 0,.map m0]) λa1=>
Ai 0 [AB a1,Aa 0])
theorem zu8 (room:Int):FnS (z08c room) F.a37 #[.int .i64 room]:=dV ⟨[],[],[],[]⟩ Go.Proofs.Tryz.func12 (by kernel_rfl)
def z086 (d:Option Addr) (name:ByteArray):Prog :=
.call F.a33 [Al d,.string name] (sG [.slc,.int .i64]) (u2 λl0 (n1:Int)=>
Ae (Ao l0) λn2=>
Ai 0 [Aa n2])
theorem zu2 (d:Option Addr) (name:ByteArray):FnS (z086 d name) F.a31 #[.pointer d,.string name]:=dV ⟨[],[],[],[]⟩ Go.Proofs.Tryz.func120 (by kernel_rfl)
def z085 (d:Option Addr) (name:ByteArray):Prog :=
Az F.a35 [Al d] λn0=>
Ae n0 λn1=>
Ag (n1 != 0) (
Ae n1 λn2=>
Ai 0 [Aa n2])<|
AQ d λa4=>
B5 T.a23 a4 4 λm5=>
BG (Instr.lookup T.a23 (.map m5) (.string name) false) λp6=>
Ag (Option.isNone p6) (
Ai 0 [Aa 3])<|
Bi F.a34 [Al d,.string name]<|
AQ d λa8=>
Bi F.a38 [BH a8 0]<|
Ai 0 [Aa 0]
theorem zu1 (d:Option Addr) (name:ByteArray):FnS (z085 d name) F.a30 #[.pointer d,.string name]:=dV ⟨[],[],[],[]⟩ Go.Proofs.Tryz.func123 (by kernel_rfl)
def z013 (x:Int):Prog :=
Az F.a76 [.int .u64 x] λn0=>
Ae n0 λn1=>
Ai 0 [Aa n1]
theorem zhr (x:Int):FnS (z013 x) F.a75 #[.int .u64 x]:=dV ⟨[],[],[],[]⟩ Go.Proofs.Tryz.func166 (by kernel_rfl)
def z083 (d:Option Addr):Prog :=
Bl (Option.isNone d=false) d λa1=>
AZ (Option.isNone d=false) T.a3 (Addr.add a1 0) 1 λb2=>
Ay (Option.isNone d || b2) λb3=>
Ai 0 [.bool b3]
theorem ztz (d:Option Addr):FnS (z083 d) F.a27 #[.pointer d]:=dV ⟨[],[],[],[]⟩ Go.Proofs.Tryz.func171 (by kernel_rfl)
def z088 (d:Option Addr) (name:ByteArray):Prog :=
Ab T.a9 λa0=>
Bl (Option.isNone d=false) d λa2=>
BD (Option.isNone d=false) T.a23 a2 4 λm3=>
.read (Option.isNone d=false) (Instr.lookup T.a23 (.map m3) (.string name) false) sP (u1 λp4=>
Ag (Option.isNone d || Option.isNone p4) (
Ac T.a9 a0 (.agg #[.slice none 0 0,Aa 0])<|
BI T.a9 a0 λl5 n6=>
Ai 0 [BJ l5 n6])<|
AQ d λa8=>
B5 T.a23 a8 4 λm9=>
BG (Instr.lookup T.a23 (.map m9) (.string name) false) λp10=>
AQ p10 λa12=>
BI T.a9 a12 λl13 n14=>
Ac T.a9 a0 (BJ l13 n14)<|
BI T.a9 a0 λl15 n16=>
Ai 0 [BJ l15 n16])
theorem zu4 (d:Option Addr) (name:ByteArray):FnS (z088 d name) F.a33 #[.pointer d,.string name]:=dV ⟨[],[],[],[]⟩ Go.Proofs.Tryz.func177 (by kernel_rfl)
def z084 (d:Option Addr) (name:ByteArray):Prog :=
Ag (Option.isNone d) (
Ai 0 [.slice none 0 0,Aa 1])<|
AQ d λa1=>
B5 T.a23 a1 4 λm2=>
BG (Instr.lookup T.a23 (.map m2) (.string name) false) λp3=>
Ag (Option.isNone p3) (
Ai 0 [.slice none 0 0,Aa 3])<|
AQ p3 λa5=>
AJ T.a45 a5 0 λl6=>
AV F.a0 [l6.v] λl7=>
Ai 0 [l7.v,Aa 0]
theorem zu0 (d:Option Addr) (name:ByteArray):FnS (z084 d name) F.a29 #[.pointer d,.string name]:=dV ⟨[],[],[],[]⟩ Go.Proofs.Tryz.func178 (by kernel_rfl)
def z08a (d:Option Addr):Prog :=
AT (Option.isNone d) (
Ai 0 [Aa 1])<|
AQ d λa2=>
Bq T.a3 (Addr.add a2 0) 1 λb3=>
AT b3 (
Ai 0 [Aa 9])<|
Ai 0 [Aa 0]
theorem zu6 (d:Option Addr):FnS (z08a d) F.a35 #[.pointer d]:=dV ⟨[],[],[],[]⟩ Go.Proofs.Tryz.func179 (by kernel_rfl)
def z089 (d:Option Addr) (name:ByteArray):Prog :=
AQ d λa1=>
B5 T.a23 a1 4 λm2=>
BG (Instr.lookup T.a23 (.map m2) (.string name) false) λp3=>
AC 1 (
Ag (not (Option.isNone p3)) (
AD<|
AQ d λa5=>
Ar T.a13 a5 3 λn6=>
AQ p3 λa8=>
AJ T.a45 a8 0 λl9=>
AQ d λa11=>
AI T.a13 a11 3 (Aa (Ah (n6-(Ao l9))))<|
AH<|
AQ d λa13=>
B5 T.a23 a13 4 λm14=>
B8 (Builtin.delete_ #[T.a23,T.a49] T.a53 #[.map m14,.string name])<|
Ai 1 [])<|
Ai 1 [])<|
Ai 0 []
theorem zu5 (d:Option Addr) (name:ByteArray):FnS (z089 d name) F.a34 #[.pointer d,.string name]:=dV ⟨[(4398012956684,[])],[],[],[]⟩ Go.Proofs.Tryz.func180 (by kernel_rfl)
def z08d (p:Option Addr):Prog :=
AQ p λa1=>
Ar T.a13 a1 0 λn2=>
AC 1 (
Ag (decide (n2>0)) (
AQ p λa4=>
Ar T.a13 a4 0 λn5=>
AQ p λa7=>
AI T.a13 a7 0 (Aa (Ah (n5-1)))<|
AQ p λa9=>
Ar T.a13 a9 0 λn10=>
AQ p λa12=>
AI T.a3 a12 1 (.bool (n10 == 0))<|
Ai 1 [])<|
Ai 1 [])<|
Ai 0 []
theorem zu9 (p:Option Addr):FnS (z08d p) F.a38 #[.pointer p]:=dV ⟨[(17179344902,[])],[],[],[]⟩ Go.Proofs.Tryz.func181 (by kernel_rfl)
def z02p (n:Int) (f:Value):Prog :=
Ae n λn0=>
Af 1 (
Be 2 (0,(n0,())) λn1 n2=>
Ag (decide (n1<n2)) (
Ae (Ah (Int.fdiv (IntKind.wrap .u64 (Ah (n1+n2))) 2)) λn3=>
.callv (f) [Aa n3] sB (u1 λb4=>
AR 3 (
Ag (not b4) (
Ae (Ah (n3+1)) λn5=>
Ai 3 [Aa n5,Aa n2])<|
Ae n3 λn6=>
Ai 3 [Aa n1,Aa n6]) λn7 n8=>
Ai 2 [Aa n7,Aa n8]))<|
Ai 1 [Aa n1]) λn9=>
Ae n9 λn10=>
Ai 0 [Aa n10]
theorem zp0 (n:Int) (f:Value) {w:World} {R:List Value->World->Prop} (h:(z02p n f).wp P (λ_=>True) w λe vs w'=>e=0/\R vs w'):Ret P F.a151 #[.int .i64 n,f] w R:=dS (n:=26) (rv:=[.tmp 4]) { cnd:=[(120259477525,[(5,.one (.int .i64)),(6,.one (.int .i64))])],blk:=[(0,[(5,.one (.int .i64))])],reg:=[],lps:=[(0,[(5,.one (.int .i64)),(6,.one (.int .i64))])] } [.val (.int .i64 n),.any f] Go.Proofs.Tryz.func194 (by kernel_rfl) (by kernel_rfl) (by kernel_rfl) (by kernel_rfl) h
def z080 (d:Option Addr) (name:ByteArray) (parts:Sl):Prog :=
Az F.a35 [Al d] λn0=>
Ae n0 λn1=>
Ag (n1 != 0) (
Ae n1 λn2=>
Ai 0 [Aa n2])<|
Aw F.a36 [.string name] λb3=>
Ag (not b3) (
Ai 0 [Aa 2])<|
Af 1 (
Be 2 (0,(0,())) λn4 n5=>
Ag (decide (n5<(Ao parts))) (
.ex [.adr] (c1 λa6=>0<=n5/\n5<(Ao parts)/\parts.a=some a6) (u1 λa7=>
AJ T.a45 a7 (Int.toNat n5*1) λl8=>
Az F.a26 [Al d] λn9=>
Ag (decide ((Ao l8)>Ah (n9-n4))) (
Ai 0 [Aa 5])<|
Ae (Ah (n4+(Ao l8))) λn10=>
Ai 2 [Aa n10,Aa (Ah (n5+1))]))<|
Ai 1 [Aa n4]) λn11=>
AQ d λa13=>
B5 T.a23 a13 4 λm14=>
.read True (Instr.lookup T.a23 (.map m14) (.string name) true) (.tup [.one .ptr,.one .bool]) (u2 λp15 b16=>
Ay b16 λb17=>
An 1 (
Ag (not b17) (
AQ d λa19=>
B5 T.a23 a19 4 λm20=>
.read True (Builtin.len_ #[T.a23] T.a13 #[.map m20]) (sI .i64) (u1 λ(n21:Int)=>
Ag (decide (n21>=128)) (
Ai 0 [Aa 5])<|
Am T.a9 (.agg #[.slice none 0 0,Aa 0]) λa22=>
AQ d λa24=>
B5 T.a23 a24 4 λm25=>
B6 (Instr.mapUpdate T.a23 (.map m25) (.string name) (AB a22))<|
Ai 1 [AB a22]))<|
Ai 1 [Al p15]) λp26=>
AC 1 (
AU 2 (0,()) λn27=>
Ag (decide (n27<(Ao parts))) (
.ex [.adr] (c1 λa28=>0<=n27/\n27<(Ao parts)/\parts.a=some a28) (u1 λa29=>
AJ T.a45 a29 (Int.toNat n27*1) λl30=>
AQ p26 λa32=>
AJ T.a45 a32 0 λl33=>
AP (app T.a45 T.a45 T.a45 l33.v l30.v) λl34=>
AQ p26 λa36=>
AI T.a45 a36 0 l34.v<|
Ai 2 [Aa (Ah (n27+1))]))<|
Ai 1 [])<|
AQ d λa38=>
Ar T.a13 a38 3 λn39=>
AQ d λa41=>
AI T.a13 a41 3 (Aa (Ah (n39+n11)))<|
AQ d λa43=>
Bi F.a38 [BH a43 0]<|
Ai 0 [Aa 0])
theorem ztw (d:Option Addr) (name:ByteArray) (parts:Sl):FnS (z080 d name parts) F.a24 #[.pointer d,.string name,.slice parts.a parts.len parts.cap]:=dV ⟨[(604426016319167176900660,[(11,.one .ptr)])],[(0,[(8,.one (.int .i64))]),(2,[])],[],[(0,[(8,.one (.int .i64)),(26,.one (.int .i64))]),(2,[(69,.one (.int .i64))])]⟩ Go.Proofs.Tryz.func219 (by kernel_rfl)
def z087 (d:Option Addr) (names:Sl):Prog :=
Az F.a35 [Al d] λn0=>
Ae n0 λn1=>
Ag (n1 != 0) (
Ae n1 λn2=>
Ai 0 [Aa n2])<|
AC 1 (
AU 2 (0,()) λn3=>
Ag (decide (n3<(Ao names))) (
.ex [.adr] (c1 λa4=>0<=n3/\n3<(Ao names)/\names.a=some a4) (u1 λa5=>
AE T.a49 a5 (Int.toNat n3*1) λs6=>
AW s6 λs7=>
AQ d λa9=>
B5 T.a23 a9 4 λm10=>
BG (Instr.lookup T.a23 (.map m10) (.string s7) false) λp11=>
Ag (Option.isNone p11) (
Ai 0 [Aa 3])<|
Ai 2 [Aa (Ah (n3+1))]))<|
Ai 1 [])<|
AK 1 (
Ag ((Ao names) == 0) (
AV F.a28 [Al d,.string (ByteArray.mk #[])] λl12=>
Ai 1 [l12.v])<|
Ai 1 [names.v]) λl13=>
AC 1 (
AU 2 (0,()) λn14=>
Ag (decide (n14<(Ao l13))) (
.ex [.adr] (c1 λa15=>0<=n14/\n14<(Ao l13)/\l13.a=some a15) (u1 λa16=>
AE T.a49 a16 (Int.toNat n14*1) λs17=>
AW s17 λs18=>
AQ d λa20=>
B5 T.a23 a20 4 λm21=>
BG (Instr.lookup T.a23 (.map m21) (.string s18) false) λp22=>
AQ p22 λa24=>
AJ T.a45 a24 0 λl25=>
AQ p22 λa27=>
AI T.a13 a27 1 (Aa (Ao l25))<|
Ai 2 [Aa (Ah (n14+1))]))<|
Ai 1 [])<|
AQ d λa29=>
Bi F.a38 [BH a29 0]<|
Ai 0 [Aa 0]
theorem zu3 (d:Option Addr) (names:Sl):FnS (z087 d names) F.a32 #[.pointer d,.slice names.a names.len names.cap]:=dV ⟨[(105553116274720,[(1,.one .slc)])],[(0,[]),(2,[])],[],[(0,[(18,.one (.int .i64))]),(2,[(37,.one (.int .i64))])]⟩ Go.Proofs.Tryz.func220 (by kernel_rfl)
def z014 (x:Int):Prog :=
BK 1 (
Ag (decide (x>=4294967296)) (
Bu (Int.fdiv x 4294967296) λn0=>
Ai 1 [.int .u64 n0,Aa 32])<|
Ai 1 [.int .u64 x,Aa 0]) λn1 n2=>
BK 1 (
Ag (decide (n1>=65536)) (
Bu (Int.fdiv n1 65536) λn3=>
Ae (Ah (n2+16)) λn4=>
Ai 1 [.int .u64 n3,Aa n4])<|
Ai 1 [.int .u64 n1,Aa n2]) λn5 n6=>
BK 1 (
Ag (decide (n5>=256)) (
Bu (Int.fdiv n5 256) λn7=>
Ae (Ah (n6+8)) λn8=>
Ai 1 [.int .u64 n7,Aa n8])<|
Ai 1 [.int .u64 n5,Aa n6]) λn9 n10=>
.must (0<=IntKind.wrap .u8 n9/\IntKind.wrap .u8 n9<256) <|
Ae (Ah (n10+Ah (bt (ByteArray.mk #[0,1,2,2,3,3,3,3,4,4,4,4,4,4,4,4,5,5,5,5,5,5,5,5,5,5,5,5,5,5,5,5,6,6,6,6,6,6,6,6,6,6,6,6,6,6,6,6,6,6,6,6,6,6,6,6,6,6,6,6,6,6,6,6,7,7,7,7,7,7,7,7,7,7,7,7,7,7,7,7,7,7,7,7,7,7,7,7,7,7,7,7,7,7,7,7,7,7,7,7,7,7,7,7,7,7,7,7,7,7,7,7,7,7,7,7,7,7,7,7,7,7,7,7,7,7,7,7,8,8,8,8,8,8,8,8,8,8,8,8,8,8,8,8,8,8,8,8,8,8,8,8,8,8,8,8,8,8,8,8,8,8,8,8,8,8,8,8,8,8,8,8,8,8,8,8,8,8,8,8,8,8,8,8,8,8,8,8,8,8,8,8,8,8,8,8,8,8,8,8,8,8,8,8,8,8,8,8,8,8,8,8,8,8,8,8,8,8,8,8,8,8,8,8,8,8,8,8,8,8,8,8,8,8,8,8,8,8,8,8,8,8,8,8,8,8,8,8,8,8,8,8,8,8,8,8]) (IntKind.wrap .u8 n9)))) λn11=>
Ai 0 [Aa n11]
theorem zhs (x:Int):FnS (z014 x) F.a76 #[.int .u64 x]:=dV ⟨[(413700,[(0,.one (.int .u64)),(2,.one (.int .i64))]),(31477768,[(0,.one (.int .u64)),(2,.one (.int .i64))]),(2013286414,[(0,.one (.int .u64)),(2,.one (.int .i64))])],[],[],[]⟩ Go.Proofs.Tryz.func239 (by kernel_rfl)
def z081 (d:Option Addr) (name:ByteArray) (n:Int):Prog :=
Az F.a35 [Al d] λn0=>
Ae n0 λn1=>
Ag (n1 != 0) (
Ae n1 λn2=>
Ai 0 [Aa n2])<|
AQ d λa4=>
B5 T.a23 a4 4 λm5=>
BG (Instr.lookup T.a23 (.map m5) (.string name) false) λp6=>
AT (Option.isNone p6) (
Ai 0 [Aa 3])<|
Bl (decide (n<0)=false) p6 λa9=>
B2 (decide (n<0)=false) T.a45 a9 0 λl10=>
AT (decide (n<0) || decide (n>(Ao l10))) (
Ai 0 [Aa 2])<|
AD<|
AQ d λa13=>
Ar T.a13 a13 3 λn14=>
AQ p6 λa16=>
AJ T.a45 a16 0 λl17=>
AQ d λa19=>
AI T.a13 a19 3 (Aa (Ah (n14-Ah ((Ao l17)-n))))<|
AH<|
AQ p6 λa21=>
AJ T.a45 a21 0 λl22=>
.must (0<=n/\n<=n/\n<=((l22.cap:Nat):Int)) <|
AQ p6 λa24=>
AI T.a45 a24 0 (.slice l22.a (Int.toNat n) (Int.toNat n))<|
AQ p6 λa26=>
Ar T.a13 a26 1 λn27=>
AQ p6 λa29=>
AI T.a13 a29 1 (Aa (if n<n27 then n else n27))<|
AQ d λa31=>
Bi F.a38 [BH a31 0]<|
Ai 0 [Aa 0]
theorem ztx (d:Option Addr) (name:ByteArray) (n:Int):FnS (z081 d name n) F.a25 #[.pointer d,.string name,.int .i64 n]:=dV ⟨[],[],[],[]⟩ Go.Proofs.Tryz.func251 (by kernel_rfl)
def z02m (x:Sl) (cmp:Value):Prog :=
Ae (Ao x) λn0=>
Az F.a75 [.int .u64 (IntKind.wrap .u64 n0)] λn1=>
Bi F.a148 [x.v,Aa 0,Aa n0,Aa n1,cmp]<|
Ai 0 []
theorem zox (x:Sl) (cmp:Value) {w:World} {R:List Value->World->Prop} (h:(z02m x cmp).wp P (λ_=>True) w λe vs w'=>e=0/\R vs w'):Ret P F.a139 #[.slice x.a x.len x.cap,cmp] w R:=dS (n:=14) (rv:=[]) { cnd:=[],blk:=[],reg:=[],lps:=[] } [.val (.slice x.a x.len x.cap),.any cmp] Go.Proofs.Tryz.func266 (by kernel_rfl) (by kernel_rfl) (by kernel_rfl) (by kernel_rfl) h
def zf1 (x:Int) (y:Int):Prog :=
Aw F.a2 [Aa x] λb0=>
Ay b0 λb1=>
Aw F.a2 [Aa y] λb2=>
Ay b2 λb3=>
Ag b1 (
Ag b3 (
Ai 0 [Aa 0])<|
Ai 0 [Aa (-1)])<|
Ag b3 (
Ai 0 [Aa 1])<|
Ag (decide (x<y)) (
Ai 0 [Aa (-1)])<|
Ag (decide (x>y)) (
Ai 0 [Aa 1])<|
Ai 0 [Aa 0]
theorem zy3 (x y:Int):FnS (zf1 x y) F.a1 #[.int .i64 x,.int .i64 y]:=dV ⟨[],[],[],[]⟩ Go.Proofs.Tryz.func268 (by kernel_rfl)
def z08b (s:ByteArray):Prog :=
Ag (decide (((ByteArray.size s:Nat):Int)<1) || decide (((ByteArray.size s:Nat):Int)>24)) (
Ai 0 [.bool false])<|
AP (convert T.a49 T.a45 (.string s)) λl0=>
AC 1 (
AU 2 (0,()) λn1=>
Ag (decide (n1<(Ao l0))) (
.ex [.adr] (c1 λa2=>0<=n1/\n1<(Ao l0)/\l0.a=some a2) (u1 λa3=>
BL T.a52 a3 (Int.toNat n1*1) λn4=>
BM n4 λn5=>
Ay (decide (n5>=97) && decide (n5<=122)) λb6=>
Ay (decide (n5>=48) && decide (n5<=57)) λb7=>
Ag (not b6 && not b7 && n5 != 46 && n5 != 45) (
Ai 0 [.bool false])<|
Ai 2 [Aa (Ah (n1+1))]))<|
Ai 1 [])<|
Ai 0 [.bool true]
theorem zu7 (s:ByteArray):FnS (z08b s) F.a36 #[.string s]:=dV ⟨[],[(0,[])],[],[(0,[(18,.one (.int .i64))])]⟩ Go.Proofs.Tryz.func281 (by kernel_rfl)
def z082 (d:Option Addr):Prog :=
Ag (Option.isNone d) (
Ai 0 [Aa 0])<|
AD<|
AQ d λa1=>
Ar T.a13 a1 2 λn2=>
AQ d λa4=>
Ar T.a13 a4 3 λn5=>
Ae (if 0>Ah (n2-n5) then 0 else Ah (n2-n5)) λn6=>
AH<|
Ai 0 [Aa n6]
theorem zty (d:Option Addr):FnS (z082 d) F.a26 #[.pointer d]:=dV ⟨[],[],[],[]⟩ Go.Proofs.Tryz.func282 (by kernel_rfl)
def zf73 (m:Option Nat):Prog :=
Am T.a23 (.map m) λa0=>
Ai 0 [.func (Fn.func 324) #[] #[AB a0]]
theorem zf73_calls (m:Option Nat):FnS (zf73 m) F.a74 #[.map m]:=dV ⟨[],[],[],[]⟩ Go.Proofs.Tryz.func292 (by kernel_rfl)
def zf147 (s:ByteArray) (prefix_:ByteArray):Prog :=
Aw F.a52 [.string s,.string prefix_] λb0=>
Ay b0 λb1=>
Ai 0 [.bool b1]
theorem zf147_calls (s prefix_:ByteArray):FnS (zf147 s prefix_) F.a152 #[.string s,.string prefix_]:=dV ⟨[],[],[],[]⟩ Go.Proofs.Tryz.func293 (by kernel_rfl)
def z02o (data:Sl) (a b limit:Int) (cmp:Value):Prog :=
.loop 1 [.one (.int .i64),.one (.int .i64),.one (.int .i64),.one .bool,.one .bool] (a,(b,(limit,(true,(true,()))))) (u5 λ(n0 n1 n2:Int) b3 b4=>
.bind 2 [.one (.int .i64),.one (.int .i64),.one (.int .i64),.one .bool,.one .bool] (
Ae (Ah (n1-n0)) λn5=>
Ag (decide (n5<=12)) (
Bi F.a144 [data.v,Aa n0,Aa n1,cmp]<|
Ai 0 [])<|
Ag (n2 == 0) (
Bi F.a143 [data.v,Aa n0,Aa n1,cmp]<|
Ai 0 [])<|
Af 3 (
Ag (not b3) (
Bi F.a141 [data.v,Aa n0,Aa n1,cmp]<|
Ae (Ah (n2-1)) λn6=>
Ai 3 [Aa n6])<|
Ai 3 [Aa n2]) λn7=>
Av F.a142 [data.v,Aa n0,Aa n1,cmp] λn8 n9=>
Ae n8 λn10=>
Ae n9 λn11=>
AR 3 (
Ag (n11 == 2) (
Bi F.a149 [data.v,Aa n0,Aa n1,cmp]<|
Ae (Ah (Ah (n1-1)-Ah (n10-n0))) λn12=>
Ai 3 [Aa n12,Aa 1])<|
Ai 3 [Aa n10,Aa n11]) λn13 n14=>
AC 3 (
Ag (b3 && b4 && n14 == 1) (
Aw F.a145 [data.v,Aa n0,Aa n1,cmp] λb15=>
Ag b15 (
Ai 0 [])<|
Ai 3 [])<|
Ai 3 [])<|
Ax 3 (
AD<|
.ex [.adr] (c1 λa16=>decide (n0>0)=true->0<=Ah (n0-1)/\Ah (n0-1)<(Ao data)/\data.a=some a16) (u1 λa17=>
BN (decide (n0>0)=true) T.a15 a17 (Int.toNat (Ah (n0-1))*4) λn18 n19 n20 n21=>
.ex [.adr] (c1 λa22=>decide (n0>0)=true->0<=n13/\n13<(Ao data)/\data.a=some a22) (u1 λa23=>
BN (decide (n0>0)=true) T.a15 a23 (Int.toNat n13*4) λn24 n25 n26 n27=>
Ag (decide (n0>0)) (
.callv (cmp) [By n18 n19 n20 n21,By n24 n25 n26 n27] (sI .i64) (u1 λ(n28:Int)=>
AH<|
Ai 3 [.bool (not (decide (n28<0)))]))<|
AH<|
Ai 3 [.bool false]))) λb29=>
Ag b29 (
Az F.a147 [data.v,Aa n0,Aa n1,Aa n13,cmp] λn30=>
Ae n30 λn31=>
Ae n31 λn32=>
Ai 2 [Aa n32,Aa n1,Aa n7,.bool b3,.bool b4])<|
Br F.a146 [data.v,Aa n0,Aa n1,Aa n13,cmp] λn33 b34=>
Ae n33 λn35=>
Ay b34 λb36=>
Ay b36 λb37=>
Ae (Ah (n35-n0)) λn38=>
Ae (Ah (n1-n35)) λn39=>
Ae (Ah (Int.tdiv n5 8)) λn40=>
.bind 3 [.one (.int .i64),.one (.int .i64),.one .bool] (
Ag (decide (n38<n39)) (
Ay (decide (n38>=n40)) λb41=>
Bi F.a148 [data.v,Aa n0,Aa n35,Aa n7,cmp]<|
Ae (Ah (n35+1)) λn42=>
Ai 3 [Aa n42,Aa n1,.bool b41])<|
Ay (decide (n39>=n40)) λb43=>
Bi F.a148 [data.v,Aa (Ah (n35+1)),Aa n1,Aa n7,cmp]<|
Ae n35 λn44=>
Ai 3 [Aa n0,Aa n44,.bool b43]) (u3 λ(n45 n46:Int) b47=>
Ai 2 [Aa n45,Aa n46,Aa n7,.bool b47,.bool b37])) (u5 λ(n48 n49 n50:Int) b51 b52=>
Ai 1 [Aa n48,Aa n49,Aa n50,.bool b51,.bool b52]))
theorem zoz (data:Sl) (a b limit:Int) (cmp:Value) {w:World} {R:List Value->World->Prop} (h:(z02o data a b limit cmp).wp P (λ_=>True) w λe vs w'=>e=0/\R vs w'):Ret P F.a148 #[.slice data.a data.len data.cap,.int .i64 a,.int .i64 b,.int .i64 limit,cmp] w R:=dS (n:=148) (rv:=[]) { cnd:=[(571957152676085799,[(3,.one (.int .i64))]),(1208335523804270569717816,[(13,.one (.int .i64)),(14,.one (.int .i64))]),(9594035304461697130468212811,[]),(1461501288881759191162698246220685009525288231037,[(1,.one (.int .i64)),(2,.one (.int .i64)),(10,.one .bool)])],blk:=[(1,[(1,.one (.int .i64)),(2,.one (.int .i64)),(3,.one (.int .i64)),(10,.one .bool),(11,.one .bool)])],reg:=[(17,[(97,.one .bool)])],lps:=[(0,[(1,.one (.int .i64)),(2,.one (.int .i64)),(3,.one (.int .i64)),(10,.one .bool),(11,.one .bool)])] } [.val (.slice data.a data.len data.cap),.val (.int .i64 a),.val (.int .i64 b),.val (.int .i64 limit),.any cmp] Go.Proofs.Tryz.func312 (by kernel_rfl) (by kernel_rfl) (by kernel_rfl) (by kernel_rfl) h
def zf2 (x:Int):Prog :=
Ay (x != x) λb0=>
Ai 0 [.bool b0]
theorem zy4 (x:Int):FnS (zf2 x) F.a2 #[.int .i64 x]:=dV ⟨[],[],[],[]⟩ Go.Proofs.Tryz.func313 (by kernel_rfl)
def zf51 (s:ByteArray) (prefix_:ByteArray):Prog :=
.must (decide (((ByteArray.size s:Nat):Int)>=((ByteArray.size prefix_:Nat):Int))=true->0<=((ByteArray.size prefix_:Nat):Int)/\((ByteArray.size prefix_:Nat):Int)<=((ByteArray.size s:Nat):Int)) <|
Ay (decide (((ByteArray.size s:Nat):Int)>=((ByteArray.size prefix_:Nat):Int)) && ByteArray.toList (ByteArray.extract s 0 (Int.toNat (((ByteArray.size prefix_:Nat):Int)))) == ByteArray.toList prefix_) λb0=>
Ai 0 [.bool b0]
theorem zf51_calls (s prefix_:ByteArray):FnS (zf51 s prefix_) F.a52 #[.string s,.string prefix_]:=dV ⟨[],[],[],[]⟩ Go.Proofs.Tryz.func325 (by kernel_rfl)
def z02n (data:Sl) (a b:Int) (cmp:Value):Prog :=
Ae (Ah (a+1)) λn0=>
AC 1 (
AU 2 (n0,()) λn1=>
Ag (decide (n1<b)) (
AC 3 (
Ae n1 λn2=>
AC 4 (
AU 5 (n2,()) λn3=>
Ax 6 (
AD<|
.ex [.adr] (c1 λa4=>decide (n3>a)=true->0<=n3/\n3<(Ao data)/\data.a=some a4) (u1 λa5=>
BN (decide (n3>a)=true) T.a15 a5 (Int.toNat n3*4) λn6 n7 n8 n9=>
.ex [.adr] (c1 λa10=>decide (n3>a)=true->0<=Ah (n3-1)/\Ah (n3-1)<(Ao data)/\data.a=some a10) (u1 λa11=>
BN (decide (n3>a)=true) T.a15 a11 (Int.toNat (Ah (n3-1))*4) λn12 n13 n14 n15=>
Ag (decide (n3>a)) (
.callv (cmp) [By n6 n7 n8 n9,By n12 n13 n14 n15] (sI .i64) (u1 λ(n16:Int)=>
AH<|
Ai 6 [.bool (decide (n16<0))]))<|
AH<|
Ai 6 [.bool false]))) λb17=>
Ag b17 (
AC 6 (
AD<|
.ex [.adr] (c1 λa18=>0<=Ah (n3-1)/\Ah (n3-1)<(Ao data)/\data.a=some a18) (u1 λa19=>
.read True (ld T.a15 (Addr.add a19 (Int.toNat (Ah (n3-1))*4))) (sG [.int .i64,.int .i64,.int .i64,.int .i64]) (u4 λ(n20 n21 n22 n23:Int)=>
.ex [.adr] (c1 λa24=>0<=n3/\n3<(Ao data)/\data.a=some a24) (u1 λa25=>
.read True (ld T.a15 (Addr.add a25 (Int.toNat n3*4))) (sG [.int .i64,.int .i64,.int .i64,.int .i64]) (u4 λ(n26 n27 n28 n29:Int)=>
.ex [.adr] (c1 λa30=>0<=n3/\n3<(Ao data)/\data.a=some a30) (u1 λa31=>
AI T.a15 a31 (Int.toNat n3*4) (By n20 n21 n22 n23)<|
.ex [.adr] (c1 λa32=>0<=Ah (n3-1)/\Ah (n3-1)<(Ao data)/\data.a=some a32) (u1 λa33=>
AI T.a15 a33 (Int.toNat (Ah (n3-1))*4) (By n26 n27 n28 n29)<|
AH<|
Ai 6 [])))))))<|
Ae (Ah (n3-1)) λn34=>
Ai 5 [Aa n34])<|
Ai 4 [])<|
Ai 3 [])<|
Ae (Ah (n1+1)) λn35=>
Ai 2 [Aa n35])<|
Ai 1 [])<|
Ai 0 []
theorem zoy (data:Sl) (a b:Int) (cmp:Value) {w:World} {R:List Value->World->Prop} (h:(z02n data a b cmp).wp P (λ_=>True) w λe vs w'=>e=0/\R vs w'):Ret P F.a144 #[.slice data.a data.len data.cap,.int .i64 a,.int .i64 b,cmp] w R:=dS (n:=53) (rv:=[]) { cnd:=[],blk:=[(0,[]),(1,[]),(2,[])],reg:=[(4,[(34,.one .bool)]),(6,[])],lps:=[(0,[(8,.one (.int .i64))]),(2,[(9,.one (.int .i64))])] } [.val (.slice data.a data.len data.cap),.val (.int .i64 a),.val (.int .i64 b),.any cmp] Go.Proofs.Tryz.func329 (by kernel_rfl) (by kernel_rfl) (by kernel_rfl) (by kernel_rfl) h
end Go.Dec
