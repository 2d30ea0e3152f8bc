/- What the claim of this folder leans on: our own texts, joined, without what it does not use. -/
import Derived.Test.YtgpcickgjngglaaGreatQLApart2
set_option linter.unusedVariables false
set_option linter.unusedSimpArgs false
namespace Go.Dec
theorem dS {f:FuncId} {fn:Func} {n:Nat} {rv:List RV} {p:Prog} {w:World} {R:List Value->World->Prop} (H:Hints) (args:List Base) (hf:P.funcs[f]? = some fn) (hb:fn.body.isSome=true) (hn:fn.ntmps=n) (hr:zax fn.results.toList=rv) (he:ziw P n ⟨zih,[]⟩ H rv (zb4 fn) args=p) (h:p.wp P (λ_=>True) w λe vs w'=>e=0/\R vs w'):Ret P f (args.map Base.v).toArray w R:=z9k (zi8 hf hb hn hr) zii mix args (by rw [he];exact h)
abbrev FnS (p:Prog) (f:FuncId) (vs:Array Value):Prop:=∀ {w:World} {R:List Value->World->Prop},p.wp P (λ_=>True) w (λe vs w'=>e=0/\R vs w')->Ret P f vs w R
theorem dV {f:FuncId} {fn:Func} {p:Prog} {vs:List Value} (H:Hints) (hf:P.funcs[f]? = some fn) (he:(fn.body.isSome,ziw P fn.ntmps ⟨zih,[]⟩ H (zax fn.results.toList) (zb4 fn) (vs.map Base.val))=(true,p)):FnS p f vs.toArray:=λh=>by
 have e:=dS H (vs.map Base.val) hf (congrArg Prod.fst he) rfl rfl (congrArg Prod.snd he) h
 rwa [List.map_map,show Base.v∘Base.val=id from rfl,List.map_id] at e
abbrev Aa (n:Int):Value:=.int .i64 n
abbrev Ab (t:TypeId) (k:Addr->Prog):Prog:=.act (new t) sA (u1 k)
abbrev Ac (t:TypeId) (a:Addr) (v:Value) (k:Prog):Prog:=.actU (st t a v) k
abbrev Ad (x0:Int) (x1:Int) (x2:Int):Value:=.agg #[.int .i64 x0,.int .i64 x1,.int .i64 x2]
abbrev Ae (f:FuncId) (l:List Value) (k:(Option Addr)->Int->Prog):Prog:=.call f l (.tup [.one .ptr,.one (.int .i64)]) (u2 k)
abbrev Af (x:Int) (k:Int->Prog):Prog:=.lt (.int .i64) x k
abbrev Ag (t:TypeId) (a:Addr) (k:Int->Int->Int->Prog):Prog:=.read True (ld t a) (sG [.int .i64,.int .i64,.int .i64]) (u3 k)
abbrev Ah (p:Option Addr):Value:=.pointer p
abbrev Ai (t:TypeId) (v:Value) (k:Addr->Prog):Prog:=.act (Instr.box t v) sA (u1 k)
abbrev Aj (b:Bool) (p q:Prog):Prog:=.ite b p q
abbrev Ak (e:Nat) (l:List Value):Prog:=.done e l
abbrev Al (e:Nat) (p:Prog) (k:Prog):Prog:=.bind e [] p (u0 k)
abbrev Am (e:Nat) (x:Int × Unit) (k:Int->Prog):Prog:=.loop e [.one (.int .i64)] x (u1 k)
abbrev An (l:Sl):Int:=((l.len:Nat):Int)
abbrev Ao (g:Prop) (t:TypeId) (a:Addr) (i:Nat) (k:Int->Prog):Prog:=.read g (ld t (Addr.add a i)) (sI .i64) (u1 k)
abbrev Ap (m:Sem Value) (k:Int->ByteArray->ByteArray->Int->Sl->Prog):Prog:=.read True m (sG [.int .i64,.str,.str,.int .i64,.slc]) (u5 k)
abbrev Aq (x0:Int) (x1:ByteArray) (x2:ByteArray) (x3:Int) (x4:Sl):Value:=.agg #[.int .i64 x0,.string x1,.string x2,.int .i64 x3,x4.v]
abbrev Ar (a:Addr):Value:=.pointer (some a)
abbrev As (f:FuncId) (l:List Value) (k:Int->Int->Prog):Prog:=.call f l (.tup [.one (.int .i64),.one (.int .i64)]) (u2 k)
abbrev Au (e:Nat) (p:Prog) (k:Bool->Prog):Prog:=.bind e [.one .bool] p (u1 k)
abbrev Av (f:FuncId) (l:List Value) (k:Bool->Prog):Prog:=.call f l sB (u1 k)
abbrev Aw (n:Int):Int:=IntKind.wrap .i64 n
abbrev Ax (x:Bool) (k:Bool->Prog):Prog:=.lt (.bool) x k
abbrev Ay (e:Nat) (p:Prog) (k:Int->Prog):Prog:=.bind e [.one (.int .i64)] p (u1 k)
abbrev Az (f:FuncId) (l:List Value) (k:(Option Addr)->Prog):Prog:=.call f l sP (u1 k)
abbrev AA (f:FuncId) (l:List Value) (k:Int->Prog):Prog:=.call f l (sI .i64) (u1 k)
abbrev AB (t:TypeId) (a:Addr) (i:Nat) (k:(Option Addr)->Prog):Prog:=.read True (ld t (Addr.add a i)) sP (u1 k)
abbrev AC (k:Prog):Prog:=.tick k
abbrev AD (t:TypeId) (a:Addr) (i:Nat) (k:ByteArray->Prog):Prog:=.read True (ld t (Addr.add a i)) sS (u1 k)
abbrev AE (t:TypeId) (a:Addr) (i:Nat) (k:ByteArray->Prog):Prog:=.hold True (ld t (Addr.add a i)) sS (u1 k)
abbrev AF (f:FuncId) (l:List Value) (k:ByteArray->Prog):Prog:=.call f l sS (u1 k)
abbrev AG (k:Prog):Prog:=.untick k
abbrev AH (t:TypeId) (a:Addr) (i:Nat) (v:Value) (k:Prog):Prog:=.actU (st t (Addr.add a i) v) k
abbrev AI (t:TypeId) (a:Addr) (i:Nat) (k:Sl->Prog):Prog:=.read True (ld t (Addr.add a i)) sL (u1 k)
abbrev AJ (e:Nat) (p:Prog) (k:Sl->Prog):Prog:=.bind e [.one .slc] p (u1 k)
abbrev AK (e:Nat) (x:Sl × Int × Unit) (k:Sl->Int->Prog):Prog:=.loop e [.one .slc,.one (.int .i64)] x (u2 k)
abbrev AL (t:TypeId) (a:Addr) (i:Nat) (k:ByteArray->ByteArray->Bool->Int->Prog):Prog:=.read True (ld t (Addr.add a i)) (sG [.str,.str,.bool,.int .i64]) (u4 k)
abbrev AM (x0:ByteArray) (x1:ByteArray) (x2:Bool) (x3:Int):Value:=.agg #[.string x0,.string x1,.bool x2,.int .i64 x3]
abbrev AN (t:TypeId) (a:Addr) (k:ByteArray->ByteArray->Bool->Int->Prog):Prog:=.read True (ld t a) (sG [.str,.str,.bool,.int .i64]) (u4 k)
abbrev AO (m:Sem Value) (k:Sl->Prog):Prog:=.act m sL (u1 k)
abbrev AP (t:TypeId) (a:Addr) (i:Nat) (k:Int->Prog):Prog:=.read True (ld t (Addr.add a i)) (sI .i64) (u1 k)
abbrev AQ (e:Nat) (p:Prog) (k:Int->Int->Prog):Prog:=.bind e [.one (.int .i64),.one (.int .i64)] p (u2 k)
abbrev AR (t:TypeId) (a:Addr) (i:Nat) (k:Int->Prog):Prog:=.hold True (ld t (Addr.add a i)) (sI .i64) (u1 k)
abbrev AS (x:Bool) (p q:Prog):Prog:=.lt .bool x λb=>.ite b p q
abbrev AT (f:FuncId) (l:List Value) (k:Sl->Prog):Prog:=.call f l sL (u1 k)
abbrev AU (x:ByteArray) (k:ByteArray->Prog):Prog:=.lt (.str) x k
abbrev AV (f:FuncId) (l:List Value) (k:ByteArray->Bool->Prog):Prog:=.call f l (.tup [.one .str,.one .bool]) (u2 k)
abbrev AW (g:Prop) (t:TypeId) (a:Addr) (i:Nat) (k:ByteArray->Prog):Prog:=.read g (ld t (Addr.add a i)) sS (u1 k)
abbrev AX (g:Prop) (t:TypeId) (a:Addr) (i:Nat) (k:Bool->Prog):Prog:=.read g (ld t (Addr.add a i)) sB (u1 k)
abbrev AY (s:Option Addr) (k:Addr->Prog):Prog:=.ex [.adr] (c1 λa=>s=some a) (u1 k)
abbrev AZ (x0:Int) (x1:ByteArray) (x2:ByteArray) (x3:Bool) (x4:Int):Value:=.agg #[.int .i64 x0,.string x1,.string x2,.bool x3,.int .i64 x4]
abbrev Ba (x0:Int) (x1:Int) (x2:Int) (x3:Int) (x4:Int) (x5:Int) (x6:Sl):Value:=.agg #[.int .i64 x0,.int .i64 x1,.int .i64 x2,.int .i64 x3,.int .i64 x4,.int .i64 x5,x6.v]
abbrev Bb (t:TypeId) (a:Addr) (k:Int->Int->Int->Int->Int->Int->Sl->Prog):Prog:=.read True (ld t a) (sG [.int .i64,.int .i64,.int .i64,.int .i64,.int .i64,.int .i64,.slc]) (u7 k)
abbrev Bc (t:TypeId) (a:Addr) (i:Nat) (k:(Option Addr)->Prog):Prog:=.hold True (ld t (Addr.add a i)) sP (u1 k)
abbrev Bd (e:Nat) (x:Int × Int × Unit) (k:Int->Int->Prog):Prog:=.loop e [.one (.int .i64),.one (.int .i64)] x (u2 k)
abbrev Be (t:TypeId) (a:Addr) (i:Nat) (k:Int->Int->Int->Int->Int->Int->Sl->Prog):Prog:=.read True (ld t (Addr.add a i)) (sG [.int .i64,.int .i64,.int .i64,.int .i64,.int .i64,.int .i64,.slc]) (u7 k)
abbrev Bf (m:Sem Value) (k:Int->Int->Prog):Prog:=.read True m (sG [.int .i64,.int .i64]) (u2 k)
abbrev Bg (x0:Int) (x1:Int):Value:=.agg #[.int .i64 x0,.int .i64 x1]
abbrev Bh (f:FuncId) (l:List Value) (k:Prog):Prog:=.call f l (.tup []) (u0 k)
abbrev Bi (f:FuncId) (l:List Value) (k:Sl->Int->Prog):Prog:=.call f l (.tup [.one .slc,.one (.int .i64)]) (u2 k)
abbrev Bj (g:Prop) (m:Sem Value) (k:Int->Prog):Prog:=.hold g m (sI .i64) (u1 k)
abbrev Bk (g:Prop) (s:Option Addr) (k:Addr->Prog):Prog:=.ex [.adr] (c1 λa=>g->s=some a) (u1 k)
abbrev Bl (g:Prop) (t:TypeId) (a:Addr) (k:Int->Int->Int->Int->Int->Int->Sl->Prog):Prog:=.read g (ld t a) (sG [.int .i64,.int .i64,.int .i64,.int .i64,.int .i64,.int .i64,.slc]) (u7 k)
abbrev Bn (t:TypeId) (a:Addr) (i:Nat) (k:Int->ByteArray->ByteArray->Bool->Int->Prog):Prog:=.read True (ld t (Addr.add a i)) (sG [.int .i64,.str,.str,.bool,.int .i64]) (u5 k)
abbrev Bo (t:TypeId) (a:Addr) (k:Int->ByteArray->ByteArray->Bool->Int->Prog):Prog:=.read True (ld t a) (sG [.int .i64,.str,.str,.bool,.int .i64]) (u5 k)
abbrev Bp (t:TypeId) (a:Addr) (i:Nat) (k:Bool->Prog):Prog:=.read True (ld t (Addr.add a i)) sB (u1 k)
abbrev Bq (f:FuncId) (l:List Value) (k:Int->Bool->Prog):Prog:=.call f l (.tup [.one (.int .i64),.one .bool]) (u2 k)
abbrev Br (t:TypeId) (a:Addr) (i:Nat) (k:Sl->Prog):Prog:=.hold True (ld t (Addr.add a i)) sL (u1 k)
abbrev Bs (f:FuncId) (l:List Value) (k:Int->Prog):Prog:=.call f l (sI .u64) (u1 k)
abbrev Bt (x:Int) (k:Int->Prog):Prog:=.lt (.int .u64) x k
abbrev Bu (e:Nat) (p:Prog) (k:Addr->Bool->Prog):Prog:=.bind e [.one .adr,.one .bool] p (u2 k)
abbrev Bv (t:TypeId) (a:Addr) (i:Nat) (k:(Option Nat)->Prog):Prog:=.hold True (ld t (Addr.add a i)) sM (u1 k)
abbrev Bw (m:Sem Value) (k:Int->Int->Int->Int->Bool->Prog):Prog:=.hold True m (.tup [.agg [.int .i64,.int .i64,.int .i64,.int .i64],.one .bool]) (u5 k)
abbrev Bx (x0:Int) (x1:Int) (x2:Int) (x3:Int):Value:=.agg #[.int .i64 x0,.int .i64 x1,.int .i64 x2,.int .i64 x3]
abbrev By (f:FuncId) (l:List Value) (k:Bool->Int->Int->Prog):Prog:=.call f l (.tup [.agg [.bool,.int .i64],.one (.int .i64)]) (u3 k)
abbrev Bz (x0:Bool) (x1:Int):Value:=.agg #[.bool x0,.int .i64 x1]
abbrev B0 (f:FuncId) (l:List Value) (k:Int->Int->Int->Int->Int->Int->Sl->Prog):Prog:=.call f l (sG [.int .i64,.int .i64,.int .i64,.int .i64,.int .i64,.int .i64,.slc]) (u7 k)
abbrev B1 (g:Prop) (t:TypeId) (a:Addr) (i:Nat) (k:Sl->Prog):Prog:=.read g (ld t (Addr.add a i)) sL (u1 k)
abbrev B2 (t:TypeId) (a:Addr) (k:(Option Addr)->Prog):Prog:=.read True (ld t a) sP (u1 k)
abbrev B3 (x0:Int) (x1:Int) (x2:Int) (x3:Int) (x4:Int) (x5:Int) (x6:Int):Value:=.agg #[.int .i64 x0,.int .i64 x1,.int .i64 x2,.int .i64 x3,.int .i64 x4,.int .i64 x5,.int .i64 x6]
abbrev B4 (t:TypeId) (a:Addr) (i:Nat) (k:(Option Nat)->Prog):Prog:=.read True (ld t (Addr.add a i)) sM (u1 k)
abbrev B5 (m:Sem Unit) (k:Prog):Prog:=.actU m k
abbrev B6 (t:TypeId) (a:Addr) (k:Int->Int->Int->Int->Int->Int->Int->Prog):Prog:=.read True (ld t a) (sG [.int .i64,.int .i64,.int .i64,.int .i64,.int .i64,.int .i64,.int .i64]) (u7 k)
abbrev B7 (m:Sem Value) (k:Prog):Prog:=.act m (.tup []) (u0 k)
abbrev B8 (t:TypeId) (a:Addr) (k:Int->Int->Int->Int->Prog):Prog:=.read True (ld t a) (sG [.int .i64,.int .i64,.int .i64,.int .i64]) (u4 k)
abbrev B9 (m:Sem Value) (k:Int->Prog):Prog:=.act m (sI .i64) (u1 k)
abbrev BA (t:TypeId) (a:Addr) (k:Bool->Int->Prog):Prog:=.read True (ld t a) (sG [.bool,.int .i64]) (u2 k)
abbrev BB (t:TypeId) (p:Option Addr) (k:(Option Addr)->Prog):Prog:=.read True (Instr.loadAt t (.pointer p)) sP (u1 k)
abbrev BC (g:Prop) (t:TypeId) (a:Addr) (i:Nat) (k:(Option Nat)->Prog):Prog:=.read g (ld t (Addr.add a i)) sM (u1 k)
abbrev BD (g:Prop) (m:Sem Value) (k:Int->Prog):Prog:=.read g m (sI .i64) (u1 k)
abbrev BE (g:Prop) (m:Sem Value) (k:Int->Int->Prog):Prog:=.read g m (sG [.int .i64,.int .i64]) (u2 k)
abbrev BF (m:Sem Value) (k:(Option Addr)->Prog):Prog:=.read True m sP (u1 k)
abbrev BG (a:Addr) (i:Nat):Value:=.pointer (some (Addr.add a i))
abbrev BH (t:TypeId) (a:Addr) (k:Sl->Int->Prog):Prog:=.read True (ld t a) (sG [.slc,.int .i64]) (u2 k)
abbrev BI (x0:Sl) (x1:Int):Value:=.agg #[x0.v,.int .i64 x1]
abbrev BJ (e:Nat) (p:Prog) (k:Int->Int->Prog):Prog:=.bind e [.one (.int .u64),.one (.int .i64)] p (u2 k)
abbrev BK (t:TypeId) (a:Addr) (i:Nat) (k:Int->Prog):Prog:=.read True (ld t (Addr.add a i)) (sI .u8) (u1 k)
abbrev BL (x:Int) (k:Int->Prog):Prog:=.lt (.int .u8) x k
abbrev BM (g:Prop) (t:TypeId) (a:Addr) (i:Nat) (k:Int->Int->Int->Int->Prog):Prog:=.read g (ld t (Addr.add a i)) (sG [.int .i64,.int .i64,.int .i64,.int .i64]) (u4 k)
abbrev BN (m:Sem Value) (k:Sl->Prog):Prog:=.read True m sL (u1 k)
abbrev BO (f:FuncId) (l:List Value) (k:Sl->Int->Bool->Prog):Prog:=.call f l (.tup [.one .slc,.one (.int .i64),.one .bool]) (u3 k)
abbrev BQ (t:TypeId) (p:Option Addr) (k:Int->Prog):Prog:=.read True (Instr.loadAt t (.pointer p)) (sI .i64) (u1 k)
abbrev BR (f:FuncId) (l:List Value) (k:Int->Prog):Prog:=.call f l (sI .u32) (u1 k)
abbrev BS (x:Int) (k:Int->Prog):Prog:=.lt (.int .u32) x k
abbrev BT (e:Nat) (p:Prog) (k:Int->Prog):Prog:=.bind e [.one (.int .u32)] p (u1 k)
abbrev BU (e:Nat) (x:Int × Int × Unit) (k:Int->Int->Prog):Prog:=.loop e [.one (.int .u32),.one (.int .i64)] x (u2 k)
def z02p (seg:Int) (on:Sl) (off:Sl):Prog :=
.call F.a156 [Aa seg] (sG [.int .i64,.int .i64,.int .i64]) (u3 λ(n0 n1 n2:Int)=>
Ab T.a33 λa3=>
Ac T.a33 a3 (Ad n0 n1 n2)<|
Ae F.a37 [Aa 1048576] λp4 n5=>
Af n5 λn6=>
Ag T.a33 a3 λn7 n8 n9=>
Ae F.a73 [Ah p4,.string (ByteArray.mk #[120]),Ad n7 n8 n9] λp10 n11=>
Af n11 λn12=>
Ag T.a33 a3 λn13 n14 n15=>
Ae F.a73 [Ah p4,.string (ByteArray.mk #[121]),Ad n13 n14 n15] λp16 n17=>
Af n17 λn18=>
Ai T.a51 (.agg #[.slice none 0 0]) λa19=>
Ai T.a51 (.agg #[.slice none 0 0]) λa20=>
Aj (n12 != 0 || n18 != 0) (
Ak 0 [.bool false])<|
Al 1 (
Am 2 (0,()) λn21=>
Aj (decide (n21<20)) (
.ex [.adr] (c1 λa22=>decide (n21<(An on))=true->0<=n21/\n21<(An on)/\on.a=some a22) (u1 λa23=>
Ao (decide (n21<(An on))=true) T.a13 (Addr.add a23 (Int.toNat n21*5)) 0 λn24=>
.ex [.adr] (c1 λa25=>(decide (n21<(An on)) && decide (n24>=0))=true->0<=n21/\n21<(An on)/\on.a=some a25) (u1 λa26=>
Ao ((decide (n21<(An on)) && decide (n24>=0))=true) T.a13 (Addr.add a26 (Int.toNat n21*5)) 0 λn27=>
Al 3 (
Aj (decide (n21<(An on)) && decide (n24>=0) && decide (n27<=4)) (
.ex [.adr] (c1 λa28=>0<=n21/\n21<(An on)/\on.a=some a28) (u1 λa29=>
Ap (ld T.a50 (Addr.add a29 (Int.toNat n21*5))) λn30 s31 s32 n33 l34=>
.call F.a159 [Aq n30 s31 s32 n33 l34] (sG [.int .i64,.str,.str,.int .i64,.slc]) (u5 λ(n35:Int) s36 s37 (n38:Int) l39=>
As F.a155 [Ah p10,Ar a19,Aq n35 s36 s37 n38 l39] λn40 n41=>
Ak 3 [])))<|
Ak 3 [])<|
.ex [.adr] (c1 λa42=>decide (n21<(An off))=true->0<=n21/\n21<(An off)/\off.a=some a42) (u1 λa43=>
Ao (decide (n21<(An off))=true) T.a13 (Addr.add a43 (Int.toNat n21*5)) 0 λn44=>
.ex [.adr] (c1 λa45=>(decide (n21<(An off)) && decide (n44>=0))=true->0<=n21/\n21<(An off)/\off.a=some a45) (u1 λa46=>
Ao ((decide (n21<(An off)) && decide (n44>=0))=true) T.a13 (Addr.add a46 (Int.toNat n21*5)) 0 λn47=>
Al 3 (
Aj (decide (n21<(An off)) && decide (n44>=0) && decide (n47<=4)) (
.ex [.adr] (c1 λa48=>0<=n21/\n21<(An off)/\off.a=some a48) (u1 λa49=>
Ap (ld T.a50 (Addr.add a49 (Int.toNat n21*5))) λn50 s51 s52 n53 l54=>
.call F.a159 [Aq n50 s51 s52 n53 l54] (sG [.int .i64,.str,.str,.int .i64,.slc]) (u5 λ(n55:Int) s56 s57 (n58:Int) l59=>
As F.a155 [Ah p16,Ar a20,Aq n55 s56 s57 n58 l59] λn60 n61=>
Ak 3 [])))<|
Ak 3 [])<|
Au 3 (
Av F.a157 [Ah p10,Ar a19] λb62=>
Aj (not b62) (
Ak 3 [.bool true])<|
Av F.a157 [Ah p16,Ar a20] λb63=>
Ak 3 [.bool (not b63)]) λb64=>
Aj b64 (
Ak 0 [.bool false])<|
Af (Aw (n21+1)) λn65=>
Ak 2 [Aa n65])))))<|
Ak 1 [])<|
Ag T.a33 a3 λn66 n67 n68=>
Ae F.a73 [Ah p4,.string (ByteArray.mk #[121]),Ad n66 n67 n68] λp69 n70=>
Af n70 λn71=>
Au 1 (
Aj (n71 == 0) (
Av F.a157 [Ah p69,Ar a20] λb72=>
Aj b72 (
Av F.a154 [] λb73=>
Ax b73 λb74=>
Ak 1 [.bool b74])<|
Ak 1 [.bool false])<|
Ak 1 [.bool false]) λb75=>
Ak 0 [.bool b75])
theorem zp6 (seg:Int) (on off:Sl):FnS (z02p seg on off) F.a153 #[.int .i64 seg,.slice on.a on.len on.cap,.slice off.a off.len off.cap]:=dV ⟨[(2466208672013843516400599110,[]),(662017849463190522637638281975562338,[])],[(0,[])],[(15,[(116,.one .bool)]),(18,[(6,.one .bool)])],[(0,[(16,.one (.int .i64))])]⟩ Go.Proofs.Tryz.func4 (by kernel_rfl)
def z02r (seg:Int):Prog :=
Ab T.a33 λa0=>
Af (Int.tmod seg 200) λn1=>
Ay 1 (
Aj (decide (n1<0)) (
Af (Aw (0-n1)) λn2=>
Ak 1 [Aa n2])<|
Ak 1 [Aa n1]) λn3=>
Ac T.a33 a0 (.agg #[Aa (Aw (64+n3)),Aa 30,Aa 2])<|
Ag T.a33 a0 λn4 n5 n6=>
Ak 0 [Ad n4 n5 n6]
theorem zp8 (seg:Int):FnS (z02r seg) F.a156 #[.int .i64 seg]:=dV ⟨[(1576966,[(0,.one (.int .i64))])],[],[],[]⟩ Go.Proofs.Tryz.func11 (by kernel_rfl)
def z097 (d:Option Addr) (prefix_:ByteArray) (c_0 c_1:Int) (c_2:Int):Prog :=
Ai T.a33 (Ad c_0 c_1 c_2) λa0=>
Ag T.a33 a0 λn1 n2 n3=>
Ae F.a77 [Ah d,.string prefix_,Ad n1 n2 n3] λp4 n5=>
Af n5 λn6=>
Aj (n6 != 0) (
Af n6 λn7=>
Ak 0 [Ah none,Aa n7])<|
Az F.a3 [] λp8=>
Ai T.a19 (.agg #[Ah p8,Ah p4]) λa9=>
AA F.a80 [Ah p4] λn10=>
.call F.a82 [Ah p4,Aa n10,Aa 1099511627776,.bool true] (.tup [.one .slc,.one (.int .i64),.one (.int .i64)]) (u3 λl11 (n12 n13:Int)=>
Af n12 λn14=>
Af n13 λn15=>
AB T.a24 a9 0 λp16=>
AA F.a4 [Ah p16,l11.v] λn17=>
Ak 0 [Ar a9,Aa 0])
theorem zv8 (d:Option Addr) (prefix_:ByteArray) (c_0 c_1 c_2:Int):FnS (z097 d prefix_ c_0 c_1 c_2) F.a73 #[.pointer d,.string prefix_,.agg #[.int .i64 c_0,.int .i64 c_1,.int .i64 c_2]]:=dV ⟨[],[],[],[]⟩ Go.Proofs.Tryz.func13 (by kernel_rfl)
def z02u (o_0:Int) (o_1 o_2:ByteArray) (o_3:Int) (o_4:Sl):Prog :=
Ai T.a50 (Aq o_0 o_1 o_2 o_3 o_4) λa0=>
Ab T.a50 λa1=>
Al 1 (
AC<|
AD T.a49 a0 1 λs2=>
AE T.a49 a0 2 λs3=>
AF F.a158 [.string s2] λs4=>
AG<|
AF F.a158 [.string s3] λs5=>
AH T.a49 a0 1 (.string s4)<|
AH T.a49 a0 2 (.string s5)<|
AG<|
Ak 1 [])<|
AI T.a37 a0 4 λl6=>
AJ 1 (
AK 2 (⟨none,0,0⟩,(0,())) λl7 n8=>
Aj (decide (n8<(An l6))) (
.ex [.adr] (c1 λa9=>0<=n8/\n8<(An l6)/\l6.a=some a9) (u1 λa10=>
AL T.a2 a10 (Int.toNat n8*4) λs11 s12 b13 n14=>
Ab T.a2 λa15=>
Af n8 λn16=>
Ac T.a2 a15 (AM s11 s12 b13 n14)<|
Aj (decide (n16>=4)) (
Ak 1 [l7.v])<|
Al 3 (
AC<|
AD T.a49 a15 0 λs17=>
AE T.a49 a15 1 λs18=>
AF F.a158 [.string s17] λs19=>
AG<|
AF F.a158 [.string s18] λs20=>
AH T.a49 a15 0 (.string s19)<|
AH T.a49 a15 1 (.string s20)<|
AG<|
Ak 3 [])<|
AN T.a2 a15 λs21 s22 b23 n24=>
AO (Instr.buildSlice T.a37 1 #[(0,AM s21 s22 b23 n24)]) λl25=>
AO (app T.a37 T.a37 T.a37 l7.v l25.v) λl26=>
Ak 2 [l26.v,Aa (Aw (n8+1))]))<|
Ak 1 [l7.v]) λl27=>
AH T.a37 a0 4 l27.v<|
Ap (ld T.a50 a0) λn28 s29 s30 n31 l32=>
Ac T.a50 a1 (Aq n28 s29 s30 n31 l32)<|
Ap (ld T.a50 a1) λn33 s34 s35 n36 l37=>
Ak 0 [Aq n33 s34 s35 n36 l37]
theorem zpb (o_0:Int) (o_1 o_2:ByteArray) (o_3:Int) (o_4:Sl):FnS (z02u o_0 o_1 o_2 o_3 o_4) F.a159 #[.agg #[.int .i64 o_0,.string o_1,.string o_2,.int .i64 o_3,.slice o_4.a o_4.len o_4.cap]]:=dV ⟨[],[(0,[(3,.one .slc)])],[(1,[]),(7,[])],[(0,[(3,.one .slc),(17,.one (.int .i64))])]⟩ Go.Proofs.Tryz.func14 (by kernel_rfl)
def z02q (l r:Option Addr) (o_0:Int) (o_1 o_2:ByteArray) (o_3:Int) (o_4:Sl):Prog :=
Ai T.a50 (Aq o_0 o_1 o_2 o_3 o_4) λa0=>
AP T.a13 a0 0 λn1=>
Ax (n1 == 0) λb2=>
Au 1 (
Aj b2 (
Ak 1 [.bool b2])<|
Ax (n1 == 1) λb3=>
Ak 1 [.bool b3]) λb4=>
Aj b4 (
AQ 1 (
AC<|
AE T.a49 a0 1 λs5=>
AE T.a49 a0 2 λs6=>
AR T.a14 a0 3 λn7=>
AR T.a14 a0 3 λn8=>
AE T.a49 a0 1 λs9=>
AE T.a49 a0 2 λs10=>
AR T.a14 a0 3 λn11=>
.both (
AA F.a71 [Ah l,.string s5,.string s6,Aa n7] λn12=>
AO (Instr.buildSlice T.a37 1 #[(0,AM s9 s10 false n11)]) λl13=>
AG<|
AA F.a164 [Ah r,Aa n8,l13.v] λn14=>
Af n12 λn15=>
Af n14 λn16=>
AG<|
Ak 1 [Aa n15,Aa n16]) <|
AO (Instr.buildSlice T.a37 1 #[(0,AM s9 s10 false n11)]) λl17=>
AA F.a71 [Ah l,.string s5,.string s6,Aa n7] λn18=>
AG<|
AA F.a164 [Ah r,Aa n8,l17.v] λn19=>
Af n18 λn20=>
Af n19 λn21=>
AG<|
Ak 1 [Aa n20,Aa n21]) λn22 n23=>
Ak 0 [Aa n22,Aa n23])<|
AS (n1 == 2) (
AQ 1 (
AC<|
AD T.a49 a0 1 λs25=>
AP T.a14 a0 3 λn26=>
AE T.a49 a0 1 λs27=>
AR T.a14 a0 3 λn28=>
AA F.a67 [Ah l,.string s25,Aa n26] λn29=>
AG<|
AA F.a165 [Ah r,.string s27,Aa n28] λn30=>
Af n29 λn31=>
Af n30 λn32=>
AG<|
Ak 1 [Aa n31,Aa n32]) λn33 n34=>
Ak 0 [Aa n33,Aa n34])<|
AO (Instr.buildSlice T.a37 0 #[]) λl35=>
AI T.a37 a0 4 λl36=>
AO (app T.a37 T.a37 T.a37 l35.v l36.v) λl37=>
AP T.a14 a0 3 λn38=>
AA F.a66 [Ah l,Aa n38,l37.v] λn39=>
Af n39 λn40=>
Al 1 (
Am 2 (0,()) λn41=>
Aj (decide (n41<(An l37))) (
Af n41 λn42=>
.ex [.adr] (c1 λa43=>0<=n42/\n42<(An l37)/\l37.a=some a43) (u1 λa44=>
AH T.a49 (Addr.add a44 (Int.toNat n42*4)) 0 (.string (ByteArray.mk #[115,112,111,105,108,116]))<|
Ak 2 [Aa (Aw (n41+1))]))<|
Ak 1 [])<|
AP T.a14 a0 3 λn45=>
AI T.a37 a0 4 λl46=>
AA F.a164 [Ah r,Aa n45,l46.v] λn47=>
Af n40 λn48=>
Af n47 λn49=>
Ak 0 [Aa n48,Aa n49]
theorem zp7 (l r:Option Addr) (o_0:Int) (o_1 o_2:ByteArray) (o_3:Int) (o_4:Sl):FnS (z02q l r o_0 o_1 o_2 o_3 o_4) F.a155 #[.pointer l,.pointer r,.agg #[.int .i64 o_0,.string o_1,.string o_2,.int .i64 o_3,.slice o_4.a o_4.len o_4.cap]]:=dV ⟨[(167772173,[(13,.one .bool)])],[(1,[])],[(4,[(6,.one (.int .i64)),(7,.one (.int .i64))]),(6,[(6,.one (.int .i64)),(7,.one (.int .i64))])],[(1,[(61,.one (.int .i64))])]⟩ Go.Proofs.Tryz.func16 (by kernel_rfl)
def z02s (l:Option Addr) (r:Option Addr):Prog :=
Aj (Option.isNone l) (
Ak 0 [.bool false])<|
AT F.a167 [Ah r] λl0=>
AT F.a70 [Ah l,.string (ByteArray.mk #[]),.string (ByteArray.mk #[]),Aa 1000] λl1=>
AA F.a69 [Ah l] λn2=>
Aj (n2 != (An l0) || (An l1) != (An l0)) (
Ak 0 [.bool false])<|
Al 1 (
Am 2 (0,()) λn3=>
Aj (decide (n3<(An l0))) (
.ex [.adr] (c1 λa4=>0<=n3/\n3<(An l0)/\l0.a=some a4) (u1 λa5=>
AD T.a49 a5 (Int.toNat n3*1) λs6=>
Af n3 λn7=>
AU s6 λs8=>
AV F.a68 [Ah l,.string s8] λs9 b10=>
AU s9 λs11=>
Ax b10 λb12=>
AV F.a166 [Ah r,.string s8] λs13 b14=>
AU s13 λs15=>
Ax b14 λb16=>
.ex [.adr] (c1 λa17=>(not b12 || not (ByteArray.toList s11 == ByteArray.toList s15))=false->0<=n7/\n7<(An l1)/\l1.a=some a17) (u1 λa18=>
AW ((not b12 || not (ByteArray.toList s11 == ByteArray.toList s15))=false) T.a49 (Addr.add (Addr.add a18 (Int.toNat n7*5)) 1) 0 λs19=>
.ex [.adr] (c1 λa20=>(not b12 || not (ByteArray.toList s11 == ByteArray.toList s15) || not (ByteArray.toList s19 == ByteArray.toList s8))=false->0<=n7/\n7<(An l1)/\l1.a=some a20) (u1 λa21=>
AW ((not b12 || not (ByteArray.toList s11 == ByteArray.toList s15) || not (ByteArray.toList s19 == ByteArray.toList s8))=false) T.a49 (Addr.add (Addr.add a21 (Int.toNat n7*5)) 1) 1 λs22=>
.ex [.adr] (c1 λa23=>(not b12 || not (ByteArray.toList s11 == ByteArray.toList s15) || not (ByteArray.toList s19 == ByteArray.toList s8) || not (ByteArray.toList s22 == ByteArray.toList s15))=false->0<=n7/\n7<(An l1)/\l1.a=some a23) (u1 λa24=>
AX ((not b12 || not (ByteArray.toList s11 == ByteArray.toList s15) || not (ByteArray.toList s19 == ByteArray.toList s8) || not (ByteArray.toList s22 == ByteArray.toList s15))=false) T.a3 (Addr.add (Addr.add a24 (Int.toNat n7*5)) 1) 2 λb25=>
Aj (not b12 || not (ByteArray.toList s11 == ByteArray.toList s15) || not (ByteArray.toList s19 == ByteArray.toList s8) || not (ByteArray.toList s22 == ByteArray.toList s15) || b25) (
Ak 0 [.bool false])<|
Ak 2 [Aa (Aw (n3+1))])))))<|
Ak 1 [])<|
Ak 0 [.bool true]
theorem zp9 (l r:Option Addr):FnS (z02s l r) F.a157 #[.pointer l,.pointer r]:=dV ⟨[],[(0,[])],[],[(0,[(33,.one (.int .i64))])]⟩ Go.Proofs.Tryz.func17 (by kernel_rfl)
def z8v  : Prog :=
.call F.a37 [.int .i64 65536] (.tup [.one .ptr,.one (.int .i64)]) (u2 λp0 (n1:Int) =>
.lt (.int .i64) (n1) λ(n2:Int) =>
.call F.a156 [.int .i64 0] (sG [.int .i64,.int .i64,.int .i64]) (u3 λ(n3 n4 n5:Int) =>
.call F.a73 [.pointer p0,.string (ByteArray.mk #[120]),.agg #[.int .i64 n3,.int .i64 n4,.int .i64 n5]] (.tup [.one .ptr,.one (.int .i64)]) (u2 λp6 (n7:Int) =>
.lt (.int .i64) (n7) λ(n8:Int) =>
.ite (n8 != 0 || Option.isNone p6) (
.done 0 [.bool false]) (
.call F.a71 [.pointer p6,.string (ByteArray.mk #[97]),.string (ByteArray.mk #[49]),.int .i64 0] (sI .i64) (u1 λ(n9:Int) =>
.call F.a71 [.pointer p6,.string (ByteArray.mk #[97]),.string (ByteArray.mk #[50]),.int .i64 0] (sI .i64) (u1 λ(n10:Int) =>
.call F.a71 [.pointer p6,.string (ByteArray.mk #[98]),.string (ByteArray.mk #[120]),.int .i64 0] (sI .i64) (u1 λ(n11:Int) =>
.call F.a67 [.pointer p6,.string (ByteArray.mk #[98]),.int .i64 1] (sI .i64) (u1 λ(n12:Int) =>
.lt (.int .i64) (n9) λ(n13:Int) =>
.lt (.int .i64) (n10) λ(n14:Int) =>
.lt (.int .i64) (n11) λ(n15:Int) =>
.lt (.int .i64) (n12) λ(n16:Int) =>
.call F.a68 [.pointer p6,.string (ByteArray.mk #[97])] (.tup [.one .str,.one .bool]) (u2 λs17 b18 =>
.lt (.str) (s17) λs19 =>
.lt (.bool) (b18) λb20 =>
.call F.a68 [.pointer p6,.string (ByteArray.mk #[98])] (.tup [.one .str,.one .bool]) (u2 λs21 b22 =>
.lt (.str) (s21) λs23 =>
.lt (.bool) (b22) λb24 =>
.bind 1 [.one .bool] (
.ite (n13 == 0 && n14 == 0 && n15 == 0 && n16 == 0 && ByteArray.toList s19 == ByteArray.toList (ByteArray.mk #[50]) && b20 && not b24) (
.call F.a69 [.pointer p6] (sI .i64) (u1 λ(n25:Int) =>
.ite (n25 == 1) (
.call F.a72 [.pointer p6] (sI .i64) (u1 λ(n26:Int) =>
.ite (n26 == 3) (
.call F.a67 [.pointer p6,.string (ByteArray.mk #[98]),.int .i64 2] (sI .i64) (u1 λ(n27:Int) =>
.lt (.bool) (n27 == 3) λb28 =>
.done 1 [.bool b28])) (
.done 1 [.bool false]))) (
.done 1 [.bool false]))) (
.done 1 [.bool false])) (u1 λb29 =>
.done 0 [.bool b29])))))))))))
theorem za1 :FnS (z8v ) F.a154 #[]:=dV ⟨[],[],[(8,[(0,.one .bool)])],[]⟩ Go.Proofs.Tryz.func18 (by kernel_rfl)
def z02t (s:ByteArray):Prog :=
Aj (decide (((ByteArray.size s:Nat):Int)>12)) (
.must ((0:Int)<=12/\12<=((ByteArray.size s:Nat):Int)) <|
AU (ByteArray.extract s 0 12) λs0=>
Ak 0 [.string s0])<|
AU s λs1=>
Ak 0 [.string s1]
theorem zpa (s:ByteArray):FnS (z02t s) F.a158 #[.string s]:=dV ⟨[],[],[],[]⟩ Go.Proofs.Tryz.func34 (by kernel_rfl)
def z092 (l:Option Addr) (key:ByteArray):Prog :=
Aj (Option.isNone l) (
Ak 0 [.string (ByteArray.mk #[]),.bool false])<|
AY l λa1=>
AB T.a24 a1 0 λp2=>
.call F.a5 [Ah p2,.string key] (.tup [.agg [.int .i64,.str,.str,.bool,.int .i64],.one .bool]) (u6 λ(n3:Int) s4 s5 b6 (n7:Int) b8=>
Ab T.a35 λa9=>
Ac T.a35 a9 (AZ n3 s4 s5 b6 n7)<|
Ax b8 λb10=>
AD T.a49 (Addr.add a9 1) 1 λs11=>
AU s11 λs12=>
Ax b10 λb13=>
Ak 0 [.string s12,.bool b13])
theorem zv3 (l:Option Addr) (key:ByteArray):FnS (z092 l key) F.a68 #[.pointer l,.string key]:=dV ⟨[],[],[],[]⟩ Go.Proofs.Tryz.func36 (by kernel_rfl)
def z095 (l:Option Addr) (key value:ByteArray) (time:Int):Prog :=
AO (Instr.buildSlice T.a37 1 #[(0,AM key value false time)]) λl0=>
AA F.a66 [Ah l,Aa time,l0.v] λn1=>
Af n1 λn2=>
Ak 0 [Aa n2]
theorem zv6 (l:Option Addr) (key value:ByteArray) (time:Int):FnS (z095 l key value time) F.a71 #[.pointer l,.string key,.string value,.int .i64 time]:=dV ⟨[],[],[],[]⟩ Go.Proofs.Tryz.func37 (by kernel_rfl)
def z091 (l:Option Addr) (key:ByteArray) (time:Int):Prog :=
Aj (Option.isNone l) (
Ak 0 [Aa 1])<|
AY l λa1=>
AB T.a24 a1 0 λp2=>
.call F.a5 [Ah p2,.string key] (.tup [.agg [.int .i64,.str,.str,.bool,.int .i64],.one .bool]) (u6 λ(n3:Int) s4 s5 b6 (n7:Int) b8=>
Ab T.a35 λa9=>
Ac T.a35 a9 (AZ n3 s4 s5 b6 n7)<|
Ax b8 λb10=>
Aj (not b10) (
Ak 0 [Aa 3])<|
AO (Instr.buildSlice T.a37 1 #[(0,.agg #[.string key,.string (ByteArray.mk #[]),.bool true,Aa time])]) λl11=>
AA F.a66 [Ah l,Aa time,l11.v] λn12=>
Af n12 λn13=>
Ak 0 [Aa n13])
theorem zv2 (l:Option Addr) (key:ByteArray) (time:Int):FnS (z091 l key time) F.a67 #[.pointer l,.string key,.int .i64 time]:=dV ⟨[],[],[],[]⟩ Go.Proofs.Tryz.func38 (by kernel_rfl)
def z090 (l:Option Addr) (time:Int) (rs:Sl):Prog :=
Aj (Option.isNone l) (
Ak 0 [Aa 1])<|
Ab T.a0 λa0=>
Ac T.a0 a0 (Ba 0 0 0 0 0 time rs)<|
AC<|
AY l λa2=>
AB T.a30 a2 1 λp3=>
Bb T.a0 a0 λn4 n5 n6 n7 n8 n9 l10=>
.call F.a78 [Ah p3,Ba n4 n5 n6 n7 n8 n9 l10] (.tup [.one (.int .i64),.one .bool,.one (.int .i64)]) (u3 λ(n11:Int) b12 (n13:Int)=>
Af n11 λn14=>
Ax b12 λb15=>
Af n13 λn16=>
AG<|
Aj (n16 != 0) (
Af n16 λn17=>
Ak 0 [Aa n17])<|
AH T.a14 a0 0 (Aa n14)<|
Al 1 (
AC<|
AY l λa19=>
Bc T.a24 a19 0 λp20=>
Bb T.a0 a0 λn21 n22 n23 n24 n25 n26 l27=>
AO (Instr.buildSlice T.a36 1 #[(0,Ba n21 n22 n23 n24 n25 n26 l27)]) λl28=>
AT F.a95 [l28.v] λl29=>
AG<|
AA F.a4 [Ah p20,l29.v] λn30=>
AG<|
Ak 1 [])<|
Ak 0 [Aa 0])
theorem zv1 (l:Option Addr) (time:Int) (rs:Sl):FnS (z090 l time rs) F.a66 #[.pointer l,.int .i64 time,.slice rs.a rs.len rs.cap]:=dV ⟨[],[],[(8,[])],[]⟩ Go.Proofs.Tryz.func39 (by kernel_rfl)
def z094 (l:Option Addr) (from_ to_:ByteArray) (most:Int):Prog :=
Aj (Option.isNone l) (
Ak 0 [.slice none 0 0])<|
AY l λa1=>
AB T.a24 a1 0 λp2=>
AT F.a7 [Ah p2,.string from_,.string to_,Aa most] λl3=>
Ak 0 [l3.v]
theorem zv5 (l:Option Addr) (from_ to_:ByteArray) (most:Int):FnS (z094 l from_ to_ most) F.a70 #[.pointer l,.string from_,.string to_,.int .i64 most]:=dV ⟨[],[],[],[]⟩ Go.Proofs.Tryz.func40 (by kernel_rfl)
def z093 (l:Option Addr):Prog :=
Aj (Option.isNone l) (
Ak 0 [Aa 0])<|
AY l λa1=>
AB T.a24 a1 0 λp2=>
AA F.a6 [Ah p2] λn3=>
Af n3 λn4=>
Ak 0 [Aa n4]
theorem zv4 (l:Option Addr):FnS (z093 l) F.a69 #[.pointer l]:=dV ⟨[],[],[],[]⟩ Go.Proofs.Tryz.func41 (by kernel_rfl)
def z096 (l:Option Addr):Prog :=
Aj (Option.isNone l) (
Ak 0 [Aa 0])<|
AY l λa1=>
AB T.a30 a1 1 λp2=>
AT F.a79 [Ah p2] λl3=>
Ay 1 (
Bd 2 (0,(0,())) λn4 n5=>
Aj (decide (n5<(An l3))) (
.ex [.adr] (c1 λa6=>0<=n5/\n5<(An l3)/\l3.a=some a6) (u1 λa7=>
Be T.a0 a7 (Int.toNat n5*7) λn8 n9 n10 n11 n12 n13 l14=>
Ab T.a0 λa15=>
Ac T.a0 a15 (Ba n8 n9 n10 n11 n12 n13 l14)<|
AI T.a37 a15 6 λl16=>
Af (Aw (n4+(An l16))) λn17=>
Ak 2 [Aa n17,Aa (Aw (n5+1))]))<|
Ak 1 [Aa n4]) λn18=>
AA F.a69 [Ah l] λn19=>
Af (Aw (n18-n19)) λn20=>
Ak 0 [Aa n20]
theorem zv7 (l:Option Addr):FnS (z096 l) F.a72 #[.pointer l]:=dV ⟨[],[(0,[(3,.one (.int .i64))])],[],[(0,[(3,.one (.int .i64)),(14,.one (.int .i64))])]⟩ Go.Proofs.Tryz.func42 (by kernel_rfl)
def z098 (d:Option Addr) (prefix_:ByteArray) (c_0 c_1:Int) (c_2:Int):Prog :=
Ai T.a33 (Ad c_0 c_1 c_2) λa0=>
AP T.a13 a0 2 λn1=>
Ao (decide (n1<1)=false) T.a13 a0 2 λn2=>
Aj (decide (n1<1) || decide (n2>1024)) (
Aj (Option.isNone d) (
Ak 0 [Ah none,Aa 1])<|
Ak 0 [Ah none,Aa 2])<|
Bf (ld T.a46 (Addr.add a0 0)) λn3 n4=>
Ae F.a128 [Ah d,.string prefix_,Bg n3 n4] λp5 n6=>
Af n6 λn7=>
Aj (n7 != 0) (
Af n7 λn8=>
Ak 0 [Ah none,Aa n8])<|
AP T.a13 a0 2 λn9=>
Ai T.a34 (.agg #[Ah p5,Ah d,.string prefix_,Aa n9,Ah none,Ah none]) λa10=>
Au 1 (
AF F.a89 [Ar a10] λs11=>
AA F.a31 [Ah d,.string s11] λn12=>
Aj (decide (n12>0)) (
Ak 1 [.bool true])<|
AF F.a89 [Ar a10] λs13=>
Av F.a90 [Ah d,.string s13] λb14=>
Ak 1 [.bool b14]) λb15=>
Al 1 (
Aj b15 (
AF F.a89 [Ar a10] λs16=>
AA F.a30 [Ah d,.string s16] λn17=>
Af n17 λn18=>
Aj (n18 != 0) (
Af n18 λn19=>
Ak 0 [Ah none,Aa n19])<|
Ak 1 [])<|
Ak 1 [])<|
AA F.a85 [Ar a10] λn20=>
Af n20 λn21=>
AT F.a109 [Ah p5] λl22=>
Al 1 (
Am 2 (0,()) λn23=>
Aj (decide (n23<(An l22))) (
.ex [.adr] (c1 λa24=>0<=n23/\n23<(An l22)/\l22.a=some a24) (u1 λa25=>
Be T.a0 a25 (Int.toNat n23*7) λn26 n27 n28 n29 n30 n31 l32=>
Ab T.a0 λa33=>
Ac T.a0 a33 (Ba n26 n27 n28 n29 n30 n31 l32)<|
AP T.a14 a33 0 λn34=>
Al 3 (
Aj (decide (n34>=n21)) (
Bb T.a0 a33 λn35 n36 n37 n38 n39 n40 l41=>
Bh F.a88 [Ar a10,Ba n35 n36 n37 n38 n39 n40 l41]<|
Ak 3 [])<|
Ak 3 [])<|
Ak 2 [Aa (Aw (n23+1))]))<|
Ak 1 [])<|
Ak 0 [Ar a10,Aa 0]
theorem zv9 (d:Option Addr) (prefix_:ByteArray) (c_0 c_1 c_2:Int):FnS (z098 d prefix_ c_0 c_1 c_2) F.a77 #[.pointer d,.string prefix_,.agg #[.int .i64 c_0,.int .i64 c_1,.int .i64 c_2]]:=dV ⟨[(18741891978888913616950,[]),(1083197534374707740536733770,[])],[(0,[])],[(9,[(54,.one .bool)])],[(0,[(67,.one (.int .i64))])]⟩ Go.Proofs.Tryz.func63 (by kernel_rfl)
def zet  : Prog :=
.act (Instr.box T.a4 (.agg #[.int .i64 0,.slice none 0 0])) sA (u1 λa0 =>
.done 0 [.pointer (some a0)])
theorem zeo :FnS (zet ) F.a3 #[]:=dV ⟨[],[],[],[]⟩ Go.Proofs.Tryz.func64 (by kernel_rfl)
def z09d (p:Option Addr) (offset most:Int) (committed:Bool):Prog :=
Aj (Option.isNone p) (
Ak 0 [.slice none 0 0,Aa 0,Aa 1])<|
AY p λa1=>
AB T.a31 (Addr.add a1 0) 0 λp2=>
Bi F.a113 [Ah p2,Aa offset,Aa most] λl3 n4=>
Af n4 λn5=>
Aj (n5 != 0) (
Af n5 λn6=>
Ak 0 [.slice none 0 0,Aa 0,Aa n6])<|
Af offset λn7=>
.bind 1 [.one .slc,.one (.int .i64)] (
.loop 2 [.one .slc,.one (.int .i64),.one (.int .i64)] (⟨none,0,0⟩,(n7,(0,()))) (u3 λl8 (n9 n10:Int)=>
Aj (decide (n10<(An l3))) (
.ex [.adr] (c1 λa11=>0<=n10/\n10<(An l3)/\l3.a=some a11) (u1 λa12=>
Be T.a0 a12 (Int.toNat n10*7) λn13 n14 n15 n16 n17 n18 l19=>
Ab T.a0 λa20=>
Ac T.a0 a20 (Ba n13 n14 n15 n16 n17 n18 l19)<|
Au 3 (
AC<|
Bj (committed=true) (ld T.a14 (Addr.add a20 0)) λn21=>
Aj committed (
AA F.a83 [Ah p] λn22=>
AG<|
Ak 3 [.bool (decide (n21>=n22))])<|
AG<|
Ak 3 [.bool false]) λb23=>
Aj b23 (
Ak 1 [l8.v,Aa n9])<|
Au 3 (
AC<|
Bk (not committed=false) p λa25=>
.read (not committed=false) (ld T.a29 (Addr.add a25 5)) sP (u1 λp26=>
Bl (not committed=false) T.a0 a20 λn27 n28 n29 n30 n31 n32 l33=>
Aj (not committed) (
AG<|
Ak 3 [.bool true])<|
AA F.a56 [Ah p26,Ba n27 n28 n29 n30 n31 n32 l33] λn34=>
AG<|
Ak 3 [.bool (n34 == 1)])) λb35=>
AJ 3 (
Aj b35 (
Bb T.a0 a20 λn36 n37 n38 n39 n40 n41 l42=>
AO (Instr.buildSlice T.a36 1 #[(0,Ba n36 n37 n38 n39 n40 n41 l42)]) λl43=>
AT F.a95 [l43.v] λl44=>
AO (app T.a42 T.a42 T.a42 l8.v l44.v) λl45=>
Ak 3 [l45.v])<|
Ak 3 [l8.v]) λl46=>
Bb T.a0 a20 λn47 n48 n49 n50 n51 n52 l53=>
AA F.a97 [Ba n47 n48 n49 n50 n51 n52 l53] λn54=>
Af n54 λn55=>
Ak 2 [l46.v,Aa n55,Aa (Aw (n10+1))]))<|
Ak 1 [l8.v,Aa n9])) (u2 λl56 (n57:Int)=>
Af n57 λn58=>
Ak 0 [l56.v,Aa n58,Aa 0])
theorem zve (p:Option Addr) (offset most:Int) (committed:Bool):FnS (z09d p offset most committed) F.a82 #[.pointer p,.int .i64 offset,.int .i64 most,.bool committed]:=dV ⟨[(73196680484479534366778,[(13,.one .slc)])],[(0,[(13,.one .slc),(14,.one (.int .i64))])],[(11,[(47,.one .bool)]),(12,[(58,.one .bool)])],[(0,[(13,.one .slc),(14,.one (.int .i64)),(36,.one (.int .i64))])]⟩ Go.Proofs.Tryz.func65 (by kernel_rfl)
def z09b (p:Option Addr):Prog :=
Aj (Option.isNone p) (
Ak 0 [Aa 0])<|
AY p λa1=>
AB T.a31 (Addr.add a1 0) 0 λp2=>
AA F.a111 [Ah p2] λn3=>
Af n3 λn4=>
Ak 0 [Aa n4]
theorem zvc (p:Option Addr):FnS (z09b p) F.a80 #[.pointer p]:=dV ⟨[],[],[],[]⟩ Go.Proofs.Tryz.func66 (by kernel_rfl)
def zf3 (t:Option Addr) (l:Sl):Prog :=
AS (Option.isNone t) (
Ak 0 [Aa 1])<|
AY t λa2=>
AP T.a14 a2 0 λn3=>
Av F.a12 [Aa n3,l.v] λb4=>
.ex [.adr] (c1 λa5=>not b4=false/\decide ((An l)>0)=true->0<=Aw ((An l)-1)/\Aw ((An l)-1)<(An l)/\l.a=some a5) (u1 λa6=>
Ao (not b4=false/\decide ((An l)>0)=true) T.a14 (Addr.add a6 (Int.toNat (Aw ((An l)-1))*5)) 0 λn7=>
AS (not b4 || decide ((An l)>0) && decide (n7>1099511627776)) (
Ak 0 [Aa 8])<|
Al 1 (
Am 2 (0,()) λn9=>
Aj (decide (n9<(An l))) (
.ex [.adr] (c1 λa10=>0<=n9/\n9<(An l)/\l.a=some a10) (u1 λa11=>
Bn T.a35 a11 (Int.toNat n9*5) λn12 s13 s14 b15 n16=>
Ab T.a35 λa17=>
Ac T.a35 a17 (AZ n12 s13 s14 b15 n16)<|
Bo T.a35 a17 λn18 s19 s20 b21 n22=>
Bh F.a11 [Ah t,AZ n18 s19 s20 b21 n22]<|
Ak 2 [Aa (Aw (n9+1))]))<|
Ak 1 [])<|
Ak 0 [Aa 0])
theorem zy6 (t:Option Addr) (l:Sl):FnS (zf3 t l) F.a4 #[.pointer t,.slice l.a l.len l.cap]:=dV ⟨[],[(1,[])],[],[(1,[(35,.one (.int .i64))])]⟩ Go.Proofs.Tryz.func67 (by kernel_rfl)
def z02z (l:Option Addr) (time:Int) (rs:Sl):Prog :=
AA F.a162 [Ba 0 0 0 0 0 time rs] λn0=>
Af n0 λn1=>
Al 1 (
Aj (n1 == 0) (
AY l λa3=>
AI T.a37 a3 0 λl4=>
AO (app T.a37 T.a37 T.a37 (.slice none 0 0) l4.v) λl5=>
AO (app T.a37 T.a37 T.a37 l5.v rs.v) λl6=>
AY l λa8=>
AH T.a37 a8 0 l6.v<|
Ak 1 [])<|
Ak 1 [])<|
Af n1 λn9=>
Ak 0 [Aa n9]
theorem zpg (l:Option Addr) (time:Int) (rs:Sl):FnS (z02z l time rs) F.a164 #[.pointer l,.int .i64 time,.slice rs.a rs.len rs.cap]:=dV ⟨[(549622644750,[])],[],[],[]⟩ Go.Proofs.Tryz.func68 (by kernel_rfl)
def z030 (l:Option Addr) (key:ByteArray) (time:Int):Prog :=
AV F.a166 [Ah l,.string key] λs0 b1=>
AU s0 λs2=>
Ax b1 λb3=>
Aj (not b3) (
Ak 0 [Aa 3])<|
AO (Instr.buildSlice T.a37 1 #[(0,.agg #[.string key,.string (ByteArray.mk #[]),.bool true,Aa time])]) λl4=>
AA F.a164 [Ah l,Aa time,l4.v] λn5=>
Af n5 λn6=>
Ak 0 [Aa n6]
theorem zph (l:Option Addr) (key:ByteArray) (time:Int):FnS (z030 l key time) F.a165 #[.pointer l,.string key,.int .i64 time]:=dV ⟨[],[],[],[]⟩ Go.Proofs.Tryz.func69 (by kernel_rfl)
def z032 (l:Option Addr):Prog :=
.loop 1 [.one .slc] (⟨none,0,0⟩,()) (u1 λl0=>
AJ 2 (
AY l λa2=>
AI T.a37 a2 0 λl3=>
.bind 3 [.one .str,.one .bool] (
.loop 4 [.one .str,.one .bool,.one (.int .i64)] ((ByteArray.mk #[]),(false,(0,()))) (u3 λs4 b5 (n6:Int)=>
Aj (decide (n6<(An l3))) (
.ex [.adr] (c1 λa7=>0<=n6/\n6<(An l3)/\l3.a=some a7) (u1 λa8=>
AL T.a2 a8 (Int.toNat n6*4) λs9 s10 b11 n12=>
Ab T.a2 λa13=>
Ac T.a2 a13 (AM s9 s10 b11 n12)<|
AD T.a49 a13 0 λs14=>
AV F.a166 [Ah l,.string s14] λs15 b16=>
AU s15 λs17=>
Ax b16 λb18=>
AC<|
AW (b18=true/\((An l0) == 0)=false) T.a49 a13 0 λs19=>
.ex [.adr] (c1 λa20=>b18=true/\((An l0) == 0)=false->0<=Aw ((An l0)-1)/\Aw ((An l0)-1)<(An l0)/\l0.a=some a20) (u1 λa21=>
AW (b18=true/\((An l0) == 0)=false) T.a49 a21 (Int.toNat (Aw ((An l0)-1))*1) λs22=>
AW ((b18 && ((An l0) == 0 || not (Op.bytesLess (ByteArray.toList s19) (ByteArray.toList s22) || ByteArray.toList s19 == ByteArray.toList s22)))=true/\not b5=false) T.a49 a13 0 λs23=>
AG<|
.bind 5 [.one .str,.one .bool] (
Aj (b18 && ((An l0) == 0 || not (Op.bytesLess (ByteArray.toList s19) (ByteArray.toList s22) || ByteArray.toList s19 == ByteArray.toList s22)) && (not b5 || Op.bytesLess (ByteArray.toList s23) (ByteArray.toList s4))) (
AD T.a49 a13 0 λs24=>
AU s24 λs25=>
Ak 5 [.string s25,.bool true])<|
Ak 5 [.string s4,.bool b5]) (u2 λs26 b27=>
Ak 4 [.string s26,.bool b27,Aa (Aw (n6+1))]))))<|
Ak 3 [.string s4,.bool b5])) (u2 λs28 b29=>
Aj (not b29) (
Ak 0 [l0.v])<|
AO (Instr.buildSlice T.a44 1 #[(0,.string s28)]) λl30=>
AO (app T.a44 T.a44 T.a44 l0.v l30.v) λl31=>
Ak 2 [l31.v])) λl32=>
Ak 1 [l32.v])
theorem zpj (l:Option Addr):FnS (z032 l) F.a167 #[.pointer l]:=dV ⟨[(110680464442257506356,[(4,.one .str),(5,.one .bool)])],[(1,[(3,.one .slc)]),(2,[(4,.one .str),(5,.one .bool)])],[],[(0,[(3,.one .slc)]),(2,[(4,.one .str),(5,.one .bool),(15,.one (.int .i64))])]⟩ Go.Proofs.Tryz.func70 (by kernel_rfl)
def z031 (l:Option Addr) (key:ByteArray):Prog :=
AY l λa1=>
AI T.a37 a1 0 λl2=>
Af (Aw ((An l2)-1)) λn3=>
Al 1 (
Am 2 (n3,()) λn4=>
Aj (decide (n4>=0)) (
AY l λa6=>
AI T.a37 a6 0 λl7=>
.ex [.adr] (c1 λa8=>0<=n4/\n4<(An l7)/\l7.a=some a8) (u1 λa9=>
AD T.a49 (Addr.add a9 (Int.toNat n4*4)) 0 λs10=>
Aj (ByteArray.toList s10 == ByteArray.toList key) (
AC<|
AY l λa12=>
AI T.a37 a12 0 λl13=>
.ex [.adr] (c1 λa14=>0<=n4/\n4<(An l13)/\l13.a=some a14) (u1 λa15=>
AD T.a49 (Addr.add a15 (Int.toNat n4*4)) 1 λs16=>
AY l λa18=>
AI T.a37 a18 0 λl19=>
.ex [.adr] (c1 λa20=>0<=n4/\n4<(An l19)/\l19.a=some a20) (u1 λa21=>
Bp T.a3 (Addr.add a21 (Int.toNat n4*4)) 2 λb22=>
AU s16 λs23=>
Ax (not b22) λb24=>
AG<|
Ak 0 [.string s23,.bool b24])))<|
Af (Aw (n4-1)) λn25=>
Ak 2 [Aa n25]))<|
Ak 1 [])<|
Ak 0 [.string (ByteArray.mk #[]),.bool false]
theorem zpi (l:Option Addr) (key:ByteArray):FnS (z031 l key) F.a166 #[.pointer l,.string key]:=dV ⟨[],[(0,[])],[],[(0,[(6,.one (.int .i64))])]⟩ Go.Proofs.Tryz.func71 (by kernel_rfl)
def z099 (p:Option Addr) (b_0 b_1 b_2 b_3 b_4 b_5:Int) (b_6:Sl):Prog :=
Ai T.a0 (Ba b_0 b_1 b_2 b_3 b_4 b_5 b_6) λa0=>
AS (Option.isNone p) (
Ak 0 [Aa 0,.bool false,Aa 1])<|
Bb T.a0 a0 λn2 n3 n4 n5 n6 n7 l8=>
Av F.a91 [Ba n2 n3 n4 n5 n6 n7 l8] λb9=>
AS b9 (
Ak 0 [Aa 0,.bool false,Aa 2])<|
Bb T.a0 a0 λn11 n12 n13 n14 n15 n16 l17=>
.call F.a86 [Ah p,Ba n11 n12 n13 n14 n15 n16 l17] (.tup [.one (.int .i64),.one .bool,.one (.int .i64)]) (u3 λ(n18:Int) b19 (n20:Int)=>
Af n18 λn21=>
Ax b19 λb22=>
Af n20 λn23=>
Ak 0 [Aa n21,.bool b22,Aa n23])
theorem zva (p:Option Addr) (b_0 b_1 b_2 b_3 b_4 b_5:Int) (b_6:Sl):FnS (z099 p b_0 b_1 b_2 b_3 b_4 b_5 b_6) F.a78 #[.pointer p,.agg #[.int .i64 b_0,.int .i64 b_1,.int .i64 b_2,.int .i64 b_3,.int .i64 b_4,.int .i64 b_5,.slice b_6.a b_6.len b_6.cap]]:=dV ⟨[],[],[],[]⟩ Go.Proofs.Tryz.func84 (by kernel_rfl)
def z09a (p:Option Addr):Prog :=
Aj (Option.isNone p) (
Ak 0 [.slice none 0 0])<|
AY p λa1=>
AB T.a31 (Addr.add a1 0) 0 λp2=>
AT F.a109 [Ah p2] λl3=>
Ak 0 [l3.v]
theorem zvb (p:Option Addr):FnS (z09a p) F.a79 #[.pointer p]:=dV ⟨[],[],[],[]⟩ Go.Proofs.Tryz.func86 (by kernel_rfl)
def zf4 (t:Option Addr) (key:ByteArray):Prog :=
Ab T.a35 λa0=>
Aj (Option.isNone t) (
Ac T.a35 a0 (.agg #[Aa 0,.string (ByteArray.mk #[]),.string (ByteArray.mk #[]),.bool false,Aa 0])<|
Bo T.a35 a0 λn1 s2 s3 b4 n5=>
Ak 0 [AZ n1 s2 s3 b4 n5,.bool false])<|
Bq F.a8 [Ah t,.string key] λn6 b7=>
Af n6 λn8=>
Ax b7 λb9=>
Aj (not b9) (
Ac T.a35 a0 (.agg #[Aa 0,.string (ByteArray.mk #[]),.string (ByteArray.mk #[]),.bool false,Aa 0])<|
Bo T.a35 a0 λn10 s11 s12 b13 n14=>
Ak 0 [AZ n10 s11 s12 b13 n14,.bool false])<|
AY t λa16=>
AI T.a42 a16 1 λl17=>
.ex [.adr] (c1 λa18=>0<=n8/\n8<(An l17)/\l17.a=some a18) (u1 λa19=>
Bn T.a35 a19 (Int.toNat n8*5) λn20 s21 s22 b23 n24=>
Ac T.a35 a0 (AZ n20 s21 s22 b23 n24)<|
Bo T.a35 a0 λn25 s26 s27 b28 n29=>
Ak 0 [AZ n25 s26 s27 b28 n29,.bool true])
theorem zy7 (t:Option Addr) (key:ByteArray):FnS (zf4 t key) F.a5 #[.pointer t,.string key]:=dV ⟨[],[],[],[]⟩ Go.Proofs.Tryz.func87 (by kernel_rfl)
def zf6 (t:Option Addr) (from_ to_:ByteArray) (most:Int):Prog :=
Aj (Option.isNone t) (
Ak 0 [.slice none 0 0])<|
AC<|
AY t λa1=>
Br T.a42 a1 1 λl2=>
AA F.a9 [Ah t,.string from_] λn3=>
.must (0<=n3/\n3<=(An l2)) <|
AG<|
AJ 1 (
AK 2 (⟨none,0,0⟩,(0,())) λl4 n5=>
Aj (decide (n5<((l2.len-Int.toNat n3:Nat):Int))) (
.ex [.adr] (c1 λa6=>0<=n5/\n5<((l2.len-Int.toNat n3:Nat):Int)/\z0w l2.a 5 (Int.toNat n3) l2.cap=some a6) (u1 λa7=>
Bn T.a35 a7 (Int.toNat n5*5) λn8 s9 s10 b11 n12=>
Ab T.a35 λa13=>
Ac T.a35 a13 (AZ n8 s9 s10 b11 n12)<|
AW (not (ByteArray.toList to_ == ByteArray.toList (ByteArray.mk #[]))=true) T.a49 (Addr.add a13 1) 0 λs14=>
Aj (not (ByteArray.toList to_ == ByteArray.toList (ByteArray.mk #[])) && not (Op.bytesLess (ByteArray.toList s14) (ByteArray.toList to_)) || decide ((An l4)>=most)) (
Ak 1 [l4.v])<|
Bo T.a35 a13 λn15 s16 s17 b18 n19=>
AO (Instr.buildSlice T.a42 1 #[(0,AZ n15 s16 s17 b18 n19)]) λl20=>
AO (app T.a42 T.a42 T.a42 l4.v l20.v) λl21=>
Ak 2 [l21.v,Aa (Aw (n5+1))]))<|
Ak 1 [l4.v]) λl22=>
Ak 0 [l22.v]
theorem zy9 (t:Option Addr) (from_ to_:ByteArray) (most:Int):FnS (zf6 t from_ to_ most) F.a7 #[.pointer t,.string from_,.string to_,.int .i64 most]:=dV ⟨[],[(0,[(9,.one .slc)])],[],[(0,[(9,.one .slc),(23,.one (.int .i64))])]⟩ Go.Proofs.Tryz.func90 (by kernel_rfl)
def zf5 (t:Option Addr):Prog :=
Aj (Option.isNone t) (
Ak 0 [Aa 0])<|
AY t λa1=>
AI T.a42 a1 1 λl2=>
Af (An l2) λn3=>
Ak 0 [Aa n3]
theorem zy8 (t:Option Addr):FnS (zf5 t) F.a6 #[.pointer t]:=dV ⟨[],[],[],[]⟩ Go.Proofs.Tryz.func91 (by kernel_rfl)
def z09k (p:Option Addr):Prog :=
AY p λa1=>
AD T.a49 (Addr.add a1 0) 2 λs2=>
.must (((ByteArray.size s2+4:Nat):Int)<=9223372036854775807) <|
AU (s2++(ByteArray.mk #[46,116,109,112])) λs3=>
Ak 0 [.string s3]
theorem zvl (p:Option Addr):FnS (z09k p) F.a89 #[.pointer p]:=dV ⟨[],[],[],[]⟩ Go.Proofs.Tryz.func121 (by kernel_rfl)
def z09l (d:Option Addr) (name:ByteArray):Prog :=
Bi F.a29 [Ah d,.string name] λl0 n1=>
Af n1 λn2=>
Ax (n2 == 0) λb3=>
Ak 0 [.bool b3]
theorem zvm (d:Option Addr) (name:ByteArray):FnS (z09l d name) F.a90 #[.pointer d,.string name]:=dV ⟨[],[],[],[]⟩ Go.Proofs.Tryz.func122 (by kernel_rfl)
def z09g (p:Option Addr):Prog :=
AY p λa1=>
AP T.a13 a1 3 λn2=>
Ae F.a14 [Aa n2] λp3 n4=>
AY p λa6=>
AH T.a25 a6 4 (Ah p3)<|
Az F.a54 [] λp7=>
AY p λa9=>
AH T.a29 a9 5 (Ah p7)<|
AJ 1 (
AC<|
AY p λa11=>
Bc T.a26 (Addr.add a11 0) 1 λp12=>
AF F.a87 [Ah p] λs13=>
AG<|
Bi F.a29 [Ah p12,.string s13] λl14 n15=>
Af n15 λn16=>
AG<|
Ak 1 [l14.v]) λl17=>
.call F.a41 [l17.v] (.tup [.one .slc,.one .bool]) (u2 λl18 b19=>
Ax b19 λb20=>
Aj (not b20) (
Ak 0 [Aa 0])<|
Az F.a171 [l18.v] λp21=>
Bs F.a178 [Ah p21] λn22=>
AF F.a177 [Ah p21,Aa 262144] λs23=>
AF F.a177 [Ah p21,Aa 262144] λs24=>
Bt n22 λn25=>
AU s23 λs26=>
AU s24 λs27=>
Au 1 (
AA F.a173 [Ah p21] λn28=>
Aj (n28 != 0) (
Ak 1 [.bool true])<|
AA F.a81 [Ah p] λn29=>
Aj (decide (n25>IntKind.wrap .u64 n29)) (
Ak 1 [.bool true])<|
AA F.a80 [Ah p] λn30=>
Ak 1 [.bool (decide (Aw n25<n30))]) λb31=>
Aj b31 (
Ak 0 [Aa 0])<|
AO (convert T.a49 T.a45 (.string s26)) λl32=>
AY p λa34=>
AP T.a13 a34 3 λn35=>
Ae F.a13 [l32.v,Aa n35] λp36 n37=>
Af n37 λn38=>
Au 1 (
Aj (n38 != 0) (
Ak 1 [.bool true])<|
AA F.a18 [Ah p36] λn39=>
Ak 1 [.bool (decide (n39>Aw n25))]) λb40=>
Aj b40 (
Ak 0 [Aa 0])<|
AO (convert T.a49 T.a45 (.string s27)) λl41=>
Ae F.a53 [l41.v] λp42 n43=>
Af n43 λn44=>
Au 1 (
Aj (n44 != 0) (
Ak 1 [.bool true])<|
AA F.a58 [Ah p42] λn45=>
Ak 1 [.bool (decide (n45>Aw n25))]) λb46=>
Aj b46 (
Ak 0 [Aa 0])<|
AY p λa48=>
AH T.a25 a48 4 (Ah p36)<|
AY p λa50=>
AH T.a29 a50 5 (Ah p42)<|
Af (Aw n25) λn51=>
Ak 0 [Aa n51])
theorem zvh (p:Option Addr):FnS (z09g p) F.a85 #[.pointer p]:=dV ⟨[],[],[(3,[(3,.one .slc)]),(9,[(71,.one .bool)]),(12,[(90,.one .bool)]),(15,[(105,.one .bool)])],[]⟩ Go.Proofs.Tryz.func124 (by kernel_rfl)
def z09j (p:Option Addr) (b_0 b_1 b_2 b_3 b_4 b_5:Int) (b_6:Sl):Prog :=
Ai T.a0 (Ba b_0 b_1 b_2 b_3 b_4 b_5 b_6) λa0=>
AC<|
AY p λa2=>
AB T.a25 a2 4 λp3=>
Bb T.a0 a0 λn4 n5 n6 n7 n8 n9 l10=>
AA F.a19 [Ah p3,Ba n4 n5 n6 n7 n8 n9 l10] λn11=>
AG<|
AC<|
AY p λa13=>
AB T.a29 a13 5 λp14=>
Bb T.a0 a0 λn15 n16 n17 n18 n19 n20 l21=>
AA F.a62 [Ah p14,Ba n15 n16 n17 n18 n19 n20 l21] λn22=>
AG<|
Ak 0 []
theorem zvk (p:Option Addr) (b_0 b_1 b_2 b_3 b_4 b_5:Int) (b_6:Sl):FnS (z09j p b_0 b_1 b_2 b_3 b_4 b_5 b_6) F.a88 #[.pointer p,.agg #[.int .i64 b_0,.int .i64 b_1,.int .i64 b_2,.int .i64 b_3,.int .i64 b_4,.int .i64 b_5,.slice b_6.a b_6.len b_6.cap]]:=dV ⟨[],[],[],[]⟩ Go.Proofs.Tryz.func126 (by kernel_rfl)
def z09e (p:Option Addr):Prog :=
Aj (Option.isNone p) (
Ak 0 [Aa 0])<|
AY p λa1=>
AB T.a29 a1 5 λp2=>
AT F.a59 [Ah p2] λl3=>
Aj ((An l3) == 0) (
AA F.a81 [Ah p] λn4=>
Af n4 λn5=>
Ak 0 [Aa n5])<|
AY p λa7=>
AB T.a29 a7 5 λp8=>
AA F.a61 [Ah p8] λn9=>
AA F.a80 [Ah p] λn10=>
Af (if n10>n9 then n10 else n9) λn11=>
Ak 0 [Aa n11]
theorem zvf (p:Option Addr):FnS (z09e p) F.a83 #[.pointer p]:=dV ⟨[],[],[],[]⟩ Go.Proofs.Tryz.func128 (by kernel_rfl)
def z08t (v:Option Addr) (b_0 b_1 b_2 b_3 b_4 b_5:Int) (b_6:Sl):Prog :=
Ai T.a0 (Ba b_0 b_1 b_2 b_3 b_4 b_5 b_6) λa0=>
Aj (Option.isNone v) (
Ak 0 [Aa 0])<|
Bu 1 (
AC<|
AY v λa2=>
Bv T.a22 a2 2 λm3=>
AR T.a14 a0 1 λn4=>
AR T.a13 a0 2 λn5=>
Bw (Instr.lookup T.a22 (.map m3) (Bg n4 n5) true) λn6 n7 n8 n9 b10=>
Ab T.a18 λa11=>
AG<|
Ac T.a18 a11 (Bx n6 n7 n8 n9)<|
Ax b10 λb12=>
AG<|
Ak 1 [Ar a11,.bool b12]) λa13 b14=>
Bb T.a0 a0 λn15 n16 n17 n18 n19 n20 l21=>
Av F.a65 [Ba n15 n16 n17 n18 n19 n20 l21] λb22=>
AS b22 (
Ak 0 [Aa 3])<|
AC<|
AR T.a14 a0 0 λn24=>
AA F.a61 [Ah v] λn25=>
Ax (decide (n24>=n25)) λb26=>
AG<|
Aj b26 (
Ak 0 [Aa 0])<|
AP T.a13 a0 4 λn27=>
Ao ((n27 == 1 && b14)=true) T.a14 a0 0 λn28=>
Ao ((n27 == 1 && b14)=true) T.a14 a13 2 λn29=>
AS (n27 == 1 && b14 && decide (n28>=n29)) (
Ak 0 [Aa 2])<|
Ak 0 [Aa 1]
theorem zus (v:Option Addr) (b_0 b_1 b_2 b_3 b_4 b_5:Int) (b_6:Sl):FnS (z08t v b_0 b_1 b_2 b_3 b_4 b_5 b_6) F.a56 #[.pointer v,.agg #[.int .i64 b_0,.int .i64 b_1,.int .i64 b_2,.int .i64 b_3,.int .i64 b_4,.int .i64 b_5,.slice b_6.a b_6.len b_6.cap]]:=dV ⟨[],[],[(3,[(5,.one .adr),(6,.one .bool)])],[]⟩ Go.Proofs.Tryz.func129 (by kernel_rfl)
def z07q (from_:Int) (l:Sl):Prog :=
Al 1 (
Am 2 (0,()) λn0=>
Aj (decide (n0<(An l))) (
.ex [.adr] (c1 λa1=>0<=n0/\n0<(An l)/\l.a=some a1) (u1 λa2=>
Bn T.a35 a2 (Int.toNat n0*5) λn3 s4 s5 b6 n7=>
Ab T.a35 λa8=>
Af n0 λn9=>
Ac T.a35 a8 (AZ n3 s4 s5 b6 n7)<|
AC<|
Ao ((n9 == 0)=true) T.a14 a8 0 λn10=>
Ao ((n9 == 0 && decide (n10<from_))=false/\decide (n9>0)=true) T.a14 a8 0 λn11=>
.ex [.adr] (c1 λa12=>(n9 == 0 && decide (n10<from_))=false/\decide (n9>0)=true->0<=Aw (n9-1)/\Aw (n9-1)<(An l)/\l.a=some a12) (u1 λa13=>
Ao ((n9 == 0 && decide (n10<from_))=false/\decide (n9>0)=true) T.a14 (Addr.add a13 (Int.toNat (Aw (n9-1))*5)) 0 λn14=>
AG<|
Aj (n9 == 0 && decide (n10<from_) || decide (n9>0) && decide (n11<=n14)) (
Ak 0 [.bool false])<|
Ak 2 [Aa (Aw (n0+1))])))<|
Ak 1 [])<|
Ak 0 [.bool true]
theorem ztp (from_:Int) (l:Sl):FnS (z07q from_ l) F.a12 #[.int .i64 from_,.slice l.a l.len l.cap]:=dV ⟨[],[(0,[])],[],[(0,[(9,.one (.int .i64))])]⟩ Go.Proofs.Tryz.func132 (by kernel_rfl)
def z07p (t:Option Addr) (r_0:Int) (r_1 r_2:ByteArray) (r_3:Bool) (r_4:Int):Prog :=
Ai T.a35 (AZ r_0 r_1 r_2 r_3 r_4) λa0=>
AD T.a49 (Addr.add a0 1) 0 λs1=>
Bq F.a8 [Ah t,.string s1] λn2 b3=>
Af n2 λn4=>
Ax b3 λb5=>
AX (b5=true) T.a3 (Addr.add a0 1) 2 λb6=>
Ax (b5 && b6) λb7=>
Al 1 (
Aj b7 (
AY t λa9=>
AI T.a42 a9 1 λl10=>
AT F.a137 [l10.v,Aa n4,Aa (Aw (n4+1))] λl11=>
AY t λa13=>
AH T.a42 a13 1 l11.v<|
Ak 1 [])<|
Ax b5 λb14=>
Al 2 (
Aj b14 (
AC<|
AY t λa16=>
AI T.a42 a16 1 λl17=>
Bo T.a35 a0 λn18 s19 s20 b21 n22=>
.ex [.adr] (c1 λa23=>0<=n4/\n4<(An l17)/\l17.a=some a23) (u1 λa24=>
AH T.a35 a24 (Int.toNat n4*5) (AZ n18 s19 s20 b21 n22)<|
AG<|
Ak 2 []))<|
Bp T.a3 (Addr.add a0 1) 2 λb25=>
Ax (not b25) λb26=>
Al 3 (
Aj b26 (
Al 4 (
AC<|
AY t λa28=>
Br T.a42 a28 1 λl29=>
Bo T.a35 a0 λn30 s31 s32 b33 n34=>
AO (Instr.buildSlice T.a42 1 #[(0,AZ n30 s31 s32 b33 n34)]) λl35=>
AG<|
AT F.a138 [l29.v,Aa n4,l35.v] λl36=>
AY t λa38=>
AH T.a42 a38 1 l36.v<|
AG<|
Ak 4 [])<|
Ak 3 [])<|
Ak 3 [])<|
Ak 2 [])<|
Ak 1 [])<|
AP T.a14 a0 0 λn39=>
AY t λa41=>
AH T.a14 a41 0 (Aa (Aw (n39+1)))<|
Ak 0 []
theorem zto (t:Option Addr) (r_0:Int) (r_1 r_2:ByteArray) (r_3:Bool) (r_4:Int):FnS (z07p t r_0 r_1 r_2 r_3 r_4) F.a11 #[.pointer t,.agg #[.int .i64 r_0,.string r_1,.string r_2,.bool r_3,.int .i64 r_4]]:=dV ⟨[(590007579982553940009,[]),(590295739989961474080,[]),(590295810350115717134,[])],[],[(7,[])],[]⟩ Go.Proofs.Tryz.func133 (by kernel_rfl)
def z09h (p:Option Addr) (b_0 b_1 b_2 b_3 b_4 b_5:Int) (b_6:Sl):Prog :=
Ai T.a0 (Ba b_0 b_1 b_2 b_3 b_4 b_5 b_6) λa0=>
AA F.a81 [Ah p] λn1=>
AH T.a14 a0 0 (Aa n1)<|
Bb T.a0 a0 λn2 n3 n4 n5 n6 n7 l8=>
By F.a84 [Ah p,Ba n2 n3 n4 n5 n6 n7 l8] λb9 n10 n11=>
Ab T.a7 λa12=>
Ac T.a7 a12 (Bz b9 n10)<|
Af n11 λn13=>
AX ((n13 != 0)=false) T.a3 a12 0 λb14=>
Aj (n13 != 0 || b14) (
AC<|
AP T.a14 a12 1 λn15=>
Bp T.a3 a12 0 λb16=>
Af n15 λn17=>
Ax b16 λb18=>
Af n13 λn19=>
AG<|
Ak 0 [Aa n17,.bool b18,Aa n19])<|
AQ 1 (
AC<|
AY p λa21=>
Bc T.a31 (Addr.add a21 0) 0 λp22=>
Bb T.a0 a0 λn23 n24 n25 n26 n27 n28 l29=>
AO (Instr.buildSlice T.a36 1 #[(0,Ba n23 n24 n25 n26 n27 n28 l29)]) λl30=>
AG<|
As F.a110 [Ah p22,l30.v] λn31 n32=>
Af n31 λn33=>
Af n32 λn34=>
AG<|
Ak 1 [Aa n34,Aa n33]) λn35 n36=>
Ay 1 (
Aj (n35 == 0) (
AY p λa38=>
AB T.a31 (Addr.add a38 0) 0 λp39=>
AA F.a116 [Ah p39] λn40=>
Af n40 λn41=>
Ak 1 [Aa n41])<|
Ak 1 [Aa n35]) λn42=>
Aj (n42 != 0) (
Af n42 λn43=>
Ak 0 [Aa 0,.bool false,Aa n43])<|
AH T.a14 a0 0 (Aa n36)<|
Bb T.a0 a0 λn44 n45 n46 n47 n48 n49 l50=>
B0 F.a92 [Ba n44 n45 n46 n47 n48 n49 l50] λn51 n52 n53 n54 n55 n56 l57=>
Bh F.a88 [Ah p,Ba n51 n52 n53 n54 n55 n56 l57]<|
Af n36 λn58=>
Ak 0 [Aa n58,.bool false,Aa 0]
theorem zvi (p:Option Addr) (b_0 b_1 b_2 b_3 b_4 b_5:Int) (b_6:Sl):FnS (z09h p b_0 b_1 b_2 b_3 b_4 b_5 b_6) F.a86 #[.pointer p,.agg #[.int .i64 b_0,.int .i64 b_1,.int .i64 b_2,.int .i64 b_3,.int .i64 b_4,.int .i64 b_5,.slice b_6.a b_6.len b_6.cap]]:=dV ⟨[(2269814212195778602,[(8,.one (.int .i64))])],[],[(5,[(8,.one (.int .i64)),(9,.one (.int .i64))])],[]⟩ Go.Proofs.Tryz.func142 (by kernel_rfl)
def z09m (b_0 b_1 b_2 b_3 b_4 b_5:Int) (b_6:Sl):Prog :=
Ai T.a0 (Ba b_0 b_1 b_2 b_3 b_4 b_5 b_6) λa0=>
AP T.a13 a0 4 λn1=>
Ao ((n1 == 2)=false) T.a13 a0 4 λn2=>
Ax (n1 == 2 || n2 == 3) λb3=>
Ak 0 [.bool b3]
theorem zvn (b_0 b_1 b_2 b_3 b_4 b_5:Int) (b_6:Sl):FnS (z09m b_0 b_1 b_2 b_3 b_4 b_5 b_6) F.a91 #[.agg #[.int .i64 b_0,.int .i64 b_1,.int .i64 b_2,.int .i64 b_3,.int .i64 b_4,.int .i64 b_5,.slice b_6.a b_6.len b_6.cap]]:=dV ⟨[],[],[],[]⟩ Go.Proofs.Tryz.func144 (by kernel_rfl)
def zf7 (t:Option Addr) (key:ByteArray):Prog :=
AA F.a9 [Ah t,.string key] λn0=>
Af n0 λn1=>
AC<|
AY t λa3=>
AI T.a42 a3 1 λl4=>
Bk (decide (n1<(An l4))=true) t λa6=>
B1 (decide (n1<(An l4))=true) T.a42 a6 1 λl7=>
.ex [.adr] (c1 λa8=>decide (n1<(An l4))=true->0<=n1/\n1<(An l7)/\l7.a=some a8) (u1 λa9=>
AW (decide (n1<(An l4))=true) T.a49 (Addr.add (Addr.add a9 (Int.toNat n1*5)) 1) 0 λs10=>
Af n1 λn11=>
Ax (decide (n1<(An l4)) && ByteArray.toList s10 == ByteArray.toList key) λb12=>
AG<|
Ak 0 [Aa n11,.bool b12])
theorem zya (t:Option Addr) (key:ByteArray):FnS (zf7 t key) F.a8 #[.pointer t,.string key]:=dV ⟨[],[],[],[]⟩ Go.Proofs.Tryz.func146 (by kernel_rfl)
def zf8 (t:Option Addr) (key:ByteArray):Prog :=
Ai T.a24 (Ah t) λa0=>
Ai T.a49 (.string key) λa1=>
B2 T.a24 a0 λp2=>
AY p2 λa4=>
AI T.a42 a4 1 λl5=>
AA F.a151 [Aa (An l5),.func (Fn.func 224) #[] #[Ar a0,Ar a1]] λn6=>
Af n6 λn7=>
Ak 0 [Aa n7]
theorem zyb (t:Option Addr) (key:ByteArray):FnS (zf8 t key) F.a9 #[.pointer t,.string key]:=dV ⟨[],[],[],[]⟩ Go.Proofs.Tryz.func154 (by kernel_rfl)
def z07r (most:Int):Prog :=
Aj (decide (most<1) || decide (most>4096)) (
Ak 0 [Ah none,Aa 2])<|
.act (Instr.makeMap T.a20 none) sM (u1 λm0=>
Ai T.a6 (.agg #[Aa most,Aa 0,.map m0]) λa1=>
Ak 0 [Ar a1,Aa 0])
theorem ztq (most:Int):FnS (z07r most) F.a14 #[.int .i64 most]:=dV ⟨[],[],[],[]⟩ Go.Proofs.Tryz.func182 (by kernel_rfl)
def zqo  : Prog :=
.act (Instr.makeMap T.a21 none) sM (u1 λm0 =>
.act (Instr.makeMap T.a22 none) sM (u1 λm1 =>
.act (Instr.box T.a16 (.agg #[.int .i64 0,.map m0,.map m1])) sA (u1 λa2 =>
.done 0 [.pointer (some a2)])))
theorem zkp :FnS (zqo ) F.a54 #[]:=dV ⟨[],[],[],[]⟩ Go.Proofs.Tryz.func183 (by kernel_rfl)
def z09i (p:Option Addr):Prog :=
AY p λa1=>
AD T.a49 (Addr.add a1 0) 2 λs2=>
.must (((ByteArray.size s2+5:Nat):Int)<=9223372036854775807) <|
AU (s2++(ByteArray.mk #[46,115,110,97,112])) λs3=>
Ak 0 [.string s3]
theorem zvj (p:Option Addr):FnS (z09i p) F.a87 #[.pointer p]:=dV ⟨[],[],[],[]⟩ Go.Proofs.Tryz.func184 (by kernel_rfl)
def z09c (p:Option Addr):Prog :=
Aj (Option.isNone p) (
Ak 0 [Aa 0])<|
AY p λa1=>
AB T.a31 (Addr.add a1 0) 0 λp2=>
AA F.a112 [Ah p2] λn3=>
Af n3 λn4=>
Ak 0 [Aa n4]
theorem zvd (p:Option Addr):FnS (z09c p) F.a81 #[.pointer p]:=dV ⟨[],[],[],[]⟩ Go.Proofs.Tryz.func187 (by kernel_rfl)
def z07v (t:Option Addr) (b_0 b_1 b_2 b_3 b_4 b_5:Int) (b_6:Sl):Prog :=
Ai T.a0 (Ba b_0 b_1 b_2 b_3 b_4 b_5 b_6) λa0=>
Bb T.a0 a0 λn1 n2 n3 n4 n5 n6 l7=>
By F.a17 [Ah t,Ba n1 n2 n3 n4 n5 n6 l7] λb8 n9 n10=>
Ab T.a7 λa11=>
Ac T.a7 a11 (Bz b8 n9)<|
Af n10 λn12=>
AS (n12 != 0) (
Af n12 λn14=>
Ak 0 [Aa n14])<|
Bp T.a3 a11 0 λb15=>
AS b15 (
Ak 0 [Aa 4])<|
AC<|
AP T.a14 a0 0 λn17=>
AY t λa19=>
AP T.a14 a19 1 λn20=>
Ax (decide (n17<n20)) λb21=>
AG<|
Aj b21 (
Ak 0 [Aa 8])<|
Bb T.a0 a0 λn22 n23 n24 n25 n26 n27 l28=>
AA F.a97 [Ba n22 n23 n24 n25 n26 n27 l28] λn29=>
AY t λa31=>
AH T.a14 a31 1 (Aa n29)<|
AP T.a14 a0 1 λn32=>
Aj (n32 == 0) (
Ak 0 [Aa 0])<|
AP T.a14 a0 1 λn33=>
.call F.a21 [Ah t,Aa n33] (.tup [.agg [.int .i64,.int .i64,.int .i64,.int .i64,.int .i64,.int .i64,.int .i64],.one .bool]) (u8 λ(n34 n35 n36 n37 n38 n39 n40:Int) b41=>
Ab T.a5 λa42=>
Ac T.a5 a42 (B3 n34 n35 n36 n37 n38 n39 n40)<|
Ax b41 λb43=>
AP T.a14 a0 5 λn44=>
Af n44 λn45=>
Ay 1 (
Aj b43 (
AP T.a14 a42 6 λn46=>
Af (if n46>n45 then n46 else n45) λn47=>
Ak 1 [Aa n47])<|
Ak 1 [Aa n45]) λn48=>
AP T.a13 a0 4 λn49=>
Al 1 (
Al 2 (
Ax (n49 == 2) λb50=>
Au 3 (
Aj b50 (
Ak 3 [.bool b50])<|
Ax (n49 == 3) λb51=>
Ak 3 [.bool b51]) λb52=>
Aj b52 (
AC<|
AY t λa54=>
B4 T.a20 a54 2 λm55=>
AP T.a14 a0 1 λn56=>
AP T.a14 a0 1 λn57=>
AP T.a13 a0 2 λn58=>
B5 (Instr.mapUpdate T.a20 (.map m55) (Aa n56) (.agg #[Aa n57,Aa (Aw (n58+1)),Aa 0,Aa 0,Aa 0,Aa (-1),Aa n48]))<|
AG<|
Ak 0 [Aa 0])<|
AS (n49 == 1) (
B6 T.a5 a42 λn60 n61 n62 n63 n64 n65 n66=>
Av F.a16 [B3 n60 n61 n62 n63 n64 n65 n66] λb67=>
Al 3 (
Aj (not b67) (
AP T.a14 a0 0 λn68=>
AH T.a14 a42 5 (Aa n68)<|
Ak 3 [])<|
Ak 3 [])<|
Ak 2 [])<|
Ak 2 [])<|
AC<|
AY t λa70=>
B4 T.a20 a70 2 λm71=>
AP T.a14 a0 1 λn72=>
AP T.a14 a0 1 λn73=>
AP T.a13 a0 2 λn74=>
AP T.a13 a0 3 λn75=>
AI T.a37 a0 6 λl76=>
AP T.a14 a0 0 λn77=>
AP T.a14 a42 5 λn78=>
B5 (Instr.mapUpdate T.a20 (.map m71) (Aa n72) (.agg #[Aa n73,Aa n74,Aa n75,Aa (An l76),Aa n77,Aa n78,Aa n48]))<|
AG<|
Ak 1 [])<|
Ak 0 [Aa 0])
theorem ztu (t:Option Addr) (b_0 b_1 b_2 b_3 b_4 b_5:Int) (b_6:Sl):FnS (z07v t b_0 b_1 b_2 b_3 b_4 b_5 b_6) F.a19 #[.pointer t,.agg #[.int .i64 b_0,.int .i64 b_1,.int .i64 b_2,.int .i64 b_3,.int .i64 b_4,.int .i64 b_5,.slice b_6.a b_6.len b_6.cap]]:=dV ⟨[(34587645138207506480,[(9,.one (.int .i64))]),(737869762948382064695,[(55,.one .bool)]),(2166395068749415481073467467,[])],[(1,[]),(4,[])],[],[]⟩ Go.Proofs.Tryz.func192 (by kernel_rfl)
def z08w (v:Option Addr) (b_0 b_1 b_2 b_3 b_4 b_5:Int) (b_6:Sl):Prog :=
Ai T.a0 (Ba b_0 b_1 b_2 b_3 b_4 b_5 b_6) λa0=>
Bb T.a0 a0 λn1 n2 n3 n4 n5 n6 l7=>
AA F.a57 [Ah v,Ba n1 n2 n3 n4 n5 n6 l7] λn8=>
Af n8 λn9=>
Aj (n9 != 0) (
Af n9 λn10=>
Ak 0 [Aa n10])<|
Bb T.a0 a0 λn11 n12 n13 n14 n15 n16 l17=>
AA F.a97 [Ba n11 n12 n13 n14 n15 n16 l17] λn18=>
AY v λa20=>
AH T.a14 a20 0 (Aa n18)<|
Bu 1 (
AC<|
AY v λa22=>
Bv T.a21 a22 1 λm23=>
AR T.a14 a0 1 λn24=>
Bw (Instr.lookup T.a21 (.map m23) (Aa n24) true) λn25 n26 n27 n28 b29=>
Ab T.a18 λa30=>
AG<|
Ac T.a18 a30 (Bx n25 n26 n27 n28)<|
Ax b29 λb31=>
AG<|
Ak 1 [Ar a30,.bool b31]) λa32 b33=>
AP T.a13 a0 4 λn34=>
Ax (n34 == 1 && not b33) λb35=>
Al 1 (
Aj b35 (
AC<|
AY v λa37=>
B4 T.a21 a37 1 λm38=>
AP T.a14 a0 1 λn39=>
AP T.a14 a0 1 λn40=>
AP T.a13 a0 2 λn41=>
AP T.a14 a0 0 λn42=>
B5 (Instr.mapUpdate T.a21 (.map m38) (Aa n39) (.agg #[Aa n40,Aa n41,Aa n42,Aa (-1)]))<|
AG<|
Ak 1 [])<|
Bb T.a0 a0 λn43 n44 n45 n46 n47 n48 l49=>
Av F.a65 [Ba n43 n44 n45 n46 n47 n48 l49] λb50=>
Ax (b50 && b33) λb51=>
Al 2 (
Aj b51 (
AC<|
AY v λa53=>
B4 T.a21 a53 1 λm54=>
AP T.a14 a0 1 λn55=>
B7 (Builtin.delete_ #[T.a21,T.a14] T.a53 #[.map m54,Aa n55])<|
AG<|
AP T.a13 a0 4 λn56=>
Al 3 (
Aj (n56 == 3) (
AP T.a14 a0 0 λn57=>
AH T.a14 a32 3 (Aa n57)<|
AC<|
AY v λa59=>
B4 T.a22 a59 2 λm60=>
Bf (ld T.a17 (Addr.add a32 0)) λn61 n62=>
B8 T.a18 a32 λn63 n64 n65 n66=>
B5 (Instr.mapUpdate T.a22 (.map m60) (Bg n61 n62) (Bx n63 n64 n65 n66))<|
AG<|
Ak 3 [])<|
Ak 3 [])<|
Ak 2 [])<|
Ak 2 [])<|
Ak 1 [])<|
Ak 0 [Aa 0]
theorem zux (v:Option Addr) (b_0 b_1 b_2 b_3 b_4 b_5:Int) (b_6:Sl):FnS (z08w v b_0 b_1 b_2 b_3 b_4 b_5 b_6) F.a62 #[.pointer v,.agg #[.int .i64 b_0,.int .i64 b_1,.int .i64 b_2,.int .i64 b_3,.int .i64 b_4,.int .i64 b_5,.slice b_6.a b_6.len b_6.cap]]:=dV ⟨[(309182778366441411431104577,[]),(309484419525534710019129395,[]),(309485009820782118771359773,[])],[],[(5,[(6,.one .adr),(7,.one .bool)])],[]⟩ Go.Proofs.Tryz.func193 (by kernel_rfl)
def z00z (v:Option Addr):Prog :=
Aj (Option.isNone v) (
Ak 0 [.slice none 0 0])<|
AY v λa1=>
B4 T.a21 a1 1 λm2=>
.act (Instr.range T.a21 (.map m2)) sA (u1 λa3=>
AJ 1 (
.loop 2 [.one .slc] (⟨none,0,0⟩,()) (u1 λl4=>
.next (Instr.next (Ar a3) false T.a53) ([.one (.int .i64),.agg [.int .i64,.int .i64,.int .i64,.int .i64]]) (u5 λ(n5 n6 n7 n8 n9:Int)=>
.act (Instr.entry (Ar a3)) (.tup [.one (.int .i64),.agg [.int .i64,.int .i64,.int .i64,.int .i64]]) (u5 λ(n10 n11 n12 n13 n14:Int)=>
Ab T.a18 λa15=>
Ac T.a18 a15 (Bx n11 n12 n13 n14)<|
B8 T.a18 a15 λn16 n17 n18 n19=>
.call F.a64 [Bx n16 n17 n18 n19] (sG [.int .i64,.int .i64,.int .i64,.int .i64]) (u4 λ(n20 n21 n22 n23:Int)=>
AO (Instr.buildSlice T.a40 1 #[(0,Bx n20 n21 n22 n23)]) λl24=>
AO (app T.a40 T.a40 T.a40 l4.v l24.v) λl25=>
Ak 2 [l25.v]))) <|
Ak 1 [l4.v])) λl26=>
Bh F.a139 [l26.v,.func (Fn.func 267) #[] #[]]<|
Ak 0 [l26.v])
theorem zuu (v:Option Addr) {w:World} {R:List Value->World->Prop} (h:(z00z v).wp P (λ_=>True) w λe vs w'=>e=0/\R vs w') :
  Calls P F.a59 #[.pointer v] w λe w'=>∃ vs,e=.returned (z90 vs)/\R vs w' :=
 z9k (zi8 Go.Proofs.Tryz.func200 (by kernel_rfl) (by kernel_rfl) (by kernel_rfl)) zii mix [.val (.pointer v)] (by rw [show ziw P 25 ⟨zih,[(13,[.one (.int .i64),.agg [.int .i64,.int .i64,.int .i64,.int .i64]]),(15,[.one (.int .i64),.agg [.int .i64,.int .i64,.int .i64,.int .i64]])]⟩ { cnd:=[],blk:=[(0,[(3,.one .slc)])],reg:=[],lps:=[(0,[(3,.one .slc)])] } [.tmp 2] (zb4 Go.Proofs.Tryz.f200) [.val (.pointer v)]=z00z v from by kernel_rfl];exact h)
def z010 (v:Option Addr):Prog :=
Aj (Option.isNone v) (
Ak 0 [Aa 0])<|
AY v λa1=>
AP T.a14 a1 0 λn2=>
Af n2 λn3=>
AY v λa5=>
B4 T.a21 a5 1 λm6=>
.act (Instr.range T.a21 (.map m6)) sA (u1 λa7=>
Ay 1 (
Am 2 (n3,()) λn8=>
.next (Instr.next (Ar a7) false T.a53) ([.one (.int .i64),.agg [.int .i64,.int .i64,.int .i64,.int .i64]]) (u5 λ(n9 n10 n11 n12 n13:Int)=>
.act (Instr.entry (Ar a7)) (.tup [.one (.int .i64),.agg [.int .i64,.int .i64,.int .i64,.int .i64]]) (u5 λ(n14 n15 n16 n17 n18:Int)=>
Ab T.a18 λa19=>
Ac T.a18 a19 (Bx n15 n16 n17 n18)<|
AP T.a14 a19 2 λn20=>
Af (if n20<n8 then n20 else n8) λn21=>
Ak 2 [Aa n21])) <|
Ak 1 [Aa n8]) λn22=>
Af n22 λn23=>
Ak 0 [Aa n23])
theorem zuw (v:Option Addr) {w:World} {R:List Value->World->Prop} (h:(z010 v).wp P (λ_=>True) w λe vs w'=>e=0/\R vs w') :
  Calls P F.a61 #[.pointer v] w λe w'=>∃ vs,e=.returned (z90 vs)/\R vs w' :=
 z9k (zi8 Go.Proofs.Tryz.func201 (by kernel_rfl) (by kernel_rfl) (by kernel_rfl)) zii mix [.val (.pointer v)] (by rw [show ziw P 26 ⟨zih,[(17,[.one (.int .i64),.agg [.int .i64,.int .i64,.int .i64,.int .i64]]),(19,[.one (.int .i64),.agg [.int .i64,.int .i64,.int .i64,.int .i64]])]⟩ { cnd:=[],blk:=[(0,[(3,.one (.int .i64))])],reg:=[],lps:=[(0,[(3,.one (.int .i64))])] } [.tmp 2] (zb4 Go.Proofs.Tryz.f201) [.val (.pointer v)]=z010 v from by kernel_rfl];exact h)
def z08z (b_0 b_1 b_2 b_3 b_4 b_5:Int) (b_6:Sl):Prog :=
Ai T.a0 (Ba b_0 b_1 b_2 b_3 b_4 b_5 b_6) λa0=>
AP T.a13 a0 4 λn1=>
Ao ((n1 == 2)=false) T.a13 a0 4 λn2=>
Ax (n1 == 2 || n2 == 3) λb3=>
Ak 0 [.bool b3]
theorem zv0 (b_0 b_1 b_2 b_3 b_4 b_5:Int) (b_6:Sl):FnS (z08z b_0 b_1 b_2 b_3 b_4 b_5 b_6) F.a65 #[.agg #[.int .i64 b_0,.int .i64 b_1,.int .i64 b_2,.int .i64 b_3,.int .i64 b_4,.int .i64 b_5,.slice b_6.a b_6.len b_6.cap]]:=dV ⟨[],[],[],[]⟩ Go.Proofs.Tryz.func202 (by kernel_rfl)
def z02j (s:Sl) (i:Int) (j:Int):Prog :=
.must (0<=i/\i<=j/\j<=(An s)/\(An s)<=((s.cap:Nat):Int)) <|
Aj (i == j) (
Ak 0 [s.v])<|
Af (An s) λn0=>
AC<|
.must (0<=i/\i<=((s.cap:Nat):Int)) <|
.must (0<=j/\j<=(An s)) <|
AO (app T.a42 T.a42 T.a42 (.slice s.a (Int.toNat i) s.cap) (.slice (z0w s.a 5 (Int.toNat j) s.cap) (s.len-Int.toNat j) (s.cap-Int.toNat j))) λl1=>
AG<|
.must (0<=(An l1)/\(An l1)<=n0/\n0<=((l1.cap:Nat):Int)) <|
B7 (Builtin.clear_ #[T.a42] T.a53 #[.slice (z0w l1.a 5 (Int.toNat (An l1)) l1.cap) (Int.toNat n0-Int.toNat (An l1)) (l1.cap-Int.toNat (An l1))])<|
Ak 0 [l1.v]
theorem zp0 (s:Sl) (i j:Int):FnS (z02j s i j) F.a137 #[.slice s.a s.len s.cap,.int .i64 i,.int .i64 j]:=dV ⟨[],[],[],[]⟩ Go.Proofs.Tryz.func205 (by kernel_rfl)
def z02k (s:Sl) (i:Int) (v:Sl):Prog :=
.must (0<=i/\i<=(An s)) <|
Af (An v) λn0=>
Aj (n0 == 0) (
Ak 0 [s.v])<|
Af (An s) λn1=>
Aj (i == n1) (
AO (app T.a42 T.a42 T.a42 s.v v.v) λl2=>
Ak 0 [l2.v])<|
Aj (decide (Aw (n1+n0)>((s.cap:Nat):Int))) (
.must (0<=i/\i<=((s.cap:Nat):Int)) <|
AO (app T.a42 T.a13 T.a42 (.slice s.a (Int.toNat i) s.cap) (Aa (Aw (Aw (n1+n0)-i)))) λl3=>
.must (0<=i/\i<=(An l3)) <|
B9 (Builtin.copy_ #[T.a42,T.a42] T.a13 #[.slice (z0w l3.a 5 (Int.toNat i) l3.cap) (l3.len-Int.toNat i) (l3.cap-Int.toNat i),v.v]) λn4=>
AC<|
.must (0<=Aw (i+n0)/\Aw (i+n0)<=(An l3)) <|
.must (0<=i/\i<=(An s)) <|
B9 (Builtin.copy_ #[T.a42,T.a42] T.a13 #[.slice (z0w l3.a 5 (Int.toNat (Aw (i+n0))) l3.cap) (l3.len-Int.toNat (Aw (i+n0))) (l3.cap-Int.toNat (Aw (i+n0))),.slice (z0w s.a 5 (Int.toNat i) s.cap) (s.len-Int.toNat i) (s.cap-Int.toNat i)]) λn5=>
AG<|
Ak 0 [l3.v])<|
.must (0<=Aw (n1+n0)/\Aw (n1+n0)<=((s.cap:Nat):Int)) <|
.must (0<=Aw (i+n0)/\Aw (i+n0)<=((Int.toNat (Aw (n1+n0)):Nat):Int)) <|
.act (zi2 272 (#[]++#[v.v,.slice (z0w s.a 5 (Int.toNat (Aw (i+n0))) s.cap) (Int.toNat (Aw (n1+n0))-Int.toNat (Aw (i+n0))) (s.cap-Int.toNat (Aw (i+n0)))]++#[])) sB (u1 λb6=>
Aj (not b6) (
AC<|
.must (0<=Aw (i+n0)/\Aw (i+n0)<=((Int.toNat (Aw (n1+n0)):Nat):Int)) <|
.must (0<=i/\i<=((Int.toNat (Aw (n1+n0)):Nat):Int)) <|
B9 (Builtin.copy_ #[T.a42,T.a42] T.a13 #[.slice (z0w s.a 5 (Int.toNat (Aw (i+n0))) s.cap) (Int.toNat (Aw (n1+n0))-Int.toNat (Aw (i+n0))) (s.cap-Int.toNat (Aw (i+n0))),.slice (z0w s.a 5 (Int.toNat i) s.cap) (Int.toNat (Aw (n1+n0))-Int.toNat i) (s.cap-Int.toNat i)]) λn7=>
AG<|
.must (0<=i/\i<=((Int.toNat (Aw (n1+n0)):Nat):Int)) <|
B9 (Builtin.copy_ #[T.a42,T.a42] T.a13 #[.slice (z0w s.a 5 (Int.toNat i) s.cap) (Int.toNat (Aw (n1+n0))-Int.toNat i) (s.cap-Int.toNat i),v.v]) λn8=>
Ak 0 [.slice s.a (Int.toNat (Aw (n1+n0))) s.cap])<|
.must (0<=n1/\n1<=((Int.toNat (Aw (n1+n0)):Nat):Int)) <|
B9 (Builtin.copy_ #[T.a42,T.a42] T.a13 #[.slice (z0w s.a 5 (Int.toNat n1) s.cap) (Int.toNat (Aw (n1+n0))-Int.toNat n1) (s.cap-Int.toNat n1),v.v]) λn9=>
.must (0<=i/\i<=((Int.toNat (Aw (n1+n0)):Nat):Int)) <|
Bh F.a150 [.slice (z0w s.a 5 (Int.toNat i) s.cap) (Int.toNat (Aw (n1+n0))-Int.toNat i) (s.cap-Int.toNat i),Aa n0]<|
Ak 0 [.slice s.a (Int.toNat (Aw (n1+n0))) s.cap])
theorem zp1 (s:Sl) (i:Int) (v:Sl):FnS (z02k s i v) F.a138 #[.slice s.a s.len s.cap,.int .i64 i,.slice v.a v.len v.cap]:=dV ⟨[],[],[],[]⟩ Go.Proofs.Tryz.func206 (by kernel_rfl)
def z09f (p:Option Addr) (b_0 b_1 b_2 b_3 b_4 b_5:Int) (b_6:Sl):Prog :=
Ai T.a0 (Ba b_0 b_1 b_2 b_3 b_4 b_5 b_6) λa0=>
Ab T.a7 λa1=>
.bind 1 [.one .adr,.one (.int .i64)] (
AC<|
AY p λa3=>
Bc T.a25 a3 4 λp4=>
.hold True (ld T.a0 a0) (sG [.int .i64,.int .i64,.int .i64,.int .i64,.int .i64,.int .i64,.slc]) (u7 λ(n5 n6 n7 n8 n9 n10:Int) l11=>
.both (
AG<|
By F.a17 [Ah p4,Ba n5 n6 n7 n8 n9 n10 l11] λb12 n13 n14=>
Ab T.a7 λa15=>
Ac T.a7 a15 (Bz b12 n13)<|
Af n14 λn16=>
AG<|
Ak 1 [Ar a15,Aa n16]) <|
Ab T.a7 λa17=>
AG<|
By F.a17 [Ah p4,Ba n5 n6 n7 n8 n9 n10 l11] λb18 n19 n20=>
Ac T.a7 a17 (Bz b18 n19)<|
Af n20 λn21=>
AG<|
Ak 1 [Ar a17,Aa n21])) (u2 λa22 (n23:Int)=>
AX ((n23 != 0)=false) T.a3 a22 0 λb24=>
Aj (n23 != 0 || b24) (
BA T.a7 a22 λb25 n26=>
Ac T.a7 a1 (Bz b25 n26)<|
Af n23 λn27=>
BA T.a7 a1 λb28 n29=>
Ak 0 [Bz b28 n29,Aa n27])<|
Ay 1 (
AC<|
.hold True (ld T.a7 a22) (sG [.bool,.int .i64]) (u2 λb30 (n31:Int)=>
AY p λa33=>
AB T.a29 a33 5 λp34=>
Bb T.a0 a0 λn35 n36 n37 n38 n39 n40 l41=>
AA F.a57 [Ah p34,Ba n35 n36 n37 n38 n39 n40 l41] λn42=>
AG<|
Ac T.a7 a1 (Bz b30 n31)<|
Af n42 λn43=>
AG<|
Ak 1 [Aa n43])) λn44=>
BA T.a7 a1 λb45 n46=>
Ak 0 [Bz b45 n46,Aa n44])
theorem zvg (p:Option Addr) (b_0 b_1 b_2 b_3 b_4 b_5:Int) (b_6:Sl):FnS (z09f p b_0 b_1 b_2 b_3 b_4 b_5 b_6) F.a84 #[.pointer p,.agg #[.int .i64 b_0,.int .i64 b_1,.int .i64 b_2,.int .i64 b_3,.int .i64 b_4,.int .i64 b_5,.slice b_6.a b_6.len b_6.cap]]:=dV ⟨[],[],[(1,[(6,.one .adr),(7,.one (.int .i64))]),(4,[(5,.one (.int .i64))])],[]⟩ Go.Proofs.Tryz.func210 (by kernel_rfl)
def zf9 (i:Int) (fv0:Option Addr) (fv1:Option Addr):Prog :=
AC<|
BB T.a24 fv0 λp0=>
AY p0 λa2=>
AI T.a42 a2 1 λl3=>
.ex [.adr] (c1 λa4=>0<=i/\i<(An l3)/\l3.a=some a4) (u1 λa5=>
AD T.a49 (Addr.add (Addr.add a5 (Int.toNat i*5)) 1) 0 λs6=>
.read True (Instr.loadAt T.a49 (Ah fv1)) sS (u1 λs7=>
Ax (not (Op.bytesLess (ByteArray.toList s6) (ByteArray.toList s7))) λb8=>
AG<|
Ak 0 [.bool b8]))
theorem zyc (i:Int) (fv0 fv1:Option Addr):FnS (zf9 i fv0 fv1) F.a10 #[.int .i64 i,.pointer fv0,.pointer fv1]:=dV ⟨[],[],[],[]⟩ Go.Proofs.Tryz.func224 (by kernel_rfl)
def z07u (t:Option Addr) (b_0 b_1 b_2 b_3 b_4 b_5:Int) (b_6:Sl):Prog :=
Ai T.a0 (Ba b_0 b_1 b_2 b_3 b_4 b_5 b_6) λa0=>
Ab T.a7 λa1=>
Aj (Option.isNone t) (
Ac T.a7 a1 (Bz false 0)<|
BA T.a7 a1 λb2 n3=>
Ak 0 [Bz b2 n3,Aa 1])<|
Bb T.a0 a0 λn4 n5 n6 n7 n8 n9 l10=>
AA F.a99 [Ba n4 n5 n6 n7 n8 n9 l10] λn11=>
Af n11 λn12=>
Ao ((n12 != 0)=false) T.a14 a0 1 λn13=>
Aj (n12 != 0 || n13 == 0) (
Ac T.a7 a1 (Bz false 0)<|
Af n12 λn14=>
BA T.a7 a1 λb15 n16=>
Ak 0 [Bz b15 n16,Aa n14])<|
AP T.a14 a0 1 λn17=>
.call F.a21 [Ah t,Aa n17] (.tup [.agg [.int .i64,.int .i64,.int .i64,.int .i64,.int .i64,.int .i64,.int .i64],.one .bool]) (u8 λ(n18 n19 n20 n21 n22 n23 n24:Int) b25=>
Ab T.a5 λa26=>
Ac T.a5 a26 (B3 n18 n19 n20 n21 n22 n23 n24)<|
Ax b25 λb27=>
AP T.a13 a0 2 λn28=>
AP T.a13 a26 1 λn29=>
Aj (decide (n28<n29)) (
Bb T.a0 a0 λn30 n31 n32 n33 n34 n35 l36=>
Av F.a23 [Ba n30 n31 n32 n33 n34 n35 l36] λb37=>
Aj b37 (
Ac T.a7 a1 (.agg #[.bool true,Aa (-1)])<|
BA T.a7 a1 λb38 n39=>
Ak 0 [Bz b38 n39,Aa 0])<|
Ac T.a7 a1 (Bz false 0)<|
BA T.a7 a1 λb40 n41=>
Ak 0 [Bz b40 n41,Aa 20])<|
Bb T.a0 a0 λn42 n43 n44 n45 n46 n47 l48=>
Av F.a23 [Ba n42 n43 n44 n45 n46 n47 l48] λb49=>
Al 1 (
Aj (not b49) (
B6 T.a5 a26 λn50 n51 n52 n53 n54 n55 n56=>
Bb T.a0 a0 λn57 n58 n59 n60 n61 n62 l63=>
.call F.a22 [B3 n50 n51 n52 n53 n54 n55 n56,Ba n57 n58 n59 n60 n61 n62 l63] (.tup [.agg [.bool,.int .i64],.one .bool]) (u3 λb64 (n65:Int) b66=>
Ab T.a7 λa67=>
Ac T.a7 a67 (Bz b64 n65)<|
AS b66 (
BA T.a7 a67 λb69 n70=>
Ac T.a7 a1 (Bz b69 n70)<|
BA T.a7 a1 λb71 n72=>
Ak 0 [Bz b71 n72,Aa 0])<|
Ak 1 []))<|
Ak 1 [])<|
B6 T.a5 a26 λn73 n74 n75 n76 n77 n78 n79=>
Bb T.a0 a0 λn80 n81 n82 n83 n84 n85 l86=>
AA F.a20 [Ah t,B3 n73 n74 n75 n76 n77 n78 n79,.bool b27,Ba n80 n81 n82 n83 n84 n85 l86] λn87=>
Ac T.a7 a1 (Bz false 0)<|
Af n87 λn88=>
BA T.a7 a1 λb89 n90=>
Ak 0 [Bz b89 n90,Aa n88])
theorem ztt (t:Option Addr) (b_0 b_1 b_2 b_3 b_4 b_5:Int) (b_6:Sl):FnS (z07u t b_0 b_1 b_2 b_3 b_4 b_5 b_6) F.a17 #[.pointer t,.agg #[.int .i64 b_0,.int .i64 b_1,.int .i64 b_2,.int .i64 b_3,.int .i64 b_4,.int .i64 b_5,.slice b_6.a b_6.len b_6.cap]]:=dV ⟨[(18374686479678046251,[])],[],[],[]⟩ Go.Proofs.Tryz.func258 (by kernel_rfl)
def z07x (t:Option Addr) (pid:Int):Prog :=
Ab T.a5 λa0=>
AY t λa2=>
B4 T.a20 a2 2 λm3=>
.read True (Instr.lookup T.a20 (.map m3) (Aa pid) true) (.tup [.agg [.int .i64,.int .i64,.int .i64,.int .i64,.int .i64,.int .i64,.int .i64],.one .bool]) (u8 λ(n4 n5 n6 n7 n8 n9 n10:Int) b11=>
Ab T.a5 λa12=>
Ac T.a5 a12 (B3 n4 n5 n6 n7 n8 n9 n10)<|
Ax b11 λb13=>
Aj (not b13) (
Ac T.a5 a0 (.agg #[Aa pid,Aa (-1),Aa 0,Aa 0,Aa 0,Aa (-1),Aa 0])<|
B6 T.a5 a0 λn14 n15 n16 n17 n18 n19 n20=>
Ak 0 [B3 n14 n15 n16 n17 n18 n19 n20,.bool false])<|
B6 T.a5 a12 λn21 n22 n23 n24 n25 n26 n27=>
Ac T.a5 a0 (B3 n21 n22 n23 n24 n25 n26 n27)<|
B6 T.a5 a0 λn28 n29 n30 n31 n32 n33 n34=>
Ak 0 [B3 n28 n29 n30 n31 n32 n33 n34,.bool true])
theorem ztw (t:Option Addr) (pid:Int):FnS (z07x t pid) F.a21 #[.pointer t,.int .i64 pid]:=dV ⟨[],[],[],[]⟩ Go.Proofs.Tryz.func259 (by kernel_rfl)
def z07t (r_0 r_1 r_2 r_3 r_4 r_5:Int) (r_6:Int):Prog :=
Ai T.a5 (B3 r_0 r_1 r_2 r_3 r_4 r_5 r_6) λa0=>
AP T.a14 a0 5 λn1=>
Ax (decide (n1>=0)) λb2=>
Ak 0 [.bool b2]
theorem zts (r_0 r_1 r_2 r_3 r_4 r_5 r_6:Int):FnS (z07t r_0 r_1 r_2 r_3 r_4 r_5 r_6) F.a16 #[.agg #[.int .i64 r_0,.int .i64 r_1,.int .i64 r_2,.int .i64 r_3,.int .i64 r_4,.int .i64 r_5,.int .i64 r_6]]:=dV ⟨[],[],[],[]⟩ Go.Proofs.Tryz.func260 (by kernel_rfl)
def z08u (v:Option Addr) (b_0 b_1 b_2 b_3 b_4 b_5:Int) (b_6:Sl):Prog :=
Ai T.a0 (Ba b_0 b_1 b_2 b_3 b_4 b_5 b_6) λa0=>
Aj (Option.isNone v) (
Ak 0 [Aa 1])<|
Bb T.a0 a0 λn1 n2 n3 n4 n5 n6 l7=>
AA F.a99 [Ba n1 n2 n3 n4 n5 n6 l7] λn8=>
Af n8 λn9=>
Aj (n9 != 0) (
Af n9 λn10=>
Ak 0 [Aa n10])<|
AC<|
AP T.a14 a0 0 λn11=>
AY v λa13=>
AP T.a14 a13 0 λn14=>
Ax (decide (n11<n14)) λb15=>
AG<|
Aj b15 (
Ak 0 [Aa 8])<|
AP T.a13 a0 4 λn16=>
AS (n16 != 0) (
Bb T.a0 a0 λn18 n19 n20 n21 n22 n23 l24=>
AA F.a63 [Ah v,Ba n18 n19 n20 n21 n22 n23 l24] λn25=>
Af n25 λn26=>
Ak 0 [Aa n26])<|
Ak 0 [Aa 0]
theorem zut (v:Option Addr) (b_0 b_1 b_2 b_3 b_4 b_5:Int) (b_6:Sl):FnS (z08u v b_0 b_1 b_2 b_3 b_4 b_5 b_6) F.a57 #[.pointer v,.agg #[.int .i64 b_0,.int .i64 b_1,.int .i64 b_2,.int .i64 b_3,.int .i64 b_4,.int .i64 b_5,.slice b_6.a b_6.len b_6.cap]]:=dV ⟨[],[],[],[]⟩ Go.Proofs.Tryz.func261 (by kernel_rfl)
def z08y (l_0 l_1 l_2:Int) (l_3:Int):Prog :=
Ai T.a18 (Bx l_0 l_1 l_2 l_3) λa0=>
Ab T.a15 λa1=>
AP T.a14 (Addr.add a0 0) 0 λn2=>
AP T.a13 (Addr.add a0 0) 1 λn3=>
AP T.a14 a0 2 λn4=>
AP T.a14 a0 3 λn5=>
Ac T.a15 a1 (Bx n2 n3 n4 n5)<|
B8 T.a15 a1 λn6 n7 n8 n9=>
Ak 0 [Bx n6 n7 n8 n9]
theorem zuz (l_0 l_1 l_2 l_3:Int):FnS (z08y l_0 l_1 l_2 l_3) F.a64 #[.agg #[.int .i64 l_0,.int .i64 l_1,.int .i64 l_2,.int .i64 l_3]]:=dV ⟨[],[],[],[]⟩ Go.Proofs.Tryz.func265 (by kernel_rfl)
def z08v (a_0 a_1 a_2 a_3 b_0 b_1 b_2:Int) (b_3:Int):Prog :=
Ai T.a15 (Bx a_0 a_1 a_2 a_3) λa0=>
Ai T.a15 (Bx b_0 b_1 b_2 b_3) λa1=>
AP T.a14 a0 2 λn2=>
AP T.a14 a1 2 λn3=>
AA F.a1 [Aa n2,Aa n3] λn4=>
Af n4 λn5=>
Ak 0 [Aa n5]
theorem zuv (a_0 a_1 a_2 a_3 b_0 b_1 b_2 b_3:Int):FnS (z08v a_0 a_1 a_2 a_3 b_0 b_1 b_2 b_3) F.a60 #[.agg #[.int .i64 a_0,.int .i64 a_1,.int .i64 a_2,.int .i64 a_3],.agg #[.int .i64 b_0,.int .i64 b_1,.int .i64 b_2,.int .i64 b_3]]:=dV ⟨[],[],[],[]⟩ Go.Proofs.Tryz.func267 (by kernel_rfl)
def z07s (r_0 r_1 r_2 r_3 r_4 r_5:Int) (r_6:Int):Prog :=
Ai T.a5 (B3 r_0 r_1 r_2 r_3 r_4 r_5 r_6) λa0=>
AP T.a13 a0 2 λn1=>
AP T.a13 a0 3 λn2=>
Af (Aw (n1+n2)) λn3=>
Ak 0 [Aa n3]
theorem ztr (r_0 r_1 r_2 r_3 r_4 r_5 r_6:Int):FnS (z07s r_0 r_1 r_2 r_3 r_4 r_5 r_6) F.a15 #[.agg #[.int .i64 r_0,.int .i64 r_1,.int .i64 r_2,.int .i64 r_3,.int .i64 r_4,.int .i64 r_5,.int .i64 r_6]]:=dV ⟨[],[],[],[]⟩ Go.Proofs.Tryz.func304 (by kernel_rfl)
def z07z (b_0 b_1 b_2 b_3 b_4 b_5:Int) (b_6:Sl):Prog :=
Ai T.a0 (Ba b_0 b_1 b_2 b_3 b_4 b_5 b_6) λa0=>
AP T.a13 a0 4 λn1=>
Ao ((n1 == 2)=false) T.a13 a0 4 λn2=>
Ax (n1 == 2 || n2 == 3) λb3=>
Ak 0 [.bool b3]
theorem zty (b_0 b_1 b_2 b_3 b_4 b_5:Int) (b_6:Sl):FnS (z07z b_0 b_1 b_2 b_3 b_4 b_5 b_6) F.a23 #[.agg #[.int .i64 b_0,.int .i64 b_1,.int .i64 b_2,.int .i64 b_3,.int .i64 b_4,.int .i64 b_5,.slice b_6.a b_6.len b_6.cap]]:=dV ⟨[],[],[],[]⟩ Go.Proofs.Tryz.func306 (by kernel_rfl)
def z07y (r_0 r_1 r_2 r_3 r_4 r_5 r_6 b_0 b_1 b_2 b_3 b_4 b_5:Int) (b_6:Sl):Prog :=
Ai T.a5 (B3 r_0 r_1 r_2 r_3 r_4 r_5 r_6) λa0=>
Ai T.a0 (Ba b_0 b_1 b_2 b_3 b_4 b_5 b_6) λa1=>
Ab T.a7 λa2=>
Au 1 (
AC<|
AP T.a13 a1 2 λn3=>
AP T.a13 a0 1 λn4=>
Bj ((n3 != n4)=false) (ld T.a13 (Addr.add a1 3)) λn5=>
.hold ((n3 != n4)=false) (ld T.a37 (Addr.add a1 6)) sL (u1 λl6=>
.read ((n3 != n4)=false) (ld T.a5 a0) (sG [.int .i64,.int .i64,.int .i64,.int .i64,.int .i64,.int .i64,.int .i64]) (u7 λ(n7 n8 n9 n10 n11 n12 n13:Int)=>
Aj (n3 != n4) (
AG<|
Ak 1 [.bool true])<|
AA F.a15 [B3 n7 n8 n9 n10 n11 n12 n13] λn14=>
AG<|
Ak 1 [.bool (decide (Aw (n5+(An l6))>n14))]))) λb15=>
Aj b15 (
Ac T.a7 a2 (Bz false 0)<|
BA T.a7 a2 λb16 n17=>
Ak 0 [Bz b16 n17,.bool false])<|
AP T.a13 a1 3 λn18=>
AP T.a13 a0 2 λn19=>
B1 ((n18 == n19)=true) T.a37 a1 6 λl20=>
Ao ((n18 == n19)=true) T.a13 a0 3 λn21=>
Aj (n18 == n19 && (An l20) == n21) (
AP T.a14 a0 4 λn22=>
Ac T.a7 a2 (Bz true n22)<|
BA T.a7 a2 λb23 n24=>
Ak 0 [Bz b23 n24,.bool true])<|
Ac T.a7 a2 (.agg #[.bool true,Aa (-1)])<|
BA T.a7 a2 λb25 n26=>
Ak 0 [Bz b25 n26,.bool true]
theorem ztx (r_0 r_1 r_2 r_3 r_4 r_5 r_6 b_0 b_1 b_2 b_3 b_4 b_5:Int) (b_6:Sl):FnS (z07y r_0 r_1 r_2 r_3 r_4 r_5 r_6 b_0 b_1 b_2 b_3 b_4 b_5 b_6) F.a22 #[.agg #[.int .i64 r_0,.int .i64 r_1,.int .i64 r_2,.int .i64 r_3,.int .i64 r_4,.int .i64 r_5,.int .i64 r_6],.agg #[.int .i64 b_0,.int .i64 b_1,.int .i64 b_2,.int .i64 b_3,.int .i64 b_4,.int .i64 b_5,.slice b_6.a b_6.len b_6.cap]]:=dV ⟨[],[],[(1,[(21,.one .bool)])],[]⟩ Go.Proofs.Tryz.func307 (by kernel_rfl)
def z07w (t:Option Addr) (r_0 r_1 r_2 r_3 r_4 r_5 r_6:Int) (there:Bool) (b_0 b_1 b_2 b_3 b_4 b_5:Int) (b_6:Sl):Prog :=
Ai T.a5 (B3 r_0 r_1 r_2 r_3 r_4 r_5 r_6) λa0=>
Ai T.a0 (Ba b_0 b_1 b_2 b_3 b_4 b_5 b_6) λa1=>
B6 T.a5 a0 λn2 n3 n4 n5 n6 n7 n8=>
AA F.a15 [B3 n2 n3 n4 n5 n6 n7 n8] λn9=>
Af n9 λn10=>
AP T.a13 a1 2 λn11=>
AP T.a13 a0 1 λn12=>
Ay 1 (
Aj (decide (n11>n12)) (
Ak 1 [Aa 0])<|
Ak 1 [Aa n10]) λn13=>
B6 T.a5 a0 λn14 n15 n16 n17 n18 n19 n20=>
Av F.a16 [B3 n14 n15 n16 n17 n18 n19 n20] λb21=>
Ao (b21=true) T.a13 a1 2 λn22=>
Ao (b21=true) T.a13 a0 1 λn23=>
Ao (b21=true/\decide (n22>n23)=false) T.a13 a1 4 λn24=>
AS (b21 && (decide (n22>n23) || n24 == 0)) (
Ak 0 [Aa 22])<|
Bb T.a0 a1 λn26 n27 n28 n29 n30 n31 l32=>
Av F.a23 [Ba n26 n27 n28 n29 n30 n31 l32] λb33=>
Ao (not b33=true) T.a13 a1 3 λn34=>
AS (not b33 && n34 != n13) (
Ak 0 [Aa 21])<|
AC<|
Bk (not there=true) t λa37=>
BC (not there=true) T.a20 a37 2 λm38=>
BD (not there=true) (Builtin.len_ #[T.a20] T.a13 #[.map m38]) λn39=>
Bk (not there=true) t λa41=>
Ao (not there=true) T.a13 a41 0 λn42=>
Ax (not there && decide (n39>=n42)) λb43=>
AG<|
Aj b43 (
Ak 0 [Aa 5])<|
Ak 0 [Aa 0]
theorem ztv (t:Option Addr) (r_0 r_1 r_2 r_3 r_4 r_5 r_6:Int) (there:Bool) (b_0 b_1 b_2 b_3 b_4 b_5:Int) (b_6:Sl):FnS (z07w t r_0 r_1 r_2 r_3 r_4 r_5 r_6 there b_0 b_1 b_2 b_3 b_4 b_5 b_6) F.a20 #[.pointer t,.agg #[.int .i64 r_0,.int .i64 r_1,.int .i64 r_2,.int .i64 r_3,.int .i64 r_4,.int .i64 r_5,.int .i64 r_6],.bool there,.agg #[.int .i64 b_0,.int .i64 b_1,.int .i64 b_2,.int .i64 b_3,.int .i64 b_4,.int .i64 b_5,.slice b_6.a b_6.len b_6.cap]]:=dV ⟨[(2097168,[(9,.one (.int .i64))])],[],[],[]⟩ Go.Proofs.Tryz.func308 (by kernel_rfl)
def z08x (v:Option Addr) (b_0 b_1 b_2 b_3 b_4 b_5:Int) (b_6:Sl):Prog :=
Ai T.a0 (Ba b_0 b_1 b_2 b_3 b_4 b_5 b_6) λa0=>
AP T.a14 a0 1 λn1=>
AP T.a13 a0 2 λn2=>
Ab T.a17 λa3=>
Ac T.a17 a3 (Bg n1 n2)<|
Au 1 (
AC<|
AY v λa5=>
Bv T.a22 a5 2 λm6=>
.hold True (ld T.a17 a3) (sG [.int .i64,.int .i64]) (u2 λ(n7 n8:Int)=>
Bw (Instr.lookup T.a22 (.map m6) (Bg n7 n8) true) λn9 n10 n11 n12 b13=>
Ab T.a18 λa14=>
AG<|
Ac T.a18 a14 (Bx n9 n10 n11 n12)<|
Ax b13 λb15=>
AG<|
Ak 1 [.bool b15])) λb16=>
Bu 1 (
AC<|
AY v λa18=>
Bv T.a21 a18 1 λm19=>
AR T.a14 a0 1 λn20=>
Bw (Instr.lookup T.a21 (.map m19) (Aa n20) true) λn21 n22 n23 n24 b25=>
Ab T.a18 λa26=>
AG<|
Ac T.a18 a26 (Bx n21 n22 n23 n24)<|
Ax b25 λb27=>
AG<|
Ak 1 [Ar a26,.bool b27]) λa28 b29=>
AS b16 (
Ak 0 [Aa 20])<|
BE (b29=true) (ld T.a17 (Addr.add a28 0)) λn31 n32=>
BE (b29=true) (ld T.a17 a3) λn33 n34=>
AS (b29 && not (n31 == n33 && n32 == n34)) (
Ak 0 [Aa 22])<|
AP T.a13 a0 4 λn36=>
Bk ((n36 == 1 && not b29)=true) v λa38=>
BC ((n36 == 1 && not b29)=true) T.a21 a38 1 λm39=>
BD ((n36 == 1 && not b29)=true) (Builtin.len_ #[T.a21] T.a13 #[.map m39]) λn40=>
AS (n36 == 1 && not b29 && decide (n40>=1024)) (
Ak 0 [Aa 5])<|
AP T.a13 a0 4 λn42=>
Bk ((n42 == 3 && b29)=true) v λa44=>
BC ((n42 == 3 && b29)=true) T.a22 a44 2 λm45=>
BD ((n42 == 3 && b29)=true) (Builtin.len_ #[T.a22] T.a13 #[.map m45]) λn46=>
AS (n42 == 3 && b29 && decide (n46>=4096)) (
Ak 0 [Aa 5])<|
Ak 0 [Aa 0]
theorem zuy (v:Option Addr) (b_0 b_1 b_2 b_3 b_4 b_5:Int) (b_6:Sl):FnS (z08x v b_0 b_1 b_2 b_3 b_4 b_5 b_6) F.a63 #[.pointer v,.agg #[.int .i64 b_0,.int .i64 b_1,.int .i64 b_2,.int .i64 b_3,.int .i64 b_4,.int .i64 b_5,.slice b_6.a b_6.len b_6.cap]]:=dV ⟨[],[],[(2,[(7,.one .bool)]),(3,[(8,.one .adr),(9,.one .bool)])],[]⟩ Go.Proofs.Tryz.func309 (by kernel_rfl)
def z08s (a_0 a_1 a_2 a_3 b_0 b_1 b_2:Int) (b_3:Int):Prog :=
Ai T.a15 (Bx a_0 a_1 a_2 a_3) λa0=>
Ai T.a15 (Bx b_0 b_1 b_2 b_3) λa1=>
AP T.a14 a0 3 λn2=>
AP T.a14 a1 3 λn3=>
AA F.a1 [Aa n2,Aa n3] λn4=>
Af n4 λn5=>
Ak 0 [Aa n5]
theorem zur (a_0 a_1 a_2 a_3 b_0 b_1 b_2 b_3:Int):FnS (z08s a_0 a_1 a_2 a_3 b_0 b_1 b_2 b_3) F.a55 #[.agg #[.int .i64 a_0,.int .i64 a_1,.int .i64 a_2,.int .i64 a_3],.agg #[.int .i64 b_0,.int .i64 b_1,.int .i64 b_2,.int .i64 b_3]]:=dV ⟨[],[],[],[]⟩ Go.Proofs.Tryz.func342 (by kernel_rfl)
def z08c (room:Int):Prog :=
Aj (decide (room<0) || decide (room>4194304)) (
Ak 0 [Ah none,Aa 2])<|
.act (Instr.makeMap T.a23 none) sM (u1 λm0=>
Ai T.a8 (.agg #[Aa (-1),.bool false,Aa room,Aa 0,.map m0]) λa1=>
Ak 0 [Ar a1,Aa 0])
theorem zub (room:Int):FnS (z08c room) F.a37 #[.int .i64 room]:=dV ⟨[],[],[],[]⟩ Go.Proofs.Tryz.func12 (by kernel_rfl)
def z086 (d:Option Addr) (name:ByteArray):Prog :=
.call F.a33 [Ah d,.string name] (sG [.slc,.int .i64]) (u2 λl0 (n1:Int)=>
Af (An l0) λn2=>
Ak 0 [Aa n2])
theorem zu5 (d:Option Addr) (name:ByteArray):FnS (z086 d name) F.a31 #[.pointer d,.string name]:=dV ⟨[],[],[],[]⟩ Go.Proofs.Tryz.func120 (by kernel_rfl)
def z085 (d:Option Addr) (name:ByteArray):Prog :=
AA F.a35 [Ah d] λn0=>
Af n0 λn1=>
Aj (n1 != 0) (
Af n1 λn2=>
Ak 0 [Aa n2])<|
AY d λa4=>
B4 T.a23 a4 4 λm5=>
BF (Instr.lookup T.a23 (.map m5) (.string name) false) λp6=>
Aj (Option.isNone p6) (
Ak 0 [Aa 3])<|
Bh F.a34 [Ah d,.string name]<|
AY d λa8=>
Bh F.a38 [BG a8 0]<|
Ak 0 [Aa 0]
theorem zu4 (d:Option Addr) (name:ByteArray):FnS (z085 d name) F.a30 #[.pointer d,.string name]:=dV ⟨[],[],[],[]⟩ Go.Proofs.Tryz.func123 (by kernel_rfl)
def z012 (x:Int):Prog :=
AA F.a76 [.int .u64 x] λn0=>
Af n0 λn1=>
Ak 0 [Aa n1]
theorem zhw (x:Int):FnS (z012 x) F.a75 #[.int .u64 x]:=dV ⟨[],[],[],[]⟩ Go.Proofs.Tryz.func166 (by kernel_rfl)
def z083 (d:Option Addr):Prog :=
Bk (Option.isNone d=false) d λa1=>
AX (Option.isNone d=false) T.a3 (Addr.add a1 0) 1 λb2=>
Ax (Option.isNone d || b2) λb3=>
Ak 0 [.bool b3]
theorem zu2 (d:Option Addr):FnS (z083 d) F.a27 #[.pointer d]:=dV ⟨[],[],[],[]⟩ Go.Proofs.Tryz.func171 (by kernel_rfl)
def z088 (d:Option Addr) (name:ByteArray):Prog :=
Ab T.a9 λa0=>
Bk (Option.isNone d=false) d λa2=>
BC (Option.isNone d=false) T.a23 a2 4 λm3=>
.read (Option.isNone d=false) (Instr.lookup T.a23 (.map m3) (.string name) false) sP (u1 λp4=>
Aj (Option.isNone d || Option.isNone p4) (
Ac T.a9 a0 (.agg #[.slice none 0 0,Aa 0])<|
BH T.a9 a0 λl5 n6=>
Ak 0 [BI l5 n6])<|
AY d λa8=>
B4 T.a23 a8 4 λm9=>
BF (Instr.lookup T.a23 (.map m9) (.string name) false) λp10=>
AY p10 λa12=>
BH T.a9 a12 λl13 n14=>
Ac T.a9 a0 (BI l13 n14)<|
BH T.a9 a0 λl15 n16=>
Ak 0 [BI l15 n16])
theorem zu7 (d:Option Addr) (name:ByteArray):FnS (z088 d name) F.a33 #[.pointer d,.string name]:=dV ⟨[],[],[],[]⟩ Go.Proofs.Tryz.func177 (by kernel_rfl)
def z084 (d:Option Addr) (name:ByteArray):Prog :=
Aj (Option.isNone d) (
Ak 0 [.slice none 0 0,Aa 1])<|
AY d λa1=>
B4 T.a23 a1 4 λm2=>
BF (Instr.lookup T.a23 (.map m2) (.string name) false) λp3=>
Aj (Option.isNone p3) (
Ak 0 [.slice none 0 0,Aa 3])<|
AY p3 λa5=>
AI T.a45 a5 0 λl6=>
AT F.a0 [l6.v] λl7=>
Ak 0 [l7.v,Aa 0]
theorem zu3 (d:Option Addr) (name:ByteArray):FnS (z084 d name) F.a29 #[.pointer d,.string name]:=dV ⟨[],[],[],[]⟩ Go.Proofs.Tryz.func178 (by kernel_rfl)
def z08a (d:Option Addr):Prog :=
AS (Option.isNone d) (
Ak 0 [Aa 1])<|
AY d λa2=>
Bp T.a3 (Addr.add a2 0) 1 λb3=>
AS b3 (
Ak 0 [Aa 9])<|
Ak 0 [Aa 0]
theorem zu9 (d:Option Addr):FnS (z08a d) F.a35 #[.pointer d]:=dV ⟨[],[],[],[]⟩ Go.Proofs.Tryz.func179 (by kernel_rfl)
def z089 (d:Option Addr) (name:ByteArray):Prog :=
AY d λa1=>
B4 T.a23 a1 4 λm2=>
BF (Instr.lookup T.a23 (.map m2) (.string name) false) λp3=>
Al 1 (
Aj (not (Option.isNone p3)) (
AC<|
AY d λa5=>
AP T.a13 a5 3 λn6=>
AY p3 λa8=>
AI T.a45 a8 0 λl9=>
AY d λa11=>
AH T.a13 a11 3 (Aa (Aw (n6-(An l9))))<|
AG<|
AY d λa13=>
B4 T.a23 a13 4 λm14=>
B7 (Builtin.delete_ #[T.a23,T.a49] T.a53 #[.map m14,.string name])<|
Ak 1 [])<|
Ak 1 [])<|
Ak 0 []
theorem zu8 (d:Option Addr) (name:ByteArray):FnS (z089 d name) F.a34 #[.pointer d,.string name]:=dV ⟨[(4398012956684,[])],[],[],[]⟩ Go.Proofs.Tryz.func180 (by kernel_rfl)
def z08d (p:Option Addr):Prog :=
AY p λa1=>
AP T.a13 a1 0 λn2=>
Al 1 (
Aj (decide (n2>0)) (
AY p λa4=>
AP T.a13 a4 0 λn5=>
AY p λa7=>
AH T.a13 a7 0 (Aa (Aw (n5-1)))<|
AY p λa9=>
AP T.a13 a9 0 λn10=>
AY p λa12=>
AH T.a3 a12 1 (.bool (n10 == 0))<|
Ak 1 [])<|
Ak 1 [])<|
Ak 0 []
theorem zuc (p:Option Addr):FnS (z08d p) F.a38 #[.pointer p]:=dV ⟨[(17179344902,[])],[],[],[]⟩ Go.Proofs.Tryz.func181 (by kernel_rfl)
def z02o (n:Int) (f:Value):Prog :=
Af n λn0=>
Ay 1 (
Bd 2 (0,(n0,())) λn1 n2=>
Aj (decide (n1<n2)) (
Af (Aw (Int.fdiv (IntKind.wrap .u64 (Aw (n1+n2))) 2)) λn3=>
.callv (f) [Aa n3] sB (u1 λb4=>
AQ 3 (
Aj (not b4) (
Af (Aw (n3+1)) λn5=>
Ak 3 [Aa n5,Aa n2])<|
Af n3 λn6=>
Ak 3 [Aa n1,Aa n6]) λn7 n8=>
Ak 2 [Aa n7,Aa n8]))<|
Ak 1 [Aa n1]) λn9=>
Af n9 λn10=>
Ak 0 [Aa n10]
theorem zp5 (n:Int) (f:Value) {w:World} {R:List Value->World->Prop} (h:(z02o n f).wp P (λ_=>True) w λe vs w'=>e=0/\R vs w'):Ret P F.a151 #[.int .i64 n,f] w R:=dS (n:=26) (rv:=[.tmp 4]) { cnd:=[(120259477525,[(5,.one (.int .i64)),(6,.one (.int .i64))])],blk:=[(0,[(5,.one (.int .i64))])],reg:=[],lps:=[(0,[(5,.one (.int .i64)),(6,.one (.int .i64))])] } [.val (.int .i64 n),.any f] Go.Proofs.Tryz.func194 (by kernel_rfl) (by kernel_rfl) (by kernel_rfl) (by kernel_rfl) h
def z080 (d:Option Addr) (name:ByteArray) (parts:Sl):Prog :=
AA F.a35 [Ah d] λn0=>
Af n0 λn1=>
Aj (n1 != 0) (
Af n1 λn2=>
Ak 0 [Aa n2])<|
Av F.a36 [.string name] λb3=>
Aj (not b3) (
Ak 0 [Aa 2])<|
Ay 1 (
Bd 2 (0,(0,())) λn4 n5=>
Aj (decide (n5<(An parts))) (
.ex [.adr] (c1 λa6=>0<=n5/\n5<(An parts)/\parts.a=some a6) (u1 λa7=>
AI T.a45 a7 (Int.toNat n5*1) λl8=>
AA F.a26 [Ah d] λn9=>
Aj (decide ((An l8)>Aw (n9-n4))) (
Ak 0 [Aa 5])<|
Af (Aw (n4+(An l8))) λn10=>
Ak 2 [Aa n10,Aa (Aw (n5+1))]))<|
Ak 1 [Aa n4]) λn11=>
AY d λa13=>
B4 T.a23 a13 4 λm14=>
.read True (Instr.lookup T.a23 (.map m14) (.string name) true) (.tup [.one .ptr,.one .bool]) (u2 λp15 b16=>
Ax b16 λb17=>
.bind 1 [.one .ptr] (
Aj (not b17) (
AY d λa19=>
B4 T.a23 a19 4 λm20=>
.read True (Builtin.len_ #[T.a23] T.a13 #[.map m20]) (sI .i64) (u1 λ(n21:Int)=>
Aj (decide (n21>=128)) (
Ak 0 [Aa 5])<|
Ai T.a9 (.agg #[.slice none 0 0,Aa 0]) λa22=>
AY d λa24=>
B4 T.a23 a24 4 λm25=>
B5 (Instr.mapUpdate T.a23 (.map m25) (.string name) (Ar a22))<|
Ak 1 [Ar a22]))<|
Ak 1 [Ah p15]) (u1 λp26=>
Al 1 (
Am 2 (0,()) λn27=>
Aj (decide (n27<(An parts))) (
.ex [.adr] (c1 λa28=>0<=n27/\n27<(An parts)/\parts.a=some a28) (u1 λa29=>
AI T.a45 a29 (Int.toNat n27*1) λl30=>
AY p26 λa32=>
AI T.a45 a32 0 λl33=>
AO (app T.a45 T.a45 T.a45 l33.v l30.v) λl34=>
AY p26 λa36=>
AH T.a45 a36 0 l34.v<|
Ak 2 [Aa (Aw (n27+1))]))<|
Ak 1 [])<|
AY d λa38=>
AP T.a13 a38 3 λn39=>
AY d λa41=>
AH T.a13 a41 3 (Aa (Aw (n39+n11)))<|
AY d λa43=>
Bh F.a38 [BG a43 0]<|
Ak 0 [Aa 0]))
theorem ztz (d:Option Addr) (name:ByteArray) (parts:Sl):FnS (z080 d name parts) F.a24 #[.pointer d,.string name,.slice parts.a parts.len parts.cap]:=dV ⟨[(604426016319167176900660,[(11,.one .ptr)])],[(0,[(8,.one (.int .i64))]),(2,[])],[],[(0,[(8,.one (.int .i64)),(26,.one (.int .i64))]),(2,[(69,.one (.int .i64))])]⟩ Go.Proofs.Tryz.func219 (by kernel_rfl)
def z087 (d:Option Addr) (names:Sl):Prog :=
AA F.a35 [Ah d] λn0=>
Af n0 λn1=>
Aj (n1 != 0) (
Af n1 λn2=>
Ak 0 [Aa n2])<|
Al 1 (
Am 2 (0,()) λn3=>
Aj (decide (n3<(An names))) (
.ex [.adr] (c1 λa4=>0<=n3/\n3<(An names)/\names.a=some a4) (u1 λa5=>
AD T.a49 a5 (Int.toNat n3*1) λs6=>
AU s6 λs7=>
AY d λa9=>
B4 T.a23 a9 4 λm10=>
BF (Instr.lookup T.a23 (.map m10) (.string s7) false) λp11=>
Aj (Option.isNone p11) (
Ak 0 [Aa 3])<|
Ak 2 [Aa (Aw (n3+1))]))<|
Ak 1 [])<|
AJ 1 (
Aj ((An names) == 0) (
AT F.a28 [Ah d,.string (ByteArray.mk #[])] λl12=>
Ak 1 [l12.v])<|
Ak 1 [names.v]) λl13=>
Al 1 (
Am 2 (0,()) λn14=>
Aj (decide (n14<(An l13))) (
.ex [.adr] (c1 λa15=>0<=n14/\n14<(An l13)/\l13.a=some a15) (u1 λa16=>
AD T.a49 a16 (Int.toNat n14*1) λs17=>
AU s17 λs18=>
AY d λa20=>
B4 T.a23 a20 4 λm21=>
BF (Instr.lookup T.a23 (.map m21) (.string s18) false) λp22=>
AY p22 λa24=>
AI T.a45 a24 0 λl25=>
AY p22 λa27=>
AH T.a13 a27 1 (Aa (An l25))<|
Ak 2 [Aa (Aw (n14+1))]))<|
Ak 1 [])<|
AY d λa29=>
Bh F.a38 [BG a29 0]<|
Ak 0 [Aa 0]
theorem zu6 (d:Option Addr) (names:Sl):FnS (z087 d names) F.a32 #[.pointer d,.slice names.a names.len names.cap]:=dV ⟨[(105553116274720,[(1,.one .slc)])],[(0,[]),(2,[])],[],[(0,[(18,.one (.int .i64))]),(2,[(37,.one (.int .i64))])]⟩ Go.Proofs.Tryz.func220 (by kernel_rfl)
def z013 (x:Int):Prog :=
BJ 1 (
Aj (decide (x>=4294967296)) (
Bt (Int.fdiv x 4294967296) λn0=>
Ak 1 [.int .u64 n0,Aa 32])<|
Ak 1 [.int .u64 x,Aa 0]) λn1 n2=>
BJ 1 (
Aj (decide (n1>=65536)) (
Bt (Int.fdiv n1 65536) λn3=>
Af (Aw (n2+16)) λn4=>
Ak 1 [.int .u64 n3,Aa n4])<|
Ak 1 [.int .u64 n1,Aa n2]) λn5 n6=>
BJ 1 (
Aj (decide (n5>=256)) (
Bt (Int.fdiv n5 256) λn7=>
Af (Aw (n6+8)) λn8=>
Ak 1 [.int .u64 n7,Aa n8])<|
Ak 1 [.int .u64 n5,Aa n6]) λn9 n10=>
.must (0<=IntKind.wrap .u8 n9/\IntKind.wrap .u8 n9<256) <|
Af (Aw (n10+Aw (bt (ByteArray.mk #[0,1,2,2,3,3,3,3,4,4,4,4,4,4,4,4,5,5,5,5,5,5,5,5,5,5,5,5,5,5,5,5,6,6,6,6,6,6,6,6,6,6,6,6,6,6,6,6,6,6,6,6,6,6,6,6,6,6,6,6,6,6,6,6,7,7,7,7,7,7,7,7,7,7,7,7,7,7,7,7,7,7,7,7,7,7,7,7,7,7,7,7,7,7,7,7,7,7,7,7,7,7,7,7,7,7,7,7,7,7,7,7,7,7,7,7,7,7,7,7,7,7,7,7,7,7,7,7,8,8,8,8,8,8,8,8,8,8,8,8,8,8,8,8,8,8,8,8,8,8,8,8,8,8,8,8,8,8,8,8,8,8,8,8,8,8,8,8,8,8,8,8,8,8,8,8,8,8,8,8,8,8,8,8,8,8,8,8,8,8,8,8,8,8,8,8,8,8,8,8,8,8,8,8,8,8,8,8,8,8,8,8,8,8,8,8,8,8,8,8,8,8,8,8,8,8,8,8,8,8,8,8,8,8,8,8,8,8,8,8,8,8,8,8,8,8,8,8,8,8,8,8,8,8,8,8]) (IntKind.wrap .u8 n9)))) λn11=>
Ak 0 [Aa n11]
theorem zhx (x:Int):FnS (z013 x) F.a76 #[.int .u64 x]:=dV ⟨[(413700,[(0,.one (.int .u64)),(2,.one (.int .i64))]),(31477768,[(0,.one (.int .u64)),(2,.one (.int .i64))]),(2013286414,[(0,.one (.int .u64)),(2,.one (.int .i64))])],[],[],[]⟩ Go.Proofs.Tryz.func239 (by kernel_rfl)
def z081 (d:Option Addr) (name:ByteArray) (n:Int):Prog :=
AA F.a35 [Ah d] λn0=>
Af n0 λn1=>
Aj (n1 != 0) (
Af n1 λn2=>
Ak 0 [Aa n2])<|
AY d λa4=>
B4 T.a23 a4 4 λm5=>
BF (Instr.lookup T.a23 (.map m5) (.string name) false) λp6=>
AS (Option.isNone p6) (
Ak 0 [Aa 3])<|
Bk (decide (n<0)=false) p6 λa9=>
B1 (decide (n<0)=false) T.a45 a9 0 λl10=>
AS (decide (n<0) || decide (n>(An l10))) (
Ak 0 [Aa 2])<|
AC<|
AY d λa13=>
AP T.a13 a13 3 λn14=>
AY p6 λa16=>
AI T.a45 a16 0 λl17=>
AY d λa19=>
AH T.a13 a19 3 (Aa (Aw (n14-Aw ((An l17)-n))))<|
AG<|
AY p6 λa21=>
AI T.a45 a21 0 λl22=>
.must (0<=n/\n<=n/\n<=((l22.cap:Nat):Int)) <|
AY p6 λa24=>
AH T.a45 a24 0 (.slice l22.a (Int.toNat n) (Int.toNat n))<|
AY p6 λa26=>
AP T.a13 a26 1 λn27=>
AY p6 λa29=>
AH T.a13 a29 1 (Aa (if n<n27 then n else n27))<|
AY d λa31=>
Bh F.a38 [BG a31 0]<|
Ak 0 [Aa 0]
theorem zu0 (d:Option Addr) (name:ByteArray) (n:Int):FnS (z081 d name n) F.a25 #[.pointer d,.string name,.int .i64 n]:=dV ⟨[],[],[],[]⟩ Go.Proofs.Tryz.func251 (by kernel_rfl)
def z02l (x:Sl) (cmp:Value):Prog :=
Af (An x) λn0=>
AA F.a75 [.int .u64 (IntKind.wrap .u64 n0)] λn1=>
Bh F.a148 [x.v,Aa 0,Aa n0,Aa n1,cmp]<|
Ak 0 []
theorem zp2 (x:Sl) (cmp:Value) {w:World} {R:List Value->World->Prop} (h:(z02l x cmp).wp P (λ_=>True) w λe vs w'=>e=0/\R vs w'):Ret P F.a139 #[.slice x.a x.len x.cap,cmp] w R:=dS (n:=14) (rv:=[]) { cnd:=[],blk:=[],reg:=[],lps:=[] } [.val (.slice x.a x.len x.cap),.any cmp] Go.Proofs.Tryz.func266 (by kernel_rfl) (by kernel_rfl) (by kernel_rfl) (by kernel_rfl) h
def zf1 (x:Int) (y:Int):Prog :=
Av F.a2 [Aa x] λb0=>
Ax b0 λb1=>
Av F.a2 [Aa y] λb2=>
Ax b2 λb3=>
Aj b1 (
Aj b3 (
Ak 0 [Aa 0])<|
Ak 0 [Aa (-1)])<|
Aj b3 (
Ak 0 [Aa 1])<|
Aj (decide (x<y)) (
Ak 0 [Aa (-1)])<|
Aj (decide (x>y)) (
Ak 0 [Aa 1])<|
Ak 0 [Aa 0]
theorem zy4 (x y:Int):FnS (zf1 x y) F.a1 #[.int .i64 x,.int .i64 y]:=dV ⟨[],[],[],[]⟩ Go.Proofs.Tryz.func268 (by kernel_rfl)
def z08b (s:ByteArray):Prog :=
Aj (decide (((ByteArray.size s:Nat):Int)<1) || decide (((ByteArray.size s:Nat):Int)>24)) (
Ak 0 [.bool false])<|
AO (convert T.a49 T.a45 (.string s)) λl0=>
Al 1 (
Am 2 (0,()) λn1=>
Aj (decide (n1<(An l0))) (
.ex [.adr] (c1 λa2=>0<=n1/\n1<(An l0)/\l0.a=some a2) (u1 λa3=>
BK T.a52 a3 (Int.toNat n1*1) λn4=>
BL n4 λn5=>
Ax (decide (n5>=97) && decide (n5<=122)) λb6=>
Ax (decide (n5>=48) && decide (n5<=57)) λb7=>
Aj (not b6 && not b7 && n5 != 46 && n5 != 45) (
Ak 0 [.bool false])<|
Ak 2 [Aa (Aw (n1+1))]))<|
Ak 1 [])<|
Ak 0 [.bool true]
theorem zua (s:ByteArray):FnS (z08b s) F.a36 #[.string s]:=dV ⟨[],[(0,[])],[],[(0,[(18,.one (.int .i64))])]⟩ Go.Proofs.Tryz.func281 (by kernel_rfl)
def z082 (d:Option Addr):Prog :=
Aj (Option.isNone d) (
Ak 0 [Aa 0])<|
AC<|
AY d λa1=>
AP T.a13 a1 2 λn2=>
AY d λa4=>
AP T.a13 a4 3 λn5=>
Af (if 0>Aw (n2-n5) then 0 else Aw (n2-n5)) λn6=>
AG<|
Ak 0 [Aa n6]
theorem zu1 (d:Option Addr):FnS (z082 d) F.a26 #[.pointer d]:=dV ⟨[],[],[],[]⟩ Go.Proofs.Tryz.func282 (by kernel_rfl)
def zf73 (m:Option Nat):Prog :=
Ai T.a23 (.map m) λa0=>
Ak 0 [.func (Fn.func 324) #[] #[Ar a0]]
theorem zf73_calls (m:Option Nat):FnS (zf73 m) F.a74 #[.map m]:=dV ⟨[],[],[],[]⟩ Go.Proofs.Tryz.func292 (by kernel_rfl)
def zf147 (s:ByteArray) (prefix_:ByteArray):Prog :=
Av F.a52 [.string s,.string prefix_] λb0=>
Ax b0 λb1=>
Ak 0 [.bool b1]
theorem zf147_calls (s prefix_:ByteArray):FnS (zf147 s prefix_) F.a152 #[.string s,.string prefix_]:=dV ⟨[],[],[],[]⟩ Go.Proofs.Tryz.func293 (by kernel_rfl)
def z02n (data:Sl) (a b limit:Int) (cmp:Value):Prog :=
.loop 1 [.one (.int .i64),.one (.int .i64),.one (.int .i64),.one .bool,.one .bool] (a,(b,(limit,(true,(true,()))))) (u5 λ(n0 n1 n2:Int) b3 b4=>
.bind 2 [.one (.int .i64),.one (.int .i64),.one (.int .i64),.one .bool,.one .bool] (
Af (Aw (n1-n0)) λn5=>
Aj (decide (n5<=12)) (
Bh F.a144 [data.v,Aa n0,Aa n1,cmp]<|
Ak 0 [])<|
Aj (n2 == 0) (
Bh F.a143 [data.v,Aa n0,Aa n1,cmp]<|
Ak 0 [])<|
Ay 3 (
Aj (not b3) (
Bh F.a141 [data.v,Aa n0,Aa n1,cmp]<|
Af (Aw (n2-1)) λn6=>
Ak 3 [Aa n6])<|
Ak 3 [Aa n2]) λn7=>
As F.a142 [data.v,Aa n0,Aa n1,cmp] λn8 n9=>
Af n8 λn10=>
Af n9 λn11=>
AQ 3 (
Aj (n11 == 2) (
Bh F.a149 [data.v,Aa n0,Aa n1,cmp]<|
Af (Aw (Aw (n1-1)-Aw (n10-n0))) λn12=>
Ak 3 [Aa n12,Aa 1])<|
Ak 3 [Aa n10,Aa n11]) λn13 n14=>
Al 3 (
Aj (b3 && b4 && n14 == 1) (
Av F.a145 [data.v,Aa n0,Aa n1,cmp] λb15=>
Aj b15 (
Ak 0 [])<|
Ak 3 [])<|
Ak 3 [])<|
Au 3 (
AC<|
.ex [.adr] (c1 λa16=>decide (n0>0)=true->0<=Aw (n0-1)/\Aw (n0-1)<(An data)/\data.a=some a16) (u1 λa17=>
BM (decide (n0>0)=true) T.a15 a17 (Int.toNat (Aw (n0-1))*4) λn18 n19 n20 n21=>
.ex [.adr] (c1 λa22=>decide (n0>0)=true->0<=n13/\n13<(An data)/\data.a=some a22) (u1 λa23=>
BM (decide (n0>0)=true) T.a15 a23 (Int.toNat n13*4) λn24 n25 n26 n27=>
Aj (decide (n0>0)) (
.callv (cmp) [Bx n18 n19 n20 n21,Bx n24 n25 n26 n27] (sI .i64) (u1 λ(n28:Int)=>
AG<|
Ak 3 [.bool (not (decide (n28<0)))]))<|
AG<|
Ak 3 [.bool false]))) λb29=>
Aj b29 (
AA F.a147 [data.v,Aa n0,Aa n1,Aa n13,cmp] λn30=>
Af n30 λn31=>
Af n31 λn32=>
Ak 2 [Aa n32,Aa n1,Aa n7,.bool b3,.bool b4])<|
Bq F.a146 [data.v,Aa n0,Aa n1,Aa n13,cmp] λn33 b34=>
Af n33 λn35=>
Ax b34 λb36=>
Ax b36 λb37=>
Af (Aw (n35-n0)) λn38=>
Af (Aw (n1-n35)) λn39=>
Af (Aw (Int.tdiv n5 8)) λn40=>
.bind 3 [.one (.int .i64),.one (.int .i64),.one .bool] (
Aj (decide (n38<n39)) (
Ax (decide (n38>=n40)) λb41=>
Bh F.a148 [data.v,Aa n0,Aa n35,Aa n7,cmp]<|
Af (Aw (n35+1)) λn42=>
Ak 3 [Aa n42,Aa n1,.bool b41])<|
Ax (decide (n39>=n40)) λb43=>
Bh F.a148 [data.v,Aa (Aw (n35+1)),Aa n1,Aa n7,cmp]<|
Af n35 λn44=>
Ak 3 [Aa n0,Aa n44,.bool b43]) (u3 λ(n45 n46:Int) b47=>
Ak 2 [Aa n45,Aa n46,Aa n7,.bool b47,.bool b37])) (u5 λ(n48 n49 n50:Int) b51 b52=>
Ak 1 [Aa n48,Aa n49,Aa n50,.bool b51,.bool b52]))
theorem zp4 (data:Sl) (a b limit:Int) (cmp:Value) {w:World} {R:List Value->World->Prop} (h:(z02n data a b limit cmp).wp P (λ_=>True) w λe vs w'=>e=0/\R vs w'):Ret P F.a148 #[.slice data.a data.len data.cap,.int .i64 a,.int .i64 b,.int .i64 limit,cmp] w R:=dS (n:=148) (rv:=[]) { cnd:=[(571957152676085799,[(3,.one (.int .i64))]),(1208335523804270569717816,[(13,.one (.int .i64)),(14,.one (.int .i64))]),(9594035304461697130468212811,[]),(1461501288881759191162698246220685009525288231037,[(1,.one (.int .i64)),(2,.one (.int .i64)),(10,.one .bool)])],blk:=[(1,[(1,.one (.int .i64)),(2,.one (.int .i64)),(3,.one (.int .i64)),(10,.one .bool),(11,.one .bool)])],reg:=[(17,[(97,.one .bool)])],lps:=[(0,[(1,.one (.int .i64)),(2,.one (.int .i64)),(3,.one (.int .i64)),(10,.one .bool),(11,.one .bool)])] } [.val (.slice data.a data.len data.cap),.val (.int .i64 a),.val (.int .i64 b),.val (.int .i64 limit),.any cmp] Go.Proofs.Tryz.func312 (by kernel_rfl) (by kernel_rfl) (by kernel_rfl) (by kernel_rfl) h
def zf2 (x:Int):Prog :=
Ax (x != x) λb0=>
Ak 0 [.bool b0]
theorem zy5 (x:Int):FnS (zf2 x) F.a2 #[.int .i64 x]:=dV ⟨[],[],[],[]⟩ Go.Proofs.Tryz.func313 (by kernel_rfl)
def zf51 (s:ByteArray) (prefix_:ByteArray):Prog :=
.must (decide (((ByteArray.size s:Nat):Int)>=((ByteArray.size prefix_:Nat):Int))=true->0<=((ByteArray.size prefix_:Nat):Int)/\((ByteArray.size prefix_:Nat):Int)<=((ByteArray.size s:Nat):Int)) <|
Ax (decide (((ByteArray.size s:Nat):Int)>=((ByteArray.size prefix_:Nat):Int)) && ByteArray.toList (ByteArray.extract s 0 (Int.toNat (((ByteArray.size prefix_:Nat):Int)))) == ByteArray.toList prefix_) λb0=>
Ak 0 [.bool b0]
theorem zf51_calls (s prefix_:ByteArray):FnS (zf51 s prefix_) F.a52 #[.string s,.string prefix_]:=dV ⟨[],[],[],[]⟩ Go.Proofs.Tryz.func325 (by kernel_rfl)
def z02m (data:Sl) (a b:Int) (cmp:Value):Prog :=
Af (Aw (a+1)) λn0=>
Al 1 (
Am 2 (n0,()) λn1=>
Aj (decide (n1<b)) (
Al 3 (
Af n1 λn2=>
Al 4 (
Am 5 (n2,()) λn3=>
Au 6 (
AC<|
.ex [.adr] (c1 λa4=>decide (n3>a)=true->0<=n3/\n3<(An data)/\data.a=some a4) (u1 λa5=>
BM (decide (n3>a)=true) T.a15 a5 (Int.toNat n3*4) λn6 n7 n8 n9=>
.ex [.adr] (c1 λa10=>decide (n3>a)=true->0<=Aw (n3-1)/\Aw (n3-1)<(An data)/\data.a=some a10) (u1 λa11=>
BM (decide (n3>a)=true) T.a15 a11 (Int.toNat (Aw (n3-1))*4) λn12 n13 n14 n15=>
Aj (decide (n3>a)) (
.callv (cmp) [Bx n6 n7 n8 n9,Bx n12 n13 n14 n15] (sI .i64) (u1 λ(n16:Int)=>
AG<|
Ak 6 [.bool (decide (n16<0))]))<|
AG<|
Ak 6 [.bool false]))) λb17=>
Aj b17 (
Al 6 (
AC<|
.ex [.adr] (c1 λa18=>0<=Aw (n3-1)/\Aw (n3-1)<(An data)/\data.a=some a18) (u1 λa19=>
.read True (ld T.a15 (Addr.add a19 (Int.toNat (Aw (n3-1))*4))) (sG [.int .i64,.int .i64,.int .i64,.int .i64]) (u4 λ(n20 n21 n22 n23:Int)=>
.ex [.adr] (c1 λa24=>0<=n3/\n3<(An data)/\data.a=some a24) (u1 λa25=>
.read True (ld T.a15 (Addr.add a25 (Int.toNat n3*4))) (sG [.int .i64,.int .i64,.int .i64,.int .i64]) (u4 λ(n26 n27 n28 n29:Int)=>
.ex [.adr] (c1 λa30=>0<=n3/\n3<(An data)/\data.a=some a30) (u1 λa31=>
AH T.a15 a31 (Int.toNat n3*4) (Bx n20 n21 n22 n23)<|
.ex [.adr] (c1 λa32=>0<=Aw (n3-1)/\Aw (n3-1)<(An data)/\data.a=some a32) (u1 λa33=>
AH T.a15 a33 (Int.toNat (Aw (n3-1))*4) (Bx n26 n27 n28 n29)<|
AG<|
Ak 6 [])))))))<|
Af (Aw (n3-1)) λn34=>
Ak 5 [Aa n34])<|
Ak 4 [])<|
Ak 3 [])<|
Af (Aw (n1+1)) λn35=>
Ak 2 [Aa n35])<|
Ak 1 [])<|
Ak 0 []
theorem zp3 (data:Sl) (a b:Int) (cmp:Value) {w:World} {R:List Value->World->Prop} (h:(z02m data a b cmp).wp P (λ_=>True) w λe vs w'=>e=0/\R vs w'):Ret P F.a144 #[.slice data.a data.len data.cap,.int .i64 a,.int .i64 b,cmp] w R:=dS (n:=53) (rv:=[]) { cnd:=[],blk:=[(0,[]),(1,[]),(2,[])],reg:=[(4,[(34,.one .bool)]),(6,[])],lps:=[(0,[(8,.one (.int .i64))]),(2,[(9,.one (.int .i64))])] } [.val (.slice data.a data.len data.cap),.val (.int .i64 a),.val (.int .i64 b),.any cmp] Go.Proofs.Tryz.func329 (by kernel_rfl) (by kernel_rfl) (by kernel_rfl) (by kernel_rfl) h
end Go.Dec
