/- What the claim of this folder leans on: our own texts, joined, without what it does not use. -/
import Derived.Test.YtlmaipahgknahaaGreatRows
import Derived.WalkKit
import Derived.ProofKit
import Derived.OpenShut
import Derived.RowKit3
import Derived.OrdersHeld
import Derived.Scope
import Derived.KernelRfl
import Derived.Laws.Sem
import Derived.Laws.StructEq
import Derived.Deep.AppendSrc
import Derived.Laws.BytesArg
import Derived.Laws.RangeString
import Derived.Maps.RangeRun
import Derived.Lib.ConvBytes
import Derived.Lib.SlBytesConst
import Derived.ChangeSlices
import Derived.ChangeMaps5
import Derived.ChangeSame
import Derived.Deep.Slices
import Derived.Deep.Fields
import Derived.Test.YtlmaipahgknahaaGreatProg
import Derived.WideKeyRuns
import Derived.DeepKeys3
import Derived.Laws.MakeOwn
import Derived.Sort.MapsRangeIn
import Derived.Sort.KeysCollected
import Derived.RangeFuncNested
import Derived.RangeFuncBound
import Derived.RangeFuncCalls
import Derived.RangeFuncLeaves
import Derived.RangeFuncBox
import Derived.OwnWalkIn
import Derived.TacticsInMore
import Derived.RegionIn
import Derived.LoopNIn
import Derived.LoopIn
import Derived.Maps.AppendAt
import Derived.Shelf.Abstract
import Derived.Shelf.Sort.Plain
import Derived.Shelf.Slices.In.SortNone
import Derived.Test.YtlmaipahgknahaaGreatQWhole1
import Derived.Test.YtlmaipahgknahaaGreatQWhole2
set_option linter.unusedVariables false
set_option linter.unusedSimpArgs false
namespace Go.Dec
theorem dS {f:FuncId} {fn:Func} {n:Nat} {rv:List RV} {p:Prog} {w:World} {R:List Value->World->Prop} (H:Hints) (args:List Base) (hf:P.funcs[f]? = some fn) (hb:fn.body.isSome=true) (hn:fn.ntmps=n) (hr:zaa fn.results.toList=rv) (he:zf5 P n ⟨zh0,[]⟩ H rv (zah fn) args=p) (h:p.wp P (λ_=>True) w λe vs w'=>e=0/\R vs w'):Ret P f (args.map Base.v).toArray w R:=z92 (zgv hf hb hn hr) zh1 mix args (by rw [he];exact h)
abbrev FnS (p:Prog) (f:FuncId) (vs:Array Value):Prop:=∀ {w:World} {R:List Value->World->Prop},p.wp P (λ_=>True) w (λe vs w'=>e=0/\R vs w')->Ret P f vs w R
theorem dV {f:FuncId} {fn:Func} {p:Prog} {vs:List Value} (H:Hints) (hf:P.funcs[f]? = some fn) (he:(fn.body.isSome,zf5 P fn.ntmps ⟨zh0,[]⟩ H (zaa fn.results.toList) (zah fn) (vs.map Base.val))=(true,p)):FnS p f vs.toArray:=λh=>by
 have e:=dS H (vs.map Base.val) hf (congrArg Prod.fst he) rfl rfl (congrArg Prod.snd he) h
 rwa [List.map_map,show Base.v∘Base.val=id from rfl,List.map_id] at e
abbrev Aa (n:Int):Value:=.int .i64 n
abbrev Ab (t:TypeId) (k:Addr->Prog):Prog:=.act (new t) sA (u1 k)
abbrev Ac (t:TypeId) (a:Addr) (v:Value) (k:Prog):Prog:=.actU (st t a v) k
abbrev Ad (x0:Int) (x1:Int) (x2:Int):Value:=.agg #[.int .i64 x0,.int .i64 x1,.int .i64 x2]
abbrev Ae (f:FuncId) (l:List Value) (k:(Option Addr)->Int->Prog):Prog:=.call f l (.tup [.one .ptr,.one (.int .i64)]) (u2 k)
abbrev Af (x:Int) (k:Int->Prog):Prog:=.lt (.int .i64) x k
abbrev Ag (t:TypeId) (a:Addr) (k:Int->Int->Int->Prog):Prog:=.read True (ld t a) (sG [.int .i64,.int .i64,.int .i64]) (u3 k)
abbrev Ah (p:Option Addr):Value:=.pointer p
abbrev Ai (b:Bool) (p q:Prog):Prog:=.ite b p q
abbrev Aj (e:Nat) (l:List Value):Prog:=.done e l
abbrev Ak (e:Nat) (p:Prog) (k:Sl->Prog):Prog:=.bind e [.one .slc] p (u1 k)
abbrev Al (e:Nat) (x:Sl × Int × Unit) (k:Sl->Int->Prog):Prog:=.loop e [.one .slc,.one (.int .i64)] x (u2 k)
abbrev Am (l:Sl):Int:=((l.len:Nat):Int)
abbrev An (t:TypeId) (a:Addr) (i:Nat) (k:Int->Int->Int->Int->Int->Int->Sl->Prog):Prog:=.read True (ld t (Addr.add a i)) (sG [.int .i64,.int .i64,.int .i64,.int .i64,.int .i64,.int .i64,.slc]) (u7 k)
abbrev Ao (x0:Int) (x1:Int) (x2:Int) (x3:Int) (x4:Int) (x5:Int) (x6:Sl):Value:=.agg #[.int .i64 x0,.int .i64 x1,.int .i64 x2,.int .i64 x3,.int .i64 x4,.int .i64 x5,x6.v]
abbrev Ap (f:FuncId) (l:List Value) (k:Int->Int->Int->Int->Int->Int->Sl->Prog):Prog:=.call f l (sG [.int .i64,.int .i64,.int .i64,.int .i64,.int .i64,.int .i64,.slc]) (u7 k)
abbrev Aq (t:TypeId) (a:Addr) (i:Nat) (k:Int->Prog):Prog:=.read True (ld t (Addr.add a i)) (sI .i64) (u1 k)
abbrev Ar (g:Prop) (t:TypeId) (a:Addr) (i:Nat) (k:Int->Prog):Prog:=.read g (ld t (Addr.add a i)) (sI .i64) (u1 k)
abbrev As (e:Nat) (p:Prog) (k:Prog):Prog:=.bind e [] p (u0 k)
abbrev Au (t:TypeId) (a:Addr) (i:Nat) (k:Bool->Prog):Prog:=.read True (ld t (Addr.add a i)) sB (u1 k)
abbrev Av (f:FuncId) (l:List Value) (k:Int->Bool->Int->Prog):Prog:=.call f l (.tup [.one (.int .i64),.one .bool,.one (.int .i64)]) (u3 k)
abbrev Aw (t:TypeId) (a:Addr) (k:Int->Int->Int->Int->Int->Int->Sl->Prog):Prog:=.read True (ld t a) (sG [.int .i64,.int .i64,.int .i64,.int .i64,.int .i64,.int .i64,.slc]) (u7 k)
abbrev Ax (e:Nat) (x:Int × Unit) (k:Int->Prog):Prog:=.loop e [.one (.int .i64)] x (u1 k)
abbrev Ay (k:Prog):Prog:=.tick k
abbrev Az (t:TypeId) (a:Addr) (i:Nat) (k:Int->ByteArray->ByteArray->Bool->Int->Prog):Prog:=.read True (ld t (Addr.add a i)) (sG [.int .i64,.str,.str,.bool,.int .i64]) (u5 k)
abbrev AA (k:Prog):Prog:=.untick k
abbrev AB (n:Int):Int:=IntKind.wrap .i64 n
abbrev AC (f:FuncId) (l:List Value) (k:Sl->Prog):Prog:=.call f l sL (u1 k)
abbrev AD (e:Nat) (p:Prog) (k:Bool->Prog):Prog:=.bind e [.one .bool] p (u1 k)
abbrev AE (g:Prop) (t:TypeId) (a:Addr) (i:Nat) (k:Int->Prog):Prog:=.hold g (ld t (Addr.add a i)) (sI .i64) (u1 k)
abbrev AF (f:FuncId) (l:List Value) (k:Int->Prog):Prog:=.call f l (sI .i64) (u1 k)
abbrev AG (e:Nat) (p:Prog) (k:Int->Prog):Prog:=.bind e [.one (.int .i64)] p (u1 k)
abbrev AH (e:Nat) (x:Int × Int × Unit) (k:Int->Int->Prog):Prog:=.loop e [.one (.int .i64),.one (.int .i64)] x (u2 k)
abbrev AI (g:Prop) (t:TypeId) (a:Addr) (k:Int->Int->Int->Int->Int->Int->Sl->Prog):Prog:=.read g (ld t a) (sG [.int .i64,.int .i64,.int .i64,.int .i64,.int .i64,.int .i64,.slc]) (u7 k)
abbrev AJ (f:FuncId) (l:List Value) (k:Bool->Prog):Prog:=.call f l sB (u1 k)
abbrev AK (g:Prop) (t:TypeId) (a:Addr) (i:Nat) (k:Sl->Prog):Prog:=.read g (ld t (Addr.add a i)) sL (u1 k)
abbrev AL (x:Bool) (k:Bool->Prog):Prog:=.lt (.bool) x k
abbrev AM (t:TypeId) (v:Value) (k:Addr->Prog):Prog:=.act (Instr.box t v) sA (u1 k)
abbrev AN (t:TypeId) (a:Addr) (i:Nat) (k:Int->Int->Prog):Prog:=.read True (ld t (Addr.add a i)) (sG [.int .i64,.int .i64]) (u2 k)
abbrev AO (x0:Int) (x1:Int):Value:=.agg #[.int .i64 x0,.int .i64 x1]
abbrev AP (a:Addr):Value:=.pointer (some a)
abbrev AQ (f:FuncId) (l:List Value) (k:ByteArray->Prog):Prog:=.call f l sS (u1 k)
abbrev AR (f:FuncId) (l:List Value) (k:Prog):Prog:=.call f l (.tup []) (u0 k)
abbrev AS (t:TypeId) (a:Addr) (i:Nat) (v:Value) (k:Prog):Prog:=.actU (st t (Addr.add a i) v) k
abbrev AT (t:TypeId) (a:Addr) (i:Nat) (k:Sl->Prog):Prog:=.read True (ld t (Addr.add a i)) sL (u1 k)
abbrev AU (t:TypeId) (a:Addr) (i:Nat) (k:ByteArray->ByteArray->Bool->Int->Prog):Prog:=.read True (ld t (Addr.add a i)) (sG [.str,.str,.bool,.int .i64]) (u4 k)
abbrev AV (x0:ByteArray) (x1:ByteArray) (x2:Bool) (x3:Int):Value:=.agg #[.string x0,.string x1,.bool x2,.int .i64 x3]
abbrev AW (t:TypeId) (a:Addr) (i:Nat) (k:ByteArray->Prog):Prog:=.read True (ld t (Addr.add a i)) sS (u1 k)
abbrev AX (t:TypeId) (a:Addr) (k:ByteArray->ByteArray->Bool->Int->Prog):Prog:=.read True (ld t a) (sG [.str,.str,.bool,.int .i64]) (u4 k)
abbrev AY (m:Sem Value) (k:Sl->Prog):Prog:=.act m sL (u1 k)
abbrev AZ (x:Bool) (p q:Prog):Prog:=.lt .bool x λb=>.ite b p q
abbrev Ba (s:Option Addr) (k:Addr->Prog):Prog:=.ex [.adr] (c1 λa=>s=some a) (u1 k)
abbrev Bb (t:TypeId) (a:Addr) (i:Nat) (k:(Option Addr)->Prog):Prog:=.read True (ld t (Addr.add a i)) sP (u1 k)
abbrev Bc (f:FuncId) (l:List Value) (k:Sl->Int->Prog):Prog:=.call f l (.tup [.one .slc,.one (.int .i64)]) (u2 k)
abbrev Bd (g:Prop) (s:Option Addr) (k:Addr->Prog):Prog:=.ex [.adr] (c1 λa=>g->s=some a) (u1 k)
abbrev Be (x:ByteArray) (k:ByteArray->Prog):Prog:=.lt (.str) x k
abbrev Bf (f:FuncId) (l:List Value) (k:(Option Addr)->Prog):Prog:=.call f l sP (u1 k)
abbrev Bg (t:TypeId) (a:Addr) (i:Nat) (k:(Option Addr)->Prog):Prog:=.hold True (ld t (Addr.add a i)) sP (u1 k)
abbrev Bh (f:FuncId) (l:List Value) (k:Sl->Bool->Prog):Prog:=.call f l (.tup [.one .slc,.one .bool]) (u2 k)
abbrev Bi (f:FuncId) (l:List Value) (k:Int->Prog):Prog:=.call f l (sI .u64) (u1 k)
abbrev Bj (x:Int) (k:Int->Prog):Prog:=.lt (.int .u64) x k
abbrev Bk (f:FuncId) (l:List Value) (k:Bool->Int->Int->Prog):Prog:=.call f l (.tup [.agg [.bool,.int .i64],.one (.int .i64)]) (u3 k)
abbrev Bl (x0:Bool) (x1:Int):Value:=.agg #[.bool x0,.int .i64 x1]
abbrev Bn (g:Prop) (t:TypeId) (a:Addr) (i:Nat) (k:Bool->Prog):Prog:=.read g (ld t (Addr.add a i)) sB (u1 k)
abbrev Bo (e:Nat) (p:Prog) (k:Int->Int->Prog):Prog:=.bind e [.one (.int .i64),.one (.int .i64)] p (u2 k)
abbrev Bp (f:FuncId) (l:List Value) (k:Int->Int->Prog):Prog:=.call f l (.tup [.one (.int .i64),.one (.int .i64)]) (u2 k)
abbrev Bq (e:Nat) (p:Prog) (k:Addr->Bool->Prog):Prog:=.bind e [.one .adr,.one .bool] p (u2 k)
abbrev Br (t:TypeId) (a:Addr) (i:Nat) (k:(Option Nat)->Prog):Prog:=.hold True (ld t (Addr.add a i)) sM (u1 k)
abbrev Bs (t:TypeId) (a:Addr) (i:Nat) (k:Int->Prog):Prog:=.hold True (ld t (Addr.add a i)) (sI .i64) (u1 k)
abbrev Bt (m:Sem Value) (k:Int->Int->Int->Int->Bool->Prog):Prog:=.hold True m (.tup [.agg [.int .i64,.int .i64,.int .i64,.int .i64],.one .bool]) (u5 k)
abbrev Bu (x0:Int) (x1:Int) (x2:Int) (x3:Int):Value:=.agg #[.int .i64 x0,.int .i64 x1,.int .i64 x2,.int .i64 x3]
abbrev Bv (t:TypeId) (a:Addr) (i:Nat) (k:(Option Nat)->Prog):Prog:=.read True (ld t (Addr.add a i)) sM (u1 k)
abbrev Bw (t:TypeId) (a:Addr) (k:Int->Int->Int->Int->Prog):Prog:=.read True (ld t a) (sG [.int .i64,.int .i64,.int .i64,.int .i64]) (u4 k)
abbrev Bx (t:TypeId) (a:Addr) (k:Bool->Int->Prog):Prog:=.read True (ld t a) (sG [.bool,.int .i64]) (u2 k)
abbrev By (x0:Int) (x1:Int) (x2:Int) (x3:Int) (x4:Int) (x5:Int) (x6:Int):Value:=.agg #[.int .i64 x0,.int .i64 x1,.int .i64 x2,.int .i64 x3,.int .i64 x4,.int .i64 x5,.int .i64 x6]
abbrev Bz (g:Prop) (t:TypeId) (a:Addr) (k:Int->Int->Int->Int->Int->Int->Int->Prog):Prog:=.read g (ld t a) (sG [.int .i64,.int .i64,.int .i64,.int .i64,.int .i64,.int .i64,.int .i64]) (u7 k)
abbrev B0 (t:TypeId) (a:Addr) (k:Int->Int->Int->Int->Int->Int->Int->Prog):Prog:=.read True (ld t a) (sG [.int .i64,.int .i64,.int .i64,.int .i64,.int .i64,.int .i64,.int .i64]) (u7 k)
abbrev B1 (m:Sem Unit) (k:Prog):Prog:=.actU m k
abbrev B2 (g:Prop) (t:TypeId) (a:Addr) (i:Nat) (k:(Option Nat)->Prog):Prog:=.read g (ld t (Addr.add a i)) sM (u1 k)
abbrev B3 (g:Prop) (m:Sem Value) (k:Int->Int->Prog):Prog:=.read g m (sG [.int .i64,.int .i64]) (u2 k)
abbrev B4 (g:Prop) (m:Sem Value) (k:Int->Prog):Prog:=.read g m (sI .i64) (u1 k)
abbrev B5 (a:Addr) (i:Nat):Value:=.pointer (some (Addr.add a i))
abbrev B6 (m:Sem Value) (k:(Option Addr)->Prog):Prog:=.read True m sP (u1 k)
abbrev B7 (t:TypeId) (a:Addr) (i:Nat) (k:Int->Prog):Prog:=.read True (ld t (Addr.add a i)) (sI .u8) (u1 k)
abbrev B8 (x:Int) (k:Int->Prog):Prog:=.lt (.int .u8) x k
abbrev B9 (t:TypeId) (a:Addr) (k:Sl->Int->Prog):Prog:=.read True (ld t a) (sG [.slc,.int .i64]) (u2 k)
abbrev BA (x0:Sl) (x1:Int):Value:=.agg #[x0.v,.int .i64 x1]
abbrev BB (g:Prop) (t:TypeId) (a:Addr) (i:Nat) (k:ByteArray->Prog):Prog:=.read g (ld t (Addr.add a i)) sS (u1 k)
abbrev BC (f:FuncId) (l:List Value) (k:Int->Bool->Prog):Prog:=.call f l (.tup [.one (.int .i64),.one .bool]) (u2 k)
abbrev BD (g:Prop) (t:TypeId) (a:Addr) (i:Nat) (k:Int->Int->Int->Int->Prog):Prog:=.read g (ld t (Addr.add a i)) (sG [.int .i64,.int .i64,.int .i64,.int .i64]) (u4 k)
abbrev BE (f:Value) (l:List Value) (k:Int->Prog):Prog:=.callv f l (sI .i64) (u1 k)
abbrev BF (t:TypeId) (a:Addr) (k:Int->Prog):Prog:=.read True (ld t a) (sI .i64) (u1 k)
abbrev BG (e:Nat) (p:Prog) (k:Int->Int->Prog):Prog:=.bind e [.one (.int .u64),.one (.int .i64)] p (u2 k)
abbrev BH (t:TypeId) (a:Addr) (i:Nat) (k:Int->Int->Int->Int->Prog):Prog:=.read True (ld t (Addr.add a i)) (sG [.int .i64,.int .i64,.int .i64,.int .i64]) (u4 k)
abbrev BI (t:TypeId) (a:Addr) (k:Int->Prog):Prog:=.read True (ld t a) (sI .u64) (u1 k)
abbrev BJ (t:TypeId) (a:Addr) (k:(Option Addr)->Prog):Prog:=.read True (ld t a) sP (u1 k)
abbrev BK (m:Sem Value) (k:Sl->Prog):Prog:=.read True m sL (u1 k)
abbrev BL (f:FuncId) (l:List Value) (k:Sl->Int->Bool->Prog):Prog:=.call f l (.tup [.one .slc,.one (.int .i64),.one .bool]) (u3 k)
abbrev BM (t:TypeId) (p:Option Addr) (k:Int->Prog):Prog:=.read True (Instr.loadAt t (.pointer p)) (sI .i64) (u1 k)
abbrev BN (f:FuncId) (l:List Value) (k:Int->Prog):Prog:=.call f l (sI .u32) (u1 k)
abbrev BO (x:Int) (k:Int->Prog):Prog:=.lt (.int .u32) x k
abbrev BQ (e:Nat) (p:Prog) (k:Int->Prog):Prog:=.bind e [.one (.int .u32)] p (u1 k)
abbrev BR (e:Nat) (x:Int × Int × Unit) (k:Int->Int->Prog):Prog:=.loop e [.one (.int .u32),.one (.int .i64)] x (u2 k)
def z009 (seg:Int) (l:Sl):Prog :=
.call F.a163 [Aa seg,Aa 7] (sG [.int .i64,.int .i64,.int .i64]) (u3 λ(n0 n1 n2:Int)=>
Ab T.a29 λa3=>
Ac T.a29 a3 (Ad n0 n1 n2)<|
Ae F.a31 [Aa 1048576] λp4 n5=>
Af n5 λn6=>
Ag T.a29 a3 λn7 n8 n9=>
Ae F.a67 [Ah p4,.string (ByteArray.mk #[112]),Ad n7 n8 n9] λp10 n11=>
Af n11 λn12=>
Ai (n12 != 0) (
Aj 0 [.bool false])<|
Ak 1 (
Al 2 (⟨none,0,0⟩,(0,())) λl13 n14=>
Ai (decide (n14<(Am l))) (
Ak 3 (
.ex [.adr] (c1 λa15=>0<=n14/\n14<(Am l)/\l.a=some a15) (u1 λa16=>
.read True (ld T.a47 (Addr.add a16 (Int.toNat n14*11))) (sG [.int .i64,.int .i64,.int .i64,.int .i64,.int .i64,.int .i64,.int .i64,.slc,.bool,.int .i64,.int .i64]) (u11 λ(n17 n18 n19 n20 n21 n22 n23:Int) l24 b25 (n26 n27:Int)=>
Ab T.a47 λa28=>
Af n14 λn29=>
Ac T.a47 a28 (.agg #[Aa n17,Aa n18,Aa n19,Aa n20,Aa n21,Aa n22,Aa n23,l24.v,.bool b25,Aa n26,Aa n27])<|
Ai (decide (n29>=30)) (
Aj 1 [l13.v])<|
An T.a0 a28 1 λn30 n31 n32 n33 n34 n35 l36=>
Ap F.a164 [Ao n30 n31 n32 n33 n34 n35 l36] λn37 n38 n39 n40 n41 n42 l43=>
Ab T.a0 λa44=>
Ac T.a0 a44 (Ao n37 n38 n39 n40 n41 n42 l43)<|
Aq T.a12 a28 0 λn45=>
Ar ((n45 == 4)=false) T.a12 a28 0 λn46=>
As 4 (
Ai (n45 == 4 || n46 == 5) (
Aq T.a13 a44 1 λn47=>
Aq T.a12 a44 2 λn48=>
Au T.a3 a28 8 λb49=>
Aq T.a13 a44 5 λn50=>
Av F.a71 [Ah p10,Aa n47,Aa n48,.bool b49,Aa n50] λn51 b52 n53=>
Aj 4 [])<|
Aw T.a0 a44 λn54 n55 n56 n57 n58 n59 l60=>
Av F.a68 [Ah p10,Ao n54 n55 n56 n57 n58 n59 l60] λn61 b62 n63=>
Aj 4 [])<|
.call F.a73 [Ah p10,Aa 0,Aa 1000,.bool true] (.tup [.one .slc,.one (.int .i64),.one (.int .i64)]) (u3 λl64 (n65 n66:Int)=>
Af n65 λn67=>
Af n66 λn68=>
Ai (n68 != 0 || decide ((Am l64)<(Am l13))) (
Aj 0 [.bool false])<|
As 4 (
Ax 5 (0,()) λn69=>
Ai (decide (n69<(Am l13))) (
Af n69 λn70=>
Ay<|
.ex [.adr] (c1 λa71=>0<=n70/\n70<(Am l13)/\l13.a=some a71) (u1 λa72=>
Az T.a31 a72 (Int.toNat n70*5) λn73 s74 s75 b76 n77=>
.ex [.adr] (c1 λa78=>0<=n70/\n70<(Am l64)/\l64.a=some a78) (u1 λa79=>
Az T.a31 a79 (Int.toNat n70*5) λn80 s81 s82 b83 n84=>
AA<|
Ai (not (n73 == n80 && (s74 == s81 && (s75 == s82 && (b76 == b83 && n77 == n84))))) (
Aj 0 [.bool false])<|
Aj 5 [Aa (AB (n69+1))])))<|
Aj 4 [])<|
Aj 3 [l64.v])))) λl85=>
Aj 2 [l85.v,Aa (AB (n14+1))])<|
Aj 1 [l13.v]) λl86=>
AC F.a69 [Ah p10] λl87=>
As 1 (
Ax 2 (0,()) λn88=>
Ai (decide (n88<(Am l87))) (
As 3 (
.ex [.adr] (c1 λa89=>0<=n88/\n88<(Am l87)/\l87.a=some a89) (u1 λa90=>
An T.a0 a90 (Int.toNat n88*7) λn91 n92 n93 n94 n95 n96 l97=>
Ab T.a0 λa98=>
Af n88 λn99=>
Ac T.a0 a98 (Ao n91 n92 n93 n94 n95 n96 l97)<|
AD 4 (
Ay<|
Aq T.a12 a98 4 λn100=>
AE ((n100 != 1)=false) T.a13 a98 0 λn101=>
Ai (n100 != 1) (
AA<|
Aj 4 [.bool true])<|
AF F.a74 [Ah p10] λn102=>
AA<|
Aj 4 [.bool (decide (n101>=n102))]) λb103=>
Ai b103 (
Aj 3 [])<|
.must (0<=AB (n99+1)/\AB (n99+1)<=(Am l87)) <|
AG 4 (
AH 5 (0,(0,())) λn104 n105=>
Ai (decide (n105<((l87.len-Int.toNat (AB (n99+1)):Nat):Int))) (
.ex [.adr] (c1 λa106=>0<=n105/\n105<((l87.len-Int.toNat (AB (n99+1)):Nat):Int)/\z1t l87.a 7 (Int.toNat (AB (n99+1))) l87.cap=some a106) (u1 λa107=>
An T.a0 a107 (Int.toNat n105*7) λn108 n109 n110 n111 n112 n113 l114=>
Ab T.a0 λa115=>
Ac T.a0 a115 (Ao n108 n109 n110 n111 n112 n113 l114)<|
AD 6 (
AI ((n104 == 0)=true) T.a0 a115 λn116 n117 n118 n119 n120 n121 l122=>
Ai (n104 == 0) (
AJ F.a165 [Ao n116 n117 n118 n119 n120 n121 l122] λb123=>
Ar (b123=true) T.a13 a115 1 λn124=>
Ar (b123=true) T.a13 a98 1 λn125=>
Ar ((b123 && n124 == n125)=true) T.a12 a115 2 λn126=>
Ar ((b123 && n124 == n125)=true) T.a12 a98 2 λn127=>
Aj 6 [.bool (b123 && n124 == n125 && n126 == n127)])<|
Aj 6 [.bool false]) λb128=>
AG 6 (
Ai b128 (
Aq T.a12 a115 4 λn129=>
Af n129 λn130=>
Aj 6 [Aa n130])<|
Aj 6 [Aa n104]) λn131=>
Aj 5 [Aa n131,Aa (AB (n105+1))]))<|
Aj 4 [Aa n104]) λn132=>
AG 4 (
AH 5 (0,(0,())) λn133 n134=>
Ai (decide (n134<(Am l86))) (
.ex [.adr] (c1 λa135=>0<=n134/\n134<(Am l86)/\l86.a=some a135) (u1 λa136=>
Az T.a31 a136 (Int.toNat n134*5) λn137 s138 s139 b140 n141=>
Ab T.a31 λa142=>
Ac T.a31 a142 (.agg #[Aa n137,.string s138,.string s139,.bool b140,Aa n141])<|
Aq T.a13 a142 0 λn143=>
Aq T.a13 a98 0 λn144=>
Ar (decide (n143>=n144)=true) T.a13 a142 0 λn145=>
Ar (decide (n143>=n144)=true) T.a13 a98 0 λn146=>
AK (decide (n143>=n144)=true) T.a33 a98 6 λl147=>
AG 6 (
Ai (decide (n143>=n144) && decide (n145<AB (n146+(Am l147)))) (
Af (AB (n133+1)) λn148=>
Aj 6 [Aa n148])<|
Aj 6 [Aa n133]) λn149=>
Aj 5 [Aa n149,Aa (AB (n134+1))]))<|
Aj 4 [Aa n133]) λn150=>
AK ((n132 == 2)=true) T.a33 a98 6 λl151=>
Ai (n132 == 2 && n150 != (Am l151) || n132 != 2 && n150 != 0) (
Aj 0 [.bool false])<|
Aj 3 []))<|
Aj 2 [Aa (AB (n88+1))])<|
Aj 1 [])<|
AJ F.a162 [] λb152=>
AL b152 λb153=>
Aj 0 [.bool b153])
theorem znu (seg:Int) (l:Sl):FnS (z009 seg l) F.a161 #[.int .i64 seg,.slice l.a l.len l.cap]:=dV ⟨[(77361807722370527890767932,[]),(280608314367533360295107487881526339773947638186137,[(21,.one (.int .i64))]),(9415652603080021145753684134811499624153533166764771246258,[(24,.one (.int .i64))])],[(0,[(10,.one .slc)]),(1,[(10,.one .slc)]),(2,[]),(4,[]),(5,[]),(6,[(21,.one (.int .i64))]),(8,[(24,.one (.int .i64))])],[(30,[(124,.one .bool)]),(35,[(153,.one .bool)])],[(0,[(10,.one .slc),(43,.one (.int .i64))]),(2,[(91,.one (.int .i64))]),(4,[(110,.one (.int .i64))]),(6,[(21,.one (.int .i64)),(130,.one (.int .i64))]),(8,[(24,.one (.int .i64)),(159,.one (.int .i64))])]⟩ Go.Proofs.Tryz.func3 (by kernel_rfl)
def z00a (seg:Int) (most:Int):Prog :=
Ab T.a29 λa0=>
Af (Int.tmod seg 300) λn1=>
Af (Int.tmod most 8) λn2=>
AG 1 (
Ai (decide (n1<0)) (
Af (AB (0-n1)) λn3=>
Aj 1 [Aa n3])<|
Aj 1 [Aa n1]) λn4=>
AG 1 (
Ai (decide (n2<0)) (
Af (AB (0-n2)) λn5=>
Aj 1 [Aa n5])<|
Aj 1 [Aa n2]) λn6=>
Ac T.a29 a0 (.agg #[Aa (AB (64+n4)),Aa 20,Aa (AB (n6+1))])<|
Ag T.a29 a0 λn7 n8 n9=>
Aj 0 [Ad n7 n8 n9]
theorem znv (seg most:Int):FnS (z00a seg most) F.a163 #[.int .i64 seg,.int .i64 most]:=dV ⟨[(25169930,[(0,.one (.int .i64))]),(402661390,[(1,.one (.int .i64))])],[],[],[]⟩ Go.Proofs.Tryz.func10 (by kernel_rfl)
def z05w (d:Option Addr) (prefix_:ByteArray) (c_0 c_1:Int) (c_2:Int):Prog :=
AM T.a29 (Ad c_0 c_1 c_2) λa0=>
Aq T.a12 a0 2 λn1=>
Ar (decide (n1<1)=false) T.a12 a0 2 λn2=>
Ai (decide (n1<1) || decide (n2>1024)) (
Ai (Option.isNone d) (
Aj 0 [Ah none,Aa 1])<|
Aj 0 [Ah none,Aa 2])<|
AN T.a42 a0 0 λn3 n4=>
Ae F.a120 [Ah d,.string prefix_,AO n3 n4] λp5 n6=>
Af n6 λn7=>
Ai (n7 != 0) (
Af n7 λn8=>
Aj 0 [Ah none,Aa n8])<|
Aq T.a12 a0 2 λn9=>
AM T.a30 (.agg #[Ah p5,Ah d,.string prefix_,Aa n9,Ah none,Ah none]) λa10=>
AD 1 (
AQ F.a80 [AP a10] λs11=>
AF F.a25 [Ah d,.string s11] λn12=>
Ai (decide (n12>0)) (
Aj 1 [.bool true])<|
AQ F.a80 [AP a10] λs13=>
AJ F.a81 [Ah d,.string s13] λb14=>
Aj 1 [.bool b14]) λb15=>
As 1 (
Ai b15 (
AQ F.a80 [AP a10] λs16=>
AF F.a24 [Ah d,.string s16] λn17=>
Af n17 λn18=>
Ai (n18 != 0) (
Af n18 λn19=>
Aj 0 [Ah none,Aa n19])<|
Aj 1 [])<|
Aj 1 [])<|
AF F.a76 [AP a10] λn20=>
Af n20 λn21=>
AC F.a101 [Ah p5] λl22=>
As 1 (
Ax 2 (0,()) λn23=>
Ai (decide (n23<(Am l22))) (
.ex [.adr] (c1 λa24=>0<=n23/\n23<(Am l22)/\l22.a=some a24) (u1 λa25=>
An T.a0 a25 (Int.toNat n23*7) λn26 n27 n28 n29 n30 n31 l32=>
Ab T.a0 λa33=>
Ac T.a0 a33 (Ao n26 n27 n28 n29 n30 n31 l32)<|
Aq T.a13 a33 0 λn34=>
As 3 (
Ai (decide (n34>=n21)) (
Aw T.a0 a33 λn35 n36 n37 n38 n39 n40 l41=>
AR F.a79 [AP a10,Ao n35 n36 n37 n38 n39 n40 l41]<|
Aj 3 [])<|
Aj 3 [])<|
Aj 2 [Aa (AB (n23+1))]))<|
Aj 1 [])<|
Aj 0 [AP a10,Aa 0]
theorem zta (d:Option Addr) (prefix_:ByteArray) (c_0 c_1 c_2:Int):FnS (z05w d prefix_ c_0 c_1 c_2) F.a67 #[.pointer d,.string prefix_,.agg #[.int .i64 c_0,.int .i64 c_1,.int .i64 c_2]]:=dV ⟨[(18741891978888913616950,[]),(1083197534374707740536733770,[])],[(0,[])],[(9,[(54,.one .bool)])],[(0,[(67,.one (.int .i64))])]⟩ Go.Proofs.Tryz.func12 (by kernel_rfl)
def z00b (b_0 b_1 b_2 b_3 b_4 b_5:Int) (b_6:Sl):Prog :=
AM T.a0 (Ao b_0 b_1 b_2 b_3 b_4 b_5 b_6) λa0=>
Ab T.a0 λa1=>
Aw T.a0 a0 λn2 n3 n4 n5 n6 n7 l8=>
Ab T.a0 λa9=>
Ac T.a0 a9 (Ao n2 n3 n4 n5 n6 n7 l8)<|
AS T.a33 a9 6 (.slice none 0 0)<|
AT T.a33 a0 6 λl10=>
As 1 (
Ax 2 (0,()) λn11=>
Ai (decide (n11<(Am l10))) (
.ex [.adr] (c1 λa12=>0<=n11/\n11<(Am l10)/\l10.a=some a12) (u1 λa13=>
AU T.a2 a13 (Int.toNat n11*4) λs14 s15 b16 n17=>
Ab T.a2 λa18=>
Af n11 λn19=>
Ac T.a2 a18 (AV s14 s15 b16 n17)<|
Ai (decide (n19>=4)) (
Aj 1 [])<|
AW T.a46 a18 0 λs20=>
As 3 (
Ai (decide (((ByteArray.size s20:Nat):Int)>10)) (
AW T.a46 a18 0 λs21=>
.must ((0:Int)<=10/\10<=((ByteArray.size s21:Nat):Int)) <|
AS T.a46 a18 0 (.string (ByteArray.extract s21 0 10))<|
Aj 3 [])<|
Aj 3 [])<|
AW T.a46 a18 1 λs22=>
As 3 (
Ai (decide (((ByteArray.size s22:Nat):Int)>10)) (
AW T.a46 a18 1 λs23=>
.must ((0:Int)<=10/\10<=((ByteArray.size s23:Nat):Int)) <|
AS T.a46 a18 1 (.string (ByteArray.extract s23 0 10))<|
Aj 3 [])<|
Aj 3 [])<|
AT T.a33 a9 6 λl24=>
AX T.a2 a18 λs25 s26 b27 n28=>
AY (Instr.buildSlice T.a33 1 #[(0,AV s25 s26 b27 n28)]) λl29=>
AY (app T.a33 T.a33 T.a33 l24.v l29.v) λl30=>
AS T.a33 a9 6 l30.v<|
Aj 2 [Aa (AB (n11+1))]))<|
Aj 1 [])<|
Aw T.a0 a9 λn31 n32 n33 n34 n35 n36 l37=>
Ac T.a0 a1 (Ao n31 n32 n33 n34 n35 n36 l37)<|
Aw T.a0 a1 λn38 n39 n40 n41 n42 n43 l44=>
Aj 0 [Ao n38 n39 n40 n41 n42 n43 l44]
theorem znw (b_0 b_1 b_2 b_3 b_4 b_5:Int) (b_6:Sl):FnS (z00b b_0 b_1 b_2 b_3 b_4 b_5 b_6) F.a164 #[.agg #[.int .i64 b_0,.int .i64 b_1,.int .i64 b_2,.int .i64 b_3,.int .i64 b_4,.int .i64 b_5,.slice b_6.a b_6.len b_6.cap]]:=dV ⟨[(257698037781,[]),(65970697666589,[])],[(0,[])],[],[(0,[(11,.one (.int .i64))])]⟩ Go.Proofs.Tryz.func13 (by kernel_rfl)
def z05z (p:Option Addr) (pid epoch:Int) (commit:Bool) (time:Int):Prog :=
Ai (Option.isNone p) (
Aj 0 [Aa 0,.bool false,Aa 1])<|
Ap F.a88 [Aa pid,Aa epoch,.bool commit,Aa time] λn0 n1 n2 n3 n4 n5 l6=>
Av F.a77 [Ah p,Ao n0 n1 n2 n3 n4 n5 l6] λn7 b8 n9=>
Af n7 λn10=>
AL b8 λb11=>
Af n9 λn12=>
Aj 0 [Aa n10,.bool b11,Aa n12]
theorem ztd (p:Option Addr) (pid epoch:Int) (commit:Bool) (time:Int):FnS (z05z p pid epoch commit time) F.a71 #[.pointer p,.int .i64 pid,.int .i64 epoch,.bool commit,.int .i64 time]:=dV ⟨[],[],[],[]⟩ Go.Proofs.Tryz.func14 (by kernel_rfl)
def zys (p:Option Addr) (b_0 b_1 b_2 b_3 b_4 b_5:Int) (b_6:Sl):Prog :=
AM T.a0 (Ao b_0 b_1 b_2 b_3 b_4 b_5 b_6) λa0=>
AZ (Option.isNone p) (
Aj 0 [Aa 0,.bool false,Aa 1])<|
Aw T.a0 a0 λn2 n3 n4 n5 n6 n7 l8=>
AJ F.a82 [Ao n2 n3 n4 n5 n6 n7 l8] λb9=>
AZ b9 (
Aj 0 [Aa 0,.bool false,Aa 2])<|
Aw T.a0 a0 λn11 n12 n13 n14 n15 n16 l17=>
Av F.a77 [Ah p,Ao n11 n12 n13 n14 n15 n16 l17] λn18 b19 n20=>
Af n18 λn21=>
AL b19 λb22=>
Af n20 λn23=>
Aj 0 [Aa n21,.bool b22,Aa n23]
theorem zgl (p:Option Addr) (b_0 b_1 b_2 b_3 b_4 b_5:Int) (b_6:Sl):FnS (zys p b_0 b_1 b_2 b_3 b_4 b_5 b_6) F.a68 #[.pointer p,.agg #[.int .i64 b_0,.int .i64 b_1,.int .i64 b_2,.int .i64 b_3,.int .i64 b_4,.int .i64 b_5,.slice b_6.a b_6.len b_6.cap]]:=dV ⟨[],[],[],[]⟩ Go.Proofs.Tryz.func15 (by kernel_rfl)
def z061 (p:Option Addr) (offset most:Int) (committed:Bool):Prog :=
Ai (Option.isNone p) (
Aj 0 [.slice none 0 0,Aa 0,Aa 1])<|
Ba p λa1=>
Bb T.a27 (Addr.add a1 0) 0 λp2=>
Bc F.a105 [Ah p2,Aa offset,Aa most] λl3 n4=>
Af n4 λn5=>
Ai (n5 != 0) (
Af n5 λn6=>
Aj 0 [.slice none 0 0,Aa 0,Aa n6])<|
Af offset λn7=>
.bind 1 [.one .slc,.one (.int .i64)] (
.loop 2 [.one .slc,.one (.int .i64),.one (.int .i64)] (⟨none,0,0⟩,(n7,(0,()))) (u3 λl8 (n9 n10:Int)=>
Ai (decide (n10<(Am l3))) (
.ex [.adr] (c1 λa11=>0<=n10/\n10<(Am l3)/\l3.a=some a11) (u1 λa12=>
An T.a0 a12 (Int.toNat n10*7) λn13 n14 n15 n16 n17 n18 l19=>
Ab T.a0 λa20=>
Ac T.a0 a20 (Ao n13 n14 n15 n16 n17 n18 l19)<|
AD 3 (
Ay<|
AE (committed=true) T.a13 a20 0 λn21=>
Ai committed (
AF F.a74 [Ah p] λn22=>
AA<|
Aj 3 [.bool (decide (n21>=n22))])<|
AA<|
Aj 3 [.bool false]) λb23=>
Ai b23 (
Aj 1 [l8.v,Aa n9])<|
AD 3 (
Ay<|
Bd (not committed=false) p λa25=>
.read (not committed=false) (ld T.a26 (Addr.add a25 5)) sP (u1 λp26=>
AI (not committed=false) T.a0 a20 λn27 n28 n29 n30 n31 n32 l33=>
Ai (not committed) (
AA<|
Aj 3 [.bool true])<|
AF F.a50 [Ah p26,Ao n27 n28 n29 n30 n31 n32 l33] λn34=>
AA<|
Aj 3 [.bool (n34 == 1)])) λb35=>
Ak 3 (
Ai b35 (
Aw T.a0 a20 λn36 n37 n38 n39 n40 n41 l42=>
AY (Instr.buildSlice T.a32 1 #[(0,Ao n36 n37 n38 n39 n40 n41 l42)]) λl43=>
AC F.a86 [l43.v] λl44=>
AY (app T.a38 T.a38 T.a38 l8.v l44.v) λl45=>
Aj 3 [l45.v])<|
Aj 3 [l8.v]) λl46=>
Aw T.a0 a20 λn47 n48 n49 n50 n51 n52 l53=>
AF F.a89 [Ao n47 n48 n49 n50 n51 n52 l53] λn54=>
Af n54 λn55=>
Aj 2 [l46.v,Aa n55,Aa (AB (n10+1))]))<|
Aj 1 [l8.v,Aa n9])) (u2 λl56 (n57:Int)=>
Af n57 λn58=>
Aj 0 [l56.v,Aa n58,Aa 0])
theorem ztf (p:Option Addr) (offset most:Int) (committed:Bool):FnS (z061 p offset most committed) F.a73 #[.pointer p,.int .i64 offset,.int .i64 most,.bool committed]:=dV ⟨[(73196680484479534366778,[(13,.one .slc)])],[(0,[(13,.one .slc),(14,.one (.int .i64))])],[(11,[(47,.one .bool)]),(12,[(58,.one .bool)])],[(0,[(13,.one .slc),(14,.one (.int .i64)),(36,.one (.int .i64))])]⟩ Go.Proofs.Tryz.func16 (by kernel_rfl)
def z05x (p:Option Addr):Prog :=
Ai (Option.isNone p) (
Aj 0 [.slice none 0 0])<|
Ba p λa1=>
Bb T.a27 (Addr.add a1 0) 0 λp2=>
AC F.a101 [Ah p2] λl3=>
Aj 0 [l3.v]
theorem ztb (p:Option Addr):FnS (z05x p) F.a69 #[.pointer p]:=dV ⟨[],[],[],[]⟩ Go.Proofs.Tryz.func17 (by kernel_rfl)
def z062 (p:Option Addr):Prog :=
Ai (Option.isNone p) (
Aj 0 [Aa 0])<|
Ba p λa1=>
Bb T.a26 a1 5 λp2=>
AC F.a53 [Ah p2] λl3=>
Ai ((Am l3) == 0) (
AF F.a72 [Ah p] λn4=>
Af n4 λn5=>
Aj 0 [Aa n5])<|
Ba p λa7=>
Bb T.a26 a7 5 λp8=>
AF F.a55 [Ah p8] λn9=>
AF F.a70 [Ah p] λn10=>
Af (if n10>n9 then n10 else n9) λn11=>
Aj 0 [Aa n11]
theorem ztg (p:Option Addr):FnS (z062 p) F.a74 #[.pointer p]:=dV ⟨[],[],[],[]⟩ Go.Proofs.Tryz.func18 (by kernel_rfl)
def z8a  : Prog :=
.call F.a31 [.int .i64 10000] (.tup [.one .ptr,.one (.int .i64)]) (u2 λp0 (n1:Int) =>
.lt (.int .i64) (n1) λ(n2:Int) =>
.call F.a67 [.pointer p0,.string (ByteArray.mk #[112]),.agg #[.int .i64 100,.int .i64 9,.int .i64 4]] (.tup [.one .ptr,.one (.int .i64)]) (u2 λp3 (n4:Int) =>
.lt (.int .i64) (n4) λ(n5:Int) =>
.ite (n5 != 0 || Option.isNone p3) (
.done 0 [.bool false]) (
.act (Instr.buildSlice T.a33 1 #[(0,.agg #[.string (ByteArray.mk #[107]),.string (ByteArray.mk #[]),.bool false,.int .i64 0])]) sL (u1 λl6 =>
.act (new T.a0) sA (u1 λa7 =>
.actU (st T.a0 a7 (.agg #[.int .i64 0,.int .i64 3,.int .i64 0,.int .i64 0,.int .i64 1,.int .i64 0,l6.v])) <|
.read True (ld T.a0 a7) (sG [.int .i64,.int .i64,.int .i64,.int .i64,.int .i64,.int .i64,.slc]) (u7 λ(n8 n9 n10 n11 n12 n13:Int) l14 =>
.call F.a68 [.pointer p3,.agg #[.int .i64 n8,.int .i64 n9,.int .i64 n10,.int .i64 n11,.int .i64 n12,.int .i64 n13,l14.v]] (.tup [.one (.int .i64),.one .bool,.one (.int .i64)]) (u3 λ(n15:Int) b16 (n17:Int) =>
.lt (.int .i64) (n15) λ(n18:Int) =>
.lt (.bool) (b16) λb19 =>
.lt (.int .i64) (n17) λ(n20:Int) =>
.read True (ld T.a0 a7) (sG [.int .i64,.int .i64,.int .i64,.int .i64,.int .i64,.int .i64,.slc]) (u7 λ(n21 n22 n23 n24 n25 n26:Int) l27 =>
.call F.a68 [.pointer p3,.agg #[.int .i64 n21,.int .i64 n22,.int .i64 n23,.int .i64 n24,.int .i64 n25,.int .i64 n26,l27.v]] (.tup [.one (.int .i64),.one .bool,.one (.int .i64)]) (u3 λ(n28:Int) b29 (n30:Int) =>
.lt (.int .i64) (n28) λ(n31:Int) =>
.lt (.bool) (b29) λb32 =>
.lt (.int .i64) (n30) λ(n33:Int) =>
.call F.a73 [.pointer p3,.int .i64 0,.int .i64 9,.bool true] (.tup [.one .slc,.one (.int .i64),.one (.int .i64)]) (u3 λl34 (n35 n36:Int) =>
.lt (.int .i64) (n35) λ(n37:Int) =>
.lt (.int .i64) (n36) λ(n38:Int) =>
.call F.a73 [.pointer p3,.int .i64 0,.int .i64 9,.bool false] (.tup [.one .slc,.one (.int .i64),.one (.int .i64)]) (u3 λl39 (n40 n41:Int) =>
.lt (.int .i64) (n40) λ(n42:Int) =>
.lt (.int .i64) (n41) λ(n43:Int) =>
.call F.a71 [.pointer p3,.int .i64 3,.int .i64 0,.bool true,.int .i64 0] (.tup [.one (.int .i64),.one .bool,.one (.int .i64)]) (u3 λ(n44:Int) b45 (n46:Int) =>
.lt (.int .i64) (n44) λ(n47:Int) =>
.lt (.bool) (b45) λb48 =>
.lt (.int .i64) (n46) λ(n49:Int) =>
.call F.a73 [.pointer p3,.int .i64 0,.int .i64 9,.bool true] (.tup [.one .slc,.one (.int .i64),.one (.int .i64)]) (u3 λl50 (n51 n52:Int) =>
.lt (.int .i64) (n51) λ(n53:Int) =>
.lt (.int .i64) (n52) λ(n54:Int) =>
.lt (.bool) (n18 == 0 && not b19 && n20 == 0 && n31 == 0 && b32 && n33 == 0 && ((l34.len:Nat):Int) == 0 && n37 == 0 && ((l39.len:Nat):Int) == 1 && n42 == 1 && n47 == 1 && n49 == 0 && ((l50.len:Nat):Int) == 1 && n53 == 2) λb55 =>
.done 0 [.bool b55])))))))))))))
theorem z9h :FnS (z8a ) F.a162 #[]:=dV ⟨[],[],[],[]⟩ Go.Proofs.Tryz.func20 (by kernel_rfl)
def z060 (p:Option Addr):Prog :=
Ai (Option.isNone p) (
Aj 0 [Aa 0])<|
Ba p λa1=>
Bb T.a27 (Addr.add a1 0) 0 λp2=>
AF F.a104 [Ah p2] λn3=>
Af n3 λn4=>
Aj 0 [Aa n4]
theorem zte (p:Option Addr):FnS (z060 p) F.a72 #[.pointer p]:=dV ⟨[],[],[],[]⟩ Go.Proofs.Tryz.func28 (by kernel_rfl)
def z05y (p:Option Addr):Prog :=
Ai (Option.isNone p) (
Aj 0 [Aa 0])<|
Ba p λa1=>
Bb T.a27 (Addr.add a1 0) 0 λp2=>
AF F.a103 [Ah p2] λn3=>
Af n3 λn4=>
Aj 0 [Aa n4]
theorem ztc (p:Option Addr):FnS (z05y p) F.a70 #[.pointer p]:=dV ⟨[],[],[],[]⟩ Go.Proofs.Tryz.func36 (by kernel_rfl)
def z068 (p:Option Addr):Prog :=
Ba p λa1=>
AW T.a46 (Addr.add a1 0) 2 λs2=>
.must (((ByteArray.size s2+4:Nat):Int)<=9223372036854775807) <|
Be (s2++(ByteArray.mk #[46,116,109,112])) λs3=>
Aj 0 [.string s3]
theorem ztm (p:Option Addr):FnS (z068 p) F.a80 #[.pointer p]:=dV ⟨[],[],[],[]⟩ Go.Proofs.Tryz.func42 (by kernel_rfl)
def z069 (d:Option Addr) (name:ByteArray):Prog :=
Bc F.a23 [Ah d,.string name] λl0 n1=>
Af n1 λn2=>
AL (n2 == 0) λb3=>
Aj 0 [.bool b3]
theorem ztn (d:Option Addr) (name:ByteArray):FnS (z069 d name) F.a81 #[.pointer d,.string name]:=dV ⟨[],[],[],[]⟩ Go.Proofs.Tryz.func43 (by kernel_rfl)
def z064 (p:Option Addr):Prog :=
Ba p λa1=>
Aq T.a12 a1 3 λn2=>
Ae F.a6 [Aa n2] λp3 n4=>
Ba p λa6=>
AS T.a22 a6 4 (Ah p3)<|
Bf F.a48 [] λp7=>
Ba p λa9=>
AS T.a26 a9 5 (Ah p7)<|
Ak 1 (
Ay<|
Ba p λa11=>
Bg T.a23 (Addr.add a11 0) 1 λp12=>
AQ F.a78 [Ah p] λs13=>
AA<|
Bc F.a23 [Ah p12,.string s13] λl14 n15=>
Af n15 λn16=>
AA<|
Aj 1 [l14.v]) λl17=>
Bh F.a35 [l17.v] λl18 b19=>
AL b19 λb20=>
Ai (not b20) (
Aj 0 [Aa 0])<|
Bf F.a169 [l18.v] λp21=>
Bi F.a176 [Ah p21] λn22=>
AQ F.a175 [Ah p21,Aa 262144] λs23=>
AQ F.a175 [Ah p21,Aa 262144] λs24=>
Bj n22 λn25=>
Be s23 λs26=>
Be s24 λs27=>
AD 1 (
AF F.a171 [Ah p21] λn28=>
Ai (n28 != 0) (
Aj 1 [.bool true])<|
AF F.a72 [Ah p] λn29=>
Ai (decide (n25>IntKind.wrap .u64 n29)) (
Aj 1 [.bool true])<|
AF F.a70 [Ah p] λn30=>
Aj 1 [.bool (decide (AB n25<n30))]) λb31=>
Ai b31 (
Aj 0 [Aa 0])<|
AY (convert T.a46 T.a41 (.string s26)) λl32=>
Ba p λa34=>
Aq T.a12 a34 3 λn35=>
Ae F.a5 [l32.v,Aa n35] λp36 n37=>
Af n37 λn38=>
AD 1 (
Ai (n38 != 0) (
Aj 1 [.bool true])<|
AF F.a10 [Ah p36] λn39=>
Aj 1 [.bool (decide (n39>AB n25))]) λb40=>
Ai b40 (
Aj 0 [Aa 0])<|
AY (convert T.a46 T.a41 (.string s27)) λl41=>
Ae F.a47 [l41.v] λp42 n43=>
Af n43 λn44=>
AD 1 (
Ai (n44 != 0) (
Aj 1 [.bool true])<|
AF F.a52 [Ah p42] λn45=>
Aj 1 [.bool (decide (n45>AB n25))]) λb46=>
Ai b46 (
Aj 0 [Aa 0])<|
Ba p λa48=>
AS T.a22 a48 4 (Ah p36)<|
Ba p λa50=>
AS T.a26 a50 5 (Ah p42)<|
Af (AB n25) λn51=>
Aj 0 [Aa n51]
theorem zti (p:Option Addr):FnS (z064 p) F.a76 #[.pointer p]:=dV ⟨[],[],[(3,[(3,.one .slc)]),(9,[(71,.one .bool)]),(12,[(90,.one .bool)]),(15,[(105,.one .bool)])],[]⟩ Go.Proofs.Tryz.func45 (by kernel_rfl)
def z067 (p:Option Addr) (b_0 b_1 b_2 b_3 b_4 b_5:Int) (b_6:Sl):Prog :=
AM T.a0 (Ao b_0 b_1 b_2 b_3 b_4 b_5 b_6) λa0=>
Ay<|
Ba p λa2=>
Bb T.a22 a2 4 λp3=>
Aw T.a0 a0 λn4 n5 n6 n7 n8 n9 l10=>
AF F.a11 [Ah p3,Ao n4 n5 n6 n7 n8 n9 l10] λn11=>
AA<|
Ay<|
Ba p λa13=>
Bb T.a26 a13 5 λp14=>
Aw T.a0 a0 λn15 n16 n17 n18 n19 n20 l21=>
AF F.a56 [Ah p14,Ao n15 n16 n17 n18 n19 n20 l21] λn22=>
AA<|
Aj 0 []
theorem ztl (p:Option Addr) (b_0 b_1 b_2 b_3 b_4 b_5:Int) (b_6:Sl):FnS (z067 p b_0 b_1 b_2 b_3 b_4 b_5 b_6) F.a79 #[.pointer p,.agg #[.int .i64 b_0,.int .i64 b_1,.int .i64 b_2,.int .i64 b_3,.int .i64 b_4,.int .i64 b_5,.slice b_6.a b_6.len b_6.cap]]:=dV ⟨[],[],[],[]⟩ Go.Proofs.Tryz.func47 (by kernel_rfl)
def z065 (p:Option Addr) (b_0 b_1 b_2 b_3 b_4 b_5:Int) (b_6:Sl):Prog :=
AM T.a0 (Ao b_0 b_1 b_2 b_3 b_4 b_5 b_6) λa0=>
AF F.a72 [Ah p] λn1=>
AS T.a13 a0 0 (Aa n1)<|
Aw T.a0 a0 λn2 n3 n4 n5 n6 n7 l8=>
Bk F.a75 [Ah p,Ao n2 n3 n4 n5 n6 n7 l8] λb9 n10 n11=>
Ab T.a6 λa12=>
Ac T.a6 a12 (Bl b9 n10)<|
Af n11 λn13=>
Bn ((n13 != 0)=false) T.a3 a12 0 λb14=>
Ai (n13 != 0 || b14) (
Ay<|
Aq T.a13 a12 1 λn15=>
Au T.a3 a12 0 λb16=>
Af n15 λn17=>
AL b16 λb18=>
Af n13 λn19=>
AA<|
Aj 0 [Aa n17,.bool b18,Aa n19])<|
Bo 1 (
Ay<|
Ba p λa21=>
Bg T.a27 (Addr.add a21 0) 0 λp22=>
Aw T.a0 a0 λn23 n24 n25 n26 n27 n28 l29=>
AY (Instr.buildSlice T.a32 1 #[(0,Ao n23 n24 n25 n26 n27 n28 l29)]) λl30=>
AA<|
Bp F.a102 [Ah p22,l30.v] λn31 n32=>
Af n31 λn33=>
Af n32 λn34=>
AA<|
Aj 1 [Aa n34,Aa n33]) λn35 n36=>
AG 1 (
Ai (n35 == 0) (
Ba p λa38=>
Bb T.a27 (Addr.add a38 0) 0 λp39=>
AF F.a108 [Ah p39] λn40=>
Af n40 λn41=>
Aj 1 [Aa n41])<|
Aj 1 [Aa n35]) λn42=>
Ai (n42 != 0) (
Af n42 λn43=>
Aj 0 [Aa 0,.bool false,Aa n43])<|
AS T.a13 a0 0 (Aa n36)<|
Aw T.a0 a0 λn44 n45 n46 n47 n48 n49 l50=>
Ap F.a83 [Ao n44 n45 n46 n47 n48 n49 l50] λn51 n52 n53 n54 n55 n56 l57=>
AR F.a79 [Ah p,Ao n51 n52 n53 n54 n55 n56 l57]<|
Af n36 λn58=>
Aj 0 [Aa n58,.bool false,Aa 0]
theorem ztj (p:Option Addr) (b_0 b_1 b_2 b_3 b_4 b_5:Int) (b_6:Sl):FnS (z065 p b_0 b_1 b_2 b_3 b_4 b_5 b_6) F.a77 #[.pointer p,.agg #[.int .i64 b_0,.int .i64 b_1,.int .i64 b_2,.int .i64 b_3,.int .i64 b_4,.int .i64 b_5,.slice b_6.a b_6.len b_6.cap]]:=dV ⟨[(2269814212195778602,[(8,.one (.int .i64))])],[],[(5,[(8,.one (.int .i64)),(9,.one (.int .i64))])],[]⟩ Go.Proofs.Tryz.func48 (by kernel_rfl)
def z06a (b_0 b_1 b_2 b_3 b_4 b_5:Int) (b_6:Sl):Prog :=
AM T.a0 (Ao b_0 b_1 b_2 b_3 b_4 b_5 b_6) λa0=>
Aq T.a12 a0 4 λn1=>
Ar ((n1 == 2)=false) T.a12 a0 4 λn2=>
AL (n1 == 2 || n2 == 3) λb3=>
Aj 0 [.bool b3]
theorem zto (b_0 b_1 b_2 b_3 b_4 b_5:Int) (b_6:Sl):FnS (z06a b_0 b_1 b_2 b_3 b_4 b_5 b_6) F.a82 #[.agg #[.int .i64 b_0,.int .i64 b_1,.int .i64 b_2,.int .i64 b_3,.int .i64 b_4,.int .i64 b_5,.slice b_6.a b_6.len b_6.cap]]:=dV ⟨[],[],[],[]⟩ Go.Proofs.Tryz.func50 (by kernel_rfl)
def z05p (v:Option Addr) (b_0 b_1 b_2 b_3 b_4 b_5:Int) (b_6:Sl):Prog :=
AM T.a0 (Ao b_0 b_1 b_2 b_3 b_4 b_5 b_6) λa0=>
Ai (Option.isNone v) (
Aj 0 [Aa 0])<|
Bq 1 (
Ay<|
Ba v λa2=>
Br T.a20 a2 2 λm3=>
Bs T.a13 a0 1 λn4=>
Bs T.a12 a0 2 λn5=>
Bt (Instr.lookup T.a20 (.map m3) (AO n4 n5) true) λn6 n7 n8 n9 b10=>
Ab T.a17 λa11=>
AA<|
Ac T.a17 a11 (Bu n6 n7 n8 n9)<|
AL b10 λb12=>
AA<|
Aj 1 [AP a11,.bool b12]) λa13 b14=>
Aw T.a0 a0 λn15 n16 n17 n18 n19 n20 l21=>
AJ F.a61 [Ao n15 n16 n17 n18 n19 n20 l21] λb22=>
AZ b22 (
Aj 0 [Aa 3])<|
Ay<|
Bs T.a13 a0 0 λn24=>
AF F.a55 [Ah v] λn25=>
AL (decide (n24>=n25)) λb26=>
AA<|
Ai b26 (
Aj 0 [Aa 0])<|
Aq T.a12 a0 4 λn27=>
Ar ((n27 == 1 && b14)=true) T.a13 a0 0 λn28=>
Ar ((n27 == 1 && b14)=true) T.a13 a13 2 λn29=>
AZ (n27 == 1 && b14 && decide (n28>=n29)) (
Aj 0 [Aa 2])<|
Aj 0 [Aa 1]
theorem zt1 (v:Option Addr) (b_0 b_1 b_2 b_3 b_4 b_5:Int) (b_6:Sl):FnS (z05p v b_0 b_1 b_2 b_3 b_4 b_5 b_6) F.a50 #[.pointer v,.agg #[.int .i64 b_0,.int .i64 b_1,.int .i64 b_2,.int .i64 b_3,.int .i64 b_4,.int .i64 b_5,.slice b_6.a b_6.len b_6.cap]]:=dV ⟨[],[],[(3,[(5,.one .adr),(6,.one .bool)])],[]⟩ Go.Proofs.Tryz.func52 (by kernel_rfl)
def zyn (v:Option Addr):Prog :=
Ai (Option.isNone v) (
Aj 0 [.slice none 0 0])<|
Ba v λa1=>
Bv T.a19 a1 1 λm2=>
.act (Instr.range T.a19 (.map m2)) sA (u1 λa3=>
Ak 1 (
.loop 2 [.one .slc] (⟨none,0,0⟩,()) (u1 λl4=>
.next (Instr.next (AP a3) false T.a49) ([.one (.int .i64),.agg [.int .i64,.int .i64,.int .i64,.int .i64]]) (u5 λ(n5 n6 n7 n8 n9:Int)=>
.act (Instr.entry (AP a3)) (.tup [.one (.int .i64),.agg [.int .i64,.int .i64,.int .i64,.int .i64]]) (u5 λ(n10 n11 n12 n13 n14:Int)=>
Ab T.a17 λa15=>
Ac T.a17 a15 (Bu n11 n12 n13 n14)<|
Bw T.a17 a15 λn16 n17 n18 n19=>
.call F.a60 [Bu n16 n17 n18 n19] (sG [.int .i64,.int .i64,.int .i64,.int .i64]) (u4 λ(n20 n21 n22 n23:Int)=>
AY (Instr.buildSlice T.a36 1 #[(0,Bu n20 n21 n22 n23)]) λl24=>
AY (app T.a36 T.a36 T.a36 l4.v l24.v) λl25=>
Aj 2 [l25.v]))) <|
Aj 1 [l4.v])) λl26=>
AR F.a129 [l26.v,.func (Fn.func 133) #[] #[]]<|
Aj 0 [l26.v])
theorem zt3 (v:Option Addr) {w:World} {R:List Value->World->Prop} (h:(zyn v).wp P (λ_=>True) w λe vs w'=>e=0/\R vs w') :
  Calls P F.a53 #[.pointer v] w λe w'=>∃ vs,e=.returned (z7s vs)/\R vs w' :=
 z92 (zgv Go.Proofs.Tryz.func55 (by kernel_rfl) (by kernel_rfl) (by kernel_rfl)) zh1 mix [.val (.pointer v)] (by rw [show zf5 P 25 ⟨zh0,[(13,[.one (.int .i64),.agg [.int .i64,.int .i64,.int .i64,.int .i64]]),(15,[.one (.int .i64),.agg [.int .i64,.int .i64,.int .i64,.int .i64]])]⟩ { cnd:=[],blk:=[(0,[(3,.one .slc)])],reg:=[],lps:=[(0,[(3,.one .slc)])] } [.tmp 2] (zah Go.Proofs.Tryz.f55) [.val (.pointer v)]=zyn v from by kernel_rfl];exact h)
def zyo (v:Option Addr):Prog :=
Ai (Option.isNone v) (
Aj 0 [Aa 0])<|
Ba v λa1=>
Aq T.a13 a1 0 λn2=>
Af n2 λn3=>
Ba v λa5=>
Bv T.a19 a5 1 λm6=>
.act (Instr.range T.a19 (.map m6)) sA (u1 λa7=>
AG 1 (
Ax 2 (n3,()) λn8=>
.next (Instr.next (AP a7) false T.a49) ([.one (.int .i64),.agg [.int .i64,.int .i64,.int .i64,.int .i64]]) (u5 λ(n9 n10 n11 n12 n13:Int)=>
.act (Instr.entry (AP a7)) (.tup [.one (.int .i64),.agg [.int .i64,.int .i64,.int .i64,.int .i64]]) (u5 λ(n14 n15 n16 n17 n18:Int)=>
Ab T.a17 λa19=>
Ac T.a17 a19 (Bu n15 n16 n17 n18)<|
Aq T.a13 a19 2 λn20=>
Af (if n20<n8 then n20 else n8) λn21=>
Aj 2 [Aa n21])) <|
Aj 1 [Aa n8]) λn22=>
Af n22 λn23=>
Aj 0 [Aa n23])
theorem zt5 (v:Option Addr) {w:World} {R:List Value->World->Prop} (h:(zyo v).wp P (λ_=>True) w λe vs w'=>e=0/\R vs w') :
  Calls P F.a55 #[.pointer v] w λe w'=>∃ vs,e=.returned (z7s vs)/\R vs w' :=
 z92 (zgv Go.Proofs.Tryz.func56 (by kernel_rfl) (by kernel_rfl) (by kernel_rfl)) zh1 mix [.val (.pointer v)] (by rw [show zf5 P 26 ⟨zh0,[(17,[.one (.int .i64),.agg [.int .i64,.int .i64,.int .i64,.int .i64]]),(19,[.one (.int .i64),.agg [.int .i64,.int .i64,.int .i64,.int .i64]])]⟩ { cnd:=[],blk:=[(0,[(3,.one (.int .i64))])],reg:=[],lps:=[(0,[(3,.one (.int .i64))])] } [.tmp 2] (zah Go.Proofs.Tryz.f56) [.val (.pointer v)]=zyo v from by kernel_rfl];exact h)
def z063 (p:Option Addr) (b_0 b_1 b_2 b_3 b_4 b_5:Int) (b_6:Sl):Prog :=
AM T.a0 (Ao b_0 b_1 b_2 b_3 b_4 b_5 b_6) λa0=>
Ab T.a6 λa1=>
.bind 1 [.one .adr,.one (.int .i64)] (
Ay<|
Ba p λa3=>
Bg T.a22 a3 4 λp4=>
.hold True (ld T.a0 a0) (sG [.int .i64,.int .i64,.int .i64,.int .i64,.int .i64,.int .i64,.slc]) (u7 λ(n5 n6 n7 n8 n9 n10:Int) l11=>
.both (
AA<|
Bk F.a9 [Ah p4,Ao n5 n6 n7 n8 n9 n10 l11] λb12 n13 n14=>
Ab T.a6 λa15=>
Ac T.a6 a15 (Bl b12 n13)<|
Af n14 λn16=>
AA<|
Aj 1 [AP a15,Aa n16]) <|
Ab T.a6 λa17=>
AA<|
Bk F.a9 [Ah p4,Ao n5 n6 n7 n8 n9 n10 l11] λb18 n19 n20=>
Ac T.a6 a17 (Bl b18 n19)<|
Af n20 λn21=>
AA<|
Aj 1 [AP a17,Aa n21])) (u2 λa22 (n23:Int)=>
Bn ((n23 != 0)=false) T.a3 a22 0 λb24=>
Ai (n23 != 0 || b24) (
Bx T.a6 a22 λb25 n26=>
Ac T.a6 a1 (Bl b25 n26)<|
Af n23 λn27=>
Bx T.a6 a1 λb28 n29=>
Aj 0 [Bl b28 n29,Aa n27])<|
AG 1 (
Ay<|
.hold True (ld T.a6 a22) (sG [.bool,.int .i64]) (u2 λb30 (n31:Int)=>
Ba p λa33=>
Bb T.a26 a33 5 λp34=>
Aw T.a0 a0 λn35 n36 n37 n38 n39 n40 l41=>
AF F.a51 [Ah p34,Ao n35 n36 n37 n38 n39 n40 l41] λn42=>
AA<|
Ac T.a6 a1 (Bl b30 n31)<|
Af n42 λn43=>
AA<|
Aj 1 [Aa n43])) λn44=>
Bx T.a6 a1 λb45 n46=>
Aj 0 [Bl b45 n46,Aa n44])
theorem zth (p:Option Addr) (b_0 b_1 b_2 b_3 b_4 b_5:Int) (b_6:Sl):FnS (z063 p b_0 b_1 b_2 b_3 b_4 b_5 b_6) F.a75 #[.pointer p,.agg #[.int .i64 b_0,.int .i64 b_1,.int .i64 b_2,.int .i64 b_3,.int .i64 b_4,.int .i64 b_5,.slice b_6.a b_6.len b_6.cap]]:=dV ⟨[],[],[(1,[(6,.one .adr),(7,.one (.int .i64))]),(4,[(5,.one (.int .i64))])],[]⟩ Go.Proofs.Tryz.func83 (by kernel_rfl)
def zf7 (most:Int):Prog :=
Ai (decide (most<1) || decide (most>4096)) (
Aj 0 [Ah none,Aa 2])<|
.act (Instr.makeMap T.a18 none) sM (u1 λm0=>
AM T.a5 (.agg #[Aa most,Aa 0,.map m0]) λa1=>
Aj 0 [AP a1,Aa 0])
theorem zwc (most:Int):FnS (zf7 most) F.a6 #[.int .i64 most]:=dV ⟨[],[],[],[]⟩ Go.Proofs.Tryz.func104 (by kernel_rfl)
def zp2  : Prog :=
.act (Instr.makeMap T.a19 none) sM (u1 λm0 =>
.act (Instr.makeMap T.a20 none) sM (u1 λm1 =>
.act (Instr.box T.a15 (.agg #[.int .i64 0,.map m0,.map m1])) sA (u1 λa2 =>
.done 0 [.pointer (some a2)])))
theorem zj2 :FnS (zp2 ) F.a48 #[]:=dV ⟨[],[],[],[]⟩ Go.Proofs.Tryz.func105 (by kernel_rfl)
def z066 (p:Option Addr):Prog :=
Ba p λa1=>
AW T.a46 (Addr.add a1 0) 2 λs2=>
.must (((ByteArray.size s2+5:Nat):Int)<=9223372036854775807) <|
Be (s2++(ByteArray.mk #[46,115,110,97,112])) λs3=>
Aj 0 [.string s3]
theorem ztk (p:Option Addr):FnS (z066 p) F.a78 #[.pointer p]:=dV ⟨[],[],[],[]⟩ Go.Proofs.Tryz.func106 (by kernel_rfl)
def zf6 (raw:Sl) (most:Int):Prog :=
Ae F.a6 [Aa most] λp0 n1=>
Af n1 λn2=>
Ai (n2 != 0) (
Af n2 λn3=>
Aj 0 [Ah none,Aa n3])<|
Bh F.a35 [raw.v] λl4 b5=>
AL b5 λb6=>
Ai (not b6) (
Aj 0 [Ah none,Aa 6])<|
Bf F.a169 [l4.v] λp7=>
AF F.a17 [Ah p7,Aa 1099511627777] λn8=>
Ba p0 λa10=>
AS T.a13 a10 1 (Aa n8)<|
AF F.a17 [Ah p7,Aa 4096] λn11=>
Af n11 λn12=>
Ba p0 λa14=>
Aq T.a13 a14 1 λn15=>
Ai (decide (n15>1099511627777) || decide (n12>most)) (
Aj 0 [Ah none,Aa 6])<|
As 1 (
AH 2 (0,(0,())) λn16 n17=>
Ai (decide (n17<n12)) (
AF F.a17 [Ah p7,Aa 1048576] λn18=>
AF F.a17 [Ah p7,Aa 32768] λn19=>
AF F.a17 [Ah p7,Aa 2147483647] λn20=>
AF F.a17 [Ah p7,Aa 64] λn21=>
AF F.a17 [Ah p7,Aa 1099511627776] λn22=>
AF F.a177 [Ah p7,Aa (-1),Aa 1099511627776] λn23=>
AF F.a17 [Ah p7,Aa 1099511627776] λn24=>
Ab T.a4 λa25=>
Ac T.a4 a25 (By n18 n19 n20 n21 n22 n23 n24)<|
AD 3 (
Ay<|
AF F.a172 [Ah p7] λn26=>
Bz ((n26 != 0)=false) T.a4 a25 λn27 n28 n29 n30 n31 n32 n33=>
Bd ((n26 != 0)=false) p0 λa35=>
Ar ((n26 != 0)=false) T.a13 a35 1 λn36=>
Ai (n26 != 0) (
AA<|
Aj 3 [.bool true])<|
AJ F.a16 [By n27 n28 n29 n30 n31 n32 n33,Aa n36] λb37=>
Ar (not b37=false) T.a13 a25 0 λn38=>
AA<|
Aj 3 [.bool (not b37 || decide (n38<=n16))]) λb39=>
Ai b39 (
Aj 0 [Ah none,Aa 6])<|
Ay<|
Ba p0 λa41=>
Bv T.a18 a41 2 λm42=>
Aq T.a13 a25 0 λn43=>
B0 T.a4 a25 λn44 n45 n46 n47 n48 n49 n50=>
B1 (Instr.mapUpdate T.a18 (.map m42) (Aa n43) (By n44 n45 n46 n47 n48 n49 n50))<|
AA<|
Aq T.a13 a25 0 λn51=>
Af n51 λn52=>
Aj 2 [Aa n52,Aa (AB (n17+1))])<|
Aj 1 [])<|
AF F.a171 [Ah p7] λn53=>
Ai (n53 != 0) (
Aj 0 [Ah none,Aa 6])<|
Aj 0 [Ah p0,Aa 0]
def z08g (t:Option Addr):Prog :=
Ai (Option.isNone t) (
Aj 0 [Aa 0])<|
Ba t λa1=>
Aq T.a13 a1 1 λn2=>
Af n2 λn3=>
Aj 0 [Aa n3]
def z08j (raw:Sl):Prog :=
Bh F.a35 [raw.v] λl0 b1=>
AL b1 λb2=>
Ai (not b2) (
Aj 0 [Ah none,Aa 6])<|
Bf F.a169 [l0.v] λp3=>
Bf F.a48 [] λp4=>
AF F.a63 [Ah p3,Aa 1099511627777] λn5=>
Ba p4 λa7=>
AS T.a13 a7 0 (Aa n5)<|
AD 1 (
Ba p4 λa9=>
Aq T.a13 a9 0 λn10=>
Ai (decide (n10>1099511627777)) (
Aj 1 [.bool true])<|
AJ F.a59 [Ah p4,Ah p3] λb11=>
Ai (not b11) (
Aj 1 [.bool true])<|
AJ F.a57 [Ah p4,Ah p3] λb12=>
Ai (not b12) (
Aj 1 [.bool true])<|
AF F.a171 [Ah p3] λn13=>
Aj 1 [.bool (n13 != 0)]) λb14=>
Ai b14 (
Aj 0 [Ah none,Aa 6])<|
Aj 0 [Ah p4,Aa 0]
def z08k (v:Option Addr):Prog :=
Ai (Option.isNone v) (
Aj 0 [Aa 0])<|
Ba v λa1=>
Aq T.a13 a1 0 λn2=>
Af n2 λn3=>
Aj 0 [Aa n3]
def z04r (t:Option Addr) (b_0 b_1 b_2 b_3 b_4 b_5:Int) (b_6:Sl):Prog :=
AM T.a0 (Ao b_0 b_1 b_2 b_3 b_4 b_5 b_6) λa0=>
Aw T.a0 a0 λn1 n2 n3 n4 n5 n6 l7=>
Bk F.a9 [Ah t,Ao n1 n2 n3 n4 n5 n6 l7] λb8 n9 n10=>
Ab T.a6 λa11=>
Ac T.a6 a11 (Bl b8 n9)<|
Af n10 λn12=>
AZ (n12 != 0) (
Af n12 λn14=>
Aj 0 [Aa n14])<|
Au T.a3 a11 0 λb15=>
AZ b15 (
Aj 0 [Aa 4])<|
Ay<|
Aq T.a13 a0 0 λn17=>
Ba t λa19=>
Aq T.a13 a19 1 λn20=>
AL (decide (n17<n20)) λb21=>
AA<|
Ai b21 (
Aj 0 [Aa 8])<|
Aw T.a0 a0 λn22 n23 n24 n25 n26 n27 l28=>
AF F.a89 [Ao n22 n23 n24 n25 n26 n27 l28] λn29=>
Ba t λa31=>
AS T.a13 a31 1 (Aa n29)<|
Aq T.a13 a0 1 λn32=>
Ai (n32 == 0) (
Aj 0 [Aa 0])<|
Aq T.a13 a0 1 λn33=>
.call F.a13 [Ah t,Aa n33] (.tup [.agg [.int .i64,.int .i64,.int .i64,.int .i64,.int .i64,.int .i64,.int .i64],.one .bool]) (u8 λ(n34 n35 n36 n37 n38 n39 n40:Int) b41=>
Ab T.a4 λa42=>
Ac T.a4 a42 (By n34 n35 n36 n37 n38 n39 n40)<|
AL b41 λb43=>
Aq T.a13 a0 5 λn44=>
Af n44 λn45=>
AG 1 (
Ai b43 (
Aq T.a13 a42 6 λn46=>
Af (if n46>n45 then n46 else n45) λn47=>
Aj 1 [Aa n47])<|
Aj 1 [Aa n45]) λn48=>
Aq T.a12 a0 4 λn49=>
As 1 (
As 2 (
AL (n49 == 2) λb50=>
AD 3 (
Ai b50 (
Aj 3 [.bool b50])<|
AL (n49 == 3) λb51=>
Aj 3 [.bool b51]) λb52=>
Ai b52 (
Ay<|
Ba t λa54=>
Bv T.a18 a54 2 λm55=>
Aq T.a13 a0 1 λn56=>
Aq T.a13 a0 1 λn57=>
Aq T.a12 a0 2 λn58=>
B1 (Instr.mapUpdate T.a18 (.map m55) (Aa n56) (.agg #[Aa n57,Aa (AB (n58+1)),Aa 0,Aa 0,Aa 0,Aa (-1),Aa n48]))<|
AA<|
Aj 0 [Aa 0])<|
AZ (n49 == 1) (
B0 T.a4 a42 λn60 n61 n62 n63 n64 n65 n66=>
AJ F.a8 [By n60 n61 n62 n63 n64 n65 n66] λb67=>
As 3 (
Ai (not b67) (
Aq T.a13 a0 0 λn68=>
AS T.a13 a42 5 (Aa n68)<|
Aj 3 [])<|
Aj 3 [])<|
Aj 2 [])<|
Aj 2 [])<|
Ay<|
Ba t λa70=>
Bv T.a18 a70 2 λm71=>
Aq T.a13 a0 1 λn72=>
Aq T.a13 a0 1 λn73=>
Aq T.a12 a0 2 λn74=>
Aq T.a12 a0 3 λn75=>
AT T.a33 a0 6 λl76=>
Aq T.a13 a0 0 λn77=>
Aq T.a13 a42 5 λn78=>
B1 (Instr.mapUpdate T.a18 (.map m71) (Aa n72) (.agg #[Aa n73,Aa n74,Aa n75,Aa (Am l76),Aa n77,Aa n78,Aa n48]))<|
AA<|
Aj 1 [])<|
Aj 0 [Aa 0])
theorem zs3 (t:Option Addr) (b_0 b_1 b_2 b_3 b_4 b_5:Int) (b_6:Sl):FnS (z04r t b_0 b_1 b_2 b_3 b_4 b_5 b_6) F.a11 #[.pointer t,.agg #[.int .i64 b_0,.int .i64 b_1,.int .i64 b_2,.int .i64 b_3,.int .i64 b_4,.int .i64 b_5,.slice b_6.a b_6.len b_6.cap]]:=dV ⟨[(34587645138207506480,[(9,.one (.int .i64))]),(737869762948382064695,[(55,.one .bool)]),(2166395068749415481073467467,[])],[(1,[]),(4,[])],[],[]⟩ Go.Proofs.Tryz.func116 (by kernel_rfl)
def z05s (v:Option Addr) (b_0 b_1 b_2 b_3 b_4 b_5:Int) (b_6:Sl):Prog :=
AM T.a0 (Ao b_0 b_1 b_2 b_3 b_4 b_5 b_6) λa0=>
Aw T.a0 a0 λn1 n2 n3 n4 n5 n6 l7=>
AF F.a51 [Ah v,Ao n1 n2 n3 n4 n5 n6 l7] λn8=>
Af n8 λn9=>
Ai (n9 != 0) (
Af n9 λn10=>
Aj 0 [Aa n10])<|
Aw T.a0 a0 λn11 n12 n13 n14 n15 n16 l17=>
AF F.a89 [Ao n11 n12 n13 n14 n15 n16 l17] λn18=>
Ba v λa20=>
AS T.a13 a20 0 (Aa n18)<|
Bq 1 (
Ay<|
Ba v λa22=>
Br T.a19 a22 1 λm23=>
Bs T.a13 a0 1 λn24=>
Bt (Instr.lookup T.a19 (.map m23) (Aa n24) true) λn25 n26 n27 n28 b29=>
Ab T.a17 λa30=>
AA<|
Ac T.a17 a30 (Bu n25 n26 n27 n28)<|
AL b29 λb31=>
AA<|
Aj 1 [AP a30,.bool b31]) λa32 b33=>
Aq T.a12 a0 4 λn34=>
AL (n34 == 1 && not b33) λb35=>
As 1 (
Ai b35 (
Ay<|
Ba v λa37=>
Bv T.a19 a37 1 λm38=>
Aq T.a13 a0 1 λn39=>
Aq T.a13 a0 1 λn40=>
Aq T.a12 a0 2 λn41=>
Aq T.a13 a0 0 λn42=>
B1 (Instr.mapUpdate T.a19 (.map m38) (Aa n39) (.agg #[Aa n40,Aa n41,Aa n42,Aa (-1)]))<|
AA<|
Aj 1 [])<|
Aw T.a0 a0 λn43 n44 n45 n46 n47 n48 l49=>
AJ F.a61 [Ao n43 n44 n45 n46 n47 n48 l49] λb50=>
AL (b50 && b33) λb51=>
As 2 (
Ai b51 (
Ay<|
Ba v λa53=>
Bv T.a19 a53 1 λm54=>
Aq T.a13 a0 1 λn55=>
.act (Builtin.delete_ #[T.a19,T.a13] T.a49 #[.map m54,Aa n55]) (.tup []) (u0 <|
AA<|
Aq T.a12 a0 4 λn56=>
As 3 (
Ai (n56 == 3) (
Aq T.a13 a0 0 λn57=>
AS T.a13 a32 3 (Aa n57)<|
Ay<|
Ba v λa59=>
Bv T.a20 a59 2 λm60=>
AN T.a16 a32 0 λn61 n62=>
Bw T.a17 a32 λn63 n64 n65 n66=>
B1 (Instr.mapUpdate T.a20 (.map m60) (AO n61 n62) (Bu n63 n64 n65 n66))<|
AA<|
Aj 3 [])<|
Aj 3 [])<|
Aj 2 []))<|
Aj 2 [])<|
Aj 1 [])<|
Aj 0 [Aa 0]
theorem zt6 (v:Option Addr) (b_0 b_1 b_2 b_3 b_4 b_5:Int) (b_6:Sl):FnS (z05s v b_0 b_1 b_2 b_3 b_4 b_5 b_6) F.a56 #[.pointer v,.agg #[.int .i64 b_0,.int .i64 b_1,.int .i64 b_2,.int .i64 b_3,.int .i64 b_4,.int .i64 b_5,.slice b_6.a b_6.len b_6.cap]]:=dV ⟨[(309182778366441411431104577,[]),(309484419525534710019129395,[]),(309485009820782118771359773,[])],[],[(5,[(6,.one .adr),(7,.one .bool)])],[]⟩ Go.Proofs.Tryz.func117 (by kernel_rfl)
def z05v (b_0 b_1 b_2 b_3 b_4 b_5:Int) (b_6:Sl):Prog :=
AM T.a0 (Ao b_0 b_1 b_2 b_3 b_4 b_5 b_6) λa0=>
Aq T.a12 a0 4 λn1=>
Ar ((n1 == 2)=false) T.a12 a0 4 λn2=>
AL (n1 == 2 || n2 == 3) λb3=>
Aj 0 [.bool b3]
theorem zt9 (b_0 b_1 b_2 b_3 b_4 b_5:Int) (b_6:Sl):FnS (z05v b_0 b_1 b_2 b_3 b_4 b_5 b_6) F.a61 #[.agg #[.int .i64 b_0,.int .i64 b_1,.int .i64 b_2,.int .i64 b_3,.int .i64 b_4,.int .i64 b_5,.slice b_6.a b_6.len b_6.cap]]:=dV ⟨[],[],[],[]⟩ Go.Proofs.Tryz.func127 (by kernel_rfl)
def z05u (l_0 l_1 l_2:Int) (l_3:Int):Prog :=
AM T.a17 (Bu l_0 l_1 l_2 l_3) λa0=>
Ab T.a14 λa1=>
Aq T.a13 (Addr.add a0 0) 0 λn2=>
Aq T.a12 (Addr.add a0 0) 1 λn3=>
Aq T.a13 a0 2 λn4=>
Aq T.a13 a0 3 λn5=>
Ac T.a14 a1 (Bu n2 n3 n4 n5)<|
Bw T.a14 a1 λn6 n7 n8 n9=>
Aj 0 [Bu n6 n7 n8 n9]
theorem zt8 (l_0 l_1 l_2 l_3:Int):FnS (z05u l_0 l_1 l_2 l_3) F.a60 #[.agg #[.int .i64 l_0,.int .i64 l_1,.int .i64 l_2,.int .i64 l_3]]:=dV ⟨[],[],[],[]⟩ Go.Proofs.Tryz.func131 (by kernel_rfl)
def z05r (a_0 a_1 a_2 a_3 b_0 b_1 b_2:Int) (b_3:Int):Prog :=
AM T.a14 (Bu a_0 a_1 a_2 a_3) λa0=>
AM T.a14 (Bu b_0 b_1 b_2 b_3) λa1=>
Aq T.a13 a0 2 λn2=>
Aq T.a13 a1 2 λn3=>
AF F.a1 [Aa n2,Aa n3] λn4=>
Af n4 λn5=>
Aj 0 [Aa n5]
theorem zt4 (a_0 a_1 a_2 a_3 b_0 b_1 b_2 b_3:Int):FnS (z05r a_0 a_1 a_2 a_3 b_0 b_1 b_2 b_3) F.a54 #[.agg #[.int .i64 a_0,.int .i64 a_1,.int .i64 a_2,.int .i64 a_3],.agg #[.int .i64 b_0,.int .i64 b_1,.int .i64 b_2,.int .i64 b_3]]:=dV ⟨[],[],[],[]⟩ Go.Proofs.Tryz.func133 (by kernel_rfl)
def z04q (t:Option Addr) (b_0 b_1 b_2 b_3 b_4 b_5:Int) (b_6:Sl):Prog :=
AM T.a0 (Ao b_0 b_1 b_2 b_3 b_4 b_5 b_6) λa0=>
Ab T.a6 λa1=>
Ai (Option.isNone t) (
Ac T.a6 a1 (Bl false 0)<|
Bx T.a6 a1 λb2 n3=>
Aj 0 [Bl b2 n3,Aa 1])<|
Aw T.a0 a0 λn4 n5 n6 n7 n8 n9 l10=>
AF F.a91 [Ao n4 n5 n6 n7 n8 n9 l10] λn11=>
Af n11 λn12=>
Ar ((n12 != 0)=false) T.a13 a0 1 λn13=>
Ai (n12 != 0 || n13 == 0) (
Ac T.a6 a1 (Bl false 0)<|
Af n12 λn14=>
Bx T.a6 a1 λb15 n16=>
Aj 0 [Bl b15 n16,Aa n14])<|
Aq T.a13 a0 1 λn17=>
.call F.a13 [Ah t,Aa n17] (.tup [.agg [.int .i64,.int .i64,.int .i64,.int .i64,.int .i64,.int .i64,.int .i64],.one .bool]) (u8 λ(n18 n19 n20 n21 n22 n23 n24:Int) b25=>
Ab T.a4 λa26=>
Ac T.a4 a26 (By n18 n19 n20 n21 n22 n23 n24)<|
AL b25 λb27=>
Aq T.a12 a0 2 λn28=>
Aq T.a12 a26 1 λn29=>
Ai (decide (n28<n29)) (
Aw T.a0 a0 λn30 n31 n32 n33 n34 n35 l36=>
AJ F.a15 [Ao n30 n31 n32 n33 n34 n35 l36] λb37=>
Ai b37 (
Ac T.a6 a1 (.agg #[.bool true,Aa (-1)])<|
Bx T.a6 a1 λb38 n39=>
Aj 0 [Bl b38 n39,Aa 0])<|
Ac T.a6 a1 (Bl false 0)<|
Bx T.a6 a1 λb40 n41=>
Aj 0 [Bl b40 n41,Aa 20])<|
Aw T.a0 a0 λn42 n43 n44 n45 n46 n47 l48=>
AJ F.a15 [Ao n42 n43 n44 n45 n46 n47 l48] λb49=>
As 1 (
Ai (not b49) (
B0 T.a4 a26 λn50 n51 n52 n53 n54 n55 n56=>
Aw T.a0 a0 λn57 n58 n59 n60 n61 n62 l63=>
.call F.a14 [By n50 n51 n52 n53 n54 n55 n56,Ao n57 n58 n59 n60 n61 n62 l63] (.tup [.agg [.bool,.int .i64],.one .bool]) (u3 λb64 (n65:Int) b66=>
Ab T.a6 λa67=>
Ac T.a6 a67 (Bl b64 n65)<|
AZ b66 (
Bx T.a6 a67 λb69 n70=>
Ac T.a6 a1 (Bl b69 n70)<|
Bx T.a6 a1 λb71 n72=>
Aj 0 [Bl b71 n72,Aa 0])<|
Aj 1 []))<|
Aj 1 [])<|
B0 T.a4 a26 λn73 n74 n75 n76 n77 n78 n79=>
Aw T.a0 a0 λn80 n81 n82 n83 n84 n85 l86=>
AF F.a12 [Ah t,By n73 n74 n75 n76 n77 n78 n79,.bool b27,Ao n80 n81 n82 n83 n84 n85 l86] λn87=>
Ac T.a6 a1 (Bl false 0)<|
Af n87 λn88=>
Bx T.a6 a1 λb89 n90=>
Aj 0 [Bl b89 n90,Aa n88])
theorem zs2 (t:Option Addr) (b_0 b_1 b_2 b_3 b_4 b_5:Int) (b_6:Sl):FnS (z04q t b_0 b_1 b_2 b_3 b_4 b_5 b_6) F.a9 #[.pointer t,.agg #[.int .i64 b_0,.int .i64 b_1,.int .i64 b_2,.int .i64 b_3,.int .i64 b_4,.int .i64 b_5,.slice b_6.a b_6.len b_6.cap]]:=dV ⟨[(18374686479678046251,[])],[],[],[]⟩ Go.Proofs.Tryz.func164 (by kernel_rfl)
def z05q (v:Option Addr) (b_0 b_1 b_2 b_3 b_4 b_5:Int) (b_6:Sl):Prog :=
AM T.a0 (Ao b_0 b_1 b_2 b_3 b_4 b_5 b_6) λa0=>
Ai (Option.isNone v) (
Aj 0 [Aa 1])<|
Aw T.a0 a0 λn1 n2 n3 n4 n5 n6 l7=>
AF F.a91 [Ao n1 n2 n3 n4 n5 n6 l7] λn8=>
Af n8 λn9=>
Ai (n9 != 0) (
Af n9 λn10=>
Aj 0 [Aa n10])<|
Ay<|
Aq T.a13 a0 0 λn11=>
Ba v λa13=>
Aq T.a13 a13 0 λn14=>
AL (decide (n11<n14)) λb15=>
AA<|
Ai b15 (
Aj 0 [Aa 8])<|
Aq T.a12 a0 4 λn16=>
AZ (n16 != 0) (
Aw T.a0 a0 λn18 n19 n20 n21 n22 n23 l24=>
AF F.a58 [Ah v,Ao n18 n19 n20 n21 n22 n23 l24] λn25=>
Af n25 λn26=>
Aj 0 [Aa n26])<|
Aj 0 [Aa 0]
theorem zt2 (v:Option Addr) (b_0 b_1 b_2 b_3 b_4 b_5:Int) (b_6:Sl):FnS (z05q v b_0 b_1 b_2 b_3 b_4 b_5 b_6) F.a51 #[.pointer v,.agg #[.int .i64 b_0,.int .i64 b_1,.int .i64 b_2,.int .i64 b_3,.int .i64 b_4,.int .i64 b_5,.slice b_6.a b_6.len b_6.cap]]:=dV ⟨[],[],[],[]⟩ Go.Proofs.Tryz.func165 (by kernel_rfl)
def zf9 (r_0 r_1 r_2 r_3 r_4 r_5:Int) (r_6:Int):Prog :=
AM T.a4 (By r_0 r_1 r_2 r_3 r_4 r_5 r_6) λa0=>
Aq T.a13 a0 5 λn1=>
AL (decide (n1>=0)) λb2=>
Aj 0 [.bool b2]
theorem zwe (r_0 r_1 r_2 r_3 r_4 r_5 r_6:Int):FnS (zf9 r_0 r_1 r_2 r_3 r_4 r_5 r_6) F.a8 #[.agg #[.int .i64 r_0,.int .i64 r_1,.int .i64 r_2,.int .i64 r_3,.int .i64 r_4,.int .i64 r_5,.int .i64 r_6]]:=dV ⟨[],[],[],[]⟩ Go.Proofs.Tryz.func167 (by kernel_rfl)
def z08i (r:Option Addr) (most:Int):Prog :=
Bi F.a176 [Ah r] λn0=>
Bj n0 λn1=>
Ai (decide (n1>IntKind.wrap .u64 most)) (
Af (AB (most+1)) λn2=>
Aj 0 [Aa n2])<|
Af (AB n1) λn3=>
Aj 0 [Aa n3]
def z08h (r_0 r_1 r_2 r_3 r_4 r_5 r_6:Int) (next_:Int):Prog :=
AM T.a4 (By r_0 r_1 r_2 r_3 r_4 r_5 r_6) λa0=>
Aq T.a13 a0 0 λn1=>
Ar (decide (n1<1)=false) T.a13 a0 0 λn2=>
Ar ((decide (n1<1) || decide (n2>1048576))=false) T.a12 a0 1 λn3=>
Ar ((decide (n1<1) || decide (n2>1048576) || decide (n3>32768))=false) T.a13 a0 6 λn4=>
Ar ((decide (n1<1) || decide (n2>1048576) || decide (n3>32768) || decide (n4>1099511627776))=false) T.a12 a0 3 λn5=>
Ai (decide (n1<1) || decide (n2>1048576) || decide (n3>32768) || decide (n4>1099511627776) || decide (n5>64)) (
Aj 0 [.bool false])<|
Aq T.a12 a0 3 λn6=>
Ai (n6 == 0) (
Aq T.a12 a0 2 λn7=>
Ar ((n7 == 0)=true) T.a13 a0 4 λn8=>
Ar ((n7 == 0 && n8 == 0)=true) T.a13 a0 5 λn9=>
AL (n7 == 0 && n8 == 0 && n9 == -1) λb10=>
Aj 0 [.bool b10])<|
AD 1 (
Aq T.a12 a0 1 λn11=>
Bz (decide (n11<=32767)=true) T.a4 a0 λn12 n13 n14 n15 n16 n17 n18=>
Ai (decide (n11<=32767)) (
AF F.a7 [By n12 n13 n14 n15 n16 n17 n18] λn19=>
Ar (decide (n19<=2147483648)=true) T.a13 a0 4 λn20=>
Ar (decide (n19<=2147483648)=true) T.a12 a0 3 λn21=>
Ar ((decide (n19<=2147483648) && decide (AB (n20+n21)<=next_))=true) T.a13 a0 5 λn22=>
Ar ((decide (n19<=2147483648) && decide (AB (n20+n21)<=next_))=true) T.a13 a0 4 λn23=>
AL (decide (n19<=2147483648) && decide (AB (n20+n21)<=next_) && decide (n22<=n23)) λb24=>
Aj 1 [.bool b24])<|
Aj 1 [.bool false]) λb25=>
Aj 0 [.bool b25]
def z08o (r:Option Addr) (most:Int):Prog :=
Bi F.a176 [Ah r] λn0=>
Bj n0 λn1=>
Ai (decide (n1>IntKind.wrap .u64 most)) (
Af (AB (most+1)) λn2=>
Aj 0 [Aa n2])<|
Af (AB n1) λn3=>
Aj 0 [Aa n3]
def z08m (v:Option Addr) (r:Option Addr):Prog :=
AF F.a63 [Ah r,Aa 1024] λn0=>
Af n0 λn1=>
As 1 (
AH 2 (-1,(0,())) λn2 n3=>
Ai (decide (n3<n1)) (
Ba v λa5=>
Aq T.a13 a5 0 λn6=>
.call F.a62 [Ah r,Aa n6] (.tup [.agg [.int .i64,.int .i64,.int .i64,.int .i64],.one .bool]) (u5 λ(n7 n8 n9 n10:Int) b11=>
Ab T.a17 λa12=>
Ac T.a17 a12 (Bu n7 n8 n9 n10)<|
AL b11 λb13=>
AD 3 (
Ay<|
Ba v λa15=>
Br T.a19 a15 1 λm16=>
Bs T.a13 (Addr.add a12 0) 0 λn17=>
Bt (Instr.lookup T.a19 (.map m16) (Aa n17) true) λn18 n19 n20 n21 b22=>
Ab T.a17 λa23=>
AA<|
Ac T.a17 a23 (Bu n18 n19 n20 n21)<|
AL b22 λb24=>
AA<|
Aj 3 [.bool b24]) λb25=>
Ar ((not b13 || b25)=false) T.a13 a12 2 λn26=>
Ai (not b13 || b25 || decide (n26<=n2) || decide (n3>=1024)) (
Aj 0 [.bool false])<|
Ay<|
Ba v λa28=>
Bv T.a19 a28 1 λm29=>
Aq T.a13 (Addr.add a12 0) 0 λn30=>
Bw T.a17 a12 λn31 n32 n33 n34=>
B1 (Instr.mapUpdate T.a19 (.map m29) (Aa n30) (Bu n31 n32 n33 n34))<|
AA<|
Aq T.a13 a12 2 λn35=>
Af n35 λn36=>
Af (AB (n3+1)) λn37=>
Aj 2 [Aa n36,Aa n37]))<|
Aj 1 [])<|
AF F.a172 [Ah r] λn38=>
AL (n38 == 0) λb39=>
Aj 0 [.bool b39]
def z08l (v:Option Addr) (r:Option Addr):Prog :=
AF F.a63 [Ah r,Aa 4096] λn0=>
Af n0 λn1=>
As 1 (
AH 2 (-1,(0,())) λn2 n3=>
Ai (decide (n3<n1)) (
Ba v λa5=>
Aq T.a13 a5 0 λn6=>
.call F.a62 [Ah r,Aa n6] (.tup [.agg [.int .i64,.int .i64,.int .i64,.int .i64],.one .bool]) (u5 λ(n7 n8 n9 n10:Int) b11=>
Ab T.a17 λa12=>
Ac T.a17 a12 (Bu n7 n8 n9 n10)<|
AL b11 λb13=>
AF F.a63 [Ah r,Aa 1099511627776] λn14=>
AS T.a13 a12 3 (Aa n14)<|
AD 3 (
Ay<|
Ba v λa16=>
Br T.a20 a16 2 λm17=>
.hold True (ld T.a16 (Addr.add a12 0)) (sG [.int .i64,.int .i64]) (u2 λ(n18 n19:Int)=>
Bt (Instr.lookup T.a20 (.map m17) (AO n18 n19) true) λn20 n21 n22 n23 b24=>
Ab T.a17 λa25=>
AA<|
Ac T.a17 a25 (Bu n20 n21 n22 n23)<|
AL b24 λb26=>
AA<|
Aj 3 [.bool b26])) λb27=>
AD 3 (
Ay<|
Ai (not b13) (
AA<|
Aj 3 [.bool true])<|
AF F.a172 [Ah r] λn28=>
Bd ((n28 != 0 || b27)=false) v λa30=>
B2 ((n28 != 0 || b27)=false) T.a19 a30 1 λm31=>
Ar ((n28 != 0 || b27)=false) T.a13 (Addr.add a12 0) 0 λn32=>
.read ((n28 != 0 || b27)=false) (Instr.lookup T.a19 (.map m31) (Aa n32) false) (sG [.int .i64,.int .i64,.int .i64,.int .i64]) (u4 λ(n33 n34 n35 n36:Int)=>
B3 ((n28 != 0 || b27)=false) (ld T.a16 (Addr.add a12 0)) λn37 n38=>
Ar ((n28 != 0 || b27 || n33 == n37 && n34 == n38)=false) T.a13 a12 3 λn39=>
Ar ((n28 != 0 || b27 || n33 == n37 && n34 == n38 || decide (n39<=n2))=false) T.a13 a12 3 λn40=>
Ar ((n28 != 0 || b27 || n33 == n37 && n34 == n38 || decide (n39<=n2))=false) T.a13 a12 2 λn41=>
Ar ((n28 != 0 || b27 || n33 == n37 && n34 == n38 || decide (n39<=n2) || decide (n40<=n41))=false) T.a13 a12 3 λn42=>
Bd ((n28 != 0 || b27 || n33 == n37 && n34 == n38 || decide (n39<=n2) || decide (n40<=n41))=false) v λa44=>
Ar ((n28 != 0 || b27 || n33 == n37 && n34 == n38 || decide (n39<=n2) || decide (n40<=n41))=false) T.a13 a44 0 λn45=>
AA<|
Aj 3 [.bool (n28 != 0 || b27 || n33 == n37 && n34 == n38 || decide (n39<=n2) || decide (n40<=n41) || decide (n42>=n45) || decide (n3>=4096))])) λb46=>
Ai b46 (
Aj 0 [.bool false])<|
Ay<|
Ba v λa48=>
Bv T.a20 a48 2 λm49=>
AN T.a16 a12 0 λn50 n51=>
Bw T.a17 a12 λn52 n53 n54 n55=>
B1 (Instr.mapUpdate T.a20 (.map m49) (AO n50 n51) (Bu n52 n53 n54 n55))<|
AA<|
Aq T.a13 a12 3 λn56=>
Af n56 λn57=>
Af (AB (n3+1)) λn58=>
Aj 2 [Aa n57,Aa n58]))<|
Aj 1 [])<|
AF F.a172 [Ah r] λn59=>
AL (n59 == 0) λb60=>
Aj 0 [.bool b60]
def z04t (t:Option Addr) (pid:Int):Prog :=
Ab T.a4 λa0=>
Ba t λa2=>
Bv T.a18 a2 2 λm3=>
.read True (Instr.lookup T.a18 (.map m3) (Aa pid) true) (.tup [.agg [.int .i64,.int .i64,.int .i64,.int .i64,.int .i64,.int .i64,.int .i64],.one .bool]) (u8 λ(n4 n5 n6 n7 n8 n9 n10:Int) b11=>
Ab T.a4 λa12=>
Ac T.a4 a12 (By n4 n5 n6 n7 n8 n9 n10)<|
AL b11 λb13=>
Ai (not b13) (
Ac T.a4 a0 (.agg #[Aa pid,Aa (-1),Aa 0,Aa 0,Aa 0,Aa (-1),Aa 0])<|
B0 T.a4 a0 λn14 n15 n16 n17 n18 n19 n20=>
Aj 0 [By n14 n15 n16 n17 n18 n19 n20,.bool false])<|
B0 T.a4 a12 λn21 n22 n23 n24 n25 n26 n27=>
Ac T.a4 a0 (By n21 n22 n23 n24 n25 n26 n27)<|
B0 T.a4 a0 λn28 n29 n30 n31 n32 n33 n34=>
Aj 0 [By n28 n29 n30 n31 n32 n33 n34,.bool true])
theorem zs5 (t:Option Addr) (pid:Int):FnS (z04t t pid) F.a13 #[.pointer t,.int .i64 pid]:=dV ⟨[],[],[],[]⟩ Go.Proofs.Tryz.func202 (by kernel_rfl)
def z04v (b_0 b_1 b_2 b_3 b_4 b_5:Int) (b_6:Sl):Prog :=
AM T.a0 (Ao b_0 b_1 b_2 b_3 b_4 b_5 b_6) λa0=>
Aq T.a12 a0 4 λn1=>
Ar ((n1 == 2)=false) T.a12 a0 4 λn2=>
AL (n1 == 2 || n2 == 3) λb3=>
Aj 0 [.bool b3]
theorem zs7 (b_0 b_1 b_2 b_3 b_4 b_5:Int) (b_6:Sl):FnS (z04v b_0 b_1 b_2 b_3 b_4 b_5 b_6) F.a15 #[.agg #[.int .i64 b_0,.int .i64 b_1,.int .i64 b_2,.int .i64 b_3,.int .i64 b_4,.int .i64 b_5,.slice b_6.a b_6.len b_6.cap]]:=dV ⟨[],[],[],[]⟩ Go.Proofs.Tryz.func232 (by kernel_rfl)
def z04u (r_0 r_1 r_2 r_3 r_4 r_5 r_6 b_0 b_1 b_2 b_3 b_4 b_5:Int) (b_6:Sl):Prog :=
AM T.a4 (By r_0 r_1 r_2 r_3 r_4 r_5 r_6) λa0=>
AM T.a0 (Ao b_0 b_1 b_2 b_3 b_4 b_5 b_6) λa1=>
Ab T.a6 λa2=>
AD 1 (
Ay<|
Aq T.a12 a1 2 λn3=>
Aq T.a12 a0 1 λn4=>
AE ((n3 != n4)=false) T.a12 a1 3 λn5=>
.hold ((n3 != n4)=false) (ld T.a33 (Addr.add a1 6)) sL (u1 λl6=>
Bz ((n3 != n4)=false) T.a4 a0 λn7 n8 n9 n10 n11 n12 n13=>
Ai (n3 != n4) (
AA<|
Aj 1 [.bool true])<|
AF F.a7 [By n7 n8 n9 n10 n11 n12 n13] λn14=>
AA<|
Aj 1 [.bool (decide (AB (n5+(Am l6))>n14))])) λb15=>
Ai b15 (
Ac T.a6 a2 (Bl false 0)<|
Bx T.a6 a2 λb16 n17=>
Aj 0 [Bl b16 n17,.bool false])<|
Aq T.a12 a1 3 λn18=>
Aq T.a12 a0 2 λn19=>
AK ((n18 == n19)=true) T.a33 a1 6 λl20=>
Ar ((n18 == n19)=true) T.a12 a0 3 λn21=>
Ai (n18 == n19 && (Am l20) == n21) (
Aq T.a13 a0 4 λn22=>
Ac T.a6 a2 (Bl true n22)<|
Bx T.a6 a2 λb23 n24=>
Aj 0 [Bl b23 n24,.bool true])<|
Ac T.a6 a2 (.agg #[.bool true,Aa (-1)])<|
Bx T.a6 a2 λb25 n26=>
Aj 0 [Bl b25 n26,.bool true]
theorem zs6 (r_0 r_1 r_2 r_3 r_4 r_5 r_6 b_0 b_1 b_2 b_3 b_4 b_5:Int) (b_6:Sl):FnS (z04u r_0 r_1 r_2 r_3 r_4 r_5 r_6 b_0 b_1 b_2 b_3 b_4 b_5 b_6) F.a14 #[.agg #[.int .i64 r_0,.int .i64 r_1,.int .i64 r_2,.int .i64 r_3,.int .i64 r_4,.int .i64 r_5,.int .i64 r_6],.agg #[.int .i64 b_0,.int .i64 b_1,.int .i64 b_2,.int .i64 b_3,.int .i64 b_4,.int .i64 b_5,.slice b_6.a b_6.len b_6.cap]]:=dV ⟨[],[],[(1,[(21,.one .bool)])],[]⟩ Go.Proofs.Tryz.func233 (by kernel_rfl)
def z04s (t:Option Addr) (r_0 r_1 r_2 r_3 r_4 r_5 r_6:Int) (there:Bool) (b_0 b_1 b_2 b_3 b_4 b_5:Int) (b_6:Sl):Prog :=
AM T.a4 (By r_0 r_1 r_2 r_3 r_4 r_5 r_6) λa0=>
AM T.a0 (Ao b_0 b_1 b_2 b_3 b_4 b_5 b_6) λa1=>
B0 T.a4 a0 λn2 n3 n4 n5 n6 n7 n8=>
AF F.a7 [By n2 n3 n4 n5 n6 n7 n8] λn9=>
Af n9 λn10=>
Aq T.a12 a1 2 λn11=>
Aq T.a12 a0 1 λn12=>
AG 1 (
Ai (decide (n11>n12)) (
Aj 1 [Aa 0])<|
Aj 1 [Aa n10]) λn13=>
B0 T.a4 a0 λn14 n15 n16 n17 n18 n19 n20=>
AJ F.a8 [By n14 n15 n16 n17 n18 n19 n20] λb21=>
Ar (b21=true) T.a12 a1 2 λn22=>
Ar (b21=true) T.a12 a0 1 λn23=>
Ar (b21=true/\decide (n22>n23)=false) T.a12 a1 4 λn24=>
AZ (b21 && (decide (n22>n23) || n24 == 0)) (
Aj 0 [Aa 22])<|
Aw T.a0 a1 λn26 n27 n28 n29 n30 n31 l32=>
AJ F.a15 [Ao n26 n27 n28 n29 n30 n31 l32] λb33=>
Ar (not b33=true) T.a12 a1 3 λn34=>
AZ (not b33 && n34 != n13) (
Aj 0 [Aa 21])<|
Ay<|
Bd (not there=true) t λa37=>
B2 (not there=true) T.a18 a37 2 λm38=>
B4 (not there=true) (Builtin.len_ #[T.a18] T.a12 #[.map m38]) λn39=>
Bd (not there=true) t λa41=>
Ar (not there=true) T.a12 a41 0 λn42=>
AL (not there && decide (n39>=n42)) λb43=>
AA<|
Ai b43 (
Aj 0 [Aa 5])<|
Aj 0 [Aa 0]
theorem zs4 (t:Option Addr) (r_0 r_1 r_2 r_3 r_4 r_5 r_6:Int) (there:Bool) (b_0 b_1 b_2 b_3 b_4 b_5:Int) (b_6:Sl):FnS (z04s t r_0 r_1 r_2 r_3 r_4 r_5 r_6 there b_0 b_1 b_2 b_3 b_4 b_5 b_6) F.a12 #[.pointer t,.agg #[.int .i64 r_0,.int .i64 r_1,.int .i64 r_2,.int .i64 r_3,.int .i64 r_4,.int .i64 r_5,.int .i64 r_6],.bool there,.agg #[.int .i64 b_0,.int .i64 b_1,.int .i64 b_2,.int .i64 b_3,.int .i64 b_4,.int .i64 b_5,.slice b_6.a b_6.len b_6.cap]]:=dV ⟨[(2097168,[(9,.one (.int .i64))])],[],[],[]⟩ Go.Proofs.Tryz.func234 (by kernel_rfl)
def z05t (v:Option Addr) (b_0 b_1 b_2 b_3 b_4 b_5:Int) (b_6:Sl):Prog :=
AM T.a0 (Ao b_0 b_1 b_2 b_3 b_4 b_5 b_6) λa0=>
Aq T.a13 a0 1 λn1=>
Aq T.a12 a0 2 λn2=>
Ab T.a16 λa3=>
Ac T.a16 a3 (AO n1 n2)<|
AD 1 (
Ay<|
Ba v λa5=>
Br T.a20 a5 2 λm6=>
.hold True (ld T.a16 a3) (sG [.int .i64,.int .i64]) (u2 λ(n7 n8:Int)=>
Bt (Instr.lookup T.a20 (.map m6) (AO n7 n8) true) λn9 n10 n11 n12 b13=>
Ab T.a17 λa14=>
AA<|
Ac T.a17 a14 (Bu n9 n10 n11 n12)<|
AL b13 λb15=>
AA<|
Aj 1 [.bool b15])) λb16=>
Bq 1 (
Ay<|
Ba v λa18=>
Br T.a19 a18 1 λm19=>
Bs T.a13 a0 1 λn20=>
Bt (Instr.lookup T.a19 (.map m19) (Aa n20) true) λn21 n22 n23 n24 b25=>
Ab T.a17 λa26=>
AA<|
Ac T.a17 a26 (Bu n21 n22 n23 n24)<|
AL b25 λb27=>
AA<|
Aj 1 [AP a26,.bool b27]) λa28 b29=>
AZ b16 (
Aj 0 [Aa 20])<|
B3 (b29=true) (ld T.a16 (Addr.add a28 0)) λn31 n32=>
B3 (b29=true) (ld T.a16 a3) λn33 n34=>
AZ (b29 && not (n31 == n33 && n32 == n34)) (
Aj 0 [Aa 22])<|
Aq T.a12 a0 4 λn36=>
Bd ((n36 == 1 && not b29)=true) v λa38=>
B2 ((n36 == 1 && not b29)=true) T.a19 a38 1 λm39=>
B4 ((n36 == 1 && not b29)=true) (Builtin.len_ #[T.a19] T.a12 #[.map m39]) λn40=>
AZ (n36 == 1 && not b29 && decide (n40>=1024)) (
Aj 0 [Aa 5])<|
Aq T.a12 a0 4 λn42=>
Bd ((n42 == 3 && b29)=true) v λa44=>
B2 ((n42 == 3 && b29)=true) T.a20 a44 2 λm45=>
B4 ((n42 == 3 && b29)=true) (Builtin.len_ #[T.a20] T.a12 #[.map m45]) λn46=>
AZ (n42 == 3 && b29 && decide (n46>=4096)) (
Aj 0 [Aa 5])<|
Aj 0 [Aa 0]
theorem zt7 (v:Option Addr) (b_0 b_1 b_2 b_3 b_4 b_5:Int) (b_6:Sl):FnS (z05t v b_0 b_1 b_2 b_3 b_4 b_5 b_6) F.a58 #[.pointer v,.agg #[.int .i64 b_0,.int .i64 b_1,.int .i64 b_2,.int .i64 b_3,.int .i64 b_4,.int .i64 b_5,.slice b_6.a b_6.len b_6.cap]]:=dV ⟨[],[],[(2,[(7,.one .bool)]),(3,[(8,.one .adr),(9,.one .bool)])],[]⟩ Go.Proofs.Tryz.func235 (by kernel_rfl)
def zf8 (r_0 r_1 r_2 r_3 r_4 r_5:Int) (r_6:Int):Prog :=
AM T.a4 (By r_0 r_1 r_2 r_3 r_4 r_5 r_6) λa0=>
Aq T.a12 a0 2 λn1=>
Aq T.a12 a0 3 λn2=>
Af (AB (n1+n2)) λn3=>
Aj 0 [Aa n3]
theorem zwd (r_0 r_1 r_2 r_3 r_4 r_5 r_6:Int):FnS (zf8 r_0 r_1 r_2 r_3 r_4 r_5 r_6) F.a7 #[.agg #[.int .i64 r_0,.int .i64 r_1,.int .i64 r_2,.int .i64 r_3,.int .i64 r_4,.int .i64 r_5,.int .i64 r_6]]:=dV ⟨[],[],[],[]⟩ Go.Proofs.Tryz.func253 (by kernel_rfl)
def z08n (r:Option Addr) (next_:Int):Prog :=
Ab T.a17 λa0=>
AF F.a63 [Ah r,Aa 1048576] λn1=>
AF F.a63 [Ah r,Aa 32767] λn2=>
AF F.a63 [Ah r,Aa 1099511627776] λn3=>
Ab T.a17 λa4=>
Ac T.a17 a4 (.agg #[Aa n1,Aa n2,Aa n3,Aa (-1)])<|
AD 1 (
Ay<|
.hold True (ld T.a17 a4) (sG [.int .i64,.int .i64,.int .i64,.int .i64]) (u4 λ(n5 n6 n7 n8:Int)=>
AF F.a172 [Ah r] λn9=>
Ar ((n9 == 0)=true) T.a13 (Addr.add a4 0) 0 λn10=>
Ar ((n9 == 0 && decide (n10>=1))=true) T.a13 (Addr.add a4 0) 0 λn11=>
Ar ((n9 == 0 && decide (n10>=1) && decide (n11<=1048576))=true) T.a12 (Addr.add a4 0) 1 λn12=>
AE ((n9 == 0 && decide (n10>=1) && decide (n11<=1048576) && decide (n12<=32767))=true) T.a13 a4 2 λn13=>
Ac T.a17 a0 (Bu n5 n6 n7 n8)<|
AL (n9 == 0 && decide (n10>=1) && decide (n11<=1048576) && decide (n12<=32767) && decide (n13<next_)) λb14=>
AA<|
Aj 1 [.bool b14])) λb15=>
Bw T.a17 a0 λn16 n17 n18 n19=>
Aj 0 [Bu n16 n17 n18 n19,.bool b15]
def z05o (a_0 a_1 a_2 a_3 b_0 b_1 b_2:Int) (b_3:Int):Prog :=
AM T.a14 (Bu a_0 a_1 a_2 a_3) λa0=>
AM T.a14 (Bu b_0 b_1 b_2 b_3) λa1=>
Aq T.a13 a0 3 λn2=>
Aq T.a13 a1 3 λn3=>
AF F.a1 [Aa n2,Aa n3] λn4=>
Af n4 λn5=>
Aj 0 [Aa n5]
theorem zt0 (a_0 a_1 a_2 a_3 b_0 b_1 b_2 b_3:Int):FnS (z05o a_0 a_1 a_2 a_3 b_0 b_1 b_2 b_3) F.a49 #[.agg #[.int .i64 a_0,.int .i64 a_1,.int .i64 a_2,.int .i64 a_3],.agg #[.int .i64 b_0,.int .i64 b_1,.int .i64 b_2,.int .i64 b_3]]:=dV ⟨[],[],[],[]⟩ Go.Proofs.Tryz.func290 (by kernel_rfl)
structure RowA where
 pid:Int
 epoch:Int
 seq:Int
 count:Int
 base:Int
 frm:Int
 time:Int
def z5t (t:RowA):List Value:=[.int .i64 t.pid,.int .i64 t.epoch,.int .i64 t.seq,.int .i64 t.count,.int .i64 t.base,.int .i64 t.frm,.int .i64 t.time]
instance:EncA z5t [.int .i64,.int .i64,.int .i64,.int .i64,.int .i64,.int .i64,.int .i64] (λt=>(t.pid,t.epoch,t.seq,t.count,t.base,t.frm,t.time,())):=⟨λ_=>rfl⟩
instance:EncN z5t 7:=⟨λ_=>rfl,by decide,by simp [z5t,Value.oneCell']⟩
instance:EncF z5t 0 (.int .i64) (λt=>t.pid):=⟨λ_=>rfl⟩
instance:EncF z5t 1 (.int .i64) (λt=>t.epoch):=⟨λ_=>rfl⟩
instance:EncF z5t 2 (.int .i64) (λt=>t.seq):=⟨λ_=>rfl⟩
instance:EncF z5t 3 (.int .i64) (λt=>t.count):=⟨λ_=>rfl⟩
instance:EncF z5t 4 (.int .i64) (λt=>t.base):=⟨λ_=>rfl⟩
instance:EncF z5t 5 (.int .i64) (λt=>t.frm):=⟨λ_=>rfl⟩
instance:EncF z5t 6 (.int .i64) (λt=>t.time):=⟨λ_=>rfl⟩
abbrev evW (t:RowA):Value:=.agg #[.int .i64 t.pid,.int .i64 t.epoch,.int .i64 t.seq,.int .i64 t.count,.int .i64 t.base,.int .i64 t.frm,.int .i64 t.time]
def z058 (room:Int):Prog :=
Ai (decide (room<0) || decide (room>4194304)) (
Aj 0 [Ah none,Aa 2])<|
.act (Instr.makeMap T.a21 none) sM (u1 λm0=>
AM T.a7 (.agg #[Aa (-1),.bool false,Aa room,Aa 0,.map m0]) λa1=>
Aj 0 [AP a1,Aa 0])
theorem zsk (room:Int):FnS (z058 room) F.a31 #[.int .i64 room]:=dV ⟨[],[],[],[]⟩ Go.Proofs.Tryz.func11 (by kernel_rfl)
def z04w (d:Option Addr) (name:ByteArray) (parts:Sl):Prog :=
AF F.a29 [Ah d] λn0=>
Af n0 λn1=>
Ai (n1 != 0) (
Af n1 λn2=>
Aj 0 [Aa n2])<|
AJ F.a30 [.string name] λb3=>
Ai (not b3) (
Aj 0 [Aa 2])<|
AG 1 (
AH 2 (0,(0,())) λn4 n5=>
Ai (decide (n5<(Am parts))) (
.ex [.adr] (c1 λa6=>0<=n5/\n5<(Am parts)/\parts.a=some a6) (u1 λa7=>
AT T.a41 a7 (Int.toNat n5*1) λl8=>
AF F.a20 [Ah d] λn9=>
Ai (decide ((Am l8)>AB (n9-n4))) (
Aj 0 [Aa 5])<|
Af (AB (n4+(Am l8))) λn10=>
Aj 2 [Aa n10,Aa (AB (n5+1))]))<|
Aj 1 [Aa n4]) λn11=>
Ba d λa13=>
Bv T.a21 a13 4 λm14=>
.read True (Instr.lookup T.a21 (.map m14) (.string name) true) (.tup [.one .ptr,.one .bool]) (u2 λp15 b16=>
AL b16 λb17=>
.bind 1 [.one .ptr] (
Ai (not b17) (
Ba d λa19=>
Bv T.a21 a19 4 λm20=>
.read True (Builtin.len_ #[T.a21] T.a12 #[.map m20]) (sI .i64) (u1 λ(n21:Int)=>
Ai (decide (n21>=128)) (
Aj 0 [Aa 5])<|
AM T.a8 (.agg #[.slice none 0 0,Aa 0]) λa22=>
Ba d λa24=>
Bv T.a21 a24 4 λm25=>
B1 (Instr.mapUpdate T.a21 (.map m25) (.string name) (AP a22))<|
Aj 1 [AP a22]))<|
Aj 1 [Ah p15]) (u1 λp26=>
As 1 (
Ax 2 (0,()) λn27=>
Ai (decide (n27<(Am parts))) (
.ex [.adr] (c1 λa28=>0<=n27/\n27<(Am parts)/\parts.a=some a28) (u1 λa29=>
AT T.a41 a29 (Int.toNat n27*1) λl30=>
Ba p26 λa32=>
AT T.a41 a32 0 λl33=>
AY (app T.a41 T.a41 T.a41 l33.v l30.v) λl34=>
Ba p26 λa36=>
AS T.a41 a36 0 l34.v<|
Aj 2 [Aa (AB (n27+1))]))<|
Aj 1 [])<|
Ba d λa38=>
Aq T.a12 a38 3 λn39=>
Ba d λa41=>
AS T.a12 a41 3 (Aa (AB (n39+n11)))<|
Ba d λa43=>
AR F.a32 [B5 a43 0]<|
Aj 0 [Aa 0]))
theorem zs8 (d:Option Addr) (name:ByteArray) (parts:Sl):FnS (z04w d name parts) F.a18 #[.pointer d,.string name,.slice parts.a parts.len parts.cap]:=dV ⟨[(604426016319167176900660,[(11,.one .ptr)])],[(0,[(8,.one (.int .i64))]),(2,[])],[],[(0,[(8,.one (.int .i64)),(26,.one (.int .i64))]),(2,[(69,.one (.int .i64))])]⟩ Go.Proofs.Tryz.func25 (by kernel_rfl)
def z052 (d:Option Addr) (name:ByteArray):Prog :=
.call F.a27 [Ah d,.string name] (sG [.slc,.int .i64]) (u2 λl0 (n1:Int)=>
Af (Am l0) λn2=>
Aj 0 [Aa n2])
theorem zse (d:Option Addr) (name:ByteArray):FnS (z052 d name) F.a25 #[.pointer d,.string name]:=dV ⟨[],[],[],[]⟩ Go.Proofs.Tryz.func27 (by kernel_rfl)
def z051 (d:Option Addr) (name:ByteArray):Prog :=
AF F.a29 [Ah d] λn0=>
Af n0 λn1=>
Ai (n1 != 0) (
Af n1 λn2=>
Aj 0 [Aa n2])<|
Ba d λa4=>
Bv T.a21 a4 4 λm5=>
B6 (Instr.lookup T.a21 (.map m5) (.string name) false) λp6=>
Ai (Option.isNone p6) (
Aj 0 [Aa 3])<|
AR F.a28 [Ah d,.string name]<|
Ba d λa8=>
AR F.a32 [B5 a8 0]<|
Aj 0 [Aa 0]
theorem zsd (d:Option Addr) (name:ByteArray):FnS (z051 d name) F.a24 #[.pointer d,.string name]:=dV ⟨[],[],[],[]⟩ Go.Proofs.Tryz.func44 (by kernel_rfl)
def z056 (d:Option Addr):Prog :=
AZ (Option.isNone d) (
Aj 0 [Aa 1])<|
Ba d λa2=>
Au T.a3 (Addr.add a2 0) 1 λb3=>
AZ b3 (
Aj 0 [Aa 9])<|
Aj 0 [Aa 0]
theorem zsi (d:Option Addr):FnS (z056 d) F.a29 #[.pointer d]:=dV ⟨[],[],[],[]⟩ Go.Proofs.Tryz.func68 (by kernel_rfl)
def z057 (s:ByteArray):Prog :=
Ai (decide (((ByteArray.size s:Nat):Int)<1) || decide (((ByteArray.size s:Nat):Int)>24)) (
Aj 0 [.bool false])<|
AY (convert T.a46 T.a41 (.string s)) λl0=>
As 1 (
Ax 2 (0,()) λn1=>
Ai (decide (n1<(Am l0))) (
.ex [.adr] (c1 λa2=>0<=n1/\n1<(Am l0)/\l0.a=some a2) (u1 λa3=>
B7 T.a48 a3 (Int.toNat n1*1) λn4=>
B8 n4 λn5=>
AL (decide (n5>=97) && decide (n5<=122)) λb6=>
AL (decide (n5>=48) && decide (n5<=57)) λb7=>
Ai (not b6 && not b7 && n5 != 46 && n5 != 45) (
Aj 0 [.bool false])<|
Aj 2 [Aa (AB (n1+1))]))<|
Aj 1 [])<|
Aj 0 [.bool true]
theorem zsj (s:ByteArray):FnS (z057 s) F.a30 #[.string s]:=dV ⟨[],[(0,[])],[],[(0,[(18,.one (.int .i64))])]⟩ Go.Proofs.Tryz.func69 (by kernel_rfl)
def z04y (d:Option Addr):Prog :=
Ai (Option.isNone d) (
Aj 0 [Aa 0])<|
Ay<|
Ba d λa1=>
Aq T.a12 a1 2 λn2=>
Ba d λa4=>
Aq T.a12 a4 3 λn5=>
Af (if 0>AB (n2-n5) then 0 else AB (n2-n5)) λn6=>
AA<|
Aj 0 [Aa n6]
theorem zsa (d:Option Addr):FnS (z04y d) F.a20 #[.pointer d]:=dV ⟨[],[],[],[]⟩ Go.Proofs.Tryz.func70 (by kernel_rfl)
def z059 (p:Option Addr):Prog :=
Ba p λa1=>
Aq T.a12 a1 0 λn2=>
As 1 (
Ai (decide (n2>0)) (
Ba p λa4=>
Aq T.a12 a4 0 λn5=>
Ba p λa7=>
AS T.a12 a7 0 (Aa (AB (n5-1)))<|
Ba p λa9=>
Aq T.a12 a9 0 λn10=>
Ba p λa12=>
AS T.a3 a12 1 (.bool (n10 == 0))<|
Aj 1 [])<|
Aj 1 [])<|
Aj 0 []
theorem zsl (p:Option Addr):FnS (z059 p) F.a32 #[.pointer p]:=dV ⟨[(17179344902,[])],[],[],[]⟩ Go.Proofs.Tryz.func71 (by kernel_rfl)
def zf68 (m:Option Nat):Prog :=
AM T.a21 (.map m) λa0=>
Aj 0 [.func (Fn.func 148) #[] #[AP a0]]
theorem zf68_calls (m:Option Nat):FnS (zf68 m) F.a64 #[.map m]:=dV ⟨[],[],[],[]⟩ Go.Proofs.Tryz.func72 (by kernel_rfl)
def zf169 (s:ByteArray) (prefix_:ByteArray):Prog :=
AJ F.a46 [.string s,.string prefix_] λb0=>
AL b0 λb1=>
Aj 0 [.bool b1]
theorem zf169_calls (s prefix_:ByteArray):FnS (zf169 s prefix_) F.a160 #[.string s,.string prefix_]:=dV ⟨[],[],[],[]⟩ Go.Proofs.Tryz.func73 (by kernel_rfl)
def z082 (x:Sl):Prog :=
Af (Am x) λn0=>
AF F.a65 [.int .u64 (IntKind.wrap .u64 n0)] λn1=>
AR F.a153 [x.v,Aa 0,Aa n0,Aa n1]<|
Aj 0 []
def z054 (d:Option Addr) (name:ByteArray):Prog :=
Ab T.a8 λa0=>
Bd (Option.isNone d=false) d λa2=>
B2 (Option.isNone d=false) T.a21 a2 4 λm3=>
.read (Option.isNone d=false) (Instr.lookup T.a21 (.map m3) (.string name) false) sP (u1 λp4=>
Ai (Option.isNone d || Option.isNone p4) (
Ac T.a8 a0 (.agg #[.slice none 0 0,Aa 0])<|
B9 T.a8 a0 λl5 n6=>
Aj 0 [BA l5 n6])<|
Ba d λa8=>
Bv T.a21 a8 4 λm9=>
B6 (Instr.lookup T.a21 (.map m9) (.string name) false) λp10=>
Ba p10 λa12=>
B9 T.a8 a12 λl13 n14=>
Ac T.a8 a0 (BA l13 n14)<|
B9 T.a8 a0 λl15 n16=>
Aj 0 [BA l15 n16])
theorem zsg (d:Option Addr) (name:ByteArray):FnS (z054 d name) F.a27 #[.pointer d,.string name]:=dV ⟨[],[],[],[]⟩ Go.Proofs.Tryz.func75 (by kernel_rfl)
def z04z (d:Option Addr):Prog :=
Bd (Option.isNone d=false) d λa1=>
Bn (Option.isNone d=false) T.a3 (Addr.add a1 0) 1 λb2=>
AL (Option.isNone d || b2) λb3=>
Aj 0 [.bool b3]
theorem zsb (d:Option Addr):FnS (z04z d) F.a21 #[.pointer d]:=dV ⟨[],[],[],[]⟩ Go.Proofs.Tryz.func97 (by kernel_rfl)
def z050 (d:Option Addr) (name:ByteArray):Prog :=
Ai (Option.isNone d) (
Aj 0 [.slice none 0 0,Aa 1])<|
Ba d λa1=>
Bv T.a21 a1 4 λm2=>
B6 (Instr.lookup T.a21 (.map m2) (.string name) false) λp3=>
Ai (Option.isNone p3) (
Aj 0 [.slice none 0 0,Aa 3])<|
Ba p3 λa5=>
AT T.a41 a5 0 λl6=>
AC F.a0 [l6.v] λl7=>
Aj 0 [l7.v,Aa 0]
theorem zsc (d:Option Addr) (name:ByteArray):FnS (z050 d name) F.a23 #[.pointer d,.string name]:=dV ⟨[],[],[],[]⟩ Go.Proofs.Tryz.func102 (by kernel_rfl)
def z055 (d:Option Addr) (name:ByteArray):Prog :=
Ba d λa1=>
Bv T.a21 a1 4 λm2=>
B6 (Instr.lookup T.a21 (.map m2) (.string name) false) λp3=>
As 1 (
Ai (not (Option.isNone p3)) (
Ay<|
Ba d λa5=>
Aq T.a12 a5 3 λn6=>
Ba p3 λa8=>
AT T.a41 a8 0 λl9=>
Ba d λa11=>
AS T.a12 a11 3 (Aa (AB (n6-(Am l9))))<|
AA<|
Ba d λa13=>
Bv T.a21 a13 4 λm14=>
.act (Builtin.delete_ #[T.a21,T.a46] T.a49 #[.map m14,.string name]) (.tup []) (u0 <|
Aj 1 []))<|
Aj 1 [])<|
Aj 0 []
theorem zsh (d:Option Addr) (name:ByteArray):FnS (z055 d name) F.a28 #[.pointer d,.string name]:=dV ⟨[(4398012956684,[])],[],[],[]⟩ Go.Proofs.Tryz.func103 (by kernel_rfl)
def z008 (n:Int) (f:Value):Prog :=
Af n λn0=>
AG 1 (
AH 2 (0,(n0,())) λn1 n2=>
Ai (decide (n1<n2)) (
Af (AB (Int.fdiv (IntKind.wrap .u64 (AB (n1+n2))) 2)) λn3=>
.callv (f) [Aa n3] sB (u1 λb4=>
Bo 3 (
Ai (not b4) (
Af (AB (n3+1)) λn5=>
Aj 3 [Aa n5,Aa n2])<|
Af n3 λn6=>
Aj 3 [Aa n1,Aa n6]) λn7 n8=>
Aj 2 [Aa n7,Aa n8]))<|
Aj 1 [Aa n1]) λn9=>
Af n9 λn10=>
Aj 0 [Aa n10]
theorem znt (n:Int) (f:Value) {w:World} {R:List Value->World->Prop} (h:(z008 n f).wp P (λ_=>True) w λe vs w'=>e=0/\R vs w'):Ret P F.a159 #[.int .i64 n,f] w R:=dS (n:=26) (rv:=[.tmp 4]) { cnd:=[(120259477525,[(5,.one (.int .i64)),(6,.one (.int .i64))])],blk:=[(0,[(5,.one (.int .i64))])],reg:=[],lps:=[(0,[(5,.one (.int .i64)),(6,.one (.int .i64))])] } [.val (.int .i64 n),.any f] Go.Proofs.Tryz.func121 (by kernel_rfl) (by kernel_rfl) (by kernel_rfl) (by kernel_rfl) h
def z005 (x:Sl) (cmp:Value):Prog :=
Af (Am x) λn0=>
AF F.a65 [.int .u64 (IntKind.wrap .u64 n0)] λn1=>
AR F.a152 [x.v,Aa 0,Aa n0,Aa n1,cmp]<|
Aj 0 []
theorem znd (x:Sl) (cmp:Value) {w:World} {R:List Value->World->Prop} (h:(z005 x cmp).wp P (λ_=>True) w λe vs w'=>e=0/\R vs w'):Ret P F.a129 #[.slice x.a x.len x.cap,cmp] w R:=dS (n:=14) (rv:=[]) { cnd:=[],blk:=[],reg:=[],lps:=[] } [.val (.slice x.a x.len x.cap),.any cmp] Go.Proofs.Tryz.func132 (by kernel_rfl) (by kernel_rfl) (by kernel_rfl) (by kernel_rfl) h
def zf1 (x:Int) (y:Int):Prog :=
AJ F.a3 [Aa x] λb0=>
AL b0 λb1=>
AJ F.a3 [Aa y] λb2=>
AL b2 λb3=>
Ai b1 (
Ai b3 (
Aj 0 [Aa 0])<|
Aj 0 [Aa (-1)])<|
Ai b3 (
Aj 0 [Aa 1])<|
Ai (decide (x<y)) (
Aj 0 [Aa (-1)])<|
Ai (decide (x>y)) (
Aj 0 [Aa 1])<|
Aj 0 [Aa 0]
theorem zwa (x y:Int):FnS (zf1 x y) F.a1 #[.int .i64 x,.int .i64 y]:=dV ⟨[],[],[],[]⟩ Go.Proofs.Tryz.func134 (by kernel_rfl)
def zf48 (s:ByteArray) (prefix_:ByteArray):Prog :=
.must (decide (((ByteArray.size s:Nat):Int)>=((ByteArray.size prefix_:Nat):Int))=true->0<=((ByteArray.size prefix_:Nat):Int)/\((ByteArray.size prefix_:Nat):Int)<=((ByteArray.size s:Nat):Int)) <|
AL (decide (((ByteArray.size s:Nat):Int)>=((ByteArray.size prefix_:Nat):Int)) && ByteArray.toList (ByteArray.extract s 0 (Int.toNat (((ByteArray.size prefix_:Nat):Int)))) == ByteArray.toList prefix_) λb0=>
Aj 0 [.bool b0]
theorem zf48_calls (s prefix_:ByteArray):FnS (zf48 s prefix_) F.a46 #[.string s,.string prefix_]:=dV ⟨[],[],[],[]⟩ Go.Proofs.Tryz.func149 (by kernel_rfl)
def z08d (data:Sl) (a b:Int) (limit:Int):Prog :=
.loop 1 [.one (.int .i64),.one (.int .i64),.one (.int .i64),.one .bool,.one .bool] (a,(b,(limit,(true,(true,()))))) (u5 λ(n0 n1 n2:Int) b3 b4=>
.bind 2 [.one (.int .i64),.one (.int .i64),.one (.int .i64),.one .bool,.one .bool] (
Af (AB (n1-n0)) λn5=>
Ai (decide (n5<=12)) (
AR F.a138 [data.v,Aa n0,Aa n1]<|
Aj 0 [])<|
Ai (n2 == 0) (
AR F.a136 [data.v,Aa n0,Aa n1]<|
Aj 0 [])<|
AG 3 (
Ai (not b3) (
AR F.a132 [data.v,Aa n0,Aa n1]<|
Af (AB (n2-1)) λn6=>
Aj 3 [Aa n6])<|
Aj 3 [Aa n2]) λn7=>
Bp F.a134 [data.v,Aa n0,Aa n1] λn8 n9=>
Af n8 λn10=>
Af n9 λn11=>
Bo 3 (
Ai (n11 == 2) (
AR F.a155 [data.v,Aa n0,Aa n1]<|
Af (AB (AB (n1-1)-AB (n10-n0))) λn12=>
Aj 3 [Aa n12,Aa 1])<|
Aj 3 [Aa n10,Aa n11]) λn13 n14=>
As 3 (
Ai (b3 && b4 && n14 == 1) (
AJ F.a147 [data.v,Aa n0,Aa n1] λb15=>
Ai b15 (
Aj 0 [])<|
Aj 3 [])<|
Aj 3 [])<|
AD 3 (
Ay<|
.ex [.adr] (c1 λa16=>decide (n0>0)=true->0<=AB (n0-1)/\AB (n0-1)<(Am data)/\data.a=some a16) (u1 λa17=>
BB (decide (n0>0)=true) T.a46 a17 (Int.toNat (AB (n0-1))*1) λs18=>
.ex [.adr] (c1 λa19=>decide (n0>0)=true->0<=n13/\n13<(Am data)/\data.a=some a19) (u1 λa20=>
BB (decide (n0>0)=true) T.a46 a20 (Int.toNat n13*1) λs21=>
Ai (decide (n0>0)) (
AJ F.a2 [.string s18,.string s21] λb22=>
AA<|
Aj 3 [.bool (not b22)])<|
AA<|
Aj 3 [.bool false]))) λb23=>
Ai b23 (
AF F.a150 [data.v,Aa n0,Aa n1,Aa n13] λn24=>
Af n24 λn25=>
Af n25 λn26=>
Aj 2 [Aa n26,Aa n1,Aa n7,.bool b3,.bool b4])<|
BC F.a151 [data.v,Aa n0,Aa n1,Aa n13] λn27 b28=>
Af n27 λn29=>
AL b28 λb30=>
AL b30 λb31=>
Af (AB (n29-n0)) λn32=>
Af (AB (n1-n29)) λn33=>
Af (AB (Int.tdiv n5 8)) λn34=>
.bind 3 [.one (.int .i64),.one (.int .i64),.one .bool] (
Ai (decide (n32<n33)) (
AL (decide (n32>=n34)) λb35=>
AR F.a153 [data.v,Aa n0,Aa n29,Aa n7]<|
Af (AB (n29+1)) λn36=>
Aj 3 [Aa n36,Aa n1,.bool b35])<|
AL (decide (n33>=n34)) λb37=>
AR F.a153 [data.v,Aa (AB (n29+1)),Aa n1,Aa n7]<|
Af n29 λn38=>
Aj 3 [Aa n0,Aa n38,.bool b37]) (u3 λ(n39 n40:Int) b41=>
Aj 2 [Aa n39,Aa n40,Aa n7,.bool b41,.bool b31])) (u5 λ(n42 n43 n44:Int) b45 b46=>
Aj 1 [Aa n42,Aa n43,Aa n44,.bool b45,.bool b46]))
def zyq (x:Int):Prog :=
AF F.a66 [.int .u64 x] λn0=>
Af n0 λn1=>
Aj 0 [Aa n1]
theorem zgj (x:Int):FnS (zyq x) F.a65 #[.int .u64 x]:=dV ⟨[],[],[],[]⟩ Go.Proofs.Tryz.func151 (by kernel_rfl)
def z053 (d:Option Addr) (names:Sl):Prog :=
AF F.a29 [Ah d] λn0=>
Af n0 λn1=>
Ai (n1 != 0) (
Af n1 λn2=>
Aj 0 [Aa n2])<|
As 1 (
Ax 2 (0,()) λn3=>
Ai (decide (n3<(Am names))) (
.ex [.adr] (c1 λa4=>0<=n3/\n3<(Am names)/\names.a=some a4) (u1 λa5=>
AW T.a46 a5 (Int.toNat n3*1) λs6=>
Be s6 λs7=>
Ba d λa9=>
Bv T.a21 a9 4 λm10=>
B6 (Instr.lookup T.a21 (.map m10) (.string s7) false) λp11=>
Ai (Option.isNone p11) (
Aj 0 [Aa 3])<|
Aj 2 [Aa (AB (n3+1))]))<|
Aj 1 [])<|
Ak 1 (
Ai ((Am names) == 0) (
AC F.a22 [Ah d,.string (ByteArray.mk #[])] λl12=>
Aj 1 [l12.v])<|
Aj 1 [names.v]) λl13=>
As 1 (
Ax 2 (0,()) λn14=>
Ai (decide (n14<(Am l13))) (
.ex [.adr] (c1 λa15=>0<=n14/\n14<(Am l13)/\l13.a=some a15) (u1 λa16=>
AW T.a46 a16 (Int.toNat n14*1) λs17=>
Be s17 λs18=>
Ba d λa20=>
Bv T.a21 a20 4 λm21=>
B6 (Instr.lookup T.a21 (.map m21) (.string s18) false) λp22=>
Ba p22 λa24=>
AT T.a41 a24 0 λl25=>
Ba p22 λa27=>
AS T.a12 a27 1 (Aa (Am l25))<|
Aj 2 [Aa (AB (n14+1))]))<|
Aj 1 [])<|
Ba d λa29=>
AR F.a32 [B5 a29 0]<|
Aj 0 [Aa 0]
theorem zsf (d:Option Addr) (names:Sl):FnS (z053 d names) F.a26 #[.pointer d,.slice names.a names.len names.cap]:=dV ⟨[(105553116274720,[(1,.one .slc)])],[(0,[]),(2,[])],[],[(0,[(18,.one (.int .i64))]),(2,[(37,.one (.int .i64))])]⟩ Go.Proofs.Tryz.func159 (by kernel_rfl)
def z04x (d:Option Addr) (name:ByteArray) (n:Int):Prog :=
AF F.a29 [Ah d] λn0=>
Af n0 λn1=>
Ai (n1 != 0) (
Af n1 λn2=>
Aj 0 [Aa n2])<|
Ba d λa4=>
Bv T.a21 a4 4 λm5=>
B6 (Instr.lookup T.a21 (.map m5) (.string name) false) λp6=>
AZ (Option.isNone p6) (
Aj 0 [Aa 3])<|
Bd (decide (n<0)=false) p6 λa9=>
AK (decide (n<0)=false) T.a41 a9 0 λl10=>
AZ (decide (n<0) || decide (n>(Am l10))) (
Aj 0 [Aa 2])<|
Ay<|
Ba d λa13=>
Aq T.a12 a13 3 λn14=>
Ba p6 λa16=>
AT T.a41 a16 0 λl17=>
Ba d λa19=>
AS T.a12 a19 3 (Aa (AB (n14-AB ((Am l17)-n))))<|
AA<|
Ba p6 λa21=>
AT T.a41 a21 0 λl22=>
.must (0<=n/\n<=n/\n<=((l22.cap:Nat):Int)) <|
Ba p6 λa24=>
AS T.a41 a24 0 (.slice l22.a (Int.toNat n) (Int.toNat n))<|
Ba p6 λa26=>
Aq T.a12 a26 1 λn27=>
Ba p6 λa29=>
AS T.a12 a29 1 (Aa (if n<n27 then n else n27))<|
Ba d λa31=>
AR F.a32 [B5 a31 0]<|
Aj 0 [Aa 0]
theorem zs9 (d:Option Addr) (name:ByteArray) (n:Int):FnS (z04x d name n) F.a19 #[.pointer d,.string name,.int .i64 n]:=dV ⟨[],[],[],[]⟩ Go.Proofs.Tryz.func189 (by kernel_rfl)
def z07h (data:Sl) (a b limit:Int) (cmp:Value):Prog :=
.loop 1 [.one (.int .i64),.one (.int .i64),.one (.int .i64),.one .bool,.one .bool] (a,(b,(limit,(true,(true,()))))) (u5 λ(n0 n1 n2:Int) b3 b4=>
.bind 2 [.one (.int .i64),.one (.int .i64),.one (.int .i64),.one .bool,.one .bool] (
Af (AB (n1-n0)) λn5=>
Ai (decide (n5<=12)) (
AR F.a137 [data.v,Aa n0,Aa n1,cmp]<|
Aj 0 [])<|
Ai (n2 == 0) (
AR F.a135 [data.v,Aa n0,Aa n1,cmp]<|
Aj 0 [])<|
AG 3 (
Ai (not b3) (
AR F.a131 [data.v,Aa n0,Aa n1,cmp]<|
Af (AB (n2-1)) λn6=>
Aj 3 [Aa n6])<|
Aj 3 [Aa n2]) λn7=>
Bp F.a133 [data.v,Aa n0,Aa n1,cmp] λn8 n9=>
Af n8 λn10=>
Af n9 λn11=>
Bo 3 (
Ai (n11 == 2) (
AR F.a154 [data.v,Aa n0,Aa n1,cmp]<|
Af (AB (AB (n1-1)-AB (n10-n0))) λn12=>
Aj 3 [Aa n12,Aa 1])<|
Aj 3 [Aa n10,Aa n11]) λn13 n14=>
As 3 (
Ai (b3 && b4 && n14 == 1) (
AJ F.a146 [data.v,Aa n0,Aa n1,cmp] λb15=>
Ai b15 (
Aj 0 [])<|
Aj 3 [])<|
Aj 3 [])<|
AD 3 (
Ay<|
.ex [.adr] (c1 λa16=>decide (n0>0)=true->0<=AB (n0-1)/\AB (n0-1)<(Am data)/\data.a=some a16) (u1 λa17=>
BD (decide (n0>0)=true) T.a14 a17 (Int.toNat (AB (n0-1))*4) λn18 n19 n20 n21=>
.ex [.adr] (c1 λa22=>decide (n0>0)=true->0<=n13/\n13<(Am data)/\data.a=some a22) (u1 λa23=>
BD (decide (n0>0)=true) T.a14 a23 (Int.toNat n13*4) λn24 n25 n26 n27=>
Ai (decide (n0>0)) (
BE cmp [Bu n18 n19 n20 n21,Bu n24 n25 n26 n27] λn28=>
AA<|
Aj 3 [.bool (not (decide (n28<0)))])<|
AA<|
Aj 3 [.bool false]))) λb29=>
Ai b29 (
AF F.a149 [data.v,Aa n0,Aa n1,Aa n13,cmp] λn30=>
Af n30 λn31=>
Af n31 λn32=>
Aj 2 [Aa n32,Aa n1,Aa n7,.bool b3,.bool b4])<|
BC F.a148 [data.v,Aa n0,Aa n1,Aa n13,cmp] λn33 b34=>
Af n33 λn35=>
AL b34 λb36=>
AL b36 λb37=>
Af (AB (n35-n0)) λn38=>
Af (AB (n1-n35)) λn39=>
Af (AB (Int.tdiv n5 8)) λn40=>
.bind 3 [.one (.int .i64),.one (.int .i64),.one .bool] (
Ai (decide (n38<n39)) (
AL (decide (n38>=n40)) λb41=>
AR F.a152 [data.v,Aa n0,Aa n35,Aa n7,cmp]<|
Af (AB (n35+1)) λn42=>
Aj 3 [Aa n42,Aa n1,.bool b41])<|
AL (decide (n39>=n40)) λb43=>
AR F.a152 [data.v,Aa (AB (n35+1)),Aa n1,Aa n7,cmp]<|
Af n35 λn44=>
Aj 3 [Aa n0,Aa n44,.bool b43]) (u3 λ(n45 n46:Int) b47=>
Aj 2 [Aa n45,Aa n46,Aa n7,.bool b47,.bool b37])) (u5 λ(n48 n49 n50:Int) b51 b52=>
Aj 1 [Aa n48,Aa n49,Aa n50,.bool b51,.bool b52]))
theorem znp (data:Sl) (a b limit:Int) (cmp:Value) {w:World} {R:List Value->World->Prop} (h:(z07h data a b limit cmp).wp P (λ_=>True) w λe vs w'=>e=0/\R vs w'):Ret P F.a152 #[.slice data.a data.len data.cap,.int .i64 a,.int .i64 b,.int .i64 limit,cmp] w R:=dS (n:=148) (rv:=[]) { cnd:=[(571957152676085799,[(3,.one (.int .i64))]),(1208335523804270569717816,[(13,.one (.int .i64)),(14,.one (.int .i64))]),(9594035304461697130468212811,[]),(1461501288881759191162698246220685009525288231037,[(1,.one (.int .i64)),(2,.one (.int .i64)),(10,.one .bool)])],blk:=[(1,[(1,.one (.int .i64)),(2,.one (.int .i64)),(3,.one (.int .i64)),(10,.one .bool),(11,.one .bool)])],reg:=[(17,[(97,.one .bool)])],lps:=[(0,[(1,.one (.int .i64)),(2,.one (.int .i64)),(3,.one (.int .i64)),(10,.one .bool),(11,.one .bool)])] } [.val (.slice data.a data.len data.cap),.val (.int .i64 a),.val (.int .i64 b),.val (.int .i64 limit),.any cmp] Go.Proofs.Tryz.func211 (by kernel_rfl) (by kernel_rfl) (by kernel_rfl) (by kernel_rfl) h
def zf3 (x:Int):Prog :=
AL (x != x) λb0=>
Aj 0 [.bool b0]
theorem zwb (x:Int):FnS (zf3 x) F.a3 #[.int .i64 x]:=dV ⟨[],[],[],[]⟩ Go.Proofs.Tryz.func212 (by kernel_rfl)
def z086 (data:Sl) (a:Int) (b:Int):Prog :=
Af (AB (a+1)) λn0=>
As 1 (
Ax 2 (n0,()) λn1=>
Ai (decide (n1<b)) (
As 3 (
Af n1 λn2=>
As 4 (
Ax 5 (n2,()) λn3=>
AD 6 (
Ay<|
.ex [.adr] (c1 λa4=>decide (n3>a)=true->0<=n3/\n3<(Am data)/\data.a=some a4) (u1 λa5=>
BB (decide (n3>a)=true) T.a46 a5 (Int.toNat n3*1) λs6=>
.ex [.adr] (c1 λa7=>decide (n3>a)=true->0<=AB (n3-1)/\AB (n3-1)<(Am data)/\data.a=some a7) (u1 λa8=>
BB (decide (n3>a)=true) T.a46 a8 (Int.toNat (AB (n3-1))*1) λs9=>
Ai (decide (n3>a)) (
AJ F.a2 [.string s6,.string s9] λb10=>
AA<|
Aj 6 [.bool b10])<|
AA<|
Aj 6 [.bool false]))) λb11=>
Ai b11 (
As 6 (
Ay<|
.ex [.adr] (c1 λa12=>0<=AB (n3-1)/\AB (n3-1)<(Am data)/\data.a=some a12) (u1 λa13=>
AW T.a46 a13 (Int.toNat (AB (n3-1))*1) λs14=>
.ex [.adr] (c1 λa15=>0<=n3/\n3<(Am data)/\data.a=some a15) (u1 λa16=>
AW T.a46 a16 (Int.toNat n3*1) λs17=>
.ex [.adr] (c1 λa18=>0<=n3/\n3<(Am data)/\data.a=some a18) (u1 λa19=>
AS T.a46 a19 (Int.toNat n3*1) (.string s14)<|
.ex [.adr] (c1 λa20=>0<=AB (n3-1)/\AB (n3-1)<(Am data)/\data.a=some a20) (u1 λa21=>
AS T.a46 a21 (Int.toNat (AB (n3-1))*1) (.string s17)<|
AA<|
Aj 6 [])))))<|
Af (AB (n3-1)) λn22=>
Aj 5 [Aa n22])<|
Aj 4 [])<|
Aj 3 [])<|
Af (AB (n1+1)) λn23=>
Aj 2 [Aa n23])<|
Aj 1 [])<|
Aj 0 []
def z085 (data:Sl) (a:Int) (b:Int):Prog :=
Af a λn0=>
Af (AB (b-a)) λn1=>
Af (AB (Int.tdiv (AB (n1-1)) 2)) λn2=>
As 1 (
Ax 2 (n2,()) λn3=>
Ai (decide (n3>=0)) (
AR F.a157 [data.v,Aa n3,Aa n1,Aa n0]<|
Af (AB (n3-1)) λn4=>
Aj 2 [Aa n4])<|
Aj 1 [])<|
Af (AB (n1-1)) λn5=>
As 1 (
Ax 2 (n5,()) λn6=>
Ai (decide (n6>=0)) (
As 3 (
Ay<|
.ex [.adr] (c1 λa7=>0<=AB (n0+n6)/\AB (n0+n6)<(Am data)/\data.a=some a7) (u1 λa8=>
AW T.a46 a8 (Int.toNat (AB (n0+n6))*1) λs9=>
.ex [.adr] (c1 λa10=>0<=n0/\n0<(Am data)/\data.a=some a10) (u1 λa11=>
AW T.a46 a11 (Int.toNat n0*1) λs12=>
.ex [.adr] (c1 λa13=>0<=n0/\n0<(Am data)/\data.a=some a13) (u1 λa14=>
AS T.a46 a14 (Int.toNat n0*1) (.string s9)<|
.ex [.adr] (c1 λa15=>0<=AB (n0+n6)/\AB (n0+n6)<(Am data)/\data.a=some a15) (u1 λa16=>
AS T.a46 a16 (Int.toNat (AB (n0+n6))*1) (.string s12)<|
AA<|
Aj 3 [])))))<|
AR F.a157 [data.v,Aa 0,Aa n6,Aa n0]<|
Af (AB (n6-1)) λn17=>
Aj 2 [Aa n17])<|
Aj 1 [])<|
Aj 0 []
def z083 (data:Sl) (a:Int) (b:Int):Prog :=
Af (AB (b-a)) λn0=>
As 1 (
Ai (decide (n0>=8)) (
Ab T.a45 λa1=>
Ac T.a45 a1 (.int .u64 (IntKind.wrap .u64 n0))<|
Bi F.a143 [Aa n0] λn2=>
Bj n2 λn3=>
Af (AB (AB (a+AB (AB (Int.tdiv n0 4)*2))-1)) λn4=>
As 2 (
Ax 3 (n4,()) λn5=>
Ai (decide (n5<=AB (AB (a+AB (AB (Int.tdiv n0 4)*2))+1))) (
Bi F.a158 [AP a1] λn6=>
Af (AB (IntKind.wrap .u64 (((BitVec.toNat (BitVec.ofInt 64 n6 &&& BitVec.ofInt 64 (IntKind.wrap .u64 (n3-1))):Nat):Int)))) λn7=>
AG 4 (
Ai (decide (n7>=n0)) (
Af (AB (n7-n0)) λn8=>
Aj 4 [Aa n8])<|
Aj 4 [Aa n7]) λn9=>
As 4 (
Ay<|
.ex [.adr] (c1 λa10=>0<=AB (a+n9)/\AB (a+n9)<(Am data)/\data.a=some a10) (u1 λa11=>
AW T.a46 a11 (Int.toNat (AB (a+n9))*1) λs12=>
.ex [.adr] (c1 λa13=>0<=n5/\n5<(Am data)/\data.a=some a13) (u1 λa14=>
AW T.a46 a14 (Int.toNat n5*1) λs15=>
.ex [.adr] (c1 λa16=>0<=n5/\n5<(Am data)/\data.a=some a16) (u1 λa17=>
AS T.a46 a17 (Int.toNat n5*1) (.string s12)<|
.ex [.adr] (c1 λa18=>0<=AB (a+n9)/\AB (a+n9)<(Am data)/\data.a=some a18) (u1 λa19=>
AS T.a46 a19 (Int.toNat (AB (a+n9))*1) (.string s15)<|
AA<|
Aj 4 [])))))<|
Af (AB (n5+1)) λn20=>
Aj 3 [Aa n20])<|
Aj 2 [])<|
Aj 1 [])<|
Aj 1 [])<|
Aj 0 []
def z084 (data:Sl) (a:Int) (b:Int):Prog :=
Af (AB (b-a)) λn0=>
Ab T.a12 λa1=>
Af (AB (a+AB (AB (Int.tdiv n0 4)*1))) λn2=>
Af (AB (a+AB (AB (Int.tdiv n0 4)*2))) λn3=>
Af (AB (a+AB (AB (Int.tdiv n0 4)*3))) λn4=>
AG 1 (
Ai (decide (n0>=8)) (
.bind 2 [.one (.int .i64),.one (.int .i64),.one (.int .i64)] (
Ai (decide (n0>=50)) (
AF F.a140 [data.v,Aa n2,AP a1] λn5=>
Af n5 λn6=>
AF F.a140 [data.v,Aa n3,AP a1] λn7=>
Af n7 λn8=>
AF F.a140 [data.v,Aa n4,AP a1] λn9=>
Af n9 λn10=>
Aj 2 [Aa n6,Aa n8,Aa n10])<|
Aj 2 [Aa n2,Aa n3,Aa n4]) (u3 λ(n11 n12 n13:Int)=>
AF F.a142 [data.v,Aa n11,Aa n12,Aa n13,AP a1] λn14=>
Af n14 λn15=>
Aj 1 [Aa n15]))<|
Aj 1 [Aa n3]) λn16=>
BF T.a12 a1 λn17=>
AZ (n17 == 0) (
Af n16 λn19=>
Aj 0 [Aa n19,Aa 1])<|
AZ (n17 == 12) (
Af n16 λn21=>
Aj 0 [Aa n21,Aa 2])<|
Af n16 λn22=>
Aj 0 [Aa n22,Aa 0]
def z08e (data:Sl) (a:Int) (b:Int):Prog :=
Af a λn0=>
Af (AB (b-1)) λn1=>
As 1 (
AH 2 (n0,(n1,())) λn2 n3=>
Ai (decide (n2<n3)) (
As 3 (
Ay<|
.ex [.adr] (c1 λa4=>0<=n3/\n3<(Am data)/\data.a=some a4) (u1 λa5=>
AW T.a46 a5 (Int.toNat n3*1) λs6=>
.ex [.adr] (c1 λa7=>0<=n2/\n2<(Am data)/\data.a=some a7) (u1 λa8=>
AW T.a46 a8 (Int.toNat n2*1) λs9=>
.ex [.adr] (c1 λa10=>0<=n2/\n2<(Am data)/\data.a=some a10) (u1 λa11=>
AS T.a46 a11 (Int.toNat n2*1) (.string s6)<|
.ex [.adr] (c1 λa12=>0<=n3/\n3<(Am data)/\data.a=some a12) (u1 λa13=>
AS T.a46 a13 (Int.toNat n3*1) (.string s9)<|
AA<|
Aj 3 [])))))<|
Af (AB (n2+1)) λn14=>
Af (AB (n3-1)) λn15=>
Aj 2 [Aa n14,Aa n15])<|
Aj 1 [])<|
Aj 0 []
def z08a (data:Sl) (a:Int) (b:Int):Prog :=
Af (AB (a+1)) λn0=>
As 1 (
AH 2 (n0,(0,())) λn1 n2=>
Ai (decide (n2<5)) (
AG 3 (
AG 4 (
Ax 5 (n1,()) λn3=>
AD 6 (
Ay<|
.ex [.adr] (c1 λa4=>decide (n3<b)=true->0<=n3/\n3<(Am data)/\data.a=some a4) (u1 λa5=>
BB (decide (n3<b)=true) T.a46 a5 (Int.toNat n3*1) λs6=>
.ex [.adr] (c1 λa7=>decide (n3<b)=true->0<=AB (n3-1)/\AB (n3-1)<(Am data)/\data.a=some a7) (u1 λa8=>
BB (decide (n3<b)=true) T.a46 a8 (Int.toNat (AB (n3-1))*1) λs9=>
Ai (decide (n3<b)) (
AJ F.a2 [.string s6,.string s9] λb10=>
AA<|
Aj 6 [.bool (not b10)])<|
AA<|
Aj 6 [.bool false]))) λb11=>
Ai b11 (
Af (AB (n3+1)) λn12=>
Aj 5 [Aa n12])<|
Aj 4 [Aa n3]) λn13=>
Ai (n13 == b) (
Aj 0 [.bool true])<|
Ai (decide (AB (b-a)<50)) (
Aj 0 [.bool false])<|
As 4 (
Ay<|
.ex [.adr] (c1 λa14=>0<=AB (n13-1)/\AB (n13-1)<(Am data)/\data.a=some a14) (u1 λa15=>
AW T.a46 a15 (Int.toNat (AB (n13-1))*1) λs16=>
.ex [.adr] (c1 λa17=>0<=n13/\n13<(Am data)/\data.a=some a17) (u1 λa18=>
AW T.a46 a18 (Int.toNat n13*1) λs19=>
.ex [.adr] (c1 λa20=>0<=n13/\n13<(Am data)/\data.a=some a20) (u1 λa21=>
AS T.a46 a21 (Int.toNat n13*1) (.string s16)<|
.ex [.adr] (c1 λa22=>0<=AB (n13-1)/\AB (n13-1)<(Am data)/\data.a=some a22) (u1 λa23=>
AS T.a46 a23 (Int.toNat (AB (n13-1))*1) (.string s19)<|
AA<|
Aj 4 [])))))<|
As 4 (
Ai (decide (AB (n13-a)>=2)) (
Af (AB (n13-1)) λn24=>
As 5 (
Ax 6 (n24,()) λn25=>
Ai (decide (n25>=1)) (
Ay<|
.ex [.adr] (c1 λa26=>0<=n25/\n25<(Am data)/\data.a=some a26) (u1 λa27=>
AW T.a46 a27 (Int.toNat n25*1) λs28=>
.ex [.adr] (c1 λa29=>0<=AB (n25-1)/\AB (n25-1)<(Am data)/\data.a=some a29) (u1 λa30=>
AW T.a46 a30 (Int.toNat (AB (n25-1))*1) λs31=>
AJ F.a2 [.string s28,.string s31] λb32=>
AA<|
Ai (not b32) (
Aj 5 [])<|
As 7 (
Ay<|
.ex [.adr] (c1 λa33=>0<=AB (n25-1)/\AB (n25-1)<(Am data)/\data.a=some a33) (u1 λa34=>
AW T.a46 a34 (Int.toNat (AB (n25-1))*1) λs35=>
.ex [.adr] (c1 λa36=>0<=n25/\n25<(Am data)/\data.a=some a36) (u1 λa37=>
AW T.a46 a37 (Int.toNat n25*1) λs38=>
.ex [.adr] (c1 λa39=>0<=n25/\n25<(Am data)/\data.a=some a39) (u1 λa40=>
AS T.a46 a40 (Int.toNat n25*1) (.string s35)<|
.ex [.adr] (c1 λa41=>0<=AB (n25-1)/\AB (n25-1)<(Am data)/\data.a=some a41) (u1 λa42=>
AS T.a46 a42 (Int.toNat (AB (n25-1))*1) (.string s38)<|
AA<|
Aj 7 [])))))<|
Af (AB (n25-1)) λn43=>
Aj 6 [Aa n43])))<|
Aj 5 [])<|
Aj 4 [])<|
Aj 4 [])<|
As 4 (
Ai (decide (AB (b-n13)>=2)) (
Af (AB (n13+1)) λn44=>
As 5 (
Ax 6 (n44,()) λn45=>
Ai (decide (n45<b)) (
Ay<|
.ex [.adr] (c1 λa46=>0<=n45/\n45<(Am data)/\data.a=some a46) (u1 λa47=>
AW T.a46 a47 (Int.toNat n45*1) λs48=>
.ex [.adr] (c1 λa49=>0<=AB (n45-1)/\AB (n45-1)<(Am data)/\data.a=some a49) (u1 λa50=>
AW T.a46 a50 (Int.toNat (AB (n45-1))*1) λs51=>
AJ F.a2 [.string s48,.string s51] λb52=>
AA<|
Ai (not b52) (
Aj 5 [])<|
As 7 (
Ay<|
.ex [.adr] (c1 λa53=>0<=AB (n45-1)/\AB (n45-1)<(Am data)/\data.a=some a53) (u1 λa54=>
AW T.a46 a54 (Int.toNat (AB (n45-1))*1) λs55=>
.ex [.adr] (c1 λa56=>0<=n45/\n45<(Am data)/\data.a=some a56) (u1 λa57=>
AW T.a46 a57 (Int.toNat n45*1) λs58=>
.ex [.adr] (c1 λa59=>0<=n45/\n45<(Am data)/\data.a=some a59) (u1 λa60=>
AS T.a46 a60 (Int.toNat n45*1) (.string s55)<|
.ex [.adr] (c1 λa61=>0<=AB (n45-1)/\AB (n45-1)<(Am data)/\data.a=some a61) (u1 λa62=>
AS T.a46 a62 (Int.toNat (AB (n45-1))*1) (.string s58)<|
AA<|
Aj 7 [])))))<|
Af (AB (n45+1)) λn63=>
Aj 6 [Aa n63])))<|
Aj 5 [])<|
Aj 4 [])<|
Aj 4 [])<|
Aj 3 [Aa n13]) λn64=>
Af (AB (n2+1)) λn65=>
Aj 2 [Aa n64,Aa n65])<|
Aj 1 [])<|
Aj 0 [.bool false]
def zf2 (x:ByteArray) (y:ByteArray):Prog :=
AD 1 (
AJ F.a4 [.string x] λb0=>
Ai b0 (
AJ F.a4 [.string y] λb1=>
AL (not b1 || Op.bytesLess (ByteArray.toList x) (ByteArray.toList y)) λb2=>
Aj 1 [.bool b2])<|
AL (Op.bytesLess (ByteArray.toList x) (ByteArray.toList y)) λb3=>
Aj 1 [.bool b3]) λb4=>
Aj 0 [.bool b4]
def z08b (data:Sl) (a b:Int) (pivot:Int):Prog :=
As 1 (
Ay<|
.ex [.adr] (c1 λa0=>0<=pivot/\pivot<(Am data)/\data.a=some a0) (u1 λa1=>
AW T.a46 a1 (Int.toNat pivot*1) λs2=>
.ex [.adr] (c1 λa3=>0<=a/\a<(Am data)/\data.a=some a3) (u1 λa4=>
AW T.a46 a4 (Int.toNat a*1) λs5=>
.ex [.adr] (c1 λa6=>0<=a/\a<(Am data)/\data.a=some a6) (u1 λa7=>
AS T.a46 a7 (Int.toNat a*1) (.string s2)<|
.ex [.adr] (c1 λa8=>0<=pivot/\pivot<(Am data)/\data.a=some a8) (u1 λa9=>
AS T.a46 a9 (Int.toNat pivot*1) (.string s5)<|
AA<|
Aj 1 [])))))<|
Af (AB (a+1)) λn10=>
Af (AB (b-1)) λn11=>
AG 1 (
AH 2 (n10,(n11,())) λn12 n13=>
Bo 3 (
AG 4 (
Ax 5 (n12,()) λn14=>
AD 6 (
Ay<|
.ex [.adr] (c1 λa15=>decide (n14<=n13)=true->0<=a/\a<(Am data)/\data.a=some a15) (u1 λa16=>
BB (decide (n14<=n13)=true) T.a46 a16 (Int.toNat a*1) λs17=>
.ex [.adr] (c1 λa18=>decide (n14<=n13)=true->0<=n14/\n14<(Am data)/\data.a=some a18) (u1 λa19=>
BB (decide (n14<=n13)=true) T.a46 a19 (Int.toNat n14*1) λs20=>
Ai (decide (n14<=n13)) (
AJ F.a2 [.string s17,.string s20] λb21=>
AA<|
Aj 6 [.bool (not b21)])<|
AA<|
Aj 6 [.bool false]))) λb22=>
Ai b22 (
Af (AB (n14+1)) λn23=>
Aj 5 [Aa n23])<|
Aj 4 [Aa n14]) λn24=>
AG 4 (
Ax 5 (n13,()) λn25=>
AD 6 (
Ay<|
.ex [.adr] (c1 λa26=>decide (n24<=n25)=true->0<=a/\a<(Am data)/\data.a=some a26) (u1 λa27=>
BB (decide (n24<=n25)=true) T.a46 a27 (Int.toNat a*1) λs28=>
.ex [.adr] (c1 λa29=>decide (n24<=n25)=true->0<=n25/\n25<(Am data)/\data.a=some a29) (u1 λa30=>
BB (decide (n24<=n25)=true) T.a46 a30 (Int.toNat n25*1) λs31=>
Ai (decide (n24<=n25)) (
AJ F.a2 [.string s28,.string s31] λb32=>
AA<|
Aj 6 [.bool b32])<|
AA<|
Aj 6 [.bool false]))) λb33=>
Ai b33 (
Af (AB (n25-1)) λn34=>
Aj 5 [Aa n34])<|
Aj 4 [Aa n25]) λn35=>
Ai (decide (n24>n35)) (
Aj 1 [Aa n24])<|
As 4 (
Ay<|
.ex [.adr] (c1 λa36=>0<=n35/\n35<(Am data)/\data.a=some a36) (u1 λa37=>
AW T.a46 a37 (Int.toNat n35*1) λs38=>
.ex [.adr] (c1 λa39=>0<=n24/\n24<(Am data)/\data.a=some a39) (u1 λa40=>
AW T.a46 a40 (Int.toNat n24*1) λs41=>
.ex [.adr] (c1 λa42=>0<=n24/\n24<(Am data)/\data.a=some a42) (u1 λa43=>
AS T.a46 a43 (Int.toNat n24*1) (.string s38)<|
.ex [.adr] (c1 λa44=>0<=n35/\n35<(Am data)/\data.a=some a44) (u1 λa45=>
AS T.a46 a45 (Int.toNat n35*1) (.string s41)<|
AA<|
Aj 4 [])))))<|
Af (AB (n24+1)) λn46=>
Af (AB (n35-1)) λn47=>
Aj 3 [Aa n46,Aa n47]) λn48 n49=>
Aj 2 [Aa n48,Aa n49]) λn50=>
Af n50 λn51=>
Aj 0 [Aa n51]
def z08c (data:Sl) (a b:Int) (pivot:Int):Prog :=
As 1 (
Ay<|
.ex [.adr] (c1 λa0=>0<=pivot/\pivot<(Am data)/\data.a=some a0) (u1 λa1=>
AW T.a46 a1 (Int.toNat pivot*1) λs2=>
.ex [.adr] (c1 λa3=>0<=a/\a<(Am data)/\data.a=some a3) (u1 λa4=>
AW T.a46 a4 (Int.toNat a*1) λs5=>
.ex [.adr] (c1 λa6=>0<=a/\a<(Am data)/\data.a=some a6) (u1 λa7=>
AS T.a46 a7 (Int.toNat a*1) (.string s2)<|
.ex [.adr] (c1 λa8=>0<=pivot/\pivot<(Am data)/\data.a=some a8) (u1 λa9=>
AS T.a46 a9 (Int.toNat pivot*1) (.string s5)<|
AA<|
Aj 1 [])))))<|
Af (AB (a+1)) λn10=>
Af (AB (b-1)) λn11=>
AG 1 (
Ax 2 (n10,()) λn12=>
AD 3 (
Ay<|
.ex [.adr] (c1 λa13=>decide (n12<=n11)=true->0<=n12/\n12<(Am data)/\data.a=some a13) (u1 λa14=>
BB (decide (n12<=n11)=true) T.a46 a14 (Int.toNat n12*1) λs15=>
.ex [.adr] (c1 λa16=>decide (n12<=n11)=true->0<=a/\a<(Am data)/\data.a=some a16) (u1 λa17=>
BB (decide (n12<=n11)=true) T.a46 a17 (Int.toNat a*1) λs18=>
Ai (decide (n12<=n11)) (
AJ F.a2 [.string s15,.string s18] λb19=>
AA<|
Aj 3 [.bool b19])<|
AA<|
Aj 3 [.bool false]))) λb20=>
Ai b20 (
Af (AB (n12+1)) λn21=>
Aj 2 [Aa n21])<|
Aj 1 [Aa n12]) λn22=>
AG 1 (
Ax 2 (n11,()) λn23=>
AD 3 (
Ay<|
.ex [.adr] (c1 λa24=>decide (n22<=n23)=true->0<=n23/\n23<(Am data)/\data.a=some a24) (u1 λa25=>
BB (decide (n22<=n23)=true) T.a46 a25 (Int.toNat n23*1) λs26=>
.ex [.adr] (c1 λa27=>decide (n22<=n23)=true->0<=a/\a<(Am data)/\data.a=some a27) (u1 λa28=>
BB (decide (n22<=n23)=true) T.a46 a28 (Int.toNat a*1) λs29=>
Ai (decide (n22<=n23)) (
AJ F.a2 [.string s26,.string s29] λb30=>
AA<|
Aj 3 [.bool (not b30)])<|
AA<|
Aj 3 [.bool false]))) λb31=>
Ai b31 (
Af (AB (n23-1)) λn32=>
Aj 2 [Aa n32])<|
Aj 1 [Aa n23]) λn33=>
Ai (decide (n22>n33)) (
As 1 (
Ay<|
.ex [.adr] (c1 λa34=>0<=a/\a<(Am data)/\data.a=some a34) (u1 λa35=>
AW T.a46 a35 (Int.toNat a*1) λs36=>
.ex [.adr] (c1 λa37=>0<=n33/\n33<(Am data)/\data.a=some a37) (u1 λa38=>
AW T.a46 a38 (Int.toNat n33*1) λs39=>
.ex [.adr] (c1 λa40=>0<=n33/\n33<(Am data)/\data.a=some a40) (u1 λa41=>
AS T.a46 a41 (Int.toNat n33*1) (.string s36)<|
.ex [.adr] (c1 λa42=>0<=a/\a<(Am data)/\data.a=some a42) (u1 λa43=>
AS T.a46 a43 (Int.toNat a*1) (.string s39)<|
AA<|
Aj 1 [])))))<|
Af n33 λn44=>
Aj 0 [Aa n44,.bool true])<|
As 1 (
Ay<|
.ex [.adr] (c1 λa45=>0<=n33/\n33<(Am data)/\data.a=some a45) (u1 λa46=>
AW T.a46 a46 (Int.toNat n33*1) λs47=>
.ex [.adr] (c1 λa48=>0<=n22/\n22<(Am data)/\data.a=some a48) (u1 λa49=>
AW T.a46 a49 (Int.toNat n22*1) λs50=>
.ex [.adr] (c1 λa51=>0<=n22/\n22<(Am data)/\data.a=some a51) (u1 λa52=>
AS T.a46 a52 (Int.toNat n22*1) (.string s47)<|
.ex [.adr] (c1 λa53=>0<=n33/\n33<(Am data)/\data.a=some a53) (u1 λa54=>
AS T.a46 a54 (Int.toNat n33*1) (.string s50)<|
AA<|
Aj 1 [])))))<|
Af (AB (n22+1)) λn55=>
Af (AB (n33-1)) λn56=>
AG 1 (
AH 2 (n55,(n56,())) λn57 n58=>
Bo 3 (
AG 4 (
Ax 5 (n57,()) λn59=>
AD 6 (
Ay<|
.ex [.adr] (c1 λa60=>decide (n59<=n58)=true->0<=n59/\n59<(Am data)/\data.a=some a60) (u1 λa61=>
BB (decide (n59<=n58)=true) T.a46 a61 (Int.toNat n59*1) λs62=>
.ex [.adr] (c1 λa63=>decide (n59<=n58)=true->0<=a/\a<(Am data)/\data.a=some a63) (u1 λa64=>
BB (decide (n59<=n58)=true) T.a46 a64 (Int.toNat a*1) λs65=>
Ai (decide (n59<=n58)) (
AJ F.a2 [.string s62,.string s65] λb66=>
AA<|
Aj 6 [.bool b66])<|
AA<|
Aj 6 [.bool false]))) λb67=>
Ai b67 (
Af (AB (n59+1)) λn68=>
Aj 5 [Aa n68])<|
Aj 4 [Aa n59]) λn69=>
AG 4 (
Ax 5 (n58,()) λn70=>
AD 6 (
Ay<|
.ex [.adr] (c1 λa71=>decide (n69<=n70)=true->0<=n70/\n70<(Am data)/\data.a=some a71) (u1 λa72=>
BB (decide (n69<=n70)=true) T.a46 a72 (Int.toNat n70*1) λs73=>
.ex [.adr] (c1 λa74=>decide (n69<=n70)=true->0<=a/\a<(Am data)/\data.a=some a74) (u1 λa75=>
BB (decide (n69<=n70)=true) T.a46 a75 (Int.toNat a*1) λs76=>
Ai (decide (n69<=n70)) (
AJ F.a2 [.string s73,.string s76] λb77=>
AA<|
Aj 6 [.bool (not b77)])<|
AA<|
Aj 6 [.bool false]))) λb78=>
Ai b78 (
Af (AB (n70-1)) λn79=>
Aj 5 [Aa n79])<|
Aj 4 [Aa n70]) λn80=>
Ai (decide (n69>n80)) (
Aj 1 [Aa n80])<|
As 4 (
Ay<|
.ex [.adr] (c1 λa81=>0<=n80/\n80<(Am data)/\data.a=some a81) (u1 λa82=>
AW T.a46 a82 (Int.toNat n80*1) λs83=>
.ex [.adr] (c1 λa84=>0<=n69/\n69<(Am data)/\data.a=some a84) (u1 λa85=>
AW T.a46 a85 (Int.toNat n69*1) λs86=>
.ex [.adr] (c1 λa87=>0<=n69/\n69<(Am data)/\data.a=some a87) (u1 λa88=>
AS T.a46 a88 (Int.toNat n69*1) (.string s83)<|
.ex [.adr] (c1 λa89=>0<=n80/\n80<(Am data)/\data.a=some a89) (u1 λa90=>
AS T.a46 a90 (Int.toNat n80*1) (.string s86)<|
AA<|
Aj 4 [])))))<|
Af (AB (n69+1)) λn91=>
Af (AB (n80-1)) λn92=>
Aj 3 [Aa n91,Aa n92]) λn93 n94=>
Aj 2 [Aa n93,Aa n94]) λn95=>
As 1 (
Ay<|
.ex [.adr] (c1 λa96=>0<=a/\a<(Am data)/\data.a=some a96) (u1 λa97=>
AW T.a46 a97 (Int.toNat a*1) λs98=>
.ex [.adr] (c1 λa99=>0<=n95/\n95<(Am data)/\data.a=some a99) (u1 λa100=>
AW T.a46 a100 (Int.toNat n95*1) λs101=>
.ex [.adr] (c1 λa102=>0<=n95/\n95<(Am data)/\data.a=some a102) (u1 λa103=>
AS T.a46 a103 (Int.toNat n95*1) (.string s98)<|
.ex [.adr] (c1 λa104=>0<=a/\a<(Am data)/\data.a=some a104) (u1 λa105=>
AS T.a46 a105 (Int.toNat a*1) (.string s101)<|
AA<|
Aj 1 [])))))<|
Af n95 λn106=>
Aj 0 [Aa n106,.bool false]
def zyr (x:Int):Prog :=
BG 1 (
Ai (decide (x>=4294967296)) (
Bj (Int.fdiv x 4294967296) λn0=>
Aj 1 [.int .u64 n0,Aa 32])<|
Aj 1 [.int .u64 x,Aa 0]) λn1 n2=>
BG 1 (
Ai (decide (n1>=65536)) (
Bj (Int.fdiv n1 65536) λn3=>
Af (AB (n2+16)) λn4=>
Aj 1 [.int .u64 n3,Aa n4])<|
Aj 1 [.int .u64 n1,Aa n2]) λn5 n6=>
BG 1 (
Ai (decide (n5>=256)) (
Bj (Int.fdiv n5 256) λn7=>
Af (AB (n6+8)) λn8=>
Aj 1 [.int .u64 n7,Aa n8])<|
Aj 1 [.int .u64 n5,Aa n6]) λn9 n10=>
.must (0<=IntKind.wrap .u8 n9/\IntKind.wrap .u8 n9<256) <|
Af (AB (n10+AB (bt (ByteArray.mk #[0,1,2,2,3,3,3,3,4,4,4,4,4,4,4,4,5,5,5,5,5,5,5,5,5,5,5,5,5,5,5,5,6,6,6,6,6,6,6,6,6,6,6,6,6,6,6,6,6,6,6,6,6,6,6,6,6,6,6,6,6,6,6,6,7,7,7,7,7,7,7,7,7,7,7,7,7,7,7,7,7,7,7,7,7,7,7,7,7,7,7,7,7,7,7,7,7,7,7,7,7,7,7,7,7,7,7,7,7,7,7,7,7,7,7,7,7,7,7,7,7,7,7,7,7,7,7,7,8,8,8,8,8,8,8,8,8,8,8,8,8,8,8,8,8,8,8,8,8,8,8,8,8,8,8,8,8,8,8,8,8,8,8,8,8,8,8,8,8,8,8,8,8,8,8,8,8,8,8,8,8,8,8,8,8,8,8,8,8,8,8,8,8,8,8,8,8,8,8,8,8,8,8,8,8,8,8,8,8,8,8,8,8,8,8,8,8,8,8,8,8,8,8,8,8,8,8,8,8,8,8,8,8,8,8,8,8,8,8,8,8,8,8,8,8,8,8,8,8,8,8,8,8,8,8,8]) (IntKind.wrap .u8 n9)))) λn11=>
Aj 0 [Aa n11]
theorem zgk (x:Int):FnS (zyr x) F.a66 #[.int .u64 x]:=dV ⟨[(413700,[(0,.one (.int .u64)),(2,.one (.int .i64))]),(31477768,[(0,.one (.int .u64)),(2,.one (.int .i64))]),(2013286414,[(0,.one (.int .u64)),(2,.one (.int .i64))])],[],[],[]⟩ Go.Proofs.Tryz.func230 (by kernel_rfl)
def z07a (data:Sl) (a b:Int) (cmp:Value):Prog :=
Af (AB (a+1)) λn0=>
As 1 (
Ax 2 (n0,()) λn1=>
Ai (decide (n1<b)) (
As 3 (
Af n1 λn2=>
As 4 (
Ax 5 (n2,()) λn3=>
AD 6 (
Ay<|
.ex [.adr] (c1 λa4=>decide (n3>a)=true->0<=n3/\n3<(Am data)/\data.a=some a4) (u1 λa5=>
BD (decide (n3>a)=true) T.a14 a5 (Int.toNat n3*4) λn6 n7 n8 n9=>
.ex [.adr] (c1 λa10=>decide (n3>a)=true->0<=AB (n3-1)/\AB (n3-1)<(Am data)/\data.a=some a10) (u1 λa11=>
BD (decide (n3>a)=true) T.a14 a11 (Int.toNat (AB (n3-1))*4) λn12 n13 n14 n15=>
Ai (decide (n3>a)) (
BE cmp [Bu n6 n7 n8 n9,Bu n12 n13 n14 n15] λn16=>
AA<|
Aj 6 [.bool (decide (n16<0))])<|
AA<|
Aj 6 [.bool false]))) λb17=>
Ai b17 (
As 6 (
Ay<|
.ex [.adr] (c1 λa18=>0<=AB (n3-1)/\AB (n3-1)<(Am data)/\data.a=some a18) (u1 λa19=>
BH T.a14 a19 (Int.toNat (AB (n3-1))*4) λn20 n21 n22 n23=>
.ex [.adr] (c1 λa24=>0<=n3/\n3<(Am data)/\data.a=some a24) (u1 λa25=>
BH T.a14 a25 (Int.toNat n3*4) λn26 n27 n28 n29=>
.ex [.adr] (c1 λa30=>0<=n3/\n3<(Am data)/\data.a=some a30) (u1 λa31=>
AS T.a14 a31 (Int.toNat n3*4) (Bu n20 n21 n22 n23)<|
.ex [.adr] (c1 λa32=>0<=AB (n3-1)/\AB (n3-1)<(Am data)/\data.a=some a32) (u1 λa33=>
AS T.a14 a33 (Int.toNat (AB (n3-1))*4) (Bu n26 n27 n28 n29)<|
AA<|
Aj 6 [])))))<|
Af (AB (n3-1)) λn34=>
Aj 5 [Aa n34])<|
Aj 4 [])<|
Aj 3 [])<|
Af (AB (n1+1)) λn35=>
Aj 2 [Aa n35])<|
Aj 1 [])<|
Aj 0 []
theorem znh (data:Sl) (a b:Int) (cmp:Value) {w:World} {R:List Value->World->Prop} (h:(z07a data a b cmp).wp P (λ_=>True) w λe vs w'=>e=0/\R vs w'):Ret P F.a137 #[.slice data.a data.len data.cap,.int .i64 a,.int .i64 b,cmp] w R:=dS (n:=53) (rv:=[]) { cnd:=[],blk:=[(0,[]),(1,[]),(2,[])],reg:=[(4,[(34,.one .bool)]),(6,[])],lps:=[(0,[(8,.one (.int .i64))]),(2,[(9,.one (.int .i64))])] } [.val (.slice data.a data.len data.cap),.val (.int .i64 a),.val (.int .i64 b),.any cmp] Go.Proofs.Tryz.func258 (by kernel_rfl) (by kernel_rfl) (by kernel_rfl) (by kernel_rfl) h
def z079 (data:Sl) (a b:Int) (cmp:Value):Prog :=
Af a λn0=>
Af (AB (b-a)) λn1=>
Af (AB (Int.tdiv (AB (n1-1)) 2)) λn2=>
As 1 (
Ax 2 (n2,()) λn3=>
Ai (decide (n3>=0)) (
AR F.a156 [data.v,Aa n3,Aa n1,Aa n0,cmp]<|
Af (AB (n3-1)) λn4=>
Aj 2 [Aa n4])<|
Aj 1 [])<|
Af (AB (n1-1)) λn5=>
As 1 (
Ax 2 (n5,()) λn6=>
Ai (decide (n6>=0)) (
As 3 (
Ay<|
.ex [.adr] (c1 λa7=>0<=AB (n0+n6)/\AB (n0+n6)<(Am data)/\data.a=some a7) (u1 λa8=>
BH T.a14 a8 (Int.toNat (AB (n0+n6))*4) λn9 n10 n11 n12=>
.ex [.adr] (c1 λa13=>0<=n0/\n0<(Am data)/\data.a=some a13) (u1 λa14=>
BH T.a14 a14 (Int.toNat n0*4) λn15 n16 n17 n18=>
.ex [.adr] (c1 λa19=>0<=n0/\n0<(Am data)/\data.a=some a19) (u1 λa20=>
AS T.a14 a20 (Int.toNat n0*4) (Bu n9 n10 n11 n12)<|
.ex [.adr] (c1 λa21=>0<=AB (n0+n6)/\AB (n0+n6)<(Am data)/\data.a=some a21) (u1 λa22=>
AS T.a14 a22 (Int.toNat (AB (n0+n6))*4) (Bu n15 n16 n17 n18)<|
AA<|
Aj 3 [])))))<|
AR F.a156 [data.v,Aa 0,Aa n6,Aa n0,cmp]<|
Af (AB (n6-1)) λn23=>
Aj 2 [Aa n23])<|
Aj 1 [])<|
Aj 0 []
theorem zng (data:Sl) (a b:Int) (cmp:Value) {w:World} {R:List Value->World->Prop} (h:(z079 data a b cmp).wp P (λ_=>True) w λe vs w'=>e=0/\R vs w'):Ret P F.a135 #[.slice data.a data.len data.cap,.int .i64 a,.int .i64 b,cmp] w R:=dS (n:=60) (rv:=[]) { cnd:=[],blk:=[(0,[]),(2,[])],reg:=[(10,[])],lps:=[(0,[(11,.one (.int .i64))]),(2,[(12,.one (.int .i64))])] } [.val (.slice data.a data.len data.cap),.val (.int .i64 a),.val (.int .i64 b),.any cmp] Go.Proofs.Tryz.func259 (by kernel_rfl) (by kernel_rfl) (by kernel_rfl) (by kernel_rfl) h
def z077 (data:Sl) (a b:Int) (cmp:Value):Prog :=
Af (AB (b-a)) λn0=>
As 1 (
Ai (decide (n0>=8)) (
Ab T.a45 λa1=>
Ac T.a45 a1 (.int .u64 (IntKind.wrap .u64 n0))<|
Bi F.a143 [Aa n0] λn2=>
Bj n2 λn3=>
Af (AB (AB (a+AB (AB (Int.tdiv n0 4)*2))-1)) λn4=>
As 2 (
Ax 3 (n4,()) λn5=>
Ai (decide (n5<=AB (AB (a+AB (AB (Int.tdiv n0 4)*2))+1))) (
Bi F.a158 [AP a1] λn6=>
Af (AB (IntKind.wrap .u64 (((BitVec.toNat (BitVec.ofInt 64 n6 &&& BitVec.ofInt 64 (IntKind.wrap .u64 (n3-1))):Nat):Int)))) λn7=>
AG 4 (
Ai (decide (n7>=n0)) (
Af (AB (n7-n0)) λn8=>
Aj 4 [Aa n8])<|
Aj 4 [Aa n7]) λn9=>
As 4 (
Ay<|
.ex [.adr] (c1 λa10=>0<=AB (a+n9)/\AB (a+n9)<(Am data)/\data.a=some a10) (u1 λa11=>
BH T.a14 a11 (Int.toNat (AB (a+n9))*4) λn12 n13 n14 n15=>
.ex [.adr] (c1 λa16=>0<=n5/\n5<(Am data)/\data.a=some a16) (u1 λa17=>
BH T.a14 a17 (Int.toNat n5*4) λn18 n19 n20 n21=>
.ex [.adr] (c1 λa22=>0<=n5/\n5<(Am data)/\data.a=some a22) (u1 λa23=>
AS T.a14 a23 (Int.toNat n5*4) (Bu n12 n13 n14 n15)<|
.ex [.adr] (c1 λa24=>0<=AB (a+n9)/\AB (a+n9)<(Am data)/\data.a=some a24) (u1 λa25=>
AS T.a14 a25 (Int.toNat (AB (a+n9))*4) (Bu n18 n19 n20 n21)<|
AA<|
Aj 4 [])))))<|
Af (AB (n5+1)) λn26=>
Aj 3 [Aa n26])<|
Aj 2 [])<|
Aj 1 [])<|
Aj 1 [])<|
Aj 0 []
theorem zne (data:Sl) (a b:Int) (cmp:Value) {w:World} {R:List Value->World->Prop} (h:(z077 data a b cmp).wp P (λ_=>True) w λe vs w'=>e=0/\R vs w'):Ret P F.a131 #[.slice data.a data.len data.cap,.int .i64 a,.int .i64 b,cmp] w R:=dS (n:=67) (rv:=[]) { cnd:=[(2017612633078759469,[(12,.one (.int .i64))]),(604462909807313545068561,[])],blk:=[(0,[])],reg:=[(10,[])],lps:=[(0,[(11,.one (.int .i64))])] } [.val (.slice data.a data.len data.cap),.val (.int .i64 a),.val (.int .i64 b),.any cmp] Go.Proofs.Tryz.func260 (by kernel_rfl) (by kernel_rfl) (by kernel_rfl) (by kernel_rfl) h
def z078 (data:Sl) (a b:Int) (cmp:Value):Prog :=
Af (AB (b-a)) λn0=>
Ab T.a12 λa1=>
Af (AB (a+AB (AB (Int.tdiv n0 4)*1))) λn2=>
Af (AB (a+AB (AB (Int.tdiv n0 4)*2))) λn3=>
Af (AB (a+AB (AB (Int.tdiv n0 4)*3))) λn4=>
AG 1 (
Ai (decide (n0>=8)) (
.bind 2 [.one (.int .i64),.one (.int .i64),.one (.int .i64)] (
Ai (decide (n0>=50)) (
AF F.a139 [data.v,Aa n2,AP a1,cmp] λn5=>
Af n5 λn6=>
AF F.a139 [data.v,Aa n3,AP a1,cmp] λn7=>
Af n7 λn8=>
AF F.a139 [data.v,Aa n4,AP a1,cmp] λn9=>
Af n9 λn10=>
Aj 2 [Aa n6,Aa n8,Aa n10])<|
Aj 2 [Aa n2,Aa n3,Aa n4]) (u3 λ(n11 n12 n13:Int)=>
AF F.a141 [data.v,Aa n11,Aa n12,Aa n13,AP a1,cmp] λn14=>
Af n14 λn15=>
Aj 1 [Aa n15]))<|
Aj 1 [Aa n3]) λn16=>
BF T.a12 a1 λn17=>
AZ (n17 == 0) (
Af n16 λn19=>
Aj 0 [Aa n19,Aa 1])<|
AZ (n17 == 12) (
Af n16 λn21=>
Aj 0 [Aa n21,Aa 2])<|
Af n16 λn22=>
Aj 0 [Aa n22,Aa 0]
theorem znf (data:Sl) (a b:Int) (cmp:Value) {w:World} {R:List Value->World->Prop} (h:(z078 data a b cmp).wp P (λ_=>True) w λe vs w'=>e=0/\R vs w'):Ret P F.a133 #[.slice data.a data.len data.cap,.int .i64 a,.int .i64 b,cmp] w R:=dS (n:=63) (rv:=[.tmp 8,.tmp 9]) { cnd:=[(2305280059377713188,[(12,.one (.int .i64)),(13,.one (.int .i64)),(14,.one (.int .i64))]),(147573811852305498146,[(13,.one (.int .i64))])],blk:=[],reg:=[],lps:=[] } [.val (.slice data.a data.len data.cap),.val (.int .i64 a),.val (.int .i64 b),.any cmp] Go.Proofs.Tryz.func261 (by kernel_rfl) (by kernel_rfl) (by kernel_rfl) (by kernel_rfl) h
def z07i (data:Sl) (a b:Int) (cmp:Value):Prog :=
Af a λn0=>
Af (AB (b-1)) λn1=>
As 1 (
AH 2 (n0,(n1,())) λn2 n3=>
Ai (decide (n2<n3)) (
As 3 (
Ay<|
.ex [.adr] (c1 λa4=>0<=n3/\n3<(Am data)/\data.a=some a4) (u1 λa5=>
BH T.a14 a5 (Int.toNat n3*4) λn6 n7 n8 n9=>
.ex [.adr] (c1 λa10=>0<=n2/\n2<(Am data)/\data.a=some a10) (u1 λa11=>
BH T.a14 a11 (Int.toNat n2*4) λn12 n13 n14 n15=>
.ex [.adr] (c1 λa16=>0<=n2/\n2<(Am data)/\data.a=some a16) (u1 λa17=>
AS T.a14 a17 (Int.toNat n2*4) (Bu n6 n7 n8 n9)<|
.ex [.adr] (c1 λa18=>0<=n3/\n3<(Am data)/\data.a=some a18) (u1 λa19=>
AS T.a14 a19 (Int.toNat n3*4) (Bu n12 n13 n14 n15)<|
AA<|
Aj 3 [])))))<|
Af (AB (n2+1)) λn20=>
Af (AB (n3-1)) λn21=>
Aj 2 [Aa n20,Aa n21])<|
Aj 1 [])<|
Aj 0 []
theorem znq (data:Sl) (a b:Int) (cmp:Value) {w:World} {R:List Value->World->Prop} (h:(z07i data a b cmp).wp P (λ_=>True) w λe vs w'=>e=0/\R vs w'):Ret P F.a154 #[.slice data.a data.len data.cap,.int .i64 a,.int .i64 b,cmp] w R:=dS (n:=34) (rv:=[]) { cnd:=[],blk:=[(0,[])],reg:=[(3,[])],lps:=[(0,[(8,.one (.int .i64)),(9,.one (.int .i64))])] } [.val (.slice data.a data.len data.cap),.val (.int .i64 a),.val (.int .i64 b),.any cmp] Go.Proofs.Tryz.func262 (by kernel_rfl) (by kernel_rfl) (by kernel_rfl) (by kernel_rfl) h
def z07e (data:Sl) (a b:Int) (cmp:Value):Prog :=
Af (AB (a+1)) λn0=>
As 1 (
AH 2 (n0,(0,())) λn1 n2=>
Ai (decide (n2<5)) (
AG 3 (
AG 4 (
Ax 5 (n1,()) λn3=>
AD 6 (
Ay<|
.ex [.adr] (c1 λa4=>decide (n3<b)=true->0<=n3/\n3<(Am data)/\data.a=some a4) (u1 λa5=>
BD (decide (n3<b)=true) T.a14 a5 (Int.toNat n3*4) λn6 n7 n8 n9=>
.ex [.adr] (c1 λa10=>decide (n3<b)=true->0<=AB (n3-1)/\AB (n3-1)<(Am data)/\data.a=some a10) (u1 λa11=>
BD (decide (n3<b)=true) T.a14 a11 (Int.toNat (AB (n3-1))*4) λn12 n13 n14 n15=>
Ai (decide (n3<b)) (
BE cmp [Bu n6 n7 n8 n9,Bu n12 n13 n14 n15] λn16=>
AA<|
Aj 6 [.bool (not (decide (n16<0)))])<|
AA<|
Aj 6 [.bool false]))) λb17=>
Ai b17 (
Af (AB (n3+1)) λn18=>
Aj 5 [Aa n18])<|
Aj 4 [Aa n3]) λn19=>
Ai (n19 == b) (
Aj 0 [.bool true])<|
Ai (decide (AB (b-a)<50)) (
Aj 0 [.bool false])<|
As 4 (
Ay<|
.ex [.adr] (c1 λa20=>0<=AB (n19-1)/\AB (n19-1)<(Am data)/\data.a=some a20) (u1 λa21=>
BH T.a14 a21 (Int.toNat (AB (n19-1))*4) λn22 n23 n24 n25=>
.ex [.adr] (c1 λa26=>0<=n19/\n19<(Am data)/\data.a=some a26) (u1 λa27=>
BH T.a14 a27 (Int.toNat n19*4) λn28 n29 n30 n31=>
.ex [.adr] (c1 λa32=>0<=n19/\n19<(Am data)/\data.a=some a32) (u1 λa33=>
AS T.a14 a33 (Int.toNat n19*4) (Bu n22 n23 n24 n25)<|
.ex [.adr] (c1 λa34=>0<=AB (n19-1)/\AB (n19-1)<(Am data)/\data.a=some a34) (u1 λa35=>
AS T.a14 a35 (Int.toNat (AB (n19-1))*4) (Bu n28 n29 n30 n31)<|
AA<|
Aj 4 [])))))<|
As 4 (
Ai (decide (AB (n19-a)>=2)) (
Af (AB (n19-1)) λn36=>
As 5 (
Ax 6 (n36,()) λn37=>
Ai (decide (n37>=1)) (
Ay<|
.ex [.adr] (c1 λa38=>0<=n37/\n37<(Am data)/\data.a=some a38) (u1 λa39=>
BH T.a14 a39 (Int.toNat n37*4) λn40 n41 n42 n43=>
.ex [.adr] (c1 λa44=>0<=AB (n37-1)/\AB (n37-1)<(Am data)/\data.a=some a44) (u1 λa45=>
BH T.a14 a45 (Int.toNat (AB (n37-1))*4) λn46 n47 n48 n49=>
BE cmp [Bu n40 n41 n42 n43,Bu n46 n47 n48 n49] λn50=>
AA<|
Ai (not (decide (n50<0))) (
Aj 5 [])<|
As 7 (
Ay<|
.ex [.adr] (c1 λa51=>0<=AB (n37-1)/\AB (n37-1)<(Am data)/\data.a=some a51) (u1 λa52=>
BH T.a14 a52 (Int.toNat (AB (n37-1))*4) λn53 n54 n55 n56=>
.ex [.adr] (c1 λa57=>0<=n37/\n37<(Am data)/\data.a=some a57) (u1 λa58=>
BH T.a14 a58 (Int.toNat n37*4) λn59 n60 n61 n62=>
.ex [.adr] (c1 λa63=>0<=n37/\n37<(Am data)/\data.a=some a63) (u1 λa64=>
AS T.a14 a64 (Int.toNat n37*4) (Bu n53 n54 n55 n56)<|
.ex [.adr] (c1 λa65=>0<=AB (n37-1)/\AB (n37-1)<(Am data)/\data.a=some a65) (u1 λa66=>
AS T.a14 a66 (Int.toNat (AB (n37-1))*4) (Bu n59 n60 n61 n62)<|
AA<|
Aj 7 [])))))<|
Af (AB (n37-1)) λn67=>
Aj 6 [Aa n67])))<|
Aj 5 [])<|
Aj 4 [])<|
Aj 4 [])<|
As 4 (
Ai (decide (AB (b-n19)>=2)) (
Af (AB (n19+1)) λn68=>
As 5 (
Ax 6 (n68,()) λn69=>
Ai (decide (n69<b)) (
Ay<|
.ex [.adr] (c1 λa70=>0<=n69/\n69<(Am data)/\data.a=some a70) (u1 λa71=>
BH T.a14 a71 (Int.toNat n69*4) λn72 n73 n74 n75=>
.ex [.adr] (c1 λa76=>0<=AB (n69-1)/\AB (n69-1)<(Am data)/\data.a=some a76) (u1 λa77=>
BH T.a14 a77 (Int.toNat (AB (n69-1))*4) λn78 n79 n80 n81=>
BE cmp [Bu n72 n73 n74 n75,Bu n78 n79 n80 n81] λn82=>
AA<|
Ai (not (decide (n82<0))) (
Aj 5 [])<|
As 7 (
Ay<|
.ex [.adr] (c1 λa83=>0<=AB (n69-1)/\AB (n69-1)<(Am data)/\data.a=some a83) (u1 λa84=>
BH T.a14 a84 (Int.toNat (AB (n69-1))*4) λn85 n86 n87 n88=>
.ex [.adr] (c1 λa89=>0<=n69/\n69<(Am data)/\data.a=some a89) (u1 λa90=>
BH T.a14 a90 (Int.toNat n69*4) λn91 n92 n93 n94=>
.ex [.adr] (c1 λa95=>0<=n69/\n69<(Am data)/\data.a=some a95) (u1 λa96=>
AS T.a14 a96 (Int.toNat n69*4) (Bu n85 n86 n87 n88)<|
.ex [.adr] (c1 λa97=>0<=AB (n69-1)/\AB (n69-1)<(Am data)/\data.a=some a97) (u1 λa98=>
AS T.a14 a98 (Int.toNat (AB (n69-1))*4) (Bu n91 n92 n93 n94)<|
AA<|
Aj 7 [])))))<|
Af (AB (n69+1)) λn99=>
Aj 6 [Aa n99])))<|
Aj 5 [])<|
Aj 4 [])<|
Aj 4 [])<|
Aj 3 [Aa n19]) λn100=>
Af (AB (n2+1)) λn101=>
Aj 2 [Aa n100,Aa n101])<|
Aj 1 [])<|
Aj 0 [.bool false]
theorem znm (data:Sl) (a b:Int) (cmp:Value) {w:World} {R:List Value->World->Prop} (h:(z07e data a b cmp).wp P (λ_=>True) w λe vs w'=>e=0/\R vs w'):Ret P F.a146 #[.slice data.a data.len data.cap,.int .i64 a,.int .i64 b,cmp] w R:=dS (n:=141) (rv:=[.tmp 8]) { cnd:=[(10384593716767423802157335373152321,[]),(11417981541481525548993173271482985208543707240,[])],blk:=[(0,[]),(1,[(9,.one (.int .i64))]),(2,[(9,.one (.int .i64))]),(4,[]),(6,[])],reg:=[(5,[(36,.one .bool)]),(11,[]),(17,[]),(23,[])],lps:=[(0,[(9,.one (.int .i64)),(10,.one (.int .i64))]),(2,[(9,.one (.int .i64))]),(4,[(11,.one (.int .i64))]),(6,[(12,.one (.int .i64))])] } [.val (.slice data.a data.len data.cap),.val (.int .i64 a),.val (.int .i64 b),.any cmp] Go.Proofs.Tryz.func263 (by kernel_rfl) (by kernel_rfl) (by kernel_rfl) (by kernel_rfl) h
def z07g (data:Sl) (a b pivot:Int) (cmp:Value):Prog :=
As 1 (
Ay<|
.ex [.adr] (c1 λa0=>0<=pivot/\pivot<(Am data)/\data.a=some a0) (u1 λa1=>
BH T.a14 a1 (Int.toNat pivot*4) λn2 n3 n4 n5=>
.ex [.adr] (c1 λa6=>0<=a/\a<(Am data)/\data.a=some a6) (u1 λa7=>
BH T.a14 a7 (Int.toNat a*4) λn8 n9 n10 n11=>
.ex [.adr] (c1 λa12=>0<=a/\a<(Am data)/\data.a=some a12) (u1 λa13=>
AS T.a14 a13 (Int.toNat a*4) (Bu n2 n3 n4 n5)<|
.ex [.adr] (c1 λa14=>0<=pivot/\pivot<(Am data)/\data.a=some a14) (u1 λa15=>
AS T.a14 a15 (Int.toNat pivot*4) (Bu n8 n9 n10 n11)<|
AA<|
Aj 1 [])))))<|
Af (AB (a+1)) λn16=>
Af (AB (b-1)) λn17=>
AG 1 (
AH 2 (n16,(n17,())) λn18 n19=>
Bo 3 (
AG 4 (
Ax 5 (n18,()) λn20=>
AD 6 (
Ay<|
.ex [.adr] (c1 λa21=>decide (n20<=n19)=true->0<=a/\a<(Am data)/\data.a=some a21) (u1 λa22=>
BD (decide (n20<=n19)=true) T.a14 a22 (Int.toNat a*4) λn23 n24 n25 n26=>
.ex [.adr] (c1 λa27=>decide (n20<=n19)=true->0<=n20/\n20<(Am data)/\data.a=some a27) (u1 λa28=>
BD (decide (n20<=n19)=true) T.a14 a28 (Int.toNat n20*4) λn29 n30 n31 n32=>
Ai (decide (n20<=n19)) (
BE cmp [Bu n23 n24 n25 n26,Bu n29 n30 n31 n32] λn33=>
AA<|
Aj 6 [.bool (not (decide (n33<0)))])<|
AA<|
Aj 6 [.bool false]))) λb34=>
Ai b34 (
Af (AB (n20+1)) λn35=>
Aj 5 [Aa n35])<|
Aj 4 [Aa n20]) λn36=>
AG 4 (
Ax 5 (n19,()) λn37=>
AD 6 (
Ay<|
.ex [.adr] (c1 λa38=>decide (n36<=n37)=true->0<=a/\a<(Am data)/\data.a=some a38) (u1 λa39=>
BD (decide (n36<=n37)=true) T.a14 a39 (Int.toNat a*4) λn40 n41 n42 n43=>
.ex [.adr] (c1 λa44=>decide (n36<=n37)=true->0<=n37/\n37<(Am data)/\data.a=some a44) (u1 λa45=>
BD (decide (n36<=n37)=true) T.a14 a45 (Int.toNat n37*4) λn46 n47 n48 n49=>
Ai (decide (n36<=n37)) (
BE cmp [Bu n40 n41 n42 n43,Bu n46 n47 n48 n49] λn50=>
AA<|
Aj 6 [.bool (decide (n50<0))])<|
AA<|
Aj 6 [.bool false]))) λb51=>
Ai b51 (
Af (AB (n37-1)) λn52=>
Aj 5 [Aa n52])<|
Aj 4 [Aa n37]) λn53=>
Ai (decide (n36>n53)) (
Aj 1 [Aa n36])<|
As 4 (
Ay<|
.ex [.adr] (c1 λa54=>0<=n53/\n53<(Am data)/\data.a=some a54) (u1 λa55=>
BH T.a14 a55 (Int.toNat n53*4) λn56 n57 n58 n59=>
.ex [.adr] (c1 λa60=>0<=n36/\n36<(Am data)/\data.a=some a60) (u1 λa61=>
BH T.a14 a61 (Int.toNat n36*4) λn62 n63 n64 n65=>
.ex [.adr] (c1 λa66=>0<=n36/\n36<(Am data)/\data.a=some a66) (u1 λa67=>
AS T.a14 a67 (Int.toNat n36*4) (Bu n56 n57 n58 n59)<|
.ex [.adr] (c1 λa68=>0<=n53/\n53<(Am data)/\data.a=some a68) (u1 λa69=>
AS T.a14 a69 (Int.toNat n53*4) (Bu n62 n63 n64 n65)<|
AA<|
Aj 4 [])))))<|
Af (AB (n36+1)) λn70=>
Af (AB (n53-1)) λn71=>
Aj 3 [Aa n70,Aa n71]) λn72 n73=>
Aj 2 [Aa n72,Aa n73]) λn74=>
Af n74 λn75=>
Aj 0 [Aa n75]
theorem zno (data:Sl) (a b pivot:Int) (cmp:Value) {w:World} {R:List Value->World->Prop} (h:(z07g data a b pivot cmp).wp P (λ_=>True) w λe vs w'=>e=0/\R vs w'):Ret P F.a149 #[.slice data.a data.len data.cap,.int .i64 a,.int .i64 b,.int .i64 pivot,cmp] w R:=dS (n:=90) (rv:=[.tmp 10]) { cnd:=[],blk:=[(0,[(11,.one (.int .i64))]),(1,[(11,.one (.int .i64)),(12,.one (.int .i64))]),(2,[(11,.one (.int .i64))]),(4,[(12,.one (.int .i64))])],reg:=[(1,[]),(3,[(47,.one .bool)]),(5,[(65,.one .bool)]),(8,[])],lps:=[(0,[(11,.one (.int .i64)),(12,.one (.int .i64))]),(2,[(11,.one (.int .i64))]),(4,[(12,.one (.int .i64))])] } [.val (.slice data.a data.len data.cap),.val (.int .i64 a),.val (.int .i64 b),.val (.int .i64 pivot),.any cmp] Go.Proofs.Tryz.func264 (by kernel_rfl) (by kernel_rfl) (by kernel_rfl) (by kernel_rfl) h
def z07f (data:Sl) (a b pivot:Int) (cmp:Value):Prog :=
As 1 (
Ay<|
.ex [.adr] (c1 λa0=>0<=pivot/\pivot<(Am data)/\data.a=some a0) (u1 λa1=>
BH T.a14 a1 (Int.toNat pivot*4) λn2 n3 n4 n5=>
.ex [.adr] (c1 λa6=>0<=a/\a<(Am data)/\data.a=some a6) (u1 λa7=>
BH T.a14 a7 (Int.toNat a*4) λn8 n9 n10 n11=>
.ex [.adr] (c1 λa12=>0<=a/\a<(Am data)/\data.a=some a12) (u1 λa13=>
AS T.a14 a13 (Int.toNat a*4) (Bu n2 n3 n4 n5)<|
.ex [.adr] (c1 λa14=>0<=pivot/\pivot<(Am data)/\data.a=some a14) (u1 λa15=>
AS T.a14 a15 (Int.toNat pivot*4) (Bu n8 n9 n10 n11)<|
AA<|
Aj 1 [])))))<|
Af (AB (a+1)) λn16=>
Af (AB (b-1)) λn17=>
AG 1 (
Ax 2 (n16,()) λn18=>
AD 3 (
Ay<|
.ex [.adr] (c1 λa19=>decide (n18<=n17)=true->0<=n18/\n18<(Am data)/\data.a=some a19) (u1 λa20=>
BD (decide (n18<=n17)=true) T.a14 a20 (Int.toNat n18*4) λn21 n22 n23 n24=>
.ex [.adr] (c1 λa25=>decide (n18<=n17)=true->0<=a/\a<(Am data)/\data.a=some a25) (u1 λa26=>
BD (decide (n18<=n17)=true) T.a14 a26 (Int.toNat a*4) λn27 n28 n29 n30=>
Ai (decide (n18<=n17)) (
BE cmp [Bu n21 n22 n23 n24,Bu n27 n28 n29 n30] λn31=>
AA<|
Aj 3 [.bool (decide (n31<0))])<|
AA<|
Aj 3 [.bool false]))) λb32=>
Ai b32 (
Af (AB (n18+1)) λn33=>
Aj 2 [Aa n33])<|
Aj 1 [Aa n18]) λn34=>
AG 1 (
Ax 2 (n17,()) λn35=>
AD 3 (
Ay<|
.ex [.adr] (c1 λa36=>decide (n34<=n35)=true->0<=n35/\n35<(Am data)/\data.a=some a36) (u1 λa37=>
BD (decide (n34<=n35)=true) T.a14 a37 (Int.toNat n35*4) λn38 n39 n40 n41=>
.ex [.adr] (c1 λa42=>decide (n34<=n35)=true->0<=a/\a<(Am data)/\data.a=some a42) (u1 λa43=>
BD (decide (n34<=n35)=true) T.a14 a43 (Int.toNat a*4) λn44 n45 n46 n47=>
Ai (decide (n34<=n35)) (
BE cmp [Bu n38 n39 n40 n41,Bu n44 n45 n46 n47] λn48=>
AA<|
Aj 3 [.bool (not (decide (n48<0)))])<|
AA<|
Aj 3 [.bool false]))) λb49=>
Ai b49 (
Af (AB (n35-1)) λn50=>
Aj 2 [Aa n50])<|
Aj 1 [Aa n35]) λn51=>
Ai (decide (n34>n51)) (
As 1 (
Ay<|
.ex [.adr] (c1 λa52=>0<=a/\a<(Am data)/\data.a=some a52) (u1 λa53=>
BH T.a14 a53 (Int.toNat a*4) λn54 n55 n56 n57=>
.ex [.adr] (c1 λa58=>0<=n51/\n51<(Am data)/\data.a=some a58) (u1 λa59=>
BH T.a14 a59 (Int.toNat n51*4) λn60 n61 n62 n63=>
.ex [.adr] (c1 λa64=>0<=n51/\n51<(Am data)/\data.a=some a64) (u1 λa65=>
AS T.a14 a65 (Int.toNat n51*4) (Bu n54 n55 n56 n57)<|
.ex [.adr] (c1 λa66=>0<=a/\a<(Am data)/\data.a=some a66) (u1 λa67=>
AS T.a14 a67 (Int.toNat a*4) (Bu n60 n61 n62 n63)<|
AA<|
Aj 1 [])))))<|
Af n51 λn68=>
Aj 0 [Aa n68,.bool true])<|
As 1 (
Ay<|
.ex [.adr] (c1 λa69=>0<=n51/\n51<(Am data)/\data.a=some a69) (u1 λa70=>
BH T.a14 a70 (Int.toNat n51*4) λn71 n72 n73 n74=>
.ex [.adr] (c1 λa75=>0<=n34/\n34<(Am data)/\data.a=some a75) (u1 λa76=>
BH T.a14 a76 (Int.toNat n34*4) λn77 n78 n79 n80=>
.ex [.adr] (c1 λa81=>0<=n34/\n34<(Am data)/\data.a=some a81) (u1 λa82=>
AS T.a14 a82 (Int.toNat n34*4) (Bu n71 n72 n73 n74)<|
.ex [.adr] (c1 λa83=>0<=n51/\n51<(Am data)/\data.a=some a83) (u1 λa84=>
AS T.a14 a84 (Int.toNat n51*4) (Bu n77 n78 n79 n80)<|
AA<|
Aj 1 [])))))<|
Af (AB (n34+1)) λn85=>
Af (AB (n51-1)) λn86=>
AG 1 (
AH 2 (n85,(n86,())) λn87 n88=>
Bo 3 (
AG 4 (
Ax 5 (n87,()) λn89=>
AD 6 (
Ay<|
.ex [.adr] (c1 λa90=>decide (n89<=n88)=true->0<=n89/\n89<(Am data)/\data.a=some a90) (u1 λa91=>
BD (decide (n89<=n88)=true) T.a14 a91 (Int.toNat n89*4) λn92 n93 n94 n95=>
.ex [.adr] (c1 λa96=>decide (n89<=n88)=true->0<=a/\a<(Am data)/\data.a=some a96) (u1 λa97=>
BD (decide (n89<=n88)=true) T.a14 a97 (Int.toNat a*4) λn98 n99 n100 n101=>
Ai (decide (n89<=n88)) (
BE cmp [Bu n92 n93 n94 n95,Bu n98 n99 n100 n101] λn102=>
AA<|
Aj 6 [.bool (decide (n102<0))])<|
AA<|
Aj 6 [.bool false]))) λb103=>
Ai b103 (
Af (AB (n89+1)) λn104=>
Aj 5 [Aa n104])<|
Aj 4 [Aa n89]) λn105=>
AG 4 (
Ax 5 (n88,()) λn106=>
AD 6 (
Ay<|
.ex [.adr] (c1 λa107=>decide (n105<=n106)=true->0<=n106/\n106<(Am data)/\data.a=some a107) (u1 λa108=>
BD (decide (n105<=n106)=true) T.a14 a108 (Int.toNat n106*4) λn109 n110 n111 n112=>
.ex [.adr] (c1 λa113=>decide (n105<=n106)=true->0<=a/\a<(Am data)/\data.a=some a113) (u1 λa114=>
BD (decide (n105<=n106)=true) T.a14 a114 (Int.toNat a*4) λn115 n116 n117 n118=>
Ai (decide (n105<=n106)) (
BE cmp [Bu n109 n110 n111 n112,Bu n115 n116 n117 n118] λn119=>
AA<|
Aj 6 [.bool (not (decide (n119<0)))])<|
AA<|
Aj 6 [.bool false]))) λb120=>
Ai b120 (
Af (AB (n106-1)) λn121=>
Aj 5 [Aa n121])<|
Aj 4 [Aa n106]) λn122=>
Ai (decide (n105>n122)) (
Aj 1 [Aa n122])<|
As 4 (
Ay<|
.ex [.adr] (c1 λa123=>0<=n122/\n122<(Am data)/\data.a=some a123) (u1 λa124=>
BH T.a14 a124 (Int.toNat n122*4) λn125 n126 n127 n128=>
.ex [.adr] (c1 λa129=>0<=n105/\n105<(Am data)/\data.a=some a129) (u1 λa130=>
BH T.a14 a130 (Int.toNat n105*4) λn131 n132 n133 n134=>
.ex [.adr] (c1 λa135=>0<=n105/\n105<(Am data)/\data.a=some a135) (u1 λa136=>
AS T.a14 a136 (Int.toNat n105*4) (Bu n125 n126 n127 n128)<|
.ex [.adr] (c1 λa137=>0<=n122/\n122<(Am data)/\data.a=some a137) (u1 λa138=>
AS T.a14 a138 (Int.toNat n122*4) (Bu n131 n132 n133 n134)<|
AA<|
Aj 4 [])))))<|
Af (AB (n105+1)) λn139=>
Af (AB (n122-1)) λn140=>
Aj 3 [Aa n139,Aa n140]) λn141 n142=>
Aj 2 [Aa n141,Aa n142]) λn143=>
As 1 (
Ay<|
.ex [.adr] (c1 λa144=>0<=a/\a<(Am data)/\data.a=some a144) (u1 λa145=>
BH T.a14 a145 (Int.toNat a*4) λn146 n147 n148 n149=>
.ex [.adr] (c1 λa150=>0<=n143/\n143<(Am data)/\data.a=some a150) (u1 λa151=>
BH T.a14 a151 (Int.toNat n143*4) λn152 n153 n154 n155=>
.ex [.adr] (c1 λa156=>0<=n143/\n143<(Am data)/\data.a=some a156) (u1 λa157=>
AS T.a14 a157 (Int.toNat n143*4) (Bu n146 n147 n148 n149)<|
.ex [.adr] (c1 λa158=>0<=a/\a<(Am data)/\data.a=some a158) (u1 λa159=>
AS T.a14 a159 (Int.toNat a*4) (Bu n152 n153 n154 n155)<|
AA<|
Aj 1 [])))))<|
Af n143 λn160=>
Aj 0 [Aa n160,.bool false]
theorem znn (data:Sl) (a b pivot:Int) (cmp:Value) {w:World} {R:List Value->World->Prop} (h:(z07f data a b pivot cmp).wp P (λ_=>True) w λe vs w'=>e=0/\R vs w'):Ret P F.a148 #[.slice data.a data.len data.cap,.int .i64 a,.int .i64 b,.int .i64 pivot,cmp] w R:=dS (n:=178) (rv:=[.tmp 10,.tmp 11]) { cnd:=[],blk:=[(0,[(12,.one (.int .i64))]),(2,[(13,.one (.int .i64))]),(4,[(13,.one (.int .i64))]),(5,[(12,.one (.int .i64)),(13,.one (.int .i64))]),(6,[(12,.one (.int .i64))]),(8,[(13,.one (.int .i64))])],reg:=[(1,[]),(3,[(47,.one .bool)]),(5,[(66,.one .bool)]),(8,[]),(10,[]),(13,[(120,.one .bool)]),(15,[(139,.one .bool)]),(18,[]),(21,[])],lps:=[(0,[(12,.one (.int .i64))]),(2,[(13,.one (.int .i64))]),(4,[(12,.one (.int .i64)),(13,.one (.int .i64))]),(6,[(12,.one (.int .i64))]),(8,[(13,.one (.int .i64))])] } [.val (.slice data.a data.len data.cap),.val (.int .i64 a),.val (.int .i64 b),.val (.int .i64 pivot),.any cmp] Go.Proofs.Tryz.func265 (by kernel_rfl) (by kernel_rfl) (by kernel_rfl) (by kernel_rfl) h
def z08f (data:Sl) (lo hi:Int) (first:Int):Prog :=
Af lo λn0=>
As 1 (
Ax 2 (n0,()) λn1=>
Af (AB (AB (2*n1)+1)) λn2=>
Ai (decide (n2>=hi)) (
Aj 1 [])<|
AD 3 (
Ay<|
.ex [.adr] (c1 λa3=>decide (AB (n2+1)<hi)=true->0<=AB (first+n2)/\AB (first+n2)<(Am data)/\data.a=some a3) (u1 λa4=>
BB (decide (AB (n2+1)<hi)=true) T.a46 a4 (Int.toNat (AB (first+n2))*1) λs5=>
.ex [.adr] (c1 λa6=>decide (AB (n2+1)<hi)=true->0<=AB (AB (first+n2)+1)/\AB (AB (first+n2)+1)<(Am data)/\data.a=some a6) (u1 λa7=>
BB (decide (AB (n2+1)<hi)=true) T.a46 a7 (Int.toNat (AB (AB (first+n2)+1))*1) λs8=>
Ai (decide (AB (n2+1)<hi)) (
AJ F.a2 [.string s5,.string s8] λb9=>
AA<|
Aj 3 [.bool b9])<|
AA<|
Aj 3 [.bool false]))) λb10=>
AG 3 (
Ai b10 (
Af (AB (n2+1)) λn11=>
Aj 3 [Aa n11])<|
Aj 3 [Aa n2]) λn12=>
Ay<|
.ex [.adr] (c1 λa13=>0<=AB (first+n1)/\AB (first+n1)<(Am data)/\data.a=some a13) (u1 λa14=>
AW T.a46 a14 (Int.toNat (AB (first+n1))*1) λs15=>
.ex [.adr] (c1 λa16=>0<=AB (first+n12)/\AB (first+n12)<(Am data)/\data.a=some a16) (u1 λa17=>
AW T.a46 a17 (Int.toNat (AB (first+n12))*1) λs18=>
AJ F.a2 [.string s15,.string s18] λb19=>
AA<|
Ai (not b19) (
Aj 0 [])<|
As 3 (
Ay<|
.ex [.adr] (c1 λa20=>0<=AB (first+n12)/\AB (first+n12)<(Am data)/\data.a=some a20) (u1 λa21=>
AW T.a46 a21 (Int.toNat (AB (first+n12))*1) λs22=>
.ex [.adr] (c1 λa23=>0<=AB (first+n1)/\AB (first+n1)<(Am data)/\data.a=some a23) (u1 λa24=>
AW T.a46 a24 (Int.toNat (AB (first+n1))*1) λs25=>
.ex [.adr] (c1 λa26=>0<=AB (first+n1)/\AB (first+n1)<(Am data)/\data.a=some a26) (u1 λa27=>
AS T.a46 a27 (Int.toNat (AB (first+n1))*1) (.string s22)<|
.ex [.adr] (c1 λa28=>0<=AB (first+n12)/\AB (first+n12)<(Am data)/\data.a=some a28) (u1 λa29=>
AS T.a46 a29 (Int.toNat (AB (first+n12))*1) (.string s25)<|
AA<|
Aj 3 [])))))<|
Af n12 λn30=>
Aj 2 [Aa n30])))<|
Aj 0 []
def z006 (length:Int):Prog :=
AF F.a65 [.int .u64 (IntKind.wrap .u64 length)] λn0=>
.must (0<=n0) <|
Bj (IntKind.wrap .u64 (1*2 ^ min (Int.toNat n0) 64)) λn1=>
Aj 0 [.int .u64 n1]
theorem znk (length:Int):FnS (z006 length) F.a143 #[.int .i64 length]:=dV ⟨[],[],[],[]⟩ Go.Proofs.Tryz.func270 (by kernel_rfl)
def z007 (r:Option Addr):Prog :=
Ay<|
Ba r λa1=>
BI T.a45 a1 λn2=>
Ba r λa4=>
BI T.a45 a4 λn5=>
Ba r λa7=>
Ac T.a45 a7 (.int .u64 (IntKind.wrap .u64 (((BitVec.toNat (BitVec.ofInt 64 n2 ^^^ BitVec.ofInt 64 (IntKind.wrap .u64 (n5*8192))):Nat):Int))))<|
AA<|
Ay<|
Ba r λa9=>
BI T.a45 a9 λn10=>
Ba r λa12=>
BI T.a45 a12 λn13=>
Ba r λa15=>
Ac T.a45 a15 (.int .u64 (IntKind.wrap .u64 (((BitVec.toNat (BitVec.ofInt 64 n10 ^^^ BitVec.ofInt 64 (Int.fdiv n13 128)):Nat):Int))))<|
AA<|
Ay<|
Ba r λa17=>
BI T.a45 a17 λn18=>
Ba r λa20=>
BI T.a45 a20 λn21=>
Ba r λa23=>
Ac T.a45 a23 (.int .u64 (IntKind.wrap .u64 (((BitVec.toNat (BitVec.ofInt 64 n18 ^^^ BitVec.ofInt 64 (IntKind.wrap .u64 (n21*131072))):Nat):Int))))<|
AA<|
Ba r λa25=>
BI T.a45 a25 λn26=>
Bj n26 λn27=>
Aj 0 [.int .u64 n27]
theorem zns (r:Option Addr):FnS (z007 r) F.a158 #[.pointer r]:=dV ⟨[],[],[],[]⟩ Go.Proofs.Tryz.func271 (by kernel_rfl)
def z087 (data:Sl) (a:Int) (swaps:Option Addr):Prog :=
AF F.a142 [data.v,Aa (AB (a-1)),Aa a,Aa (AB (a+1)),Ah swaps] λn0=>
Af n0 λn1=>
Aj 0 [Aa n1]
def z088 (data:Sl) (a b c:Int) (swaps:Option Addr):Prog :=
Bp F.a145 [data.v,Aa a,Aa b,Ah swaps] λn0 n1=>
Af n0 λn2=>
Af n1 λn3=>
Bp F.a145 [data.v,Aa n3,Aa c,Ah swaps] λn4 n5=>
Af n4 λn6=>
Af n5 λn7=>
Bp F.a145 [data.v,Aa n2,Aa n6,Ah swaps] λn8 n9=>
Af n8 λn10=>
Af n9 λn11=>
Af n11 λn12=>
Aj 0 [Aa n12]
def zf4 (x:ByteArray):Prog :=
AL (not (ByteArray.toList x == ByteArray.toList x)) λb0=>
Aj 0 [.bool b0]
def z07j (data:Sl) (lo hi first:Int) (cmp:Value):Prog :=
Af lo λn0=>
As 1 (
Ax 2 (n0,()) λn1=>
Af (AB (AB (2*n1)+1)) λn2=>
Ai (decide (n2>=hi)) (
Aj 1 [])<|
AD 3 (
Ay<|
.ex [.adr] (c1 λa3=>decide (AB (n2+1)<hi)=true->0<=AB (first+n2)/\AB (first+n2)<(Am data)/\data.a=some a3) (u1 λa4=>
BD (decide (AB (n2+1)<hi)=true) T.a14 a4 (Int.toNat (AB (first+n2))*4) λn5 n6 n7 n8=>
.ex [.adr] (c1 λa9=>decide (AB (n2+1)<hi)=true->0<=AB (AB (first+n2)+1)/\AB (AB (first+n2)+1)<(Am data)/\data.a=some a9) (u1 λa10=>
BD (decide (AB (n2+1)<hi)=true) T.a14 a10 (Int.toNat (AB (AB (first+n2)+1))*4) λn11 n12 n13 n14=>
Ai (decide (AB (n2+1)<hi)) (
BE cmp [Bu n5 n6 n7 n8,Bu n11 n12 n13 n14] λn15=>
AA<|
Aj 3 [.bool (decide (n15<0))])<|
AA<|
Aj 3 [.bool false]))) λb16=>
AG 3 (
Ai b16 (
Af (AB (n2+1)) λn17=>
Aj 3 [Aa n17])<|
Aj 3 [Aa n2]) λn18=>
Ay<|
.ex [.adr] (c1 λa19=>0<=AB (first+n1)/\AB (first+n1)<(Am data)/\data.a=some a19) (u1 λa20=>
BH T.a14 a20 (Int.toNat (AB (first+n1))*4) λn21 n22 n23 n24=>
.ex [.adr] (c1 λa25=>0<=AB (first+n18)/\AB (first+n18)<(Am data)/\data.a=some a25) (u1 λa26=>
BH T.a14 a26 (Int.toNat (AB (first+n18))*4) λn27 n28 n29 n30=>
BE cmp [Bu n21 n22 n23 n24,Bu n27 n28 n29 n30] λn31=>
AA<|
Ai (not (decide (n31<0))) (
Aj 0 [])<|
As 3 (
Ay<|
.ex [.adr] (c1 λa32=>0<=AB (first+n18)/\AB (first+n18)<(Am data)/\data.a=some a32) (u1 λa33=>
BH T.a14 a33 (Int.toNat (AB (first+n18))*4) λn34 n35 n36 n37=>
.ex [.adr] (c1 λa38=>0<=AB (first+n1)/\AB (first+n1)<(Am data)/\data.a=some a38) (u1 λa39=>
BH T.a14 a39 (Int.toNat (AB (first+n1))*4) λn40 n41 n42 n43=>
.ex [.adr] (c1 λa44=>0<=AB (first+n1)/\AB (first+n1)<(Am data)/\data.a=some a44) (u1 λa45=>
AS T.a14 a45 (Int.toNat (AB (first+n1))*4) (Bu n34 n35 n36 n37)<|
.ex [.adr] (c1 λa46=>0<=AB (first+n18)/\AB (first+n18)<(Am data)/\data.a=some a46) (u1 λa47=>
AS T.a14 a47 (Int.toNat (AB (first+n18))*4) (Bu n40 n41 n42 n43)<|
AA<|
Aj 3 [])))))<|
Af n18 λn48=>
Aj 2 [Aa n48])))<|
Aj 0 []
theorem znr (data:Sl) (lo hi first:Int) (cmp:Value) {w:World} {R:List Value->World->Prop} (h:(z07j data lo hi first cmp).wp P (λ_=>True) w λe vs w'=>e=0/\R vs w'):Ret P F.a156 #[.slice data.a data.len data.cap,.int .i64 lo,.int .i64 hi,.int .i64 first,cmp] w R:=dS (n:=82) (rv:=[]) { cnd:=[(27021597772611624,[(11,.one (.int .i64))])],blk:=[(0,[])],reg:=[(3,[(40,.one .bool)]),(6,[])],lps:=[(0,[(10,.one (.int .i64))])] } [.val (.slice data.a data.len data.cap),.val (.int .i64 lo),.val (.int .i64 hi),.val (.int .i64 first),.any cmp] Go.Proofs.Tryz.func294 (by kernel_rfl) (by kernel_rfl) (by kernel_rfl) (by kernel_rfl) h
def z07b (data:Sl) (a:Int) (swaps:Option Addr) (cmp:Value):Prog :=
AF F.a141 [data.v,Aa (AB (a-1)),Aa a,Aa (AB (a+1)),Ah swaps,cmp] λn0=>
Af n0 λn1=>
Aj 0 [Aa n1]
theorem zni (data:Sl) (a:Int) (swaps:Option Addr) (cmp:Value) {w:World} {R:List Value->World->Prop} (h:(z07b data a swaps cmp).wp P (λ_=>True) w λe vs w'=>e=0/\R vs w'):Ret P F.a139 #[.slice data.a data.len data.cap,.int .i64 a,.pointer swaps,cmp] w R:=dS (n:=18) (rv:=[.tmp 8]) { cnd:=[],blk:=[],reg:=[],lps:=[] } [.val (.slice data.a data.len data.cap),.val (.int .i64 a),.val (.pointer swaps),.any cmp] Go.Proofs.Tryz.func295 (by kernel_rfl) (by kernel_rfl) (by kernel_rfl) (by kernel_rfl) h
def z07c (data:Sl) (a b c:Int) (swaps:Option Addr) (cmp:Value):Prog :=
Bp F.a144 [data.v,Aa a,Aa b,Ah swaps,cmp] λn0 n1=>
Af n0 λn2=>
Af n1 λn3=>
Bp F.a144 [data.v,Aa n3,Aa c,Ah swaps,cmp] λn4 n5=>
Af n4 λn6=>
Af n5 λn7=>
Bp F.a144 [data.v,Aa n2,Aa n6,Ah swaps,cmp] λn8 n9=>
Af n8 λn10=>
Af n9 λn11=>
Af n11 λn12=>
Aj 0 [Aa n12]
theorem znj (data:Sl) (a b c:Int) (swaps:Option Addr) (cmp:Value) {w:World} {R:List Value->World->Prop} (h:(z07c data a b c swaps cmp).wp P (λ_=>True) w λe vs w'=>e=0/\R vs w'):Ret P F.a141 #[.slice data.a data.len data.cap,.int .i64 a,.int .i64 b,.int .i64 c,.pointer swaps,cmp] w R:=dS (n:=41) (rv:=[.tmp 12]) { cnd:=[],blk:=[],reg:=[],lps:=[] } [.val (.slice data.a data.len data.cap),.val (.int .i64 a),.val (.int .i64 b),.val (.int .i64 c),.val (.pointer swaps),.any cmp] Go.Proofs.Tryz.func296 (by kernel_rfl) (by kernel_rfl) (by kernel_rfl) (by kernel_rfl) h
def z089 (data:Sl) (a b:Int) (swaps:Option Addr):Prog :=
Ay<|
.ex [.adr] (c1 λa0=>0<=b/\b<(Am data)/\data.a=some a0) (u1 λa1=>
AW T.a46 a1 (Int.toNat b*1) λs2=>
.ex [.adr] (c1 λa3=>0<=a/\a<(Am data)/\data.a=some a3) (u1 λa4=>
AW T.a46 a4 (Int.toNat a*1) λs5=>
AJ F.a2 [.string s2,.string s5] λb6=>
AA<|
Ai b6 (
Ba swaps λa8=>
BF T.a12 a8 λn9=>
Ba swaps λa11=>
Ac T.a12 a11 (Aa (AB (n9+1)))<|
Af b λn12=>
Af a λn13=>
Aj 0 [Aa n12,Aa n13])<|
Af a λn14=>
Af b λn15=>
Aj 0 [Aa n14,Aa n15]))
def z07d (data:Sl) (a b:Int) (swaps:Option Addr) (cmp:Value):Prog :=
Ay<|
.ex [.adr] (c1 λa0=>0<=b/\b<(Am data)/\data.a=some a0) (u1 λa1=>
BH T.a14 a1 (Int.toNat b*4) λn2 n3 n4 n5=>
.ex [.adr] (c1 λa6=>0<=a/\a<(Am data)/\data.a=some a6) (u1 λa7=>
BH T.a14 a7 (Int.toNat a*4) λn8 n9 n10 n11=>
BE cmp [Bu n2 n3 n4 n5,Bu n8 n9 n10 n11] λn12=>
AA<|
Ai (decide (n12<0)) (
Ba swaps λa14=>
BF T.a12 a14 λn15=>
Ba swaps λa17=>
Ac T.a12 a17 (Aa (AB (n15+1)))<|
Af b λn18=>
Af a λn19=>
Aj 0 [Aa n18,Aa n19])<|
Af a λn20=>
Af b λn21=>
Aj 0 [Aa n20,Aa n21]))
theorem znl (data:Sl) (a b:Int) (swaps:Option Addr) (cmp:Value) {w:World} {R:List Value->World->Prop} (h:(z07d data a b swaps cmp).wp P (λ_=>True) w λe vs w'=>e=0/\R vs w'):Ret P F.a144 #[.slice data.a data.len data.cap,.int .i64 a,.int .i64 b,.pointer swaps,cmp] w R:=dS (n:=32) (rv:=[.tmp 10,.tmp 11]) { cnd:=[],blk:=[],reg:=[],lps:=[] } [.val (.slice data.a data.len data.cap),.val (.int .i64 a),.val (.int .i64 b),.val (.pointer swaps),.any cmp] Go.Proofs.Tryz.func309 (by kernel_rfl) (by kernel_rfl) (by kernel_rfl) (by kernel_rfl) h
end Go.Dec
