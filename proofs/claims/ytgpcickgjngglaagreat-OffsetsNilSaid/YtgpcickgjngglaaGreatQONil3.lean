/- What the claim of this folder leans on: our own texts, joined, without what it does not use. -/
import Derived.Test.YtgpcickgjngglaaGreatRows
import Derived.WalkKit
import Derived.ProofKit
import Derived.OpenShut
import Derived.RowKit3
import Derived.OrdersHeld
import Derived.Scope
import Derived.KernelRfl
import Derived.Laws.Sem
import Derived.Laws.StructEq
import Derived.Deep.AppendSrc
import Derived.Laws.BytesArg
import Derived.Laws.RangeString
import Derived.Maps.RangeRun
import Derived.Lib.ConvBytes
import Derived.Lib.SlBytesConst
import Derived.ChangeSlices
import Derived.ChangeMaps5
import Derived.ChangeSame
import Derived.Deep.Slices
import Derived.Deep.Fields
import Derived.Test.YtgpcickgjngglaaGreatProg
import Derived.Laws.MakeOwn
import Derived.WideKeyRuns
import Derived.DeepKeys3
import Derived.Sort.MapsRangeIn
import Derived.Sort.KeysCollected
import Derived.RangeFuncNested
import Derived.RangeFuncBound
import Derived.RangeFuncCalls
import Derived.RangeFuncLeaves
import Derived.RangeFuncBox
import Derived.OwnWalkIn
import Derived.TacticsInMore
import Derived.RegionIn
import Derived.LoopNIn
import Derived.LoopIn
import Derived.Maps.AppendAt
import Derived.Shelf.Abstract
import Derived.Shelf.Sort.Plain
import Derived.Shelf.Slices.In.SortNone
import Derived.Test.YtgpcickgjngglaaGreatQONil1
import Derived.Test.YtgpcickgjngglaaGreatQONil2
set_option linter.unusedVariables false
set_option linter.unusedSimpArgs false
namespace Go.Dec
theorem dS {f:FuncId} {fn:Func} {n:Nat} {rv:List RV} {p:Prog} {w:World} {R:List Value->World->Prop} (H:Hints) (args:List Base) (hf:P.funcs[f]? = some fn) (hb:fn.body.isSome=true) (hn:fn.ntmps=n) (hr:zai fn.results.toList=rv) (he:zht P n ⟨zhc,[]⟩ H rv (zap fn) args=p) (h:p.wp P (λ_=>True) w λe vs w'=>e=0/\R vs w'):Ret P f (args.map Base.v).toArray w R:=z9a (zh7 hf hb hn hr) zhd mix args (by rw [he];exact h)
abbrev FnS (p:Prog) (f:FuncId) (vs:Array Value):Prop:=∀ {w:World} {R:List Value->World->Prop},p.wp P (λ_=>True) w (λe vs w'=>e=0/\R vs w')->Ret P f vs w R
theorem dV {f:FuncId} {fn:Func} {p:Prog} {vs:List Value} (H:Hints) (hf:P.funcs[f]? = some fn) (he:(fn.body.isSome,zht P fn.ntmps ⟨zhc,[]⟩ H (zai fn.results.toList) (zap fn) (vs.map Base.val))=(true,p)):FnS p f vs.toArray:=λh=>by
 have e:=dS H (vs.map Base.val) hf (congrArg Prod.fst he) rfl rfl (congrArg Prod.snd he) h
 rwa [List.map_map,show Base.v∘Base.val=id from rfl,List.map_id] at e
abbrev Aa (e:Nat) (p:Prog) (k:Int->Prog):Prog:=.bind e [.one (.int .i64)] p (u1 k)
abbrev Ab (e:Nat) (x:Int × Int × Unit) (k:Int->Int->Prog):Prog:=.loop e [.one (.int .i64),.one (.int .i64)] x (u2 k)
abbrev Ac (b:Bool) (p q:Prog):Prog:=.ite b p q
abbrev Ad (l:Sl):Int:=((l.len:Nat):Int)
abbrev Ae (t:TypeId) (a:Addr) (i:Nat) (k:Sl->Prog):Prog:=.read True (ld t (Addr.add a i)) sL (u1 k)
abbrev Af (n:Int):Int:=IntKind.wrap .i64 n
abbrev Ag (x:Int) (k:Int->Prog):Prog:=.lt (.int .i64) x k
abbrev Ah (e:Nat) (l:List Value):Prog:=.done e l
abbrev Ai (n:Int):Value:=.int .i64 n
abbrev Aj (m:Sem Value) (k:Sl->Prog):Prog:=.act m sL (u1 k)
abbrev Ak (e:Nat) (p:Prog) (k:Sl->Prog):Prog:=.bind e [.one .slc] p (u1 k)
abbrev Al (e:Nat) (x:Sl × Int × Unit) (k:Sl->Int->Prog):Prog:=.loop e [.one .slc,.one (.int .i64)] x (u2 k)
abbrev Am (x:Int) (k:Int->Prog):Prog:=.lt (.int .u64) x k
abbrev An (f:FuncId) (l:List Value) (k:Sl->Prog):Prog:=.call f l sL (u1 k)
abbrev Ao (t:TypeId) (v:Value) (k:Addr->Prog):Prog:=.act (Instr.box t v) sA (u1 k)
abbrev Ap (a:Addr):Value:=.pointer (some a)
abbrev Aq (p:Option Addr):Value:=.pointer p
abbrev Ar (f:FuncId) (l:List Value) (k:Bool->Prog):Prog:=.call f l sB (u1 k)
abbrev As (s:Option Addr) (k:Addr->Prog):Prog:=.ex [.adr] (c1 λa=>s=some a) (u1 k)
abbrev Au (a:Addr) (i:Nat):Value:=.pointer (some (Addr.add a i))
abbrev Av (f:FuncId) (l:List Value) (k:Int->Prog):Prog:=.call f l (sI .u64) (u1 k)
abbrev Aw (f:FuncId) (l:List Value) (k:Int->Prog):Prog:=.call f l (sI .i64) (u1 k)
abbrev Ax (e:Nat) (p:Prog) (k:Prog):Prog:=.bind e [] p (u0 k)
abbrev Ay (f:FuncId) (l:List Value) (k:Prog):Prog:=.call f l (.tup []) (u0 k)
abbrev Az (t:TypeId) (a:Addr) (i:Nat) (k:Int->Prog):Prog:=.read True (ld t (Addr.add a i)) (sI .i64) (u1 k)
abbrev AA (t:TypeId) (a:Addr) (i:Nat) (k:Int->Int->Int->Int->Int->Int->Sl->Prog):Prog:=.read True (ld t (Addr.add a i)) (sG [.int .i64,.int .i64,.int .i64,.int .i64,.int .i64,.int .i64,.slc]) (u7 k)
abbrev AB (t:TypeId) (k:Addr->Prog):Prog:=.act (new t) sA (u1 k)
abbrev AC (t:TypeId) (a:Addr) (v:Value) (k:Prog):Prog:=.actU (st t a v) k
abbrev AD (x0:Int) (x1:Int) (x2:Int) (x3:Int) (x4:Int) (x5:Int) (x6:Sl):Value:=.agg #[.int .i64 x0,.int .i64 x1,.int .i64 x2,.int .i64 x3,.int .i64 x4,.int .i64 x5,x6.v]
abbrev AE (t:TypeId) (a:Addr) (k:Int->Int->Int->Int->Int->Int->Sl->Prog):Prog:=.read True (ld t a) (sG [.int .i64,.int .i64,.int .i64,.int .i64,.int .i64,.int .i64,.slc]) (u7 k)
abbrev AF (t:TypeId) (a:Addr) (i:Nat) (k:ByteArray->ByteArray->Bool->Int->Prog):Prog:=.read True (ld t (Addr.add a i)) (sG [.str,.str,.bool,.int .i64]) (u4 k)
abbrev AG (x0:ByteArray) (x1:ByteArray) (x2:Bool) (x3:Int):Value:=.agg #[.string x0,.string x1,.bool x2,.int .i64 x3]
abbrev AH (t:TypeId) (a:Addr) (k:ByteArray->ByteArray->Bool->Int->Prog):Prog:=.read True (ld t a) (sG [.str,.str,.bool,.int .i64]) (u4 k)
abbrev AI (x0:Int) (x1:Int):Value:=.agg #[.int .i64 x0,.int .i64 x1]
abbrev AJ (x:Bool) (p q:Prog):Prog:=.lt .bool x λb=>.ite b p q
abbrev AK (e:Nat) (p:Prog) (k:Bool->Prog):Prog:=.bind e [.one .bool] p (u1 k)
abbrev AL (g:Prop) (m:Sem Value) (k:Int->Int->Prog):Prog:=.read g m (sG [.int .i64,.int .i64]) (u2 k)
abbrev AM (x:Bool) (k:Bool->Prog):Prog:=.lt (.bool) x k
abbrev AN (t:TypeId) (a:Addr) (k:Int->Int->Prog):Prog:=.read True (ld t a) (sG [.int .i64,.int .i64]) (u2 k)
abbrev AO (f:FuncId) (l:List Value) (k:Sl->Int->Prog):Prog:=.call f l (.tup [.one .slc,.one (.int .i64)]) (u2 k)
abbrev AP (f:FuncId) (l:List Value) (k:ByteArray->Prog):Prog:=.call f l sS (u1 k)
abbrev AQ (f:FuncId) (l:List Value) (k:Bool->Int->Prog):Prog:=.call f l (.tup [.one .bool,.one (.int .i64)]) (u2 k)
abbrev AR (t:TypeId) (a:Addr) (k:(Option Addr)->Prog):Prog:=.read True (ld t a) sP (u1 k)
abbrev AS (t:TypeId) (a:Addr) (k:Int->Prog):Prog:=.read True (ld t a) (sI .i64) (u1 k)
abbrev AT (k:Prog):Prog:=.tick k
abbrev AU (k:Prog):Prog:=.untick k
abbrev AV (e:Nat) (x:Int × Unit) (k:Int->Prog):Prog:=.loop e [.one (.int .i64)] x (u1 k)
abbrev AW (t:TypeId) (a:Addr) (i:Nat) (k:(Option Addr)->Prog):Prog:=.read True (ld t (Addr.add a i)) sP (u1 k)
abbrev AX (m:Sem Value) (k:Sl->Prog):Prog:=.read True m sL (u1 k)
abbrev AY (t:TypeId) (a:Addr) (i:Nat) (k:Int->Prog):Prog:=.hold True (ld t (Addr.add a i)) (sI .i64) (u1 k)
abbrev AZ (g:Prop) (s:Option Addr) (k:Addr->Prog):Prog:=.ex [.adr] (c1 λa=>g->s=some a) (u1 k)
abbrev Ba (g:Prop) (t:TypeId) (a:Addr) (i:Nat) (k:Sl->Prog):Prog:=.read g (ld t (Addr.add a i)) sL (u1 k)
abbrev Bb (g:Prop) (t:TypeId) (a:Addr) (i:Nat) (k:Int->Prog):Prog:=.read g (ld t (Addr.add a i)) (sI .i64) (u1 k)
abbrev Bc (t:TypeId) (a:Addr) (i:Nat) (k:Int->Prog):Prog:=.read True (ld t (Addr.add a i)) (sI .u8) (u1 k)
abbrev Bd (x:Int) (k:Int->Prog):Prog:=.lt (.int .u8) x k
abbrev Be (t:TypeId) (a:Addr) (i:Nat) (v:Value) (k:Prog):Prog:=.actU (st t (Addr.add a i) v) k
abbrev Bf (x:ByteArray) (k:ByteArray->Prog):Prog:=.lt (.str) x k
abbrev Bg (t:TypeId) (a:Addr) (i:Nat) (k:(Option Addr)->Prog):Prog:=.hold True (ld t (Addr.add a i)) sP (u1 k)
abbrev Bh (t:TypeId) (a:Addr) (i:Nat) (k:ByteArray->Prog):Prog:=.read True (ld t (Addr.add a i)) sS (u1 k)
abbrev Bi (f:FuncId) (l:List Value) (k:Int->Bool->Prog):Prog:=.call f l (.tup [.one (.int .i64),.one .bool]) (u2 k)
abbrev Bj (f:FuncId) (l:List Value) (k:(Option Addr)->Prog):Prog:=.call f l sP (u1 k)
abbrev Bk (m:Sem Value) (k:ByteArray->Prog):Prog:=.read True m sS (u1 k)
abbrev Bl (f:FuncId) (l:List Value) (k:Sl->Int->Bool->Prog):Prog:=.call f l (.tup [.one .slc,.one (.int .i64),.one .bool]) (u3 k)
abbrev Bn (t:TypeId) (p:Option Addr) (k:(Option Addr)->Prog):Prog:=.read True (Instr.loadAt t (.pointer p)) sP (u1 k)
abbrev Bo (t:TypeId) (p:Option Addr) (k:Int->Prog):Prog:=.read True (Instr.loadAt t (.pointer p)) (sI .i64) (u1 k)
abbrev Bp (g:Prop) (t:TypeId) (a:Addr) (k:Int->Int->Int->Int->Int->Int->Sl->Prog):Prog:=.read g (ld t a) (sG [.int .i64,.int .i64,.int .i64,.int .i64,.int .i64,.int .i64,.slc]) (u7 k)
abbrev Bq (f:Value) (l:List Value) (k:Bool->Prog):Prog:=.callv f l sB (u1 k)
abbrev Br (x0:Int) (x1:Int) (x2:Int):Value:=.agg #[.int .i64 x0,.int .i64 x1,.int .i64 x2]
abbrev Bs (m:Sem Unit) (k:Prog):Prog:=.actU m k
abbrev Bt (f:FuncId) (l:List Value) (k:Int->Int->Int->Int->Int->Int->Sl->Prog):Prog:=.call f l (sG [.int .i64,.int .i64,.int .i64,.int .i64,.int .i64,.int .i64,.slc]) (u7 k)
abbrev Bu (f:FuncId) (l:List Value) (k:Int->Prog):Prog:=.call f l (sI .u32) (u1 k)
abbrev Bv (x:Int) (k:Int->Prog):Prog:=.lt (.int .u32) x k
abbrev Bw (f:FuncId) (l:List Value) (k:(Option Addr)->Int->Prog):Prog:=.call f l (.tup [.one .ptr,.one (.int .i64)]) (u2 k)
abbrev Bx (t:TypeId) (a:Addr) (k:Int->Int->Int->Prog):Prog:=.read True (ld t a) (sG [.int .i64,.int .i64,.int .i64]) (u3 k)
abbrev By (g:Prop) (t:TypeId) (a:Addr) (i:Nat) (k:ByteArray->Prog):Prog:=.read g (ld t (Addr.add a i)) sS (u1 k)
abbrev Bz (g:Prop) (t:TypeId) (a:Addr) (i:Nat) (k:Bool->Prog):Prog:=.read g (ld t (Addr.add a i)) sB (u1 k)
abbrev B0 (m:Sem Value) (k:ByteArray->Prog):Prog:=.hold True m sS (u1 k)
abbrev B1 (t:TypeId) (a:Addr) (i:Nat) (k:Bool->Prog):Prog:=.read True (ld t (Addr.add a i)) sB (u1 k)
abbrev B2 (e:Nat) (p:Prog) (k:Int->Prog):Prog:=.bind e [.one (.int .u32)] p (u1 k)
abbrev B3 (e:Nat) (x:Int × Int × Unit) (k:Int->Int->Prog):Prog:=.loop e [.one (.int .u32),.one (.int .i64)] x (u2 k)
abbrev B4 (m:Sem Value) (k:(Option Nat)->Prog):Prog:=.act m sM (u1 k)
abbrev B5 (t:TypeId) (a:Addr) (i:Nat) (k:(Option Nat)->Prog):Prog:=.read True (ld t (Addr.add a i)) sM (u1 k)
abbrev B6 (m:Sem Value) (k:(Option Addr)->Prog):Prog:=.read True m sP (u1 k)
abbrev B7 (g:Prop) (t:TypeId) (a:Addr) (i:Nat) (k:(Option Nat)->Prog):Prog:=.read g (ld t (Addr.add a i)) sM (u1 k)
abbrev B8 (t:TypeId) (a:Addr) (k:Sl->Int->Prog):Prog:=.read True (ld t a) (sG [.slc,.int .i64]) (u2 k)
abbrev B9 (x0:Sl) (x1:Int):Value:=.agg #[x0.v,.int .i64 x1]
abbrev BA (m:Sem Value) (k:Prog):Prog:=.act m (.tup []) (u0 k)
abbrev BB (e:Nat) (p:Prog) (k:Int->Int->Prog):Prog:=.bind e [.one (.int .i64),.one (.int .i64)] p (u2 k)
abbrev BC (m:Sem Value) (k:Int->Prog):Prog:=.read True m (sI .i64) (u1 k)
abbrev BD (m:Sem Value) (k:Addr->Prog):Prog:=.act m sA (u1 k)
abbrev BE (x0:Int) (x1:Int) (x2:Int) (x3:Int):Value:=.agg #[.int .i64 x0,.int .i64 x1,.int .i64 x2,.int .i64 x3]
abbrev BF (t:TypeId) (a:Addr) (k:Int->Int->Int->Int->Prog):Prog:=.read True (ld t a) (sG [.int .i64,.int .i64,.int .i64,.int .i64]) (u4 k)
abbrev BG (e:Nat) (p:Prog) (k:Int->Int->Prog):Prog:=.bind e [.one (.int .u64),.one (.int .i64)] p (u2 k)
abbrev BH (t:TypeId) (a:Addr) (k:Int->Prog):Prog:=.read True (ld t a) (sI .u64) (u1 k)
abbrev BI (e:Nat) (x:Int × Int × Int × Bool × Bool × Unit) (k:Int->Int->Int->Bool->Bool->Prog):Prog:=.loop e [.one (.int .i64),.one (.int .i64),.one (.int .i64),.one .bool,.one .bool] x (u5 k)
abbrev BJ (e:Nat) (p:Prog) (k:Int->Int->Int->Bool->Bool->Prog):Prog:=.bind e [.one (.int .i64),.one (.int .i64),.one (.int .i64),.one .bool,.one .bool] p (u5 k)
abbrev BK (f:FuncId) (l:List Value) (k:Int->Int->Prog):Prog:=.call f l (.tup [.one (.int .i64),.one (.int .i64)]) (u2 k)
abbrev BL (g:Prop) (t:TypeId) (a:Addr) (i:Nat) (k:Int->Int->Int->Int->Prog):Prog:=.read g (ld t (Addr.add a i)) (sG [.int .i64,.int .i64,.int .i64,.int .i64]) (u4 k)
abbrev BM (f:Value) (l:List Value) (k:Int->Prog):Prog:=.callv f l (sI .i64) (u1 k)
abbrev BN (e:Nat) (p:Prog) (k:Int->Int->Bool->Prog):Prog:=.bind e [.one (.int .i64),.one (.int .i64),.one .bool] p (u3 k)
abbrev BO (t:TypeId) (a:Addr) (i:Nat) (k:Int->Int->Int->Int->Prog):Prog:=.read True (ld t (Addr.add a i)) (sG [.int .i64,.int .i64,.int .i64,.int .i64]) (u4 k)
abbrev BQ (e:Nat) (p:Prog) (k:Int->Int->Int->Prog):Prog:=.bind e [.one (.int .i64),.one (.int .i64),.one (.int .i64)] p (u3 k)
abbrev BR (g:Prop) (t:TypeId) (a:Addr) (i:Nat) (k:Int->Int->Int->Int->Int->Int->Int->Prog):Prog:=.read g (ld t (Addr.add a i)) (sG [.int .i64,.int .i64,.int .i64,.int .i64,.int .i64,.int .i64,.int .i64]) (u7 k)
abbrev BS (x0:Int) (x1:Int) (x2:Int) (x3:Int) (x4:Int) (x5:Int) (x6:Int):Value:=.agg #[.int .i64 x0,.int .i64 x1,.int .i64 x2,.int .i64 x3,.int .i64 x4,.int .i64 x5,.int .i64 x6]
abbrev BT (t:TypeId) (a:Addr) (i:Nat) (k:Int->Int->Int->Int->Int->Int->Int->Prog):Prog:=.read True (ld t (Addr.add a i)) (sG [.int .i64,.int .i64,.int .i64,.int .i64,.int .i64,.int .i64,.int .i64]) (u7 k)
abbrev BU (f:FuncId) (l:List Value) (k:Int->Int->Int->Int->Bool->Prog):Prog:=.call f l (.tup [.agg [.int .i64,.int .i64,.int .i64,.int .i64],.one .bool]) (u5 k)
abbrev BV (f:FuncId) (l:List Value) (k:Int->Bool->Int->Prog):Prog:=.call f l (.tup [.one (.int .i64),.one .bool,.one (.int .i64)]) (u3 k)
abbrev BW (t:TypeId) (a:Addr) (i:Nat) (k:Int->ByteArray->ByteArray->Bool->Int->Prog):Prog:=.read True (ld t (Addr.add a i)) (sG [.int .i64,.str,.str,.bool,.int .i64]) (u5 k)
abbrev BX (x0:Int) (x1:ByteArray) (x2:ByteArray) (x3:Bool) (x4:Int):Value:=.agg #[.int .i64 x0,.string x1,.string x2,.bool x3,.int .i64 x4]
abbrev BY (f:FuncId) (l:List Value) (k:Int->Int->Int->Int->Int->Prog):Prog:=.call f l (.tup [.agg [.int .i64,.int .i64,.int .i64,.int .i64],.one (.int .i64)]) (u5 k)
abbrev BZ (e:Nat) (p:Prog) (k:Addr->Bool->Prog):Prog:=.bind e [.one .adr,.one .bool] p (u2 k)
abbrev Ca (f:FuncId) (l:List Value) (k:Int->ByteArray->ByteArray->Bool->Int->Bool->Prog):Prog:=.call f l (.tup [.agg [.int .i64,.str,.str,.bool,.int .i64],.one .bool]) (u6 k)
abbrev Cb (t:TypeId) (a:Addr) (i:Nat) (k:Int->Int->Prog):Prog:=.read True (ld t (Addr.add a i)) (sG [.int .i64,.int .i64]) (u2 k)
abbrev Cc (g:Prop) (t:TypeId) (a:Addr) (i:Nat) (k:Int->Prog):Prog:=.hold g (ld t (Addr.add a i)) (sI .i64) (u1 k)
abbrev Cd (t:TypeId) (a:Addr) (k:Int->ByteArray->ByteArray->Bool->Int->Prog):Prog:=.read True (ld t a) (sG [.int .i64,.str,.str,.bool,.int .i64]) (u5 k)
abbrev Ce (f:FuncId) (l:List Value) (k:Sl->Bool->Prog):Prog:=.call f l (.tup [.one .slc,.one .bool]) (u2 k)
abbrev Cf (t:TypeId) (a:Addr) (i:Nat) (k:(Option Nat)->Prog):Prog:=.hold True (ld t (Addr.add a i)) sM (u1 k)
abbrev Cg (m:Sem Value) (k:Int->Int->Int->Int->Bool->Prog):Prog:=.hold True m (.tup [.agg [.int .i64,.int .i64,.int .i64,.int .i64],.one .bool]) (u5 k)
abbrev Ch (f:FuncId) (l:List Value) (k:Bool->Int->Int->Prog):Prog:=.call f l (.tup [.agg [.bool,.int .i64],.one (.int .i64)]) (u3 k)
abbrev Ci (x0:Bool) (x1:Int):Value:=.agg #[.bool x0,.int .i64 x1]
abbrev Cj (g:Prop) (t:TypeId) (a:Addr) (k:Int->Int->Int->Int->Int->Int->Int->Prog):Prog:=.read g (ld t a) (sG [.int .i64,.int .i64,.int .i64,.int .i64,.int .i64,.int .i64,.int .i64]) (u7 k)
abbrev Ck (t:TypeId) (a:Addr) (k:Int->Int->Int->Int->Int->Int->Int->Prog):Prog:=.read True (ld t a) (sG [.int .i64,.int .i64,.int .i64,.int .i64,.int .i64,.int .i64,.int .i64]) (u7 k)
abbrev Cl (t:TypeId) (a:Addr) (k:Bool->Int->Prog):Prog:=.read True (ld t a) (sG [.bool,.int .i64]) (u2 k)
abbrev Cm (g:Prop) (m:Sem Value) (k:Int->Prog):Prog:=.read g m (sI .i64) (u1 k)
def z027 (parts:Sl):Prog :=
Aa 1 (
Ab 2 (0,(0,())) λn0 n1=>
Ac (decide (n1<(Ad parts))) (
.ex [.adr] (c1 λa2=>0<=n1/\n1<(Ad parts)/\parts.a=some a2) (u1 λa3=>
Ae T.a50 a3 (Int.toNat n1*1) λl4=>
Ag (Af (n0+(Ad l4))) λn5=>
Ah 2 [Ai n5,Ai (Af (n1+1))]))<|
Ah 1 [Ai n0]) λn6=>
Aj (Instr.makeSlice T.a50 (Ai 0) (Ai n6)) λl7=>
Ak 1 (
Al 2 ({ a:=l7.a,len:=l7.len,cap:=l7.cap },(0,())) λl8 n9=>
Ac (decide (n9<(Ad parts))) (
.ex [.adr] (c1 λa10=>0<=n9/\n9<(Ad parts)/\parts.a=some a10) (u1 λa11=>
Ae T.a50 a11 (Int.toNat n9*1) λl12=>
Aj (app T.a50 T.a50 T.a50 l8.v l12.v) λl13=>
Ah 2 [l13.v,Ai (Af (n9+1))]))<|
Ah 1 [l8.v]) λl14=>
Ah 0 [l14.v]
theorem zox (parts:Sl):FnS (z027 parts) F.a230 #[.slice parts.a parts.len parts.cap]:=dV ⟨[],[(0,[(3,.one (.int .i64))]),(2,[(6,.one .slc)])],[],[(0,[(3,.one (.int .i64)),(11,.one (.int .i64))]),(2,[(6,.one .slc),(24,.one (.int .i64))])]⟩ Go.Proofs.Tryz.func73 (by kernel_rfl)
def z02j (n:Int):Prog :=
.bind 1 [.one (.int .u64),.one .slc] (
.loop 2 [.one (.int .u64),.one .slc] (n,(⟨none,0,0⟩,())) (u2 λ(n0:Int) l1=>
Ac (decide (n0>=128)) (
Aj (Instr.buildSlice T.a50 1 #[(0,.int .u8 (IntKind.wrap .u8 (((BitVec.toNat (BitVec.ofInt 8 (IntKind.wrap .u8 n0) ||| BitVec.ofInt 8 128):Nat):Int))))]) λl2=>
Aj (app T.a50 T.a50 T.a50 l1.v l2.v) λl3=>
Am (Int.fdiv n0 128) λn4=>
Ah 2 [.int .u64 n4,l3.v])<|
Ah 1 [.int .u64 n0,l1.v])) (u2 λ(n5:Int) l6=>
Aj (Instr.buildSlice T.a50 1 #[(0,.int .u8 (IntKind.wrap .u8 n5))]) λl7=>
Aj (app T.a50 T.a50 T.a50 l6.v l7.v) λl8=>
Ah 0 [l8.v])
theorem zp9 (n:Int):FnS (z02j n) F.a242 #[.int .u64 n]:=dV ⟨[],[(0,[(0,.one (.int .u64)),(3,.one .slc)])],[],[(0,[(0,.one (.int .u64)),(3,.one .slc)])]⟩ Go.Proofs.Tryz.func74 (by kernel_rfl)
def z028 (b:Sl):Prog :=
An F.a0 [b.v] λl0=>
Ao T.a58 (.agg #[l0.v,Ai 0,Ai 0]) λa1=>
Ah 0 [Ap a1]
theorem zoy (b:Sl):FnS (z028 b) F.a231 #[.slice b.a b.len b.cap]:=dV ⟨[],[],[],[]⟩ Go.Proofs.Tryz.func78 (by kernel_rfl)
def z02f (r:Option Addr):Prog :=
Ar F.a240 [Aq r] λb0=>
Ac (not b0) (
Ah 0 [.int .u64 0])<|
As r λa2=>
Av F.a246 [Au a2 0] λn3=>
Am n3 λn4=>
Ah 0 [.int .u64 n4]
theorem zp5 (r:Option Addr):FnS (z02f r) F.a238 #[.pointer r]:=dV ⟨[],[],[],[]⟩ Go.Proofs.Tryz.func79 (by kernel_rfl)
def z02a (r:Option Addr):Prog :=
Ac (Option.isNone r) (
Ah 0 [Ai 1])<|
As r λa1=>
Aw F.a244 [Au a1 0] λn2=>
Ax 1 (
Ac (decide (n2>0)) (
As r λa4=>
Ay F.a243 [Au a4 0,Ai 6]<|
Ah 1 [])<|
Ah 1 [])<|
As r λa6=>
Az T.a1 (Addr.add a6 0) 2 λn7=>
Ag n7 λn8=>
Ah 0 [Ai n8]
theorem zp0 (r:Option Addr):FnS (z02a r) F.a233 #[.pointer r]:=dV ⟨[(62914569,[])],[],[],[]⟩ Go.Proofs.Tryz.func80 (by kernel_rfl)
def z00p (l:Sl):Prog :=
Ak 1 (
Al 2 (⟨none,0,0⟩,(0,())) λl0 n1=>
Ac (decide (n1<(Ad l))) (
Ak 3 (
.ex [.adr] (c1 λa2=>0<=n1/\n1<(Ad l)/\l.a=some a2) (u1 λa3=>
AA T.a0 a3 (Int.toNat n1*7) λn4 n5 n6 n7 n8 n9 l10=>
AB T.a0 λa11=>
AC T.a0 a11 (AD n4 n5 n6 n7 n8 n9 l10)<|
AE T.a0 a11 λn12 n13 n14 n15 n16 n17 l18=>
Ar F.a134 [AD n12 n13 n14 n15 n16 n17 l18] λb19=>
Ac b19 (
Ah 3 [l0.v])<|
Ae T.a40 a11 6 λl20=>
Ak 4 (
Al 5 ({ a:=l0.a,len:=l0.len,cap:=l0.cap },(0,())) λl21 n22=>
Ac (decide (n22<(Ad l20))) (
.ex [.adr] (c1 λa23=>0<=n22/\n22<(Ad l20)/\l20.a=some a23) (u1 λa24=>
AF T.a2 a24 (Int.toNat n22*4) λs25 s26 b27 n28=>
AB T.a2 λa29=>
Ag n22 λn30=>
AC T.a2 a29 (AG s25 s26 b27 n28)<|
Az T.a14 a11 0 λn31=>
AH T.a2 a29 λs32 s33 b34 n35=>
Aj (Instr.buildSlice T.a47 1 #[(0,.agg #[Ai (Af (n31+n30)),.string s32,.string s33,.bool b34,Ai n35])]) λl36=>
Aj (app T.a47 T.a47 T.a47 l21.v l36.v) λl37=>
Ah 5 [l37.v,Ai (Af (n22+1))]))<|
Ah 4 [l21.v]) λl38=>
Ah 3 [l38.v])) λl39=>
Ah 2 [l39.v,Ai (Af (n1+1))])<|
Ah 1 [l0.v]) λl40=>
Ah 0 [l40.v]
theorem znf (l:Sl):FnS (z00p l) F.a126 #[.slice l.a l.len l.cap]:=dV ⟨[],[(0,[(3,.one .slc)]),(1,[(3,.one .slc)]),(2,[(3,.one .slc)])],[],[(0,[(3,.one .slc),(10,.one (.int .i64))]),(2,[(3,.one .slc),(19,.one (.int .i64))])]⟩ Go.Proofs.Tryz.func89 (by kernel_rfl)
def z01m (d:Option Addr) (prefix_:ByteArray) (c_0:Int) (c_1:Int):Prog :=
Ao T.a51 (AI c_0 c_1) λa0=>
AJ (Option.isNone d) (
Ah 0 [Aq none,Ai 1])<|
AK 1 (
Ar F.a164 [.string prefix_] λb2=>
AL (not b2=false) (ld T.a51 a0) λn3 n4=>
Ac (not b2) (
Ah 1 [.bool true])<|
Ar F.a168 [AI n3 n4] λb5=>
AM (not b5) λb6=>
Ah 1 [.bool b6]) λb7=>
Ac b7 (
Ah 0 [Aq none,Ai 2])<|
Ar F.a36 [Aq d] λb8=>
AJ b8 (
Ah 0 [Aq none,Ai 9])<|
AN T.a51 a0 λn10 n11=>
Ao T.a52 (.agg #[Aq d,.string prefix_,Ai n10,Ai n11,.slice none 0 0]) λa12=>
AO F.a153 [Ap a12] λl13 n14=>
Ag n14 λn15=>
Ac (n15 != 0) (
Ag n15 λn16=>
Ah 0 [Aq none,Ai n16])<|
Aa 1 (
Ab 2 (n15,(0,())) λn17 n18=>
Ac (decide (n18<(Ad l13))) (
Aa 3 (
.ex [.adr] (c1 λa19=>0<=n18/\n18<(Ad l13)/\l13.a=some a19) (u1 λa20=>
Az T.a14 a20 (Int.toNat n18*1) λn21=>
Ag n18 λn22=>
Ag n21 λn23=>
Aw F.a144 [Ap a12] λn24=>
Ac (decide (n23<n24)) (
AP F.a157 [Ap a12,Ai n23,.string (ByteArray.mk #[46,108,111,103])] λs25=>
Aw F.a39 [Aq d,.string s25] λn26=>
Ag n26 λn27=>
Ac (n27 != 0) (
Ah 1 [Ai n27])<|
Ah 3 [Ai n27])<|
AQ F.a160 [Ap a12,Ai n23] λb28 n29=>
AM b28 λb30=>
Ag n29 λn31=>
Ac (n31 == 0 && not b30) (
.must (0<=Af (n22+1)/\Af (n22+1)<=(Ad l13)) <|
Aw F.a152 [Ap a12,.slice (z10 l13.a 1 (Int.toNat (Af (n22+1))) l13.cap) (l13.len-Int.toNat (Af (n22+1))) (l13.cap-Int.toNat (Af (n22+1)))] λn32=>
Ag n32 λn33=>
Ah 1 [Ai n33])<|
Ac (n31 != 0) (
Ah 1 [Ai n31])<|
Ah 3 [Ai n31])) λn34=>
Ah 2 [Ai n34,Ai (Af (n18+1))])<|
Ah 1 [Ai n17]) λn35=>
Ac (n35 != 0) (
Ag n35 λn36=>
Ah 0 [Aq none,Ai n36])<|
Ah 0 [Ap a12,Ai 0]
theorem zoc (d:Option Addr) (prefix_:ByteArray) (c_0 c_1:Int):FnS (z01m d prefix_ c_0 c_1) F.a163 #[.pointer d,.string prefix_,.agg #[.int .i64 c_0,.int .i64 c_1]]:=dV ⟨[],[(1,[(10,.one (.int .i64))]),(2,[(10,.one (.int .i64))])],[(3,[(17,.one .bool)])],[(1,[(10,.one (.int .i64)),(44,.one (.int .i64))])]⟩ Go.Proofs.Tryz.func119 (by kernel_rfl)
def z014 (l:Option Addr):Prog :=
Ac (Option.isNone l) (
Ah 0 [.slice none 0 0])<|
Aw F.a143 [Aq l] λn0=>
AO F.a145 [Aq l,Ai n0,Ai 1099511627776] λl1 n2=>
Ag n2 λn3=>
Ah 0 [l1.v]
theorem znu (l:Option Addr):FnS (z014 l) F.a141 #[.pointer l]:=dV ⟨[],[],[],[]⟩ Go.Proofs.Tryz.func125 (by kernel_rfl)
def z017 (l:Option Addr) (offset:Int) (most:Int):Prog :=
Ao T.a34 (Aq l) λa0=>
Ao T.a14 (Ai offset) λa1=>
Ao T.a13 (Ai most) λa2=>
AR T.a34 a0 λp3=>
AJ (Option.isNone p3) (
Ah 0 [.slice none 0 0,Ai 1])<|
AS T.a13 a2 λn5=>
AJ (decide (n5<1)) (
Ah 0 [.slice none 0 0,Ai 2])<|
AK 1 (
AT<|
.hold True (ld T.a14 a1) (sI .i64) (u1 λ(n7:Int)=>
AR T.a34 a0 λp8=>
Aw F.a143 [Aq p8] λn9=>
.hold (decide (n7<n9)=false) (ld T.a14 a1) (sI .i64) (u1 λ(n10:Int)=>
.read (decide (n7<n9)=false) (ld T.a34 a0) sP (u1 λp11=>
Ac (decide (n7<n9)) (
AU<|
Ah 1 [.bool true])<|
Aw F.a144 [Aq p11] λn12=>
AM (decide (n10>n12)) λb13=>
AU<|
Ah 1 [.bool b13])))) λb14=>
Ac b14 (
Ah 0 [.slice none 0 0,Ai 8])<|
AB T.a39 λa15=>
AR T.a34 a0 λp16=>
As p16 λa18=>
Ae T.a46 a18 4 λl19=>
Aw F.a223 [Ai (Ad l19),.func (Fn.func 195) #[] #[Ap a0,Ap a1]] λn20=>
Ag (Af (n20-1)) λn21=>
Ag (if 0>n21 then 0 else n21) λn22=>
Ax 1 (
AV 2 (n22,()) λn23=>
AR T.a34 a0 λp24=>
As p24 λa26=>
Ae T.a46 a26 4 λl27=>
Ac (decide (n23<(Ad l27))) (
AR T.a34 a0 λp28=>
As p28 λa30=>
Ae T.a46 a30 4 λl31=>
.ex [.adr] (c1 λa32=>0<=n23/\n23<(Ad l31)/\l31.a=some a32) (u1 λa33=>
AW T.a35 a33 (Int.toNat n23*1) λp34=>
AK 3 (
AT<|
.hold True (ld T.a34 a0) sP (u1 λp35=>
AS T.a14 a1 λn36=>
Aw F.a169 [Aq p34,Ai n36] λn37=>
AU<|
Ar F.a162 [Aq p35,Aq p34,Ai n37,.func (Fn.func 198) #[] #[Ap a1,Ap a15,Ap a2]] λb38=>
AM b38 λb39=>
AU<|
Ah 3 [.bool b39])) λb40=>
Ac (not b40) (
Ah 1 [])<|
Ag (Af (n23+1)) λn41=>
Ah 2 [Ai n41]))<|
Ah 1 [])<|
AX (ld T.a39 a15) λl42=>
Ah 0 [l42.v,Ai 0]
theorem znx (l:Option Addr) (offset most:Int):FnS (z017 l offset most) F.a145 #[.pointer l,.int .i64 offset,.int .i64 most]:=dV ⟨[],[(1,[])],[(5,[(18,.one .bool)]),(13,[(11,.one .bool)])],[(1,[(9,.one (.int .i64))])]⟩ Go.Proofs.Tryz.func127 (by kernel_rfl)
def z00s (b_0 b_1 b_2 b_3 b_4 b_5:Int) (b_6:Sl):Prog :=
Ao T.a0 (AD b_0 b_1 b_2 b_3 b_4 b_5 b_6) λa0=>
AE T.a0 a0 λn1 n2 n3 n4 n5 n6 l7=>
Aw F.a131 [AD n1 n2 n3 n4 n5 n6 l7] λn8=>
Ac (n8 != 0) (
Ah 0 [Ai 0])<|
AT<|
AY T.a14 a0 0 λn9=>
AE T.a0 a0 λn10 n11 n12 n13 n14 n15 l16=>
Aw F.a130 [AD n10 n11 n12 n13 n14 n15 l16] λn17=>
Ag (Af (n9+n17)) λn18=>
AU<|
Ah 0 [Ai n18]
theorem zni (b_0 b_1 b_2 b_3 b_4 b_5:Int) (b_6:Sl):FnS (z00s b_0 b_1 b_2 b_3 b_4 b_5 b_6) F.a129 #[.agg #[.int .i64 b_0,.int .i64 b_1,.int .i64 b_2,.int .i64 b_3,.int .i64 b_4,.int .i64 b_5,.slice b_6.a b_6.len b_6.cap]]:=dV ⟨[],[],[],[]⟩ Go.Proofs.Tryz.func130 (by kernel_rfl)
def z015 (l:Option Addr):Prog :=
AZ (Option.isNone l=false) l λa1=>
Ba (Option.isNone l=false) T.a46 a1 4 λl2=>
Ac (Option.isNone l || (Ad l2) == 0) (
Ah 0 [Ai 0])<|
As l λa4=>
Ae T.a46 a4 4 λl5=>
.ex [.adr] (c1 λa6=>(0:Int)<=0/\0<(Ad l5)/\l5.a=some a6) (u1 λa7=>
AW T.a35 a7 0 λp8=>
As p8 λa10=>
Az T.a14 a10 1 λn11=>
Ag n11 λn12=>
Ah 0 [Ai n12])
theorem znv (l:Option Addr):FnS (z015 l) F.a143 #[.pointer l]:=dV ⟨[],[],[],[]⟩ Go.Proofs.Tryz.func131 (by kernel_rfl)
def zf0 (b:Sl):Prog :=
Ac (Option.isNone b.a) (
Ah 0 [.slice none 0 0])<|
Aj (Instr.buildSlice T.a50 0 #[]) λl0=>
Aj (app T.a50 T.a50 T.a50 l0.v b.v) λl1=>
Ah 0 [l1.v]
theorem zji (b:Sl):FnS (zf0 b) F.a0 #[.slice b.a b.len b.cap]:=dV ⟨[],[],[],[]⟩ Go.Proofs.Tryz.func135 (by kernel_rfl)
def z02h (r:Option Addr):Prog :=
AZ (not (Option.isNone r)=true) r λa1=>
Bb (not (Option.isNone r)=true) T.a1 (Addr.add a1 0) 2 λn2=>
AM (not (Option.isNone r) && n2 == 0) λb3=>
Ah 0 [.bool b3]
theorem zp7 (r:Option Addr):FnS (z02h r) F.a240 #[.pointer r]:=dV ⟨[],[],[],[]⟩ Go.Proofs.Tryz.func136 (by kernel_rfl)
def z02n (p:Option Addr):Prog :=
Ax 1 (
.loop 2 [.one (.int .u64),.one (.int .i64)] (0,(0,())) (u2 λ(n0 n1:Int)=>
Ac (decide (n1<10)) (
Aw F.a244 [Aq p] λn2=>
Ac (decide (n1>=n2)) (
Ah 1 [])<|
AT<|
As p λa4=>
Ae T.a50 a4 0 λl5=>
As p λa7=>
Az T.a13 a7 1 λn8=>
.ex [.adr] (c1 λa9=>0<=Af (n8+n1)/\Af (n8+n1)<(Ad l5)/\l5.a=some a9) (u1 λa10=>
Bc T.a56 a10 (Int.toNat (Af (n8+n1))*1) λn11=>
Bd n11 λn12=>
AU<|
Ac (n1 == 9 && decide (n12>1)) (
Ah 1 [])<|
.must (0<=Af (7*n1)) <|
Am (IntKind.wrap .u64 (((BitVec.toNat (BitVec.ofInt 64 n0 ||| BitVec.ofInt 64 (IntKind.wrap .u64 (IntKind.wrap .u64 (IntKind.wrap .u8 (((BitVec.toNat (BitVec.ofInt 8 n12 &&& BitVec.ofInt 8 127):Nat):Int)))*2 ^ min (Int.toNat (Af (7*n1))) 64))):Nat):Int))) λn13=>
Ac (decide (n12>=128)) (
Ag (Af (n1+1)) λn14=>
Ah 2 [.int .u64 n13,Ai n14])<|
Ac (n12 == 0 && decide (n1>0)) (
Ah 1 [])<|
As p λa16=>
Az T.a13 a16 1 λn17=>
As p λa19=>
Be T.a13 a19 1 (Ai (Af (n17+Af (n1+1))))<|
Am n13 λn20=>
Ah 0 [.int .u64 n20]))<|
Ah 1 []))<|
Ay F.a243 [Aq p,Ai 6]<|
Ah 0 [.int .u64 0]
theorem zpd (p:Option Addr):FnS (z02n p) F.a246 #[.pointer p]:=dV ⟨[],[(0,[])],[],[(0,[(3,.one (.int .u64)),(4,.one (.int .i64))])]⟩ Go.Proofs.Tryz.func137 (by kernel_rfl)
def z02l (p:Option Addr):Prog :=
AT<|
As p λa1=>
Ae T.a50 a1 0 λl2=>
As p λa4=>
Az T.a13 a4 1 λn5=>
Ag (Af ((Ad l2)-n5)) λn6=>
AU<|
Ah 0 [Ai n6]
theorem zpb (p:Option Addr):FnS (z02l p) F.a244 #[.pointer p]:=dV ⟨[],[],[],[]⟩ Go.Proofs.Tryz.func138 (by kernel_rfl)
def z02k (p:Option Addr) (e_:Int):Prog :=
As p λa1=>
Az T.a1 a1 2 λn2=>
Ax 1 (
Ac (n2 == 0) (
As p λa4=>
Be T.a1 a4 2 (Ai e_)<|
Ah 1 [])<|
Ah 1 [])<|
Ah 0 []
theorem zpa (p:Option Addr) (e_:Int):FnS (z02k p e_) F.a243 #[.pointer p,.int .i64 e_]:=dV ⟨[(31457288,[])],[],[],[]⟩ Go.Proofs.Tryz.func139 (by kernel_rfl)
def z00r (pid epoch:Int) (commit:Bool) (time:Int):Prog :=
AB T.a0 λa0=>
AB T.a0 λa1=>
AC T.a0 a1 (.agg #[Ai 0,Ai pid,Ai epoch,Ai 0,Ai 3,Ai time,.slice none 0 0])<|
Ax 1 (
Ac commit (
Be T.a13 a1 4 (Ai 2)<|
Ah 1 [])<|
Ah 1 [])<|
AE T.a0 a1 λn2 n3 n4 n5 n6 n7 l8=>
AC T.a0 a0 (AD n2 n3 n4 n5 n6 n7 l8)<|
AE T.a0 a0 λn9 n10 n11 n12 n13 n14 l15=>
Ah 0 [AD n9 n10 n11 n12 n13 n14 l15]
theorem znh (pid epoch:Int) (commit:Bool) (time:Int):FnS (z00r pid epoch commit time) F.a128 #[.int .i64 pid,.int .i64 epoch,.bool commit,.int .i64 time]:=dV ⟨[(134217742,[])],[],[],[]⟩ Go.Proofs.Tryz.func143 (by kernel_rfl)
def z08v (l:Option Addr) (upto:Int) (bs:Sl):Prog :=
Ac (Option.isNone l) (
Ah 0 [Ai 1])<|
As l λa1=>
Ae T.a46 a1 4 λl2=>
Aa 1 (
Ab 2 (0,(0,())) λn3 n4=>
Ac (decide (n4<(Ad l2))) (
.ex [.adr] (c1 λa5=>0<=n4/\n4<(Ad l2)/\l2.a=some a5) (u1 λa6=>
AW T.a35 a6 (Int.toNat n4*1) λp7=>
Ag n4 λn8=>
AZ (decide (n8>0)=true) p7 λa10=>
Bb (decide (n8>0)=true) T.a14 a10 1 λn11=>
Aa 3 (
Ac (decide (n8>0) && n11 == upto) (
Ag n8 λn12=>
Ah 3 [Ai n12])<|
Ah 3 [Ai n3]) λn13=>
Ah 2 [Ai n13,Ai (Af (n4+1))]))<|
Ah 1 [Ai n3]) λn14=>
Ac (n14 == 0) (
Ah 0 [Ai 2])<|
.call F.a155 [Aq l,Ai upto,bs.v] (.tup [.one .ptr,.one .slc,.one .bool]) (u3 λp15 l16 b17=>
AM b17 λb18=>
Ac (not b18) (
Ah 0 [Ai 2])<|
.bind 1 [.one .str,.one .str] (
AT<|
As p15 λa20=>
Az T.a14 a20 1 λn21=>
As p15 λa23=>
AY T.a14 a23 1 λn24=>
AP F.a157 [Aq l,Ai n21,.string (ByteArray.mk #[46,110,101,119])] λs25=>
AU<|
AP F.a157 [Aq l,Ai n24,.string (ByteArray.mk #[46,108,111,103])] λs26=>
Bf s25 λs27=>
Bf s26 λs28=>
AU<|
Ah 1 [.string s27,.string s28]) (u2 λs29 s30=>
As l λa32=>
AW T.a29 a32 0 λp33=>
Aw F.a33 [Aq p33,.string s29,l16.v] λn34=>
Ag n34 λn35=>
Ac (n35 != 0) (
Ag n35 λn36=>
Ah 0 [Ai n36])<|
As l λa38=>
AW T.a29 a38 0 λp39=>
Aj (Instr.buildSlice T.a49 1 #[(0,.string s29)]) λl40=>
Aw F.a42 [Aq p39,l40.v] λn41=>
Ag n41 λn42=>
Ac (n42 != 0) (
Ag n42 λn43=>
Ah 0 [Ai n43])<|
As l λa45=>
AW T.a29 a45 0 λp46=>
Aw F.a40 [Aq p46,.string s29,.string s30] λn47=>
Ag n47 λn48=>
Ac (n48 != 0) (
Ag n48 λn49=>
Ah 0 [Ai n49])<|
As l λa51=>
Ae T.a46 a51 4 λl52=>
.must ((0:Int)<=1/\1<=n14/\n14<=((l52.cap:Nat):Int)) <|
Aj (Instr.buildSlice T.a46 1 #[(0,Aq p15)]) λl53=>
As l λa55=>
Ae T.a46 a55 4 λl56=>
.must (0<=n14/\n14<=(Ad l56)) <|
Aj (app T.a46 T.a46 T.a46 l53.v (.slice (z10 l56.a 1 (Int.toNat n14) l56.cap) (l56.len-Int.toNat n14) (l56.cap-Int.toNat n14))) λl57=>
As l λa59=>
Be T.a46 a59 4 l57.v<|
Ax 1 (
AV 2 (0,()) λn60=>
Ac (decide (n60<((Int.toNat n14-1:Nat):Int))) (
.ex [.adr] (c1 λa61=>0<=n60/\n60<((Int.toNat n14-1:Nat):Int)/\z10 l52.a 1 1 l52.cap=some a61) (u1 λa62=>
AW T.a35 a62 (Int.toNat n60*1) λp63=>
Aa 3 (
AT<|
As l λa65=>
Bg T.a29 a65 0 λp66=>
As p63 λa68=>
Az T.a14 a68 1 λn69=>
AP F.a157 [Aq l,Ai n69,.string (ByteArray.mk #[46,108,111,103])] λs70=>
AU<|
Aw F.a39 [Aq p66,.string s70] λn71=>
Ag n71 λn72=>
AU<|
Ah 3 [Ai n72]) λn73=>
Ac (n73 != 0) (
Ag n73 λn74=>
Ah 0 [Ai n74])<|
Ah 2 [Ai (Af (n60+1))]))<|
Ah 1 [])<|
Ah 0 [Ai 0]))
def z00x (b_0 b_1 b_2 b_3 b_4 b_5:Int) (b_6:Sl):Prog :=
Ao T.a0 (AD b_0 b_1 b_2 b_3 b_4 b_5 b_6) λa0=>
Az T.a13 a0 4 λn1=>
Bb ((n1 == 2)=false) T.a13 a0 4 λn2=>
AM (n1 == 2 || n2 == 3) λb3=>
Ah 0 [.bool b3]
theorem znn (b_0 b_1 b_2 b_3 b_4 b_5:Int) (b_6:Sl):FnS (z00x b_0 b_1 b_2 b_3 b_4 b_5 b_6) F.a134 #[.agg #[.int .i64 b_0,.int .i64 b_1,.int .i64 b_2,.int .i64 b_3,.int .i64 b_4,.int .i64 b_5,.slice b_6.a b_6.len b_6.cap]]:=dV ⟨[],[],[],[]⟩ Go.Proofs.Tryz.func153 (by kernel_rfl)
def z02c (r:Option Addr):Prog :=
Ar F.a240 [Aq r] λb0=>
Ac (not b0) (
Ah 0 [.bool false])<|
AT<|
As r λa2=>
Aw F.a244 [Au a2 0] λn3=>
AZ ((n3 == 0)=false) r λa5=>
Ba ((n3 == 0)=false) T.a50 (Addr.add a5 0) 0 λl6=>
AZ ((n3 == 0)=false) r λa8=>
Bb ((n3 == 0)=false) T.a13 (Addr.add a8 0) 1 λn9=>
.ex [.adr] (c1 λa10=>(n3 == 0)=false->0<=n9/\n9<(Ad l6)/\l6.a=some a10) (u1 λa11=>
.read ((n3 == 0)=false) (ld T.a56 (Addr.add a11 (Int.toNat n9*1))) (sI .u8) (u1 λ(n12:Int)=>
AU<|
Ac (n3 == 0 || decide (n12>1)) (
As r λa14=>
Ay F.a243 [Au a14 0,Ai 6]<|
Ah 0 [.bool false])<|
As r λa16=>
An F.a245 [Au a16 0,Ai 1] λl17=>
.ex [.adr] (c1 λa18=>(0:Int)<=0/\0<(Ad l17)/\l17.a=some a18) (u1 λa19=>
Bc T.a56 a19 0 λn20=>
AM (n20 == 1) λb21=>
Ah 0 [.bool b21])))
theorem zp2 (r:Option Addr):FnS (z02c r) F.a235 #[.pointer r]:=dV ⟨[],[],[],[]⟩ Go.Proofs.Tryz.func156 (by kernel_rfl)
def z02b (r:Option Addr):Prog :=
Ac (Option.isNone r) (
Ah 0 [Ai 1])<|
As r λa1=>
Az T.a1 (Addr.add a1 0) 2 λn2=>
Ag n2 λn3=>
Ah 0 [Ai n3]
theorem zp1 (r:Option Addr):FnS (z02b r) F.a234 #[.pointer r]:=dV ⟨[],[],[],[]⟩ Go.Proofs.Tryz.func157 (by kernel_rfl)
def z01n (s:ByteArray):Prog :=
Ac (decide (((ByteArray.size s:Nat):Int)<1) || decide (((ByteArray.size s:Nat):Int)>8)) (
Ah 0 [.bool false])<|
Aj (convert T.a55 T.a50 (.string s)) λl0=>
Ax 1 (
AV 2 (0,()) λn1=>
Ac (decide (n1<(Ad l0))) (
.ex [.adr] (c1 λa2=>0<=n1/\n1<(Ad l0)/\l0.a=some a2) (u1 λa3=>
Bc T.a56 a3 (Int.toNat n1*1) λn4=>
Bd n4 λn5=>
Ac (not (decide (n5>=97) && decide (n5<=122) || decide (n5>=48) && decide (n5<=57))) (
Ah 0 [.bool false])<|
Ah 2 [Ai (Af (n1+1))]))<|
Ah 1 [])<|
Ah 0 [.bool true]
theorem zod (s:ByteArray):FnS (z01n s) F.a164 #[.string s]:=dV ⟨[],[(0,[])],[],[(0,[(16,.one (.int .i64))])]⟩ Go.Proofs.Tryz.func169 (by kernel_rfl)
def z01r (c_0:Int) (c_1:Int):Prog :=
Ao T.a51 (AI c_0 c_1) λa0=>
Az T.a13 a0 0 λn1=>
Bb (decide (n1>=64)=true) T.a13 a0 0 λn2=>
Bb ((decide (n1>=64) && decide (n2<=4194304))=true) T.a13 a0 1 λn3=>
Bb ((decide (n1>=64) && decide (n2<=4194304) && decide (n3>=1))=true) T.a13 a0 1 λn4=>
AM (decide (n1>=64) && decide (n2<=4194304) && decide (n3>=1) && decide (n4<=4194304)) λb5=>
Ah 0 [.bool b5]
theorem zoh (c_0 c_1:Int):FnS (z01r c_0 c_1) F.a168 #[.agg #[.int .i64 c_0,.int .i64 c_1]]:=dV ⟨[],[],[],[]⟩ Go.Proofs.Tryz.func170 (by kernel_rfl)
def z01d (l:Option Addr):Prog :=
AT<|
As l λa1=>
AW T.a29 a1 0 λp2=>
As l λa4=>
Bh T.a55 a4 1 λs5=>
.must (((ByteArray.size s5+1:Nat):Int)<=9223372036854775807) <|
An F.a37 [Aq p2,.string (s5++(ByteArray.mk #[45]))] λl6=>
AU<|
Ak 1 (
Al 2 (⟨none,0,0⟩,(0,())) λl7 n8=>
Ac (decide (n8<(Ad l6))) (
.ex [.adr] (c1 λa9=>0<=n8/\n8<(Ad l6)/\l6.a=some a9) (u1 λa10=>
Bh T.a55 a10 (Int.toNat n8*1) λs11=>
Bf s11 λs12=>
Bi F.a151 [Aq l,.string s12,.string (ByteArray.mk #[46,108,111,103])] λn13 b14=>
Ag n13 λn15=>
AM b14 λb16=>
Ak 3 (
Ac b16 (
Aj (Instr.buildSlice T.a42 1 #[(0,Ai n15)]) λl17=>
Aj (app T.a42 T.a42 T.a42 l7.v l17.v) λl18=>
Ah 3 [l18.v])<|
Ah 3 [l7.v]) λl19=>
Bi F.a151 [Aq l,.string s12,.string (ByteArray.mk #[46,110,101,119])] λn20 b21=>
Ag n20 λn22=>
AM b21 λb23=>
Ax 3 (
Ac b23 (
As l λa25=>
AW T.a29 a25 0 λp26=>
Aw F.a39 [Aq p26,.string s12] λn27=>
Ag n27 λn28=>
Ac (n28 != 0) (
Ag n28 λn29=>
Ah 0 [.slice none 0 0,Ai n29])<|
Ah 3 [])<|
Ah 3 [])<|
Ah 2 [l19.v,Ai (Af (n8+1))]))<|
Ah 1 [l7.v]) λl30=>
Ah 0 [l30.v,Ai 0]
theorem zo3 (l:Option Addr):FnS (z01d l) F.a153 #[.pointer l]:=dV ⟨[(1055531162730529,[(4,.one .slc)]),(73642861106770788396,[])],[(0,[(4,.one .slc)])],[],[(0,[(4,.one .slc),(23,.one (.int .i64))])]⟩ Go.Proofs.Tryz.func172 (by kernel_rfl)
def z016 (l:Option Addr):Prog :=
AZ (Option.isNone l=false) l λa1=>
Ba (Option.isNone l=false) T.a46 a1 4 λl2=>
Ac (Option.isNone l || (Ad l2) == 0) (
Ah 0 [Ai 0])<|
Bj F.a156 [Aq l] λp3=>
Aw F.a170 [Aq p3] λn4=>
Ag n4 λn5=>
Ah 0 [Ai n5]
theorem znw (l:Option Addr):FnS (z016 l) F.a144 #[.pointer l]:=dV ⟨[],[],[],[]⟩ Go.Proofs.Tryz.func173 (by kernel_rfl)
def z01g (l:Option Addr) (base:Int) (end_:ByteArray):Prog :=
Aj (Instr.makeSlice T.a50 (Ai 11) (Ai 11)) λl0=>
Ax 1 (
Ab 2 (base,(10,())) λn1 n2=>
Ac (decide (n2>=0)) (
.must (0<=Af (((BitVec.toNat (BitVec.ofInt 64 n1 &&& BitVec.ofInt 64 15):Nat):Int))/\Af (((BitVec.toNat (BitVec.ofInt 64 n1 &&& BitVec.ofInt 64 15):Nat):Int))<16) <|
.ex [.adr] (c1 λa3=>0<=n2/\n2<(Ad l0)/\l0.a=some a3) (u1 λa4=>
Be T.a56 a4 (Int.toNat n2*1) (.int .u8 (bt (ByteArray.mk #[48,49,50,51,52,53,54,55,56,57,97,98,99,100,101,102]) (Af (((BitVec.toNat (BitVec.ofInt 64 n1 &&& BitVec.ofInt 64 15):Nat):Int)))))<|
Ag (Int.fdiv n1 16) λn5=>
Ag (Af (n2-1)) λn6=>
Ah 2 [Ai n5,Ai n6]))<|
Ah 1 [])<|
AT<|
As l λa8=>
Bh T.a55 a8 1 λs9=>
.must (((ByteArray.size s9+1:Nat):Int)<=9223372036854775807) <|
Bk (convert T.a50 T.a55 l0.v) λs10=>
.must (((ByteArray.size (s9++(ByteArray.mk #[45]))+ByteArray.size s10:Nat):Int)<=9223372036854775807) <|
.must (((ByteArray.size (s9++(ByteArray.mk #[45])++s10)+ByteArray.size end_:Nat):Int)<=9223372036854775807) <|
Bf (s9++(ByteArray.mk #[45])++s10++end_) λs11=>
AU<|
Ah 0 [.string s11]
theorem zo6 (l:Option Addr) (base:Int) (end_:ByteArray):FnS (z01g l base end_) F.a157 #[.pointer l,.int .i64 base,.string end_]:=dV ⟨[],[(0,[])],[],[(0,[(1,.one (.int .i64)),(8,.one (.int .i64))])]⟩ Go.Proofs.Tryz.func174 (by kernel_rfl)
def z01j (l:Option Addr) (base:Int):Prog :=
AP F.a157 [Aq l,Ai base,.string (ByteArray.mk #[46,108,111,103])] λs0=>
Bf s0 λs1=>
As l λa3=>
AW T.a29 a3 0 λp4=>
AO F.a38 [Aq p4,.string s1] λl5 n6=>
Ag n6 λn7=>
Ac (n7 != 0) (
Ag n7 λn8=>
Ah 0 [.bool false,Ai n8])<|
Bl F.a49 [l5.v] λl9 n10 b11=>
Ag n10 λn12=>
AM b11 λb13=>
.bind 1 [.one (.int .i64),.one .bool] (
Ac b13 (
Bi F.a166 [l9.v,Ai base] λn14 b15=>
Ag n14 λn16=>
AM b15 λb17=>
Ah 1 [Ai n16,.bool b17])<|
Ah 1 [Ai 0,.bool false]) (u2 λ(n18:Int) b19=>
Ac (not b19) (
As l λa21=>
AW T.a29 a21 0 λp22=>
Aw F.a39 [Aq p22,.string s1] λn23=>
Ag n23 λn24=>
Ah 0 [.bool false,Ai n24])<|
Bj F.a161 [Aq l,Ai base,Ai n18] λp25=>
Ag base λn26=>
Aa 1 (
Ab 2 (n12,(n26,())) λn27 n28=>
.must (0<=n27/\n27<=(Ad l5)) <|
Bl F.a49 [.slice (z10 l5.a 1 (Int.toNat n27) l5.cap) (l5.len-Int.toNat n27) (l5.cap-Int.toNat n27)] λl29 n30 b31=>
Ag n30 λn32=>
AM b31 λb33=>
Ac (not b33) (
Ah 1 [Ai n27])<|
.call F.a124 [l29.v] (.tup [.agg [.int .i64,.int .i64,.int .i64,.int .i64,.int .i64,.int .i64,.slc],.one (.int .i64)]) (u8 λ(n34 n35 n36 n37 n38 n39:Int) l40 (n41:Int)=>
AB T.a0 λa42=>
AC T.a0 a42 (AD n34 n35 n36 n37 n38 n39 l40)<|
Ag n41 λn43=>
Bb ((n43 != 0)=false) T.a14 a42 0 λn44=>
Ac (n43 != 0 || decide (n44<n28)) (
Ah 1 [Ai n27])<|
AE T.a0 a42 λn45 n46 n47 n48 n49 n50 l51=>
Ay F.a171 [Aq p25,AD n45 n46 n47 n48 n49 n50 l51,Ai n32]<|
As p25 λa53=>
Az T.a14 a53 3 λn54=>
Ag n54 λn55=>
Ag (Af (n27+n32)) λn56=>
Ah 2 [Ai n56,Ai n55])) λn57=>
Ay F.a159 [Aq l,Aq p25]<|
Ac (n57 == (Ad l5)) (
Ah 0 [.bool true,Ai 0])<|
As l λa59=>
AW T.a29 a59 0 λp60=>
Aw F.a34 [Aq p60,.string s1,Ai n57] λn61=>
Ag n61 λn62=>
Ah 0 [.bool false,Ai n62])
theorem zo9 (l:Option Addr) (base:Int):FnS (z01j l base) F.a160 #[.pointer l,.int .i64 base]:=dV ⟨[(2269814212245061674,[(12,.one (.int .i64)),(13,.one .bool)])],[(0,[(10,.one (.int .i64))])],[],[(0,[(10,.one (.int .i64)),(15,.one (.int .i64))])]⟩ Go.Proofs.Tryz.func175 (by kernel_rfl)
def z01c (l:Option Addr) (bases:Sl):Prog :=
Ax 1 (
AV 2 (0,()) λn0=>
Ac (decide (n0<(Ad bases))) (
.ex [.adr] (c1 λa1=>0<=n0/\n0<(Ad bases)/\bases.a=some a1) (u1 λa2=>
Az T.a14 a2 (Int.toNat n0*1) λn3=>
Ag n3 λn4=>
Aa 3 (
AT<|
As l λa6=>
Bg T.a29 a6 0 λp7=>
AP F.a157 [Aq l,Ai n4,.string (ByteArray.mk #[46,108,111,103])] λs8=>
AU<|
Aw F.a39 [Aq p7,.string s8] λn9=>
Ag n9 λn10=>
AU<|
Ah 3 [Ai n10]) λn11=>
Ac (n11 != 0) (
Ag n11 λn12=>
Ah 0 [Ai n12])<|
Ah 2 [Ai (Af (n0+1))]))<|
Ah 1 [])<|
Ah 0 [Ai 0]
theorem zo2 (l:Option Addr) (bases:Sl):FnS (z01c l bases) F.a152 #[.pointer l,.slice bases.a bases.len bases.cap]:=dV ⟨[],[(0,[])],[(4,[(7,.one (.int .i64))])],[(0,[(10,.one (.int .i64))])]⟩ Go.Proofs.Tryz.func176 (by kernel_rfl)
def z07g (b:Sl):Prog :=
Bl F.a49 [b.v] λl0 n1 b2=>
Ag n1 λn3=>
AM b2 λb4=>
Ac (not b4 || n3 != (Ad b)) (
Ah 0 [.slice none 0 0,.bool false])<|
Ah 0 [l0.v,.bool true]
theorem ztx (b:Sl):FnS (z07g b) F.a51 #[.slice b.a b.len b.cap]:=dV ⟨[],[],[],[]⟩ Go.Proofs.Tryz.func185 (by kernel_rfl)
def z02e (r:Option Addr) (most:Int):Prog :=
Ar F.a240 [Aq r] λb0=>
Ac (not b0) (
Ah 0 [.string (ByteArray.mk #[])])<|
As r λa2=>
Az T.a13 (Addr.add a2 0) 1 λn3=>
Ag n3 λn4=>
As r λa6=>
Av F.a246 [Au a6 0] λn7=>
Am n7 λn8=>
As r λa10=>
Az T.a1 (Addr.add a10 0) 2 λn11=>
AM (n11 != 0) λb12=>
Ax 1 (
Ac b12 (
Ah 1 [])<|
AM (decide (n8>IntKind.wrap .u64 (if 0>most then 0 else most))) λb13=>
Ax 2 (
Ac b13 (
As r λa15=>
Ay F.a243 [Au a15 0,Ai 7]<|
Ah 2 [])<|
As r λa17=>
Aw F.a244 [Au a17 0] λn18=>
AJ (decide (n8>IntKind.wrap .u64 n18)) (
As r λa21=>
Ay F.a243 [Au a21 0,Ai 6]<|
Ah 2 [])<|
As r λa23=>
An F.a245 [Au a23 0,Ai (Af n8)] λl24=>
Bk (convert T.a50 T.a55 l24.v) λs25=>
Bf s25 λs26=>
Ah 0 [.string s26])<|
Ah 1 [])<|
As r λa28=>
Be T.a13 (Addr.add a28 0) 1 (Ai n4)<|
Ah 0 [.string (ByteArray.mk #[])]
theorem zp4 (r:Option Addr) (most:Int):FnS (z02e r most) F.a237 #[.pointer r,.int .i64 most]:=dV ⟨[(147571701062593216545,[]),(147573917678034812954,[])],[],[],[]⟩ Go.Proofs.Tryz.func186 (by kernel_rfl)
def z018 (i:Int) (fv0:Option Addr) (fv1:Option Addr):Prog :=
AT<|
Bn T.a34 fv0 λp0=>
As p0 λa2=>
Ae T.a46 a2 4 λl3=>
.ex [.adr] (c1 λa4=>0<=i/\i<(Ad l3)/\l3.a=some a4) (u1 λa5=>
AW T.a35 a5 (Int.toNat i*1) λp6=>
As p6 λa8=>
Az T.a14 a8 1 λn9=>
Bo T.a14 fv1 λn10=>
AM (decide (n9>n10)) λb11=>
AU<|
Ah 0 [.bool b11])
theorem zny (i:Int) (fv0 fv1:Option Addr):FnS (z018 i fv0 fv1) F.a146 #[.int .i64 i,.pointer fv0,.pointer fv1]:=dV ⟨[],[],[],[]⟩ Go.Proofs.Tryz.func195 (by kernel_rfl)
def z01l (l s:Option Addr) (place:Int) (told:Value):Prog :=
Ak 1 (
AT<|
As l λa1=>
Bg T.a29 a1 0 λp2=>
As s λa4=>
Az T.a14 a4 1 λn5=>
AP F.a157 [Aq l,Ai n5,.string (ByteArray.mk #[46,108,111,103])] λs6=>
AU<|
AO F.a38 [Aq p2,.string s6] λl7 n8=>
Ag n8 λn9=>
AU<|
Ah 1 [l7.v]) λl10=>
Ag place λn11=>
Ax 1 (
AV 2 (n11,()) λn12=>
AZ (decide (n12<(Ad l10))=true) s λa14=>
Bb (decide (n12<(Ad l10))=true) T.a13 a14 5 λn15=>
Ac (decide (n12<(Ad l10)) && decide (n12<n15)) (
.must (0<=n12/\n12<=(Ad l10)) <|
Bl F.a49 [.slice (z10 l10.a 1 (Int.toNat n12) l10.cap) (l10.len-Int.toNat n12) (l10.cap-Int.toNat n12)] λl16 n17 b18=>
Ag n17 λn19=>
AM b18 λb20=>
Ac (not b20) (
Ah 0 [.bool true])<|
.call F.a124 [l16.v] (.tup [.agg [.int .i64,.int .i64,.int .i64,.int .i64,.int .i64,.int .i64,.slc],.one (.int .i64)]) (u8 λ(n21 n22 n23 n24 n25 n26:Int) l27 (n28:Int)=>
AB T.a0 λa29=>
AC T.a0 a29 (AD n21 n22 n23 n24 n25 n26 l27)<|
Ag n28 λn30=>
AK 3 (
Bp ((n30 != 0)=false) T.a0 a29 λn31 n32 n33 n34 n35 n36 l37=>
Ac (n30 != 0) (
Ah 3 [.bool true])<|
Bq told [AD n31 n32 n33 n34 n35 n36 l37] λb38=>
Ah 3 [.bool (not b38)]) λb39=>
Ac b39 (
Ah 0 [.bool false])<|
Ag (Af (n12+n19)) λn40=>
Ah 2 [Ai n40]))<|
Ah 1 [])<|
Ah 0 [.bool true]
theorem zob (l s:Option Addr) (place:Int) (told:Value) {w:World} {R:List Value->World->Prop} (h:(z01l l s place told).wp P (λ_=>True) w λe vs w'=>e=0/\R vs w'):Ret P F.a162 #[.pointer l,.pointer s,.int .i64 place,told] w R:=dS (n:=70) (rv:=[.tmp 8]) { cnd:=[],blk:=[(0,[])],reg:=[(1,[(9,.one .slc)]),(8,[(66,.one .bool)])],lps:=[(0,[(11,.one (.int .i64))])] } [.val (.pointer l),.val (.pointer s),.val (.int .i64 place),.any told] Go.Proofs.Tryz.func196 (by kernel_rfl) (by kernel_rfl) (by kernel_rfl) (by kernel_rfl) h
def z01s (s:Option Addr) (offset:Int):Prog :=
As s λa1=>
AW T.a31 a1 0 λp2=>
.call F.a56 [Aq p2,Ai offset] (.tup [.agg [.int .i64,.int .i64,.int .i64],.one .bool]) (u4 λ(n3 n4 n5:Int) b6=>
AB T.a10 λa7=>
AC T.a10 a7 (Br n3 n4 n5)<|
AJ b6 (
Az T.a13 a7 1 λn9=>
Ag n9 λn10=>
Ah 0 [Ai n10])<|
AT<|
As s λa12=>
Az T.a14 a12 1 λn13=>
As s λa15=>
Az T.a14 a15 2 λn16=>
An F.a165 [Ai n13,Ai n16] λl17=>
Ag (Ad l17) λn18=>
AU<|
Ah 0 [Ai n18])
theorem zoi (s:Option Addr) (offset:Int):FnS (z01s s offset) F.a169 #[.pointer s,.int .i64 offset]:=dV ⟨[],[],[],[]⟩ Go.Proofs.Tryz.func197 (by kernel_rfl)
def z019 (b_0 b_1 b_2 b_3 b_4 b_5:Int) (b_6:Sl) (fv0 fv1:Option Addr) (fv2:Option Addr):Prog :=
Ao T.a0 (AD b_0 b_1 b_2 b_3 b_4 b_5 b_6) λa0=>
AE T.a0 a0 λn1 n2 n3 n4 n5 n6 l7=>
Bo T.a14 fv0 λn8=>
.call F.a127 [AD n1 n2 n3 n4 n5 n6 l7,Ai n8] (.tup [.agg [.int .i64,.int .i64,.int .i64,.int .i64,.int .i64,.int .i64,.slc],.one .bool]) (u8 λ(n9 n10 n11 n12 n13 n14:Int) l15 b16=>
AB T.a0 λa17=>
AC T.a0 a17 (AD n9 n10 n11 n12 n13 n14 l15)<|
AM b16 λb18=>
Ax 1 (
Ac b18 (
AX (Instr.loadAt T.a39 (Aq fv1)) λl19=>
AE T.a0 a17 λn20 n21 n22 n23 n24 n25 l26=>
Aj (Instr.buildSlice T.a39 1 #[(0,AD n20 n21 n22 n23 n24 n25 l26)]) λl27=>
Aj (app T.a39 T.a39 T.a39 l19.v l27.v) λl28=>
Bs (Instr.storeAt T.a39 (Aq fv1) l28.v)<|
Ah 1 [])<|
Ah 1 [])<|
AX (Instr.loadAt T.a39 (Aq fv1)) λl29=>
Bo T.a13 fv2 λn30=>
AM (decide ((Ad l29)<n30)) λb31=>
Ah 0 [.bool b31])
theorem znz (b_0 b_1 b_2 b_3 b_4 b_5:Int) (b_6:Sl) (fv0 fv1 fv2:Option Addr):FnS (z019 b_0 b_1 b_2 b_3 b_4 b_5 b_6 fv0 fv1 fv2) F.a147 #[.agg #[.int .i64 b_0,.int .i64 b_1,.int .i64 b_2,.int .i64 b_3,.int .i64 b_4,.int .i64 b_5,.slice b_6.a b_6.len b_6.cap],.pointer fv0,.pointer fv1,.pointer fv2]:=dV ⟨[(2013265934,[])],[],[],[]⟩ Go.Proofs.Tryz.func198 (by kernel_rfl)
def z00q (b_0 b_1 b_2 b_3 b_4 b_5:Int) (b_6:Sl) (offset:Int):Prog :=
Ao T.a0 (AD b_0 b_1 b_2 b_3 b_4 b_5 b_6) λa0=>
AB T.a0 λa1=>
AK 1 (
AE T.a0 a0 λn2 n3 n4 n5 n6 n7 l8=>
Aw F.a131 [AD n2 n3 n4 n5 n6 n7 l8] λn9=>
Bp ((n9 != 0)=false) T.a0 a0 λn10 n11 n12 n13 n14 n15 l16=>
Ac (n9 != 0) (
Ah 1 [.bool true])<|
Aw F.a129 [AD n10 n11 n12 n13 n14 n15 l16] λn17=>
AM (decide (offset>=n17)) λb18=>
Ah 1 [.bool b18]) λb19=>
Ac b19 (
AC T.a0 a1 (.agg #[Ai 0,Ai 0,Ai 0,Ai 0,Ai 0,Ai 0,.slice none 0 0])<|
AE T.a0 a1 λn20 n21 n22 n23 n24 n25 l26=>
Ah 0 [AD n20 n21 n22 n23 n24 n25 l26,.bool false])<|
AE T.a0 a0 λn27 n28 n29 n30 n31 n32 l33=>
Ar F.a134 [AD n27 n28 n29 n30 n31 n32 l33] λb34=>
Bb (b34=false) T.a14 a0 0 λn35=>
AJ (b34 || decide (offset<=n35)) (
AE T.a0 a0 λn37 n38 n39 n40 n41 n42 l43=>
Bt F.a123 [AD n37 n38 n39 n40 n41 n42 l43] λn44 n45 n46 n47 n48 n49 l50=>
AC T.a0 a1 (AD n44 n45 n46 n47 n48 n49 l50)<|
AE T.a0 a1 λn51 n52 n53 n54 n55 n56 l57=>
Ah 0 [AD n51 n52 n53 n54 n55 n56 l57,.bool true])<|
AE T.a0 a0 λn58 n59 n60 n61 n62 n63 l64=>
Az T.a14 a0 0 λn65=>
Ae T.a40 a0 6 λl66=>
Bt F.a136 [AD n58 n59 n60 n61 n62 n63 l64,Ai (Af (offset-n65)),Ai (Ad l66)] λn67 n68 n69 n70 n71 n72 l73=>
AC T.a0 a1 (AD n67 n68 n69 n70 n71 n72 l73)<|
AE T.a0 a1 λn74 n75 n76 n77 n78 n79 l80=>
Ah 0 [AD n74 n75 n76 n77 n78 n79 l80,.bool true]
theorem zng (b_0 b_1 b_2 b_3 b_4 b_5:Int) (b_6:Sl) (offset:Int):FnS (z00q b_0 b_1 b_2 b_3 b_4 b_5 b_6 offset) F.a127 #[.agg #[.int .i64 b_0,.int .i64 b_1,.int .i64 b_2,.int .i64 b_3,.int .i64 b_4,.int .i64 b_5,.slice b_6.a b_6.len b_6.cap],.int .i64 offset]:=dV ⟨[],[],[(1,[(6,.one .bool)])],[]⟩ Go.Proofs.Tryz.func199 (by kernel_rfl)
def z00u (b_0 b_1 b_2 b_3 b_4 b_5:Int) (b_6:Sl):Prog :=
Ao T.a0 (AD b_0 b_1 b_2 b_3 b_4 b_5 b_6) λa0=>
AK 1 (
AE T.a0 a0 λn1 n2 n3 n4 n5 n6 l7=>
Ar F.a135 [AD n1 n2 n3 n4 n5 n6 l7] λb8=>
Bp (not b8=false) T.a0 a0 λn9 n10 n11 n12 n13 n14 l15=>
Ac (not b8) (
Ah 1 [.bool true])<|
Ar F.a133 [AD n9 n10 n11 n12 n13 n14 l15] λb16=>
AM (not b16) λb17=>
Ah 1 [.bool b17]) λb18=>
Ac b18 (
Ah 0 [Ai 2])<|
Ae T.a40 a0 6 λl19=>
AJ (decide ((Ad l19)>64)) (
Ah 0 [Ai 7])<|
Ae T.a40 a0 6 λl21=>
Ax 1 (
AV 2 (0,()) λn22=>
Ac (decide (n22<(Ad l21))) (
.ex [.adr] (c1 λa23=>0<=n22/\n22<(Ad l21)/\l21.a=some a23) (u1 λa24=>
AF T.a2 a24 (Int.toNat n22*4) λs25 s26 b27 n28=>
AB T.a2 λa29=>
AC T.a2 a29 (AG s25 s26 b27 n28)<|
AH T.a2 a29 λs30 s31 b32 n33=>
Aw F.a138 [AG s30 s31 b32 n33] λn34=>
Ag n34 λn35=>
Ac (n35 != 0) (
Ag n35 λn36=>
Ah 0 [Ai n36])<|
Ah 2 [Ai (Af (n22+1))]))<|
Ah 1 [])<|
AE T.a0 a0 λn37 n38 n39 n40 n41 n42 l43=>
Aw F.a130 [AD n37 n38 n39 n40 n41 n42 l43] λn44=>
Ag (Af (n44-1)) λn45=>
AK 1 (
Az T.a14 a0 0 λn46=>
Bb (decide (n46>Af (1099511627776-n45))=false) T.a14 a0 1 λn47=>
Bp (decide (n46>Af (1099511627776-n45))=false/\decide (n47>0)=true) T.a0 a0 λn48 n49 n50 n51 n52 n53 l54=>
Ac (decide (n46>Af (1099511627776-n45))) (
Ah 1 [.bool true])<|
Ac (decide (n47>0)) (
Ar F.a134 [AD n48 n49 n50 n51 n52 n53 l54] λb55=>
Bb (not b55=true) T.a13 a0 3 λn56=>
Ah 1 [.bool (not b55 && decide (n56>Af (2147483647-n45)))])<|
Ah 1 [.bool false]) λb57=>
Ac b57 (
Ah 0 [Ai 24])<|
Ah 0 [Ai 0]
theorem znk (b_0 b_1 b_2 b_3 b_4 b_5:Int) (b_6:Sl):FnS (z00u b_0 b_1 b_2 b_3 b_4 b_5 b_6) F.a131 #[.agg #[.int .i64 b_0,.int .i64 b_1,.int .i64 b_2,.int .i64 b_3,.int .i64 b_4,.int .i64 b_5,.slice b_6.a b_6.len b_6.cap]]:=dV ⟨[],[(1,[])],[(1,[(7,.one .bool)]),(13,[(58,.one .bool)])],[(1,[(24,.one (.int .i64))])]⟩ Go.Proofs.Tryz.func203 (by kernel_rfl)
def z00t (b_0 b_1 b_2 b_3 b_4 b_5:Int) (b_6:Sl):Prog :=
Ao T.a0 (AD b_0 b_1 b_2 b_3 b_4 b_5 b_6) λa0=>
AE T.a0 a0 λn1 n2 n3 n4 n5 n6 l7=>
Ar F.a134 [AD n1 n2 n3 n4 n5 n6 l7] λb8=>
Ac b8 (
Ah 0 [Ai 1])<|
Ae T.a40 a0 6 λl9=>
Ag (Ad l9) λn10=>
Ah 0 [Ai n10]
theorem znj (b_0 b_1 b_2 b_3 b_4 b_5:Int) (b_6:Sl):FnS (z00t b_0 b_1 b_2 b_3 b_4 b_5 b_6) F.a130 #[.agg #[.int .i64 b_0,.int .i64 b_1,.int .i64 b_2,.int .i64 b_3,.int .i64 b_4,.int .i64 b_5,.slice b_6.a b_6.len b_6.cap]]:=dV ⟨[],[],[],[]⟩ Go.Proofs.Tryz.func204 (by kernel_rfl)
def zt5 (l:Option Addr) (bs:Sl):Prog :=
Ac (Option.isNone l) (
Ah 0 [Ai 0,Ai 1])<|
Ac ((Ad bs) == 0) (
Ah 0 [Ai 0,Ai 3])<|
.call F.a158 [Aq l,bs.v] (.tup [.one .slc,.one .slc,.one (.int .i64)]) (u3 λl0 l1 (n2:Int)=>
Ag n2 λn3=>
Ac (n3 != 0) (
Ag n3 λn4=>
Ah 0 [Ai 0,Ai n4])<|
Aa 1 (
Ab 2 (0,(0,())) λn5 n6=>
Ac (decide (n6<(Ad l1))) (
.ex [.adr] (c1 λa7=>0<=n6/\n6<(Ad l1)/\l1.a=some a7) (u1 λa8=>
Ae T.a50 a8 (Int.toNat n6*1) λl9=>
Ag (Af (n5+(Ad l9))) λn10=>
Ah 2 [Ai n10,Ai (Af (n6+1))]))<|
Ah 1 [Ai n5]) λn11=>
Bj F.a156 [Aq l] λp12=>
Ar F.a154 [Aq l,Ai n11] λb13=>
.bind 1 [.one .ptr] (
Ac (not b13) (
Aw F.a150 [Aq l] λn14=>
Ag n14 λn15=>
Ac (n15 != 0) (
Ag n15 λn16=>
Ah 0 [Ai 0,Ai n16])<|
Aw F.a144 [Aq l] λn17=>
Bj F.a161 [Aq l,Ai n17,Ai 0] λp18=>
Aa 2 (
AT<|
As l λa20=>
Bg T.a29 a20 0 λp21=>
As p18 λa23=>
Az T.a14 a23 1 λn24=>
As p18 λa26=>
AY T.a14 a26 1 λn27=>
AP F.a157 [Aq l,Ai n24,.string (ByteArray.mk #[46,108,111,103])] λs28=>
An F.a165 [Ai n27,Ai 0] λl29=>
Aj (Instr.buildSlice T.a48 1 #[(0,l29.v)]) λl30=>
Aj (app T.a48 T.a48 T.a48 l30.v l1.v) λl31=>
AU<|
Aw F.a33 [Aq p21,.string s28,l31.v] λn32=>
Ag n32 λn33=>
AU<|
Ah 2 [Ai n33]) λn34=>
Ac (n34 != 0) (
Ag n34 λn35=>
Ah 0 [Ai 0,Ai n35])<|
Ay F.a159 [Aq l,Aq p18]<|
Ah 1 [Aq p18])<|
Aa 2 (
AT<|
As l λa37=>
Bg T.a29 a37 0 λp38=>
As p12 λa40=>
Az T.a14 a40 1 λn41=>
AP F.a157 [Aq l,Ai n41,.string (ByteArray.mk #[46,108,111,103])] λs42=>
AU<|
Aw F.a33 [Aq p38,.string s42,l1.v] λn43=>
Ag n43 λn44=>
AU<|
Ah 2 [Ai n44]) λn45=>
Ac (n45 != 0) (
Ag n45 λn46=>
Ah 0 [Ai 0,Ai n46])<|
Ah 1 [Aq p12]) (u1 λp47=>
Ax 1 (
AV 2 (0,()) λn48=>
Ac (decide (n48<(Ad l0))) (
.ex [.adr] (c1 λa49=>0<=n48/\n48<(Ad l0)/\l0.a=some a49) (u1 λa50=>
AA T.a0 a50 (Int.toNat n48*7) λn51 n52 n53 n54 n55 n56 l57=>
AB T.a0 λa58=>
Ag n48 λn59=>
AC T.a0 a58 (AD n51 n52 n53 n54 n55 n56 l57)<|
AT<|
AE T.a0 a58 λn60 n61 n62 n63 n64 n65 l66=>
.ex [.adr] (c1 λa67=>0<=n59/\n59<(Ad l1)/\l1.a=some a67) (u1 λa68=>
Ae T.a50 a68 (Int.toNat n59*1) λl69=>
Ay F.a171 [Aq p47,AD n60 n61 n62 n63 n64 n65 l66,Ai (Ad l69)]<|
AU<|
Ah 2 [Ai (Af (n48+1))])))<|
Ah 1 [])<|
.ex [.adr] (c1 λa70=>(0:Int)<=0/\0<(Ad l0)/\l0.a=some a70) (u1 λa71=>
Az T.a14 (Addr.add a71 0) 0 λn72=>
Ag n72 λn73=>
Ah 0 [Ai n73,Ai 0])))
theorem zeg (l:Option Addr) (bs:Sl):FnS (zt5 l bs) F.a142 #[.pointer l,.slice bs.a bs.len bs.cap]:=dV ⟨[(2596148429267409202579229989077041,[(12,.one .ptr)])],[(0,[(9,.one (.int .i64))]),(2,[])],[(20,[(14,.one (.int .i64))]),(24,[(15,.one (.int .i64))])],[(0,[(9,.one (.int .i64)),(35,.one (.int .i64))]),(2,[(101,.one (.int .i64))])]⟩ Go.Proofs.Tryz.func211 (by kernel_rfl)
def z01a (l:Option Addr):Prog :=
Ac (Option.isNone l) (
Ah 0 [Ai 1])<|
Bj F.a156 [Aq l] λp0=>
Ac (not (Option.isNone p0)) (
Aa 1 (
AT<|
As l λa2=>
Bg T.a29 a2 0 λp3=>
As p0 λa5=>
Az T.a14 a5 1 λn6=>
AP F.a157 [Aq l,Ai n6,.string (ByteArray.mk #[46,108,111,103])] λs7=>
Aj (Instr.buildSlice T.a49 1 #[(0,.string s7)]) λl8=>
AU<|
Aw F.a42 [Aq p3,l8.v] λn9=>
Ag n9 λn10=>
AU<|
Ah 1 [Ai n10]) λn11=>
Ah 0 [Ai n11])<|
Ah 0 [Ai 0]
theorem zo0 (l:Option Addr):FnS (z01a l) F.a150 #[.pointer l]:=dV ⟨[],[],[(5,[(2,.one (.int .i64))])],[]⟩ Go.Proofs.Tryz.func212 (by kernel_rfl)
def z00m (b_0 b_1 b_2 b_3 b_4 b_5:Int) (b_6:Sl):Prog :=
Ao T.a0 (AD b_0 b_1 b_2 b_3 b_4 b_5 b_6) λa0=>
AB T.a0 λa1=>
Ae T.a40 a0 6 λl2=>
Aj (app T.a40 T.a40 T.a40 (.slice none 0 0) l2.v) λl3=>
Be T.a40 a0 6 l3.v<|
AE T.a0 a0 λn4 n5 n6 n7 n8 n9 l10=>
AC T.a0 a1 (AD n4 n5 n6 n7 n8 n9 l10)<|
AE T.a0 a1 λn11 n12 n13 n14 n15 n16 l17=>
Ah 0 [AD n11 n12 n13 n14 n15 n16 l17]
theorem znc (b_0 b_1 b_2 b_3 b_4 b_5:Int) (b_6:Sl):FnS (z00m b_0 b_1 b_2 b_3 b_4 b_5 b_6) F.a123 #[.agg #[.int .i64 b_0,.int .i64 b_1,.int .i64 b_2,.int .i64 b_3,.int .i64 b_4,.int .i64 b_5,.slice b_6.a b_6.len b_6.cap]]:=dV ⟨[],[],[],[]⟩ Go.Proofs.Tryz.func213 (by kernel_rfl)
def z08w (l:Option Addr):Prog :=
Ac (Option.isNone l) (
Ah 0 [.slice none 0 0])<|
As l λa1=>
Ae T.a46 a1 4 λl2=>
Ak 1 (
Al 2 (⟨none,0,0⟩,(0,())) λl3 n4=>
Ac (decide (n4<(Ad l2))) (
.ex [.adr] (c1 λa5=>0<=n4/\n4<(Ad l2)/\l2.a=some a5) (u1 λa6=>
AW T.a35 a6 (Int.toNat n4*1) λp7=>
As p7 λa9=>
Az T.a14 a9 1 λn10=>
Aj (Instr.buildSlice T.a42 1 #[(0,Ai n10)]) λl11=>
Aj (app T.a42 T.a42 T.a42 l3.v l11.v) λl12=>
Ah 2 [l12.v,Ai (Af (n4+1))]))<|
Ah 1 [l3.v]) λl13=>
Ah 0 [l13.v]
def z08x (l:Option Addr) (upto:Int) (bs:Sl):Prog :=
Aw F.a143 [Aq l] λn0=>
Bj F.a161 [Aq l,Ai n0,Ai upto] λp1=>
As p1 λa3=>
Az T.a14 a3 1 λn4=>
An F.a165 [Ai n4,Ai upto] λl5=>
Aj (Instr.buildSlice T.a48 1 #[(0,l5.v)]) λl6=>
As p1 λa8=>
Az T.a14 a8 1 λn9=>
Ag n9 λn10=>
Ak 1 (
.loop 2 [.one .slc,.one (.int .i64),.one (.int .i64)] ({ a:=l6.a,len:=l6.len,cap:=l6.cap },(n10,(0,()))) (u3 λl11 (n12 n13:Int)=>
Ac (decide (n13<(Ad bs))) (
.ex [.adr] (c1 λa14=>0<=n13/\n13<(Ad bs)/\bs.a=some a14) (u1 λa15=>
AA T.a0 a15 (Int.toNat n13*7) λn16 n17 n18 n19 n20 n21 l22=>
AB T.a0 λa23=>
AC T.a0 a23 (AD n16 n17 n18 n19 n20 n21 l22)<|
AE T.a0 a23 λn24 n25 n26 n27 n28 n29 l30=>
AO F.a125 [AD n24 n25 n26 n27 n28 n29 l30] λl31 n32=>
Ag n32 λn33=>
AK 3 (
Bb ((n33 != 0)=false) T.a14 a23 0 λn34=>
Bp ((n33 != 0 || decide (n34<n12))=false) T.a0 a23 λn35 n36 n37 n38 n39 n40 l41=>
Ac (n33 != 0 || decide (n34<n12)) (
Ah 3 [.bool true])<|
Aw F.a129 [AD n35 n36 n37 n38 n39 n40 l41] λn42=>
Ah 3 [.bool (decide (n42>upto))]) λb43=>
Ac b43 (
Ah 0 [Aq none,.slice none 0 0,.bool false])<|
Aj (Instr.buildSlice T.a48 1 #[(0,l31.v)]) λl44=>
An F.a52 [l44.v] λl45=>
Aj (Instr.buildSlice T.a48 1 #[(0,l45.v)]) λl46=>
Aj (app T.a48 T.a48 T.a48 l11.v l46.v) λl47=>
AE T.a0 a23 λn48 n49 n50 n51 n52 n53 l54=>
Ay F.a171 [Aq p1,AD n48 n49 n50 n51 n52 n53 l54,Ai (Ad l45)]<|
As p1 λa56=>
Az T.a14 a56 3 λn57=>
Ag n57 λn58=>
Ah 2 [l47.v,Ai n58,Ai (Af (n13+1))]))<|
Ah 1 [l11.v])) λl59=>
Ah 0 [Aq p1,l59.v,.bool true]
def z02m (p:Option Addr) (n:Int):Prog :=
As p λa1=>
Az T.a13 a1 1 λn2=>
As p λa4=>
Be T.a13 a4 1 (Ai (Af (n2+n)))<|
AT<|
As p λa6=>
Ae T.a50 a6 0 λl7=>
As p λa9=>
Az T.a13 a9 1 λn10=>
As p λa12=>
Az T.a13 a12 1 λn13=>
.must (0<=Af (n10-n)/\Af (n10-n)<=n13/\n13<=((l7.cap:Nat):Int)) <|
AU<|
Ah 0 [.slice (z10 l7.a 1 (Int.toNat (Af (n10-n))) l7.cap) (Int.toNat n13-Int.toNat (Af (n10-n))) (l7.cap-Int.toNat (Af (n10-n)))]
theorem zpc (p:Option Addr) (n:Int):FnS (z02m p n) F.a245 #[.pointer p,.int .i64 n]:=dV ⟨[],[],[],[]⟩ Go.Proofs.Tryz.func225 (by kernel_rfl)
def z025 (on:Bool):Prog :=
Ac on (
Aj (Instr.buildSlice T.a50 1 #[(0,.int .u8 1)]) λl0=>
Ah 0 [l0.v])<|
Aj (Instr.buildSlice T.a50 1 #[(0,.int .u8 0)]) λl1=>
Ah 0 [l1.v]
theorem zov (on:Bool):FnS (z025 on) F.a228 #[.bool on]:=dV ⟨[],[],[],[]⟩ Go.Proofs.Tryz.func226 (by kernel_rfl)
def z01b (l:Option Addr) (name:ByteArray) (end_:ByteArray):Prog :=
As l λa1=>
Bh T.a55 a1 1 λs2=>
Ag (Af (((ByteArray.size s2:Nat):Int)+1)) λn3=>
.must ((((ByteArray.size name:Nat):Int) != Af (Af (n3+11)+((ByteArray.size end_:Nat):Int)))=false->0<=Af (n3+11)/\Af (n3+11)<=((ByteArray.size name:Nat):Int)) <|
Ac (((ByteArray.size name:Nat):Int) != Af (Af (n3+11)+((ByteArray.size end_:Nat):Int)) || not (ByteArray.toList (ByteArray.extract name (Int.toNat (Af (n3+11))) (ByteArray.size name)) == ByteArray.toList end_)) (
Ah 0 [Ai 0,.bool false])<|
.must (0<=n3/\n3<=Af (n3+11)/\Af (n3+11)<=((ByteArray.size name:Nat):Int)) <|
Aj (convert T.a55 T.a50 (.string (ByteArray.extract name (Int.toNat n3) (Int.toNat (Af (n3+11)))))) λl4=>
Aa 1 (
Ab 2 (0,(0,())) λn5 n6=>
Ac (decide (n6<(Ad l4))) (
.ex [.adr] (c1 λa7=>0<=n6/\n6<(Ad l4)/\l4.a=some a7) (u1 λa8=>
Bc T.a56 a8 (Int.toNat n6*1) λn9=>
Bd n9 λn10=>
AM (decide (n10>=48) && decide (n10<=57)) λb11=>
Aa 3 (
Ac b11 (
Ag (Af (((BitVec.toNat (BitVec.ofInt 64 (Af (n5*16)) ||| BitVec.ofInt 64 (Af (IntKind.wrap .u8 (n10-48)))):Nat):Int))) λn12=>
Ah 3 [Ai n12])<|
AJ (decide (n10>=97) && decide (n10<=102)) (
Ag (Af (((BitVec.toNat (BitVec.ofInt 64 (Af (n5*16)) ||| BitVec.ofInt 64 (Af (IntKind.wrap .u8 (IntKind.wrap .u8 (n10-97)+10)))):Nat):Int))) λn14=>
Ah 3 [Ai n14])<|
Ah 0 [Ai 0,.bool false]) λn15=>
Ah 2 [Ai n15,Ai (Af (n6+1))]))<|
Ah 1 [Ai n5]) λn16=>
Ag n16 λn17=>
Ah 0 [Ai n17,.bool true]
theorem zo1 (l:Option Addr) (name end_:ByteArray):FnS (z01b l name end_) F.a151 #[.pointer l,.string name,.string end_]:=dV ⟨[(19342794667089993088630829,[(9,.one (.int .i64))])],[(0,[(9,.one (.int .i64))])],[],[(0,[(9,.one (.int .i64)),(41,.one (.int .i64))])]⟩ Go.Proofs.Tryz.func242 (by kernel_rfl)
def z01f (l:Option Addr):Prog :=
As l λa1=>
Ae T.a46 a1 4 λl2=>
Ac ((Ad l2) == 0) (
Ah 0 [Aq none])<|
AT<|
As l λa4=>
Ae T.a46 a4 4 λl5=>
As l λa7=>
Ae T.a46 a7 4 λl8=>
.ex [.adr] (c1 λa9=>0<=Af ((Ad l8)-1)/\Af ((Ad l8)-1)<(Ad l5)/\l5.a=some a9) (u1 λa10=>
AW T.a35 a10 (Int.toNat (Af ((Ad l8)-1))*1) λp11=>
AU<|
Ah 0 [Aq p11])
theorem zo5 (l:Option Addr):FnS (z01f l) F.a156 #[.pointer l]:=dV ⟨[],[],[],[]⟩ Go.Proofs.Tryz.func243 (by kernel_rfl)
def z01t (s:Option Addr):Prog :=
AT<|
As s λa1=>
Az T.a14 a1 1 λn2=>
As s λa4=>
Az T.a14 a4 2 λn5=>
As s λa7=>
Az T.a14 a7 3 λn8=>
Ag (if n8>if n5>n2 then n5 else n2 then n8 else if n5>n2 then n5 else n2) λn9=>
AU<|
Ah 0 [Ai n9]
theorem zoj (s:Option Addr):FnS (z01t s) F.a170 #[.pointer s]:=dV ⟨[],[],[],[]⟩ Go.Proofs.Tryz.func244 (by kernel_rfl)
def z07e (b:Sl):Prog :=
Ac (decide ((Ad b)<8)) (
Ah 0 [.slice none 0 0,Ai 0,.bool false])<|
Bu F.a55 [b.v] λn0=>
Bv n0 λn1=>
Ac (decide (n1>262144) || decide (Af n1>Af ((Ad b)-8))) (
Ah 0 [.slice none 0 0,Ai 0,.bool false])<|
Ag (Af (Af n1+4)) λn2=>
AK 1 (
AT<|
.must (0<=n2/\n2<=(Ad b)) <|
.must (0<=n2/\n2<=((b.cap:Nat):Int)) <|
.both (
Bu F.a55 [.slice (z10 b.a 1 (Int.toNat n2) b.cap) (b.len-Int.toNat n2) (b.cap-Int.toNat n2)] λn3=>
Aj (Instr.buildSlice T.a48 1 #[(0,.slice b.a (Int.toNat n2) b.cap)]) λl4=>
Bu F.a53 [l4.v] λn5=>
AU<|
Ah 1 [.bool (n3 != n5)]) <|
Aj (Instr.buildSlice T.a48 1 #[(0,.slice b.a (Int.toNat n2) b.cap)]) λl6=>
Bu F.a55 [.slice (z10 b.a 1 (Int.toNat n2) b.cap) (b.len-Int.toNat n2) (b.cap-Int.toNat n2)] λn7=>
Bu F.a53 [l6.v] λn8=>
AU<|
Ah 1 [.bool (n7 != n8)]) λb9=>
Ac b9 (
Ah 0 [.slice none 0 0,Ai 0,.bool false])<|
.must ((0:Int)<=4/\4<=n2/\n2<=((b.cap:Nat):Int)) <|
An F.a0 [.slice (z10 b.a 1 4 b.cap) (Int.toNat n2-4) (b.cap-4)] λl10=>
Ag (Af (n2+4)) λn11=>
Ah 0 [l10.v,Ai n11,.bool true]
theorem ztv (b:Sl):FnS (z07e b) F.a49 #[.slice b.a b.len b.cap]:=dV ⟨[],[],[(7,[(34,.one .bool)])],[]⟩ Go.Proofs.Tryz.func245 (by kernel_rfl)
def z01p (body:Sl) (base:Int):Prog :=
Bj F.a231 [body.v] λp0=>
Aw F.a232 [Aq p0] λn1=>
Av F.a238 [Aq p0] λn2=>
Av F.a238 [Aq p0] λn3=>
Ag n1 λn4=>
Am n2 λn5=>
Am n3 λn6=>
Aw F.a233 [Aq p0] λn7=>
Ac (n7 != 0 || n4 != 83 || n5 != IntKind.wrap .u64 base || decide (base>1099511627776) || decide (n6>1099511627776)) (
Ah 0 [Ai 0,.bool false])<|
Ag (Af n6) λn8=>
AM (n6 == 0 || decide (Af n6>base)) λb9=>
Ah 0 [Ai n8,.bool b9]
theorem zof (body:Sl) (base:Int):FnS (z01p body base) F.a166 #[.slice body.a body.len body.cap,.int .i64 base]:=dV ⟨[],[],[],[]⟩ Go.Proofs.Tryz.func246 (by kernel_rfl)
def z01k (l:Option Addr) (base:Int) (end_:Int):Prog :=
As l λa1=>
Az T.a13 (Addr.add a1 2) 1 λn2=>
Bw F.a60 [Ai n2] λp3 n4=>
Ag n4 λn5=>
An F.a165 [Ai base,Ai end_] λl6=>
Ao T.a53 (.agg #[Aq p3,Ai base,Ai end_,Ai 0,Ai (-1),Ai (Ad l6)]) λa7=>
Ah 0 [Ap a7]
theorem zoa (l:Option Addr) (base end_:Int):FnS (z01k l base end_) F.a161 #[.pointer l,.int .i64 base,.int .i64 end_]:=dV ⟨[],[],[],[]⟩ Go.Proofs.Tryz.func247 (by kernel_rfl)
def z00n (raw:Sl):Prog :=
AB T.a0 λa0=>
AB T.a0 λa1=>
AC T.a0 a1 (.agg #[Ai 0,Ai 0,Ai 0,Ai 0,Ai 0,Ai 0,.slice none 0 0])<|
Bj F.a231 [raw.v] λp2=>
Aw F.a232 [Aq p2] λn3=>
Ac (n3 != 1) (
AE T.a0 a1 λn4 n5 n6 n7 n8 n9 l10=>
AC T.a0 a0 (AD n4 n5 n6 n7 n8 n9 l10)<|
AE T.a0 a0 λn11 n12 n13 n14 n15 n16 l17=>
Ah 0 [AD n11 n12 n13 n14 n15 n16 l17,Ai 6])<|
Aw F.a232 [Aq p2] λn18=>
Aw F.a139 [Aq p2,Ai 1099511627776] λn19=>
Aw F.a139 [Aq p2,Ai 1048576] λn20=>
AB T.a0 λa21=>
AC T.a0 a21 (.agg #[Ai n19,Ai n20,Ai 0,Ai 0,Ai n18,Ai 0,.slice none 0 0])<|
Az T.a14 a21 1 λn22=>
Ax 1 (
Ac (decide (n22>0)) (
Aw F.a139 [Aq p2,Ai 32767] λn23=>
Be T.a13 a21 2 (Ai n23)<|
AE T.a0 a21 λn24 n25 n26 n27 n28 n29 l30=>
Ar F.a134 [AD n24 n25 n26 n27 n28 n29 l30] λb31=>
Ax 2 (
Ac (not b31) (
Aw F.a139 [Aq p2,Ai 2147483647] λn32=>
Be T.a13 a21 3 (Ai n32)<|
Ah 2 [])<|
Ah 2 [])<|
Ah 1 [])<|
Ah 1 [])<|
Aw F.a139 [Aq p2,Ai 1099511627776] λn33=>
Be T.a14 a21 5 (Ai n33)<|
Aw F.a234 [Aq p2] λn34=>
Bb ((n34 != 0)=false) T.a14 a21 5 λn35=>
Ac (n34 != 0 || decide (n35>1099511627776)) (
AE T.a0 a1 λn36 n37 n38 n39 n40 n41 l42=>
AC T.a0 a0 (AD n36 n37 n38 n39 n40 n41 l42)<|
AE T.a0 a0 λn43 n44 n45 n46 n47 n48 l49=>
Ah 0 [AD n43 n44 n45 n46 n47 n48 l49,Ai 6])<|
AE T.a0 a21 λn50 n51 n52 n53 n54 n55 l56=>
Ar F.a134 [AD n50 n51 n52 n53 n54 n55 l56] λb57=>
Ax 1 (
Ac (not b57) (
Aw F.a139 [Aq p2,Ai 64] λn58=>
Ag n58 λn59=>
Ac (decide (n59>64)) (
AE T.a0 a1 λn60 n61 n62 n63 n64 n65 l66=>
AC T.a0 a0 (AD n60 n61 n62 n63 n64 n65 l66)<|
AE T.a0 a0 λn67 n68 n69 n70 n71 n72 l73=>
Ah 0 [AD n67 n68 n69 n70 n71 n72 l73,Ai 6])<|
Ax 2 (
.loop 3 [.one .str,.one (.int .i64)] ((ByteArray.mk #[]),(0,())) (u2 λs74 (n75:Int)=>
Ac (decide (n75<n59)) (
Az T.a14 a21 5 λn76=>
.call F.a137 [Aq p2,Ai n76,.string s74] (.tup [.agg [.str,.str,.bool,.int .i64],.one .bool]) (u5 λs77 s78 b79 (n80:Int) b81=>
AB T.a2 λa82=>
AC T.a2 a82 (AG s77 s78 b79 n80)<|
AM b81 λb83=>
Ac (not b83) (
AE T.a0 a1 λn84 n85 n86 n87 n88 n89 l90=>
AC T.a0 a0 (AD n84 n85 n86 n87 n88 n89 l90)<|
AE T.a0 a0 λn91 n92 n93 n94 n95 n96 l97=>
Ah 0 [AD n91 n92 n93 n94 n95 n96 l97,Ai 6])<|
Ae T.a40 a21 6 λl98=>
AH T.a2 a82 λs99 s100 b101 n102=>
Aj (Instr.buildSlice T.a40 1 #[(0,AG s99 s100 b101 n102)]) λl103=>
Aj (app T.a40 T.a40 T.a40 l98.v l103.v) λl104=>
Be T.a40 a21 6 l104.v<|
Bh T.a55 a82 0 λs105=>
Bf s105 λs106=>
Ah 3 [.string s106,Ai (Af (n75+1))]))<|
Ah 2 []))<|
Ah 1 [])<|
Ah 1 [])<|
AK 1 (
Aw F.a233 [Aq p2] λn107=>
Bp ((n107 != 0)=false) T.a0 a21 λn108 n109 n110 n111 n112 n113 l114=>
Ac (n107 != 0) (
Ah 1 [.bool true])<|
Aw F.a131 [AD n108 n109 n110 n111 n112 n113 l114] λn115=>
Ah 1 [.bool (n115 != 0)]) λb116=>
Ac b116 (
AE T.a0 a1 λn117 n118 n119 n120 n121 n122 l123=>
AC T.a0 a0 (AD n117 n118 n119 n120 n121 n122 l123)<|
AE T.a0 a0 λn124 n125 n126 n127 n128 n129 l130=>
Ah 0 [AD n124 n125 n126 n127 n128 n129 l130,Ai 6])<|
AE T.a0 a21 λn131 n132 n133 n134 n135 n136 l137=>
AC T.a0 a0 (AD n131 n132 n133 n134 n135 n136 l137)<|
AE T.a0 a0 λn138 n139 n140 n141 n142 n143 l144=>
Ah 0 [AD n138 n139 n140 n141 n142 n143 l144,Ai 0]
theorem znd (raw:Sl):FnS (z00n raw) F.a124 #[.slice raw.a raw.len raw.cap]:=dV ⟨[(985162418487330,[]),(1123700883587100,[]),(19807040591672596250983170100,[])],[(0,[])],[(27,[(89,.one .bool)])],[(0,[(8,.one .str),(59,.one (.int .i64))])]⟩ Go.Proofs.Tryz.func248 (by kernel_rfl)
def z01u (s:Option Addr) (b_0 b_1 b_2 b_3 b_4 b_5:Int) (b_6:Sl) (size:Int):Prog :=
Ao T.a0 (AD b_0 b_1 b_2 b_3 b_4 b_5 b_6) λa0=>
AE T.a0 a0 λn1 n2 n3 n4 n5 n6 l7=>
Aw F.a167 [AD n1 n2 n3 n4 n5 n6 l7] λn8=>
Ag n8 λn9=>
AT<|
As s λa11=>
AW T.a31 a11 0 λp12=>
Az T.a14 a0 0 λn13=>
As s λa15=>
Az T.a13 a15 5 λn16=>
Aw F.a58 [Aq p12,Ai n13,Ai n16,Ai n9] λn17=>
AU<|
AE T.a0 a0 λn18 n19 n20 n21 n22 n23 l24=>
Aw F.a129 [AD n18 n19 n20 n21 n22 n23 l24] λn25=>
As s λa27=>
Be T.a14 a27 3 (Ai n25)<|
As s λa29=>
Az T.a14 a29 4 λn30=>
As s λa32=>
Be T.a14 a32 4 (Ai (if n9>n30 then n9 else n30))<|
As s λa34=>
Az T.a13 a34 5 λn35=>
As s λa37=>
Be T.a13 a37 5 (Ai (Af (n35+size)))<|
Ah 0 []
theorem zok (s:Option Addr) (b_0 b_1 b_2 b_3 b_4 b_5:Int) (b_6:Sl) (size:Int):FnS (z01u s b_0 b_1 b_2 b_3 b_4 b_5 b_6 size) F.a171 #[.pointer s,.agg #[.int .i64 b_0,.int .i64 b_1,.int .i64 b_2,.int .i64 b_3,.int .i64 b_4,.int .i64 b_5,.slice b_6.a b_6.len b_6.cap],.int .i64 size]:=dV ⟨[],[],[],[]⟩ Go.Proofs.Tryz.func249 (by kernel_rfl)
def z01i (l:Option Addr) (s:Option Addr):Prog :=
As l λa1=>
Ae T.a46 a1 4 λl2=>
Aj (Instr.buildSlice T.a46 1 #[(0,Aq s)]) λl3=>
Aj (app T.a46 T.a46 T.a46 l2.v l3.v) λl4=>
As l λa6=>
Be T.a46 a6 4 l4.v<|
Ah 0 []
theorem zo8 (l s:Option Addr):FnS (z01i l s) F.a159 #[.pointer l,.pointer s]:=dV ⟨[],[],[],[]⟩ Go.Proofs.Tryz.func250 (by kernel_rfl)
def z02g (r:Option Addr) (lo:Int) (hi:Int):Prog :=
Ar F.a240 [Aq r] λb0=>
Ac (not b0) (
Ah 0 [Ai 0])<|
As r λa2=>
Az T.a13 (Addr.add a2 0) 1 λn3=>
Ag n3 λn4=>
Aw F.a236 [Aq r] λn5=>
Ag n5 λn6=>
As r λa8=>
Az T.a1 (Addr.add a8 0) 2 λn9=>
Ax 1 (
Ac (n9 == 0 && (decide (n6<lo) || decide (n6>hi))) (
As r λa11=>
Be T.a13 (Addr.add a11 0) 1 (Ai n4)<|
As r λa13=>
Ay F.a243 [Au a13 0,Ai 8]<|
Ah 1 [])<|
Ah 1 [])<|
As r λa15=>
Az T.a1 (Addr.add a15 0) 2 λn16=>
Ac (n16 != 0) (
Ah 0 [Ai 0])<|
Ag n6 λn17=>
Ah 0 [Ai n17]
theorem zp6 (r:Option Addr) (lo hi:Int):FnS (z02g r lo hi) F.a239 #[.pointer r,.int .i64 lo,.int .i64 hi]:=dV ⟨[(71916856549572642,[])],[],[],[]⟩ Go.Proofs.Tryz.func253 (by kernel_rfl)
def z07l (x:Option Addr) (offset:Int):Prog :=
Ao T.a31 (Aq x) λa0=>
Ao T.a14 (Ai offset) λa1=>
AB T.a10 λa2=>
AR T.a31 a0 λp3=>
Ac (Option.isNone p3) (
AC T.a10 a2 (Br 0 0 0)<|
Bx T.a10 a2 λn4 n5 n6=>
Ah 0 [Br n4 n5 n6,.bool false])<|
AK 1 (
AT<|
.hold True (ld T.a31 a0) sP (u1 λp7=>
AR T.a31 a0 λp8=>
As p8 λa10=>
Ae T.a41 a10 4 λl11=>
Aw F.a223 [Ai (Ad l11),.func (Fn.func 311) #[] #[Ap a0,Ap a1]] λn12=>
AU<|
.call F.a59 [Aq p7,Ai (Af (n12-1))] (.tup [.agg [.int .i64,.int .i64,.int .i64],.one .bool]) (u4 λ(n13 n14 n15:Int) b16=>
AC T.a10 a2 (Br n13 n14 n15)<|
AM b16 λb17=>
AU<|
Ah 1 [.bool b17]))) λb18=>
Bx T.a10 a2 λn19 n20 n21=>
Ah 0 [Br n19 n20 n21,.bool b18]
theorem zu2 (x:Option Addr) (offset:Int):FnS (z07l x offset) F.a56 #[.pointer x,.int .i64 offset]:=dV ⟨[],[],[(3,[(5,.one .bool)])],[]⟩ Go.Proofs.Tryz.func262 (by kernel_rfl)
def z01o (base:Int) (end_:Int):Prog :=
Aj (Instr.buildSlice T.a50 1 #[(0,.int .u8 83)]) λl0=>
An F.a242 [.int .u64 (IntKind.wrap .u64 base)] λl1=>
An F.a242 [.int .u64 (IntKind.wrap .u64 end_)] λl2=>
Aj (Instr.buildSlice T.a48 3 #[(0,l0.v),(1,l1.v),(2,l2.v)]) λl3=>
An F.a52 [l3.v] λl4=>
Ah 0 [l4.v]
theorem zoe (base end_:Int):FnS (z01o base end_) F.a165 #[.int .i64 base,.int .i64 end_]:=dV ⟨[],[],[],[]⟩ Go.Proofs.Tryz.func263 (by kernel_rfl)
def z00z (b_0 b_1 b_2 b_3 b_4 b_5:Int) (b_6:Sl) (from_:Int) (to_:Int):Prog :=
Ao T.a0 (AD b_0 b_1 b_2 b_3 b_4 b_5 b_6) λa0=>
AB T.a0 λa1=>
AE T.a0 a0 λn2 n3 n4 n5 n6 n7 l8=>
AB T.a0 λa9=>
AC T.a0 a9 (AD n2 n3 n4 n5 n6 n7 l8)<|
Ae T.a40 a0 6 λl10=>
.must (0<=from_/\from_<=to_/\to_<=((l10.cap:Nat):Int)) <|
Aj (app T.a40 T.a40 T.a40 (.slice none 0 0) (.slice (z10 l10.a 4 (Int.toNat from_) l10.cap) (Int.toNat to_-Int.toNat from_) (l10.cap-Int.toNat from_))) λl11=>
Be T.a40 a9 6 l11.v<|
Az T.a14 a9 0 λn12=>
Be T.a14 a9 0 (Ai (Af (n12+from_)))<|
Az T.a14 a9 1 λn13=>
Ax 1 (
Ac (decide (n13>0)) (
Az T.a13 a9 3 λn14=>
Be T.a13 a9 3 (Ai (Af (n14+from_)))<|
Ah 1 [])<|
Ah 1 [])<|
AE T.a0 a9 λn15 n16 n17 n18 n19 n20 l21=>
AC T.a0 a1 (AD n15 n16 n17 n18 n19 n20 l21)<|
AE T.a0 a1 λn22 n23 n24 n25 n26 n27 l28=>
Ah 0 [AD n22 n23 n24 n25 n26 n27 l28]
theorem znp (b_0 b_1 b_2 b_3 b_4 b_5:Int) (b_6:Sl) (from_ to_:Int):FnS (z00z b_0 b_1 b_2 b_3 b_4 b_5 b_6 from_ to_) F.a136 #[.agg #[.int .i64 b_0,.int .i64 b_1,.int .i64 b_2,.int .i64 b_3,.int .i64 b_4,.int .i64 b_5,.slice b_6.a b_6.len b_6.cap],.int .i64 from_,.int .i64 to_]:=dV ⟨[(2130303778839,[])],[],[],[]⟩ Go.Proofs.Tryz.func264 (by kernel_rfl)
def z00y (b_0 b_1 b_2 b_3 b_4 b_5:Int) (b_6:Sl):Prog :=
Ao T.a0 (AD b_0 b_1 b_2 b_3 b_4 b_5 b_6) λa0=>
AK 1 (
Az T.a13 a0 4 λn1=>
Bb (decide (n1>=0)=true) T.a13 a0 4 λn2=>
Bb ((decide (n1>=0) && decide (n2<=3))=true) T.a14 a0 0 λn3=>
Ac (decide (n1>=0) && decide (n2<=3)) (
Ar F.a140 [Ai n3,Ai 0,Ai 1099511627776] λb4=>
Bb (b4=true) T.a14 a0 1 λn5=>
Ac b4 (
Ar F.a140 [Ai n5,Ai 0,Ai 1048576] λb6=>
Bb (b6=true) T.a13 a0 2 λn7=>
Bb ((b6 && decide (n7>=0))=true) T.a13 a0 2 λn8=>
Bb ((b6 && decide (n7>=0) && decide (n8<=32767))=true) T.a13 a0 3 λn9=>
Bb ((b6 && decide (n7>=0) && decide (n8<=32767) && decide (n9>=0))=true) T.a13 a0 3 λn10=>
Bb ((b6 && decide (n7>=0) && decide (n8<=32767) && decide (n9>=0) && decide (n10<=2147483647))=true) T.a14 a0 5 λn11=>
Ac (b6 && decide (n7>=0) && decide (n8<=32767) && decide (n9>=0) && decide (n10<=2147483647)) (
Ar F.a140 [Ai n11,Ai 0,Ai 1099511627776] λb12=>
AM b12 λb13=>
Ah 1 [.bool b13])<|
Ah 1 [.bool false])<|
Ah 1 [.bool false])<|
Ah 1 [.bool false]) λb14=>
Ah 0 [.bool b14]
theorem zno (b_0 b_1 b_2 b_3 b_4 b_5:Int) (b_6:Sl):FnS (z00y b_0 b_1 b_2 b_3 b_4 b_5 b_6) F.a135 #[.agg #[.int .i64 b_0,.int .i64 b_1,.int .i64 b_2,.int .i64 b_3,.int .i64 b_4,.int .i64 b_5,.slice b_6.a b_6.len b_6.cap]]:=dV ⟨[],[],[(1,[(2,.one .bool)])],[]⟩ Go.Proofs.Tryz.func269 (by kernel_rfl)
def z00w (b_0 b_1 b_2 b_3 b_4 b_5:Int) (b_6:Sl):Prog :=
Ao T.a0 (AD b_0 b_1 b_2 b_3 b_4 b_5 b_6) λa0=>
Az T.a14 a0 1 λn1=>
Bb ((n1 == 0)=true) T.a13 a0 4 λn2=>
Bb ((n1 == 0)=true/\(n2 != 0)=false) T.a13 a0 2 λn3=>
Bb ((n1 == 0)=true/\(n2 != 0 || n3 != 0)=false) T.a13 a0 3 λn4=>
Ac (n1 == 0 && (n2 != 0 || n3 != 0 || n4 != 0)) (
Ah 0 [.bool false])<|
AE T.a0 a0 λn5 n6 n7 n8 n9 n10 l11=>
Ar F.a134 [AD n5 n6 n7 n8 n9 n10 l11] λb12=>
Ac b12 (
Az T.a13 a0 3 λn13=>
Ba ((n13 == 0)=true) T.a40 a0 6 λl14=>
AM (n13 == 0 && (Ad l14) == 0) λb15=>
Ah 0 [.bool b15])<|
Ae T.a40 a0 6 λl16=>
AM (decide ((Ad l16)>0)) λb17=>
Ah 0 [.bool b17]
theorem znm (b_0 b_1 b_2 b_3 b_4 b_5:Int) (b_6:Sl):FnS (z00w b_0 b_1 b_2 b_3 b_4 b_5 b_6) F.a133 #[.agg #[.int .i64 b_0,.int .i64 b_1,.int .i64 b_2,.int .i64 b_3,.int .i64 b_4,.int .i64 b_5,.slice b_6.a b_6.len b_6.cap]]:=dV ⟨[],[],[],[]⟩ Go.Proofs.Tryz.func270 (by kernel_rfl)
def z011 (r_0 r_1:ByteArray) (r_2:Bool) (r_3:Int):Prog :=
Ao T.a2 (AG r_0 r_1 r_2 r_3) λa0=>
Bh T.a55 a0 0 λs1=>
By (decide (((ByteArray.size s1:Nat):Int)>1024)=false) T.a55 a0 1 λs2=>
AJ (decide (((ByteArray.size s1:Nat):Int)>1024) || decide (((ByteArray.size s2:Nat):Int)>1024)) (
Ah 0 [Ai 7])<|
Az T.a14 a0 3 λn4=>
Ar F.a140 [Ai n4,Ai 0,Ai 1099511627776] λb5=>
Bz (not b5=false) T.a3 a0 2 λb6=>
By (not b5=false/\b6=true) T.a55 a0 1 λs7=>
AJ (not b5 || b6 && not (ByteArray.toList s7 == ByteArray.toList (ByteArray.mk #[]))) (
Ah 0 [Ai 2])<|
Ah 0 [Ai 0]
theorem znr (r_0 r_1:ByteArray) (r_2:Bool) (r_3:Int):FnS (z011 r_0 r_1 r_2 r_3) F.a138 #[.agg #[.string r_0,.string r_1,.bool r_2,.int .i64 r_3]]:=dV ⟨[],[],[],[]⟩ Go.Proofs.Tryz.func271 (by kernel_rfl)
def z01h (l:Option Addr) (bs:Sl):Prog :=
Aw F.a144 [Aq l] λn0=>
Ag n0 λn1=>
.bind 1 [.one .slc,.one .slc] (
.loop 2 [.one (.int .i64),.one .slc,.one .slc,.one (.int .i64)] (n1,(⟨none,0,0⟩,(⟨none,0,0⟩,(0,())))) (u4 λ(n2:Int) l3 l4 (n5:Int)=>
Ac (decide (n5<(Ad bs))) (
.ex [.adr] (c1 λa6=>0<=n5/\n5<(Ad bs)/\bs.a=some a6) (u1 λa7=>
AA T.a0 a7 (Int.toNat n5*7) λn8 n9 n10 n11 n12 n13 l14=>
AB T.a0 λa15=>
AC T.a0 a15 (AD n8 n9 n10 n11 n12 n13 l14)<|
Be T.a14 a15 0 (Ai n2)<|
AE T.a0 a15 λn16 n17 n18 n19 n20 n21 l22=>
AO F.a125 [AD n16 n17 n18 n19 n20 n21 l22] λl23 n24=>
Ag n24 λn25=>
Ac (n25 != 0) (
Ag n25 λn26=>
Ah 0 [.slice none 0 0,.slice none 0 0,Ai n26])<|
AE T.a0 a15 λn27 n28 n29 n30 n31 n32 l33=>
Aj (Instr.buildSlice T.a39 1 #[(0,AD n27 n28 n29 n30 n31 n32 l33)]) λl34=>
Aj (app T.a39 T.a39 T.a39 l3.v l34.v) λl35=>
Aj (Instr.buildSlice T.a48 1 #[(0,l23.v)]) λl36=>
An F.a52 [l36.v] λl37=>
Aj (Instr.buildSlice T.a48 1 #[(0,l37.v)]) λl38=>
Aj (app T.a48 T.a48 T.a48 l4.v l38.v) λl39=>
AE T.a0 a15 λn40 n41 n42 n43 n44 n45 l46=>
Aw F.a129 [AD n40 n41 n42 n43 n44 n45 l46] λn47=>
Ag n47 λn48=>
Ah 2 [Ai n48,l35.v,l39.v,Ai (Af (n5+1))]))<|
Ah 1 [l3.v,l4.v])) (u2 λl49 l50=>
Ah 0 [l49.v,l50.v,Ai 0])
theorem zo7 (l:Option Addr) (bs:Sl):FnS (z01h l bs) F.a158 #[.pointer l,.slice bs.a bs.len bs.cap]:=dV ⟨[],[(0,[(8,.one .slc),(9,.one .slc)])],[],[(0,[(7,.one (.int .i64)),(8,.one .slc),(9,.one .slc),(18,.one (.int .i64))])]⟩ Go.Proofs.Tryz.func274 (by kernel_rfl)
def z01e (l:Option Addr) (n:Int):Prog :=
Bj F.a156 [Aq l] λp0=>
AT<|
AZ (not (Option.isNone p0)=true) p0 λa2=>
Bb (not (Option.isNone p0)=true) T.a14 a2 3 λn3=>
AZ (not (Option.isNone p0)=true/\(n3 == 0)=false) p0 λa5=>
Bb (not (Option.isNone p0)=true/\(n3 == 0)=false) T.a13 a5 5 λn6=>
AZ (not (Option.isNone p0)=true/\(n3 == 0)=false) l λa8=>
Bb (not (Option.isNone p0)=true/\(n3 == 0)=false) T.a13 (Addr.add a8 2) 0 λn9=>
AM (not (Option.isNone p0) && (n3 == 0 || decide (Af (n6+n)<=n9))) λb10=>
AU<|
Ah 0 [.bool b10]
theorem zo4 (l:Option Addr) (n:Int):FnS (z01e l n) F.a154 #[.pointer l,.int .i64 n]:=dV ⟨[],[],[],[]⟩ Go.Proofs.Tryz.func275 (by kernel_rfl)
def z07h (parts:Sl):Prog :=
Aa 1 (
Ab 2 (0,(0,())) λn0 n1=>
Ac (decide (n1<(Ad parts))) (
.ex [.adr] (c1 λa2=>0<=n1/\n1<(Ad parts)/\parts.a=some a2) (u1 λa3=>
Ae T.a50 a3 (Int.toNat n1*1) λl4=>
Ag (Af (n0+(Ad l4))) λn5=>
Ac (decide (n5>262144)) (
Ah 0 [.slice none 0 0])<|
Ah 2 [Ai n5,Ai (Af (n1+1))]))<|
Ah 1 [Ai n0]) λn6=>
Aj (Instr.makeSlice T.a50 (Ai 0) (Ai (Af (n6+8)))) λl7=>
An F.a54 [.int .u32 (IntKind.wrap .u32 n6)] λl8=>
Aj (app T.a50 T.a50 T.a50 l7.v l8.v) λl9=>
Ak 1 (
Al 2 ({ a:=l9.a,len:=l9.len,cap:=l9.cap },(0,())) λl10 n11=>
Ac (decide (n11<(Ad parts))) (
.ex [.adr] (c1 λa12=>0<=n11/\n11<(Ad parts)/\parts.a=some a12) (u1 λa13=>
Ae T.a50 a13 (Int.toNat n11*1) λl14=>
Aj (app T.a50 T.a50 T.a50 l10.v l14.v) λl15=>
Ah 2 [l15.v,Ai (Af (n11+1))]))<|
Ah 1 [l10.v]) λl16=>
Aj (Instr.buildSlice T.a48 1 #[(0,l16.v)]) λl17=>
Bu F.a53 [l17.v] λn18=>
An F.a54 [.int .u32 n18] λl19=>
Aj (app T.a50 T.a50 T.a50 l16.v l19.v) λl20=>
Ah 0 [l20.v]
theorem zty (parts:Sl):FnS (z07h parts) F.a52 #[.slice parts.a parts.len parts.cap]:=dV ⟨[],[(0,[(3,.one (.int .i64))]),(2,[(6,.one .slc)])],[],[(0,[(3,.one (.int .i64)),(11,.one (.int .i64))]),(2,[(6,.one .slc),(32,.one (.int .i64))])]⟩ Go.Proofs.Tryz.func278 (by kernel_rfl)
def z02i (s:ByteArray):Prog :=
An F.a242 [.int .u64 (IntKind.wrap .u64 (((ByteArray.size s:Nat):Int)))] λl0=>
Aj (app T.a50 T.a55 T.a50 l0.v (.string s)) λl1=>
Ah 0 [l1.v]
theorem zp8 (s:ByteArray):FnS (z02i s) F.a241 #[.string s]:=dV ⟨[],[],[],[]⟩ Go.Proofs.Tryz.func279 (by kernel_rfl)
def z00o (b_0 b_1 b_2 b_3 b_4 b_5:Int) (b_6:Sl):Prog :=
Ao T.a0 (AD b_0 b_1 b_2 b_3 b_4 b_5 b_6) λa0=>
AE T.a0 a0 λn1 n2 n3 n4 n5 n6 l7=>
Aw F.a131 [AD n1 n2 n3 n4 n5 n6 l7] λn8=>
Ag n8 λn9=>
Ac (n9 != 0) (
Ag n9 λn10=>
Ah 0 [.slice none 0 0,Ai n10])<|
Ak 1 (
AT<|
AY T.a13 a0 4 λn11=>
AY T.a14 a0 0 λn12=>
AY T.a14 a0 1 λn13=>
.both (
Aj (Instr.buildSlice T.a50 2 #[(0,.int .u8 1),(1,.int .u8 (IntKind.wrap .u8 n11))]) λl14=>
An F.a242 [.int .u64 (IntKind.wrap .u64 n12)] λl15=>
An F.a242 [.int .u64 (IntKind.wrap .u64 n13)] λl16=>
AU<|
Aj (Instr.buildSlice T.a48 3 #[(0,l14.v),(1,l15.v),(2,l16.v)]) λl17=>
An F.a230 [l17.v] λl18=>
AU<|
Ah 1 [l18.v]) <|
An F.a242 [.int .u64 (IntKind.wrap .u64 n12)] λl19=>
.both (
Aj (Instr.buildSlice T.a50 2 #[(0,.int .u8 1),(1,.int .u8 (IntKind.wrap .u8 n11))]) λl20=>
An F.a242 [.int .u64 (IntKind.wrap .u64 n13)] λl21=>
AU<|
Aj (Instr.buildSlice T.a48 3 #[(0,l20.v),(1,l19.v),(2,l21.v)]) λl22=>
An F.a230 [l22.v] λl23=>
AU<|
Ah 1 [l23.v]) <|
An F.a242 [.int .u64 (IntKind.wrap .u64 n13)] λl24=>
Aj (Instr.buildSlice T.a50 2 #[(0,.int .u8 1),(1,.int .u8 (IntKind.wrap .u8 n11))]) λl25=>
AU<|
Aj (Instr.buildSlice T.a48 3 #[(0,l25.v),(1,l19.v),(2,l24.v)]) λl26=>
An F.a230 [l26.v] λl27=>
AU<|
Ah 1 [l27.v]) λl28=>
Az T.a14 a0 1 λn29=>
Ak 1 (
Ac (decide (n29>0)) (
Az T.a13 a0 2 λn30=>
An F.a242 [.int .u64 (IntKind.wrap .u64 n30)] λl31=>
Aj (app T.a50 T.a50 T.a50 l28.v l31.v) λl32=>
AE T.a0 a0 λn33 n34 n35 n36 n37 n38 l39=>
Ar F.a134 [AD n33 n34 n35 n36 n37 n38 l39] λb40=>
Ak 2 (
Ac (not b40) (
Az T.a13 a0 3 λn41=>
An F.a242 [.int .u64 (IntKind.wrap .u64 n41)] λl42=>
Aj (app T.a50 T.a50 T.a50 l32.v l42.v) λl43=>
Ah 2 [l43.v])<|
Ah 2 [l32.v]) λl44=>
Ah 1 [l44.v])<|
Ah 1 [l28.v]) λl45=>
Az T.a14 a0 5 λn46=>
An F.a242 [.int .u64 (IntKind.wrap .u64 n46)] λl47=>
Aj (app T.a50 T.a50 T.a50 l45.v l47.v) λl48=>
AE T.a0 a0 λn49 n50 n51 n52 n53 n54 l55=>
Ar F.a134 [AD n49 n50 n51 n52 n53 n54 l55] λb56=>
Ac b56 (
Ah 0 [l48.v,Ai 0])<|
Ae T.a40 a0 6 λl57=>
An F.a242 [.int .u64 (IntKind.wrap .u64 (Ad l57))] λl58=>
Aj (app T.a50 T.a50 T.a50 l48.v l58.v) λl59=>
Ae T.a40 a0 6 λl60=>
Ak 1 (
.loop 2 [.one .slc,.one .str,.one (.int .i64)] ({ a:=l59.a,len:=l59.len,cap:=l59.cap },((ByteArray.mk #[]),(0,()))) (u3 λl61 s62 (n63:Int)=>
Ac (decide (n63<(Ad l60))) (
.ex [.adr] (c1 λa64=>0<=n63/\n63<(Ad l60)/\l60.a=some a64) (u1 λa65=>
AF T.a2 a65 (Int.toNat n63*4) λs66 s67 b68 n69=>
AB T.a2 λa70=>
AC T.a2 a70 (AG s66 s67 b68 n69)<|
Bh T.a55 a70 0 λs71=>
Aw F.a132 [.string s62,.string s71] λn72=>
Ag n72 λn73=>
Ak 3 (
AT<|
Az T.a14 a70 3 λn74=>
Az T.a14 a0 5 λn75=>
.hold True (ld T.a3 (Addr.add a70 2)) sB (u1 λb76=>
B0 (ld T.a55 (Addr.add a70 0)) λs77=>
.must (0<=n73/\n73<=((ByteArray.size s77:Nat):Int)) <|
An F.a229 [Ai (Af (n74-n75))] λl78=>
An F.a228 [.bool b76] λl79=>
An F.a242 [.int .u64 (IntKind.wrap .u64 n73)] λl80=>
AU<|
An F.a241 [.string (ByteArray.extract s77 (Int.toNat n73) (ByteArray.size s77))] λl81=>
Aj (Instr.buildSlice T.a48 4 #[(0,l78.v),(1,l79.v),(2,l80.v),(3,l81.v)]) λl82=>
An F.a230 [l82.v] λl83=>
Aj (app T.a50 T.a50 T.a50 l61.v l83.v) λl84=>
AU<|
Ah 3 [l84.v])) λl85=>
B1 T.a3 a70 2 λb86=>
Ak 3 (
Ac (not b86) (
Bh T.a55 a70 1 λs87=>
An F.a241 [.string s87] λl88=>
Aj (app T.a50 T.a50 T.a50 l85.v l88.v) λl89=>
Ah 3 [l89.v])<|
Ah 3 [l85.v]) λl90=>
Bh T.a55 a70 0 λs91=>
Bf s91 λs92=>
Ah 2 [l90.v,.string s92,Ai (Af (n63+1))]))<|
Ah 1 [l61.v])) λl93=>
Ah 0 [l93.v,Ai 0]
theorem zne (b_0 b_1 b_2 b_3 b_4 b_5:Int) (b_6:Sl):FnS (z00o b_0 b_1 b_2 b_3 b_4 b_5 b_6) F.a125 #[.agg #[.int .i64 b_0,.int .i64 b_1,.int .i64 b_2,.int .i64 b_3,.int .i64 b_4,.int .i64 b_5,.slice b_6.a b_6.len b_6.cap]]:=dV ⟨[(567453553048813608,[(5,.one .slc)]),(576443160117510175,[(5,.one .slc)]),(40240300653644914121111346551586913,[(5,.one .slc)])],[(0,[(5,.one .slc)])],[(4,[(5,.one .slc)]),(18,[(5,.one .slc)])],[(0,[(5,.one .slc),(6,.one .str),(66,.one (.int .i64))])]⟩ Go.Proofs.Tryz.func280 (by kernel_rfl)
def z07k (b:Sl):Prog :=
AT<|
.ex [.adr] (c1 λa0=>(0:Int)<=0/\0<(Ad b)/\b.a=some a0) (u1 λa1=>
Bc T.a56 a1 0 λn2=>
.ex [.adr] (c1 λa3=>(0:Int)<=1/\1<(Ad b)/\b.a=some a3) (u1 λa4=>
Bc T.a56 a4 1 λn5=>
.ex [.adr] (c1 λa6=>(0:Int)<=2/\2<(Ad b)/\b.a=some a6) (u1 λa7=>
Bc T.a56 a7 2 λn8=>
.ex [.adr] (c1 λa9=>(0:Int)<=3/\3<(Ad b)/\b.a=some a9) (u1 λa10=>
Bc T.a56 a10 3 λn11=>
Bv (IntKind.wrap .u32 (((BitVec.toNat (BitVec.ofInt 32 (IntKind.wrap .u32 (((BitVec.toNat (BitVec.ofInt 32 (IntKind.wrap .u32 (((BitVec.toNat (BitVec.ofInt 32 (IntKind.wrap .u32 n2) ||| BitVec.ofInt 32 (IntKind.wrap .u32 (IntKind.wrap .u32 n5*256))):Nat):Int))) ||| BitVec.ofInt 32 (IntKind.wrap .u32 (IntKind.wrap .u32 n8*65536))):Nat):Int))) ||| BitVec.ofInt 32 (IntKind.wrap .u32 (IntKind.wrap .u32 n11*16777216))):Nat):Int))) λn12=>
AU<|
Ah 0 [.int .u32 n12]))))
theorem zu1 (b:Sl):FnS (z07k b) F.a55 #[.slice b.a b.len b.cap]:=dV ⟨[],[],[],[]⟩ Go.Proofs.Tryz.func295 (by kernel_rfl)
def z07i (parts:Sl):Prog :=
Bu F.a50 [.int .u32 0,parts.v] λn0=>
Bv n0 λn1=>
Ah 0 [.int .u32 n1]
theorem ztz (parts:Sl):FnS (z07i parts) F.a53 #[.slice parts.a parts.len parts.cap]:=dV ⟨[],[],[],[]⟩ Go.Proofs.Tryz.func296 (by kernel_rfl)
def z029 (r:Option Addr):Prog :=
Ar F.a240 [Aq r] λb0=>
Ac (not b0) (
Ah 0 [Ai 0])<|
As r λa2=>
Aw F.a244 [Au a2 0] λn3=>
Ac (n3 == 0) (
As r λa5=>
Ay F.a243 [Au a5 0,Ai 6]<|
Ah 0 [Ai 0])<|
As r λa7=>
An F.a245 [Au a7 0,Ai 1] λl8=>
.ex [.adr] (c1 λa9=>(0:Int)<=0/\0<(Ad l8)/\l8.a=some a9) (u1 λa10=>
Bc T.a56 a10 0 λn11=>
Ag (Af n11) λn12=>
Ah 0 [Ai n12])
theorem zoz (r:Option Addr):FnS (z029 r) F.a232 #[.pointer r]:=dV ⟨[],[],[],[]⟩ Go.Proofs.Tryz.func297 (by kernel_rfl)
def z07p (gap:Int):Prog :=
Ac (decide (gap<1) || decide (gap>4194304)) (
Ah 0 [Aq none,Ai 2])<|
Ao T.a11 (.agg #[Ai (-1),Ai (-1),Ai (-1),Ai gap,.slice none 0 0]) λa0=>
Ah 0 [Ap a0,Ai 0]
theorem zu6 (gap:Int):FnS (z07p gap) F.a60 #[.int .i64 gap]:=dV ⟨[],[],[],[]⟩ Go.Proofs.Tryz.func298 (by kernel_rfl)
def z012 (r:Option Addr) (most:Int):Prog :=
Av F.a238 [Aq r] λn0=>
Am n0 λn1=>
Ac (decide (n1>IntKind.wrap .u64 most)) (
Ag (Af (most+1)) λn2=>
Ah 0 [Ai n2])<|
Ag (Af n1) λn3=>
Ah 0 [Ai n3]
theorem zns (r:Option Addr) (most:Int):FnS (z012 r most) F.a139 #[.pointer r,.int .i64 most]:=dV ⟨[],[],[],[]⟩ Go.Proofs.Tryz.func299 (by kernel_rfl)
def z010 (r:Option Addr) (time:Int) (ahead:ByteArray):Prog :=
AB T.a2 λa0=>
Aw F.a239 [Aq r,Ai (-1099511627776),Ai 1099511627776] λn1=>
Ag n1 λn2=>
Ar F.a235 [Aq r] λb3=>
AB T.a2 λa4=>
AC T.a2 a4 (.agg #[.string (ByteArray.mk #[]),.string (ByteArray.mk #[]),.bool b3,Ai (Af (time+n2))])<|
Aw F.a139 [Aq r,Ai 1024] λn5=>
Ag n5 λn6=>
AP F.a237 [Aq r,Ai 1024] λs7=>
Bf s7 λs8=>
Ac (decide (n6>((ByteArray.size ahead:Nat):Int))) (
AH T.a2 a4 λs9 s10 b11 n12=>
AC T.a2 a0 (AG s9 s10 b11 n12)<|
AH T.a2 a0 λs13 s14 b15 n16=>
Ah 0 [AG s13 s14 b15 n16,.bool false])<|
.must (0<=n6/\n6<=((ByteArray.size ahead:Nat):Int)) <|
.must (((ByteArray.size (ByteArray.extract ahead 0 (Int.toNat n6))+ByteArray.size s8:Nat):Int)<=9223372036854775807) <|
Be T.a55 a4 0 (.string (ByteArray.extract ahead 0 (Int.toNat n6)++s8))<|
B1 T.a3 a4 2 λb17=>
Ax 1 (
Ac (not b17) (
AP F.a237 [Aq r,Ai 1024] λs18=>
Be T.a55 a4 1 (.string s18)<|
Ah 1 [])<|
Ah 1 [])<|
AK 1 (
AT<|
.hold True (ld T.a2 a4) (sG [.str,.str,.bool,.int .i64]) (u4 λs19 s20 b21 (n22:Int)=>
Aw F.a234 [Aq r] λn23=>
By ((n23 == 0)=true) T.a55 a4 0 λs24=>
Ac (n23 == 0) (
Aw F.a132 [.string ahead,.string s24] λn25=>
AU<|
AC T.a2 a0 (AG s19 s20 b21 n22)<|
AM (n25 == n6) λb26=>
AU<|
Ah 1 [.bool b26])<|
AU<|
AC T.a2 a0 (AG s19 s20 b21 n22)<|
AU<|
Ah 1 [.bool false])) λb27=>
AH T.a2 a0 λs28 s29 b30 n31=>
Ah 0 [AG s28 s29 b30 n31,.bool b27]
theorem znq (r:Option Addr) (time:Int) (ahead:ByteArray):FnS (z010 r time ahead) F.a137 #[.pointer r,.int .i64 time,.string ahead]:=dV ⟨[(7881299347898405,[])],[],[(10,[(7,.one .bool)])],[]⟩ Go.Proofs.Tryz.func300 (by kernel_rfl)
def z01q (b_0 b_1 b_2 b_3 b_4 b_5:Int) (b_6:Sl):Prog :=
Ao T.a0 (AD b_0 b_1 b_2 b_3 b_4 b_5 b_6) λa0=>
Ae T.a40 a0 6 λl1=>
Aa 1 (
Ab 2 (-1,(0,())) λn2 n3=>
Ac (decide (n3<(Ad l1))) (
.ex [.adr] (c1 λa4=>0<=n3/\n3<(Ad l1)/\l1.a=some a4) (u1 λa5=>
AF T.a2 a5 (Int.toNat n3*4) λs6 s7 b8 n9=>
AB T.a2 λa10=>
AC T.a2 a10 (AG s6 s7 b8 n9)<|
Az T.a14 a10 3 λn11=>
Ag (if n11>n2 then n11 else n2) λn12=>
Ah 2 [Ai n12,Ai (Af (n3+1))]))<|
Ah 1 [Ai n2]) λn13=>
Ae T.a40 a0 6 λl14=>
Aa 1 (
Ac ((Ad l14) == 0) (
Az T.a14 a0 5 λn15=>
Ag n15 λn16=>
Ah 1 [Ai n16])<|
Ah 1 [Ai n13]) λn17=>
Ag n17 λn18=>
Ah 0 [Ai n18]
theorem zog (b_0 b_1 b_2 b_3 b_4 b_5:Int) (b_6:Sl):FnS (z01q b_0 b_1 b_2 b_3 b_4 b_5 b_6) F.a167 #[.agg #[.int .i64 b_0,.int .i64 b_1,.int .i64 b_2,.int .i64 b_3,.int .i64 b_4,.int .i64 b_5,.slice b_6.a b_6.len b_6.cap]]:=dV ⟨[(51539640341,[(3,.one (.int .i64))])],[(0,[(3,.one (.int .i64))])],[],[(0,[(3,.one (.int .i64)),(9,.one (.int .i64))])]⟩ Go.Proofs.Tryz.func301 (by kernel_rfl)
def z07n (x:Option Addr) (offset place:Int) (time:Int):Prog :=
AJ (Option.isNone x) (
Ah 0 [Ai 1])<|
Ar F.a61 [Ai offset,Ai place,Ai time] λb1=>
AJ (not b1) (
Ah 0 [Ai 2])<|
As x λa4=>
Az T.a14 (Addr.add a4 0) 0 λn5=>
AZ (decide (offset<=n5)=false) x λa7=>
Bb (decide (offset<=n5)=false) T.a13 (Addr.add a7 0) 1 λn8=>
AJ (decide (offset<=n5) || decide (place<=n8)) (
Ah 0 [Ai 21])<|
As x λa11=>
Ae T.a41 a11 4 λl12=>
Ag (Ad l12) λn13=>
AT<|
AZ ((n13 == 0)=false) x λa15=>
Ba ((n13 == 0)=false) T.a41 a15 4 λl16=>
.ex [.adr] (c1 λa17=>(n13 == 0)=false->0<=Af (n13-1)/\Af (n13-1)<(Ad l16)/\l16.a=some a17) (u1 λa18=>
Bb ((n13 == 0)=false) T.a13 (Addr.add a18 (Int.toNat (Af (n13-1))*3)) 1 λn19=>
AZ ((n13 == 0)=false) x λa21=>
Bb ((n13 == 0)=false) T.a13 a21 3 λn22=>
AU<|
Ax 1 (
Ac (n13 == 0 || decide (Af (place-n19)>=n22)) (
Ak 2 (
AT<|
As x λa24=>
.hold True (ld T.a41 (Addr.add a24 4)) sL (u1 λl25=>
As x λa27=>
Az T.a14 (Addr.add a27 0) 2 λn28=>
Aj (Instr.buildSlice T.a41 1 #[(0,Br offset place n28)]) λl29=>
AU<|
Aj (app T.a41 T.a41 T.a41 l25.v l29.v) λl30=>
AU<|
Ah 2 [l30.v])) λl31=>
As x λa33=>
Be T.a41 a33 4 l31.v<|
Ah 1 [])<|
Ah 1 [])<|
As x λa35=>
Az T.a14 (Addr.add a35 0) 2 λn36=>
As x λa38=>
Be T.a12 a38 0 (.agg #[Ai offset,Ai place,Ai (if time>n36 then time else n36)])<|
Ah 0 [Ai 0])
theorem zu4 (x:Option Addr) (offset place time:Int):FnS (z07n x offset place time) F.a58 #[.pointer x,.int .i64 offset,.int .i64 place,.int .i64 time]:=dV ⟨[(4951741267675589621019836477,[])],[],[(9,[(10,.one .slc)])],[]⟩ Go.Proofs.Tryz.func302 (by kernel_rfl)
def z02d (r:Option Addr):Prog :=
Av F.a238 [Aq r] λn0=>
Am n0 λn1=>
Ag (Af (((BitVec.toNat (BitVec.ofInt 64 (Af (Int.fdiv n1 2)) ^^^ BitVec.ofInt 64 (Af (0-Af (IntKind.wrap .u64 (((BitVec.toNat (BitVec.ofInt 64 n1 &&& BitVec.ofInt 64 1):Nat):Int)))))):Nat):Int))) λn2=>
Ah 0 [Ai n2]
theorem zp3 (r:Option Addr):FnS (z02d r) F.a236 #[.pointer r]:=dV ⟨[],[],[],[]⟩ Go.Proofs.Tryz.func303 (by kernel_rfl)
def z07o (x:Option Addr) (i:Int):Prog :=
AB T.a10 λa0=>
Ac (decide (i<0)) (
AC T.a10 a0 (Br 0 0 0)<|
Bx T.a10 a0 λn1 n2 n3=>
Ah 0 [Br n1 n2 n3,.bool false])<|
As x λa5=>
Ae T.a41 a5 4 λl6=>
.ex [.adr] (c1 λa7=>0<=i/\i<(Ad l6)/\l6.a=some a7) (u1 λa8=>
.read True (ld T.a10 (Addr.add a8 (Int.toNat i*3))) (sG [.int .i64,.int .i64,.int .i64]) (u3 λ(n9 n10 n11:Int)=>
AC T.a10 a0 (Br n9 n10 n11)<|
Bx T.a10 a0 λn12 n13 n14=>
Ah 0 [Br n12 n13 n14,.bool true]))
theorem zu5 (x:Option Addr) (i:Int):FnS (z07o x i) F.a59 #[.pointer x,.int .i64 i]:=dV ⟨[],[],[],[]⟩ Go.Proofs.Tryz.func310 (by kernel_rfl)
def z07m (i:Int) (fv0:Option Addr) (fv1:Option Addr):Prog :=
AT<|
Bn T.a31 fv0 λp0=>
As p0 λa2=>
Ae T.a41 a2 4 λl3=>
.ex [.adr] (c1 λa4=>0<=i/\i<(Ad l3)/\l3.a=some a4) (u1 λa5=>
Az T.a14 (Addr.add a5 (Int.toNat i*3)) 0 λn6=>
Bo T.a14 fv1 λn7=>
AM (decide (n6>n7)) λb8=>
AU<|
Ah 0 [.bool b8])
theorem zu3 (i:Int) (fv0 fv1:Option Addr):FnS (z07m i fv0 fv1) F.a57 #[.int .i64 i,.pointer fv0,.pointer fv1]:=dV ⟨[],[],[],[]⟩ Go.Proofs.Tryz.func311 (by kernel_rfl)
def z013 (n lo:Int) (hi:Int):Prog :=
AM (decide (n>=lo) && decide (n<=hi)) λb0=>
Ah 0 [.bool b0]
theorem znt (n lo hi:Int):FnS (z013 n lo hi) F.a140 #[.int .i64 n,.int .i64 lo,.int .i64 hi]:=dV ⟨[],[],[],[]⟩ Go.Proofs.Tryz.func314 (by kernel_rfl)
def z026 (n:Int):Prog :=
An F.a242 [.int .u64 (IntKind.wrap .u64 (((BitVec.toNat (BitVec.ofInt 64 (IntKind.wrap .u64 (IntKind.wrap .u64 n*2)) ^^^ BitVec.ofInt 64 (IntKind.wrap .u64 (Int.fdiv n 9223372036854775808))):Nat):Int)))] λl0=>
Ah 0 [l0.v]
theorem zow (n:Int):FnS (z026 n) F.a229 #[.int .i64 n]:=dV ⟨[],[],[],[]⟩ Go.Proofs.Tryz.func317 (by kernel_rfl)
def z07j (n:Int):Prog :=
Aj (Instr.buildSlice T.a50 4 #[(0,.int .u8 (IntKind.wrap .u8 n)),(1,.int .u8 (IntKind.wrap .u8 (Int.fdiv n 256))),(2,.int .u8 (IntKind.wrap .u8 (Int.fdiv n 65536))),(3,.int .u8 (IntKind.wrap .u8 (Int.fdiv n 16777216)))]) λl0=>
Ah 0 [l0.v]
theorem zu0 (n:Int):FnS (z07j n) F.a54 #[.int .u32 n]:=dV ⟨[],[],[],[]⟩ Go.Proofs.Tryz.func319 (by kernel_rfl)
def z00v (a:ByteArray) (b:ByteArray):Prog :=
Ag (if ((ByteArray.size b:Nat):Int)<((ByteArray.size a:Nat):Int) then ((ByteArray.size b:Nat):Int) else ((ByteArray.size a:Nat):Int)) λn0=>
Ax 1 (
AV 2 (0,()) λn1=>
Ac (decide (n1<n0)) (
Ag n1 λn2=>
AT<|
.must (0<=n2/\n2<((ByteArray.size a:Nat):Int)) <|
.must (0<=n2/\n2<((ByteArray.size b:Nat):Int)) <|
AU<|
Ac (bt a n2 != bt b n2) (
Ag n2 λn3=>
Ah 0 [Ai n3])<|
Ah 2 [Ai (Af (n1+1))])<|
Ah 1 [])<|
Ag n0 λn4=>
Ah 0 [Ai n4]
theorem znl (a b:ByteArray):FnS (z00v a b) F.a132 #[.string a,.string b]:=dV ⟨[],[(0,[])],[],[(0,[(13,.one (.int .i64))])]⟩ Go.Proofs.Tryz.func320 (by kernel_rfl)
def z07f (sum:Int) (parts:Sl):Prog :=
Bv (IntKind.wrap .u32 (((BitVec.toNat (BitVec.ofInt 32 4294967295 ^^^ BitVec.ofInt 32 sum):Nat):Int))) λn0=>
B2 1 (
B3 2 (n0,(0,())) λn1 n2=>
Ac (decide (n2<(Ad parts))) (
B2 3 (
.ex [.adr] (c1 λa3=>0<=n2/\n2<(Ad parts)/\parts.a=some a3) (u1 λa4=>
Ae T.a50 a4 (Int.toNat n2*1) λl5=>
B2 4 (
B3 5 (n1,(0,())) λn6 n7=>
Ac (decide (n7<(Ad l5))) (
B2 6 (
.ex [.adr] (c1 λa8=>0<=n7/\n7<(Ad l5)/\l5.a=some a8) (u1 λa9=>
Bc T.a56 a9 (Int.toNat n7*1) λn10=>
Bd n10 λn11=>
Bv (IntKind.wrap .u32 (((BitVec.toNat (BitVec.ofInt 32 n6 ^^^ BitVec.ofInt 32 (IntKind.wrap .u32 n11)):Nat):Int))) λn12=>
B2 7 (
B3 8 (n12,(0,())) λn13 n14=>
Ac (decide (n14<8)) (
Bv (IntKind.wrap .u32 (((BitVec.toNat (BitVec.ofInt 32 (Int.fdiv n13 2) ^^^ BitVec.ofInt 32 (IntKind.wrap .u32 (((BitVec.toNat (BitVec.ofInt 32 3988292384 &&& BitVec.ofInt 32 (IntKind.wrap .u32 (0-IntKind.wrap .u32 (((BitVec.toNat (BitVec.ofInt 32 n13 &&& BitVec.ofInt 32 1):Nat):Int))))):Nat):Int)))):Nat):Int))) λn15=>
Ah 8 [.int .u32 n15,Ai (Af (n14+1))])<|
Ah 7 [.int .u32 n13]) λn16=>
Ah 6 [.int .u32 n16])) λn17=>
Ah 5 [.int .u32 n17,Ai (Af (n7+1))])<|
Ah 4 [.int .u32 n6]) λn18=>
Ah 3 [.int .u32 n18])) λn19=>
Ah 2 [.int .u32 n19,Ai (Af (n2+1))])<|
Ah 1 [.int .u32 n1]) λn20=>
Bv (IntKind.wrap .u32 (((BitVec.toNat (BitVec.ofInt 32 4294967295 ^^^ BitVec.ofInt 32 n20):Nat):Int))) λn21=>
Ah 0 [.int .u32 n21]
theorem ztw (sum:Int) (parts:Sl):FnS (z07f sum parts) F.a50 #[.int .u32 sum,.slice parts.a parts.len parts.cap]:=dV ⟨[],[(0,[(5,.one (.int .u32))]),(1,[(5,.one (.int .u32))]),(2,[(5,.one (.int .u32))]),(3,[(5,.one (.int .u32))]),(4,[(5,.one (.int .u32))])],[],[(0,[(5,.one (.int .u32)),(14,.one (.int .i64))]),(2,[(5,.one (.int .u32)),(20,.one (.int .i64))]),(4,[(5,.one (.int .u32)),(28,.one (.int .i64))])]⟩ Go.Proofs.Tryz.func327 (by kernel_rfl)
def z07q (offset place:Int) (time:Int):Prog :=
AM (decide (offset>=0) && decide (offset<=1099511627776) && decide (place>=0) && decide (place<=4194304) && decide (time>=0) && decide (time<=1099511627776)) λb0=>
Ah 0 [.bool b0]
theorem zu7 (offset place time:Int):FnS (z07q offset place time) F.a61 #[.int .i64 offset,.int .i64 place,.int .i64 time]:=dV ⟨[],[],[],[]⟩ Go.Proofs.Tryz.func328 (by kernel_rfl)
def z0c (x:Sl):List Value:=[.slice x.a x.len x.cap]
instance:Enc1 z0c .slc (λx=>x):=⟨λ_=>rfl⟩
instance:EncN z0c 1:=⟨λ_=>rfl,by decide,by simp [z0c,Value.oneCell']⟩
section
variable {w:World} {l r:List HP} {sz:Nat} {x:Sl}
theorem zch {α:Type} {enc:α->List Value} [hE:EncN enc sz]:∀ (xs:List α) (n:Nat),(xs.flatMap enc).drop (n*sz)=(xs.drop n).flatMap enc
 | [],n=>by simp
 | x::xs,0=>by simp
 | x::xs,n+1=>by
  rw [List.flatMap_cons,Nat.succ_mul,Nat.add_comm,<- List.drop_drop,List.drop_left' (hE.len x),zch xs n,List.drop_succ_cons]
theorem FocR.post {α:Type} {enc:α->List Value} [hE:EncN enc sz] {xs:List α} [hf:FocR l x sz (xs.flatMap enc)] {n m c:Nat} (hm:x.len<=m):FocR l ⟨z10 x.a sz n m,x.len-n,c⟩ sz ((xs.drop n).flatMap enc):=⟨λw hs=>by
 obtain ⟨hlen,h0⟩:=hf.rd w hs
 have hl:x.len=xs.length:=(hf.rd w hs).len hE.len hE.pos
 refine ⟨by rw [z3o,List.length_drop,hl],?_⟩
 by_cases hn:x.len-n=0
 ·exact .inl hn
 ·right
  rcases h0 with h0|⟨b,off,arr,T,fr,ha,hb,hc⟩
  ·omega
  ·refine ⟨b,off+n*sz,arr,T,fr,?_,hb,λi hi=>?_⟩
   ·show z10 x.a sz n m=_
    unfold z10
    rw [if_neg (by omega),ha,Option.map_some,z45]
   ·rw [<- zch,List.length_drop] at hi
    rw [Nat.add_assoc,hc (n*sz+i) (by omega),<- zch,List.getElem?_drop]⟩
end
section
variable {w:World} {l r:List HP} {Q:Post} {S:World->Prop}
theorem zr4 {P:Program} {t el:TypeId} {sz bytes:Nat} {c:Int} {k:Sl->Prog} [ht:SlT P t el sz bytes] (n:Nat) (hs:Sat w l) (h:∀ x w',Sat w' (slc el sz x []::l)->(k x).wp P S w' Q) (hc:c=n:=by first|rfl|omega) (hb:n*bytes<=281474976710656/\n<=9223372036854775807:=by omega) (hS:∀ w',S w':=by exact λ_=>trivial) :
  (Prog.act (Instr.makeSlice t (.int .i64 0) (.int .i64 c)) sL (u1 k)).wp P S w Q:=by
 subst hc
 obtain ⟨i,z,hi,h2,h3,h4,h5⟩:=ht.parts
 have hrun:=run_make (P:=P) w t el i z ht.ok.1 hi h4 .i64 .i64 0 n (Int.le_refl _) (by omega) (by rw [h3,<- Int.natCast_mul,Nat.mul_comm];omega) (by omega)
 simp only [Int.toNat_zero,Int.toNat_natCast] at hrun
 have hp:=hs.push (o:=.cells (madeCells z.cells (n*i.size)) el) (w':=w.alloc (.cells (madeCells z.cells (n*i.size)) el)) rfl
 refine ⟨(⟨some ⟨w.heap.size,0,none⟩,0,n⟩,()),_,hrun,hS _,h ⟨some ⟨w.heap.size,0,none⟩,0,n⟩ _ ?_⟩
 refine hp.imp λp hp=>.inr ⟨w.heap.size,0,_,_,rfl,hp,by simp,Nat.zero_le _,?_,λi hi=>by simp at hi,z2q _ _⟩
 rw [size_madeCells,h2];simp
theorem zr2 {P:Program} {T:TypeId} {sz:Nat} {α:Type} {enc:α->List Value} {xs:List α} {i i':Int} {x:Sl} {g g':Prop} {p:Pr} {f:p.D->Prog} (hs:Sat w l) [hf:FocR l x sz (xs.flatMap enc)] [hE:EncN enc sz] [hT:One P T]
  (y:p.D) (hg:g->∃ n,∃ hn:n<xs.length,i=(n:Int)/\enc xs[n]=[p.mk y]) (h:(f y).wp P S w Q) (hgg:g'->g:=by exact id) (hi':i'=i:=by rfl) :
  (Prog.ex [.adr] (c1 λa=>g->0<=i/\i<((x.len:Nat):Int)/\x.a=some a) (u1 λa=>.read g' (ld T (Addr.add a (Int.toNat i'*sz))) (.one (.one p)) (u1 f))).wp P S w Q:=by
 subst hi'
 have hr:=hf.rd w hs
 have hl:x.len=xs.length:=hr.len hE.len hE.pos
 by_cases hgc:g
 ·obtain ⟨n,hn,hin,hen⟩:=hg hgc
  subst hin
  obtain ⟨a,ha,he⟩:=hr.el hE.len (by omega)
  refine ⟨(a,()),λ_=>⟨by omega,by omega,ha⟩,(y,()),λ_=>?_,h⟩
  have:=he n hn
  rw [hen] at this
  have h2:=At.ld1 (P:=P) (T:=T) this rfl
  cases p <;> exact h2
 ·exact ⟨(⟨0,0,none⟩,()),λh=>absurd h hgc,(y,()),λh=>absurd (hgg h) hgc,h⟩
theorem zbz {P:Program} {T:TypeId} {sz:Nat} {α:Type} {enc:α->List Value} {xs:List α} {i i':Int} {j:Nat} {x:Sl} {g g':Prop} {p:Pr} {dec:α->p.D} {f:p.D->Prog} (hs:Sat w l) [hf:FocR l x sz (xs.flatMap enc)] [hE:EncN enc sz] [hD:EncF enc j p dec] [hT:One P T]
  (y:p.D) (hg:g->∃ n,∃ hn:n<xs.length,i=(n:Int)/\dec xs[n]=y) (h:(f y).wp P S w Q) (hgg:g'->g:=by exact id) (hi':i'=i:=by rfl) :
  (Prog.ex [.adr] (c1 λa=>g->0<=i/\i<((x.len:Nat):Int)/\x.a=some a) (u1 λa=>.read g' (ld T (Addr.add (Addr.add a (Int.toNat i'*sz)) j)) (.one (.one p)) (u1 f))).wp P S w Q:=by
 subst hi'
 by_cases hgc:g
 ·obtain ⟨n,hn,hin,hen⟩:=hg hgc
  subst hin hen
  obtain ⟨a,ha,hl,hr⟩:=zdj (P:=P) (T:=T) (j:=j) (enc:=enc) (p:=p) (dec:=dec) (x:=x) hs hn
  exact ⟨(a,()),λ_=>⟨by omega,by omega,ha⟩,(dec xs[n],()),λ_=>by rw [Int.toNat_natCast];exact hr,h⟩
 ·exact ⟨(⟨0,0,none⟩,()),λh=>absurd h hgc,(y,()),λh=>absurd (hgg h) hgc,h⟩
theorem z04k {P:Program} {T:TypeId} {sz:Nat} {α:Type} {enc:α->List Value} {xs:List α} {ii:Int} {m j:Nat} {x:Sl} {g':Prop} {p:Pr} {dec:α->p.D} {f:p.D->Prog} (hs:Sat w l) [hf:FocR l x sz (xs.flatMap enc)] [hE:EncN enc sz] [hD:EncF enc j p dec] [hT:One P T]
  (n:Nat) (hn:n<xs.length) (h:(f (dec xs[n])).wp P S w Q) (hm:m=n*sz:=by rfl) (hi:ii=n:=by rfl) :
  (Prog.ex [.adr] (c1 λa=>(0:Int)<=ii/\ii<((x.len:Nat):Int)/\x.a=some a) (u1 λa=>.read g' (ld T (Addr.add (Addr.add a m) j)) (.one (.one p)) (u1 f))).wp P S w Q:=by
 subst hm hi
 obtain ⟨a,ha,hl,hr⟩:=zdj (P:=P) (T:=T) (j:=j) (enc:=enc) (p:=p) (dec:=dec) (x:=x) hs hn
 exact ⟨(a,()),⟨by omega,by omega,ha⟩,(dec xs[n],()),λ_=>hr,h⟩
end
instance:ByE P T.a50 T.a56:=⟨by kernel_rfl,by kernel_rfl,by kernel_rfl⟩
instance:StT P T.a55:=⟨by kernel_rfl⟩
theorem z7o (m:Nat) {k:Int} (hk:0<=k):Int.fdiv (m:Int) k=((m / k.toNat:Nat):Int):=by
 obtain ⟨k,rfl⟩:=Int.eq_ofNat_of_zero_le hk
 rw [Int.fdiv_eq_ediv_of_nonneg _ hk];rfl
theorem zm2 (m:Nat) {k:Int} (hk:0<=k):Int.tdiv (m:Int) k=((m / k.toNat:Nat):Int):=by
 obtain ⟨k,rfl⟩:=Int.eq_ofNat_of_zero_le hk
 rfl
theorem zm4 (m:Nat) {k:Int} (hk:0<=k):Int.tmod (m:Int) k=((m % k.toNat:Nat):Int):=by
 obtain ⟨k,rfl⟩:=Int.eq_ofNat_of_zero_le hk
 rfl
theorem zc2 (m:Nat):IntKind.wrap .u8 (m:Int)=((m % 256:Nat):Int):=by simp [IntKind.wrap,IntKind.bits,IntKind.signed]
theorem zjy (m:Nat):IntKind.wrap .u32 (m:Int)=((m % 4294967296:Nat):Int):=by simp [IntKind.wrap,IntKind.bits,IntKind.signed]
theorem zgs (m:Nat):IntKind.wrap .u64 (m:Int)=((m % 18446744073709551616:Nat):Int):=by simp [IntKind.wrap,IntKind.bits,IntKind.signed]
theorem z08d (m:Nat):(BitVec.toNat (BitVec.ofInt 8 (IntKind.wrap .u8 (m:Int)) ||| BitVec.ofInt 8 128))=m % 128+128:=by
 rw [zc2,BitVec.ofInt_natCast]
 have h:∀ k:Fin 256,(BitVec.ofNat 8 k.val ||| BitVec.ofInt 8 128).toNat=k.val % 128+128:=by decide +kernel
 have:=h ⟨m % 256,by omega⟩
 rw [this]
 show m % 256 % 128+128=_
 omega
theorem z04t (m:Nat) (hm:m<256):(BitVec.toNat (BitVec.ofInt 8 (m:Int) &&& BitVec.ofInt 8 127))=m % 128:=by
 rw [BitVec.ofInt_natCast]
 have h:∀ k:Fin 256,(BitVec.ofNat 8 k.val &&& BitVec.ofInt 8 127).toNat=k.val % 128:=by decide +kernel
 exact h ⟨m,hm⟩
theorem z08n {n c i:Nat} (hn:n<128 ^ i) (hi:i<=9) (hc:c<256) (h9:i=9->c<=1) :
  IntKind.wrap .u64 (((BitVec.toNat (BitVec.ofInt 64 (n:Int) ||| BitVec.ofInt 64 (IntKind.wrap .u64 (IntKind.wrap .u64 (IntKind.wrap .u8 (((BitVec.toNat (BitVec.ofInt 8 (c:Int) &&& BitVec.ofInt 8 127):Nat):Int)))*2 ^ min (Int.toNat (IntKind.wrap .i64 (7*(i:Int)))) 64))):Nat):Int))=((n+128 ^ i*(c % 128):Nat):Int):=by
 have e1:min (Int.toNat (IntKind.wrap .i64 (7*(i:Int)))) 64=7*i:=by rw [w64 (by omega) (by omega)];omega
 have e2:(2:Nat) ^ (7*i)=128 ^ i:=by rw [Nat.pow_mul]
 have hle:128 ^ i*(c % 128)+128 ^ i<=18446744073709551616:=by
  have hcase:i=0\/i=1\/i=2\/i=3\/i=4\/i=5\/i=6\/i=7\/i=8\/i=9:=by omega
  rcases hcase with rfl|rfl|rfl|rfl|rfl|rfl|rfl|rfl|rfl|rfl <;> simp <;> omega
 rw [z04t c hc,e1,zc2,zgs (c % 128 % 256),show c % 128 % 256 % 18446744073709551616=c % 128 by omega]
 have e3:((c % 128:Nat):Int)*2 ^ (7*i)=((128 ^ i*(c % 128):Nat):Int):=by
  rw [<- e2,Nat.mul_comm (2 ^ (7*i)),Int.natCast_mul];simp
 rw [e3,zgs (128 ^ i*(c % 128)),BitVec.ofInt_natCast,BitVec.ofInt_natCast,BitVec.toNat_or,BitVec.toNat_ofNat,BitVec.toNat_ofNat,Nat.mod_eq_of_lt (show n<2 ^ 64 by omega),Nat.mod_mod,Nat.mod_eq_of_lt (show 128 ^ i*(c % 128)<2 ^ 64 by omega)]
 have h5:=Nat.two_pow_add_eq_or_of_lt (i:=7*i) (b:=n) (by rw [e2];exact hn) (c % 128)
 rw [e2] at h5
 rw [Nat.or_comm,<- h5,zgs,Nat.mod_eq_of_lt (by omega),Nat.add_comm]
section
variable {w:World} {l r:List HP} {Q:Post} {S:World->Prop}
theorem zr8 (n:Nat) (hn:n<18446744073709551616) (hs:Sat w l):Ret P F.a242 #[.int .u64 (n:Int)] w λvs w'=>∃ z:Sl,vs=[z.v]/\Sat w' (slc T.a56 1 z ((z2v n).flatMap zi)::l) :=
 zp9 n <| by
  delta z02j Ac Ah Aj Am
  refine zk (λu w'=>∃ (m:Nat) (z:Sl) (acc:List UInt8),u=((m:Int),z,())/\m<128/\acc.length<=9/\z2v n=acc++[UInt8.ofNat m]/\Sat w' (slc T.a56 1 z (acc.flatMap zi)::l)) ?_ ?_
  ·refine z0a (λk u w=>∃ (z:Sl) (acc:List UInt8),u=((k:Int),z,())/\k<18446744073709551616/\z2v n=acc++z2v k/\Sat w (slc T.a56 1 z (acc.flatMap zi)::l)) n ⟨⟨none,0,0⟩,[],rfl,hn,rfl,hs.slc_nil⟩ ?_
   clear hs
   rintro k _ w ⟨z,acc,rfl,hk,he,hs⟩
   refine zj ?_
   have hal:acc.length<=9:=by
    have h1:=congrArg List.length he
    rw [List.length_append] at h1
    have h2:=za9 n
    have h3:=za9 k
    omega
   refine zg (λh=>?_) λh=>?_
   ·rw [zm6 hk,if_neg (by omega)] at he
    refine z5g hs (xs:=acc) (enc:=zi) (UInt8.ofNat (k % 128+128)) (λz w' hs=>?_) ?_
    ·refine z1z (y:=((k / 128:Nat):Int)) ?_ (z7o k (by decide))
     refine z0w (k / 128) ?_
     exact ⟨z,acc++[UInt8.ofNat (k % 128+128)],rfl,by omega,by rw [he];simp,hs⟩
    ·unfold zi
     rw [z08d,zc2]
     simp
   ·rw [zm6 hk,if_pos (by omega)] at he
    exact zo (zf ⟨k,z,acc,rfl,by omega,hal,he,hs⟩)
  clear hs
  rintro _ w ⟨m,z,acc,rfl,hm,hal,he,hs⟩
  refine zj ?_
  refine z5g hs (xs:=acc) (enc:=zi) (UInt8.ofNat m) (λz w' hs=>?_) ?_
  ·refine ⟨rfl,z,rfl,?_⟩
   rw [he];exact hs
  ·unfold zi
   rw [zc2]
   simp
theorem zr0 (x:Sl) (ps:List (Sl × List UInt8)) [hx:FocR l x 1 ((ps.map Prod.fst).flatMap z0c)] (hps:∀ p ∈ ps,FocR l p.1 1 (p.2.flatMap zi)) (hpl:ps.length<=1000000) (hn:(ps.flatMap Prod.snd).length<=1000000000) (hs:Sat w l) :
  Ret P F.a230 #[x.v] w λvs w'=>∃ z:Sl,vs=[z.v]/\Sat w' (slc T.a56 1 z ((ps.flatMap Prod.snd).flatMap zi)::l) :=
 zox x <| by
  delta z027 Aa Ab Ac Ad Ae Af Ag Ah Ai Aj Ak Al
  have hl:=hs.slen x (xs:=ps.map Prod.fst) (enc:=z0c)
  rw [List.length_map] at hl
  have hstep:∀ i (hi:i<ps.length),(ps.take (i+1)).flatMap Prod.snd=(ps.take i).flatMap Prod.snd++ps[i].2:=λi hi=>by
   rw [List.take_add_one,List.getElem?_eq_getElem hi,Option.toList_some,List.flatMap_append,List.flatMap_singleton]
  have hmany:∀ i,((ps.take i).flatMap Prod.snd).length<=1000000000:=λi=>by
   have:ps.flatMap Prod.snd=(ps.take i).flatMap Prod.snd++(ps.drop i).flatMap Prod.snd:=by rw [<- List.flatMap_append,List.take_append_drop]
   rw [this,List.length_append] at hn
   omega
  refine zk (λu w'=>u=((((ps.flatMap Prod.snd).length:Nat):Int),())/\Sat w' l) ?_ ?_
  ·refine z0a (λk u w=>∃ i:Nat,u=(((((ps.take i).flatMap Prod.snd).length:Nat):Int),(i:Int),())/\i<=ps.length/\ps.length-i=k/\Sat w l) ps.length ⟨0,rfl,by omega,rfl,hs⟩ ?_
   clear hs
   rintro k _ w ⟨i,rfl,hi,hk,hs⟩
   refine zj ?_
   refine zg (λhc=>?_) λhc=>?_
   rotate_left
   ·refine zo (zf ⟨?_,hs⟩)
    rw [List.take_of_length_le (by omega)]
   have hil:i<ps.length:=by omega
   refine z1w hs (xs:=ps.map Prod.fst) (enc:=z0c) i (by rw [List.length_map];exact hil) ?_
   rw [List.getElem_map]
   have hF:=hps _ (List.getElem_mem hil)
   have hpi:=hs.slen ps[i].1 (xs:=ps[i].2) (enc:=zi)
   have h1:=hmany (i+1)
   have h2:=congrArg List.length (hstep i hil)
   rw [List.length_append] at h2
   have e:IntKind.wrap .i64 (((((ps.take i).flatMap Prod.snd).length:Nat):Int)+((ps[i].1.len:Nat):Int))=((((ps.take (i+1)).flatMap Prod.snd).length:Nat):Int):=by rw [w64 (by omega) (by omega)];omega
   refine z88 e ?_
   refine z28 (us':=[.int .i64 ((((ps.take (i+1)).flatMap Prod.snd).length:Nat):Int),.int .i64 ((i+1:Nat):Int)]) (by (try simp (disch:=omega) only [w64]);first|rfl|(congr;omega)) ?_
   refine z0w (ps.length-(i+1)) ?_
   exact ⟨i+1,rfl,by omega,rfl,hs⟩
  clear hs
  rintro _ w ⟨rfl,hs⟩
  refine zj ?_
  refine zr4 (ps.flatMap Prod.snd).length hs λz w' hs=>?_
  refine zk (λu w'=>∃ z:Sl,u=(z,())/\Sat w' (slc T.a56 1 z ((ps.flatMap Prod.snd).flatMap zi)::l)) ?_ (by rintro _ w' ⟨z,rfl,hs⟩;refine zj ?_;exact ⟨rfl,z,rfl,hs⟩)
  refine z0a (λk u w=>∃ (i:Nat) (z:Sl),u=(z,(i:Int),())/\i<=ps.length/\ps.length-i=k/\Sat w (slc T.a56 1 z (((ps.take i).flatMap Prod.snd).flatMap zi)::l)) ps.length ⟨0,z,rfl,by omega,rfl,hs⟩ ?_
  clear hs
  rintro k _ w ⟨i,z,rfl,hi,hk,hs⟩
  refine zj ?_
  refine zg (λhc=>?_) λhc=>?_
  rotate_left
  ·refine zo (zf ⟨z,rfl,?_⟩)
   rw [List.take_of_length_le (by omega)] at hs
   exact hs
  have hil:i<ps.length:=by omega
  refine z1w hs (xs:=ps.map Prod.fst) (enc:=z0c) i (by rw [List.length_map];exact hil) ?_
  rw [List.getElem_map]
  have hF:=hps _ (List.getElem_mem hil)
  have h1:=hmany (i+1)
  rw [hstep i hil,List.length_append] at h1
  refine wp_app' (xs:=(ps.take i).flatMap Prod.snd) (ys:=ps[i].2) (enc:=zi) hs (λz w' hs=>?_)
  rw [<- hstep i hil] at hs
  refine z28 (us':=[z.v,.int .i64 ((i+1:Nat):Int)]) (by (try simp (disch:=omega) only [w64]);first|rfl|(congr;omega)) ?_
  refine z0w (ps.length-(i+1)) ?_
  exact ⟨i+1,z,rfl,by omega,rfl,hs⟩
theorem zk9 (x:Sl) (bs:List UInt8) [hx:FocR l x 1 (bs.flatMap zi)] (hn:bs.length<=1000000000) (hs:Sat w l) :
  Ret P F.a0 #[x.v] w λvs w'=>∃ z:Sl,vs=[z.v]/\Sat w' (slc T.a56 1 z (bs.flatMap zi)::l) :=
 zji x <| by
  delta zf0 Ac Ah Aj
  have hl:=hs.slen x (xs:=bs) (enc:=zi)
  refine zg (λh=>?_) λh=>?_
  ·have h:x.a=none:=by simpa using h
   have:bs=[]:=by
    obtain ⟨h1,h2|⟨b,off,arr,T',fr,ha,-⟩⟩:=hx.rd w hs
    ·exact List.length_eq_zero_iff.1 (by omega)
    ·rw [h] at ha;cases ha
   subst this
   exact ⟨rfl,⟨none,0,0⟩,rfl,hs.slc_nil⟩
  ·refine z97 hs (enc:=zi) [] bs0 (λb w' hs=>?_)
   refine wp_app' (xs:=[]) (ys:=bs) (enc:=zi) hs (λz w' hs=>?_) (by simp;omega)
   exact ⟨rfl,z,rfl,hs⟩
structure RdM where
 bs:List UInt8
 at_:Nat
 e:Int
def RdM.fail (R:RdM) (e:Int):RdM:=⟨R.bs,R.at_,if R.e=0 then e else R.e⟩
def RdM.uint (R:RdM):Nat × RdM:=if R.e≠0 then (0,R) else match z3j 0 (R.bs.drop R.at_) with
 | some p=>(p.1,⟨R.bs,R.at_+p.2,R.e⟩)
 | none=>(0,⟨R.bs,R.at_,6⟩)
def RdM.done (R:RdM):RdM:=if R.at_<R.bs.length then R.fail 6 else R
def rdP (T':TypeId) (p:Nat) (R:RdM):HP:=HP.ex λx:Sl=>HP.and (R.at_<=R.bs.length/\R.bs.length<=1000000000) (HP.star (pt p (.cells #[.slice x.a x.len x.cap,.int .i64 R.at_,.int .i64 R.e] T')) (slc T.a56 1 x (R.bs.flatMap zi)))
theorem z21 {T':TypeId} {p:Nat} {R:RdM} (hs:Sat w (rdP T' p R::l)):∃ x:Sl,(R.at_<=R.bs.length/\R.bs.length<=1000000000)/\Sat w (pt p (.cells #[.slice x.a x.len x.cap,.int .i64 R.at_,.int .i64 R.e] T')::slc T.a56 1 x (R.bs.flatMap zi)::l):=by
 obtain ⟨x,hs⟩:=hs.ex
 obtain ⟨h,hs⟩:=hs.and
 exact ⟨x,h,hs.star⟩
theorem z12 {T':TypeId} {p:Nat} (R:RdM) {x:Sl} (h:R.at_<=R.bs.length/\R.bs.length<=1000000000) (hs:Sat w (pt p (.cells #[.slice x.a x.len x.cap,.int .i64 R.at_,.int .i64 R.e] T')::slc T.a56 1 x (R.bs.flatMap zi)::l)):Sat w (rdP T' p R::l) :=
 .ex_mk x (.and_mk h (.star_mk hs))
theorem zqz (R:RdM):(R.uint.2).bs=R.bs:=by
 unfold RdM.uint
 split
 ·rfl
 ·split <;> rfl
variable {p:Nat} {R:RdM}
theorem zmj (x:Sl) (bs:List UInt8) [hx:FocR l x 1 (bs.flatMap zi)] (hn:bs.length<=1000000000) (hs:Sat w l) :
  Ret P F.a231 #[x.v] w λvs w'=>∃ p:Nat,vs=[.pointer (some ⟨p,0,none⟩)]/\Sat w' (rdP T.a58 p ⟨bs,0,0⟩::l) :=
 zoy x <| by
  delta z028 Ah Ai An Ao Ap
  refine z8 (zk9 x bs hn hs) λ_ _ hs=>?_
  obtain ⟨z,rfl,hs⟩:=hs
  refine zb ?_
  refine zp hs λp w' hs=>?_
  exact ⟨rfl,p,rfl,z12 ⟨bs,0,0⟩ ⟨Nat.zero_le _,hn⟩ hs⟩
theorem zcv [hf:Fo l (rdP T.a58) p R r] (hs:Sat w l):Ret P F.a244 #[.pointer (some ⟨p,0,none⟩)] w λvs w'=>vs=[.int .i64 ((R.bs.length-R.at_:Nat):Int)]/\Sat w' (rdP T.a58 p R::r) :=
 zpb _ <| by
  delta z02l AT AU Ad Ae Af Ag Ah Ai As Az
  obtain ⟨x,hb,hs⟩:=z21 (hs.perm hf.perm)
  have hl:=hs.slen x (xs:=R.bs) (enc:=zi)
  refine zy hs λw' hs=>?_
  refine zh ?_
  refine za hs ?_
  refine zh ?_
  refine za hs ?_
  refine z1z (y:=((R.bs.length-R.at_:Nat):Int)) ?_ (by rw [w64 (by omega) (by omega)];omega)
  refine zd ?_
  exact ⟨rfl,rfl,z12 R hb hs⟩
theorem z77 (e:Int) [hf:Fo l (rdP T.a58) p R r] (hs:Sat w l):Ret P F.a243 #[.pointer (some ⟨p,0,none⟩),.int .i64 e] w λvs w'=>vs=[]/\Sat w' (rdP T.a58 p (R.fail e)::r) :=
 zpa _ e <| by
  delta z02k Ac Ah Ai As Ax Az Be
  obtain ⟨x,hb,hs⟩:=z21 (hs.perm hf.perm)
  refine zh ?_
  refine za hs ?_
  refine zk (λ_ w'=>Sat w' (rdP T.a58 p (R.fail e)::r)) ?_ (by rintro _ w' hs;refine zj ?_;exact ⟨rfl,rfl,hs⟩)
  refine zg (λh=>?_) λh=>?_
  ·refine zh ?_
   refine z03 hs λw' hs=>?_
   refine zf ?_
   have e1:R.fail e=⟨R.bs,R.at_,e⟩:=by unfold RdM.fail;rw [if_pos h]
   rw [e1]
   exact z12 ⟨R.bs,R.at_,e⟩ hb hs
  ·have e1:R.fail e=R:=by unfold RdM.fail;rw [if_neg h]
   rw [e1]
   exact zf (z12 R hb hs)
theorem zqi [hf:Fo l (rdP T.a58) p R r] (he:R.e=0) (hs:Sat w l):Ret P F.a246 #[.pointer (some ⟨p,0,none⟩)] w λvs w'=>vs=[.int .u64 ((R.uint.1:Nat):Int)]/\Sat w' (rdP T.a58 p R.uint.2::r) :=
 zpd _ <| by
  delta z02n AT AU Ac Ad Ae Af Ag Ah Ai Am Aq As Aw Ax Ay Az Bc Bd Be
  have hs:=hs.perm hf.perm
  refine zk (λ_ w'=>z3j 0 (R.bs.drop R.at_)=none/\Sat w' (rdP T.a58 p R::r)) ?_ ?_
  rotate_left
  ·rintro _ w' ⟨hno,hs⟩
   refine zj ?_
   refine z8 (z77 (p:=p) 6 hs) λ_ _ hs=>?_
   obtain ⟨rfl,hs⟩:=hs
   refine zb ?_
   have e1:R.uint=(0,R.fail 6):=by unfold RdM.uint RdM.fail;rw [if_neg (by rw [he];simp),hno,if_pos he]
   rw [e1]
   exact ⟨rfl,rfl,hs⟩
  refine z0a (λk u w=>∃ i n:Nat,u=((n:Int),(i:Int),())/\i<=10/\10-i=k/\n<128 ^ i/\z3j 0 (R.bs.drop R.at_)=(z3j i ((R.bs.drop R.at_).drop i)).map (λq=>(n+128 ^ i*q.1,i+q.2))/\Sat w (rdP T.a58 p R::r)) 10
   ⟨0,0,rfl,by omega,rfl,by simp,by simp,hs⟩ ?_
  clear hs
  rintro k _ w ⟨i,n,rfl,hi,hk,hn,hnum,hs⟩
  refine zj ?_
  refine zg (λhc=>?_) λhc=>?_
  rotate_left
  ·refine zo (zf ⟨?_,hs⟩)
   rw [hnum]
   have:z3j i ((R.bs.drop R.at_).drop i)=none:=by
    cases (R.bs.drop R.at_).drop i with
    | nil=>rfl
    | cons c q=>rw [z8e,if_pos (by omega)]
   rw [this];rfl
  refine z8 (zcv (p:=p) hs) λ_ _ hs=>?_
  obtain ⟨rfl,hs⟩:=hs
  refine zb ?_
  refine zg (λhc2=>?_) λhc2=>?_
  ·refine zo (zf ⟨?_,hs⟩)
   rw [hnum,List.drop_drop,List.drop_eq_nil_of_le (by omega)];rfl
  obtain ⟨x,hb,hs⟩:=z21 hs
  have hl:=hs.slen x (xs:=R.bs) (enc:=zi)
  have hlt:R.at_+i<R.bs.length:=by omega
  refine zy hs λw' hs=>?_
  refine zh ?_
  refine za hs ?_
  refine zh ?_
  refine za hs ?_
  refine z1w hs (xs:=R.bs) (enc:=zi) (R.at_+i) hlt ?_ (by rw [w64 (by omega) (by omega)];omega)
  rw [List.drop_drop,List.drop_eq_getElem_cons hlt] at hnum
  generalize R.bs[R.at_+i]=c at hnum
  have hc256:=c.toNat_lt
  refine wp_lt ?_
  refine zd ?_
  have hz:∀ {X:Option (Nat × Nat)},z3j i (c::R.bs.drop (R.at_+i+1))=X->z3j 0 (R.bs.drop R.at_)=X.map (λq=>(n+128 ^ i*q.1,i+q.2)):=λ{X} h=>by rw [hnum,h]
  refine zg (λh9=>?_) λh9=>?_
  ·refine zo (zf ⟨?_,z12 R hb hs⟩)
   refine hz (X:=none) ?_
   rw [z8e]
   rw [if_pos (by right;omega)]
  refine wp_must (by rw [w64 (by omega) (by omega)];omega) ?_
  have h91:i=9->c.toNat<=1:=λe=>by
   apply Nat.le_of_not_lt
   intro h
   exact h9 ⟨by omega,by omega⟩
  rw [z08n hn (by omega) (by omega) h91]
  refine wp_lt ?_
  refine zg (λh128=>?_) λh128=>?_
  ·refine z1z (y:=((i+1:Nat):Int)) ?_ (by rw [w64 (by omega) (by omega)];omega)
   refine z0w (10-(i+1)) ?_
   have hpos:0<128 ^ i:=Nat.pow_pos (by decide)
   have hmul:128 ^ i*(c.toNat % 128)<=128 ^ i*127:=Nat.mul_le_mul_left _ (by omega)
   refine ⟨i+1,_,rfl,by omega,rfl,by rw [Nat.pow_succ];omega,?_,z12 R hb hs⟩
   rw [hnum]
   rw [z8e]
   rw [if_neg (by omega),if_pos (by omega),List.drop_drop,<- Nat.add_assoc]
   cases z3j (i+1) (R.bs.drop (R.at_+i+1)) with
   | none=>rfl
   | some q =>
    simp only [Option.map_some,Option.some.injEq,Prod.mk.injEq]
    refine ⟨?_,by omega⟩
    rw [Nat.pow_succ,Nat.mul_add,Nat.mul_assoc,Nat.add_assoc]
  refine zg (λh0=>?_) λh0=>?_
  ·refine zo (zf ⟨?_,z12 R hb hs⟩)
   refine hz (X:=none) ?_
   rw [z8e]
   rw [if_neg (by omega),if_neg (by omega),if_pos (by omega)]
  have hsome:=hz (X:=some (c.toNat,1)) (by rw [z8e,if_neg (by omega),if_neg (by omega),if_neg (by omega)])
  have e1:R.uint=(n+128 ^ i*c.toNat,⟨R.bs,R.at_+(i+1),R.e⟩):=by
   unfold RdM.uint
   rw [if_neg (by rw [he];simp),hsome];rfl
  rw [e1]
  refine zh ?_
  refine za hs ?_
  refine zh ?_
  have e2:IntKind.wrap .i64 ((R.at_:Int)+IntKind.wrap .i64 ((i:Int)+1))=((R.at_+(i+1):Nat):Int):=by rw [w64 (x:=(i:Int)+1) (by omega) (by omega),w64 (by omega) (by omega)];omega
  rw [e2]
  refine z03 hs λw' hs=>?_
  refine wp_lt ?_
  refine zo (zo ⟨rfl,?_,z12 ⟨R.bs,R.at_+(i+1),R.e⟩ ⟨by show R.at_+(i+1)<=R.bs.length;omega,hb.2⟩ hs⟩)
  rw [show c.toNat % 128=c.toNat by omega]
theorem zcq [hf:Fo l (rdP T.a58) p R r] (hs:Sat w l):Ret P F.a240 #[.pointer (some ⟨p,0,none⟩)] w λvs w'=>vs=[.bool (decide (R.e=0))]/\Sat w' (rdP T.a58 p R::r) :=
 zp7 _ <| by
  delta z02h AM AZ Ah Bb
  obtain ⟨x,hb,hs⟩:=z21 (hs.perm hf.perm)
  refine z0k ?_
  refine za hs ?_
  refine wp_lt ?_
  refine ⟨rfl,?_,z12 R hb hs⟩
  by_cases h:R.e=0 <;> simp [h]
theorem zqo [hf:Fo l (rdP T.a58) p R r] (hs:Sat w l):Ret P F.a238 #[.pointer (some ⟨p,0,none⟩)] w λvs w'=>vs=[.int .u64 ((R.uint.1:Nat):Int)]/\Sat w' (rdP T.a58 p R.uint.2::r) :=
 zp5 _ <| by
  delta z02f Ac Ah Am Aq Ar As Au Av
  refine z8 (zcq (p:=p) hs) λ_ _ hs=>?_
  obtain ⟨rfl,hs⟩:=hs
  refine zb ?_
  refine zg (λh=>?_) λh=>?_
  ·have h:R.e≠0:=by simpa using h
   have e1:R.uint=(0,R):=by unfold RdM.uint;rw [if_pos h]
   rw [e1]
   exact ⟨rfl,rfl,hs⟩
  ·have h:R.e=0:=by simpa using h
   refine zh ?_
   refine z8 (zqi (p:=p) h hs) λ_ _ hs=>?_
   obtain ⟨rfl,hs⟩:=hs
   refine zb ?_
   refine wp_lt ?_
   exact ⟨rfl,rfl,hs⟩
theorem z05y [hf:Fo l (rdP T.a58) p R r] (hs:Sat w l):Ret P F.a234 #[.pointer (some ⟨p,0,none⟩)] w λvs w'=>vs=[.int .i64 R.e]/\Sat w' (rdP T.a58 p R::r) :=
 zp1 _ <| by
  delta z02b Ac Ag Ah Ai As Az
  obtain ⟨x,hb,hs⟩:=z21 (hs.perm hf.perm)
  refine zx ?_ (by simp)
  refine zh ?_
  refine za hs ?_
  refine wp_lt ?_
  exact ⟨rfl,rfl,z12 R hb hs⟩
theorem z05x [hf:Fo l (rdP T.a58) p R r] (hs:Sat w l):Ret P F.a233 #[.pointer (some ⟨p,0,none⟩)] w λvs w'=>vs=[.int .i64 R.done.e]/\Sat w' (rdP T.a58 p R.done::r) :=
 zp0 _ <| by
  delta z02a Ac Ag Ah Ai As Au Aw Ax Ay Az
  refine zx ?_ (by simp)
  refine zh ?_
  refine z8 (zcv (p:=p) hs) λ_ _ hs=>?_
  obtain ⟨rfl,hs⟩:=hs
  refine zb ?_
  refine zk (λ_ w'=>Sat w' (rdP T.a58 p R.done::r)) ?_ ?_
  ·unfold RdM.done
   refine zg (λh=>?_) λh=>?_
   ·rw [if_pos (by omega)]
    refine zh ?_
    refine z8 (z77 (p:=p) 6 hs) λ_ _ hs=>?_
    obtain ⟨rfl,hs⟩:=hs
    refine zb ?_
    exact zf hs
   ·rw [if_neg (by omega)]
    exact zf hs
  clear hs
  rintro _ w hs
  refine zj ?_
  obtain ⟨x,hb,hs⟩:=z21 hs
  refine zh ?_
  refine za hs ?_
  refine wp_lt ?_
  exact ⟨rfl,rfl,z12 R.done hb hs⟩
end
theorem z08g {n:Int} (h:0<=n/\n<9223372036854775808):IntKind.wrap .u64 n=((n.toNat:Nat):Int):=by
 obtain ⟨m,rfl⟩:=Int.eq_ofNat_of_zero_le h.1
 show IntKind.wrap .u64 ((m:Nat):Int)=_
 rw [zgs];omega
def uI (n:Int):List UInt8:=z2v n.toNat
theorem z1f (n:Int):0<(uI n).length/\(uI n).length<=10:=za9 _
section
variable {w:World} {l r:List HP} {Q:Post} {S:World->Prop}
theorem z3e (n:Int) (hn:0<=n/\n<9223372036854775808) (hs:Sat w l):Ret P F.a242 #[.int .u64 (IntKind.wrap .u64 n)] w λvs w'=>∃ z:Sl,vs=[z.v]/\Sat w' (slc T.a56 1 z ((uI n).flatMap zi)::l):=by
 rw [z08g hn]
 exact zr8 n.toNat (by omega) hs
theorem zm9 (x a b c:Sl) (aa bs cs:List UInt8) [hx:FocR l x 1 ([a,b,c].flatMap z0c)] [ha:FocR l a 1 (aa.flatMap zi)] [hb:FocR l b 1 (bs.flatMap zi)] [hc:FocR l c 1 (cs.flatMap zi)] (hn:aa.length+bs.length+cs.length<=1000000000) (hs:Sat w l) :
  Ret P F.a230 #[x.v] w λvs w'=>∃ z:Sl,vs=[z.v]/\Sat w' (slc T.a56 1 z ((aa++(bs++cs)).flatMap zi)::l):=by
 have:=@zr0 w l x [(a,aa),(b,bs),(c,cs)] hx (by
  intro p hp
  rcases List.mem_cons.1 hp with rfl|hp
  ·exact ha
  rcases List.mem_cons.1 hp with rfl|hp
  ·exact hb
  ·rw [List.mem_singleton.1 hp];exact hc) (by simp) (by simp;omega) hs
 simpa using this
theorem zz9 (x a b c d:Sl) (aa bs cs ds:List UInt8) [hx:FocR l x 1 ([a,b,c,d].flatMap z0c)] [ha:FocR l a 1 (aa.flatMap zi)] [hb:FocR l b 1 (bs.flatMap zi)] [hc:FocR l c 1 (cs.flatMap zi)] [hd:FocR l d 1 (ds.flatMap zi)]
  (hn:aa.length+bs.length+cs.length+ds.length<=1000000000) (hs:Sat w l) :
  Ret P F.a230 #[x.v] w λvs w'=>∃ z:Sl,vs=[z.v]/\Sat w' (slc T.a56 1 z ((aa++(bs++(cs++ds))).flatMap zi)::l):=by
 have:=@zr0 w l x [(a,aa),(b,bs),(c,cs),(d,ds)] hx (by
  intro p hp
  rcases List.mem_cons.1 hp with rfl|hp
  ·exact ha
  rcases List.mem_cons.1 hp with rfl|hp
  ·exact hb
  rcases List.mem_cons.1 hp with rfl|hp
  ·exact hc
  ·rw [List.mem_singleton.1 hp];exact hd) (by simp) (by simp;omega) hs
 simpa using this
theorem z7z {P:Program} {t:TypeId} {sz:Nat} {α:Type} {enc:α->List Value} {n:Nat} {ps:Array (Nat × Value)} {el:TypeId} {bytes:Nat} {k:Sl->Prog} (hs:Sat w l) [ht:SlT P t el sz bytes] [hE:EncN enc sz] (xs:List α)
  (h:∀ x w',Sat w' (slc el sz x (xs.flatMap enc)::l)->(k x).wp P S w' Q) (hc:z41 P t n ps=some (el,(xs.flatMap enc).toArray):=by kernel_rfl) (hn:xs.length=n:=by rfl) (hS:∀ w',S w':=by exact λ_=>trivial) :
  (Prog.act (Instr.buildSlice t n ps) sL (u1 k)).wp P S w Q:=z97 hs xs hc (λb w' hs=>h _ w' hs) (by simp) hn hS
end
def z4l (R:RdM):List UInt8:=R.bs.drop R.at_
theorem zsq {R:RdM} (hb:R.at_<=R.bs.length) :
  (R.e=0/\R.uint.1<18446744073709551616/\R.uint.2.e=0/\R.uint.2.at_<=R.uint.2.bs.length/\R.uint.2.bs=R.bs/\z4l R=z2v R.uint.1++z4l R.uint.2) \/
  (R.uint.1=0/\R.uint.2.e≠0/\R.uint.2.at_<=R.uint.2.bs.length/\(R.e=0->∀ m z,m<18446744073709551616->z4l R≠z2v m++z)):=by
 unfold RdM.uint z4l
 by_cases h0:R.e=0
 ·rw [if_neg (by rw [h0];simp)]
  cases hn:z3j 0 (R.bs.drop R.at_) with
  | none =>
   refine .inr ⟨rfl,(show (6:Int)≠0 by decide),hb,λ_ m z hm he=>?_⟩
   rw [he,zis hm] at hn
   cases hn
  | some p =>
   obtain ⟨v,k⟩:=p
   obtain ⟨h1,h2⟩:=zl7 hn
   have h3:=zl5 _ _ _ _ hn
   rw [List.length_drop] at h3
   refine .inl ⟨h0,h2,h0,by show R.at_+k<=R.bs.length;omega,rfl,?_⟩
   show R.bs.drop R.at_=z2v v++R.bs.drop (R.at_+k)
   rw [<- h1,<- List.drop_drop,List.take_append_drop]
 ·rw [if_pos h0]
  exact .inr ⟨rfl,h0,hb,λh=>absurd h h0⟩
theorem zll {R:RdM}:(z4l R).length=R.bs.length-R.at_:=by unfold z4l;rw [List.length_drop]
theorem z64 {w:World} {l:List HP} {T':TypeId} {p:Nat} {R:RdM} (hs:Sat w (rdP T' p R::l)):R.at_<=R.bs.length/\R.bs.length<=1000000000:=by
 obtain ⟨x,h,-⟩:=z21 hs
 exact h
theorem zrj {R:RdM} (hb:R.at_<=R.bs.length):R.done.e=0↔R.e=0/\z4l R=[]:=by
 have hl:=zll (R:=R)
 unfold RdM.done RdM.fail
 by_cases h:R.at_<R.bs.length
 ·rw [if_pos h]
  constructor
  ·intro h2
   by_cases h3:R.e=0
   ·simp [h3] at h2
   ·simp [h3] at h2
  ·rintro ⟨-,h2⟩
   rw [h2] at hl;simp at hl;omega
 ·rw [if_neg h]
  exact ⟨λh2=>⟨h2,List.length_eq_zero_iff.1 (by omega)⟩,λh2=>h2.1⟩
end Go.Dec
