/- What the claim of this folder leans on: our own texts, joined, without what it does not use. -/
import Derived.Test.YtgpcickgjngglaaGreatRows
import Derived.WalkKit
import Derived.ProofKit
import Derived.OpenShut
import Derived.RowKit3
import Derived.OrdersHeld
import Derived.Scope
import Derived.KernelRfl
import Derived.Laws.Sem
import Derived.Laws.StructEq
import Derived.Deep.AppendSrc
import Derived.Laws.BytesArg
import Derived.Laws.RangeString
import Derived.Maps.RangeRun
import Derived.Lib.ConvBytes
import Derived.Lib.SlBytesConst
import Derived.ChangeSlices
import Derived.ChangeMaps5
import Derived.ChangeSame
import Derived.Deep.Slices
import Derived.Deep.Fields
import Derived.Test.YtgpcickgjngglaaGreatProg
import Derived.WideKeyRuns
import Derived.DeepKeys3
import Derived.Laws.MakeOwn
import Derived.Sort.MapsRangeIn
import Derived.Sort.KeysCollected
import Derived.RangeFuncNested
import Derived.RangeFuncBound
import Derived.RangeFuncCalls
import Derived.RangeFuncLeaves
import Derived.RangeFuncBox
import Derived.OwnWalkIn
import Derived.TacticsInMore
import Derived.RegionIn
import Derived.LoopNIn
import Derived.LoopIn
import Derived.Maps.AppendAt
import Derived.Shelf.Abstract
import Derived.Shelf.Sort.Plain
import Derived.Shelf.Slices.In.SortNone
import Derived.Test.YtgpcickgjngglaaGreatQLNil1
import Derived.Test.YtgpcickgjngglaaGreatQLNil2
set_option linter.unusedVariables false
set_option linter.unusedSimpArgs false
namespace Go.Dec
theorem dS {f:FuncId} {fn:Func} {n:Nat} {rv:List RV} {p:Prog} {w:World} {R:List Value->World->Prop} (H:Hints) (args:List Base) (hf:P.funcs[f]? = some fn) (hb:fn.body.isSome=true) (hn:fn.ntmps=n) (hr:zac fn.results.toList=rv) (he:zhr P n ⟨zh9,[]⟩ H rv (zaj fn) args=p) (h:p.wp P (λ_=>True) w λe vs w'=>e=0/\R vs w'):Ret P f (args.map Base.v).toArray w R:=z96 (zh3 hf hb hn hr) zha mix args (by rw [he];exact h)
abbrev FnS (p:Prog) (f:FuncId) (vs:Array Value):Prop:=∀ {w:World} {R:List Value->World->Prop},p.wp P (λ_=>True) w (λe vs w'=>e=0/\R vs w')->Ret P f vs w R
theorem dV {f:FuncId} {fn:Func} {p:Prog} {vs:List Value} (H:Hints) (hf:P.funcs[f]? = some fn) (he:(fn.body.isSome,zhr P fn.ntmps ⟨zh9,[]⟩ H (zac fn.results.toList) (zaj fn) (vs.map Base.val))=(true,p)):FnS p f vs.toArray:=λh=>by
 have e:=dS H (vs.map Base.val) hf (congrArg Prod.fst he) rfl rfl (congrArg Prod.snd he) h
 rwa [List.map_map,show Base.v∘Base.val=id from rfl,List.map_id] at e
abbrev Aa (f:FuncId) (l:List Value) (k:ByteArray->Prog):Prog:=.call f l sS (u1 k)
abbrev Ab (x:ByteArray) (k:ByteArray->Prog):Prog:=.lt (.str) x k
abbrev Ac (n:Int):Value:=.int .i64 n
abbrev Ad (p:Option Addr):Value:=.pointer p
abbrev Ae (f:FuncId) (l:List Value) (k:Int->Int->Prog):Prog:=.call f l (.tup [.one (.int .i64),.one (.int .i64)]) (u2 k)
abbrev Af (x:Int) (k:Int->Prog):Prog:=.lt (.int .i64) x k
abbrev Ag (x:Bool) (k:Bool->Prog):Prog:=.lt (.bool) x k
abbrev Ah (e:Nat) (p:Prog) (k:Bool->Prog):Prog:=.bind e [.one .bool] p (u1 k)
abbrev Ai (b:Bool) (p q:Prog):Prog:=.ite b p q
abbrev Aj (f:FuncId) (l:List Value) (k:Int->Prog):Prog:=.call f l (sI .i64) (u1 k)
abbrev Ak (f:FuncId) (l:List Value) (k:Sl->Prog):Prog:=.call f l sL (u1 k)
abbrev Al (l:Sl):Int:=((l.len:Nat):Int)
abbrev Am (f:FuncId) (l:List Value) (k:Bool->Prog):Prog:=.call f l sB (u1 k)
abbrev An (e:Nat) (l:List Value):Prog:=.done e l
abbrev Ao (t:TypeId) (k:Addr->Prog):Prog:=.act (new t) sA (u1 k)
abbrev Ap (e:Nat) (p:Prog) (k:Int->Prog):Prog:=.bind e [.one (.int .i64)] p (u1 k)
abbrev Aq (n:Int):Int:=IntKind.wrap .i64 n
abbrev Ar (t:TypeId) (a:Addr) (v:Value) (k:Prog):Prog:=.actU (st t a v) k
abbrev As (t:TypeId) (a:Addr) (k:Int->Int->Int->Prog):Prog:=.read True (ld t a) (sG [.int .i64,.int .i64,.int .i64]) (u3 k)
abbrev Au (x0:Int) (x1:Int) (x2:Int):Value:=.agg #[.int .i64 x0,.int .i64 x1,.int .i64 x2]
abbrev Av (t:TypeId) (v:Value) (k:Addr->Prog):Prog:=.act (Instr.box t v) sA (u1 k)
abbrev Aw (f:FuncId) (l:List Value) (k:(Option Addr)->Int->Prog):Prog:=.call f l (.tup [.one .ptr,.one (.int .i64)]) (u2 k)
abbrev Ax (f:FuncId) (l:List Value) (k:(Option Addr)->Prog):Prog:=.call f l sP (u1 k)
abbrev Ay (t:TypeId) (a:Addr) (i:Nat) (k:(Option Addr)->Prog):Prog:=.read True (ld t (Addr.add a i)) sP (u1 k)
abbrev Az (a:Addr):Value:=.pointer (some a)
abbrev AA (s:Option Addr) (k:Addr->Prog):Prog:=.ex [.adr] (c1 λa=>s=some a) (u1 k)
abbrev AB (x0:Int) (x1:ByteArray) (x2:ByteArray) (x3:Bool) (x4:Int):Value:=.agg #[.int .i64 x0,.string x1,.string x2,.bool x3,.int .i64 x4]
abbrev AC (t:TypeId) (a:Addr) (i:Nat) (k:ByteArray->Prog):Prog:=.read True (ld t (Addr.add a i)) sS (u1 k)
abbrev AD (x0:ByteArray) (x1:ByteArray) (x2:Bool) (x3:Int):Value:=.agg #[.string x0,.string x1,.bool x2,.int .i64 x3]
abbrev AE (m:Sem Value) (k:Sl->Prog):Prog:=.act m sL (u1 k)
abbrev AF (x0:Int) (x1:Int) (x2:Int) (x3:Int) (x4:Int) (x5:Int) (x6:Sl):Value:=.agg #[.int .i64 x0,.int .i64 x1,.int .i64 x2,.int .i64 x3,.int .i64 x4,.int .i64 x5,x6.v]
abbrev AG (k:Prog):Prog:=.tick k
abbrev AH (t:TypeId) (a:Addr) (k:Int->Int->Int->Int->Int->Int->Sl->Prog):Prog:=.read True (ld t a) (sG [.int .i64,.int .i64,.int .i64,.int .i64,.int .i64,.int .i64,.slc]) (u7 k)
abbrev AI (k:Prog):Prog:=.untick k
abbrev AJ (t:TypeId) (a:Addr) (i:Nat) (v:Value) (k:Prog):Prog:=.actU (st t (Addr.add a i) v) k
abbrev AK (e:Nat) (p:Prog) (k:Prog):Prog:=.bind e [] p (u0 k)
abbrev AL (t:TypeId) (a:Addr) (i:Nat) (k:(Option Addr)->Prog):Prog:=.hold True (ld t (Addr.add a i)) sP (u1 k)
abbrev AM (e:Nat) (x:Int × Int × Unit) (k:Int->Int->Prog):Prog:=.loop e [.one (.int .i64),.one (.int .i64)] x (u2 k)
abbrev AN (t:TypeId) (a:Addr) (i:Nat) (k:Int->Int->Int->Int->Int->Int->Sl->Prog):Prog:=.read True (ld t (Addr.add a i)) (sG [.int .i64,.int .i64,.int .i64,.int .i64,.int .i64,.int .i64,.slc]) (u7 k)
abbrev AO (t:TypeId) (a:Addr) (i:Nat) (k:Sl->Prog):Prog:=.read True (ld t (Addr.add a i)) sL (u1 k)
abbrev AP (t:TypeId) (a:Addr) (i:Nat) (k:Int->Prog):Prog:=.read True (ld t (Addr.add a i)) (sI .i64) (u1 k)
abbrev AQ (g:Prop) (t:TypeId) (a:Addr) (i:Nat) (k:Int->Prog):Prog:=.read g (ld t (Addr.add a i)) (sI .i64) (u1 k)
abbrev AR (t:TypeId) (a:Addr) (i:Nat) (k:Int->Int->Prog):Prog:=.read True (ld t (Addr.add a i)) (sG [.int .i64,.int .i64]) (u2 k)
abbrev AS (x0:Int) (x1:Int):Value:=.agg #[.int .i64 x0,.int .i64 x1]
abbrev AT (e:Nat) (x:Int × Unit) (k:Int->Prog):Prog:=.loop e [.one (.int .i64)] x (u1 k)
abbrev AU (f:FuncId) (l:List Value) (k:Prog):Prog:=.call f l (.tup []) (u0 k)
abbrev AV (f:FuncId) (l:List Value) (k:Sl->Int->Prog):Prog:=.call f l (.tup [.one .slc,.one (.int .i64)]) (u2 k)
abbrev AW (g:Prop) (t:TypeId) (a:Addr) (i:Nat) (k:Int->Prog):Prog:=.hold g (ld t (Addr.add a i)) (sI .i64) (u1 k)
abbrev AX (g:Prop) (s:Option Addr) (k:Addr->Prog):Prog:=.ex [.adr] (c1 λa=>g->s=some a) (u1 k)
abbrev AY (g:Prop) (t:TypeId) (a:Addr) (k:Int->Int->Int->Int->Int->Int->Sl->Prog):Prog:=.read g (ld t a) (sG [.int .i64,.int .i64,.int .i64,.int .i64,.int .i64,.int .i64,.slc]) (u7 k)
abbrev AZ (e:Nat) (p:Prog) (k:Sl->Prog):Prog:=.bind e [.one .slc] p (u1 k)
abbrev Ba (x:Bool) (p q:Prog):Prog:=.lt .bool x λb=>.ite b p q
abbrev Bb (t:TypeId) (a:Addr) (i:Nat) (k:Int->ByteArray->ByteArray->Bool->Int->Prog):Prog:=.read True (ld t (Addr.add a i)) (sG [.int .i64,.str,.str,.bool,.int .i64]) (u5 k)
abbrev Bc (t:TypeId) (a:Addr) (k:Int->ByteArray->ByteArray->Bool->Int->Prog):Prog:=.read True (ld t a) (sG [.int .i64,.str,.str,.bool,.int .i64]) (u5 k)
abbrev Bd (f:FuncId) (l:List Value) (k:Int->Bool->Prog):Prog:=.call f l (.tup [.one (.int .i64),.one .bool]) (u2 k)
abbrev Be (t:TypeId) (a:Addr) (i:Nat) (k:Sl->Prog):Prog:=.hold True (ld t (Addr.add a i)) sL (u1 k)
abbrev Bf (e:Nat) (x:Sl × Int × Unit) (k:Sl->Int->Prog):Prog:=.loop e [.one .slc,.one (.int .i64)] x (u2 k)
abbrev Bg (g:Prop) (t:TypeId) (a:Addr) (i:Nat) (k:ByteArray->Prog):Prog:=.read g (ld t (Addr.add a i)) sS (u1 k)
abbrev Bh (f:FuncId) (l:List Value) (k:Sl->Bool->Prog):Prog:=.call f l (.tup [.one .slc,.one .bool]) (u2 k)
abbrev Bi (f:FuncId) (l:List Value) (k:Int->Prog):Prog:=.call f l (sI .u64) (u1 k)
abbrev Bj (x:Int) (k:Int->Prog):Prog:=.lt (.int .u64) x k
abbrev Bk (e:Nat) (p:Prog) (k:Addr->Bool->Prog):Prog:=.bind e [.one .adr,.one .bool] p (u2 k)
abbrev Bl (t:TypeId) (a:Addr) (i:Nat) (k:(Option Nat)->Prog):Prog:=.hold True (ld t (Addr.add a i)) sM (u1 k)
abbrev Bn (t:TypeId) (a:Addr) (i:Nat) (k:Int->Prog):Prog:=.hold True (ld t (Addr.add a i)) (sI .i64) (u1 k)
abbrev Bo (m:Sem Value) (k:Int->Int->Int->Int->Bool->Prog):Prog:=.hold True m (.tup [.agg [.int .i64,.int .i64,.int .i64,.int .i64],.one .bool]) (u5 k)
abbrev Bp (x0:Int) (x1:Int) (x2:Int) (x3:Int):Value:=.agg #[.int .i64 x0,.int .i64 x1,.int .i64 x2,.int .i64 x3]
abbrev Bq (g:Prop) (t:TypeId) (a:Addr) (i:Nat) (k:Bool->Prog):Prog:=.read g (ld t (Addr.add a i)) sB (u1 k)
abbrev Br (t:TypeId) (a:Addr) (i:Nat) (k:Bool->Prog):Prog:=.read True (ld t (Addr.add a i)) sB (u1 k)
abbrev Bs (f:FuncId) (l:List Value) (k:Bool->Int->Int->Prog):Prog:=.call f l (.tup [.agg [.bool,.int .i64],.one (.int .i64)]) (u3 k)
abbrev Bt (x0:Bool) (x1:Int):Value:=.agg #[.bool x0,.int .i64 x1]
abbrev Bu (e:Nat) (p:Prog) (k:Int->Int->Prog):Prog:=.bind e [.one (.int .i64),.one (.int .i64)] p (u2 k)
abbrev Bv (f:FuncId) (l:List Value) (k:Int->Int->Int->Int->Int->Int->Sl->Prog):Prog:=.call f l (sG [.int .i64,.int .i64,.int .i64,.int .i64,.int .i64,.int .i64,.slc]) (u7 k)
abbrev Bw (g:Prop) (t:TypeId) (a:Addr) (i:Nat) (k:Sl->Prog):Prog:=.read g (ld t (Addr.add a i)) sL (u1 k)
abbrev Bx (m:Sem Value) (k:Int->Prog):Prog:=.read True m (sI .i64) (u1 k)
abbrev By (t:TypeId) (a:Addr) (i:Nat) (k:ByteArray->ByteArray->Bool->Int->Prog):Prog:=.read True (ld t (Addr.add a i)) (sG [.str,.str,.bool,.int .i64]) (u4 k)
abbrev Bz (t:TypeId) (a:Addr) (i:Nat) (k:(Option Nat)->Prog):Prog:=.read True (ld t (Addr.add a i)) sM (u1 k)
abbrev B0 (t:TypeId) (a:Addr) (k:(Option Addr)->Prog):Prog:=.read True (ld t a) sP (u1 k)
abbrev B1 (m:Sem Value) (k:(Option Nat)->Prog):Prog:=.act m sM (u1 k)
abbrev B2 (x0:Int) (x1:Int) (x2:Int) (x3:Int) (x4:Int) (x5:Int) (x6:Int):Value:=.agg #[.int .i64 x0,.int .i64 x1,.int .i64 x2,.int .i64 x3,.int .i64 x4,.int .i64 x5,.int .i64 x6]
abbrev B3 (g:Prop) (t:TypeId) (a:Addr) (k:Int->Int->Int->Int->Int->Int->Int->Prog):Prog:=.read g (ld t a) (sG [.int .i64,.int .i64,.int .i64,.int .i64,.int .i64,.int .i64,.int .i64]) (u7 k)
abbrev B4 (t:TypeId) (a:Addr) (k:Int->Int->Int->Int->Int->Int->Int->Prog):Prog:=.read True (ld t a) (sG [.int .i64,.int .i64,.int .i64,.int .i64,.int .i64,.int .i64,.int .i64]) (u7 k)
abbrev B5 (m:Sem Unit) (k:Prog):Prog:=.actU m k
abbrev B6 (m:Sem Value) (k:Prog):Prog:=.act m (.tup []) (u0 k)
abbrev B7 (t:TypeId) (a:Addr) (k:Int->Int->Int->Int->Prog):Prog:=.read True (ld t a) (sG [.int .i64,.int .i64,.int .i64,.int .i64]) (u4 k)
abbrev B8 (m:Sem Value) (k:Addr->Prog):Prog:=.act m sA (u1 k)
abbrev B9 (t:TypeId) (a:Addr) (k:Bool->Int->Prog):Prog:=.read True (ld t a) (sG [.bool,.int .i64]) (u2 k)
abbrev BA (t:TypeId) (p:Option Addr) (k:(Option Addr)->Prog):Prog:=.read True (Instr.loadAt t (.pointer p)) sP (u1 k)
abbrev BB (g:Prop) (t:TypeId) (a:Addr) (i:Nat) (k:(Option Nat)->Prog):Prog:=.read g (ld t (Addr.add a i)) sM (u1 k)
abbrev BC (g:Prop) (m:Sem Value) (k:Int->Int->Prog):Prog:=.read g m (sG [.int .i64,.int .i64]) (u2 k)
abbrev BD (t:TypeId) (a:Addr) (i:Nat) (k:Int->Int->Int->Int->Int->Int->Int->Prog):Prog:=.read True (ld t (Addr.add a i)) (sG [.int .i64,.int .i64,.int .i64,.int .i64,.int .i64,.int .i64,.int .i64]) (u7 k)
abbrev BE (t:TypeId) (a:Addr) (i:Nat) (k:Int->Int->Int->Int->Prog):Prog:=.read True (ld t (Addr.add a i)) (sG [.int .i64,.int .i64,.int .i64,.int .i64]) (u4 k)
abbrev BF (g:Prop) (m:Sem Value) (k:Int->Prog):Prog:=.read g m (sI .i64) (u1 k)
abbrev BG (m:Sem Value) (k:(Option Addr)->Prog):Prog:=.read True m sP (u1 k)
abbrev BH (a:Addr) (i:Nat):Value:=.pointer (some (Addr.add a i))
abbrev BI (t:TypeId) (a:Addr) (k:Sl->Int->Prog):Prog:=.read True (ld t a) (sG [.slc,.int .i64]) (u2 k)
abbrev BJ (x0:Sl) (x1:Int):Value:=.agg #[x0.v,.int .i64 x1]
abbrev BK (f:Value) (l:List Value) (k:Bool->Prog):Prog:=.callv f l sB (u1 k)
abbrev BL (t:TypeId) (a:Addr) (k:Int->Int->Prog):Prog:=.read True (ld t a) (sG [.int .i64,.int .i64]) (u2 k)
abbrev BM (e:Nat) (p:Prog) (k:Int->Int->Prog):Prog:=.bind e [.one (.int .u64),.one (.int .i64)] p (u2 k)
abbrev BN (t:TypeId) (a:Addr) (i:Nat) (k:Int->Prog):Prog:=.read True (ld t (Addr.add a i)) (sI .u8) (u1 k)
abbrev BO (x:Int) (k:Int->Prog):Prog:=.lt (.int .u8) x k
abbrev BQ (t:TypeId) (a:Addr) (k:Int->Prog):Prog:=.read True (ld t a) (sI .u64) (u1 k)
abbrev BR (e:Nat) (x:Int × Int × Int × Bool × Bool × Unit) (k:Int->Int->Int->Bool->Bool->Prog):Prog:=.loop e [.one (.int .i64),.one (.int .i64),.one (.int .i64),.one .bool,.one .bool] x (u5 k)
abbrev BS (e:Nat) (p:Prog) (k:Int->Int->Int->Bool->Bool->Prog):Prog:=.bind e [.one (.int .i64),.one (.int .i64),.one (.int .i64),.one .bool,.one .bool] p (u5 k)
abbrev BT (g:Prop) (t:TypeId) (a:Addr) (i:Nat) (k:Int->Int->Int->Int->Prog):Prog:=.read g (ld t (Addr.add a i)) (sG [.int .i64,.int .i64,.int .i64,.int .i64]) (u4 k)
abbrev BU (f:Value) (l:List Value) (k:Int->Prog):Prog:=.callv f l (sI .i64) (u1 k)
abbrev BV (e:Nat) (p:Prog) (k:Int->Int->Bool->Prog):Prog:=.bind e [.one (.int .i64),.one (.int .i64),.one .bool] p (u3 k)
abbrev BW (e:Nat) (p:Prog) (k:Int->Int->Int->Prog):Prog:=.bind e [.one (.int .i64),.one (.int .i64),.one (.int .i64)] p (u3 k)
abbrev BX (t:TypeId) (a:Addr) (k:Int->Prog):Prog:=.read True (ld t a) (sI .i64) (u1 k)
abbrev BY (g:Prop) (t:TypeId) (a:Addr) (i:Nat) (k:Int->Int->Int->Int->Int->Int->Int->Prog):Prog:=.read g (ld t (Addr.add a i)) (sG [.int .i64,.int .i64,.int .i64,.int .i64,.int .i64,.int .i64,.int .i64]) (u7 k)
abbrev BZ (t:TypeId) (a:Addr) (k:ByteArray->ByteArray->Bool->Int->Prog):Prog:=.read True (ld t a) (sG [.str,.str,.bool,.int .i64]) (u4 k)
abbrev Ca (m:Sem Value) (k:Sl->Prog):Prog:=.read True m sL (u1 k)
abbrev Cb (f:FuncId) (l:List Value) (k:Sl->Int->Bool->Prog):Prog:=.call f l (.tup [.one .slc,.one (.int .i64),.one .bool]) (u3 k)
abbrev Cc (t:TypeId) (p:Option Addr) (k:Int->Prog):Prog:=.read True (Instr.loadAt t (.pointer p)) (sI .i64) (u1 k)
abbrev Cd (f:FuncId) (l:List Value) (k:Int->Prog):Prog:=.call f l (sI .u32) (u1 k)
abbrev Ce (x:Int) (k:Int->Prog):Prog:=.lt (.int .u32) x k
abbrev Cf (e:Nat) (p:Prog) (k:Int->Prog):Prog:=.bind e [.one (.int .u32)] p (u1 k)
abbrev Cg (e:Nat) (x:Int × Int × Unit) (k:Int->Int->Prog):Prog:=.loop e [.one (.int .u32),.one (.int .i64)] x (u2 k)
def z020 (key:ByteArray) (time:Int):Prog :=
Aa F.a218 [.string key] λs0=>
Ab s0 λs1=>
Ae F.a85 [Ad none,Ac time] λn2 n3=>
Af n2 λn4=>
Af n3 λn5=>
.call F.a87 [Ad none,.string s1] (.tup [.one .str,.one .bool]) (u2 λs6 b7=>
Ab s6 λs8=>
Ag b7 λb9=>
Ah 1 (
Ai (n4 == 0 && n5 == 1 && ByteArray.toList s8 == ByteArray.toList (ByteArray.mk #[]) && not b9) (
Aj F.a90 [Ad none,.string s1,.string s1,Ac time] λn10=>
Ai (n10 == 1) (
Aj F.a86 [Ad none,.string s1,Ac time] λn11=>
Ai (n11 == 1) (
Aj F.a84 [Ad none,Ac time,.slice none 0 0] λn12=>
Ai (n12 == 1) (
Ak F.a89 [Ad none,.string (ByteArray.mk #[]),.string (ByteArray.mk #[]),Ac 9] λl13=>
Ai ((Al l13) == 0) (
Aj F.a88 [Ad none] λn14=>
Ai (n14 == 0) (
Aj F.a91 [Ad none] λn15=>
Ai (n15 == 0) (
Am F.a216 [] λb16=>
Ag b16 λb17=>
An 1 [.bool b17])<|
An 1 [.bool false])<|
An 1 [.bool false])<|
An 1 [.bool false])<|
An 1 [.bool false])<|
An 1 [.bool false])<|
An 1 [.bool false])<|
An 1 [.bool false]) λb18=>
An 0 [.bool b18])
theorem zp0 (key:ByteArray) (time:Int):FnS (z020 key time) F.a215 #[.string key,.int .i64 time]:=dV ⟨[],[],[(5,[(4,.one .bool)])],[]⟩ Go.Proofs.Tryz.func7 (by kernel_rfl)
def z021 (seg:Int):Prog :=
Ao T.a34 λa0=>
Af (Int.tmod seg 200) λn1=>
Ap 1 (
Ai (decide (n1<0)) (
Af (Aq (0-n1)) λn2=>
An 1 [Ac n2])<|
An 1 [Ac n1]) λn3=>
Ar T.a34 a0 (.agg #[Ac (Aq (64+n3)),Ac 30,Ac 2])<|
As T.a34 a0 λn4 n5 n6=>
An 0 [Au n4 n5 n6]
theorem zp1 (seg:Int):FnS (z021 seg) F.a217 #[.int .i64 seg]:=dV ⟨[(1576966,[(0,.one (.int .i64))])],[],[],[]⟩ Go.Proofs.Tryz.func11 (by kernel_rfl)
def z080 (d:Option Addr) (prefix_:ByteArray) (c_0 c_1:Int) (c_2:Int):Prog :=
Av T.a34 (Au c_0 c_1 c_2) λa0=>
As T.a34 a0 λn1 n2 n3=>
Aw F.a98 [Ad d,.string prefix_,Au n1 n2 n3] λp4 n5=>
Af n5 λn6=>
Ai (n6 != 0) (
Af n6 λn7=>
An 0 [Ad none,Ac n7])<|
Ax F.a6 [] λp8=>
Av T.a19 (.agg #[Ad p8,Ad p4]) λa9=>
Aj F.a102 [Ad p4] λn10=>
.call F.a104 [Ad p4,Ac n10,Ac 1099511627776,.bool true] (.tup [.one .slc,.one (.int .i64),.one (.int .i64)]) (u3 λl11 (n12 n13:Int)=>
Af n12 λn14=>
Af n13 λn15=>
Ay T.a25 a9 0 λp16=>
Aj F.a8 [Ad p16,l11.v] λn17=>
An 0 [Az a9,Ac 0])
theorem zup (d:Option Addr) (prefix_:ByteArray) (c_0 c_1 c_2:Int):FnS (z080 d prefix_ c_0 c_1 c_2) F.a92 #[.pointer d,.string prefix_,.agg #[.int .i64 c_0,.int .i64 c_1,.int .i64 c_2]]:=dV ⟨[],[],[],[]⟩ Go.Proofs.Tryz.func13 (by kernel_rfl)
def z8g  : Prog :=
.call F.a48 [.int .i64 65536] (.tup [.one .ptr,.one (.int .i64)]) (u2 λp0 (n1:Int) =>
.lt (.int .i64) (n1) λ(n2:Int) =>
.call F.a217 [.int .i64 0] (sG [.int .i64,.int .i64,.int .i64]) (u3 λ(n3 n4 n5:Int) =>
.call F.a92 [.pointer p0,.string (ByteArray.mk #[120]),.agg #[.int .i64 n3,.int .i64 n4,.int .i64 n5]] (.tup [.one .ptr,.one (.int .i64)]) (u2 λp6 (n7:Int) =>
.lt (.int .i64) (n7) λ(n8:Int) =>
.ite (n8 != 0 || Option.isNone p6) (
.done 0 [.bool false]) (
.call F.a90 [.pointer p6,.string (ByteArray.mk #[97]),.string (ByteArray.mk #[49]),.int .i64 0] (sI .i64) (u1 λ(n9:Int) =>
.call F.a90 [.pointer p6,.string (ByteArray.mk #[97]),.string (ByteArray.mk #[50]),.int .i64 0] (sI .i64) (u1 λ(n10:Int) =>
.call F.a90 [.pointer p6,.string (ByteArray.mk #[98]),.string (ByteArray.mk #[120]),.int .i64 0] (sI .i64) (u1 λ(n11:Int) =>
.call F.a86 [.pointer p6,.string (ByteArray.mk #[98]),.int .i64 1] (sI .i64) (u1 λ(n12:Int) =>
.lt (.int .i64) (n9) λ(n13:Int) =>
.lt (.int .i64) (n10) λ(n14:Int) =>
.lt (.int .i64) (n11) λ(n15:Int) =>
.lt (.int .i64) (n12) λ(n16:Int) =>
.call F.a87 [.pointer p6,.string (ByteArray.mk #[97])] (.tup [.one .str,.one .bool]) (u2 λs17 b18 =>
.lt (.str) (s17) λs19 =>
.lt (.bool) (b18) λb20 =>
.call F.a87 [.pointer p6,.string (ByteArray.mk #[98])] (.tup [.one .str,.one .bool]) (u2 λs21 b22 =>
.lt (.str) (s21) λs23 =>
.lt (.bool) (b22) λb24 =>
.bind 1 [.one .bool] (
.ite (n13 == 0 && n14 == 0 && n15 == 0 && n16 == 0 && ByteArray.toList s19 == ByteArray.toList (ByteArray.mk #[50]) && b20 && not b24) (
.call F.a88 [.pointer p6] (sI .i64) (u1 λ(n25:Int) =>
.ite (n25 == 1) (
.call F.a91 [.pointer p6] (sI .i64) (u1 λ(n26:Int) =>
.ite (n26 == 3) (
.call F.a86 [.pointer p6,.string (ByteArray.mk #[98]),.int .i64 2] (sI .i64) (u1 λ(n27:Int) =>
.lt (.bool) (n27 == 3) λb28 =>
.done 1 [.bool b28])) (
.done 1 [.bool false]))) (
.done 1 [.bool false]))) (
.done 1 [.bool false])) (u1 λb29 =>
.done 0 [.bool b29])))))))))))
theorem z9k :FnS (z8g ) F.a216 #[]:=dV ⟨[],[],[(8,[(0,.one .bool)])],[]⟩ Go.Proofs.Tryz.func18 (by kernel_rfl)
def z022 (s:ByteArray):Prog :=
Ai (decide (((ByteArray.size s:Nat):Int)>12)) (
.must ((0:Int)<=12/\12<=((ByteArray.size s:Nat):Int)) <|
Ab (ByteArray.extract s 0 12) λs0=>
An 0 [.string s0])<|
Ab s λs1=>
An 0 [.string s1]
theorem zp2 (s:ByteArray):FnS (z022 s) F.a218 #[.string s]:=dV ⟨[],[],[],[]⟩ Go.Proofs.Tryz.func34 (by kernel_rfl)
def z07y (l:Option Addr) (horizon:Int):Prog :=
Ai (Option.isNone l) (
An 0 [Ac 0,Ac 1])<|
AA l λa1=>
Ay T.a31 a1 1 λp2=>
Ae F.a101 [Ad p2,Ac horizon] λn3 n4=>
Af n3 λn5=>
Af n4 λn6=>
An 0 [Ac n5,Ac n6]
theorem zun (l:Option Addr) (horizon:Int):FnS (z07y l horizon) F.a85 #[.pointer l,.int .i64 horizon]:=dV ⟨[],[],[],[]⟩ Go.Proofs.Tryz.func35 (by kernel_rfl)
def zzl (l:Option Addr) (key:ByteArray):Prog :=
Ai (Option.isNone l) (
An 0 [.string (ByteArray.mk #[]),.bool false])<|
AA l λa1=>
Ay T.a25 a1 0 λp2=>
.call F.a9 [Ad p2,.string key] (.tup [.agg [.int .i64,.str,.str,.bool,.int .i64],.one .bool]) (u6 λ(n3:Int) s4 s5 b6 (n7:Int) b8=>
Ao T.a36 λa9=>
Ar T.a36 a9 (AB n3 s4 s5 b6 n7)<|
Ag b8 λb10=>
AC T.a51 (Addr.add a9 1) 1 λs11=>
Ab s11 λs12=>
Ag b10 λb13=>
An 0 [.string s12,.bool b13])
theorem zgq (l:Option Addr) (key:ByteArray):FnS (zzl l key) F.a87 #[.pointer l,.string key]:=dV ⟨[],[],[],[]⟩ Go.Proofs.Tryz.func36 (by kernel_rfl)
def zzn (l:Option Addr) (key value:ByteArray) (time:Int):Prog :=
AE (Instr.buildSlice T.a38 1 #[(0,AD key value false time)]) λl0=>
Aj F.a84 [Ad l,Ac time,l0.v] λn1=>
Af n1 λn2=>
An 0 [Ac n2]
theorem zgs (l:Option Addr) (key value:ByteArray) (time:Int):FnS (zzn l key value time) F.a90 #[.pointer l,.string key,.string value,.int .i64 time]:=dV ⟨[],[],[],[]⟩ Go.Proofs.Tryz.func37 (by kernel_rfl)
def zzk (l:Option Addr) (key:ByteArray) (time:Int):Prog :=
Ai (Option.isNone l) (
An 0 [Ac 1])<|
AA l λa1=>
Ay T.a25 a1 0 λp2=>
.call F.a9 [Ad p2,.string key] (.tup [.agg [.int .i64,.str,.str,.bool,.int .i64],.one .bool]) (u6 λ(n3:Int) s4 s5 b6 (n7:Int) b8=>
Ao T.a36 λa9=>
Ar T.a36 a9 (AB n3 s4 s5 b6 n7)<|
Ag b8 λb10=>
Ai (not b10) (
An 0 [Ac 3])<|
AE (Instr.buildSlice T.a38 1 #[(0,.agg #[.string key,.string (ByteArray.mk #[]),.bool true,Ac time])]) λl11=>
Aj F.a84 [Ad l,Ac time,l11.v] λn12=>
Af n12 λn13=>
An 0 [Ac n13])
theorem zgp (l:Option Addr) (key:ByteArray) (time:Int):FnS (zzk l key time) F.a86 #[.pointer l,.string key,.int .i64 time]:=dV ⟨[],[],[],[]⟩ Go.Proofs.Tryz.func38 (by kernel_rfl)
def zzj (l:Option Addr) (time:Int) (rs:Sl):Prog :=
Ai (Option.isNone l) (
An 0 [Ac 1])<|
Ao T.a0 λa0=>
Ar T.a0 a0 (AF 0 0 0 0 0 time rs)<|
AG<|
AA l λa2=>
Ay T.a31 a2 1 λp3=>
AH T.a0 a0 λn4 n5 n6 n7 n8 n9 l10=>
.call F.a99 [Ad p3,AF n4 n5 n6 n7 n8 n9 l10] (.tup [.one (.int .i64),.one .bool,.one (.int .i64)]) (u3 λ(n11:Int) b12 (n13:Int)=>
Af n11 λn14=>
Ag b12 λb15=>
Af n13 λn16=>
AI<|
Ai (n16 != 0) (
Af n16 λn17=>
An 0 [Ac n17])<|
AJ T.a14 a0 0 (Ac n14)<|
AK 1 (
AG<|
AA l λa19=>
AL T.a25 a19 0 λp20=>
AH T.a0 a0 λn21 n22 n23 n24 n25 n26 l27=>
AE (Instr.buildSlice T.a37 1 #[(0,AF n21 n22 n23 n24 n25 n26 l27)]) λl28=>
Ak F.a120 [l28.v] λl29=>
AI<|
Aj F.a8 [Ad p20,l29.v] λn30=>
AI<|
An 1 [])<|
An 0 [Ac 0])
theorem zgo (l:Option Addr) (time:Int) (rs:Sl):FnS (zzj l time rs) F.a84 #[.pointer l,.int .i64 time,.slice rs.a rs.len rs.cap]:=dV ⟨[],[],[(8,[])],[]⟩ Go.Proofs.Tryz.func39 (by kernel_rfl)
def z07z (l:Option Addr) (from_ to_:ByteArray) (most:Int):Prog :=
Ai (Option.isNone l) (
An 0 [.slice none 0 0])<|
AA l λa1=>
Ay T.a25 a1 0 λp2=>
Ak F.a11 [Ad p2,.string from_,.string to_,Ac most] λl3=>
An 0 [l3.v]
theorem zuo (l:Option Addr) (from_ to_:ByteArray) (most:Int):FnS (z07z l from_ to_ most) F.a89 #[.pointer l,.string from_,.string to_,.int .i64 most]:=dV ⟨[],[],[],[]⟩ Go.Proofs.Tryz.func40 (by kernel_rfl)
def zzm (l:Option Addr):Prog :=
Ai (Option.isNone l) (
An 0 [Ac 0])<|
AA l λa1=>
Ay T.a25 a1 0 λp2=>
Aj F.a10 [Ad p2] λn3=>
Af n3 λn4=>
An 0 [Ac n4]
theorem zgr (l:Option Addr):FnS (zzm l) F.a88 #[.pointer l]:=dV ⟨[],[],[],[]⟩ Go.Proofs.Tryz.func41 (by kernel_rfl)
def zzo (l:Option Addr):Prog :=
Ai (Option.isNone l) (
An 0 [Ac 0])<|
AA l λa1=>
Ay T.a31 a1 1 λp2=>
Ak F.a100 [Ad p2] λl3=>
Ap 1 (
AM 2 (0,(0,())) λn4 n5=>
Ai (decide (n5<(Al l3))) (
.ex [.adr] (c1 λa6=>0<=n5/\n5<(Al l3)/\l3.a=some a6) (u1 λa7=>
AN T.a0 a7 (Int.toNat n5*7) λn8 n9 n10 n11 n12 n13 l14=>
Ao T.a0 λa15=>
Ar T.a0 a15 (AF n8 n9 n10 n11 n12 n13 l14)<|
AO T.a38 a15 6 λl16=>
Af (Aq (n4+(Al l16))) λn17=>
An 2 [Ac n17,Ac (Aq (n5+1))]))<|
An 1 [Ac n4]) λn18=>
Aj F.a88 [Ad l] λn19=>
Af (Aq (n18-n19)) λn20=>
An 0 [Ac n20]
theorem zgt (l:Option Addr):FnS (zzo l) F.a91 #[.pointer l]:=dV ⟨[],[(0,[(3,.one (.int .i64))])],[],[(0,[(3,.one (.int .i64)),(14,.one (.int .i64))])]⟩ Go.Proofs.Tryz.func42 (by kernel_rfl)
def z006 (d:Option Addr) (prefix_:ByteArray) (c_0 c_1:Int) (c_2:Int):Prog :=
Av T.a34 (Au c_0 c_1 c_2) λa0=>
AP T.a13 a0 2 λn1=>
AQ (decide (n1<1)=false) T.a13 a0 2 λn2=>
Ai (decide (n1<1) || decide (n2>1024)) (
Ai (Option.isNone d) (
An 0 [Ad none,Ac 1])<|
An 0 [Ad none,Ac 2])<|
AR T.a47 a0 0 λn3 n4=>
Aw F.a156 [Ad d,.string prefix_,AS n3 n4] λp5 n6=>
Af n6 λn7=>
Ai (n7 != 0) (
Af n7 λn8=>
An 0 [Ad none,Ac n8])<|
AP T.a13 a0 2 λn9=>
Av T.a35 (.agg #[Ad p5,Ad d,.string prefix_,Ac n9,Ad none,Ad none]) λa10=>
Ah 1 (
Aa F.a114 [Az a10] λs11=>
Aj F.a42 [Ad d,.string s11] λn12=>
Ai (decide (n12>0)) (
An 1 [.bool true])<|
Aa F.a114 [Az a10] λs13=>
Am F.a115 [Ad d,.string s13] λb14=>
An 1 [.bool b14]) λb15=>
AK 1 (
Ai b15 (
Aa F.a114 [Az a10] λs16=>
Aj F.a40 [Ad d,.string s16] λn17=>
Af n17 λn18=>
Ai (n18 != 0) (
Af n18 λn19=>
An 0 [Ad none,Ac n19])<|
An 1 [])<|
An 1 [])<|
Aj F.a110 [Az a10] λn20=>
Af n20 λn21=>
Ak F.a134 [Ad p5] λl22=>
AK 1 (
AT 2 (0,()) λn23=>
Ai (decide (n23<(Al l22))) (
.ex [.adr] (c1 λa24=>0<=n23/\n23<(Al l22)/\l22.a=some a24) (u1 λa25=>
AN T.a0 a25 (Int.toNat n23*7) λn26 n27 n28 n29 n30 n31 l32=>
Ao T.a0 λa33=>
Ar T.a0 a33 (AF n26 n27 n28 n29 n30 n31 l32)<|
AP T.a14 a33 0 λn34=>
AK 3 (
Ai (decide (n34>=n21)) (
AH T.a0 a33 λn35 n36 n37 n38 n39 n40 l41=>
AU F.a113 [Az a10,AF n35 n36 n37 n38 n39 n40 l41]<|
An 3 [])<|
An 3 [])<|
An 2 [Ac (Aq (n23+1))]))<|
An 1 [])<|
An 0 [Az a10,Ac 0]
theorem zmu (d:Option Addr) (prefix_:ByteArray) (c_0 c_1 c_2:Int):FnS (z006 d prefix_ c_0 c_1 c_2) F.a98 #[.pointer d,.string prefix_,.agg #[.int .i64 c_0,.int .i64 c_1,.int .i64 c_2]]:=dV ⟨[(18741891978888913616950,[]),(1083197534374707740536733770,[])],[(0,[])],[(9,[(54,.one .bool)])],[(0,[(67,.one (.int .i64))])]⟩ Go.Proofs.Tryz.func63 (by kernel_rfl)
def zds  : Prog :=
.act (Instr.box T.a4 (.agg #[.int .i64 0,.slice none 0 0])) sA (u1 λa0 =>
.done 0 [.pointer (some a0)])
theorem zdp :FnS (zds ) F.a6 #[]:=dV ⟨[],[],[],[]⟩ Go.Proofs.Tryz.func64 (by kernel_rfl)
def z00b (p:Option Addr) (offset most:Int) (committed:Bool):Prog :=
Ai (Option.isNone p) (
An 0 [.slice none 0 0,Ac 0,Ac 1])<|
AA p λa1=>
Ay T.a32 (Addr.add a1 0) 0 λp2=>
AV F.a138 [Ad p2,Ac offset,Ac most] λl3 n4=>
Af n4 λn5=>
Ai (n5 != 0) (
Af n5 λn6=>
An 0 [.slice none 0 0,Ac 0,Ac n6])<|
Af offset λn7=>
.bind 1 [.one .slc,.one (.int .i64)] (
.loop 2 [.one .slc,.one (.int .i64),.one (.int .i64)] (⟨none,0,0⟩,(n7,(0,()))) (u3 λl8 (n9 n10:Int)=>
Ai (decide (n10<(Al l3))) (
.ex [.adr] (c1 λa11=>0<=n10/\n10<(Al l3)/\l3.a=some a11) (u1 λa12=>
AN T.a0 a12 (Int.toNat n10*7) λn13 n14 n15 n16 n17 n18 l19=>
Ao T.a0 λa20=>
Ar T.a0 a20 (AF n13 n14 n15 n16 n17 n18 l19)<|
Ah 3 (
AG<|
AW (committed=true) T.a14 a20 0 λn21=>
Ai committed (
Aj F.a106 [Ad p] λn22=>
AI<|
An 3 [.bool (decide (n21>=n22))])<|
AI<|
An 3 [.bool false]) λb23=>
Ai b23 (
An 1 [l8.v,Ac n9])<|
Ah 3 (
AG<|
AX (not committed=false) p λa25=>
.read (not committed=false) (ld T.a30 (Addr.add a25 5)) sP (u1 λp26=>
AY (not committed=false) T.a0 a20 λn27 n28 n29 n30 n31 n32 l33=>
Ai (not committed) (
AI<|
An 3 [.bool true])<|
Aj F.a69 [Ad p26,AF n27 n28 n29 n30 n31 n32 l33] λn34=>
AI<|
An 3 [.bool (n34 == 1)])) λb35=>
AZ 3 (
Ai b35 (
AH T.a0 a20 λn36 n37 n38 n39 n40 n41 l42=>
AE (Instr.buildSlice T.a37 1 #[(0,AF n36 n37 n38 n39 n40 n41 l42)]) λl43=>
Ak F.a120 [l43.v] λl44=>
AE (app T.a43 T.a43 T.a43 l8.v l44.v) λl45=>
An 3 [l45.v])<|
An 3 [l8.v]) λl46=>
AH T.a0 a20 λn47 n48 n49 n50 n51 n52 l53=>
Aj F.a122 [AF n47 n48 n49 n50 n51 n52 l53] λn54=>
Af n54 λn55=>
An 2 [l46.v,Ac n55,Ac (Aq (n10+1))]))<|
An 1 [l8.v,Ac n9])) (u2 λl56 (n57:Int)=>
Af n57 λn58=>
An 0 [l56.v,Ac n58,Ac 0])
theorem zmz (p:Option Addr) (offset most:Int) (committed:Bool):FnS (z00b p offset most committed) F.a104 #[.pointer p,.int .i64 offset,.int .i64 most,.bool committed]:=dV ⟨[(73196680484479534366778,[(13,.one .slc)])],[(0,[(13,.one .slc),(14,.one (.int .i64))])],[(11,[(47,.one .bool)]),(12,[(58,.one .bool)])],[(0,[(13,.one .slc),(14,.one (.int .i64)),(36,.one (.int .i64))])]⟩ Go.Proofs.Tryz.func65 (by kernel_rfl)
def z009 (p:Option Addr):Prog :=
Ai (Option.isNone p) (
An 0 [Ac 0])<|
AA p λa1=>
Ay T.a32 (Addr.add a1 0) 0 λp2=>
Aj F.a136 [Ad p2] λn3=>
Af n3 λn4=>
An 0 [Ac n4]
theorem zmx (p:Option Addr):FnS (z009 p) F.a102 #[.pointer p]:=dV ⟨[],[],[],[]⟩ Go.Proofs.Tryz.func66 (by kernel_rfl)
def zf7 (t:Option Addr) (l:Sl):Prog :=
Ba (Option.isNone t) (
An 0 [Ac 1])<|
AA t λa2=>
AP T.a14 a2 0 λn3=>
Am F.a18 [Ac n3,l.v] λb4=>
.ex [.adr] (c1 λa5=>not b4=false/\decide ((Al l)>0)=true->0<=Aq ((Al l)-1)/\Aq ((Al l)-1)<(Al l)/\l.a=some a5) (u1 λa6=>
AQ (not b4=false/\decide ((Al l)>0)=true) T.a14 (Addr.add a6 (Int.toNat (Aq ((Al l)-1))*5)) 0 λn7=>
Ba (not b4 || decide ((Al l)>0) && decide (n7>1099511627776)) (
An 0 [Ac 8])<|
AK 1 (
AT 2 (0,()) λn9=>
Ai (decide (n9<(Al l))) (
.ex [.adr] (c1 λa10=>0<=n9/\n9<(Al l)/\l.a=some a10) (u1 λa11=>
Bb T.a36 a11 (Int.toNat n9*5) λn12 s13 s14 b15 n16=>
Ao T.a36 λa17=>
Ar T.a36 a17 (AB n12 s13 s14 b15 n16)<|
Bc T.a36 a17 λn18 s19 s20 b21 n22=>
AU F.a15 [Ad t,AB n18 s19 s20 b21 n22]<|
An 2 [Ac (Aq (n9+1))]))<|
An 1 [])<|
An 0 [Ac 0])
theorem zx3 (t:Option Addr) (l:Sl):FnS (zf7 t l) F.a8 #[.pointer t,.slice l.a l.len l.cap]:=dV ⟨[],[(1,[])],[],[(1,[(35,.one (.int .i64))])]⟩ Go.Proofs.Tryz.func67 (by kernel_rfl)
def z007 (p:Option Addr) (b_0 b_1 b_2 b_3 b_4 b_5:Int) (b_6:Sl):Prog :=
Av T.a0 (AF b_0 b_1 b_2 b_3 b_4 b_5 b_6) λa0=>
Ba (Option.isNone p) (
An 0 [Ac 0,.bool false,Ac 1])<|
AH T.a0 a0 λn2 n3 n4 n5 n6 n7 l8=>
Am F.a116 [AF n2 n3 n4 n5 n6 n7 l8] λb9=>
Ba b9 (
An 0 [Ac 0,.bool false,Ac 2])<|
AH T.a0 a0 λn11 n12 n13 n14 n15 n16 l17=>
.call F.a111 [Ad p,AF n11 n12 n13 n14 n15 n16 l17] (.tup [.one (.int .i64),.one .bool,.one (.int .i64)]) (u3 λ(n18:Int) b19 (n20:Int)=>
Af n18 λn21=>
Ag b19 λb22=>
Af n20 λn23=>
An 0 [Ac n21,.bool b22,Ac n23])
theorem zmv (p:Option Addr) (b_0 b_1 b_2 b_3 b_4 b_5:Int) (b_6:Sl):FnS (z007 p b_0 b_1 b_2 b_3 b_4 b_5 b_6) F.a99 #[.pointer p,.agg #[.int .i64 b_0,.int .i64 b_1,.int .i64 b_2,.int .i64 b_3,.int .i64 b_4,.int .i64 b_5,.slice b_6.a b_6.len b_6.cap]]:=dV ⟨[],[],[],[]⟩ Go.Proofs.Tryz.func84 (by kernel_rfl)
def z008 (p:Option Addr):Prog :=
Ai (Option.isNone p) (
An 0 [.slice none 0 0])<|
AA p λa1=>
Ay T.a32 (Addr.add a1 0) 0 λp2=>
Ak F.a134 [Ad p2] λl3=>
An 0 [l3.v]
theorem zmw (p:Option Addr):FnS (z008 p) F.a100 #[.pointer p]:=dV ⟨[],[],[],[]⟩ Go.Proofs.Tryz.func86 (by kernel_rfl)
def zf8 (t:Option Addr) (key:ByteArray):Prog :=
Ao T.a36 λa0=>
Ai (Option.isNone t) (
Ar T.a36 a0 (.agg #[Ac 0,.string (ByteArray.mk #[]),.string (ByteArray.mk #[]),.bool false,Ac 0])<|
Bc T.a36 a0 λn1 s2 s3 b4 n5=>
An 0 [AB n1 s2 s3 b4 n5,.bool false])<|
Bd F.a12 [Ad t,.string key] λn6 b7=>
Af n6 λn8=>
Ag b7 λb9=>
Ai (not b9) (
Ar T.a36 a0 (.agg #[Ac 0,.string (ByteArray.mk #[]),.string (ByteArray.mk #[]),.bool false,Ac 0])<|
Bc T.a36 a0 λn10 s11 s12 b13 n14=>
An 0 [AB n10 s11 s12 b13 n14,.bool false])<|
AA t λa16=>
AO T.a43 a16 1 λl17=>
.ex [.adr] (c1 λa18=>0<=n8/\n8<(Al l17)/\l17.a=some a18) (u1 λa19=>
Bb T.a36 a19 (Int.toNat n8*5) λn20 s21 s22 b23 n24=>
Ar T.a36 a0 (AB n20 s21 s22 b23 n24)<|
Bc T.a36 a0 λn25 s26 s27 b28 n29=>
An 0 [AB n25 s26 s27 b28 n29,.bool true])
theorem zx4 (t:Option Addr) (key:ByteArray):FnS (zf8 t key) F.a9 #[.pointer t,.string key]:=dV ⟨[],[],[],[]⟩ Go.Proofs.Tryz.func87 (by kernel_rfl)
def z097 (p:Option Addr) (horizon:Int):Prog :=
Ai (Option.isNone p) (
An 0 [Ac 0,Ac 1])<|
Aj F.a108 [Ad p] λn0=>
Af n0 λn1=>
Ai (n1 == 0) (
An 0 [Ac 0,Ac 0])<|
Aj F.a105 [Ad p] λn2=>
Af n2 λn3=>
Ai (n3 != 0) (
Af n3 λn4=>
An 0 [Ac 0,Ac n4])<|
AA p λa6=>
Ay T.a32 (Addr.add a6 0) 0 λp7=>
Ak F.a134 [Ad p7] λl8=>
.bind 1 [.one (.int .i64),.one .slc] (
.loop 2 [.one (.int .i64),.one .slc,.one (.int .i64)] (0,(⟨none,0,0⟩,(0,()))) (u3 λ(n9:Int) l10 (n11:Int)=>
Ai (decide (n11<(Al l8))) (
.ex [.adr] (c1 λa12=>0<=n11/\n11<(Al l8)/\l8.a=some a12) (u1 λa13=>
AN T.a0 a13 (Int.toNat n11*7) λn14 n15 n16 n17 n18 n19 l20=>
Ao T.a0 λa21=>
Ar T.a0 a21 (AF n14 n15 n16 n17 n18 n19 l20)<|
AP T.a14 a21 0 λn22=>
Ai (decide (n22>=n1)) (
An 1 [Ac n9,l10.v])<|
AO T.a38 a21 6 λl23=>
Af (Aq (n9+(Al l23))) λn24=>
AG<|
AA p λa26=>
Ay T.a30 a26 5 λp27=>
AH T.a0 a21 λn28 n29 n30 n31 n32 n33 l34=>
Aj F.a69 [Ad p27,AF n28 n29 n30 n31 n32 n33 l34] λn35=>
AI<|
AZ 3 (
Ai (n35 == 1) (
AH T.a0 a21 λn36 n37 n38 n39 n40 n41 l42=>
AE (Instr.buildSlice T.a37 1 #[(0,AF n36 n37 n38 n39 n40 n41 l42)]) λl43=>
Ak F.a120 [l43.v] λl44=>
AE (app T.a43 T.a43 T.a43 l10.v l44.v) λl45=>
An 3 [l45.v])<|
An 3 [l10.v]) λl46=>
An 2 [Ac n24,l46.v,Ac (Aq (n11+1))]))<|
An 1 [Ac n9,l10.v])) (u2 λ(n47:Int) l48=>
Ak F.a5 [Ac horizon,l48.v] λl49=>
AV F.a7 [l49.v] λl50 n51=>
Af n51 λn52=>
Ai (n52 != 0) (
Af n52 λn53=>
An 0 [Ac 0,Ac n53])<|
AA p λa55=>
Ay T.a32 (Addr.add a55 0) 0 λp56=>
Aj F.a141 [Ad p56,Ac n1,l50.v] λn57=>
Af n57 λn58=>
Ai (n58 != 0) (
Af n58 λn59=>
An 0 [Ac 0,Ac n59])<|
AA p λa61=>
Ay T.a30 a61 5 λp62=>
Aj F.a70 [Ad p62,Ac n1] λn63=>
Af (Aq (n47-(Al l49))) λn64=>
An 0 [Ac n64,Ac 0])
def z0a7 (t:Option Addr) (from_ to_:ByteArray) (most:Int):Prog :=
Ai (Option.isNone t) (
An 0 [.slice none 0 0])<|
AG<|
AA t λa1=>
Be T.a43 a1 1 λl2=>
Aj F.a13 [Ad t,.string from_] λn3=>
.must (0<=n3/\n3<=(Al l2)) <|
AI<|
AZ 1 (
Bf 2 (⟨none,0,0⟩,(0,())) λl4 n5=>
Ai (decide (n5<((l2.len-Int.toNat n3:Nat):Int))) (
.ex [.adr] (c1 λa6=>0<=n5/\n5<((l2.len-Int.toNat n3:Nat):Int)/\z14 l2.a 5 (Int.toNat n3) l2.cap=some a6) (u1 λa7=>
Bb T.a36 a7 (Int.toNat n5*5) λn8 s9 s10 b11 n12=>
Ao T.a36 λa13=>
Ar T.a36 a13 (AB n8 s9 s10 b11 n12)<|
Bg (not (ByteArray.toList to_ == ByteArray.toList (ByteArray.mk #[]))=true) T.a51 (Addr.add a13 1) 0 λs14=>
Ai (not (ByteArray.toList to_ == ByteArray.toList (ByteArray.mk #[])) && not (Op.bytesLess (ByteArray.toList s14) (ByteArray.toList to_)) || decide ((Al l4)>=most)) (
An 1 [l4.v])<|
Bc T.a36 a13 λn15 s16 s17 b18 n19=>
AE (Instr.buildSlice T.a43 1 #[(0,AB n15 s16 s17 b18 n19)]) λl20=>
AE (app T.a43 T.a43 T.a43 l4.v l20.v) λl21=>
An 2 [l21.v,Ac (Aq (n5+1))]))<|
An 1 [l4.v]) λl22=>
An 0 [l22.v]
def zf9 (t:Option Addr):Prog :=
Ai (Option.isNone t) (
An 0 [Ac 0])<|
AA t λa1=>
AO T.a43 a1 1 λl2=>
Af (Al l2) λn3=>
An 0 [Ac n3]
theorem zx5 (t:Option Addr):FnS (zf9 t) F.a10 #[.pointer t]:=dV ⟨[],[],[],[]⟩ Go.Proofs.Tryz.func91 (by kernel_rfl)
def z00i (p:Option Addr):Prog :=
AA p λa1=>
AC T.a51 (Addr.add a1 0) 2 λs2=>
.must (((ByteArray.size s2+4:Nat):Int)<=9223372036854775807) <|
Ab (s2++(ByteArray.mk #[46,116,109,112])) λs3=>
An 0 [.string s3]
theorem zn6 (p:Option Addr):FnS (z00i p) F.a114 #[.pointer p]:=dV ⟨[],[],[],[]⟩ Go.Proofs.Tryz.func121 (by kernel_rfl)
def z00j (d:Option Addr) (name:ByteArray):Prog :=
AV F.a39 [Ad d,.string name] λl0 n1=>
Af n1 λn2=>
Ag (n2 == 0) λb3=>
An 0 [.bool b3]
theorem zn7 (d:Option Addr) (name:ByteArray):FnS (z00j d name) F.a115 #[.pointer d,.string name]:=dV ⟨[],[],[],[]⟩ Go.Proofs.Tryz.func122 (by kernel_rfl)
def z00e (p:Option Addr):Prog :=
AA p λa1=>
AP T.a13 a1 3 λn2=>
Aw F.a20 [Ac n2] λp3 n4=>
AA p λa6=>
AJ T.a26 a6 4 (Ad p3)<|
Ax F.a65 [] λp7=>
AA p λa9=>
AJ T.a30 a9 5 (Ad p7)<|
AZ 1 (
AG<|
AA p λa11=>
AL T.a27 (Addr.add a11 0) 1 λp12=>
Aa F.a112 [Ad p] λs13=>
AI<|
AV F.a39 [Ad p12,.string s13] λl14 n15=>
Af n15 λn16=>
AI<|
An 1 [l14.v]) λl17=>
Bh F.a52 [l17.v] λl18 b19=>
Ag b19 λb20=>
Ai (not b20) (
An 0 [Ac 0])<|
Ax F.a222 [l18.v] λp21=>
Bi F.a229 [Ad p21] λn22=>
Aa F.a228 [Ad p21,Ac 262144] λs23=>
Aa F.a228 [Ad p21,Ac 262144] λs24=>
Bj n22 λn25=>
Ab s23 λs26=>
Ab s24 λs27=>
Ah 1 (
Aj F.a224 [Ad p21] λn28=>
Ai (n28 != 0) (
An 1 [.bool true])<|
Aj F.a103 [Ad p] λn29=>
Ai (decide (n25>IntKind.wrap .u64 n29)) (
An 1 [.bool true])<|
Aj F.a102 [Ad p] λn30=>
An 1 [.bool (decide (Aq n25<n30))]) λb31=>
Ai b31 (
An 0 [Ac 0])<|
AE (convert T.a51 T.a46 (.string s26)) λl32=>
AA p λa34=>
AP T.a13 a34 3 λn35=>
Aw F.a19 [l32.v,Ac n35] λp36 n37=>
Af n37 λn38=>
Ah 1 (
Ai (n38 != 0) (
An 1 [.bool true])<|
Aj F.a25 [Ad p36] λn39=>
An 1 [.bool (decide (n39>Aq n25))]) λb40=>
Ai b40 (
An 0 [Ac 0])<|
AE (convert T.a51 T.a46 (.string s27)) λl41=>
Aw F.a64 [l41.v] λp42 n43=>
Af n43 λn44=>
Ah 1 (
Ai (n44 != 0) (
An 1 [.bool true])<|
Aj F.a72 [Ad p42] λn45=>
An 1 [.bool (decide (n45>Aq n25))]) λb46=>
Ai b46 (
An 0 [Ac 0])<|
AA p λa48=>
AJ T.a26 a48 4 (Ad p36)<|
AA p λa50=>
AJ T.a30 a50 5 (Ad p42)<|
Af (Aq n25) λn51=>
An 0 [Ac n51]
theorem zn2 (p:Option Addr):FnS (z00e p) F.a110 #[.pointer p]:=dV ⟨[],[],[(3,[(3,.one .slc)]),(9,[(71,.one .bool)]),(12,[(90,.one .bool)]),(15,[(105,.one .bool)])],[]⟩ Go.Proofs.Tryz.func124 (by kernel_rfl)
def z00h (p:Option Addr) (b_0 b_1 b_2 b_3 b_4 b_5:Int) (b_6:Sl):Prog :=
Av T.a0 (AF b_0 b_1 b_2 b_3 b_4 b_5 b_6) λa0=>
AG<|
AA p λa2=>
Ay T.a26 a2 4 λp3=>
AH T.a0 a0 λn4 n5 n6 n7 n8 n9 l10=>
Aj F.a27 [Ad p3,AF n4 n5 n6 n7 n8 n9 l10] λn11=>
AI<|
AG<|
AA p λa13=>
Ay T.a30 a13 5 λp14=>
AH T.a0 a0 λn15 n16 n17 n18 n19 n20 l21=>
Aj F.a76 [Ad p14,AF n15 n16 n17 n18 n19 n20 l21] λn22=>
AI<|
An 0 []
theorem zn5 (p:Option Addr) (b_0 b_1 b_2 b_3 b_4 b_5:Int) (b_6:Sl):FnS (z00h p b_0 b_1 b_2 b_3 b_4 b_5 b_6) F.a113 #[.pointer p,.agg #[.int .i64 b_0,.int .i64 b_1,.int .i64 b_2,.int .i64 b_3,.int .i64 b_4,.int .i64 b_5,.slice b_6.a b_6.len b_6.cap]]:=dV ⟨[],[],[],[]⟩ Go.Proofs.Tryz.func126 (by kernel_rfl)
def z00c (p:Option Addr):Prog :=
Ai (Option.isNone p) (
An 0 [Ac 0])<|
AA p λa1=>
Ay T.a30 a1 5 λp2=>
Ak F.a73 [Ad p2] λl3=>
Ai ((Al l3) == 0) (
Aj F.a103 [Ad p] λn4=>
Af n4 λn5=>
An 0 [Ac n5])<|
AA p λa7=>
Ay T.a30 a7 5 λp8=>
Aj F.a75 [Ad p8] λn9=>
Aj F.a102 [Ad p] λn10=>
Af (if n10>n9 then n10 else n9) λn11=>
An 0 [Ac n11]
theorem zn0 (p:Option Addr):FnS (z00c p) F.a106 #[.pointer p]:=dV ⟨[],[],[],[]⟩ Go.Proofs.Tryz.func128 (by kernel_rfl)
def z07r (v:Option Addr) (b_0 b_1 b_2 b_3 b_4 b_5:Int) (b_6:Sl):Prog :=
Av T.a0 (AF b_0 b_1 b_2 b_3 b_4 b_5 b_6) λa0=>
Ai (Option.isNone v) (
An 0 [Ac 0])<|
Bk 1 (
AG<|
AA v λa2=>
Bl T.a22 a2 2 λm3=>
Bn T.a14 a0 1 λn4=>
Bn T.a13 a0 2 λn5=>
Bo (Instr.lookup T.a22 (.map m3) (AS n4 n5) true) λn6 n7 n8 n9 b10=>
Ao T.a18 λa11=>
AI<|
Ar T.a18 a11 (Bp n6 n7 n8 n9)<|
Ag b10 λb12=>
AI<|
An 1 [Az a11,.bool b12]) λa13 b14=>
AH T.a0 a0 λn15 n16 n17 n18 n19 n20 l21=>
Am F.a81 [AF n15 n16 n17 n18 n19 n20 l21] λb22=>
Ba b22 (
An 0 [Ac 3])<|
AG<|
Bn T.a14 a0 0 λn24=>
Aj F.a75 [Ad v] λn25=>
Ag (decide (n24>=n25)) λb26=>
AI<|
Ai b26 (
An 0 [Ac 0])<|
AP T.a13 a0 4 λn27=>
AQ ((n27 == 1 && b14)=true) T.a14 a0 0 λn28=>
AQ ((n27 == 1 && b14)=true) T.a14 a13 2 λn29=>
Ba (n27 == 1 && b14 && decide (n28>=n29)) (
An 0 [Ac 2])<|
An 0 [Ac 1]
theorem zue (v:Option Addr) (b_0 b_1 b_2 b_3 b_4 b_5:Int) (b_6:Sl):FnS (z07r v b_0 b_1 b_2 b_3 b_4 b_5 b_6) F.a69 #[.pointer v,.agg #[.int .i64 b_0,.int .i64 b_1,.int .i64 b_2,.int .i64 b_3,.int .i64 b_4,.int .i64 b_5,.slice b_6.a b_6.len b_6.cap]]:=dV ⟨[],[],[(3,[(5,.one .adr),(6,.one .bool)])],[]⟩ Go.Proofs.Tryz.func129 (by kernel_rfl)
def z06o (from_:Int) (l:Sl):Prog :=
AK 1 (
AT 2 (0,()) λn0=>
Ai (decide (n0<(Al l))) (
.ex [.adr] (c1 λa1=>0<=n0/\n0<(Al l)/\l.a=some a1) (u1 λa2=>
Bb T.a36 a2 (Int.toNat n0*5) λn3 s4 s5 b6 n7=>
Ao T.a36 λa8=>
Af n0 λn9=>
Ar T.a36 a8 (AB n3 s4 s5 b6 n7)<|
AG<|
AQ ((n9 == 0)=true) T.a14 a8 0 λn10=>
AQ ((n9 == 0 && decide (n10<from_))=false/\decide (n9>0)=true) T.a14 a8 0 λn11=>
.ex [.adr] (c1 λa12=>(n9 == 0 && decide (n10<from_))=false/\decide (n9>0)=true->0<=Aq (n9-1)/\Aq (n9-1)<(Al l)/\l.a=some a12) (u1 λa13=>
AQ ((n9 == 0 && decide (n10<from_))=false/\decide (n9>0)=true) T.a14 (Addr.add a13 (Int.toNat (Aq (n9-1))*5)) 0 λn14=>
AI<|
Ai (n9 == 0 && decide (n10<from_) || decide (n9>0) && decide (n11<=n14)) (
An 0 [.bool false])<|
An 2 [Ac (Aq (n0+1))])))<|
An 1 [])<|
An 0 [.bool true]
theorem ztb (from_:Int) (l:Sl):FnS (z06o from_ l) F.a18 #[.int .i64 from_,.slice l.a l.len l.cap]:=dV ⟨[],[(0,[])],[],[(0,[(9,.one (.int .i64))])]⟩ Go.Proofs.Tryz.func132 (by kernel_rfl)
def z06n (t:Option Addr) (r_0:Int) (r_1 r_2:ByteArray) (r_3:Bool) (r_4:Int):Prog :=
Av T.a36 (AB r_0 r_1 r_2 r_3 r_4) λa0=>
AC T.a51 (Addr.add a0 1) 0 λs1=>
Bd F.a12 [Ad t,.string s1] λn2 b3=>
Af n2 λn4=>
Ag b3 λb5=>
Bq (b5=true) T.a3 (Addr.add a0 1) 2 λb6=>
Ag (b5 && b6) λb7=>
AK 1 (
Ai b7 (
AA t λa9=>
AO T.a43 a9 1 λl10=>
Ak F.a167 [l10.v,Ac n4,Ac (Aq (n4+1))] λl11=>
AA t λa13=>
AJ T.a43 a13 1 l11.v<|
An 1 [])<|
Ag b5 λb14=>
AK 2 (
Ai b14 (
AG<|
AA t λa16=>
AO T.a43 a16 1 λl17=>
Bc T.a36 a0 λn18 s19 s20 b21 n22=>
.ex [.adr] (c1 λa23=>0<=n4/\n4<(Al l17)/\l17.a=some a23) (u1 λa24=>
AJ T.a36 a24 (Int.toNat n4*5) (AB n18 s19 s20 b21 n22)<|
AI<|
An 2 []))<|
Br T.a3 (Addr.add a0 1) 2 λb25=>
Ag (not b25) λb26=>
AK 3 (
Ai b26 (
AK 4 (
AG<|
AA t λa28=>
Be T.a43 a28 1 λl29=>
Bc T.a36 a0 λn30 s31 s32 b33 n34=>
AE (Instr.buildSlice T.a43 1 #[(0,AB n30 s31 s32 b33 n34)]) λl35=>
AI<|
Ak F.a168 [l29.v,Ac n4,l35.v] λl36=>
AA t λa38=>
AJ T.a43 a38 1 l36.v<|
AI<|
An 4 [])<|
An 3 [])<|
An 3 [])<|
An 2 [])<|
An 1 [])<|
AP T.a14 a0 0 λn39=>
AA t λa41=>
AJ T.a14 a41 0 (Ac (Aq (n39+1)))<|
An 0 []
theorem zta (t:Option Addr) (r_0:Int) (r_1 r_2:ByteArray) (r_3:Bool) (r_4:Int):FnS (z06n t r_0 r_1 r_2 r_3 r_4) F.a15 #[.pointer t,.agg #[.int .i64 r_0,.string r_1,.string r_2,.bool r_3,.int .i64 r_4]]:=dV ⟨[(590007579982553940009,[]),(590295739989961474080,[]),(590295810350115717134,[])],[],[(7,[])],[]⟩ Go.Proofs.Tryz.func133 (by kernel_rfl)
def z00f (p:Option Addr) (b_0 b_1 b_2 b_3 b_4 b_5:Int) (b_6:Sl):Prog :=
Av T.a0 (AF b_0 b_1 b_2 b_3 b_4 b_5 b_6) λa0=>
Aj F.a103 [Ad p] λn1=>
AJ T.a14 a0 0 (Ac n1)<|
AH T.a0 a0 λn2 n3 n4 n5 n6 n7 l8=>
Bs F.a107 [Ad p,AF n2 n3 n4 n5 n6 n7 l8] λb9 n10 n11=>
Ao T.a7 λa12=>
Ar T.a7 a12 (Bt b9 n10)<|
Af n11 λn13=>
Bq ((n13 != 0)=false) T.a3 a12 0 λb14=>
Ai (n13 != 0 || b14) (
AG<|
AP T.a14 a12 1 λn15=>
Br T.a3 a12 0 λb16=>
Af n15 λn17=>
Ag b16 λb18=>
Af n13 λn19=>
AI<|
An 0 [Ac n17,.bool b18,Ac n19])<|
Bu 1 (
AG<|
AA p λa21=>
AL T.a32 (Addr.add a21 0) 0 λp22=>
AH T.a0 a0 λn23 n24 n25 n26 n27 n28 l29=>
AE (Instr.buildSlice T.a37 1 #[(0,AF n23 n24 n25 n26 n27 n28 l29)]) λl30=>
AI<|
Ae F.a135 [Ad p22,l30.v] λn31 n32=>
Af n31 λn33=>
Af n32 λn34=>
AI<|
An 1 [Ac n34,Ac n33]) λn35 n36=>
Ap 1 (
Ai (n35 == 0) (
AA p λa38=>
Ay T.a32 (Addr.add a38 0) 0 λp39=>
Aj F.a143 [Ad p39] λn40=>
Af n40 λn41=>
An 1 [Ac n41])<|
An 1 [Ac n35]) λn42=>
Ai (n42 != 0) (
Af n42 λn43=>
An 0 [Ac 0,.bool false,Ac n43])<|
AJ T.a14 a0 0 (Ac n36)<|
AH T.a0 a0 λn44 n45 n46 n47 n48 n49 l50=>
Bv F.a117 [AF n44 n45 n46 n47 n48 n49 l50] λn51 n52 n53 n54 n55 n56 l57=>
AU F.a113 [Ad p,AF n51 n52 n53 n54 n55 n56 l57]<|
Af n36 λn58=>
An 0 [Ac n58,.bool false,Ac 0]
theorem zn3 (p:Option Addr) (b_0 b_1 b_2 b_3 b_4 b_5:Int) (b_6:Sl):FnS (z00f p b_0 b_1 b_2 b_3 b_4 b_5 b_6) F.a111 #[.pointer p,.agg #[.int .i64 b_0,.int .i64 b_1,.int .i64 b_2,.int .i64 b_3,.int .i64 b_4,.int .i64 b_5,.slice b_6.a b_6.len b_6.cap]]:=dV ⟨[(2269814212195778602,[(8,.one (.int .i64))])],[],[(5,[(8,.one (.int .i64)),(9,.one (.int .i64))])],[]⟩ Go.Proofs.Tryz.func142 (by kernel_rfl)
def z00k (b_0 b_1 b_2 b_3 b_4 b_5:Int) (b_6:Sl):Prog :=
Av T.a0 (AF b_0 b_1 b_2 b_3 b_4 b_5 b_6) λa0=>
AP T.a13 a0 4 λn1=>
AQ ((n1 == 2)=false) T.a13 a0 4 λn2=>
Ag (n1 == 2 || n2 == 3) λb3=>
An 0 [.bool b3]
theorem zn8 (b_0 b_1 b_2 b_3 b_4 b_5:Int) (b_6:Sl):FnS (z00k b_0 b_1 b_2 b_3 b_4 b_5 b_6) F.a116 #[.agg #[.int .i64 b_0,.int .i64 b_1,.int .i64 b_2,.int .i64 b_3,.int .i64 b_4,.int .i64 b_5,.slice b_6.a b_6.len b_6.cap]]:=dV ⟨[],[],[],[]⟩ Go.Proofs.Tryz.func144 (by kernel_rfl)
def z06k (t:Option Addr) (key:ByteArray):Prog :=
Aj F.a13 [Ad t,.string key] λn0=>
Af n0 λn1=>
AG<|
AA t λa3=>
AO T.a43 a3 1 λl4=>
AX (decide (n1<(Al l4))=true) t λa6=>
Bw (decide (n1<(Al l4))=true) T.a43 a6 1 λl7=>
.ex [.adr] (c1 λa8=>decide (n1<(Al l4))=true->0<=n1/\n1<(Al l7)/\l7.a=some a8) (u1 λa9=>
Bg (decide (n1<(Al l4))=true) T.a51 (Addr.add (Addr.add a9 (Int.toNat n1*5)) 1) 0 λs10=>
Af n1 λn11=>
Ag (decide (n1<(Al l4)) && ByteArray.toList s10 == ByteArray.toList key) λb12=>
AI<|
An 0 [Ac n11,.bool b12])
theorem zt6 (t:Option Addr) (key:ByteArray):FnS (z06k t key) F.a12 #[.pointer t,.string key]:=dV ⟨[],[],[],[]⟩ Go.Proofs.Tryz.func146 (by kernel_rfl)
def z099 (p:Option Addr):Prog :=
AA p λa1=>
Ay T.a32 (Addr.add a1 0) 0 λp2=>
Ak F.a142 [Ad p2] λl3=>
Ap 1 (
AM 2 (0,(0,())) λn4 n5=>
Ai (decide (n5<(Al l3))) (
.ex [.adr] (c1 λa6=>0<=n5/\n5<(Al l3)/\l3.a=some a6) (u1 λa7=>
AP T.a14 a7 (Int.toNat n5*1) λn8=>
Af n5 λn9=>
Af n8 λn10=>
Ah 3 (
Ai (decide (n9>0)) (
Aj F.a106 [Ad p] λn11=>
An 3 [.bool (decide (n10<=n11))])<|
An 3 [.bool false]) λb12=>
Ap 3 (
Ai b12 (
Af n10 λn13=>
An 3 [Ac n13])<|
An 3 [Ac n4]) λn14=>
An 2 [Ac n14,Ac (Aq (n5+1))]))<|
An 1 [Ac n4]) λn15=>
Af n15 λn16=>
An 0 [Ac n16]
def z098 (p:Option Addr):Prog :=
Ai (Option.isNone p) (
An 0 [Ac 1])<|
AA p λa1=>
Ay T.a26 a1 4 λp2=>
Aj F.a109 [Ad p,Ad p2] λn3=>
Af n3 λn4=>
An 0 [Ac n4]
def zf5 (horizon:Int) (l:Sl):Prog :=
.call F.a17 [l.v] sM (u1 λm0=>
AZ 1 (
Bf 2 (⟨none,0,0⟩,(0,())) λl1 n2=>
Ai (decide (n2<(Al l))) (
AZ 3 (
.ex [.adr] (c1 λa3=>0<=n2/\n2<(Al l)/\l.a=some a3) (u1 λa4=>
Bb T.a36 a4 (Int.toNat n2*5) λn5 s6 s7 b8 n9=>
Ao T.a36 λa10=>
Af n2 λn11=>
Ar T.a36 a10 (AB n5 s6 s7 b8 n9)<|
AC T.a51 (Addr.add a10 1) 0 λs12=>
Bx (Instr.lookup T.a23 (.map m0) (.string s12) false) λn13=>
Bq ((n13 != n11)=false) T.a3 (Addr.add a10 1) 2 λb14=>
AQ ((n13 != n11)=false/\b14=true) T.a14 (Addr.add a10 1) 3 λn15=>
Ai (n13 != n11 || b14 && decide (n15<horizon)) (
An 3 [l1.v])<|
Bc T.a36 a10 λn16 s17 s18 b19 n20=>
AE (Instr.buildSlice T.a43 1 #[(0,AB n16 s17 s18 b19 n20)]) λl21=>
AE (app T.a43 T.a43 T.a43 l1.v l21.v) λl22=>
An 3 [l22.v])) λl23=>
An 2 [l23.v,Ac (Aq (n2+1))])<|
An 1 [l1.v]) λl24=>
An 0 [l24.v])
def zf6 (l:Sl):Prog :=
Ah 1 (
.ex [.adr] (c1 λa0=>decide ((Al l)>0)=true->(0:Int)<=0/\0<(Al l)/\l.a=some a0) (u1 λa1=>
AQ (decide ((Al l)>0)=true) T.a14 (Addr.add a1 0) 0 λn2=>
Ai (decide ((Al l)>0)) (
Am F.a18 [Ac n2,l.v] λb3=>
An 1 [.bool (not b3)])<|
An 1 [.bool false])) λb4=>
Ai b4 (
An 0 [.slice none 0 0,Ac 8])<|
Ao T.a0 λa5=>
Ar T.a0 a5 (.agg #[Ac 0,Ac 0,Ac 0,Ac 0,Ac 0,Ac 0,.slice none 0 0])<|
AZ 1 (
Bf 2 (⟨none,0,0⟩,(0,())) λl6 n7=>
Ai (decide (n7<(Al l))) (
.ex [.adr] (c1 λa8=>0<=n7/\n7<(Al l)/\l.a=some a8) (u1 λa9=>
Bb T.a36 a9 (Int.toNat n7*5) λn10 s11 s12 b13 n14=>
Ao T.a36 λa15=>
Ar T.a36 a15 (AB n10 s11 s12 b13 n14)<|
AH T.a0 a5 λn16 n17 n18 n19 n20 n21 l22=>
Bc T.a36 a15 λn23 s24 s25 b26 n27=>
Am F.a16 [AF n16 n17 n18 n19 n20 n21 l22,AB n23 s24 s25 b26 n27] λb28=>
AZ 3 (
Ai (not b28) (
AO T.a38 a5 6 λl29=>
AZ 4 (
Ai (decide ((Al l29)>0)) (
AH T.a0 a5 λn30 n31 n32 n33 n34 n35 l36=>
AE (Instr.buildSlice T.a37 1 #[(0,AF n30 n31 n32 n33 n34 n35 l36)]) λl37=>
AE (app T.a37 T.a37 T.a37 l6.v l37.v) λl38=>
An 4 [l38.v])<|
An 4 [l6.v]) λl39=>
AP T.a14 a15 0 λn40=>
AP T.a14 (Addr.add a15 1) 3 λn41=>
Ar T.a0 a5 (.agg #[Ac n40,Ac 0,Ac 0,Ac 0,Ac 0,Ac n41,.slice none 0 0])<|
An 3 [l39.v])<|
An 3 [l6.v]) λl42=>
AO T.a38 a5 6 λl43=>
By T.a2 a15 1 λs44 s45 b46 n47=>
AE (Instr.buildSlice T.a38 1 #[(0,AD s44 s45 b46 n47)]) λl48=>
AE (app T.a38 T.a38 T.a38 l43.v l48.v) λl49=>
AJ T.a38 a5 6 l49.v<|
An 2 [l42.v,Ac (Aq (n7+1))]))<|
An 1 [l6.v]) λl50=>
AO T.a38 a5 6 λl51=>
AZ 1 (
Ai (decide ((Al l51)>0)) (
AH T.a0 a5 λn52 n53 n54 n55 n56 n57 l58=>
AE (Instr.buildSlice T.a37 1 #[(0,AF n52 n53 n54 n55 n56 n57 l58)]) λl59=>
AE (app T.a37 T.a37 T.a37 l50.v l59.v) λl60=>
An 1 [l60.v])<|
An 1 [l50.v]) λl61=>
AK 1 (
AT 2 (0,()) λn62=>
Ai (decide (n62<(Al l61))) (
.ex [.adr] (c1 λa63=>0<=n62/\n62<(Al l61)/\l61.a=some a63) (u1 λa64=>
AN T.a0 a64 (Int.toNat n62*7) λn65 n66 n67 n68 n69 n70 l71=>
Ao T.a0 λa72=>
Ar T.a0 a72 (AF n65 n66 n67 n68 n69 n70 l71)<|
AH T.a0 a72 λn73 n74 n75 n76 n77 n78 l79=>
Aj F.a124 [AF n73 n74 n75 n76 n77 n78 l79] λn80=>
Af n80 λn81=>
Ai (n81 != 0) (
Af n81 λn82=>
An 0 [.slice none 0 0,Ac n82])<|
An 2 [Ac (Aq (n62+1))]))<|
An 1 [])<|
An 0 [l61.v,Ac 0]
def z0ak (v:Option Addr) (offset:Int):Prog :=
Av T.a14 (Ac offset) λa0=>
Ai (Option.isNone v) (
An 0 [Ac 0])<|
AA v λa2=>
Bz T.a22 a2 2 λm3=>
Bx (Builtin.len_ #[T.a22] T.a13 #[.map m3]) λn4=>
Af n4 λn5=>
AA v λa7=>
Bz T.a22 a7 2 λm8=>
AU F.a93 [.map m8,.func (Fn.func 223) #[] #[Az a0]]<|
AA v λa10=>
Bz T.a22 a10 2 λm11=>
Bx (Builtin.len_ #[T.a22] T.a13 #[.map m11]) λn12=>
Af (Aq (n5-n12)) λn13=>
An 0 [Ac n13]
def z06l (t:Option Addr) (key:ByteArray):Prog :=
Av T.a25 (Ad t) λa0=>
Av T.a51 (.string key) λa1=>
B0 T.a25 a0 λp2=>
AA p2 λa4=>
AO T.a43 a4 1 λl5=>
Aj F.a213 [Ac (Al l5),.func (Fn.func 224) #[] #[Az a0,Az a1]] λn6=>
Af n6 λn7=>
An 0 [Ac n7]
theorem zt7 (t:Option Addr) (key:ByteArray):FnS (z06l t key) F.a13 #[.pointer t,.string key]:=dV ⟨[],[],[],[]⟩ Go.Proofs.Tryz.func154 (by kernel_rfl)
def z06p (most:Int):Prog :=
Ai (decide (most<1) || decide (most>4096)) (
An 0 [Ad none,Ac 2])<|
B1 (Instr.makeMap T.a20 none) λm0=>
Av T.a6 (.agg #[Ac most,Ac 0,.map m0]) λa1=>
An 0 [Az a1,Ac 0]
theorem ztc (most:Int):FnS (z06p most) F.a20 #[.int .i64 most]:=dV ⟨[],[],[],[]⟩ Go.Proofs.Tryz.func182 (by kernel_rfl)
def zq6  : Prog :=
.act (Instr.makeMap T.a21 none) sM (u1 λm0 =>
.act (Instr.makeMap T.a22 none) sM (u1 λm1 =>
.act (Instr.box T.a16 (.agg #[.int .i64 0,.map m0,.map m1])) sA (u1 λa2 =>
.done 0 [.pointer (some a2)])))
theorem zjg :FnS (zq6 ) F.a65 #[]:=dV ⟨[],[],[],[]⟩ Go.Proofs.Tryz.func183 (by kernel_rfl)
def z00g (p:Option Addr):Prog :=
AA p λa1=>
AC T.a51 (Addr.add a1 0) 2 λs2=>
.must (((ByteArray.size s2+5:Nat):Int)<=9223372036854775807) <|
Ab (s2++(ByteArray.mk #[46,115,110,97,112])) λs3=>
An 0 [.string s3]
theorem zn4 (p:Option Addr):FnS (z00g p) F.a112 #[.pointer p]:=dV ⟨[],[],[],[]⟩ Go.Proofs.Tryz.func184 (by kernel_rfl)
def z00a (p:Option Addr):Prog :=
Ai (Option.isNone p) (
An 0 [Ac 0])<|
AA p λa1=>
Ay T.a32 (Addr.add a1 0) 0 λp2=>
Aj F.a137 [Ad p2] λn3=>
Af n3 λn4=>
An 0 [Ac n4]
theorem zmy (p:Option Addr):FnS (z00a p) F.a103 #[.pointer p]:=dV ⟨[],[],[],[]⟩ Go.Proofs.Tryz.func187 (by kernel_rfl)
def z0aa (raw:Sl) (most:Int):Prog :=
Aw F.a20 [Ac most] λp0 n1=>
Af n1 λn2=>
Ai (n2 != 0) (
Af n2 λn3=>
An 0 [Ad none,Ac n3])<|
Bh F.a52 [raw.v] λl4 b5=>
Ag b5 λb6=>
Ai (not b6) (
An 0 [Ad none,Ac 6])<|
Ax F.a222 [l4.v] λp7=>
Aj F.a33 [Ad p7,Ac 1099511627777] λn8=>
AA p0 λa10=>
AJ T.a14 a10 1 (Ac n8)<|
Aj F.a33 [Ad p7,Ac 4096] λn11=>
Af n11 λn12=>
AA p0 λa14=>
AP T.a14 a14 1 λn15=>
Ai (decide (n15>1099511627777) || decide (n12>most)) (
An 0 [Ad none,Ac 6])<|
AK 1 (
AM 2 (0,(0,())) λn16 n17=>
Ai (decide (n17<n12)) (
Aj F.a33 [Ad p7,Ac 1048576] λn18=>
Aj F.a33 [Ad p7,Ac 32768] λn19=>
Aj F.a33 [Ad p7,Ac 2147483647] λn20=>
Aj F.a33 [Ad p7,Ac 64] λn21=>
Aj F.a33 [Ad p7,Ac 1099511627776] λn22=>
Aj F.a230 [Ad p7,Ac (-1),Ac 1099511627776] λn23=>
Aj F.a33 [Ad p7,Ac 1099511627776] λn24=>
Ao T.a5 λa25=>
Ar T.a5 a25 (B2 n18 n19 n20 n21 n22 n23 n24)<|
Ah 3 (
AG<|
Aj F.a225 [Ad p7] λn26=>
B3 ((n26 != 0)=false) T.a5 a25 λn27 n28 n29 n30 n31 n32 n33=>
AX ((n26 != 0)=false) p0 λa35=>
AQ ((n26 != 0)=false) T.a14 a35 1 λn36=>
Ai (n26 != 0) (
AI<|
An 3 [.bool true])<|
Am F.a32 [B2 n27 n28 n29 n30 n31 n32 n33,Ac n36] λb37=>
AQ (not b37=false) T.a14 a25 0 λn38=>
AI<|
An 3 [.bool (not b37 || decide (n38<=n16))]) λb39=>
Ai b39 (
An 0 [Ad none,Ac 6])<|
AG<|
AA p0 λa41=>
Bz T.a20 a41 2 λm42=>
AP T.a14 a25 0 λn43=>
B4 T.a5 a25 λn44 n45 n46 n47 n48 n49 n50=>
B5 (Instr.mapUpdate T.a20 (.map m42) (Ac n43) (B2 n44 n45 n46 n47 n48 n49 n50))<|
AI<|
AP T.a14 a25 0 λn51=>
Af n51 λn52=>
An 2 [Ac n52,Ac (Aq (n17+1))])<|
An 1 [])<|
Aj F.a224 [Ad p7] λn53=>
Ai (n53 != 0) (
An 0 [Ad none,Ac 6])<|
An 0 [Ad p0,Ac 0]
def z0ac (t:Option Addr):Prog :=
Ai (Option.isNone t) (
An 0 [Ac 0])<|
AA t λa1=>
AP T.a14 a1 1 λn2=>
Af n2 λn3=>
An 0 [Ac n3]
def z0ah (raw:Sl):Prog :=
Bh F.a52 [raw.v] λl0 b1=>
Ag b1 λb2=>
Ai (not b2) (
An 0 [Ad none,Ac 6])<|
Ax F.a222 [l0.v] λp3=>
Ax F.a65 [] λp4=>
Aj F.a83 [Ad p3,Ac 1099511627777] λn5=>
AA p4 λa7=>
AJ T.a14 a7 0 (Ac n5)<|
Ah 1 (
AA p4 λa9=>
AP T.a14 a9 0 λn10=>
Ai (decide (n10>1099511627777)) (
An 1 [.bool true])<|
Am F.a79 [Ad p4,Ad p3] λb11=>
Ai (not b11) (
An 1 [.bool true])<|
Am F.a77 [Ad p4,Ad p3] λb12=>
Ai (not b12) (
An 1 [.bool true])<|
Aj F.a224 [Ad p3] λn13=>
An 1 [.bool (n13 != 0)]) λb14=>
Ai b14 (
An 0 [Ad none,Ac 6])<|
An 0 [Ad p4,Ac 0]
def z0al (v:Option Addr):Prog :=
Ai (Option.isNone v) (
An 0 [Ac 0])<|
AA v λa1=>
AP T.a14 a1 0 λn2=>
Af n2 λn3=>
An 0 [Ac n3]
def z06t (t:Option Addr) (b_0 b_1 b_2 b_3 b_4 b_5:Int) (b_6:Sl):Prog :=
Av T.a0 (AF b_0 b_1 b_2 b_3 b_4 b_5 b_6) λa0=>
AH T.a0 a0 λn1 n2 n3 n4 n5 n6 l7=>
Bs F.a24 [Ad t,AF n1 n2 n3 n4 n5 n6 l7] λb8 n9 n10=>
Ao T.a7 λa11=>
Ar T.a7 a11 (Bt b8 n9)<|
Af n10 λn12=>
Ba (n12 != 0) (
Af n12 λn14=>
An 0 [Ac n14])<|
Br T.a3 a11 0 λb15=>
Ba b15 (
An 0 [Ac 4])<|
AG<|
AP T.a14 a0 0 λn17=>
AA t λa19=>
AP T.a14 a19 1 λn20=>
Ag (decide (n17<n20)) λb21=>
AI<|
Ai b21 (
An 0 [Ac 8])<|
AH T.a0 a0 λn22 n23 n24 n25 n26 n27 l28=>
Aj F.a122 [AF n22 n23 n24 n25 n26 n27 l28] λn29=>
AA t λa31=>
AJ T.a14 a31 1 (Ac n29)<|
AP T.a14 a0 1 λn32=>
Ai (n32 == 0) (
An 0 [Ac 0])<|
AP T.a14 a0 1 λn33=>
.call F.a29 [Ad t,Ac n33] (.tup [.agg [.int .i64,.int .i64,.int .i64,.int .i64,.int .i64,.int .i64,.int .i64],.one .bool]) (u8 λ(n34 n35 n36 n37 n38 n39 n40:Int) b41=>
Ao T.a5 λa42=>
Ar T.a5 a42 (B2 n34 n35 n36 n37 n38 n39 n40)<|
Ag b41 λb43=>
AP T.a14 a0 5 λn44=>
Af n44 λn45=>
Ap 1 (
Ai b43 (
AP T.a14 a42 6 λn46=>
Af (if n46>n45 then n46 else n45) λn47=>
An 1 [Ac n47])<|
An 1 [Ac n45]) λn48=>
AP T.a13 a0 4 λn49=>
AK 1 (
AK 2 (
Ag (n49 == 2) λb50=>
Ah 3 (
Ai b50 (
An 3 [.bool b50])<|
Ag (n49 == 3) λb51=>
An 3 [.bool b51]) λb52=>
Ai b52 (
AG<|
AA t λa54=>
Bz T.a20 a54 2 λm55=>
AP T.a14 a0 1 λn56=>
AP T.a14 a0 1 λn57=>
AP T.a13 a0 2 λn58=>
B5 (Instr.mapUpdate T.a20 (.map m55) (Ac n56) (.agg #[Ac n57,Ac (Aq (n58+1)),Ac 0,Ac 0,Ac 0,Ac (-1),Ac n48]))<|
AI<|
An 0 [Ac 0])<|
Ba (n49 == 1) (
B4 T.a5 a42 λn60 n61 n62 n63 n64 n65 n66=>
Am F.a22 [B2 n60 n61 n62 n63 n64 n65 n66] λb67=>
AK 3 (
Ai (not b67) (
AP T.a14 a0 0 λn68=>
AJ T.a14 a42 5 (Ac n68)<|
An 3 [])<|
An 3 [])<|
An 2 [])<|
An 2 [])<|
AG<|
AA t λa70=>
Bz T.a20 a70 2 λm71=>
AP T.a14 a0 1 λn72=>
AP T.a14 a0 1 λn73=>
AP T.a13 a0 2 λn74=>
AP T.a13 a0 3 λn75=>
AO T.a38 a0 6 λl76=>
AP T.a14 a0 0 λn77=>
AP T.a14 a42 5 λn78=>
B5 (Instr.mapUpdate T.a20 (.map m71) (Ac n72) (.agg #[Ac n73,Ac n74,Ac n75,Ac (Al l76),Ac n77,Ac n78,Ac n48]))<|
AI<|
An 1 [])<|
An 0 [Ac 0])
theorem ztg (t:Option Addr) (b_0 b_1 b_2 b_3 b_4 b_5:Int) (b_6:Sl):FnS (z06t t b_0 b_1 b_2 b_3 b_4 b_5 b_6) F.a27 #[.pointer t,.agg #[.int .i64 b_0,.int .i64 b_1,.int .i64 b_2,.int .i64 b_3,.int .i64 b_4,.int .i64 b_5,.slice b_6.a b_6.len b_6.cap]]:=dV ⟨[(34587645138207506480,[(9,.one (.int .i64))]),(737869762948382064695,[(55,.one .bool)]),(2166395068749415481073467467,[])],[(1,[]),(4,[])],[],[]⟩ Go.Proofs.Tryz.func192 (by kernel_rfl)
def z07u (v:Option Addr) (b_0 b_1 b_2 b_3 b_4 b_5:Int) (b_6:Sl):Prog :=
Av T.a0 (AF b_0 b_1 b_2 b_3 b_4 b_5 b_6) λa0=>
AH T.a0 a0 λn1 n2 n3 n4 n5 n6 l7=>
Aj F.a71 [Ad v,AF n1 n2 n3 n4 n5 n6 l7] λn8=>
Af n8 λn9=>
Ai (n9 != 0) (
Af n9 λn10=>
An 0 [Ac n10])<|
AH T.a0 a0 λn11 n12 n13 n14 n15 n16 l17=>
Aj F.a122 [AF n11 n12 n13 n14 n15 n16 l17] λn18=>
AA v λa20=>
AJ T.a14 a20 0 (Ac n18)<|
Bk 1 (
AG<|
AA v λa22=>
Bl T.a21 a22 1 λm23=>
Bn T.a14 a0 1 λn24=>
Bo (Instr.lookup T.a21 (.map m23) (Ac n24) true) λn25 n26 n27 n28 b29=>
Ao T.a18 λa30=>
AI<|
Ar T.a18 a30 (Bp n25 n26 n27 n28)<|
Ag b29 λb31=>
AI<|
An 1 [Az a30,.bool b31]) λa32 b33=>
AP T.a13 a0 4 λn34=>
Ag (n34 == 1 && not b33) λb35=>
AK 1 (
Ai b35 (
AG<|
AA v λa37=>
Bz T.a21 a37 1 λm38=>
AP T.a14 a0 1 λn39=>
AP T.a14 a0 1 λn40=>
AP T.a13 a0 2 λn41=>
AP T.a14 a0 0 λn42=>
B5 (Instr.mapUpdate T.a21 (.map m38) (Ac n39) (.agg #[Ac n40,Ac n41,Ac n42,Ac (-1)]))<|
AI<|
An 1 [])<|
AH T.a0 a0 λn43 n44 n45 n46 n47 n48 l49=>
Am F.a81 [AF n43 n44 n45 n46 n47 n48 l49] λb50=>
Ag (b50 && b33) λb51=>
AK 2 (
Ai b51 (
AG<|
AA v λa53=>
Bz T.a21 a53 1 λm54=>
AP T.a14 a0 1 λn55=>
B6 (Builtin.delete_ #[T.a21,T.a14] T.a53 #[.map m54,Ac n55])<|
AI<|
AP T.a13 a0 4 λn56=>
AK 3 (
Ai (n56 == 3) (
AP T.a14 a0 0 λn57=>
AJ T.a14 a32 3 (Ac n57)<|
AG<|
AA v λa59=>
Bz T.a22 a59 2 λm60=>
AR T.a17 a32 0 λn61 n62=>
B7 T.a18 a32 λn63 n64 n65 n66=>
B5 (Instr.mapUpdate T.a22 (.map m60) (AS n61 n62) (Bp n63 n64 n65 n66))<|
AI<|
An 3 [])<|
An 3 [])<|
An 2 [])<|
An 2 [])<|
An 1 [])<|
An 0 [Ac 0]
theorem zuj (v:Option Addr) (b_0 b_1 b_2 b_3 b_4 b_5:Int) (b_6:Sl):FnS (z07u v b_0 b_1 b_2 b_3 b_4 b_5 b_6) F.a76 #[.pointer v,.agg #[.int .i64 b_0,.int .i64 b_1,.int .i64 b_2,.int .i64 b_3,.int .i64 b_4,.int .i64 b_5,.slice b_6.a b_6.len b_6.cap]]:=dV ⟨[(309182778366441411431104577,[]),(309484419525534710019129395,[]),(309485009820782118771359773,[])],[],[(5,[(6,.one .adr),(7,.one .bool)])],[]⟩ Go.Proofs.Tryz.func193 (by kernel_rfl)
def zzh (v:Option Addr):Prog :=
Ai (Option.isNone v) (
An 0 [.slice none 0 0])<|
AA v λa1=>
Bz T.a21 a1 1 λm2=>
B8 (Instr.range T.a21 (.map m2)) λa3=>
AZ 1 (
.loop 2 [.one .slc] (⟨none,0,0⟩,()) (u1 λl4=>
.next (Instr.next (Az a3) false T.a53) ([.one (.int .i64),.agg [.int .i64,.int .i64,.int .i64,.int .i64]]) (u5 λ(n5 n6 n7 n8 n9:Int)=>
.act (Instr.entry (Az a3)) (.tup [.one (.int .i64),.agg [.int .i64,.int .i64,.int .i64,.int .i64]]) (u5 λ(n10 n11 n12 n13 n14:Int)=>
Ao T.a18 λa15=>
Ar T.a18 a15 (Bp n11 n12 n13 n14)<|
B7 T.a18 a15 λn16 n17 n18 n19=>
.call F.a80 [Bp n16 n17 n18 n19] (sG [.int .i64,.int .i64,.int .i64,.int .i64]) (u4 λ(n20 n21 n22 n23:Int)=>
AE (Instr.buildSlice T.a41 1 #[(0,Bp n20 n21 n22 n23)]) λl24=>
AE (app T.a41 T.a41 T.a41 l4.v l24.v) λl25=>
An 2 [l25.v]))) <|
An 1 [l4.v])) λl26=>
AU F.a170 [l26.v,.func (Fn.func 267) #[] #[]]<|
An 0 [l26.v]
theorem zug (v:Option Addr) {w:World} {R:List Value->World->Prop} (h:(zzh v).wp P (λ_=>True) w λe vs w'=>e=0/\R vs w') :
  Calls P F.a73 #[.pointer v] w λe w'=>∃ vs,e=.returned (z7v vs)/\R vs w' :=
 z96 (zh3 Go.Proofs.Tryz.func200 (by kernel_rfl) (by kernel_rfl) (by kernel_rfl)) zha mix [.val (.pointer v)] (by rw [show zhr P 25 ⟨zh9,[(13,[.one (.int .i64),.agg [.int .i64,.int .i64,.int .i64,.int .i64]]),(15,[.one (.int .i64),.agg [.int .i64,.int .i64,.int .i64,.int .i64]])]⟩ { cnd:=[],blk:=[(0,[(3,.one .slc)])],reg:=[],lps:=[(0,[(3,.one .slc)])] } [.tmp 2] (zaj Go.Proofs.Tryz.f200) [.val (.pointer v)]=zzh v from by kernel_rfl];exact h)
def zzi (v:Option Addr):Prog :=
Ai (Option.isNone v) (
An 0 [Ac 0])<|
AA v λa1=>
AP T.a14 a1 0 λn2=>
Af n2 λn3=>
AA v λa5=>
Bz T.a21 a5 1 λm6=>
B8 (Instr.range T.a21 (.map m6)) λa7=>
Ap 1 (
AT 2 (n3,()) λn8=>
.next (Instr.next (Az a7) false T.a53) ([.one (.int .i64),.agg [.int .i64,.int .i64,.int .i64,.int .i64]]) (u5 λ(n9 n10 n11 n12 n13:Int)=>
.act (Instr.entry (Az a7)) (.tup [.one (.int .i64),.agg [.int .i64,.int .i64,.int .i64,.int .i64]]) (u5 λ(n14 n15 n16 n17 n18:Int)=>
Ao T.a18 λa19=>
Ar T.a18 a19 (Bp n15 n16 n17 n18)<|
AP T.a14 a19 2 λn20=>
Af (if n20<n8 then n20 else n8) λn21=>
An 2 [Ac n21])) <|
An 1 [Ac n8]) λn22=>
Af n22 λn23=>
An 0 [Ac n23]
theorem zui (v:Option Addr) {w:World} {R:List Value->World->Prop} (h:(zzi v).wp P (λ_=>True) w λe vs w'=>e=0/\R vs w') :
  Calls P F.a75 #[.pointer v] w λe w'=>∃ vs,e=.returned (z7v vs)/\R vs w' :=
 z96 (zh3 Go.Proofs.Tryz.func201 (by kernel_rfl) (by kernel_rfl) (by kernel_rfl)) zha mix [.val (.pointer v)] (by rw [show zhr P 26 ⟨zh9,[(17,[.one (.int .i64),.agg [.int .i64,.int .i64,.int .i64,.int .i64]]),(19,[.one (.int .i64),.agg [.int .i64,.int .i64,.int .i64,.int .i64]])]⟩ { cnd:=[],blk:=[(0,[(3,.one (.int .i64))])],reg:=[],lps:=[(0,[(3,.one (.int .i64))])] } [.tmp 2] (zaj Go.Proofs.Tryz.f201) [.val (.pointer v)]=zzi v from by kernel_rfl];exact h)
def z07x (b_0 b_1 b_2 b_3 b_4 b_5:Int) (b_6:Sl):Prog :=
Av T.a0 (AF b_0 b_1 b_2 b_3 b_4 b_5 b_6) λa0=>
AP T.a13 a0 4 λn1=>
AQ ((n1 == 2)=false) T.a13 a0 4 λn2=>
Ag (n1 == 2 || n2 == 3) λb3=>
An 0 [.bool b3]
theorem zum (b_0 b_1 b_2 b_3 b_4 b_5:Int) (b_6:Sl):FnS (z07x b_0 b_1 b_2 b_3 b_4 b_5 b_6) F.a81 #[.agg #[.int .i64 b_0,.int .i64 b_1,.int .i64 b_2,.int .i64 b_3,.int .i64 b_4,.int .i64 b_5,.slice b_6.a b_6.len b_6.cap]]:=dV ⟨[],[],[],[]⟩ Go.Proofs.Tryz.func202 (by kernel_rfl)
def z01u (s:Sl) (i:Int) (j:Int):Prog :=
.must (0<=i/\i<=j/\j<=(Al s)/\(Al s)<=((s.cap:Nat):Int)) <|
Ai (i == j) (
An 0 [s.v])<|
Af (Al s) λn0=>
AG<|
.must (0<=i/\i<=((s.cap:Nat):Int)) <|
.must (0<=j/\j<=(Al s)) <|
AE (app T.a43 T.a43 T.a43 (.slice s.a (Int.toNat i) s.cap) (.slice (z14 s.a 5 (Int.toNat j) s.cap) (s.len-Int.toNat j) (s.cap-Int.toNat j))) λl1=>
AI<|
.must (0<=(Al l1)/\(Al l1)<=n0/\n0<=((l1.cap:Nat):Int)) <|
B6 (Builtin.clear_ #[T.a43] T.a53 #[.slice (z14 l1.a 5 (Int.toNat (Al l1)) l1.cap) (Int.toNat n0-Int.toNat (Al l1)) (l1.cap-Int.toNat (Al l1))])<|
An 0 [l1.v]
theorem zoh (s:Sl) (i j:Int):FnS (z01u s i j) F.a167 #[.slice s.a s.len s.cap,.int .i64 i,.int .i64 j]:=dV ⟨[],[],[],[]⟩ Go.Proofs.Tryz.func205 (by kernel_rfl)
def z01v (s:Sl) (i:Int) (v:Sl):Prog :=
.must (0<=i/\i<=(Al s)) <|
Af (Al v) λn0=>
Ai (n0 == 0) (
An 0 [s.v])<|
Af (Al s) λn1=>
Ai (i == n1) (
AE (app T.a43 T.a43 T.a43 s.v v.v) λl2=>
An 0 [l2.v])<|
Ai (decide (Aq (n1+n0)>((s.cap:Nat):Int))) (
.must (0<=i/\i<=((s.cap:Nat):Int)) <|
AE (app T.a43 T.a13 T.a43 (.slice s.a (Int.toNat i) s.cap) (Ac (Aq (Aq (n1+n0)-i)))) λl3=>
.must (0<=i/\i<=(Al l3)) <|
.act (Builtin.copy_ #[T.a43,T.a43] T.a13 #[.slice (z14 l3.a 5 (Int.toNat i) l3.cap) (l3.len-Int.toNat i) (l3.cap-Int.toNat i),v.v]) (sI .i64) (u1 λ(n4:Int)=>
AG<|
.must (0<=Aq (i+n0)/\Aq (i+n0)<=(Al l3)) <|
.must (0<=i/\i<=(Al s)) <|
.act (Builtin.copy_ #[T.a43,T.a43] T.a13 #[.slice (z14 l3.a 5 (Int.toNat (Aq (i+n0))) l3.cap) (l3.len-Int.toNat (Aq (i+n0))) (l3.cap-Int.toNat (Aq (i+n0))),.slice (z14 s.a 5 (Int.toNat i) s.cap) (s.len-Int.toNat i) (s.cap-Int.toNat i)]) (sI .i64) (u1 λ(n5:Int)=>
AI<|
An 0 [l3.v])))<|
.must (0<=Aq (n1+n0)/\Aq (n1+n0)<=((s.cap:Nat):Int)) <|
.must (0<=Aq (i+n0)/\Aq (i+n0)<=((Int.toNat (Aq (n1+n0)):Nat):Int)) <|
.fail 14
theorem zoi (s:Sl) (i:Int) (v:Sl):FnS (z01v s i v) F.a168 #[.slice s.a s.len s.cap,.int .i64 i,.slice v.a v.len v.cap]:=dV ⟨[],[],[],[]⟩ Go.Proofs.Tryz.func206 (by kernel_rfl)
def z00d (p:Option Addr) (b_0 b_1 b_2 b_3 b_4 b_5:Int) (b_6:Sl):Prog :=
Av T.a0 (AF b_0 b_1 b_2 b_3 b_4 b_5 b_6) λa0=>
Ao T.a7 λa1=>
.bind 1 [.one .adr,.one (.int .i64)] (
AG<|
AA p λa3=>
AL T.a26 a3 4 λp4=>
.hold True (ld T.a0 a0) (sG [.int .i64,.int .i64,.int .i64,.int .i64,.int .i64,.int .i64,.slc]) (u7 λ(n5 n6 n7 n8 n9 n10:Int) l11=>
.both (
AI<|
Bs F.a24 [Ad p4,AF n5 n6 n7 n8 n9 n10 l11] λb12 n13 n14=>
Ao T.a7 λa15=>
Ar T.a7 a15 (Bt b12 n13)<|
Af n14 λn16=>
AI<|
An 1 [Az a15,Ac n16]) <|
Ao T.a7 λa17=>
AI<|
Bs F.a24 [Ad p4,AF n5 n6 n7 n8 n9 n10 l11] λb18 n19 n20=>
Ar T.a7 a17 (Bt b18 n19)<|
Af n20 λn21=>
AI<|
An 1 [Az a17,Ac n21])) (u2 λa22 (n23:Int)=>
Bq ((n23 != 0)=false) T.a3 a22 0 λb24=>
Ai (n23 != 0 || b24) (
B9 T.a7 a22 λb25 n26=>
Ar T.a7 a1 (Bt b25 n26)<|
Af n23 λn27=>
B9 T.a7 a1 λb28 n29=>
An 0 [Bt b28 n29,Ac n27])<|
Ap 1 (
AG<|
.hold True (ld T.a7 a22) (sG [.bool,.int .i64]) (u2 λb30 (n31:Int)=>
AA p λa33=>
Ay T.a30 a33 5 λp34=>
AH T.a0 a0 λn35 n36 n37 n38 n39 n40 l41=>
Aj F.a71 [Ad p34,AF n35 n36 n37 n38 n39 n40 l41] λn42=>
AI<|
Ar T.a7 a1 (Bt b30 n31)<|
Af n42 λn43=>
AI<|
An 1 [Ac n43])) λn44=>
B9 T.a7 a1 λb45 n46=>
An 0 [Bt b45 n46,Ac n44])
theorem zn1 (p:Option Addr) (b_0 b_1 b_2 b_3 b_4 b_5:Int) (b_6:Sl):FnS (z00d p b_0 b_1 b_2 b_3 b_4 b_5 b_6) F.a107 #[.pointer p,.agg #[.int .i64 b_0,.int .i64 b_1,.int .i64 b_2,.int .i64 b_3,.int .i64 b_4,.int .i64 b_5,.slice b_6.a b_6.len b_6.cap]]:=dV ⟨[],[],[(1,[(6,.one .adr),(7,.one (.int .i64))]),(4,[(5,.one (.int .i64))])],[]⟩ Go.Proofs.Tryz.func210 (by kernel_rfl)
def z09a (p:Option Addr) (t:Option Addr):Prog :=
.bind 1 [.one .slc,.one .slc] (
AG<|
AA p λa1=>
AL T.a30 a1 5 λp2=>
Ak F.a23 [Ad t] λl3=>
AI<|
Ak F.a66 [Ad p2] λl4=>
AI<|
An 1 [l3.v,l4.v]) (u2 λl5 l6=>
Ai (decide ((Al l5)>262144) || decide ((Al l6)>262144)) (
An 0 [Ac 7])<|
AZ 1 (
AG<|
.hold True (convert T.a46 T.a51 l5.v) sS (u1 λs7=>
.hold True (convert T.a46 T.a51 l6.v) sS (u1 λs8=>
Aj F.a103 [Ad p] λn9=>
Ak F.a233 [.int .u64 (IntKind.wrap .u64 n9)] λl10=>
Ak F.a232 [.string s7] λl11=>
AI<|
Ak F.a232 [.string s8] λl12=>
AE (Instr.buildSlice T.a44 3 #[(0,l10.v),(1,l11.v),(2,l12.v)]) λl13=>
Ak F.a53 [l13.v] λl14=>
AI<|
An 1 [l14.v]))) λl15=>
Ai ((Al l15) == 0) (
An 0 [Ac 7])<|
Ah 1 (
AG<|
AA p λa17=>
AL T.a27 (Addr.add a17 0) 1 λp18=>
Aa F.a114 [Ad p] λs19=>
AI<|
Am F.a115 [Ad p18,.string s19] λb20=>
AI<|
An 1 [.bool b20]) λb21=>
AK 1 (
Ai b21 (
Ap 2 (
AG<|
AA p λa23=>
AL T.a27 (Addr.add a23 0) 1 λp24=>
Aa F.a114 [Ad p] λs25=>
AI<|
Aj F.a40 [Ad p24,.string s25] λn26=>
Af n26 λn27=>
AI<|
An 2 [Ac n27]) λn28=>
Ai (n28 != 0) (
Af n28 λn29=>
An 0 [Ac n29])<|
An 1 [])<|
An 1 [])<|
Ap 1 (
AG<|
AA p λa31=>
AL T.a27 (Addr.add a31 0) 1 λp32=>
.both (
Aa F.a114 [Ad p] λs33=>
AE (Instr.buildSlice T.a44 1 #[(0,l15.v)]) λl34=>
AI<|
Aj F.a34 [Ad p32,.string s33,l34.v] λn35=>
Af n35 λn36=>
AI<|
An 1 [Ac n36]) <|
AE (Instr.buildSlice T.a44 1 #[(0,l15.v)]) λl37=>
Aa F.a114 [Ad p] λs38=>
AI<|
Aj F.a34 [Ad p32,.string s38,l37.v] λn39=>
Af n39 λn40=>
AI<|
An 1 [Ac n40]) λn41=>
Ai (n41 != 0) (
Af n41 λn42=>
An 0 [Ac n42])<|
Ap 1 (
AG<|
AA p λa44=>
AL T.a27 (Addr.add a44 0) 1 λp45=>
Aa F.a114 [Ad p] λs46=>
AE (Instr.buildSlice T.a45 1 #[(0,.string s46)]) λl47=>
AI<|
Aj F.a43 [Ad p45,l47.v] λn48=>
Af n48 λn49=>
AI<|
An 1 [Ac n49]) λn50=>
Ai (n50 != 0) (
Af n50 λn51=>
An 0 [Ac n51])<|
Ap 1 (
AG<|
AA p λa53=>
AL T.a27 (Addr.add a53 0) 1 λp54=>
Aa F.a114 [Ad p] λs55=>
Aa F.a112 [Ad p] λs56=>
AI<|
Aj F.a41 [Ad p54,.string s55,.string s56] λn57=>
Af n57 λn58=>
AI<|
An 1 [Ac n58]) λn59=>
An 0 [Ac n59])
def z0a9 (l:Sl):Prog :=
B1 (Instr.makeMap T.a23 (some (Ac (Al l)))) λm0=>
AK 1 (
AT 2 (0,()) λn1=>
Ai (decide (n1<(Al l))) (
.ex [.adr] (c1 λa2=>0<=n1/\n1<(Al l)/\l.a=some a2) (u1 λa3=>
Bb T.a36 a3 (Int.toNat n1*5) λn4 s5 s6 b7 n8=>
Ao T.a36 λa9=>
Af n1 λn10=>
Ar T.a36 a9 (AB n4 s5 s6 b7 n8)<|
AC T.a51 (Addr.add a9 1) 0 λs11=>
B5 (Instr.mapUpdate T.a23 (.map m0) (.string s11) (Ac n10))<|
An 2 [Ac (Aq (n1+1))]))<|
An 1 [])<|
An 0 [.map m0]
def z0a8 (b_0 b_1 b_2 b_3 b_4 b_5:Int) (b_6:Sl) (r_0:Int) (r_1 r_2:ByteArray) (r_3:Bool) (r_4:Int):Prog :=
Av T.a0 (AF b_0 b_1 b_2 b_3 b_4 b_5 b_6) λa0=>
Av T.a36 (AB r_0 r_1 r_2 r_3 r_4) λa1=>
AO T.a38 a0 6 λl2=>
Af (Al l2) λn3=>
AQ ((decide (n3>0) && decide (n3<64))=true) T.a14 a1 0 λn4=>
AQ ((decide (n3>0) && decide (n3<64))=true) T.a14 a0 0 λn5=>
Ag (decide (n3>0) && decide (n3<64) && Aq (n4-n3) == n5) λb6=>
An 0 [.bool b6]
def z06m (i:Int) (fv0:Option Addr) (fv1:Option Addr):Prog :=
AG<|
BA T.a25 fv0 λp0=>
AA p0 λa2=>
AO T.a43 a2 1 λl3=>
.ex [.adr] (c1 λa4=>0<=i/\i<(Al l3)/\l3.a=some a4) (u1 λa5=>
AC T.a51 (Addr.add (Addr.add a5 (Int.toNat i*5)) 1) 0 λs6=>
.read True (Instr.loadAt T.a51 (Ad fv1)) sS (u1 λs7=>
Ag (not (Op.bytesLess (ByteArray.toList s6) (ByteArray.toList s7))) λb8=>
AI<|
An 0 [.bool b8]))
theorem zt8 (i:Int) (fv0 fv1:Option Addr):FnS (z06m i fv0 fv1) F.a14 #[.int .i64 i,.pointer fv0,.pointer fv1]:=dV ⟨[],[],[],[]⟩ Go.Proofs.Tryz.func224 (by kernel_rfl)
def z0af (r:Option Addr) (most:Int):Prog :=
Bi F.a229 [Ad r] λn0=>
Bj n0 λn1=>
Ai (decide (n1>IntKind.wrap .u64 most)) (
Af (Aq (most+1)) λn2=>
An 0 [Ac n2])<|
Af (Aq n1) λn3=>
An 0 [Ac n3]
def z0ae (r_0 r_1 r_2 r_3 r_4 r_5 r_6:Int) (next_:Int):Prog :=
Av T.a5 (B2 r_0 r_1 r_2 r_3 r_4 r_5 r_6) λa0=>
AP T.a14 a0 0 λn1=>
AQ (decide (n1<1)=false) T.a14 a0 0 λn2=>
AQ ((decide (n1<1) || decide (n2>1048576))=false) T.a13 a0 1 λn3=>
AQ ((decide (n1<1) || decide (n2>1048576) || decide (n3>32768))=false) T.a14 a0 6 λn4=>
AQ ((decide (n1<1) || decide (n2>1048576) || decide (n3>32768) || decide (n4>1099511627776))=false) T.a13 a0 3 λn5=>
Ai (decide (n1<1) || decide (n2>1048576) || decide (n3>32768) || decide (n4>1099511627776) || decide (n5>64)) (
An 0 [.bool false])<|
AP T.a13 a0 3 λn6=>
Ai (n6 == 0) (
AP T.a13 a0 2 λn7=>
AQ ((n7 == 0)=true) T.a14 a0 4 λn8=>
AQ ((n7 == 0 && n8 == 0)=true) T.a14 a0 5 λn9=>
Ag (n7 == 0 && n8 == 0 && n9 == -1) λb10=>
An 0 [.bool b10])<|
Ah 1 (
AP T.a13 a0 1 λn11=>
B3 (decide (n11<=32767)=true) T.a5 a0 λn12 n13 n14 n15 n16 n17 n18=>
Ai (decide (n11<=32767)) (
Aj F.a21 [B2 n12 n13 n14 n15 n16 n17 n18] λn19=>
AQ (decide (n19<=2147483648)=true) T.a14 a0 4 λn20=>
AQ (decide (n19<=2147483648)=true) T.a13 a0 3 λn21=>
AQ ((decide (n19<=2147483648) && decide (Aq (n20+n21)<=next_))=true) T.a14 a0 5 λn22=>
AQ ((decide (n19<=2147483648) && decide (Aq (n20+n21)<=next_))=true) T.a14 a0 4 λn23=>
Ag (decide (n19<=2147483648) && decide (Aq (n20+n21)<=next_) && decide (n22<=n23)) λb24=>
An 1 [.bool b24])<|
An 1 [.bool false]) λb25=>
An 0 [.bool b25]
def z0ap (r:Option Addr) (most:Int):Prog :=
Bi F.a229 [Ad r] λn0=>
Bj n0 λn1=>
Ai (decide (n1>IntKind.wrap .u64 most)) (
Af (Aq (most+1)) λn2=>
An 0 [Ac n2])<|
Af (Aq n1) λn3=>
An 0 [Ac n3]
def z0an (v:Option Addr) (r:Option Addr):Prog :=
Aj F.a83 [Ad r,Ac 1024] λn0=>
Af n0 λn1=>
AK 1 (
AM 2 (-1,(0,())) λn2 n3=>
Ai (decide (n3<n1)) (
AA v λa5=>
AP T.a14 a5 0 λn6=>
.call F.a82 [Ad r,Ac n6] (.tup [.agg [.int .i64,.int .i64,.int .i64,.int .i64],.one .bool]) (u5 λ(n7 n8 n9 n10:Int) b11=>
Ao T.a18 λa12=>
Ar T.a18 a12 (Bp n7 n8 n9 n10)<|
Ag b11 λb13=>
Ah 3 (
AG<|
AA v λa15=>
Bl T.a21 a15 1 λm16=>
Bn T.a14 (Addr.add a12 0) 0 λn17=>
Bo (Instr.lookup T.a21 (.map m16) (Ac n17) true) λn18 n19 n20 n21 b22=>
Ao T.a18 λa23=>
AI<|
Ar T.a18 a23 (Bp n18 n19 n20 n21)<|
Ag b22 λb24=>
AI<|
An 3 [.bool b24]) λb25=>
AQ ((not b13 || b25)=false) T.a14 a12 2 λn26=>
Ai (not b13 || b25 || decide (n26<=n2) || decide (n3>=1024)) (
An 0 [.bool false])<|
AG<|
AA v λa28=>
Bz T.a21 a28 1 λm29=>
AP T.a14 (Addr.add a12 0) 0 λn30=>
B7 T.a18 a12 λn31 n32 n33 n34=>
B5 (Instr.mapUpdate T.a21 (.map m29) (Ac n30) (Bp n31 n32 n33 n34))<|
AI<|
AP T.a14 a12 2 λn35=>
Af n35 λn36=>
Af (Aq (n3+1)) λn37=>
An 2 [Ac n36,Ac n37]))<|
An 1 [])<|
Aj F.a225 [Ad r] λn38=>
Ag (n38 == 0) λb39=>
An 0 [.bool b39]
def z0am (v:Option Addr) (r:Option Addr):Prog :=
Aj F.a83 [Ad r,Ac 4096] λn0=>
Af n0 λn1=>
AK 1 (
AM 2 (-1,(0,())) λn2 n3=>
Ai (decide (n3<n1)) (
AA v λa5=>
AP T.a14 a5 0 λn6=>
.call F.a82 [Ad r,Ac n6] (.tup [.agg [.int .i64,.int .i64,.int .i64,.int .i64],.one .bool]) (u5 λ(n7 n8 n9 n10:Int) b11=>
Ao T.a18 λa12=>
Ar T.a18 a12 (Bp n7 n8 n9 n10)<|
Ag b11 λb13=>
Aj F.a83 [Ad r,Ac 1099511627776] λn14=>
AJ T.a14 a12 3 (Ac n14)<|
Ah 3 (
AG<|
AA v λa16=>
Bl T.a22 a16 2 λm17=>
.hold True (ld T.a17 (Addr.add a12 0)) (sG [.int .i64,.int .i64]) (u2 λ(n18 n19:Int)=>
Bo (Instr.lookup T.a22 (.map m17) (AS n18 n19) true) λn20 n21 n22 n23 b24=>
Ao T.a18 λa25=>
AI<|
Ar T.a18 a25 (Bp n20 n21 n22 n23)<|
Ag b24 λb26=>
AI<|
An 3 [.bool b26])) λb27=>
Ah 3 (
AG<|
Ai (not b13) (
AI<|
An 3 [.bool true])<|
Aj F.a225 [Ad r] λn28=>
AX ((n28 != 0 || b27)=false) v λa30=>
BB ((n28 != 0 || b27)=false) T.a21 a30 1 λm31=>
AQ ((n28 != 0 || b27)=false) T.a14 (Addr.add a12 0) 0 λn32=>
.read ((n28 != 0 || b27)=false) (Instr.lookup T.a21 (.map m31) (Ac n32) false) (sG [.int .i64,.int .i64,.int .i64,.int .i64]) (u4 λ(n33 n34 n35 n36:Int)=>
BC ((n28 != 0 || b27)=false) (ld T.a17 (Addr.add a12 0)) λn37 n38=>
AQ ((n28 != 0 || b27 || n33 == n37 && n34 == n38)=false) T.a14 a12 3 λn39=>
AQ ((n28 != 0 || b27 || n33 == n37 && n34 == n38 || decide (n39<=n2))=false) T.a14 a12 3 λn40=>
AQ ((n28 != 0 || b27 || n33 == n37 && n34 == n38 || decide (n39<=n2))=false) T.a14 a12 2 λn41=>
AQ ((n28 != 0 || b27 || n33 == n37 && n34 == n38 || decide (n39<=n2) || decide (n40<=n41))=false) T.a14 a12 3 λn42=>
AX ((n28 != 0 || b27 || n33 == n37 && n34 == n38 || decide (n39<=n2) || decide (n40<=n41))=false) v λa44=>
AQ ((n28 != 0 || b27 || n33 == n37 && n34 == n38 || decide (n39<=n2) || decide (n40<=n41))=false) T.a14 a44 0 λn45=>
AI<|
An 3 [.bool (n28 != 0 || b27 || n33 == n37 && n34 == n38 || decide (n39<=n2) || decide (n40<=n41) || decide (n42>=n45) || decide (n3>=4096))])) λb46=>
Ai b46 (
An 0 [.bool false])<|
AG<|
AA v λa48=>
Bz T.a22 a48 2 λm49=>
AR T.a17 a12 0 λn50 n51=>
B7 T.a18 a12 λn52 n53 n54 n55=>
B5 (Instr.mapUpdate T.a22 (.map m49) (AS n50 n51) (Bp n52 n53 n54 n55))<|
AI<|
AP T.a14 a12 3 λn56=>
Af n56 λn57=>
Af (Aq (n3+1)) λn58=>
An 2 [Ac n57,Ac n58]))<|
An 1 [])<|
Aj F.a225 [Ad r] λn59=>
Ag (n59 == 0) λb60=>
An 0 [.bool b60]
def z06s (t:Option Addr) (b_0 b_1 b_2 b_3 b_4 b_5:Int) (b_6:Sl):Prog :=
Av T.a0 (AF b_0 b_1 b_2 b_3 b_4 b_5 b_6) λa0=>
Ao T.a7 λa1=>
Ai (Option.isNone t) (
Ar T.a7 a1 (Bt false 0)<|
B9 T.a7 a1 λb2 n3=>
An 0 [Bt b2 n3,Ac 1])<|
AH T.a0 a0 λn4 n5 n6 n7 n8 n9 l10=>
Aj F.a124 [AF n4 n5 n6 n7 n8 n9 l10] λn11=>
Af n11 λn12=>
AQ ((n12 != 0)=false) T.a14 a0 1 λn13=>
Ai (n12 != 0 || n13 == 0) (
Ar T.a7 a1 (Bt false 0)<|
Af n12 λn14=>
B9 T.a7 a1 λb15 n16=>
An 0 [Bt b15 n16,Ac n14])<|
AP T.a14 a0 1 λn17=>
.call F.a29 [Ad t,Ac n17] (.tup [.agg [.int .i64,.int .i64,.int .i64,.int .i64,.int .i64,.int .i64,.int .i64],.one .bool]) (u8 λ(n18 n19 n20 n21 n22 n23 n24:Int) b25=>
Ao T.a5 λa26=>
Ar T.a5 a26 (B2 n18 n19 n20 n21 n22 n23 n24)<|
Ag b25 λb27=>
AP T.a13 a0 2 λn28=>
AP T.a13 a26 1 λn29=>
Ai (decide (n28<n29)) (
AH T.a0 a0 λn30 n31 n32 n33 n34 n35 l36=>
Am F.a31 [AF n30 n31 n32 n33 n34 n35 l36] λb37=>
Ai b37 (
Ar T.a7 a1 (.agg #[.bool true,Ac (-1)])<|
B9 T.a7 a1 λb38 n39=>
An 0 [Bt b38 n39,Ac 0])<|
Ar T.a7 a1 (Bt false 0)<|
B9 T.a7 a1 λb40 n41=>
An 0 [Bt b40 n41,Ac 20])<|
AH T.a0 a0 λn42 n43 n44 n45 n46 n47 l48=>
Am F.a31 [AF n42 n43 n44 n45 n46 n47 l48] λb49=>
AK 1 (
Ai (not b49) (
B4 T.a5 a26 λn50 n51 n52 n53 n54 n55 n56=>
AH T.a0 a0 λn57 n58 n59 n60 n61 n62 l63=>
.call F.a30 [B2 n50 n51 n52 n53 n54 n55 n56,AF n57 n58 n59 n60 n61 n62 l63] (.tup [.agg [.bool,.int .i64],.one .bool]) (u3 λb64 (n65:Int) b66=>
Ao T.a7 λa67=>
Ar T.a7 a67 (Bt b64 n65)<|
Ba b66 (
B9 T.a7 a67 λb69 n70=>
Ar T.a7 a1 (Bt b69 n70)<|
B9 T.a7 a1 λb71 n72=>
An 0 [Bt b71 n72,Ac 0])<|
An 1 []))<|
An 1 [])<|
B4 T.a5 a26 λn73 n74 n75 n76 n77 n78 n79=>
AH T.a0 a0 λn80 n81 n82 n83 n84 n85 l86=>
Aj F.a28 [Ad t,B2 n73 n74 n75 n76 n77 n78 n79,.bool b27,AF n80 n81 n82 n83 n84 n85 l86] λn87=>
Ar T.a7 a1 (Bt false 0)<|
Af n87 λn88=>
B9 T.a7 a1 λb89 n90=>
An 0 [Bt b89 n90,Ac n88])
theorem ztf (t:Option Addr) (b_0 b_1 b_2 b_3 b_4 b_5:Int) (b_6:Sl):FnS (z06s t b_0 b_1 b_2 b_3 b_4 b_5 b_6) F.a24 #[.pointer t,.agg #[.int .i64 b_0,.int .i64 b_1,.int .i64 b_2,.int .i64 b_3,.int .i64 b_4,.int .i64 b_5,.slice b_6.a b_6.len b_6.cap]]:=dV ⟨[(18374686479678046251,[])],[],[],[]⟩ Go.Proofs.Tryz.func258 (by kernel_rfl)
def z06v (t:Option Addr) (pid:Int):Prog :=
Ao T.a5 λa0=>
AA t λa2=>
Bz T.a20 a2 2 λm3=>
.read True (Instr.lookup T.a20 (.map m3) (Ac pid) true) (.tup [.agg [.int .i64,.int .i64,.int .i64,.int .i64,.int .i64,.int .i64,.int .i64],.one .bool]) (u8 λ(n4 n5 n6 n7 n8 n9 n10:Int) b11=>
Ao T.a5 λa12=>
Ar T.a5 a12 (B2 n4 n5 n6 n7 n8 n9 n10)<|
Ag b11 λb13=>
Ai (not b13) (
Ar T.a5 a0 (.agg #[Ac pid,Ac (-1),Ac 0,Ac 0,Ac 0,Ac (-1),Ac 0])<|
B4 T.a5 a0 λn14 n15 n16 n17 n18 n19 n20=>
An 0 [B2 n14 n15 n16 n17 n18 n19 n20,.bool false])<|
B4 T.a5 a12 λn21 n22 n23 n24 n25 n26 n27=>
Ar T.a5 a0 (B2 n21 n22 n23 n24 n25 n26 n27)<|
B4 T.a5 a0 λn28 n29 n30 n31 n32 n33 n34=>
An 0 [B2 n28 n29 n30 n31 n32 n33 n34,.bool true])
theorem zti (t:Option Addr) (pid:Int):FnS (z06v t pid) F.a29 #[.pointer t,.int .i64 pid]:=dV ⟨[],[],[],[]⟩ Go.Proofs.Tryz.func259 (by kernel_rfl)
def z06r (r_0 r_1 r_2 r_3 r_4 r_5:Int) (r_6:Int):Prog :=
Av T.a5 (B2 r_0 r_1 r_2 r_3 r_4 r_5 r_6) λa0=>
AP T.a14 a0 5 λn1=>
Ag (decide (n1>=0)) λb2=>
An 0 [.bool b2]
theorem zte (r_0 r_1 r_2 r_3 r_4 r_5 r_6:Int):FnS (z06r r_0 r_1 r_2 r_3 r_4 r_5 r_6) F.a22 #[.agg #[.int .i64 r_0,.int .i64 r_1,.int .i64 r_2,.int .i64 r_3,.int .i64 r_4,.int .i64 r_5,.int .i64 r_6]]:=dV ⟨[],[],[],[]⟩ Go.Proofs.Tryz.func260 (by kernel_rfl)
def z07s (v:Option Addr) (b_0 b_1 b_2 b_3 b_4 b_5:Int) (b_6:Sl):Prog :=
Av T.a0 (AF b_0 b_1 b_2 b_3 b_4 b_5 b_6) λa0=>
Ai (Option.isNone v) (
An 0 [Ac 1])<|
AH T.a0 a0 λn1 n2 n3 n4 n5 n6 l7=>
Aj F.a124 [AF n1 n2 n3 n4 n5 n6 l7] λn8=>
Af n8 λn9=>
Ai (n9 != 0) (
Af n9 λn10=>
An 0 [Ac n10])<|
AG<|
AP T.a14 a0 0 λn11=>
AA v λa13=>
AP T.a14 a13 0 λn14=>
Ag (decide (n11<n14)) λb15=>
AI<|
Ai b15 (
An 0 [Ac 8])<|
AP T.a13 a0 4 λn16=>
Ba (n16 != 0) (
AH T.a0 a0 λn18 n19 n20 n21 n22 n23 l24=>
Aj F.a78 [Ad v,AF n18 n19 n20 n21 n22 n23 l24] λn25=>
Af n25 λn26=>
An 0 [Ac n26])<|
An 0 [Ac 0]
theorem zuf (v:Option Addr) (b_0 b_1 b_2 b_3 b_4 b_5:Int) (b_6:Sl):FnS (z07s v b_0 b_1 b_2 b_3 b_4 b_5 b_6) F.a71 #[.pointer v,.agg #[.int .i64 b_0,.int .i64 b_1,.int .i64 b_2,.int .i64 b_3,.int .i64 b_4,.int .i64 b_5,.slice b_6.a b_6.len b_6.cap]]:=dV ⟨[],[],[],[]⟩ Go.Proofs.Tryz.func261 (by kernel_rfl)
def z07w (l_0 l_1 l_2:Int) (l_3:Int):Prog :=
Av T.a18 (Bp l_0 l_1 l_2 l_3) λa0=>
Ao T.a15 λa1=>
AP T.a14 (Addr.add a0 0) 0 λn2=>
AP T.a13 (Addr.add a0 0) 1 λn3=>
AP T.a14 a0 2 λn4=>
AP T.a14 a0 3 λn5=>
Ar T.a15 a1 (Bp n2 n3 n4 n5)<|
B7 T.a15 a1 λn6 n7 n8 n9=>
An 0 [Bp n6 n7 n8 n9]
theorem zul (l_0 l_1 l_2 l_3:Int):FnS (z07w l_0 l_1 l_2 l_3) F.a80 #[.agg #[.int .i64 l_0,.int .i64 l_1,.int .i64 l_2,.int .i64 l_3]]:=dV ⟨[],[],[],[]⟩ Go.Proofs.Tryz.func265 (by kernel_rfl)
def z07t (a_0 a_1 a_2 a_3 b_0 b_1 b_2:Int) (b_3:Int):Prog :=
Av T.a15 (Bp a_0 a_1 a_2 a_3) λa0=>
Av T.a15 (Bp b_0 b_1 b_2 b_3) λa1=>
AP T.a14 a0 2 λn2=>
AP T.a14 a1 2 λn3=>
Aj F.a1 [Ac n2,Ac n3] λn4=>
Af n4 λn5=>
An 0 [Ac n5]
theorem zuh (a_0 a_1 a_2 a_3 b_0 b_1 b_2 b_3:Int):FnS (z07t a_0 a_1 a_2 a_3 b_0 b_1 b_2 b_3) F.a74 #[.agg #[.int .i64 a_0,.int .i64 a_1,.int .i64 a_2,.int .i64 a_3],.agg #[.int .i64 b_0,.int .i64 b_1,.int .i64 b_2,.int .i64 b_3]]:=dV ⟨[],[],[],[]⟩ Go.Proofs.Tryz.func267 (by kernel_rfl)
def z0ab (t:Option Addr):Prog :=
Ai (Option.isNone t) (
An 0 [.slice none 0 0])<|
AZ 1 (
AG<|
AA t λa1=>
AP T.a14 a1 1 λn2=>
AA t λa4=>
Bl T.a20 a4 2 λm5=>
Ak F.a233 [.int .u64 (IntKind.wrap .u64 n2)] λl6=>
Bx (Builtin.len_ #[T.a20] T.a13 #[.map m5]) λn7=>
AI<|
Ak F.a233 [.int .u64 (IntKind.wrap .u64 n7)] λl8=>
AE (Instr.buildSlice T.a44 2 #[(0,l6.v),(1,l8.v)]) λl9=>
Ak F.a221 [l9.v] λl10=>
AI<|
An 1 [l10.v]) λl11=>
Ak F.a26 [Ad t] λl12=>
AZ 1 (
Bf 2 ({ a:=l11.a,len:=l11.len,cap:=l11.cap },(0,())) λl13 n14=>
Ai (decide (n14<(Al l12))) (
AZ 3 (
.ex [.adr] (c1 λa15=>0<=n14/\n14<(Al l12)/\l12.a=some a15) (u1 λa16=>
BD T.a5 a16 (Int.toNat n14*7) λn17 n18 n19 n20 n21 n22 n23=>
Ao T.a5 λa24=>
Ar T.a5 a24 (B2 n17 n18 n19 n20 n21 n22 n23)<|
AP T.a14 a24 0 λn25=>
AP T.a13 a24 1 λn26=>
AP T.a13 a24 2 λn27=>
AP T.a13 a24 3 λn28=>
AP T.a14 a24 4 λn29=>
AE (Instr.buildSlice T.a40 5 #[(0,Ac n25),(1,Ac n26),(2,Ac n27),(3,Ac n28),(4,Ac n29)]) λl30=>
AZ 4 (
Bf 5 ({ a:=l13.a,len:=l13.len,cap:=l13.cap },(0,())) λl31 n32=>
Ai (decide (n32<(Al l30))) (
.ex [.adr] (c1 λa33=>0<=n32/\n32<(Al l30)/\l30.a=some a33) (u1 λa34=>
AP T.a14 a34 (Int.toNat n32*1) λn35=>
Af n35 λn36=>
Ak F.a233 [.int .u64 (IntKind.wrap .u64 n36)] λl37=>
AE (app T.a46 T.a46 T.a46 l31.v l37.v) λl38=>
An 5 [l38.v,Ac (Aq (n32+1))]))<|
An 4 [l31.v]) λl39=>
AZ 4 (
AG<|
AP T.a14 a24 5 λn40=>
Bn T.a14 a24 6 λn41=>
Ak F.a220 [Ac n40] λl42=>
AI<|
Ak F.a233 [.int .u64 (IntKind.wrap .u64 n41)] λl43=>
AE (Instr.buildSlice T.a44 2 #[(0,l42.v),(1,l43.v)]) λl44=>
Ak F.a221 [l44.v] λl45=>
AE (app T.a46 T.a46 T.a46 l39.v l45.v) λl46=>
AI<|
An 4 [l46.v]) λl47=>
An 3 [l47.v])) λl48=>
An 2 [l48.v,Ac (Aq (n14+1))])<|
An 1 [l13.v]) λl49=>
AE (Instr.buildSlice T.a44 1 #[(0,l49.v)]) λl50=>
Ak F.a53 [l50.v] λl51=>
An 0 [l51.v]
def z0ai (v:Option Addr):Prog :=
Ai (Option.isNone v) (
An 0 [.slice none 0 0])<|
Ak F.a73 [Ad v] λl0=>
Ak F.a67 [Ad v] λl1=>
AA v λa3=>
AP T.a14 a3 0 λn4=>
Ak F.a233 [.int .u64 (IntKind.wrap .u64 n4)] λl5=>
Ak F.a233 [.int .u64 (IntKind.wrap .u64 (Al l0))] λl6=>
AE (Instr.buildSlice T.a44 2 #[(0,l5.v),(1,l6.v)]) λl7=>
Ak F.a221 [l7.v] λl8=>
AZ 1 (
Bf 2 ({ a:=l8.a,len:=l8.len,cap:=l8.cap },(0,())) λl9 n10=>
Ai (decide (n10<(Al l0))) (
.ex [.adr] (c1 λa11=>0<=n10/\n10<(Al l0)/\l0.a=some a11) (u1 λa12=>
BE T.a15 a12 (Int.toNat n10*4) λn13 n14 n15 n16=>
Ao T.a15 λa17=>
Ar T.a15 a17 (Bp n13 n14 n15 n16)<|
AZ 3 (
AG<|
AP T.a14 a17 0 λn18=>
Bn T.a13 a17 1 λn19=>
Bn T.a14 a17 2 λn20=>
Ak F.a233 [.int .u64 (IntKind.wrap .u64 n18)] λl21=>
Ak F.a233 [.int .u64 (IntKind.wrap .u64 n19)] λl22=>
AI<|
Ak F.a233 [.int .u64 (IntKind.wrap .u64 n20)] λl23=>
AE (Instr.buildSlice T.a44 3 #[(0,l21.v),(1,l22.v),(2,l23.v)]) λl24=>
Ak F.a221 [l24.v] λl25=>
AE (app T.a46 T.a46 T.a46 l9.v l25.v) λl26=>
AI<|
An 3 [l26.v]) λl27=>
An 2 [l27.v,Ac (Aq (n10+1))]))<|
An 1 [l9.v]) λl28=>
Ak F.a233 [.int .u64 (IntKind.wrap .u64 (Al l1))] λl29=>
AE (app T.a46 T.a46 T.a46 l28.v l29.v) λl30=>
AZ 1 (
Bf 2 ({ a:=l30.a,len:=l30.len,cap:=l30.cap },(0,())) λl31 n32=>
Ai (decide (n32<(Al l1))) (
.ex [.adr] (c1 λa33=>0<=n32/\n32<(Al l1)/\l1.a=some a33) (u1 λa34=>
BE T.a15 a34 (Int.toNat n32*4) λn35 n36 n37 n38=>
Ao T.a15 λa39=>
Ar T.a15 a39 (Bp n35 n36 n37 n38)<|
AZ 3 (
AG<|
AP T.a14 a39 0 λn40=>
Bn T.a13 a39 1 λn41=>
Bn T.a14 a39 2 λn42=>
Bn T.a14 a39 3 λn43=>
Ak F.a233 [.int .u64 (IntKind.wrap .u64 n40)] λl44=>
Ak F.a233 [.int .u64 (IntKind.wrap .u64 n41)] λl45=>
Ak F.a233 [.int .u64 (IntKind.wrap .u64 n42)] λl46=>
AI<|
Ak F.a233 [.int .u64 (IntKind.wrap .u64 n43)] λl47=>
AE (Instr.buildSlice T.a44 4 #[(0,l44.v),(1,l45.v),(2,l46.v),(3,l47.v)]) λl48=>
Ak F.a221 [l48.v] λl49=>
AE (app T.a46 T.a46 T.a46 l31.v l49.v) λl50=>
AI<|
An 3 [l50.v]) λl51=>
An 2 [l51.v,Ac (Aq (n32+1))]))<|
An 1 [l31.v]) λl52=>
AE (Instr.buildSlice T.a44 1 #[(0,l52.v)]) λl53=>
Ak F.a53 [l53.v] λl54=>
An 0 [l54.v]
def z06q (r_0 r_1 r_2 r_3 r_4 r_5:Int) (r_6:Int):Prog :=
Av T.a5 (B2 r_0 r_1 r_2 r_3 r_4 r_5 r_6) λa0=>
AP T.a13 a0 2 λn1=>
AP T.a13 a0 3 λn2=>
Af (Aq (n1+n2)) λn3=>
An 0 [Ac n3]
theorem ztd (r_0 r_1 r_2 r_3 r_4 r_5 r_6:Int):FnS (z06q r_0 r_1 r_2 r_3 r_4 r_5 r_6) F.a21 #[.agg #[.int .i64 r_0,.int .i64 r_1,.int .i64 r_2,.int .i64 r_3,.int .i64 r_4,.int .i64 r_5,.int .i64 r_6]]:=dV ⟨[],[],[],[]⟩ Go.Proofs.Tryz.func304 (by kernel_rfl)
def z0ao (r:Option Addr) (next_:Int):Prog :=
Ao T.a18 λa0=>
Aj F.a83 [Ad r,Ac 1048576] λn1=>
Aj F.a83 [Ad r,Ac 32767] λn2=>
Aj F.a83 [Ad r,Ac 1099511627776] λn3=>
Ao T.a18 λa4=>
Ar T.a18 a4 (.agg #[Ac n1,Ac n2,Ac n3,Ac (-1)])<|
Ah 1 (
AG<|
.hold True (ld T.a18 a4) (sG [.int .i64,.int .i64,.int .i64,.int .i64]) (u4 λ(n5 n6 n7 n8:Int)=>
Aj F.a225 [Ad r] λn9=>
AQ ((n9 == 0)=true) T.a14 (Addr.add a4 0) 0 λn10=>
AQ ((n9 == 0 && decide (n10>=1))=true) T.a14 (Addr.add a4 0) 0 λn11=>
AQ ((n9 == 0 && decide (n10>=1) && decide (n11<=1048576))=true) T.a13 (Addr.add a4 0) 1 λn12=>
AW ((n9 == 0 && decide (n10>=1) && decide (n11<=1048576) && decide (n12<=32767))=true) T.a14 a4 2 λn13=>
Ar T.a18 a0 (Bp n5 n6 n7 n8)<|
Ag (n9 == 0 && decide (n10>=1) && decide (n11<=1048576) && decide (n12<=32767) && decide (n13<next_)) λb14=>
AI<|
An 1 [.bool b14])) λb15=>
B7 T.a18 a0 λn16 n17 n18 n19=>
An 0 [Bp n16 n17 n18 n19,.bool b15]
def z06x (b_0 b_1 b_2 b_3 b_4 b_5:Int) (b_6:Sl):Prog :=
Av T.a0 (AF b_0 b_1 b_2 b_3 b_4 b_5 b_6) λa0=>
AP T.a13 a0 4 λn1=>
AQ ((n1 == 2)=false) T.a13 a0 4 λn2=>
Ag (n1 == 2 || n2 == 3) λb3=>
An 0 [.bool b3]
theorem ztk (b_0 b_1 b_2 b_3 b_4 b_5:Int) (b_6:Sl):FnS (z06x b_0 b_1 b_2 b_3 b_4 b_5 b_6) F.a31 #[.agg #[.int .i64 b_0,.int .i64 b_1,.int .i64 b_2,.int .i64 b_3,.int .i64 b_4,.int .i64 b_5,.slice b_6.a b_6.len b_6.cap]]:=dV ⟨[],[],[],[]⟩ Go.Proofs.Tryz.func306 (by kernel_rfl)
def z06w (r_0 r_1 r_2 r_3 r_4 r_5 r_6 b_0 b_1 b_2 b_3 b_4 b_5:Int) (b_6:Sl):Prog :=
Av T.a5 (B2 r_0 r_1 r_2 r_3 r_4 r_5 r_6) λa0=>
Av T.a0 (AF b_0 b_1 b_2 b_3 b_4 b_5 b_6) λa1=>
Ao T.a7 λa2=>
Ah 1 (
AG<|
AP T.a13 a1 2 λn3=>
AP T.a13 a0 1 λn4=>
AW ((n3 != n4)=false) T.a13 a1 3 λn5=>
.hold ((n3 != n4)=false) (ld T.a38 (Addr.add a1 6)) sL (u1 λl6=>
B3 ((n3 != n4)=false) T.a5 a0 λn7 n8 n9 n10 n11 n12 n13=>
Ai (n3 != n4) (
AI<|
An 1 [.bool true])<|
Aj F.a21 [B2 n7 n8 n9 n10 n11 n12 n13] λn14=>
AI<|
An 1 [.bool (decide (Aq (n5+(Al l6))>n14))])) λb15=>
Ai b15 (
Ar T.a7 a2 (Bt false 0)<|
B9 T.a7 a2 λb16 n17=>
An 0 [Bt b16 n17,.bool false])<|
AP T.a13 a1 3 λn18=>
AP T.a13 a0 2 λn19=>
Bw ((n18 == n19)=true) T.a38 a1 6 λl20=>
AQ ((n18 == n19)=true) T.a13 a0 3 λn21=>
Ai (n18 == n19 && (Al l20) == n21) (
AP T.a14 a0 4 λn22=>
Ar T.a7 a2 (Bt true n22)<|
B9 T.a7 a2 λb23 n24=>
An 0 [Bt b23 n24,.bool true])<|
Ar T.a7 a2 (.agg #[.bool true,Ac (-1)])<|
B9 T.a7 a2 λb25 n26=>
An 0 [Bt b25 n26,.bool true]
theorem ztj (r_0 r_1 r_2 r_3 r_4 r_5 r_6 b_0 b_1 b_2 b_3 b_4 b_5:Int) (b_6:Sl):FnS (z06w r_0 r_1 r_2 r_3 r_4 r_5 r_6 b_0 b_1 b_2 b_3 b_4 b_5 b_6) F.a30 #[.agg #[.int .i64 r_0,.int .i64 r_1,.int .i64 r_2,.int .i64 r_3,.int .i64 r_4,.int .i64 r_5,.int .i64 r_6],.agg #[.int .i64 b_0,.int .i64 b_1,.int .i64 b_2,.int .i64 b_3,.int .i64 b_4,.int .i64 b_5,.slice b_6.a b_6.len b_6.cap]]:=dV ⟨[],[],[(1,[(21,.one .bool)])],[]⟩ Go.Proofs.Tryz.func307 (by kernel_rfl)
def z06u (t:Option Addr) (r_0 r_1 r_2 r_3 r_4 r_5 r_6:Int) (there:Bool) (b_0 b_1 b_2 b_3 b_4 b_5:Int) (b_6:Sl):Prog :=
Av T.a5 (B2 r_0 r_1 r_2 r_3 r_4 r_5 r_6) λa0=>
Av T.a0 (AF b_0 b_1 b_2 b_3 b_4 b_5 b_6) λa1=>
B4 T.a5 a0 λn2 n3 n4 n5 n6 n7 n8=>
Aj F.a21 [B2 n2 n3 n4 n5 n6 n7 n8] λn9=>
Af n9 λn10=>
AP T.a13 a1 2 λn11=>
AP T.a13 a0 1 λn12=>
Ap 1 (
Ai (decide (n11>n12)) (
An 1 [Ac 0])<|
An 1 [Ac n10]) λn13=>
B4 T.a5 a0 λn14 n15 n16 n17 n18 n19 n20=>
Am F.a22 [B2 n14 n15 n16 n17 n18 n19 n20] λb21=>
AQ (b21=true) T.a13 a1 2 λn22=>
AQ (b21=true) T.a13 a0 1 λn23=>
AQ (b21=true/\decide (n22>n23)=false) T.a13 a1 4 λn24=>
Ba (b21 && (decide (n22>n23) || n24 == 0)) (
An 0 [Ac 22])<|
AH T.a0 a1 λn26 n27 n28 n29 n30 n31 l32=>
Am F.a31 [AF n26 n27 n28 n29 n30 n31 l32] λb33=>
AQ (not b33=true) T.a13 a1 3 λn34=>
Ba (not b33 && n34 != n13) (
An 0 [Ac 21])<|
AG<|
AX (not there=true) t λa37=>
BB (not there=true) T.a20 a37 2 λm38=>
BF (not there=true) (Builtin.len_ #[T.a20] T.a13 #[.map m38]) λn39=>
AX (not there=true) t λa41=>
AQ (not there=true) T.a13 a41 0 λn42=>
Ag (not there && decide (n39>=n42)) λb43=>
AI<|
Ai b43 (
An 0 [Ac 5])<|
An 0 [Ac 0]
theorem zth (t:Option Addr) (r_0 r_1 r_2 r_3 r_4 r_5 r_6:Int) (there:Bool) (b_0 b_1 b_2 b_3 b_4 b_5:Int) (b_6:Sl):FnS (z06u t r_0 r_1 r_2 r_3 r_4 r_5 r_6 there b_0 b_1 b_2 b_3 b_4 b_5 b_6) F.a28 #[.pointer t,.agg #[.int .i64 r_0,.int .i64 r_1,.int .i64 r_2,.int .i64 r_3,.int .i64 r_4,.int .i64 r_5,.int .i64 r_6],.bool there,.agg #[.int .i64 b_0,.int .i64 b_1,.int .i64 b_2,.int .i64 b_3,.int .i64 b_4,.int .i64 b_5,.slice b_6.a b_6.len b_6.cap]]:=dV ⟨[(2097168,[(9,.one (.int .i64))])],[],[],[]⟩ Go.Proofs.Tryz.func308 (by kernel_rfl)
def z07v (v:Option Addr) (b_0 b_1 b_2 b_3 b_4 b_5:Int) (b_6:Sl):Prog :=
Av T.a0 (AF b_0 b_1 b_2 b_3 b_4 b_5 b_6) λa0=>
AP T.a14 a0 1 λn1=>
AP T.a13 a0 2 λn2=>
Ao T.a17 λa3=>
Ar T.a17 a3 (AS n1 n2)<|
Ah 1 (
AG<|
AA v λa5=>
Bl T.a22 a5 2 λm6=>
.hold True (ld T.a17 a3) (sG [.int .i64,.int .i64]) (u2 λ(n7 n8:Int)=>
Bo (Instr.lookup T.a22 (.map m6) (AS n7 n8) true) λn9 n10 n11 n12 b13=>
Ao T.a18 λa14=>
AI<|
Ar T.a18 a14 (Bp n9 n10 n11 n12)<|
Ag b13 λb15=>
AI<|
An 1 [.bool b15])) λb16=>
Bk 1 (
AG<|
AA v λa18=>
Bl T.a21 a18 1 λm19=>
Bn T.a14 a0 1 λn20=>
Bo (Instr.lookup T.a21 (.map m19) (Ac n20) true) λn21 n22 n23 n24 b25=>
Ao T.a18 λa26=>
AI<|
Ar T.a18 a26 (Bp n21 n22 n23 n24)<|
Ag b25 λb27=>
AI<|
An 1 [Az a26,.bool b27]) λa28 b29=>
Ba b16 (
An 0 [Ac 20])<|
BC (b29=true) (ld T.a17 (Addr.add a28 0)) λn31 n32=>
BC (b29=true) (ld T.a17 a3) λn33 n34=>
Ba (b29 && not (n31 == n33 && n32 == n34)) (
An 0 [Ac 22])<|
AP T.a13 a0 4 λn36=>
AX ((n36 == 1 && not b29)=true) v λa38=>
BB ((n36 == 1 && not b29)=true) T.a21 a38 1 λm39=>
BF ((n36 == 1 && not b29)=true) (Builtin.len_ #[T.a21] T.a13 #[.map m39]) λn40=>
Ba (n36 == 1 && not b29 && decide (n40>=1024)) (
An 0 [Ac 5])<|
AP T.a13 a0 4 λn42=>
AX ((n42 == 3 && b29)=true) v λa44=>
BB ((n42 == 3 && b29)=true) T.a22 a44 2 λm45=>
BF ((n42 == 3 && b29)=true) (Builtin.len_ #[T.a22] T.a13 #[.map m45]) λn46=>
Ba (n42 == 3 && b29 && decide (n46>=4096)) (
An 0 [Ac 5])<|
An 0 [Ac 0]
theorem zuk (v:Option Addr) (b_0 b_1 b_2 b_3 b_4 b_5:Int) (b_6:Sl):FnS (z07v v b_0 b_1 b_2 b_3 b_4 b_5 b_6) F.a78 #[.pointer v,.agg #[.int .i64 b_0,.int .i64 b_1,.int .i64 b_2,.int .i64 b_3,.int .i64 b_4,.int .i64 b_5,.slice b_6.a b_6.len b_6.cap]]:=dV ⟨[],[],[(2,[(7,.one .bool)]),(3,[(8,.one .adr),(9,.one .bool)])],[]⟩ Go.Proofs.Tryz.func309 (by kernel_rfl)
def z0ad (t:Option Addr):Prog :=
Ai (Option.isNone t) (
An 0 [.slice none 0 0])<|
AA t λa1=>
Bz T.a20 a1 2 λm2=>
.call F.a95 [.map m2] sV (u1 λv3=>
Ak F.a166 [v3] λl4=>
AU F.a169 [l4.v,.func (Fn.func 341) #[] #[]]<|
An 0 [l4.v])
def z0aj (v:Option Addr):Prog :=
Ai (Option.isNone v) (
An 0 [.slice none 0 0])<|
AA v λa1=>
Bz T.a22 a1 2 λm2=>
B8 (Instr.range T.a22 (.map m2)) λa3=>
AZ 1 (
.loop 2 [.one .slc] (⟨none,0,0⟩,()) (u1 λl4=>
.next (Instr.next (Az a3) false T.a53) ([.agg [.int .i64,.int .i64],.agg [.int .i64,.int .i64,.int .i64,.int .i64]]) (u6 λ(n5 n6 n7 n8 n9 n10:Int)=>
.act (Instr.entry (Az a3)) (.tup [.agg [.int .i64,.int .i64],.agg [.int .i64,.int .i64,.int .i64,.int .i64]]) (u6 λ(n11 n12 n13 n14 n15 n16:Int)=>
Ao T.a18 λa17=>
Ar T.a18 a17 (Bp n13 n14 n15 n16)<|
B7 T.a18 a17 λn18 n19 n20 n21=>
.call F.a80 [Bp n18 n19 n20 n21] (sG [.int .i64,.int .i64,.int .i64,.int .i64]) (u4 λ(n22 n23 n24 n25:Int)=>
AE (Instr.buildSlice T.a41 1 #[(0,Bp n22 n23 n24 n25)]) λl26=>
AE (app T.a41 T.a41 T.a41 l4.v l26.v) λl27=>
An 2 [l27.v]))) <|
An 1 [l4.v])) λl28=>
AU F.a170 [l28.v,.func (Fn.func 342) #[] #[]]<|
An 0 [l28.v]
def z07q (a_0 a_1 a_2 a_3 b_0 b_1 b_2:Int) (b_3:Int):Prog :=
Av T.a15 (Bp a_0 a_1 a_2 a_3) λa0=>
Av T.a15 (Bp b_0 b_1 b_2 b_3) λa1=>
AP T.a14 a0 3 λn2=>
AP T.a14 a1 3 λn3=>
Aj F.a1 [Ac n2,Ac n3] λn4=>
Af n4 λn5=>
An 0 [Ac n5]
theorem zud (a_0 a_1 a_2 a_3 b_0 b_1 b_2 b_3:Int):FnS (z07q a_0 a_1 a_2 a_3 b_0 b_1 b_2 b_3) F.a68 #[.agg #[.int .i64 a_0,.int .i64 a_1,.int .i64 a_2,.int .i64 a_3],.agg #[.int .i64 b_0,.int .i64 b_1,.int .i64 b_2,.int .i64 b_3]]:=dV ⟨[],[],[],[]⟩ Go.Proofs.Tryz.func342 (by kernel_rfl)
structure RowA where
 pid:Int
 epoch:Int
 seq:Int
 count:Int
 base:Int
 frm:Int
 time:Int
def z5t (t:RowA):List Value:=[.int .i64 t.pid,.int .i64 t.epoch,.int .i64 t.seq,.int .i64 t.count,.int .i64 t.base,.int .i64 t.frm,.int .i64 t.time]
instance:EncA z5t [.int .i64,.int .i64,.int .i64,.int .i64,.int .i64,.int .i64,.int .i64] (λt=>(t.pid,t.epoch,t.seq,t.count,t.base,t.frm,t.time,())):=⟨λ_=>rfl⟩
instance:EncN z5t 7:=⟨λ_=>rfl,by decide,by simp [z5t,Value.oneCell']⟩
instance:EncF z5t 0 (.int .i64) (λt=>t.pid):=⟨λ_=>rfl⟩
instance:EncF z5t 1 (.int .i64) (λt=>t.epoch):=⟨λ_=>rfl⟩
instance:EncF z5t 2 (.int .i64) (λt=>t.seq):=⟨λ_=>rfl⟩
instance:EncF z5t 3 (.int .i64) (λt=>t.count):=⟨λ_=>rfl⟩
instance:EncF z5t 4 (.int .i64) (λt=>t.base):=⟨λ_=>rfl⟩
instance:EncF z5t 5 (.int .i64) (λt=>t.frm):=⟨λ_=>rfl⟩
instance:EncF z5t 6 (.int .i64) (λt=>t.time):=⟨λ_=>rfl⟩
abbrev evW (t:RowA):Value:=.agg #[.int .i64 t.pid,.int .i64 t.epoch,.int .i64 t.seq,.int .i64 t.count,.int .i64 t.base,.int .i64 t.frm,.int .i64 t.time]
end Go.Dec
