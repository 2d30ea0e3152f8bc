/- What the claim of this folder leans on: our own texts, joined, without what it does not use. -/
import Derived.Test.YtgpcickgjngglaaGreatRows
import Derived.WalkKit
import Derived.ProofKit
import Derived.OpenShut
import Derived.RowKit3
import Derived.OrdersHeld
import Derived.Scope
import Derived.KernelRfl
import Derived.Laws.Sem
import Derived.Laws.StructEq
import Derived.Deep.AppendSrc
import Derived.Laws.BytesArg
import Derived.Laws.RangeString
import Derived.Maps.RangeRun
import Derived.Lib.ConvBytes
import Derived.Lib.SlBytesConst
import Derived.ChangeSlices
import Derived.ChangeMaps5
import Derived.ChangeSame
import Derived.Deep.Slices
import Derived.Deep.Fields
import Derived.Test.YtgpcickgjngglaaGreatProg
import Derived.Laws.MakeOwn
import Derived.WideKeyRuns
import Derived.DeepKeys3
import Derived.Sort.MapsRangeIn
import Derived.Sort.KeysCollected
import Derived.RangeFuncNested
import Derived.RangeFuncBound
import Derived.RangeFuncCalls
import Derived.RangeFuncLeaves
import Derived.RangeFuncBox
import Derived.OwnWalkIn
import Derived.TacticsInMore
import Derived.RegionIn
import Derived.LoopNIn
import Derived.LoopIn
import Derived.Maps.AppendAt
import Derived.Shelf.Abstract
import Derived.Shelf.Sort.Plain
import Derived.Shelf.Slices.In.SortNone
import Derived.Test.YtgpcickgjngglaaGreatQORec1
import Derived.Test.YtgpcickgjngglaaGreatQORec2
set_option linter.unusedVariables false
set_option linter.unusedSimpArgs false
namespace Go.Dec
theorem dS {f:FuncId} {fn:Func} {n:Nat} {rv:List RV} {p:Prog} {w:World} {R:List Value->World->Prop} (H:Hints) (args:List Base) (hf:P.funcs[f]? = some fn) (hb:fn.body.isSome=true) (hn:fn.ntmps=n) (hr:zar fn.results.toList=rv) (he:zi9 P n ⟨zhu,[]⟩ H rv (zay fn) args=p) (h:p.wp P (λ_=>True) w λe vs w'=>e=0/\R vs w'):Ret P f (args.map Base.v).toArray w R:=z9l (zhp hf hb hn hr) zhv mix args (by rw [he];exact h)
abbrev FnS (p:Prog) (f:FuncId) (vs:Array Value):Prop:=∀ {w:World} {R:List Value->World->Prop},p.wp P (λ_=>True) w (λe vs w'=>e=0/\R vs w')->Ret P f vs w R
theorem dV {f:FuncId} {fn:Func} {p:Prog} {vs:List Value} (H:Hints) (hf:P.funcs[f]? = some fn) (he:(fn.body.isSome,zi9 P fn.ntmps ⟨zhu,[]⟩ H (zar fn.results.toList) (zay fn) (vs.map Base.val))=(true,p)):FnS p f vs.toArray:=λh=>by
 have e:=dS H (vs.map Base.val) hf (congrArg Prod.fst he) rfl rfl (congrArg Prod.snd he) h
 rwa [List.map_map,show Base.v∘Base.val=id from rfl,List.map_id] at e
abbrev Aa (b:Bool) (p q:Prog):Prog:=.ite b p q
abbrev Ab (e:Nat) (l:List Value):Prog:=.done e l
abbrev Ac (n:Int):Value:=.int .i64 n
abbrev Ad (p:Option Addr):Value:=.pointer p
abbrev Ae (t:TypeId) (v:Value) (k:Addr->Prog):Prog:=.act (Instr.box t v) sA (u1 k)
abbrev Af (a:Addr):Value:=.pointer (some a)
abbrev Ag (l:Sl):Int:=((l.len:Nat):Int)
abbrev Ah (x:Int) (k:Int->Prog):Prog:=.lt (.int .i64) x k
abbrev Ai (f:FuncId) (l:List Value) (k:Int->Prog):Prog:=.call f l (sI .i64) (u1 k)
abbrev Aj (s:Option Addr) (k:Addr->Prog):Prog:=.ex [.adr] (c1 λa=>s=some a) (u1 k)
abbrev Ak (t:TypeId) (a:Addr) (i:Nat) (k:(Option Nat)->Prog):Prog:=.read True (ld t (Addr.add a i)) sM (u1 k)
abbrev Al (m:Sem Value) (k:(Option Addr)->Prog):Prog:=.read True m sP (u1 k)
abbrev Am (f:FuncId) (l:List Value) (k:Prog):Prog:=.call f l (.tup []) (u0 k)
abbrev An (a:Addr) (i:Nat):Value:=.pointer (some (Addr.add a i))
abbrev Ao (x:Bool) (k:Bool->Prog):Prog:=.lt (.bool) x k
abbrev Ap (g:Prop) (s:Option Addr) (k:Addr->Prog):Prog:=.ex [.adr] (c1 λa=>g->s=some a) (u1 k)
abbrev Aq (g:Prop) (t:TypeId) (a:Addr) (i:Nat) (k:Bool->Prog):Prog:=.read g (ld t (Addr.add a i)) sB (u1 k)
abbrev Ar (t:TypeId) (k:Addr->Prog):Prog:=.act (new t) sA (u1 k)
abbrev As (g:Prop) (t:TypeId) (a:Addr) (i:Nat) (k:(Option Nat)->Prog):Prog:=.read g (ld t (Addr.add a i)) sM (u1 k)
abbrev Au (t:TypeId) (a:Addr) (v:Value) (k:Prog):Prog:=.actU (st t a v) k
abbrev Av (t:TypeId) (a:Addr) (k:Sl->Int->Prog):Prog:=.read True (ld t a) (sG [.slc,.int .i64]) (u2 k)
abbrev Aw (x0:Sl) (x1:Int):Value:=.agg #[x0.v,.int .i64 x1]
abbrev Ax (t:TypeId) (a:Addr) (i:Nat) (k:Sl->Prog):Prog:=.read True (ld t (Addr.add a i)) sL (u1 k)
abbrev Ay (f:FuncId) (l:List Value) (k:Sl->Prog):Prog:=.call f l sL (u1 k)
abbrev Az (x:Bool) (p q:Prog):Prog:=.lt .bool x λb=>.ite b p q
abbrev AA (t:TypeId) (a:Addr) (i:Nat) (k:Bool->Prog):Prog:=.read True (ld t (Addr.add a i)) sB (u1 k)
abbrev AB (e:Nat) (p:Prog) (k:Prog):Prog:=.bind e [] p (u0 k)
abbrev AC (k:Prog):Prog:=.tick k
abbrev AD (t:TypeId) (a:Addr) (i:Nat) (k:Int->Prog):Prog:=.read True (ld t (Addr.add a i)) (sI .i64) (u1 k)
abbrev AE (t:TypeId) (a:Addr) (i:Nat) (v:Value) (k:Prog):Prog:=.actU (st t (Addr.add a i) v) k
abbrev AF (n:Int):Int:=IntKind.wrap .i64 n
abbrev AG (k:Prog):Prog:=.untick k
abbrev AH (m:Sem Value) (k:Prog):Prog:=.act m (.tup []) (u0 k)
abbrev AI (e:Nat) (p:Prog) (k:Int->Prog):Prog:=.bind e [.one (.int .i64)] p (u1 k)
abbrev AJ (e:Nat) (x:Int × Int × Unit) (k:Int->Int->Prog):Prog:=.loop e [.one (.int .i64),.one (.int .i64)] x (u2 k)
abbrev AK (f:Value) (l:List Value) (k:Bool->Prog):Prog:=.callv f l sB (u1 k)
abbrev AL (e:Nat) (p:Prog) (k:Int->Int->Prog):Prog:=.bind e [.one (.int .i64),.one (.int .i64)] p (u2 k)
abbrev AM (f:FuncId) (l:List Value) (k:Bool->Prog):Prog:=.call f l sB (u1 k)
abbrev AN (m:Sem Unit) (k:Prog):Prog:=.actU m k
abbrev AO (e:Nat) (x:Int × Unit) (k:Int->Prog):Prog:=.loop e [.one (.int .i64)] x (u1 k)
abbrev AP (m:Sem Value) (k:Sl->Prog):Prog:=.act m sL (u1 k)
abbrev AQ (t:TypeId) (a:Addr) (i:Nat) (k:ByteArray->Prog):Prog:=.read True (ld t (Addr.add a i)) sS (u1 k)
abbrev AR (x:ByteArray) (k:ByteArray->Prog):Prog:=.lt (.str) x k
abbrev AS (e:Nat) (p:Prog) (k:Sl->Prog):Prog:=.bind e [.one .slc] p (u1 k)
abbrev AT (e:Nat) (p:Prog) (k:Int->Int->Prog):Prog:=.bind e [.one (.int .u64),.one (.int .i64)] p (u2 k)
abbrev AU (x:Int) (k:Int->Prog):Prog:=.lt (.int .u64) x k
abbrev AV (t:TypeId) (a:Addr) (i:Nat) (k:Int->Int->Int->Int->Int->Int->Sl->Prog):Prog:=.read True (ld t (Addr.add a i)) (sG [.int .i64,.int .i64,.int .i64,.int .i64,.int .i64,.int .i64,.slc]) (u7 k)
abbrev AW (x0:Int) (x1:Int) (x2:Int) (x3:Int) (x4:Int) (x5:Int) (x6:Sl):Value:=.agg #[.int .i64 x0,.int .i64 x1,.int .i64 x2,.int .i64 x3,.int .i64 x4,.int .i64 x5,x6.v]
abbrev AX (g:Prop) (t:TypeId) (a:Addr) (i:Nat) (k:Sl->Prog):Prog:=.read g (ld t (Addr.add a i)) sL (u1 k)
abbrev AY (t:TypeId) (a:Addr) (i:Nat) (k:Int->Prog):Prog:=.read True (ld t (Addr.add a i)) (sI .u8) (u1 k)
abbrev AZ (x:Int) (k:Int->Prog):Prog:=.lt (.int .u8) x k
abbrev Ba (t:TypeId) (a:Addr) (k:Int->Prog):Prog:=.read True (ld t a) (sI .u64) (u1 k)
abbrev Bb (f:FuncId) (l:List Value) (k:Int->Int->Prog):Prog:=.call f l (.tup [.one (.int .i64),.one (.int .i64)]) (u2 k)
abbrev Bc (e:Nat) (p:Prog) (k:Bool->Prog):Prog:=.bind e [.one .bool] p (u1 k)
abbrev Bd (g:Prop) (t:TypeId) (a:Addr) (i:Nat) (k:Int->Int->Int->Int->Prog):Prog:=.read g (ld t (Addr.add a i)) (sG [.int .i64,.int .i64,.int .i64,.int .i64]) (u4 k)
abbrev Be (x0:Int) (x1:Int) (x2:Int) (x3:Int):Value:=.agg #[.int .i64 x0,.int .i64 x1,.int .i64 x2,.int .i64 x3]
abbrev Bf (f:Value) (l:List Value) (k:Int->Prog):Prog:=.callv f l (sI .i64) (u1 k)
abbrev Bg (f:FuncId) (l:List Value) (k:Int->Bool->Prog):Prog:=.call f l (.tup [.one (.int .i64),.one .bool]) (u2 k)
abbrev Bh (g:Prop) (t:TypeId) (a:Addr) (i:Nat) (k:ByteArray->Prog):Prog:=.read g (ld t (Addr.add a i)) sS (u1 k)
abbrev Bi (t:TypeId) (a:Addr) (i:Nat) (k:Int->Int->Int->Int->Prog):Prog:=.read True (ld t (Addr.add a i)) (sG [.int .i64,.int .i64,.int .i64,.int .i64]) (u4 k)
abbrev Bj (f:FuncId) (l:List Value) (k:Int->Prog):Prog:=.call f l (sI .u64) (u1 k)
abbrev Bk (t:TypeId) (a:Addr) (k:Int->Prog):Prog:=.read True (ld t a) (sI .i64) (u1 k)
abbrev Bl (e:Nat) (x:Sl × Int × Unit) (k:Sl->Int->Prog):Prog:=.loop e [.one .slc,.one (.int .i64)] x (u2 k)
abbrev Bn (t:TypeId) (a:Addr) (k:Int->Int->Int->Int->Int->Int->Sl->Prog):Prog:=.read True (ld t a) (sG [.int .i64,.int .i64,.int .i64,.int .i64,.int .i64,.int .i64,.slc]) (u7 k)
abbrev Bo (t:TypeId) (a:Addr) (i:Nat) (k:ByteArray->ByteArray->Bool->Int->Prog):Prog:=.read True (ld t (Addr.add a i)) (sG [.str,.str,.bool,.int .i64]) (u4 k)
abbrev Bp (x0:ByteArray) (x1:ByteArray) (x2:Bool) (x3:Int):Value:=.agg #[.string x0,.string x1,.bool x2,.int .i64 x3]
abbrev Bq (t:TypeId) (a:Addr) (k:ByteArray->ByteArray->Bool->Int->Prog):Prog:=.read True (ld t a) (sG [.str,.str,.bool,.int .i64]) (u4 k)
abbrev Br (x0:Int) (x1:Int):Value:=.agg #[.int .i64 x0,.int .i64 x1]
abbrev Bs (g:Prop) (m:Sem Value) (k:Int->Int->Prog):Prog:=.read g m (sG [.int .i64,.int .i64]) (u2 k)
abbrev Bt (f:FuncId) (l:List Value) (k:Sl->Int->Prog):Prog:=.call f l (.tup [.one .slc,.one (.int .i64)]) (u2 k)
abbrev Bu (f:FuncId) (l:List Value) (k:ByteArray->Prog):Prog:=.call f l sS (u1 k)
abbrev Bv (t:TypeId) (a:Addr) (k:(Option Addr)->Prog):Prog:=.read True (ld t a) sP (u1 k)
abbrev Bw (t:TypeId) (a:Addr) (i:Nat) (k:(Option Addr)->Prog):Prog:=.read True (ld t (Addr.add a i)) sP (u1 k)
abbrev Bx (m:Sem Value) (k:Sl->Prog):Prog:=.read True m sL (u1 k)
abbrev By (t:TypeId) (a:Addr) (i:Nat) (k:Int->Prog):Prog:=.hold True (ld t (Addr.add a i)) (sI .i64) (u1 k)
abbrev Bz (g:Prop) (t:TypeId) (a:Addr) (i:Nat) (k:Int->Prog):Prog:=.read g (ld t (Addr.add a i)) (sI .i64) (u1 k)
abbrev B0 (g:Prop) (t:TypeId) (a:Addr) (i:Nat) (k:Int->Prog):Prog:=.read g (ld t (Addr.add a i)) (sI .u8) (u1 k)
abbrev B1 (f:FuncId) (l:List Value) (k:(Option Addr)->Prog):Prog:=.call f l sP (u1 k)
abbrev B2 (m:Sem Value) (k:ByteArray->Prog):Prog:=.read True m sS (u1 k)
abbrev B3 (f:FuncId) (l:List Value) (k:Sl->Int->Bool->Prog):Prog:=.call f l (.tup [.one .slc,.one (.int .i64),.one .bool]) (u3 k)
abbrev B4 (t:TypeId) (a:Addr) (i:Nat) (k:(Option Addr)->Prog):Prog:=.hold True (ld t (Addr.add a i)) sP (u1 k)
abbrev B5 (t:TypeId) (p:Option Addr) (k:(Option Addr)->Prog):Prog:=.read True (Instr.loadAt t (.pointer p)) sP (u1 k)
abbrev B6 (t:TypeId) (p:Option Addr) (k:Int->Prog):Prog:=.read True (Instr.loadAt t (.pointer p)) (sI .i64) (u1 k)
abbrev B7 (g:Prop) (t:TypeId) (a:Addr) (k:Int->Int->Int->Int->Int->Int->Sl->Prog):Prog:=.read g (ld t a) (sG [.int .i64,.int .i64,.int .i64,.int .i64,.int .i64,.int .i64,.slc]) (u7 k)
abbrev B8 (x0:Int) (x1:Int) (x2:Int):Value:=.agg #[.int .i64 x0,.int .i64 x1,.int .i64 x2]
abbrev B9 (f:FuncId) (l:List Value) (k:Int->Int->Int->Int->Int->Int->Sl->Prog):Prog:=.call f l (sG [.int .i64,.int .i64,.int .i64,.int .i64,.int .i64,.int .i64,.slc]) (u7 k)
abbrev BA (f:FuncId) (l:List Value) (k:Int->Prog):Prog:=.call f l (sI .u32) (u1 k)
abbrev BB (x:Int) (k:Int->Prog):Prog:=.lt (.int .u32) x k
abbrev BC (f:FuncId) (l:List Value) (k:(Option Addr)->Int->Prog):Prog:=.call f l (.tup [.one .ptr,.one (.int .i64)]) (u2 k)
abbrev BD (t:TypeId) (a:Addr) (k:Int->Int->Int->Prog):Prog:=.read True (ld t a) (sG [.int .i64,.int .i64,.int .i64]) (u3 k)
abbrev BE (e:Nat) (p:Prog) (k:Int->Prog):Prog:=.bind e [.one (.int .u32)] p (u1 k)
abbrev BF (e:Nat) (x:Int × Int × Unit) (k:Int->Int->Prog):Prog:=.loop e [.one (.int .u32),.one (.int .i64)] x (u2 k)
abbrev BG (t:TypeId) (a:Addr) (k:Int->Int->Int->Int->Prog):Prog:=.read True (ld t a) (sG [.int .i64,.int .i64,.int .i64,.int .i64]) (u4 k)
abbrev BH (f:FuncId) (l:List Value) (k:Int->Int->Int->Int->Prog):Prog:=.call f l (sG [.int .i64,.int .i64,.int .i64,.int .i64]) (u4 k)
abbrev BI (f:FuncId) (l:List Value) (k:ByteArray->ByteArray->Bool->Int->Int->Prog):Prog:=.call f l (.tup [.agg [.str,.str,.bool,.int .i64],.one (.int .i64)]) (u5 k)
abbrev BJ (f:FuncId) (l:List Value) (k:Int->Int->Int->Int->Int->Prog):Prog:=.call f l (.tup [.agg [.int .i64,.int .i64,.int .i64,.int .i64],.one (.int .i64)]) (u5 k)
abbrev BK (f:FuncId) (l:List Value) (k:Int->Bool->Int->Prog):Prog:=.call f l (.tup [.one (.int .i64),.one .bool,.one (.int .i64)]) (u3 k)
abbrev BL (e:Nat) (p:Prog) (k:Addr->Bool->Prog):Prog:=.bind e [.one .adr,.one .bool] p (u2 k)
abbrev BM (f:FuncId) (l:List Value) (k:Int->ByteArray->ByteArray->Bool->Int->Bool->Prog):Prog:=.call f l (.tup [.agg [.int .i64,.str,.str,.bool,.int .i64],.one .bool]) (u6 k)
abbrev BN (x0:Int) (x1:ByteArray) (x2:ByteArray) (x3:Bool) (x4:Int):Value:=.agg #[.int .i64 x0,.string x1,.string x2,.bool x3,.int .i64 x4]
abbrev BO (t:TypeId) (a:Addr) (i:Nat) (k:Int->Int->Prog):Prog:=.read True (ld t (Addr.add a i)) (sG [.int .i64,.int .i64]) (u2 k)
abbrev BQ (g:Prop) (t:TypeId) (a:Addr) (i:Nat) (k:Int->Prog):Prog:=.hold g (ld t (Addr.add a i)) (sI .i64) (u1 k)
abbrev BR (t:TypeId) (a:Addr) (i:Nat) (k:Int->ByteArray->ByteArray->Bool->Int->Prog):Prog:=.read True (ld t (Addr.add a i)) (sG [.int .i64,.str,.str,.bool,.int .i64]) (u5 k)
abbrev BS (t:TypeId) (a:Addr) (k:Int->ByteArray->ByteArray->Bool->Int->Prog):Prog:=.read True (ld t a) (sG [.int .i64,.str,.str,.bool,.int .i64]) (u5 k)
abbrev BT (f:FuncId) (l:List Value) (k:Sl->Bool->Prog):Prog:=.call f l (.tup [.one .slc,.one .bool]) (u2 k)
abbrev BU (t:TypeId) (a:Addr) (i:Nat) (k:(Option Nat)->Prog):Prog:=.hold True (ld t (Addr.add a i)) sM (u1 k)
abbrev BV (m:Sem Value) (k:Int->Int->Int->Int->Bool->Prog):Prog:=.hold True m (.tup [.agg [.int .i64,.int .i64,.int .i64,.int .i64],.one .bool]) (u5 k)
abbrev BW (f:FuncId) (l:List Value) (k:Bool->Int->Int->Prog):Prog:=.call f l (.tup [.agg [.bool,.int .i64],.one (.int .i64)]) (u3 k)
abbrev BX (x0:Bool) (x1:Int):Value:=.agg #[.bool x0,.int .i64 x1]
abbrev BY (x0:Int) (x1:Int) (x2:Int) (x3:Int) (x4:Int) (x5:Int) (x6:Int):Value:=.agg #[.int .i64 x0,.int .i64 x1,.int .i64 x2,.int .i64 x3,.int .i64 x4,.int .i64 x5,.int .i64 x6]
abbrev BZ (g:Prop) (t:TypeId) (a:Addr) (k:Int->Int->Int->Int->Int->Int->Int->Prog):Prog:=.read g (ld t a) (sG [.int .i64,.int .i64,.int .i64,.int .i64,.int .i64,.int .i64,.int .i64]) (u7 k)
abbrev Ca (t:TypeId) (a:Addr) (k:Int->Int->Int->Int->Int->Int->Int->Prog):Prog:=.read True (ld t a) (sG [.int .i64,.int .i64,.int .i64,.int .i64,.int .i64,.int .i64,.int .i64]) (u7 k)
abbrev Cb (t:TypeId) (a:Addr) (k:Bool->Int->Prog):Prog:=.read True (ld t a) (sG [.bool,.int .i64]) (u2 k)
abbrev Cc (g:Prop) (m:Sem Value) (k:Int->Prog):Prog:=.read g m (sI .i64) (u1 k)
def z07q (room:Int):Prog :=
Aa (decide (room<0) || decide (room>4194304)) (
Ab 0 [Ad none,Ac 2])<|
.act (Instr.makeMap T.a22 none) sM (u1 λm0=>
Ae T.a8 (.agg #[Ac (-1),.bool false,Ac room,Ac 0,.map m0]) λa1=>
Ab 0 [Af a1,Ac 0])
theorem zty (room:Int):FnS (z07q room) F.a39 #[.int .i64 room]:=dV ⟨[],[],[],[]⟩ Go.Proofs.Tryz.func12 (by kernel_rfl)
def z07k (d:Option Addr) (name:ByteArray):Prog :=
.call F.a35 [Ad d,.string name] (sG [.slc,.int .i64]) (u2 λl0 (n1:Int)=>
Ah (Ag l0) λn2=>
Ab 0 [Ac n2])
theorem zts (d:Option Addr) (name:ByteArray):FnS (z07k d name) F.a33 #[.pointer d,.string name]:=dV ⟨[],[],[],[]⟩ Go.Proofs.Tryz.func120 (by kernel_rfl)
def z07j (d:Option Addr) (name:ByteArray):Prog :=
Ai F.a37 [Ad d] λn0=>
Ah n0 λn1=>
Aa (n1 != 0) (
Ah n1 λn2=>
Ab 0 [Ac n2])<|
Aj d λa4=>
Ak T.a22 a4 4 λm5=>
Al (Instr.lookup T.a22 (.map m5) (.string name) false) λp6=>
Aa (Option.isNone p6) (
Ab 0 [Ac 3])<|
Am F.a36 [Ad d,.string name]<|
Aj d λa8=>
Am F.a40 [An a8 0]<|
Ab 0 [Ac 0]
theorem ztr (d:Option Addr) (name:ByteArray):FnS (z07j d name) F.a32 #[.pointer d,.string name]:=dV ⟨[],[],[],[]⟩ Go.Proofs.Tryz.func123 (by kernel_rfl)
def z008 (x:Int):Prog :=
Ai F.a74 [.int .u64 x] λn0=>
Ah n0 λn1=>
Ab 0 [Ac n1]
theorem zhf (x:Int):FnS (z008 x) F.a73 #[.int .u64 x]:=dV ⟨[],[],[],[]⟩ Go.Proofs.Tryz.func166 (by kernel_rfl)
def z022 (s:Sl) (f:Value):Prog :=
Ai F.a150 [s.v,f] λn0=>
Ao (decide (n0>=0)) λb1=>
Ab 0 [.bool b1]
theorem zol (s:Sl) (f:Value) {w:World} {R:List Value->World->Prop} (h:(z022 s f).wp P (λ_=>True) w λe vs w'=>e=0/\R vs w'):Ret P F.a148 #[.slice s.a s.len s.cap,f] w R:=dS (n:=9) (rv:=[.tmp 4]) { cnd:=[],blk:=[],reg:=[],lps:=[] } [.val (.slice s.a s.len s.cap),.any f] Go.Proofs.Tryz.func167 (by kernel_rfl) (by kernel_rfl) (by kernel_rfl) (by kernel_rfl) h
def z07h (d:Option Addr):Prog :=
Ap (Option.isNone d=false) d λa1=>
Aq (Option.isNone d=false) T.a3 (Addr.add a1 0) 1 λb2=>
Ao (Option.isNone d || b2) λb3=>
Ab 0 [.bool b3]
theorem ztp (d:Option Addr):FnS (z07h d) F.a29 #[.pointer d]:=dV ⟨[],[],[],[]⟩ Go.Proofs.Tryz.func171 (by kernel_rfl)
def z07m (d:Option Addr) (name:ByteArray):Prog :=
Ar T.a9 λa0=>
Ap (Option.isNone d=false) d λa2=>
As (Option.isNone d=false) T.a22 a2 4 λm3=>
.read (Option.isNone d=false) (Instr.lookup T.a22 (.map m3) (.string name) false) sP (u1 λp4=>
Aa (Option.isNone d || Option.isNone p4) (
Au T.a9 a0 (.agg #[.slice none 0 0,Ac 0])<|
Av T.a9 a0 λl5 n6=>
Ab 0 [Aw l5 n6])<|
Aj d λa8=>
Ak T.a22 a8 4 λm9=>
Al (Instr.lookup T.a22 (.map m9) (.string name) false) λp10=>
Aj p10 λa12=>
Av T.a9 a12 λl13 n14=>
Au T.a9 a0 (Aw l13 n14)<|
Av T.a9 a0 λl15 n16=>
Ab 0 [Aw l15 n16])
theorem ztu (d:Option Addr) (name:ByteArray):FnS (z07m d name) F.a35 #[.pointer d,.string name]:=dV ⟨[],[],[],[]⟩ Go.Proofs.Tryz.func177 (by kernel_rfl)
def z07i (d:Option Addr) (name:ByteArray):Prog :=
Aa (Option.isNone d) (
Ab 0 [.slice none 0 0,Ac 1])<|
Aj d λa1=>
Ak T.a22 a1 4 λm2=>
Al (Instr.lookup T.a22 (.map m2) (.string name) false) λp3=>
Aa (Option.isNone p3) (
Ab 0 [.slice none 0 0,Ac 3])<|
Aj p3 λa5=>
Ax T.a49 a5 0 λl6=>
Ay F.a0 [l6.v] λl7=>
Ab 0 [l7.v,Ac 0]
theorem ztq (d:Option Addr) (name:ByteArray):FnS (z07i d name) F.a31 #[.pointer d,.string name]:=dV ⟨[],[],[],[]⟩ Go.Proofs.Tryz.func178 (by kernel_rfl)
def z07o (d:Option Addr):Prog :=
Az (Option.isNone d) (
Ab 0 [Ac 1])<|
Aj d λa2=>
AA T.a3 (Addr.add a2 0) 1 λb3=>
Az b3 (
Ab 0 [Ac 9])<|
Ab 0 [Ac 0]
theorem ztw (d:Option Addr):FnS (z07o d) F.a37 #[.pointer d]:=dV ⟨[],[],[],[]⟩ Go.Proofs.Tryz.func179 (by kernel_rfl)
def z07n (d:Option Addr) (name:ByteArray):Prog :=
Aj d λa1=>
Ak T.a22 a1 4 λm2=>
Al (Instr.lookup T.a22 (.map m2) (.string name) false) λp3=>
AB 1 (
Aa (not (Option.isNone p3)) (
AC<|
Aj d λa5=>
AD T.a13 a5 3 λn6=>
Aj p3 λa8=>
Ax T.a49 a8 0 λl9=>
Aj d λa11=>
AE T.a13 a11 3 (Ac (AF (n6-(Ag l9))))<|
AG<|
Aj d λa13=>
Ak T.a22 a13 4 λm14=>
AH (Builtin.delete_ #[T.a22,T.a54] T.a58 #[.map m14,.string name])<|
Ab 1 [])<|
Ab 1 [])<|
Ab 0 []
theorem ztv (d:Option Addr) (name:ByteArray):FnS (z07n d name) F.a36 #[.pointer d,.string name]:=dV ⟨[(4398012956684,[])],[],[],[]⟩ Go.Proofs.Tryz.func180 (by kernel_rfl)
def z07r (p:Option Addr):Prog :=
Aj p λa1=>
AD T.a13 a1 0 λn2=>
AB 1 (
Aa (decide (n2>0)) (
Aj p λa4=>
AD T.a13 a4 0 λn5=>
Aj p λa7=>
AE T.a13 a7 0 (Ac (AF (n5-1)))<|
Aj p λa9=>
AD T.a13 a9 0 λn10=>
Aj p λa12=>
AE T.a3 a12 1 (.bool (n10 == 0))<|
Ab 1 [])<|
Ab 1 [])<|
Ab 0 []
theorem ztz (p:Option Addr):FnS (z07r p) F.a40 #[.pointer p]:=dV ⟨[(17179344902,[])],[],[],[]⟩ Go.Proofs.Tryz.func181 (by kernel_rfl)
def z029 (n:Int) (f:Value):Prog :=
Ah n λn0=>
AI 1 (
AJ 2 (0,(n0,())) λn1 n2=>
Aa (decide (n1<n2)) (
Ah (AF (Int.fdiv (IntKind.wrap .u64 (AF (n1+n2))) 2)) λn3=>
AK f [Ac n3] λb4=>
AL 3 (
Aa (not b4) (
Ah (AF (n3+1)) λn5=>
Ab 3 [Ac n5,Ac n2])<|
Ah n3 λn6=>
Ab 3 [Ac n1,Ac n6]) λn7 n8=>
Ab 2 [Ac n7,Ac n8])<|
Ab 1 [Ac n1]) λn9=>
Ah n9 λn10=>
Ab 0 [Ac n10]
theorem zos (n:Int) (f:Value) {w:World} {R:List Value->World->Prop} (h:(z029 n f).wp P (λ_=>True) w λe vs w'=>e=0/\R vs w'):Ret P F.a182 #[.int .i64 n,f] w R:=dS (n:=26) (rv:=[.tmp 4]) { cnd:=[(120259477525,[(5,.one (.int .i64)),(6,.one (.int .i64))])],blk:=[(0,[(5,.one (.int .i64))])],reg:=[],lps:=[(0,[(5,.one (.int .i64)),(6,.one (.int .i64))])] } [.val (.int .i64 n),.any f] Go.Proofs.Tryz.func194 (by kernel_rfl) (by kernel_rfl) (by kernel_rfl) (by kernel_rfl) h
def z07e (d:Option Addr) (name:ByteArray) (parts:Sl):Prog :=
Ai F.a37 [Ad d] λn0=>
Ah n0 λn1=>
Aa (n1 != 0) (
Ah n1 λn2=>
Ab 0 [Ac n2])<|
AM F.a38 [.string name] λb3=>
Aa (not b3) (
Ab 0 [Ac 2])<|
AI 1 (
AJ 2 (0,(0,())) λn4 n5=>
Aa (decide (n5<(Ag parts))) (
.ex [.adr] (c1 λa6=>0<=n5/\n5<(Ag parts)/\parts.a=some a6) (u1 λa7=>
Ax T.a49 a7 (Int.toNat n5*1) λl8=>
Ai F.a28 [Ad d] λn9=>
Aa (decide ((Ag l8)>AF (n9-n4))) (
Ab 0 [Ac 5])<|
Ah (AF (n4+(Ag l8))) λn10=>
Ab 2 [Ac n10,Ac (AF (n5+1))]))<|
Ab 1 [Ac n4]) λn11=>
Aj d λa13=>
Ak T.a22 a13 4 λm14=>
.read True (Instr.lookup T.a22 (.map m14) (.string name) true) (.tup [.one .ptr,.one .bool]) (u2 λp15 b16=>
Ao b16 λb17=>
.bind 1 [.one .ptr] (
Aa (not b17) (
Aj d λa19=>
Ak T.a22 a19 4 λm20=>
.read True (Builtin.len_ #[T.a22] T.a13 #[.map m20]) (sI .i64) (u1 λ(n21:Int)=>
Aa (decide (n21>=128)) (
Ab 0 [Ac 5])<|
Ae T.a9 (.agg #[.slice none 0 0,Ac 0]) λa22=>
Aj d λa24=>
Ak T.a22 a24 4 λm25=>
AN (Instr.mapUpdate T.a22 (.map m25) (.string name) (Af a22))<|
Ab 1 [Af a22]))<|
Ab 1 [Ad p15]) (u1 λp26=>
AB 1 (
AO 2 (0,()) λn27=>
Aa (decide (n27<(Ag parts))) (
.ex [.adr] (c1 λa28=>0<=n27/\n27<(Ag parts)/\parts.a=some a28) (u1 λa29=>
Ax T.a49 a29 (Int.toNat n27*1) λl30=>
Aj p26 λa32=>
Ax T.a49 a32 0 λl33=>
AP (app T.a49 T.a49 T.a49 l33.v l30.v) λl34=>
Aj p26 λa36=>
AE T.a49 a36 0 l34.v<|
Ab 2 [Ac (AF (n27+1))]))<|
Ab 1 [])<|
Aj d λa38=>
AD T.a13 a38 3 λn39=>
Aj d λa41=>
AE T.a13 a41 3 (Ac (AF (n39+n11)))<|
Aj d λa43=>
Am F.a40 [An a43 0]<|
Ab 0 [Ac 0]))
theorem ztm (d:Option Addr) (name:ByteArray) (parts:Sl):FnS (z07e d name parts) F.a26 #[.pointer d,.string name,.slice parts.a parts.len parts.cap]:=dV ⟨[(604426016319167176900660,[(11,.one .ptr)])],[(0,[(8,.one (.int .i64))]),(2,[])],[],[(0,[(8,.one (.int .i64)),(26,.one (.int .i64))]),(2,[(69,.one (.int .i64))])]⟩ Go.Proofs.Tryz.func219 (by kernel_rfl)
def z07l (d:Option Addr) (names:Sl):Prog :=
Ai F.a37 [Ad d] λn0=>
Ah n0 λn1=>
Aa (n1 != 0) (
Ah n1 λn2=>
Ab 0 [Ac n2])<|
AB 1 (
AO 2 (0,()) λn3=>
Aa (decide (n3<(Ag names))) (
.ex [.adr] (c1 λa4=>0<=n3/\n3<(Ag names)/\names.a=some a4) (u1 λa5=>
AQ T.a54 a5 (Int.toNat n3*1) λs6=>
AR s6 λs7=>
Aj d λa9=>
Ak T.a22 a9 4 λm10=>
Al (Instr.lookup T.a22 (.map m10) (.string s7) false) λp11=>
Aa (Option.isNone p11) (
Ab 0 [Ac 3])<|
Ab 2 [Ac (AF (n3+1))]))<|
Ab 1 [])<|
AS 1 (
Aa ((Ag names) == 0) (
Ay F.a30 [Ad d,.string (ByteArray.mk #[])] λl12=>
Ab 1 [l12.v])<|
Ab 1 [names.v]) λl13=>
AB 1 (
AO 2 (0,()) λn14=>
Aa (decide (n14<(Ag l13))) (
.ex [.adr] (c1 λa15=>0<=n14/\n14<(Ag l13)/\l13.a=some a15) (u1 λa16=>
AQ T.a54 a16 (Int.toNat n14*1) λs17=>
AR s17 λs18=>
Aj d λa20=>
Ak T.a22 a20 4 λm21=>
Al (Instr.lookup T.a22 (.map m21) (.string s18) false) λp22=>
Aj p22 λa24=>
Ax T.a49 a24 0 λl25=>
Aj p22 λa27=>
AE T.a13 a27 1 (Ac (Ag l25))<|
Ab 2 [Ac (AF (n14+1))]))<|
Ab 1 [])<|
Aj d λa29=>
Am F.a40 [An a29 0]<|
Ab 0 [Ac 0]
theorem ztt (d:Option Addr) (names:Sl):FnS (z07l d names) F.a34 #[.pointer d,.slice names.a names.len names.cap]:=dV ⟨[(105553116274720,[(1,.one .slc)])],[(0,[]),(2,[])],[],[(0,[(18,.one (.int .i64))]),(2,[(37,.one (.int .i64))])]⟩ Go.Proofs.Tryz.func220 (by kernel_rfl)
def z009 (x:Int):Prog :=
AT 1 (
Aa (decide (x>=4294967296)) (
AU (Int.fdiv x 4294967296) λn0=>
Ab 1 [.int .u64 n0,Ac 32])<|
Ab 1 [.int .u64 x,Ac 0]) λn1 n2=>
AT 1 (
Aa (decide (n1>=65536)) (
AU (Int.fdiv n1 65536) λn3=>
Ah (AF (n2+16)) λn4=>
Ab 1 [.int .u64 n3,Ac n4])<|
Ab 1 [.int .u64 n1,Ac n2]) λn5 n6=>
AT 1 (
Aa (decide (n5>=256)) (
AU (Int.fdiv n5 256) λn7=>
Ah (AF (n6+8)) λn8=>
Ab 1 [.int .u64 n7,Ac n8])<|
Ab 1 [.int .u64 n5,Ac n6]) λn9 n10=>
.must (0<=IntKind.wrap .u8 n9/\IntKind.wrap .u8 n9<256) <|
Ah (AF (n10+AF (bt (ByteArray.mk #[0,1,2,2,3,3,3,3,4,4,4,4,4,4,4,4,5,5,5,5,5,5,5,5,5,5,5,5,5,5,5,5,6,6,6,6,6,6,6,6,6,6,6,6,6,6,6,6,6,6,6,6,6,6,6,6,6,6,6,6,6,6,6,6,7,7,7,7,7,7,7,7,7,7,7,7,7,7,7,7,7,7,7,7,7,7,7,7,7,7,7,7,7,7,7,7,7,7,7,7,7,7,7,7,7,7,7,7,7,7,7,7,7,7,7,7,7,7,7,7,7,7,7,7,7,7,7,7,8,8,8,8,8,8,8,8,8,8,8,8,8,8,8,8,8,8,8,8,8,8,8,8,8,8,8,8,8,8,8,8,8,8,8,8,8,8,8,8,8,8,8,8,8,8,8,8,8,8,8,8,8,8,8,8,8,8,8,8,8,8,8,8,8,8,8,8,8,8,8,8,8,8,8,8,8,8,8,8,8,8,8,8,8,8,8,8,8,8,8,8,8,8,8,8,8,8,8,8,8,8,8,8,8,8,8,8,8,8,8,8,8,8,8,8,8,8,8,8,8,8,8,8,8,8,8,8]) (IntKind.wrap .u8 n9)))) λn11=>
Ab 0 [Ac n11]
theorem zhg (x:Int):FnS (z009 x) F.a74 #[.int .u64 x]:=dV ⟨[(413700,[(0,.one (.int .u64)),(2,.one (.int .i64))]),(31477768,[(0,.one (.int .u64)),(2,.one (.int .i64))]),(2013286414,[(0,.one (.int .u64)),(2,.one (.int .i64))])],[],[],[]⟩ Go.Proofs.Tryz.func239 (by kernel_rfl)
def z024 (s:Sl) (f:Value):Prog :=
AB 1 (
AO 2 (0,()) λn0=>
Aa (decide (n0<(Ag s))) (
Ah n0 λn1=>
.ex [.adr] (c1 λa2=>0<=n1/\n1<(Ag s)/\s.a=some a2) (u1 λa3=>
AV T.a0 a3 (Int.toNat n1*7) λn4 n5 n6 n7 n8 n9 l10=>
AK f [AW n4 n5 n6 n7 n8 n9 l10] λb11=>
Aa b11 (
Ah n1 λn12=>
Ab 0 [Ac n12])<|
Ab 2 [Ac (AF (n0+1))]))<|
Ab 1 [])<|
Ab 0 [Ac (-1)]
theorem zon (s:Sl) (f:Value) {w:World} {R:List Value->World->Prop} (h:(z024 s f).wp P (λ_=>True) w λe vs w'=>e=0/\R vs w'):Ret P F.a150 #[.slice s.a s.len s.cap,f] w R:=dS (n:=19) (rv:=[.tmp 4]) { cnd:=[],blk:=[(0,[])],reg:=[],lps:=[(0,[(8,.one (.int .i64))])] } [.val (.slice s.a s.len s.cap),.any f] Go.Proofs.Tryz.func240 (by kernel_rfl) (by kernel_rfl) (by kernel_rfl) (by kernel_rfl) h
def z07f (d:Option Addr) (name:ByteArray) (n:Int):Prog :=
Ai F.a37 [Ad d] λn0=>
Ah n0 λn1=>
Aa (n1 != 0) (
Ah n1 λn2=>
Ab 0 [Ac n2])<|
Aj d λa4=>
Ak T.a22 a4 4 λm5=>
Al (Instr.lookup T.a22 (.map m5) (.string name) false) λp6=>
Az (Option.isNone p6) (
Ab 0 [Ac 3])<|
Ap (decide (n<0)=false) p6 λa9=>
AX (decide (n<0)=false) T.a49 a9 0 λl10=>
Az (decide (n<0) || decide (n>(Ag l10))) (
Ab 0 [Ac 2])<|
AC<|
Aj d λa13=>
AD T.a13 a13 3 λn14=>
Aj p6 λa16=>
Ax T.a49 a16 0 λl17=>
Aj d λa19=>
AE T.a13 a19 3 (Ac (AF (n14-AF ((Ag l17)-n))))<|
AG<|
Aj p6 λa21=>
Ax T.a49 a21 0 λl22=>
.must (0<=n/\n<=n/\n<=((l22.cap:Nat):Int)) <|
Aj p6 λa24=>
AE T.a49 a24 0 (.slice l22.a (Int.toNat n) (Int.toNat n))<|
Aj p6 λa26=>
AD T.a13 a26 1 λn27=>
Aj p6 λa29=>
AE T.a13 a29 1 (Ac (if n<n27 then n else n27))<|
Aj d λa31=>
Am F.a40 [An a31 0]<|
Ab 0 [Ac 0]
theorem ztn (d:Option Addr) (name:ByteArray) (n:Int):FnS (z07f d name n) F.a27 #[.pointer d,.string name,.int .i64 n]:=dV ⟨[],[],[],[]⟩ Go.Proofs.Tryz.func251 (by kernel_rfl)
def z026 (x:Sl) (cmp:Value):Prog :=
Ah (Ag x) λn0=>
Ai F.a73 [.int .u64 (IntKind.wrap .u64 n0)] λn1=>
Am F.a175 [x.v,Ac 0,Ac n0,Ac n1,cmp]<|
Ab 0 []
theorem zop (x:Sl) (cmp:Value) {w:World} {R:List Value->World->Prop} (h:(z026 x cmp).wp P (λ_=>True) w λe vs w'=>e=0/\R vs w'):Ret P F.a152 #[.slice x.a x.len x.cap,cmp] w R:=dS (n:=14) (rv:=[]) { cnd:=[],blk:=[],reg:=[],lps:=[] } [.val (.slice x.a x.len x.cap),.any cmp] Go.Proofs.Tryz.func266 (by kernel_rfl) (by kernel_rfl) (by kernel_rfl) (by kernel_rfl) h
def zf1 (x:Int) (y:Int):Prog :=
AM F.a3 [Ac x] λb0=>
Ao b0 λb1=>
AM F.a3 [Ac y] λb2=>
Ao b2 λb3=>
Aa b1 (
Aa b3 (
Ab 0 [Ac 0])<|
Ab 0 [Ac (-1)])<|
Aa b3 (
Ab 0 [Ac 1])<|
Aa (decide (x<y)) (
Ab 0 [Ac (-1)])<|
Aa (decide (x>y)) (
Ab 0 [Ac 1])<|
Ab 0 [Ac 0]
theorem zxf (x y:Int):FnS (zf1 x y) F.a1 #[.int .i64 x,.int .i64 y]:=dV ⟨[],[],[],[]⟩ Go.Proofs.Tryz.func268 (by kernel_rfl)
def z07p (s:ByteArray):Prog :=
Aa (decide (((ByteArray.size s:Nat):Int)<1) || decide (((ByteArray.size s:Nat):Int)>24)) (
Ab 0 [.bool false])<|
AP (convert T.a54 T.a49 (.string s)) λl0=>
AB 1 (
AO 2 (0,()) λn1=>
Aa (decide (n1<(Ag l0))) (
.ex [.adr] (c1 λa2=>0<=n1/\n1<(Ag l0)/\l0.a=some a2) (u1 λa3=>
AY T.a57 a3 (Int.toNat n1*1) λn4=>
AZ n4 λn5=>
Ao (decide (n5>=97) && decide (n5<=122)) λb6=>
Ao (decide (n5>=48) && decide (n5<=57)) λb7=>
Aa (not b6 && not b7 && n5 != 46 && n5 != 45) (
Ab 0 [.bool false])<|
Ab 2 [Ac (AF (n1+1))]))<|
Ab 1 [])<|
Ab 0 [.bool true]
theorem ztx (s:ByteArray):FnS (z07p s) F.a38 #[.string s]:=dV ⟨[],[(0,[])],[],[(0,[(18,.one (.int .i64))])]⟩ Go.Proofs.Tryz.func281 (by kernel_rfl)
def z07g (d:Option Addr):Prog :=
Aa (Option.isNone d) (
Ab 0 [Ac 0])<|
AC<|
Aj d λa1=>
AD T.a13 a1 2 λn2=>
Aj d λa4=>
AD T.a13 a4 3 λn5=>
Ah (if 0>AF (n2-n5) then 0 else AF (n2-n5)) λn6=>
AG<|
Ab 0 [Ac n6]
theorem zto (d:Option Addr):FnS (z07g d) F.a28 #[.pointer d]:=dV ⟨[],[],[],[]⟩ Go.Proofs.Tryz.func282 (by kernel_rfl)
def z09z (length:Int):Prog :=
Ai F.a73 [.int .u64 (IntKind.wrap .u64 length)] λn0=>
.must (0<=n0) <|
AU (IntKind.wrap .u64 (1*2 ^ min (Int.toNat n0) 64)) λn1=>
Ab 0 [.int .u64 n1]
def z0ad (r:Option Addr):Prog :=
AC<|
Aj r λa1=>
Ba T.a53 a1 λn2=>
Aj r λa4=>
Ba T.a53 a4 λn5=>
Aj r λa7=>
Au T.a53 a7 (.int .u64 (IntKind.wrap .u64 (((BitVec.toNat (BitVec.ofInt 64 n2 ^^^ BitVec.ofInt 64 (IntKind.wrap .u64 (n5*8192))):Nat):Int))))<|
AG<|
AC<|
Aj r λa9=>
Ba T.a53 a9 λn10=>
Aj r λa12=>
Ba T.a53 a12 λn13=>
Aj r λa15=>
Au T.a53 a15 (.int .u64 (IntKind.wrap .u64 (((BitVec.toNat (BitVec.ofInt 64 n10 ^^^ BitVec.ofInt 64 (Int.fdiv n13 128)):Nat):Int))))<|
AG<|
AC<|
Aj r λa17=>
Ba T.a53 a17 λn18=>
Aj r λa20=>
Ba T.a53 a20 λn21=>
Aj r λa23=>
Au T.a53 a23 (.int .u64 (IntKind.wrap .u64 (((BitVec.toNat (BitVec.ofInt 64 n18 ^^^ BitVec.ofInt 64 (IntKind.wrap .u64 (n21*131072))):Nat):Int))))<|
AG<|
Aj r λa25=>
Ba T.a53 a25 λn26=>
AU n26 λn27=>
Ab 0 [.int .u64 n27]
def zf75 (m:Option Nat):Prog :=
Ae T.a22 (.map m) λa0=>
Ab 0 [.func (Fn.func 324) #[] #[Af a0]]
theorem zf75_calls (m:Option Nat):FnS (zf75 m) F.a72 #[.map m]:=dV ⟨[],[],[],[]⟩ Go.Proofs.Tryz.func292 (by kernel_rfl)
def zf191 (s:ByteArray) (prefix_:ByteArray):Prog :=
AM F.a54 [.string s,.string prefix_] λb0=>
Ao b0 λb1=>
Ab 0 [.bool b1]
theorem zf191_calls (s prefix_:ByteArray):FnS (zf191 s prefix_) F.a183 #[.string s,.string prefix_]:=dV ⟨[],[],[],[]⟩ Go.Proofs.Tryz.func293 (by kernel_rfl)
def z09n (x:Sl):Prog :=
Ah (Ag x) λn0=>
Ai F.a73 [.int .u64 (IntKind.wrap .u64 n0)] λn1=>
Am F.a176 [x.v,Ac 0,Ac n0,Ac n1]<|
Ab 0 []
def z028 (data:Sl) (a b limit:Int) (cmp:Value):Prog :=
.loop 1 [.one (.int .i64),.one (.int .i64),.one (.int .i64),.one .bool,.one .bool] (a,(b,(limit,(true,(true,()))))) (u5 λ(n0 n1 n2:Int) b3 b4=>
.bind 2 [.one (.int .i64),.one (.int .i64),.one (.int .i64),.one .bool,.one .bool] (
Ah (AF (n1-n0)) λn5=>
Aa (decide (n5<=12)) (
Am F.a160 [data.v,Ac n0,Ac n1,cmp]<|
Ab 0 [])<|
Aa (n2 == 0) (
Am F.a158 [data.v,Ac n0,Ac n1,cmp]<|
Ab 0 [])<|
AI 3 (
Aa (not b3) (
Am F.a154 [data.v,Ac n0,Ac n1,cmp]<|
Ah (AF (n2-1)) λn6=>
Ab 3 [Ac n6])<|
Ab 3 [Ac n2]) λn7=>
Bb F.a156 [data.v,Ac n0,Ac n1,cmp] λn8 n9=>
Ah n8 λn10=>
Ah n9 λn11=>
AL 3 (
Aa (n11 == 2) (
Am F.a177 [data.v,Ac n0,Ac n1,cmp]<|
Ah (AF (AF (n1-1)-AF (n10-n0))) λn12=>
Ab 3 [Ac n12,Ac 1])<|
Ab 3 [Ac n10,Ac n11]) λn13 n14=>
AB 3 (
Aa (b3 && b4 && n14 == 1) (
AM F.a169 [data.v,Ac n0,Ac n1,cmp] λb15=>
Aa b15 (
Ab 0 [])<|
Ab 3 [])<|
Ab 3 [])<|
Bc 3 (
AC<|
.ex [.adr] (c1 λa16=>decide (n0>0)=true->0<=AF (n0-1)/\AF (n0-1)<(Ag data)/\data.a=some a16) (u1 λa17=>
Bd (decide (n0>0)=true) T.a15 a17 (Int.toNat (AF (n0-1))*4) λn18 n19 n20 n21=>
.ex [.adr] (c1 λa22=>decide (n0>0)=true->0<=n13/\n13<(Ag data)/\data.a=some a22) (u1 λa23=>
Bd (decide (n0>0)=true) T.a15 a23 (Int.toNat n13*4) λn24 n25 n26 n27=>
Aa (decide (n0>0)) (
Bf cmp [Be n18 n19 n20 n21,Be n24 n25 n26 n27] λn28=>
AG<|
Ab 3 [.bool (not (decide (n28<0)))])<|
AG<|
Ab 3 [.bool false]))) λb29=>
Aa b29 (
Ai F.a172 [data.v,Ac n0,Ac n1,Ac n13,cmp] λn30=>
Ah n30 λn31=>
Ah n31 λn32=>
Ab 2 [Ac n32,Ac n1,Ac n7,.bool b3,.bool b4])<|
Bg F.a171 [data.v,Ac n0,Ac n1,Ac n13,cmp] λn33 b34=>
Ah n33 λn35=>
Ao b34 λb36=>
Ao b36 λb37=>
Ah (AF (n35-n0)) λn38=>
Ah (AF (n1-n35)) λn39=>
Ah (AF (Int.tdiv n5 8)) λn40=>
.bind 3 [.one (.int .i64),.one (.int .i64),.one .bool] (
Aa (decide (n38<n39)) (
Ao (decide (n38>=n40)) λb41=>
Am F.a175 [data.v,Ac n0,Ac n35,Ac n7,cmp]<|
Ah (AF (n35+1)) λn42=>
Ab 3 [Ac n42,Ac n1,.bool b41])<|
Ao (decide (n39>=n40)) λb43=>
Am F.a175 [data.v,Ac (AF (n35+1)),Ac n1,Ac n7,cmp]<|
Ah n35 λn44=>
Ab 3 [Ac n0,Ac n44,.bool b43]) (u3 λ(n45 n46:Int) b47=>
Ab 2 [Ac n45,Ac n46,Ac n7,.bool b47,.bool b37])) (u5 λ(n48 n49 n50:Int) b51 b52=>
Ab 1 [Ac n48,Ac n49,Ac n50,.bool b51,.bool b52]))
theorem zor (data:Sl) (a b limit:Int) (cmp:Value) {w:World} {R:List Value->World->Prop} (h:(z028 data a b limit cmp).wp P (λ_=>True) w λe vs w'=>e=0/\R vs w'):Ret P F.a175 #[.slice data.a data.len data.cap,.int .i64 a,.int .i64 b,.int .i64 limit,cmp] w R:=dS (n:=148) (rv:=[]) { cnd:=[(571957152676085799,[(3,.one (.int .i64))]),(1208335523804270569717816,[(13,.one (.int .i64)),(14,.one (.int .i64))]),(9594035304461697130468212811,[]),(1461501288881759191162698246220685009525288231037,[(1,.one (.int .i64)),(2,.one (.int .i64)),(10,.one .bool)])],blk:=[(1,[(1,.one (.int .i64)),(2,.one (.int .i64)),(3,.one (.int .i64)),(10,.one .bool),(11,.one .bool)])],reg:=[(17,[(97,.one .bool)])],lps:=[(0,[(1,.one (.int .i64)),(2,.one (.int .i64)),(3,.one (.int .i64)),(10,.one .bool),(11,.one .bool)])] } [.val (.slice data.a data.len data.cap),.val (.int .i64 a),.val (.int .i64 b),.val (.int .i64 limit),.any cmp] Go.Proofs.Tryz.func312 (by kernel_rfl) (by kernel_rfl) (by kernel_rfl) (by kernel_rfl) h
def zf3 (x:Int):Prog :=
Ao (x != x) λb0=>
Ab 0 [.bool b0]
theorem zxg (x:Int):FnS (zf3 x) F.a3 #[.int .i64 x]:=dV ⟨[],[],[],[]⟩ Go.Proofs.Tryz.func313 (by kernel_rfl)
def zf55 (s:ByteArray) (prefix_:ByteArray):Prog :=
.must (decide (((ByteArray.size s:Nat):Int)>=((ByteArray.size prefix_:Nat):Int))=true->0<=((ByteArray.size prefix_:Nat):Int)/\((ByteArray.size prefix_:Nat):Int)<=((ByteArray.size s:Nat):Int)) <|
Ao (decide (((ByteArray.size s:Nat):Int)>=((ByteArray.size prefix_:Nat):Int)) && ByteArray.toList (ByteArray.extract s 0 (Int.toNat (((ByteArray.size prefix_:Nat):Int)))) == ByteArray.toList prefix_) λb0=>
Ab 0 [.bool b0]
theorem zf55_calls (s prefix_:ByteArray):FnS (zf55 s prefix_) F.a54 #[.string s,.string prefix_]:=dV ⟨[],[],[],[]⟩ Go.Proofs.Tryz.func325 (by kernel_rfl)
def z0a8 (data:Sl) (a b:Int) (limit:Int):Prog :=
.loop 1 [.one (.int .i64),.one (.int .i64),.one (.int .i64),.one .bool,.one .bool] (a,(b,(limit,(true,(true,()))))) (u5 λ(n0 n1 n2:Int) b3 b4=>
.bind 2 [.one (.int .i64),.one (.int .i64),.one (.int .i64),.one .bool,.one .bool] (
Ah (AF (n1-n0)) λn5=>
Aa (decide (n5<=12)) (
Am F.a161 [data.v,Ac n0,Ac n1]<|
Ab 0 [])<|
Aa (n2 == 0) (
Am F.a159 [data.v,Ac n0,Ac n1]<|
Ab 0 [])<|
AI 3 (
Aa (not b3) (
Am F.a155 [data.v,Ac n0,Ac n1]<|
Ah (AF (n2-1)) λn6=>
Ab 3 [Ac n6])<|
Ab 3 [Ac n2]) λn7=>
Bb F.a157 [data.v,Ac n0,Ac n1] λn8 n9=>
Ah n8 λn10=>
Ah n9 λn11=>
AL 3 (
Aa (n11 == 2) (
Am F.a178 [data.v,Ac n0,Ac n1]<|
Ah (AF (AF (n1-1)-AF (n10-n0))) λn12=>
Ab 3 [Ac n12,Ac 1])<|
Ab 3 [Ac n10,Ac n11]) λn13 n14=>
AB 3 (
Aa (b3 && b4 && n14 == 1) (
AM F.a170 [data.v,Ac n0,Ac n1] λb15=>
Aa b15 (
Ab 0 [])<|
Ab 3 [])<|
Ab 3 [])<|
Bc 3 (
AC<|
.ex [.adr] (c1 λa16=>decide (n0>0)=true->0<=AF (n0-1)/\AF (n0-1)<(Ag data)/\data.a=some a16) (u1 λa17=>
Bh (decide (n0>0)=true) T.a54 a17 (Int.toNat (AF (n0-1))*1) λs18=>
.ex [.adr] (c1 λa19=>decide (n0>0)=true->0<=n13/\n13<(Ag data)/\data.a=some a19) (u1 λa20=>
Bh (decide (n0>0)=true) T.a54 a20 (Int.toNat n13*1) λs21=>
Aa (decide (n0>0)) (
AM F.a2 [.string s18,.string s21] λb22=>
AG<|
Ab 3 [.bool (not b22)])<|
AG<|
Ab 3 [.bool false]))) λb23=>
Aa b23 (
Ai F.a173 [data.v,Ac n0,Ac n1,Ac n13] λn24=>
Ah n24 λn25=>
Ah n25 λn26=>
Ab 2 [Ac n26,Ac n1,Ac n7,.bool b3,.bool b4])<|
Bg F.a174 [data.v,Ac n0,Ac n1,Ac n13] λn27 b28=>
Ah n27 λn29=>
Ao b28 λb30=>
Ao b30 λb31=>
Ah (AF (n29-n0)) λn32=>
Ah (AF (n1-n29)) λn33=>
Ah (AF (Int.tdiv n5 8)) λn34=>
.bind 3 [.one (.int .i64),.one (.int .i64),.one .bool] (
Aa (decide (n32<n33)) (
Ao (decide (n32>=n34)) λb35=>
Am F.a176 [data.v,Ac n0,Ac n29,Ac n7]<|
Ah (AF (n29+1)) λn36=>
Ab 3 [Ac n36,Ac n1,.bool b35])<|
Ao (decide (n33>=n34)) λb37=>
Am F.a176 [data.v,Ac (AF (n29+1)),Ac n1,Ac n7]<|
Ah n29 λn38=>
Ab 3 [Ac n0,Ac n38,.bool b37]) (u3 λ(n39 n40:Int) b41=>
Ab 2 [Ac n39,Ac n40,Ac n7,.bool b41,.bool b31])) (u5 λ(n42 n43 n44:Int) b45 b46=>
Ab 1 [Ac n42,Ac n43,Ac n44,.bool b45,.bool b46]))
def z027 (data:Sl) (a b:Int) (cmp:Value):Prog :=
Ah (AF (a+1)) λn0=>
AB 1 (
AO 2 (n0,()) λn1=>
Aa (decide (n1<b)) (
AB 3 (
Ah n1 λn2=>
AB 4 (
AO 5 (n2,()) λn3=>
Bc 6 (
AC<|
.ex [.adr] (c1 λa4=>decide (n3>a)=true->0<=n3/\n3<(Ag data)/\data.a=some a4) (u1 λa5=>
Bd (decide (n3>a)=true) T.a15 a5 (Int.toNat n3*4) λn6 n7 n8 n9=>
.ex [.adr] (c1 λa10=>decide (n3>a)=true->0<=AF (n3-1)/\AF (n3-1)<(Ag data)/\data.a=some a10) (u1 λa11=>
Bd (decide (n3>a)=true) T.a15 a11 (Int.toNat (AF (n3-1))*4) λn12 n13 n14 n15=>
Aa (decide (n3>a)) (
Bf cmp [Be n6 n7 n8 n9,Be n12 n13 n14 n15] λn16=>
AG<|
Ab 6 [.bool (decide (n16<0))])<|
AG<|
Ab 6 [.bool false]))) λb17=>
Aa b17 (
AB 6 (
AC<|
.ex [.adr] (c1 λa18=>0<=AF (n3-1)/\AF (n3-1)<(Ag data)/\data.a=some a18) (u1 λa19=>
Bi T.a15 a19 (Int.toNat (AF (n3-1))*4) λn20 n21 n22 n23=>
.ex [.adr] (c1 λa24=>0<=n3/\n3<(Ag data)/\data.a=some a24) (u1 λa25=>
Bi T.a15 a25 (Int.toNat n3*4) λn26 n27 n28 n29=>
.ex [.adr] (c1 λa30=>0<=n3/\n3<(Ag data)/\data.a=some a30) (u1 λa31=>
AE T.a15 a31 (Int.toNat n3*4) (Be n20 n21 n22 n23)<|
.ex [.adr] (c1 λa32=>0<=AF (n3-1)/\AF (n3-1)<(Ag data)/\data.a=some a32) (u1 λa33=>
AE T.a15 a33 (Int.toNat (AF (n3-1))*4) (Be n26 n27 n28 n29)<|
AG<|
Ab 6 [])))))<|
Ah (AF (n3-1)) λn34=>
Ab 5 [Ac n34])<|
Ab 4 [])<|
Ab 3 [])<|
Ah (AF (n1+1)) λn35=>
Ab 2 [Ac n35])<|
Ab 1 [])<|
Ab 0 []
theorem zoq (data:Sl) (a b:Int) (cmp:Value) {w:World} {R:List Value->World->Prop} (h:(z027 data a b cmp).wp P (λ_=>True) w λe vs w'=>e=0/\R vs w'):Ret P F.a160 #[.slice data.a data.len data.cap,.int .i64 a,.int .i64 b,cmp] w R:=dS (n:=53) (rv:=[]) { cnd:=[],blk:=[(0,[]),(1,[]),(2,[])],reg:=[(4,[(34,.one .bool)]),(6,[])],lps:=[(0,[(8,.one (.int .i64))]),(2,[(9,.one (.int .i64))])] } [.val (.slice data.a data.len data.cap),.val (.int .i64 a),.val (.int .i64 b),.any cmp] Go.Proofs.Tryz.func329 (by kernel_rfl) (by kernel_rfl) (by kernel_rfl) (by kernel_rfl) h
def z09s (data:Sl) (a b:Int) (cmp:Value):Prog :=
Ah a λn0=>
Ah (AF (b-a)) λn1=>
Ah (AF (Int.tdiv (AF (n1-1)) 2)) λn2=>
AB 1 (
AO 2 (n2,()) λn3=>
Aa (decide (n3>=0)) (
Am F.a179 [data.v,Ac n3,Ac n1,Ac n0,cmp]<|
Ah (AF (n3-1)) λn4=>
Ab 2 [Ac n4])<|
Ab 1 [])<|
Ah (AF (n1-1)) λn5=>
AB 1 (
AO 2 (n5,()) λn6=>
Aa (decide (n6>=0)) (
AB 3 (
AC<|
.ex [.adr] (c1 λa7=>0<=AF (n0+n6)/\AF (n0+n6)<(Ag data)/\data.a=some a7) (u1 λa8=>
Bi T.a15 a8 (Int.toNat (AF (n0+n6))*4) λn9 n10 n11 n12=>
.ex [.adr] (c1 λa13=>0<=n0/\n0<(Ag data)/\data.a=some a13) (u1 λa14=>
Bi T.a15 a14 (Int.toNat n0*4) λn15 n16 n17 n18=>
.ex [.adr] (c1 λa19=>0<=n0/\n0<(Ag data)/\data.a=some a19) (u1 λa20=>
AE T.a15 a20 (Int.toNat n0*4) (Be n9 n10 n11 n12)<|
.ex [.adr] (c1 λa21=>0<=AF (n0+n6)/\AF (n0+n6)<(Ag data)/\data.a=some a21) (u1 λa22=>
AE T.a15 a22 (Int.toNat (AF (n0+n6))*4) (Be n15 n16 n17 n18)<|
AG<|
Ab 3 [])))))<|
Am F.a179 [data.v,Ac 0,Ac n6,Ac n0,cmp]<|
Ah (AF (n6-1)) λn23=>
Ab 2 [Ac n23])<|
Ab 1 [])<|
Ab 0 []
def z09o (data:Sl) (a b:Int) (cmp:Value):Prog :=
Ah (AF (b-a)) λn0=>
AB 1 (
Aa (decide (n0>=8)) (
Ar T.a53 λa1=>
Au T.a53 a1 (.int .u64 (IntKind.wrap .u64 n0))<|
Bj F.a166 [Ac n0] λn2=>
AU n2 λn3=>
Ah (AF (AF (a+AF (AF (Int.tdiv n0 4)*2))-1)) λn4=>
AB 2 (
AO 3 (n4,()) λn5=>
Aa (decide (n5<=AF (AF (a+AF (AF (Int.tdiv n0 4)*2))+1))) (
Bj F.a181 [Af a1] λn6=>
Ah (AF (IntKind.wrap .u64 (((BitVec.toNat (BitVec.ofInt 64 n6 &&& BitVec.ofInt 64 (IntKind.wrap .u64 (n3-1))):Nat):Int)))) λn7=>
AI 4 (
Aa (decide (n7>=n0)) (
Ah (AF (n7-n0)) λn8=>
Ab 4 [Ac n8])<|
Ab 4 [Ac n7]) λn9=>
AB 4 (
AC<|
.ex [.adr] (c1 λa10=>0<=AF (a+n9)/\AF (a+n9)<(Ag data)/\data.a=some a10) (u1 λa11=>
Bi T.a15 a11 (Int.toNat (AF (a+n9))*4) λn12 n13 n14 n15=>
.ex [.adr] (c1 λa16=>0<=n5/\n5<(Ag data)/\data.a=some a16) (u1 λa17=>
Bi T.a15 a17 (Int.toNat n5*4) λn18 n19 n20 n21=>
.ex [.adr] (c1 λa22=>0<=n5/\n5<(Ag data)/\data.a=some a22) (u1 λa23=>
AE T.a15 a23 (Int.toNat n5*4) (Be n12 n13 n14 n15)<|
.ex [.adr] (c1 λa24=>0<=AF (a+n9)/\AF (a+n9)<(Ag data)/\data.a=some a24) (u1 λa25=>
AE T.a15 a25 (Int.toNat (AF (a+n9))*4) (Be n18 n19 n20 n21)<|
AG<|
Ab 4 [])))))<|
Ah (AF (n5+1)) λn26=>
Ab 3 [Ac n26])<|
Ab 2 [])<|
Ab 1 [])<|
Ab 1 [])<|
Ab 0 []
def z09q (data:Sl) (a b:Int) (cmp:Value):Prog :=
Ah (AF (b-a)) λn0=>
Ar T.a13 λa1=>
Ah (AF (a+AF (AF (Int.tdiv n0 4)*1))) λn2=>
Ah (AF (a+AF (AF (Int.tdiv n0 4)*2))) λn3=>
Ah (AF (a+AF (AF (Int.tdiv n0 4)*3))) λn4=>
AI 1 (
Aa (decide (n0>=8)) (
.bind 2 [.one (.int .i64),.one (.int .i64),.one (.int .i64)] (
Aa (decide (n0>=50)) (
Ai F.a162 [data.v,Ac n2,Af a1,cmp] λn5=>
Ah n5 λn6=>
Ai F.a162 [data.v,Ac n3,Af a1,cmp] λn7=>
Ah n7 λn8=>
Ai F.a162 [data.v,Ac n4,Af a1,cmp] λn9=>
Ah n9 λn10=>
Ab 2 [Ac n6,Ac n8,Ac n10])<|
Ab 2 [Ac n2,Ac n3,Ac n4]) (u3 λ(n11 n12 n13:Int)=>
Ai F.a164 [data.v,Ac n11,Ac n12,Ac n13,Af a1,cmp] λn14=>
Ah n14 λn15=>
Ab 1 [Ac n15]))<|
Ab 1 [Ac n3]) λn16=>
Bk T.a13 a1 λn17=>
Az (n17 == 0) (
Ah n16 λn19=>
Ab 0 [Ac n19,Ac 1])<|
Az (n17 == 12) (
Ah n16 λn21=>
Ab 0 [Ac n21,Ac 2])<|
Ah n16 λn22=>
Ab 0 [Ac n22,Ac 0]
def z0a9 (data:Sl) (a b:Int) (cmp:Value):Prog :=
Ah a λn0=>
Ah (AF (b-1)) λn1=>
AB 1 (
AJ 2 (n0,(n1,())) λn2 n3=>
Aa (decide (n2<n3)) (
AB 3 (
AC<|
.ex [.adr] (c1 λa4=>0<=n3/\n3<(Ag data)/\data.a=some a4) (u1 λa5=>
Bi T.a15 a5 (Int.toNat n3*4) λn6 n7 n8 n9=>
.ex [.adr] (c1 λa10=>0<=n2/\n2<(Ag data)/\data.a=some a10) (u1 λa11=>
Bi T.a15 a11 (Int.toNat n2*4) λn12 n13 n14 n15=>
.ex [.adr] (c1 λa16=>0<=n2/\n2<(Ag data)/\data.a=some a16) (u1 λa17=>
AE T.a15 a17 (Int.toNat n2*4) (Be n6 n7 n8 n9)<|
.ex [.adr] (c1 λa18=>0<=n3/\n3<(Ag data)/\data.a=some a18) (u1 λa19=>
AE T.a15 a19 (Int.toNat n3*4) (Be n12 n13 n14 n15)<|
AG<|
Ab 3 [])))))<|
Ah (AF (n2+1)) λn20=>
Ah (AF (n3-1)) λn21=>
Ab 2 [Ac n20,Ac n21])<|
Ab 1 [])<|
Ab 0 []
def z0a2 (data:Sl) (a b:Int) (cmp:Value):Prog :=
Ah (AF (a+1)) λn0=>
AB 1 (
AJ 2 (n0,(0,())) λn1 n2=>
Aa (decide (n2<5)) (
AI 3 (
AI 4 (
AO 5 (n1,()) λn3=>
Bc 6 (
AC<|
.ex [.adr] (c1 λa4=>decide (n3<b)=true->0<=n3/\n3<(Ag data)/\data.a=some a4) (u1 λa5=>
Bd (decide (n3<b)=true) T.a15 a5 (Int.toNat n3*4) λn6 n7 n8 n9=>
.ex [.adr] (c1 λa10=>decide (n3<b)=true->0<=AF (n3-1)/\AF (n3-1)<(Ag data)/\data.a=some a10) (u1 λa11=>
Bd (decide (n3<b)=true) T.a15 a11 (Int.toNat (AF (n3-1))*4) λn12 n13 n14 n15=>
Aa (decide (n3<b)) (
Bf cmp [Be n6 n7 n8 n9,Be n12 n13 n14 n15] λn16=>
AG<|
Ab 6 [.bool (not (decide (n16<0)))])<|
AG<|
Ab 6 [.bool false]))) λb17=>
Aa b17 (
Ah (AF (n3+1)) λn18=>
Ab 5 [Ac n18])<|
Ab 4 [Ac n3]) λn19=>
Aa (n19 == b) (
Ab 0 [.bool true])<|
Aa (decide (AF (b-a)<50)) (
Ab 0 [.bool false])<|
AB 4 (
AC<|
.ex [.adr] (c1 λa20=>0<=AF (n19-1)/\AF (n19-1)<(Ag data)/\data.a=some a20) (u1 λa21=>
Bi T.a15 a21 (Int.toNat (AF (n19-1))*4) λn22 n23 n24 n25=>
.ex [.adr] (c1 λa26=>0<=n19/\n19<(Ag data)/\data.a=some a26) (u1 λa27=>
Bi T.a15 a27 (Int.toNat n19*4) λn28 n29 n30 n31=>
.ex [.adr] (c1 λa32=>0<=n19/\n19<(Ag data)/\data.a=some a32) (u1 λa33=>
AE T.a15 a33 (Int.toNat n19*4) (Be n22 n23 n24 n25)<|
.ex [.adr] (c1 λa34=>0<=AF (n19-1)/\AF (n19-1)<(Ag data)/\data.a=some a34) (u1 λa35=>
AE T.a15 a35 (Int.toNat (AF (n19-1))*4) (Be n28 n29 n30 n31)<|
AG<|
Ab 4 [])))))<|
AB 4 (
Aa (decide (AF (n19-a)>=2)) (
Ah (AF (n19-1)) λn36=>
AB 5 (
AO 6 (n36,()) λn37=>
Aa (decide (n37>=1)) (
AC<|
.ex [.adr] (c1 λa38=>0<=n37/\n37<(Ag data)/\data.a=some a38) (u1 λa39=>
Bi T.a15 a39 (Int.toNat n37*4) λn40 n41 n42 n43=>
.ex [.adr] (c1 λa44=>0<=AF (n37-1)/\AF (n37-1)<(Ag data)/\data.a=some a44) (u1 λa45=>
Bi T.a15 a45 (Int.toNat (AF (n37-1))*4) λn46 n47 n48 n49=>
Bf cmp [Be n40 n41 n42 n43,Be n46 n47 n48 n49] λn50=>
AG<|
Aa (not (decide (n50<0))) (
Ab 5 [])<|
AB 7 (
AC<|
.ex [.adr] (c1 λa51=>0<=AF (n37-1)/\AF (n37-1)<(Ag data)/\data.a=some a51) (u1 λa52=>
Bi T.a15 a52 (Int.toNat (AF (n37-1))*4) λn53 n54 n55 n56=>
.ex [.adr] (c1 λa57=>0<=n37/\n37<(Ag data)/\data.a=some a57) (u1 λa58=>
Bi T.a15 a58 (Int.toNat n37*4) λn59 n60 n61 n62=>
.ex [.adr] (c1 λa63=>0<=n37/\n37<(Ag data)/\data.a=some a63) (u1 λa64=>
AE T.a15 a64 (Int.toNat n37*4) (Be n53 n54 n55 n56)<|
.ex [.adr] (c1 λa65=>0<=AF (n37-1)/\AF (n37-1)<(Ag data)/\data.a=some a65) (u1 λa66=>
AE T.a15 a66 (Int.toNat (AF (n37-1))*4) (Be n59 n60 n61 n62)<|
AG<|
Ab 7 [])))))<|
Ah (AF (n37-1)) λn67=>
Ab 6 [Ac n67])))<|
Ab 5 [])<|
Ab 4 [])<|
Ab 4 [])<|
AB 4 (
Aa (decide (AF (b-n19)>=2)) (
Ah (AF (n19+1)) λn68=>
AB 5 (
AO 6 (n68,()) λn69=>
Aa (decide (n69<b)) (
AC<|
.ex [.adr] (c1 λa70=>0<=n69/\n69<(Ag data)/\data.a=some a70) (u1 λa71=>
Bi T.a15 a71 (Int.toNat n69*4) λn72 n73 n74 n75=>
.ex [.adr] (c1 λa76=>0<=AF (n69-1)/\AF (n69-1)<(Ag data)/\data.a=some a76) (u1 λa77=>
Bi T.a15 a77 (Int.toNat (AF (n69-1))*4) λn78 n79 n80 n81=>
Bf cmp [Be n72 n73 n74 n75,Be n78 n79 n80 n81] λn82=>
AG<|
Aa (not (decide (n82<0))) (
Ab 5 [])<|
AB 7 (
AC<|
.ex [.adr] (c1 λa83=>0<=AF (n69-1)/\AF (n69-1)<(Ag data)/\data.a=some a83) (u1 λa84=>
Bi T.a15 a84 (Int.toNat (AF (n69-1))*4) λn85 n86 n87 n88=>
.ex [.adr] (c1 λa89=>0<=n69/\n69<(Ag data)/\data.a=some a89) (u1 λa90=>
Bi T.a15 a90 (Int.toNat n69*4) λn91 n92 n93 n94=>
.ex [.adr] (c1 λa95=>0<=n69/\n69<(Ag data)/\data.a=some a95) (u1 λa96=>
AE T.a15 a96 (Int.toNat n69*4) (Be n85 n86 n87 n88)<|
.ex [.adr] (c1 λa97=>0<=AF (n69-1)/\AF (n69-1)<(Ag data)/\data.a=some a97) (u1 λa98=>
AE T.a15 a98 (Int.toNat (AF (n69-1))*4) (Be n91 n92 n93 n94)<|
AG<|
Ab 7 [])))))<|
Ah (AF (n69+1)) λn99=>
Ab 6 [Ac n99])))<|
Ab 5 [])<|
Ab 4 [])<|
Ab 4 [])<|
Ab 3 [Ac n19]) λn100=>
Ah (AF (n2+1)) λn101=>
Ab 2 [Ac n100,Ac n101])<|
Ab 1 [])<|
Ab 0 [.bool false]
def z0a5 (data:Sl) (a b pivot:Int) (cmp:Value):Prog :=
AB 1 (
AC<|
.ex [.adr] (c1 λa0=>0<=pivot/\pivot<(Ag data)/\data.a=some a0) (u1 λa1=>
Bi T.a15 a1 (Int.toNat pivot*4) λn2 n3 n4 n5=>
.ex [.adr] (c1 λa6=>0<=a/\a<(Ag data)/\data.a=some a6) (u1 λa7=>
Bi T.a15 a7 (Int.toNat a*4) λn8 n9 n10 n11=>
.ex [.adr] (c1 λa12=>0<=a/\a<(Ag data)/\data.a=some a12) (u1 λa13=>
AE T.a15 a13 (Int.toNat a*4) (Be n2 n3 n4 n5)<|
.ex [.adr] (c1 λa14=>0<=pivot/\pivot<(Ag data)/\data.a=some a14) (u1 λa15=>
AE T.a15 a15 (Int.toNat pivot*4) (Be n8 n9 n10 n11)<|
AG<|
Ab 1 [])))))<|
Ah (AF (a+1)) λn16=>
Ah (AF (b-1)) λn17=>
AI 1 (
AJ 2 (n16,(n17,())) λn18 n19=>
AL 3 (
AI 4 (
AO 5 (n18,()) λn20=>
Bc 6 (
AC<|
.ex [.adr] (c1 λa21=>decide (n20<=n19)=true->0<=a/\a<(Ag data)/\data.a=some a21) (u1 λa22=>
Bd (decide (n20<=n19)=true) T.a15 a22 (Int.toNat a*4) λn23 n24 n25 n26=>
.ex [.adr] (c1 λa27=>decide (n20<=n19)=true->0<=n20/\n20<(Ag data)/\data.a=some a27) (u1 λa28=>
Bd (decide (n20<=n19)=true) T.a15 a28 (Int.toNat n20*4) λn29 n30 n31 n32=>
Aa (decide (n20<=n19)) (
Bf cmp [Be n23 n24 n25 n26,Be n29 n30 n31 n32] λn33=>
AG<|
Ab 6 [.bool (not (decide (n33<0)))])<|
AG<|
Ab 6 [.bool false]))) λb34=>
Aa b34 (
Ah (AF (n20+1)) λn35=>
Ab 5 [Ac n35])<|
Ab 4 [Ac n20]) λn36=>
AI 4 (
AO 5 (n19,()) λn37=>
Bc 6 (
AC<|
.ex [.adr] (c1 λa38=>decide (n36<=n37)=true->0<=a/\a<(Ag data)/\data.a=some a38) (u1 λa39=>
Bd (decide (n36<=n37)=true) T.a15 a39 (Int.toNat a*4) λn40 n41 n42 n43=>
.ex [.adr] (c1 λa44=>decide (n36<=n37)=true->0<=n37/\n37<(Ag data)/\data.a=some a44) (u1 λa45=>
Bd (decide (n36<=n37)=true) T.a15 a45 (Int.toNat n37*4) λn46 n47 n48 n49=>
Aa (decide (n36<=n37)) (
Bf cmp [Be n40 n41 n42 n43,Be n46 n47 n48 n49] λn50=>
AG<|
Ab 6 [.bool (decide (n50<0))])<|
AG<|
Ab 6 [.bool false]))) λb51=>
Aa b51 (
Ah (AF (n37-1)) λn52=>
Ab 5 [Ac n52])<|
Ab 4 [Ac n37]) λn53=>
Aa (decide (n36>n53)) (
Ab 1 [Ac n36])<|
AB 4 (
AC<|
.ex [.adr] (c1 λa54=>0<=n53/\n53<(Ag data)/\data.a=some a54) (u1 λa55=>
Bi T.a15 a55 (Int.toNat n53*4) λn56 n57 n58 n59=>
.ex [.adr] (c1 λa60=>0<=n36/\n36<(Ag data)/\data.a=some a60) (u1 λa61=>
Bi T.a15 a61 (Int.toNat n36*4) λn62 n63 n64 n65=>
.ex [.adr] (c1 λa66=>0<=n36/\n36<(Ag data)/\data.a=some a66) (u1 λa67=>
AE T.a15 a67 (Int.toNat n36*4) (Be n56 n57 n58 n59)<|
.ex [.adr] (c1 λa68=>0<=n53/\n53<(Ag data)/\data.a=some a68) (u1 λa69=>
AE T.a15 a69 (Int.toNat n53*4) (Be n62 n63 n64 n65)<|
AG<|
Ab 4 [])))))<|
Ah (AF (n36+1)) λn70=>
Ah (AF (n53-1)) λn71=>
Ab 3 [Ac n70,Ac n71]) λn72 n73=>
Ab 2 [Ac n72,Ac n73]) λn74=>
Ah n74 λn75=>
Ab 0 [Ac n75]
def z0a4 (data:Sl) (a b pivot:Int) (cmp:Value):Prog :=
AB 1 (
AC<|
.ex [.adr] (c1 λa0=>0<=pivot/\pivot<(Ag data)/\data.a=some a0) (u1 λa1=>
Bi T.a15 a1 (Int.toNat pivot*4) λn2 n3 n4 n5=>
.ex [.adr] (c1 λa6=>0<=a/\a<(Ag data)/\data.a=some a6) (u1 λa7=>
Bi T.a15 a7 (Int.toNat a*4) λn8 n9 n10 n11=>
.ex [.adr] (c1 λa12=>0<=a/\a<(Ag data)/\data.a=some a12) (u1 λa13=>
AE T.a15 a13 (Int.toNat a*4) (Be n2 n3 n4 n5)<|
.ex [.adr] (c1 λa14=>0<=pivot/\pivot<(Ag data)/\data.a=some a14) (u1 λa15=>
AE T.a15 a15 (Int.toNat pivot*4) (Be n8 n9 n10 n11)<|
AG<|
Ab 1 [])))))<|
Ah (AF (a+1)) λn16=>
Ah (AF (b-1)) λn17=>
AI 1 (
AO 2 (n16,()) λn18=>
Bc 3 (
AC<|
.ex [.adr] (c1 λa19=>decide (n18<=n17)=true->0<=n18/\n18<(Ag data)/\data.a=some a19) (u1 λa20=>
Bd (decide (n18<=n17)=true) T.a15 a20 (Int.toNat n18*4) λn21 n22 n23 n24=>
.ex [.adr] (c1 λa25=>decide (n18<=n17)=true->0<=a/\a<(Ag data)/\data.a=some a25) (u1 λa26=>
Bd (decide (n18<=n17)=true) T.a15 a26 (Int.toNat a*4) λn27 n28 n29 n30=>
Aa (decide (n18<=n17)) (
Bf cmp [Be n21 n22 n23 n24,Be n27 n28 n29 n30] λn31=>
AG<|
Ab 3 [.bool (decide (n31<0))])<|
AG<|
Ab 3 [.bool false]))) λb32=>
Aa b32 (
Ah (AF (n18+1)) λn33=>
Ab 2 [Ac n33])<|
Ab 1 [Ac n18]) λn34=>
AI 1 (
AO 2 (n17,()) λn35=>
Bc 3 (
AC<|
.ex [.adr] (c1 λa36=>decide (n34<=n35)=true->0<=n35/\n35<(Ag data)/\data.a=some a36) (u1 λa37=>
Bd (decide (n34<=n35)=true) T.a15 a37 (Int.toNat n35*4) λn38 n39 n40 n41=>
.ex [.adr] (c1 λa42=>decide (n34<=n35)=true->0<=a/\a<(Ag data)/\data.a=some a42) (u1 λa43=>
Bd (decide (n34<=n35)=true) T.a15 a43 (Int.toNat a*4) λn44 n45 n46 n47=>
Aa (decide (n34<=n35)) (
Bf cmp [Be n38 n39 n40 n41,Be n44 n45 n46 n47] λn48=>
AG<|
Ab 3 [.bool (not (decide (n48<0)))])<|
AG<|
Ab 3 [.bool false]))) λb49=>
Aa b49 (
Ah (AF (n35-1)) λn50=>
Ab 2 [Ac n50])<|
Ab 1 [Ac n35]) λn51=>
Aa (decide (n34>n51)) (
AB 1 (
AC<|
.ex [.adr] (c1 λa52=>0<=a/\a<(Ag data)/\data.a=some a52) (u1 λa53=>
Bi T.a15 a53 (Int.toNat a*4) λn54 n55 n56 n57=>
.ex [.adr] (c1 λa58=>0<=n51/\n51<(Ag data)/\data.a=some a58) (u1 λa59=>
Bi T.a15 a59 (Int.toNat n51*4) λn60 n61 n62 n63=>
.ex [.adr] (c1 λa64=>0<=n51/\n51<(Ag data)/\data.a=some a64) (u1 λa65=>
AE T.a15 a65 (Int.toNat n51*4) (Be n54 n55 n56 n57)<|
.ex [.adr] (c1 λa66=>0<=a/\a<(Ag data)/\data.a=some a66) (u1 λa67=>
AE T.a15 a67 (Int.toNat a*4) (Be n60 n61 n62 n63)<|
AG<|
Ab 1 [])))))<|
Ah n51 λn68=>
Ab 0 [Ac n68,.bool true])<|
AB 1 (
AC<|
.ex [.adr] (c1 λa69=>0<=n51/\n51<(Ag data)/\data.a=some a69) (u1 λa70=>
Bi T.a15 a70 (Int.toNat n51*4) λn71 n72 n73 n74=>
.ex [.adr] (c1 λa75=>0<=n34/\n34<(Ag data)/\data.a=some a75) (u1 λa76=>
Bi T.a15 a76 (Int.toNat n34*4) λn77 n78 n79 n80=>
.ex [.adr] (c1 λa81=>0<=n34/\n34<(Ag data)/\data.a=some a81) (u1 λa82=>
AE T.a15 a82 (Int.toNat n34*4) (Be n71 n72 n73 n74)<|
.ex [.adr] (c1 λa83=>0<=n51/\n51<(Ag data)/\data.a=some a83) (u1 λa84=>
AE T.a15 a84 (Int.toNat n51*4) (Be n77 n78 n79 n80)<|
AG<|
Ab 1 [])))))<|
Ah (AF (n34+1)) λn85=>
Ah (AF (n51-1)) λn86=>
AI 1 (
AJ 2 (n85,(n86,())) λn87 n88=>
AL 3 (
AI 4 (
AO 5 (n87,()) λn89=>
Bc 6 (
AC<|
.ex [.adr] (c1 λa90=>decide (n89<=n88)=true->0<=n89/\n89<(Ag data)/\data.a=some a90) (u1 λa91=>
Bd (decide (n89<=n88)=true) T.a15 a91 (Int.toNat n89*4) λn92 n93 n94 n95=>
.ex [.adr] (c1 λa96=>decide (n89<=n88)=true->0<=a/\a<(Ag data)/\data.a=some a96) (u1 λa97=>
Bd (decide (n89<=n88)=true) T.a15 a97 (Int.toNat a*4) λn98 n99 n100 n101=>
Aa (decide (n89<=n88)) (
Bf cmp [Be n92 n93 n94 n95,Be n98 n99 n100 n101] λn102=>
AG<|
Ab 6 [.bool (decide (n102<0))])<|
AG<|
Ab 6 [.bool false]))) λb103=>
Aa b103 (
Ah (AF (n89+1)) λn104=>
Ab 5 [Ac n104])<|
Ab 4 [Ac n89]) λn105=>
AI 4 (
AO 5 (n88,()) λn106=>
Bc 6 (
AC<|
.ex [.adr] (c1 λa107=>decide (n105<=n106)=true->0<=n106/\n106<(Ag data)/\data.a=some a107) (u1 λa108=>
Bd (decide (n105<=n106)=true) T.a15 a108 (Int.toNat n106*4) λn109 n110 n111 n112=>
.ex [.adr] (c1 λa113=>decide (n105<=n106)=true->0<=a/\a<(Ag data)/\data.a=some a113) (u1 λa114=>
Bd (decide (n105<=n106)=true) T.a15 a114 (Int.toNat a*4) λn115 n116 n117 n118=>
Aa (decide (n105<=n106)) (
Bf cmp [Be n109 n110 n111 n112,Be n115 n116 n117 n118] λn119=>
AG<|
Ab 6 [.bool (not (decide (n119<0)))])<|
AG<|
Ab 6 [.bool false]))) λb120=>
Aa b120 (
Ah (AF (n106-1)) λn121=>
Ab 5 [Ac n121])<|
Ab 4 [Ac n106]) λn122=>
Aa (decide (n105>n122)) (
Ab 1 [Ac n122])<|
AB 4 (
AC<|
.ex [.adr] (c1 λa123=>0<=n122/\n122<(Ag data)/\data.a=some a123) (u1 λa124=>
Bi T.a15 a124 (Int.toNat n122*4) λn125 n126 n127 n128=>
.ex [.adr] (c1 λa129=>0<=n105/\n105<(Ag data)/\data.a=some a129) (u1 λa130=>
Bi T.a15 a130 (Int.toNat n105*4) λn131 n132 n133 n134=>
.ex [.adr] (c1 λa135=>0<=n105/\n105<(Ag data)/\data.a=some a135) (u1 λa136=>
AE T.a15 a136 (Int.toNat n105*4) (Be n125 n126 n127 n128)<|
.ex [.adr] (c1 λa137=>0<=n122/\n122<(Ag data)/\data.a=some a137) (u1 λa138=>
AE T.a15 a138 (Int.toNat n122*4) (Be n131 n132 n133 n134)<|
AG<|
Ab 4 [])))))<|
Ah (AF (n105+1)) λn139=>
Ah (AF (n122-1)) λn140=>
Ab 3 [Ac n139,Ac n140]) λn141 n142=>
Ab 2 [Ac n141,Ac n142]) λn143=>
AB 1 (
AC<|
.ex [.adr] (c1 λa144=>0<=a/\a<(Ag data)/\data.a=some a144) (u1 λa145=>
Bi T.a15 a145 (Int.toNat a*4) λn146 n147 n148 n149=>
.ex [.adr] (c1 λa150=>0<=n143/\n143<(Ag data)/\data.a=some a150) (u1 λa151=>
Bi T.a15 a151 (Int.toNat n143*4) λn152 n153 n154 n155=>
.ex [.adr] (c1 λa156=>0<=n143/\n143<(Ag data)/\data.a=some a156) (u1 λa157=>
AE T.a15 a157 (Int.toNat n143*4) (Be n146 n147 n148 n149)<|
.ex [.adr] (c1 λa158=>0<=a/\a<(Ag data)/\data.a=some a158) (u1 λa159=>
AE T.a15 a159 (Int.toNat a*4) (Be n152 n153 n154 n155)<|
AG<|
Ab 1 [])))))<|
Ah n143 λn160=>
Ab 0 [Ac n160,.bool false]
def z09u (data:Sl) (a:Int) (b:Int):Prog :=
Ah (AF (a+1)) λn0=>
AB 1 (
AO 2 (n0,()) λn1=>
Aa (decide (n1<b)) (
AB 3 (
Ah n1 λn2=>
AB 4 (
AO 5 (n2,()) λn3=>
Bc 6 (
AC<|
.ex [.adr] (c1 λa4=>decide (n3>a)=true->0<=n3/\n3<(Ag data)/\data.a=some a4) (u1 λa5=>
Bh (decide (n3>a)=true) T.a54 a5 (Int.toNat n3*1) λs6=>
.ex [.adr] (c1 λa7=>decide (n3>a)=true->0<=AF (n3-1)/\AF (n3-1)<(Ag data)/\data.a=some a7) (u1 λa8=>
Bh (decide (n3>a)=true) T.a54 a8 (Int.toNat (AF (n3-1))*1) λs9=>
Aa (decide (n3>a)) (
AM F.a2 [.string s6,.string s9] λb10=>
AG<|
Ab 6 [.bool b10])<|
AG<|
Ab 6 [.bool false]))) λb11=>
Aa b11 (
AB 6 (
AC<|
.ex [.adr] (c1 λa12=>0<=AF (n3-1)/\AF (n3-1)<(Ag data)/\data.a=some a12) (u1 λa13=>
AQ T.a54 a13 (Int.toNat (AF (n3-1))*1) λs14=>
.ex [.adr] (c1 λa15=>0<=n3/\n3<(Ag data)/\data.a=some a15) (u1 λa16=>
AQ T.a54 a16 (Int.toNat n3*1) λs17=>
.ex [.adr] (c1 λa18=>0<=n3/\n3<(Ag data)/\data.a=some a18) (u1 λa19=>
AE T.a54 a19 (Int.toNat n3*1) (.string s14)<|
.ex [.adr] (c1 λa20=>0<=AF (n3-1)/\AF (n3-1)<(Ag data)/\data.a=some a20) (u1 λa21=>
AE T.a54 a21 (Int.toNat (AF (n3-1))*1) (.string s17)<|
AG<|
Ab 6 [])))))<|
Ah (AF (n3-1)) λn22=>
Ab 5 [Ac n22])<|
Ab 4 [])<|
Ab 3 [])<|
Ah (AF (n1+1)) λn23=>
Ab 2 [Ac n23])<|
Ab 1 [])<|
Ab 0 []
def z09t (data:Sl) (a:Int) (b:Int):Prog :=
Ah a λn0=>
Ah (AF (b-a)) λn1=>
Ah (AF (Int.tdiv (AF (n1-1)) 2)) λn2=>
AB 1 (
AO 2 (n2,()) λn3=>
Aa (decide (n3>=0)) (
Am F.a180 [data.v,Ac n3,Ac n1,Ac n0]<|
Ah (AF (n3-1)) λn4=>
Ab 2 [Ac n4])<|
Ab 1 [])<|
Ah (AF (n1-1)) λn5=>
AB 1 (
AO 2 (n5,()) λn6=>
Aa (decide (n6>=0)) (
AB 3 (
AC<|
.ex [.adr] (c1 λa7=>0<=AF (n0+n6)/\AF (n0+n6)<(Ag data)/\data.a=some a7) (u1 λa8=>
AQ T.a54 a8 (Int.toNat (AF (n0+n6))*1) λs9=>
.ex [.adr] (c1 λa10=>0<=n0/\n0<(Ag data)/\data.a=some a10) (u1 λa11=>
AQ T.a54 a11 (Int.toNat n0*1) λs12=>
.ex [.adr] (c1 λa13=>0<=n0/\n0<(Ag data)/\data.a=some a13) (u1 λa14=>
AE T.a54 a14 (Int.toNat n0*1) (.string s9)<|
.ex [.adr] (c1 λa15=>0<=AF (n0+n6)/\AF (n0+n6)<(Ag data)/\data.a=some a15) (u1 λa16=>
AE T.a54 a16 (Int.toNat (AF (n0+n6))*1) (.string s12)<|
AG<|
Ab 3 [])))))<|
Am F.a180 [data.v,Ac 0,Ac n6,Ac n0]<|
Ah (AF (n6-1)) λn17=>
Ab 2 [Ac n17])<|
Ab 1 [])<|
Ab 0 []
def z09p (data:Sl) (a:Int) (b:Int):Prog :=
Ah (AF (b-a)) λn0=>
AB 1 (
Aa (decide (n0>=8)) (
Ar T.a53 λa1=>
Au T.a53 a1 (.int .u64 (IntKind.wrap .u64 n0))<|
Bj F.a166 [Ac n0] λn2=>
AU n2 λn3=>
Ah (AF (AF (a+AF (AF (Int.tdiv n0 4)*2))-1)) λn4=>
AB 2 (
AO 3 (n4,()) λn5=>
Aa (decide (n5<=AF (AF (a+AF (AF (Int.tdiv n0 4)*2))+1))) (
Bj F.a181 [Af a1] λn6=>
Ah (AF (IntKind.wrap .u64 (((BitVec.toNat (BitVec.ofInt 64 n6 &&& BitVec.ofInt 64 (IntKind.wrap .u64 (n3-1))):Nat):Int)))) λn7=>
AI 4 (
Aa (decide (n7>=n0)) (
Ah (AF (n7-n0)) λn8=>
Ab 4 [Ac n8])<|
Ab 4 [Ac n7]) λn9=>
AB 4 (
AC<|
.ex [.adr] (c1 λa10=>0<=AF (a+n9)/\AF (a+n9)<(Ag data)/\data.a=some a10) (u1 λa11=>
AQ T.a54 a11 (Int.toNat (AF (a+n9))*1) λs12=>
.ex [.adr] (c1 λa13=>0<=n5/\n5<(Ag data)/\data.a=some a13) (u1 λa14=>
AQ T.a54 a14 (Int.toNat n5*1) λs15=>
.ex [.adr] (c1 λa16=>0<=n5/\n5<(Ag data)/\data.a=some a16) (u1 λa17=>
AE T.a54 a17 (Int.toNat n5*1) (.string s12)<|
.ex [.adr] (c1 λa18=>0<=AF (a+n9)/\AF (a+n9)<(Ag data)/\data.a=some a18) (u1 λa19=>
AE T.a54 a19 (Int.toNat (AF (a+n9))*1) (.string s15)<|
AG<|
Ab 4 [])))))<|
Ah (AF (n5+1)) λn20=>
Ab 3 [Ac n20])<|
Ab 2 [])<|
Ab 1 [])<|
Ab 1 [])<|
Ab 0 []
def z09r (data:Sl) (a:Int) (b:Int):Prog :=
Ah (AF (b-a)) λn0=>
Ar T.a13 λa1=>
Ah (AF (a+AF (AF (Int.tdiv n0 4)*1))) λn2=>
Ah (AF (a+AF (AF (Int.tdiv n0 4)*2))) λn3=>
Ah (AF (a+AF (AF (Int.tdiv n0 4)*3))) λn4=>
AI 1 (
Aa (decide (n0>=8)) (
.bind 2 [.one (.int .i64),.one (.int .i64),.one (.int .i64)] (
Aa (decide (n0>=50)) (
Ai F.a163 [data.v,Ac n2,Af a1] λn5=>
Ah n5 λn6=>
Ai F.a163 [data.v,Ac n3,Af a1] λn7=>
Ah n7 λn8=>
Ai F.a163 [data.v,Ac n4,Af a1] λn9=>
Ah n9 λn10=>
Ab 2 [Ac n6,Ac n8,Ac n10])<|
Ab 2 [Ac n2,Ac n3,Ac n4]) (u3 λ(n11 n12 n13:Int)=>
Ai F.a165 [data.v,Ac n11,Ac n12,Ac n13,Af a1] λn14=>
Ah n14 λn15=>
Ab 1 [Ac n15]))<|
Ab 1 [Ac n3]) λn16=>
Bk T.a13 a1 λn17=>
Az (n17 == 0) (
Ah n16 λn19=>
Ab 0 [Ac n19,Ac 1])<|
Az (n17 == 12) (
Ah n16 λn21=>
Ab 0 [Ac n21,Ac 2])<|
Ah n16 λn22=>
Ab 0 [Ac n22,Ac 0]
def z0aa (data:Sl) (a:Int) (b:Int):Prog :=
Ah a λn0=>
Ah (AF (b-1)) λn1=>
AB 1 (
AJ 2 (n0,(n1,())) λn2 n3=>
Aa (decide (n2<n3)) (
AB 3 (
AC<|
.ex [.adr] (c1 λa4=>0<=n3/\n3<(Ag data)/\data.a=some a4) (u1 λa5=>
AQ T.a54 a5 (Int.toNat n3*1) λs6=>
.ex [.adr] (c1 λa7=>0<=n2/\n2<(Ag data)/\data.a=some a7) (u1 λa8=>
AQ T.a54 a8 (Int.toNat n2*1) λs9=>
.ex [.adr] (c1 λa10=>0<=n2/\n2<(Ag data)/\data.a=some a10) (u1 λa11=>
AE T.a54 a11 (Int.toNat n2*1) (.string s6)<|
.ex [.adr] (c1 λa12=>0<=n3/\n3<(Ag data)/\data.a=some a12) (u1 λa13=>
AE T.a54 a13 (Int.toNat n3*1) (.string s9)<|
AG<|
Ab 3 [])))))<|
Ah (AF (n2+1)) λn14=>
Ah (AF (n3-1)) λn15=>
Ab 2 [Ac n14,Ac n15])<|
Ab 1 [])<|
Ab 0 []
def z0a3 (data:Sl) (a:Int) (b:Int):Prog :=
Ah (AF (a+1)) λn0=>
AB 1 (
AJ 2 (n0,(0,())) λn1 n2=>
Aa (decide (n2<5)) (
AI 3 (
AI 4 (
AO 5 (n1,()) λn3=>
Bc 6 (
AC<|
.ex [.adr] (c1 λa4=>decide (n3<b)=true->0<=n3/\n3<(Ag data)/\data.a=some a4) (u1 λa5=>
Bh (decide (n3<b)=true) T.a54 a5 (Int.toNat n3*1) λs6=>
.ex [.adr] (c1 λa7=>decide (n3<b)=true->0<=AF (n3-1)/\AF (n3-1)<(Ag data)/\data.a=some a7) (u1 λa8=>
Bh (decide (n3<b)=true) T.a54 a8 (Int.toNat (AF (n3-1))*1) λs9=>
Aa (decide (n3<b)) (
AM F.a2 [.string s6,.string s9] λb10=>
AG<|
Ab 6 [.bool (not b10)])<|
AG<|
Ab 6 [.bool false]))) λb11=>
Aa b11 (
Ah (AF (n3+1)) λn12=>
Ab 5 [Ac n12])<|
Ab 4 [Ac n3]) λn13=>
Aa (n13 == b) (
Ab 0 [.bool true])<|
Aa (decide (AF (b-a)<50)) (
Ab 0 [.bool false])<|
AB 4 (
AC<|
.ex [.adr] (c1 λa14=>0<=AF (n13-1)/\AF (n13-1)<(Ag data)/\data.a=some a14) (u1 λa15=>
AQ T.a54 a15 (Int.toNat (AF (n13-1))*1) λs16=>
.ex [.adr] (c1 λa17=>0<=n13/\n13<(Ag data)/\data.a=some a17) (u1 λa18=>
AQ T.a54 a18 (Int.toNat n13*1) λs19=>
.ex [.adr] (c1 λa20=>0<=n13/\n13<(Ag data)/\data.a=some a20) (u1 λa21=>
AE T.a54 a21 (Int.toNat n13*1) (.string s16)<|
.ex [.adr] (c1 λa22=>0<=AF (n13-1)/\AF (n13-1)<(Ag data)/\data.a=some a22) (u1 λa23=>
AE T.a54 a23 (Int.toNat (AF (n13-1))*1) (.string s19)<|
AG<|
Ab 4 [])))))<|
AB 4 (
Aa (decide (AF (n13-a)>=2)) (
Ah (AF (n13-1)) λn24=>
AB 5 (
AO 6 (n24,()) λn25=>
Aa (decide (n25>=1)) (
AC<|
.ex [.adr] (c1 λa26=>0<=n25/\n25<(Ag data)/\data.a=some a26) (u1 λa27=>
AQ T.a54 a27 (Int.toNat n25*1) λs28=>
.ex [.adr] (c1 λa29=>0<=AF (n25-1)/\AF (n25-1)<(Ag data)/\data.a=some a29) (u1 λa30=>
AQ T.a54 a30 (Int.toNat (AF (n25-1))*1) λs31=>
AM F.a2 [.string s28,.string s31] λb32=>
AG<|
Aa (not b32) (
Ab 5 [])<|
AB 7 (
AC<|
.ex [.adr] (c1 λa33=>0<=AF (n25-1)/\AF (n25-1)<(Ag data)/\data.a=some a33) (u1 λa34=>
AQ T.a54 a34 (Int.toNat (AF (n25-1))*1) λs35=>
.ex [.adr] (c1 λa36=>0<=n25/\n25<(Ag data)/\data.a=some a36) (u1 λa37=>
AQ T.a54 a37 (Int.toNat n25*1) λs38=>
.ex [.adr] (c1 λa39=>0<=n25/\n25<(Ag data)/\data.a=some a39) (u1 λa40=>
AE T.a54 a40 (Int.toNat n25*1) (.string s35)<|
.ex [.adr] (c1 λa41=>0<=AF (n25-1)/\AF (n25-1)<(Ag data)/\data.a=some a41) (u1 λa42=>
AE T.a54 a42 (Int.toNat (AF (n25-1))*1) (.string s38)<|
AG<|
Ab 7 [])))))<|
Ah (AF (n25-1)) λn43=>
Ab 6 [Ac n43])))<|
Ab 5 [])<|
Ab 4 [])<|
Ab 4 [])<|
AB 4 (
Aa (decide (AF (b-n13)>=2)) (
Ah (AF (n13+1)) λn44=>
AB 5 (
AO 6 (n44,()) λn45=>
Aa (decide (n45<b)) (
AC<|
.ex [.adr] (c1 λa46=>0<=n45/\n45<(Ag data)/\data.a=some a46) (u1 λa47=>
AQ T.a54 a47 (Int.toNat n45*1) λs48=>
.ex [.adr] (c1 λa49=>0<=AF (n45-1)/\AF (n45-1)<(Ag data)/\data.a=some a49) (u1 λa50=>
AQ T.a54 a50 (Int.toNat (AF (n45-1))*1) λs51=>
AM F.a2 [.string s48,.string s51] λb52=>
AG<|
Aa (not b52) (
Ab 5 [])<|
AB 7 (
AC<|
.ex [.adr] (c1 λa53=>0<=AF (n45-1)/\AF (n45-1)<(Ag data)/\data.a=some a53) (u1 λa54=>
AQ T.a54 a54 (Int.toNat (AF (n45-1))*1) λs55=>
.ex [.adr] (c1 λa56=>0<=n45/\n45<(Ag data)/\data.a=some a56) (u1 λa57=>
AQ T.a54 a57 (Int.toNat n45*1) λs58=>
.ex [.adr] (c1 λa59=>0<=n45/\n45<(Ag data)/\data.a=some a59) (u1 λa60=>
AE T.a54 a60 (Int.toNat n45*1) (.string s55)<|
.ex [.adr] (c1 λa61=>0<=AF (n45-1)/\AF (n45-1)<(Ag data)/\data.a=some a61) (u1 λa62=>
AE T.a54 a62 (Int.toNat (AF (n45-1))*1) (.string s58)<|
AG<|
Ab 7 [])))))<|
Ah (AF (n45+1)) λn63=>
Ab 6 [Ac n63])))<|
Ab 5 [])<|
Ab 4 [])<|
Ab 4 [])<|
Ab 3 [Ac n13]) λn64=>
Ah (AF (n2+1)) λn65=>
Ab 2 [Ac n64,Ac n65])<|
Ab 1 [])<|
Ab 0 [.bool false]
def zf2 (x:ByteArray) (y:ByteArray):Prog :=
Bc 1 (
AM F.a4 [.string x] λb0=>
Aa b0 (
AM F.a4 [.string y] λb1=>
Ao (not b1 || Op.bytesLess (ByteArray.toList x) (ByteArray.toList y)) λb2=>
Ab 1 [.bool b2])<|
Ao (Op.bytesLess (ByteArray.toList x) (ByteArray.toList y)) λb3=>
Ab 1 [.bool b3]) λb4=>
Ab 0 [.bool b4]
def z0a6 (data:Sl) (a b:Int) (pivot:Int):Prog :=
AB 1 (
AC<|
.ex [.adr] (c1 λa0=>0<=pivot/\pivot<(Ag data)/\data.a=some a0) (u1 λa1=>
AQ T.a54 a1 (Int.toNat pivot*1) λs2=>
.ex [.adr] (c1 λa3=>0<=a/\a<(Ag data)/\data.a=some a3) (u1 λa4=>
AQ T.a54 a4 (Int.toNat a*1) λs5=>
.ex [.adr] (c1 λa6=>0<=a/\a<(Ag data)/\data.a=some a6) (u1 λa7=>
AE T.a54 a7 (Int.toNat a*1) (.string s2)<|
.ex [.adr] (c1 λa8=>0<=pivot/\pivot<(Ag data)/\data.a=some a8) (u1 λa9=>
AE T.a54 a9 (Int.toNat pivot*1) (.string s5)<|
AG<|
Ab 1 [])))))<|
Ah (AF (a+1)) λn10=>
Ah (AF (b-1)) λn11=>
AI 1 (
AJ 2 (n10,(n11,())) λn12 n13=>
AL 3 (
AI 4 (
AO 5 (n12,()) λn14=>
Bc 6 (
AC<|
.ex [.adr] (c1 λa15=>decide (n14<=n13)=true->0<=a/\a<(Ag data)/\data.a=some a15) (u1 λa16=>
Bh (decide (n14<=n13)=true) T.a54 a16 (Int.toNat a*1) λs17=>
.ex [.adr] (c1 λa18=>decide (n14<=n13)=true->0<=n14/\n14<(Ag data)/\data.a=some a18) (u1 λa19=>
Bh (decide (n14<=n13)=true) T.a54 a19 (Int.toNat n14*1) λs20=>
Aa (decide (n14<=n13)) (
AM F.a2 [.string s17,.string s20] λb21=>
AG<|
Ab 6 [.bool (not b21)])<|
AG<|
Ab 6 [.bool false]))) λb22=>
Aa b22 (
Ah (AF (n14+1)) λn23=>
Ab 5 [Ac n23])<|
Ab 4 [Ac n14]) λn24=>
AI 4 (
AO 5 (n13,()) λn25=>
Bc 6 (
AC<|
.ex [.adr] (c1 λa26=>decide (n24<=n25)=true->0<=a/\a<(Ag data)/\data.a=some a26) (u1 λa27=>
Bh (decide (n24<=n25)=true) T.a54 a27 (Int.toNat a*1) λs28=>
.ex [.adr] (c1 λa29=>decide (n24<=n25)=true->0<=n25/\n25<(Ag data)/\data.a=some a29) (u1 λa30=>
Bh (decide (n24<=n25)=true) T.a54 a30 (Int.toNat n25*1) λs31=>
Aa (decide (n24<=n25)) (
AM F.a2 [.string s28,.string s31] λb32=>
AG<|
Ab 6 [.bool b32])<|
AG<|
Ab 6 [.bool false]))) λb33=>
Aa b33 (
Ah (AF (n25-1)) λn34=>
Ab 5 [Ac n34])<|
Ab 4 [Ac n25]) λn35=>
Aa (decide (n24>n35)) (
Ab 1 [Ac n24])<|
AB 4 (
AC<|
.ex [.adr] (c1 λa36=>0<=n35/\n35<(Ag data)/\data.a=some a36) (u1 λa37=>
AQ T.a54 a37 (Int.toNat n35*1) λs38=>
.ex [.adr] (c1 λa39=>0<=n24/\n24<(Ag data)/\data.a=some a39) (u1 λa40=>
AQ T.a54 a40 (Int.toNat n24*1) λs41=>
.ex [.adr] (c1 λa42=>0<=n24/\n24<(Ag data)/\data.a=some a42) (u1 λa43=>
AE T.a54 a43 (Int.toNat n24*1) (.string s38)<|
.ex [.adr] (c1 λa44=>0<=n35/\n35<(Ag data)/\data.a=some a44) (u1 λa45=>
AE T.a54 a45 (Int.toNat n35*1) (.string s41)<|
AG<|
Ab 4 [])))))<|
Ah (AF (n24+1)) λn46=>
Ah (AF (n35-1)) λn47=>
Ab 3 [Ac n46,Ac n47]) λn48 n49=>
Ab 2 [Ac n48,Ac n49]) λn50=>
Ah n50 λn51=>
Ab 0 [Ac n51]
def z0a7 (data:Sl) (a b:Int) (pivot:Int):Prog :=
AB 1 (
AC<|
.ex [.adr] (c1 λa0=>0<=pivot/\pivot<(Ag data)/\data.a=some a0) (u1 λa1=>
AQ T.a54 a1 (Int.toNat pivot*1) λs2=>
.ex [.adr] (c1 λa3=>0<=a/\a<(Ag data)/\data.a=some a3) (u1 λa4=>
AQ T.a54 a4 (Int.toNat a*1) λs5=>
.ex [.adr] (c1 λa6=>0<=a/\a<(Ag data)/\data.a=some a6) (u1 λa7=>
AE T.a54 a7 (Int.toNat a*1) (.string s2)<|
.ex [.adr] (c1 λa8=>0<=pivot/\pivot<(Ag data)/\data.a=some a8) (u1 λa9=>
AE T.a54 a9 (Int.toNat pivot*1) (.string s5)<|
AG<|
Ab 1 [])))))<|
Ah (AF (a+1)) λn10=>
Ah (AF (b-1)) λn11=>
AI 1 (
AO 2 (n10,()) λn12=>
Bc 3 (
AC<|
.ex [.adr] (c1 λa13=>decide (n12<=n11)=true->0<=n12/\n12<(Ag data)/\data.a=some a13) (u1 λa14=>
Bh (decide (n12<=n11)=true) T.a54 a14 (Int.toNat n12*1) λs15=>
.ex [.adr] (c1 λa16=>decide (n12<=n11)=true->0<=a/\a<(Ag data)/\data.a=some a16) (u1 λa17=>
Bh (decide (n12<=n11)=true) T.a54 a17 (Int.toNat a*1) λs18=>
Aa (decide (n12<=n11)) (
AM F.a2 [.string s15,.string s18] λb19=>
AG<|
Ab 3 [.bool b19])<|
AG<|
Ab 3 [.bool false]))) λb20=>
Aa b20 (
Ah (AF (n12+1)) λn21=>
Ab 2 [Ac n21])<|
Ab 1 [Ac n12]) λn22=>
AI 1 (
AO 2 (n11,()) λn23=>
Bc 3 (
AC<|
.ex [.adr] (c1 λa24=>decide (n22<=n23)=true->0<=n23/\n23<(Ag data)/\data.a=some a24) (u1 λa25=>
Bh (decide (n22<=n23)=true) T.a54 a25 (Int.toNat n23*1) λs26=>
.ex [.adr] (c1 λa27=>decide (n22<=n23)=true->0<=a/\a<(Ag data)/\data.a=some a27) (u1 λa28=>
Bh (decide (n22<=n23)=true) T.a54 a28 (Int.toNat a*1) λs29=>
Aa (decide (n22<=n23)) (
AM F.a2 [.string s26,.string s29] λb30=>
AG<|
Ab 3 [.bool (not b30)])<|
AG<|
Ab 3 [.bool false]))) λb31=>
Aa b31 (
Ah (AF (n23-1)) λn32=>
Ab 2 [Ac n32])<|
Ab 1 [Ac n23]) λn33=>
Aa (decide (n22>n33)) (
AB 1 (
AC<|
.ex [.adr] (c1 λa34=>0<=a/\a<(Ag data)/\data.a=some a34) (u1 λa35=>
AQ T.a54 a35 (Int.toNat a*1) λs36=>
.ex [.adr] (c1 λa37=>0<=n33/\n33<(Ag data)/\data.a=some a37) (u1 λa38=>
AQ T.a54 a38 (Int.toNat n33*1) λs39=>
.ex [.adr] (c1 λa40=>0<=n33/\n33<(Ag data)/\data.a=some a40) (u1 λa41=>
AE T.a54 a41 (Int.toNat n33*1) (.string s36)<|
.ex [.adr] (c1 λa42=>0<=a/\a<(Ag data)/\data.a=some a42) (u1 λa43=>
AE T.a54 a43 (Int.toNat a*1) (.string s39)<|
AG<|
Ab 1 [])))))<|
Ah n33 λn44=>
Ab 0 [Ac n44,.bool true])<|
AB 1 (
AC<|
.ex [.adr] (c1 λa45=>0<=n33/\n33<(Ag data)/\data.a=some a45) (u1 λa46=>
AQ T.a54 a46 (Int.toNat n33*1) λs47=>
.ex [.adr] (c1 λa48=>0<=n22/\n22<(Ag data)/\data.a=some a48) (u1 λa49=>
AQ T.a54 a49 (Int.toNat n22*1) λs50=>
.ex [.adr] (c1 λa51=>0<=n22/\n22<(Ag data)/\data.a=some a51) (u1 λa52=>
AE T.a54 a52 (Int.toNat n22*1) (.string s47)<|
.ex [.adr] (c1 λa53=>0<=n33/\n33<(Ag data)/\data.a=some a53) (u1 λa54=>
AE T.a54 a54 (Int.toNat n33*1) (.string s50)<|
AG<|
Ab 1 [])))))<|
Ah (AF (n22+1)) λn55=>
Ah (AF (n33-1)) λn56=>
AI 1 (
AJ 2 (n55,(n56,())) λn57 n58=>
AL 3 (
AI 4 (
AO 5 (n57,()) λn59=>
Bc 6 (
AC<|
.ex [.adr] (c1 λa60=>decide (n59<=n58)=true->0<=n59/\n59<(Ag data)/\data.a=some a60) (u1 λa61=>
Bh (decide (n59<=n58)=true) T.a54 a61 (Int.toNat n59*1) λs62=>
.ex [.adr] (c1 λa63=>decide (n59<=n58)=true->0<=a/\a<(Ag data)/\data.a=some a63) (u1 λa64=>
Bh (decide (n59<=n58)=true) T.a54 a64 (Int.toNat a*1) λs65=>
Aa (decide (n59<=n58)) (
AM F.a2 [.string s62,.string s65] λb66=>
AG<|
Ab 6 [.bool b66])<|
AG<|
Ab 6 [.bool false]))) λb67=>
Aa b67 (
Ah (AF (n59+1)) λn68=>
Ab 5 [Ac n68])<|
Ab 4 [Ac n59]) λn69=>
AI 4 (
AO 5 (n58,()) λn70=>
Bc 6 (
AC<|
.ex [.adr] (c1 λa71=>decide (n69<=n70)=true->0<=n70/\n70<(Ag data)/\data.a=some a71) (u1 λa72=>
Bh (decide (n69<=n70)=true) T.a54 a72 (Int.toNat n70*1) λs73=>
.ex [.adr] (c1 λa74=>decide (n69<=n70)=true->0<=a/\a<(Ag data)/\data.a=some a74) (u1 λa75=>
Bh (decide (n69<=n70)=true) T.a54 a75 (Int.toNat a*1) λs76=>
Aa (decide (n69<=n70)) (
AM F.a2 [.string s73,.string s76] λb77=>
AG<|
Ab 6 [.bool (not b77)])<|
AG<|
Ab 6 [.bool false]))) λb78=>
Aa b78 (
Ah (AF (n70-1)) λn79=>
Ab 5 [Ac n79])<|
Ab 4 [Ac n70]) λn80=>
Aa (decide (n69>n80)) (
Ab 1 [Ac n80])<|
AB 4 (
AC<|
.ex [.adr] (c1 λa81=>0<=n80/\n80<(Ag data)/\data.a=some a81) (u1 λa82=>
AQ T.a54 a82 (Int.toNat n80*1) λs83=>
.ex [.adr] (c1 λa84=>0<=n69/\n69<(Ag data)/\data.a=some a84) (u1 λa85=>
AQ T.a54 a85 (Int.toNat n69*1) λs86=>
.ex [.adr] (c1 λa87=>0<=n69/\n69<(Ag data)/\data.a=some a87) (u1 λa88=>
AE T.a54 a88 (Int.toNat n69*1) (.string s83)<|
.ex [.adr] (c1 λa89=>0<=n80/\n80<(Ag data)/\data.a=some a89) (u1 λa90=>
AE T.a54 a90 (Int.toNat n80*1) (.string s86)<|
AG<|
Ab 4 [])))))<|
Ah (AF (n69+1)) λn91=>
Ah (AF (n80-1)) λn92=>
Ab 3 [Ac n91,Ac n92]) λn93 n94=>
Ab 2 [Ac n93,Ac n94]) λn95=>
AB 1 (
AC<|
.ex [.adr] (c1 λa96=>0<=a/\a<(Ag data)/\data.a=some a96) (u1 λa97=>
AQ T.a54 a97 (Int.toNat a*1) λs98=>
.ex [.adr] (c1 λa99=>0<=n95/\n95<(Ag data)/\data.a=some a99) (u1 λa100=>
AQ T.a54 a100 (Int.toNat n95*1) λs101=>
.ex [.adr] (c1 λa102=>0<=n95/\n95<(Ag data)/\data.a=some a102) (u1 λa103=>
AE T.a54 a103 (Int.toNat n95*1) (.string s98)<|
.ex [.adr] (c1 λa104=>0<=a/\a<(Ag data)/\data.a=some a104) (u1 λa105=>
AE T.a54 a105 (Int.toNat a*1) (.string s101)<|
AG<|
Ab 1 [])))))<|
Ah n95 λn106=>
Ab 0 [Ac n106,.bool false]
def z0ab (data:Sl) (lo hi first:Int) (cmp:Value):Prog :=
Ah lo λn0=>
AB 1 (
AO 2 (n0,()) λn1=>
Ah (AF (AF (2*n1)+1)) λn2=>
Aa (decide (n2>=hi)) (
Ab 1 [])<|
Bc 3 (
AC<|
.ex [.adr] (c1 λa3=>decide (AF (n2+1)<hi)=true->0<=AF (first+n2)/\AF (first+n2)<(Ag data)/\data.a=some a3) (u1 λa4=>
Bd (decide (AF (n2+1)<hi)=true) T.a15 a4 (Int.toNat (AF (first+n2))*4) λn5 n6 n7 n8=>
.ex [.adr] (c1 λa9=>decide (AF (n2+1)<hi)=true->0<=AF (AF (first+n2)+1)/\AF (AF (first+n2)+1)<(Ag data)/\data.a=some a9) (u1 λa10=>
Bd (decide (AF (n2+1)<hi)=true) T.a15 a10 (Int.toNat (AF (AF (first+n2)+1))*4) λn11 n12 n13 n14=>
Aa (decide (AF (n2+1)<hi)) (
Bf cmp [Be n5 n6 n7 n8,Be n11 n12 n13 n14] λn15=>
AG<|
Ab 3 [.bool (decide (n15<0))])<|
AG<|
Ab 3 [.bool false]))) λb16=>
AI 3 (
Aa b16 (
Ah (AF (n2+1)) λn17=>
Ab 3 [Ac n17])<|
Ab 3 [Ac n2]) λn18=>
AC<|
.ex [.adr] (c1 λa19=>0<=AF (first+n1)/\AF (first+n1)<(Ag data)/\data.a=some a19) (u1 λa20=>
Bi T.a15 a20 (Int.toNat (AF (first+n1))*4) λn21 n22 n23 n24=>
.ex [.adr] (c1 λa25=>0<=AF (first+n18)/\AF (first+n18)<(Ag data)/\data.a=some a25) (u1 λa26=>
Bi T.a15 a26 (Int.toNat (AF (first+n18))*4) λn27 n28 n29 n30=>
Bf cmp [Be n21 n22 n23 n24,Be n27 n28 n29 n30] λn31=>
AG<|
Aa (not (decide (n31<0))) (
Ab 0 [])<|
AB 3 (
AC<|
.ex [.adr] (c1 λa32=>0<=AF (first+n18)/\AF (first+n18)<(Ag data)/\data.a=some a32) (u1 λa33=>
Bi T.a15 a33 (Int.toNat (AF (first+n18))*4) λn34 n35 n36 n37=>
.ex [.adr] (c1 λa38=>0<=AF (first+n1)/\AF (first+n1)<(Ag data)/\data.a=some a38) (u1 λa39=>
Bi T.a15 a39 (Int.toNat (AF (first+n1))*4) λn40 n41 n42 n43=>
.ex [.adr] (c1 λa44=>0<=AF (first+n1)/\AF (first+n1)<(Ag data)/\data.a=some a44) (u1 λa45=>
AE T.a15 a45 (Int.toNat (AF (first+n1))*4) (Be n34 n35 n36 n37)<|
.ex [.adr] (c1 λa46=>0<=AF (first+n18)/\AF (first+n18)<(Ag data)/\data.a=some a46) (u1 λa47=>
AE T.a15 a47 (Int.toNat (AF (first+n18))*4) (Be n40 n41 n42 n43)<|
AG<|
Ab 3 [])))))<|
Ah n18 λn48=>
Ab 2 [Ac n48])))<|
Ab 0 []
def z09v (data:Sl) (a:Int) (swaps:Option Addr) (cmp:Value):Prog :=
Ai F.a164 [data.v,Ac (AF (a-1)),Ac a,Ac (AF (a+1)),Ad swaps,cmp] λn0=>
Ah n0 λn1=>
Ab 0 [Ac n1]
def z09x (data:Sl) (a b c:Int) (swaps:Option Addr) (cmp:Value):Prog :=
Bb F.a167 [data.v,Ac a,Ac b,Ad swaps,cmp] λn0 n1=>
Ah n0 λn2=>
Ah n1 λn3=>
Bb F.a167 [data.v,Ac n3,Ac c,Ad swaps,cmp] λn4 n5=>
Ah n4 λn6=>
Ah n5 λn7=>
Bb F.a167 [data.v,Ac n2,Ac n6,Ad swaps,cmp] λn8 n9=>
Ah n8 λn10=>
Ah n9 λn11=>
Ah n11 λn12=>
Ab 0 [Ac n12]
def z0ac (data:Sl) (lo hi:Int) (first:Int):Prog :=
Ah lo λn0=>
AB 1 (
AO 2 (n0,()) λn1=>
Ah (AF (AF (2*n1)+1)) λn2=>
Aa (decide (n2>=hi)) (
Ab 1 [])<|
Bc 3 (
AC<|
.ex [.adr] (c1 λa3=>decide (AF (n2+1)<hi)=true->0<=AF (first+n2)/\AF (first+n2)<(Ag data)/\data.a=some a3) (u1 λa4=>
Bh (decide (AF (n2+1)<hi)=true) T.a54 a4 (Int.toNat (AF (first+n2))*1) λs5=>
.ex [.adr] (c1 λa6=>decide (AF (n2+1)<hi)=true->0<=AF (AF (first+n2)+1)/\AF (AF (first+n2)+1)<(Ag data)/\data.a=some a6) (u1 λa7=>
Bh (decide (AF (n2+1)<hi)=true) T.a54 a7 (Int.toNat (AF (AF (first+n2)+1))*1) λs8=>
Aa (decide (AF (n2+1)<hi)) (
AM F.a2 [.string s5,.string s8] λb9=>
AG<|
Ab 3 [.bool b9])<|
AG<|
Ab 3 [.bool false]))) λb10=>
AI 3 (
Aa b10 (
Ah (AF (n2+1)) λn11=>
Ab 3 [Ac n11])<|
Ab 3 [Ac n2]) λn12=>
AC<|
.ex [.adr] (c1 λa13=>0<=AF (first+n1)/\AF (first+n1)<(Ag data)/\data.a=some a13) (u1 λa14=>
AQ T.a54 a14 (Int.toNat (AF (first+n1))*1) λs15=>
.ex [.adr] (c1 λa16=>0<=AF (first+n12)/\AF (first+n12)<(Ag data)/\data.a=some a16) (u1 λa17=>
AQ T.a54 a17 (Int.toNat (AF (first+n12))*1) λs18=>
AM F.a2 [.string s15,.string s18] λb19=>
AG<|
Aa (not b19) (
Ab 0 [])<|
AB 3 (
AC<|
.ex [.adr] (c1 λa20=>0<=AF (first+n12)/\AF (first+n12)<(Ag data)/\data.a=some a20) (u1 λa21=>
AQ T.a54 a21 (Int.toNat (AF (first+n12))*1) λs22=>
.ex [.adr] (c1 λa23=>0<=AF (first+n1)/\AF (first+n1)<(Ag data)/\data.a=some a23) (u1 λa24=>
AQ T.a54 a24 (Int.toNat (AF (first+n1))*1) λs25=>
.ex [.adr] (c1 λa26=>0<=AF (first+n1)/\AF (first+n1)<(Ag data)/\data.a=some a26) (u1 λa27=>
AE T.a54 a27 (Int.toNat (AF (first+n1))*1) (.string s22)<|
.ex [.adr] (c1 λa28=>0<=AF (first+n12)/\AF (first+n12)<(Ag data)/\data.a=some a28) (u1 λa29=>
AE T.a54 a29 (Int.toNat (AF (first+n12))*1) (.string s25)<|
AG<|
Ab 3 [])))))<|
Ah n12 λn30=>
Ab 2 [Ac n30])))<|
Ab 0 []
def z09w (data:Sl) (a:Int) (swaps:Option Addr):Prog :=
Ai F.a165 [data.v,Ac (AF (a-1)),Ac a,Ac (AF (a+1)),Ad swaps] λn0=>
Ah n0 λn1=>
Ab 0 [Ac n1]
def z09y (data:Sl) (a b c:Int) (swaps:Option Addr):Prog :=
Bb F.a168 [data.v,Ac a,Ac b,Ad swaps] λn0 n1=>
Ah n0 λn2=>
Ah n1 λn3=>
Bb F.a168 [data.v,Ac n3,Ac c,Ad swaps] λn4 n5=>
Ah n4 λn6=>
Ah n5 λn7=>
Bb F.a168 [data.v,Ac n2,Ac n6,Ad swaps] λn8 n9=>
Ah n8 λn10=>
Ah n9 λn11=>
Ah n11 λn12=>
Ab 0 [Ac n12]
def zf4 (x:ByteArray):Prog :=
Ao (not (ByteArray.toList x == ByteArray.toList x)) λb0=>
Ab 0 [.bool b0]
def z0a0 (data:Sl) (a b:Int) (swaps:Option Addr) (cmp:Value):Prog :=
AC<|
.ex [.adr] (c1 λa0=>0<=b/\b<(Ag data)/\data.a=some a0) (u1 λa1=>
Bi T.a15 a1 (Int.toNat b*4) λn2 n3 n4 n5=>
.ex [.adr] (c1 λa6=>0<=a/\a<(Ag data)/\data.a=some a6) (u1 λa7=>
Bi T.a15 a7 (Int.toNat a*4) λn8 n9 n10 n11=>
Bf cmp [Be n2 n3 n4 n5,Be n8 n9 n10 n11] λn12=>
AG<|
Aa (decide (n12<0)) (
Aj swaps λa14=>
Bk T.a13 a14 λn15=>
Aj swaps λa17=>
Au T.a13 a17 (Ac (AF (n15+1)))<|
Ah b λn18=>
Ah a λn19=>
Ab 0 [Ac n18,Ac n19])<|
Ah a λn20=>
Ah b λn21=>
Ab 0 [Ac n20,Ac n21]))
def z0a1 (data:Sl) (a b:Int) (swaps:Option Addr):Prog :=
AC<|
.ex [.adr] (c1 λa0=>0<=b/\b<(Ag data)/\data.a=some a0) (u1 λa1=>
AQ T.a54 a1 (Int.toNat b*1) λs2=>
.ex [.adr] (c1 λa3=>0<=a/\a<(Ag data)/\data.a=some a3) (u1 λa4=>
AQ T.a54 a4 (Int.toNat a*1) λs5=>
AM F.a2 [.string s2,.string s5] λb6=>
AG<|
Aa b6 (
Aj swaps λa8=>
Bk T.a13 a8 λn9=>
Aj swaps λa11=>
Au T.a13 a11 (Ac (AF (n9+1)))<|
Ah b λn12=>
Ah a λn13=>
Ab 0 [Ac n12,Ac n13])<|
Ah a λn14=>
Ah b λn15=>
Ab 0 [Ac n14,Ac n15]))
end Go.Dec
