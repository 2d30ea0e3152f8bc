/- What the claim of this folder leans on: our own texts, joined, without what it does not use. -/
import Derived.Test.YtlmaipahgknahaaGreatRows
import Derived.WalkKit
import Derived.ProofKit
import Derived.OpenShut
import Derived.RowKit3
import Derived.OrdersHeld
import Derived.Scope
import Derived.KernelRfl
import Derived.Laws.Sem
import Derived.Laws.StructEq
import Derived.Deep.AppendSrc
import Derived.Laws.BytesArg
import Derived.Laws.RangeString
import Derived.Maps.RangeRun
import Derived.Lib.ConvBytes
import Derived.Lib.SlBytesConst
import Derived.ChangeSlices
import Derived.ChangeMaps5
import Derived.ChangeSame
import Derived.Deep.Slices
import Derived.Deep.Fields
import Derived.Test.YtlmaipahgknahaaGreatProg
import Derived.WideKeyRuns
import Derived.DeepKeys3
import Derived.Laws.MakeOwn
import Derived.Sort.MapsRangeIn
import Derived.Sort.KeysCollected
import Derived.RangeFuncNested
import Derived.RangeFuncBound
import Derived.RangeFuncCalls
import Derived.RangeFuncLeaves
import Derived.RangeFuncBox
import Derived.OwnWalkIn
import Derived.TacticsInMore
import Derived.RegionIn
import Derived.LoopNIn
import Derived.LoopIn
import Derived.Maps.AppendAt
import Derived.Shelf.Abstract
import Derived.Shelf.Sort.Plain
import Derived.Shelf.Slices.In.SortNone
import Derived.Test.YtlmaipahgknahaaGreatQNil1
import Derived.Test.YtlmaipahgknahaaGreatQNil2
set_option linter.unusedVariables false
set_option linter.unusedSimpArgs false
namespace Go.Dec
theorem dS {f:FuncId} {fn:Func} {n:Nat} {rv:List RV} {p:Prog} {w:World} {R:List Value->World->Prop} (H:Hints) (args:List Base) (hf:P.funcs[f]? = some fn) (hb:fn.body.isSome=true) (hn:fn.ntmps=n) (hr:z9t fn.results.toList=rv) (he:zgv P n ⟨zge,[]⟩ H rv (z9x fn) args=p) (h:p.wp P (λ_=>True) w λe vs w'=>e=0/\R vs w'):Ret P f (args.map Base.v).toArray w R:=z8n (zg9 hf hb hn hr) zgf mix args (by rw [he];exact h)
abbrev FnS (p:Prog) (f:FuncId) (vs:Array Value):Prop:=∀ {w:World} {R:List Value->World->Prop},p.wp P (λ_=>True) w (λe vs w'=>e=0/\R vs w')->Ret P f vs w R
theorem dV {f:FuncId} {fn:Func} {p:Prog} {vs:List Value} (H:Hints) (hf:P.funcs[f]? = some fn) (he:(fn.body.isSome,zgv P fn.ntmps ⟨zge,[]⟩ H (z9t fn.results.toList) (z9x fn) (vs.map Base.val))=(true,p)):FnS p f vs.toArray:=λh=>by
 have e:=dS H (vs.map Base.val) hf (congrArg Prod.fst he) rfl rfl (congrArg Prod.snd he) h
 rwa [List.map_map,show Base.v∘Base.val=id from rfl,List.map_id] at e
abbrev Aa (x0:Int) (x1:Int) (x2:Int) (x3:Int) (x4:Int) (x5:Int) (x6:Sl):Value:=.agg #[.int .i64 x0,.int .i64 x1,.int .i64 x2,.int .i64 x3,.int .i64 x4,.int .i64 x5,x6.v]
abbrev Ab (t:TypeId) (v:Value) (k:Addr->Prog):Prog:=.act (Instr.box t v) sA (u1 k)
abbrev Ac (t:TypeId) (a:Addr) (k:Int->Int->Int->Int->Int->Int->Sl->Prog):Prog:=.read True (ld t a) (sG [.int .i64,.int .i64,.int .i64,.int .i64,.int .i64,.int .i64,.slc]) (u7 k)
abbrev Ad (p:Option Addr):Value:=.pointer p
abbrev Ae (f:FuncId) (l:List Value) (k:Int->Bool->Int->Prog):Prog:=.call f l (.tup [.one (.int .i64),.one .bool,.one (.int .i64)]) (u3 k)
abbrev Af (x:Int) (k:Int->Prog):Prog:=.lt (.int .i64) x k
abbrev Ag (x:Bool) (k:Bool->Prog):Prog:=.lt (.bool) x k
abbrev Ah (n:Int):Value:=.int .i64 n
abbrev Ai (f:FuncId) (l:List Value) (k:Int->Int->Prog):Prog:=.call f l (.tup [.one (.int .i64),.one (.int .i64)]) (u2 k)
abbrev Aj (e:Nat) (p:Prog) (k:Bool->Prog):Prog:=.bind e [.one .bool] p (u1 k)
abbrev Ak (b:Bool) (p q:Prog):Prog:=.ite b p q
abbrev Al (l:Sl):Int:=((l.len:Nat):Int)
abbrev Am (f:FuncId) (l:List Value) (k:Int->Prog):Prog:=.call f l (sI .i64) (u1 k)
abbrev An (f:FuncId) (l:List Value) (k:Sl->Prog):Prog:=.call f l sL (u1 k)
abbrev Ao (f:FuncId) (l:List Value) (k:Bool->Prog):Prog:=.call f l sB (u1 k)
abbrev Ap (e:Nat) (l:List Value):Prog:=.done e l
abbrev Aq (x0:Int) (x1:Int) (x2:Int):Value:=.agg #[.int .i64 x0,.int .i64 x1,.int .i64 x2]
abbrev Ar (t:TypeId) (a:Addr) (i:Nat) (k:Int->Prog):Prog:=.read True (ld t (Addr.add a i)) (sI .i64) (u1 k)
abbrev As (g:Prop) (t:TypeId) (a:Addr) (i:Nat) (k:Int->Prog):Prog:=.read g (ld t (Addr.add a i)) (sI .i64) (u1 k)
abbrev Au (t:TypeId) (a:Addr) (i:Nat) (k:Int->Int->Prog):Prog:=.read True (ld t (Addr.add a i)) (sG [.int .i64,.int .i64]) (u2 k)
abbrev Av (x0:Int) (x1:Int):Value:=.agg #[.int .i64 x0,.int .i64 x1]
abbrev Aw (f:FuncId) (l:List Value) (k:(Option Addr)->Int->Prog):Prog:=.call f l (.tup [.one .ptr,.one (.int .i64)]) (u2 k)
abbrev Ax (a:Addr):Value:=.pointer (some a)
abbrev Ay (f:FuncId) (l:List Value) (k:ByteArray->Prog):Prog:=.call f l sS (u1 k)
abbrev Az (e:Nat) (p:Prog) (k:Prog):Prog:=.bind e [] p (u0 k)
abbrev AA (e:Nat) (x:Int × Unit) (k:Int->Prog):Prog:=.loop e [.one (.int .i64)] x (u1 k)
abbrev AB (t:TypeId) (a:Addr) (i:Nat) (k:Int->Int->Int->Int->Int->Int->Sl->Prog):Prog:=.read True (ld t (Addr.add a i)) (sG [.int .i64,.int .i64,.int .i64,.int .i64,.int .i64,.int .i64,.slc]) (u7 k)
abbrev AC (t:TypeId) (k:Addr->Prog):Prog:=.act (new t) sA (u1 k)
abbrev AD (t:TypeId) (a:Addr) (v:Value) (k:Prog):Prog:=.actU (st t a v) k
abbrev AE (f:FuncId) (l:List Value) (k:Prog):Prog:=.call f l (.tup []) (u0 k)
abbrev AF (n:Int):Int:=IntKind.wrap .i64 n
abbrev AG (f:FuncId) (l:List Value) (k:Int->Int->Int->Int->Int->Int->Sl->Prog):Prog:=.call f l (sG [.int .i64,.int .i64,.int .i64,.int .i64,.int .i64,.int .i64,.slc]) (u7 k)
abbrev AH (x:Bool) (p q:Prog):Prog:=.lt .bool x λb=>.ite b p q
abbrev AI (s:Option Addr) (k:Addr->Prog):Prog:=.ex [.adr] (c1 λa=>s=some a) (u1 k)
abbrev AJ (t:TypeId) (a:Addr) (i:Nat) (k:(Option Addr)->Prog):Prog:=.read True (ld t (Addr.add a i)) sP (u1 k)
abbrev AK (f:FuncId) (l:List Value) (k:Sl->Int->Prog):Prog:=.call f l (.tup [.one .slc,.one (.int .i64)]) (u2 k)
abbrev AL (k:Prog):Prog:=.tick k
abbrev AM (g:Prop) (t:TypeId) (a:Addr) (i:Nat) (k:Int->Prog):Prog:=.hold g (ld t (Addr.add a i)) (sI .i64) (u1 k)
abbrev AN (k:Prog):Prog:=.untick k
abbrev AO (g:Prop) (s:Option Addr) (k:Addr->Prog):Prog:=.ex [.adr] (c1 λa=>g->s=some a) (u1 k)
abbrev AP (g:Prop) (t:TypeId) (a:Addr) (k:Int->Int->Int->Int->Int->Int->Sl->Prog):Prog:=.read g (ld t a) (sG [.int .i64,.int .i64,.int .i64,.int .i64,.int .i64,.int .i64,.slc]) (u7 k)
abbrev AQ (e:Nat) (p:Prog) (k:Sl->Prog):Prog:=.bind e [.one .slc] p (u1 k)
abbrev AR (m:Sem Value) (k:Sl->Prog):Prog:=.act m sL (u1 k)
abbrev AS (t:TypeId) (a:Addr) (i:Nat) (k:Sl->Prog):Prog:=.read True (ld t (Addr.add a i)) sL (u1 k)
abbrev AT (t:TypeId) (a:Addr) (i:Nat) (v:Value) (k:Prog):Prog:=.actU (st t (Addr.add a i) v) k
abbrev AU (f:FuncId) (l:List Value) (k:Bool->Int->Int->Prog):Prog:=.call f l (.tup [.agg [.bool,.int .i64],.one (.int .i64)]) (u3 k)
abbrev AV (x0:Bool) (x1:Int):Value:=.agg #[.bool x0,.int .i64 x1]
abbrev AW (t:TypeId) (a:Addr) (i:Nat) (k:Bool->Prog):Prog:=.read True (ld t (Addr.add a i)) sB (u1 k)
abbrev AX (f:FuncId) (l:List Value) (k:(Option Addr)->Prog):Prog:=.call f l sP (u1 k)
abbrev AY (t:TypeId) (a:Addr) (i:Nat) (k:ByteArray->Prog):Prog:=.read True (ld t (Addr.add a i)) sS (u1 k)
abbrev AZ (x:ByteArray) (k:ByteArray->Prog):Prog:=.lt (.str) x k
abbrev Ba (t:TypeId) (a:Addr) (i:Nat) (k:(Option Addr)->Prog):Prog:=.hold True (ld t (Addr.add a i)) sP (u1 k)
abbrev Bb (f:FuncId) (l:List Value) (k:Sl->Bool->Prog):Prog:=.call f l (.tup [.one .slc,.one .bool]) (u2 k)
abbrev Bc (f:FuncId) (l:List Value) (k:Int->Prog):Prog:=.call f l (sI .u64) (u1 k)
abbrev Bd (x:Int) (k:Int->Prog):Prog:=.lt (.int .u64) x k
abbrev Be (g:Prop) (t:TypeId) (a:Addr) (i:Nat) (k:Bool->Prog):Prog:=.read g (ld t (Addr.add a i)) sB (u1 k)
abbrev Bf (e:Nat) (p:Prog) (k:Int->Int->Prog):Prog:=.bind e [.one (.int .i64),.one (.int .i64)] p (u2 k)
abbrev Bg (e:Nat) (p:Prog) (k:Int->Prog):Prog:=.bind e [.one (.int .i64)] p (u1 k)
abbrev Bh (e:Nat) (p:Prog) (k:Addr->Bool->Prog):Prog:=.bind e [.one .adr,.one .bool] p (u2 k)
abbrev Bi (t:TypeId) (a:Addr) (i:Nat) (k:(Option Nat)->Prog):Prog:=.hold True (ld t (Addr.add a i)) sM (u1 k)
abbrev Bj (t:TypeId) (a:Addr) (i:Nat) (k:Int->Prog):Prog:=.hold True (ld t (Addr.add a i)) (sI .i64) (u1 k)
abbrev Bk (m:Sem Value) (k:Int->Int->Int->Int->Bool->Prog):Prog:=.hold True m (.tup [.agg [.int .i64,.int .i64,.int .i64,.int .i64],.one .bool]) (u5 k)
abbrev Bl (x0:Int) (x1:Int) (x2:Int) (x3:Int):Value:=.agg #[.int .i64 x0,.int .i64 x1,.int .i64 x2,.int .i64 x3]
abbrev Bn (t:TypeId) (a:Addr) (i:Nat) (k:(Option Nat)->Prog):Prog:=.read True (ld t (Addr.add a i)) sM (u1 k)
abbrev Bo (m:Sem Value) (k:Addr->Prog):Prog:=.act m sA (u1 k)
abbrev Bp (e:Nat) (x:Sl × Unit) (k:Sl->Prog):Prog:=.loop e [.one .slc] x (u1 k)
abbrev Bq (t:TypeId) (a:Addr) (k:Int->Int->Int->Int->Prog):Prog:=.read True (ld t a) (sG [.int .i64,.int .i64,.int .i64,.int .i64]) (u4 k)
abbrev Br (e:Nat) (x:Int × Int × Unit) (k:Int->Int->Prog):Prog:=.loop e [.one (.int .i64),.one (.int .i64)] x (u2 k)
abbrev Bs (e:Nat) (x:Sl × Int × Unit) (k:Sl->Int->Prog):Prog:=.loop e [.one .slc,.one (.int .i64)] x (u2 k)
abbrev Bt (t:TypeId) (a:Addr) (i:Nat) (k:Int->ByteArray->ByteArray->Bool->Int->Prog):Prog:=.read True (ld t (Addr.add a i)) (sG [.int .i64,.str,.str,.bool,.int .i64]) (u5 k)
abbrev Bu (x0:Int) (x1:ByteArray) (x2:ByteArray) (x3:Bool) (x4:Int):Value:=.agg #[.int .i64 x0,.string x1,.string x2,.bool x3,.int .i64 x4]
abbrev Bv (m:Sem Value) (k:Int->Prog):Prog:=.read True m (sI .i64) (u1 k)
abbrev Bw (t:TypeId) (a:Addr) (i:Nat) (k:ByteArray->ByteArray->Bool->Int->Prog):Prog:=.read True (ld t (Addr.add a i)) (sG [.str,.str,.bool,.int .i64]) (u4 k)
abbrev Bx (x0:ByteArray) (x1:ByteArray) (x2:Bool) (x3:Int):Value:=.agg #[.string x0,.string x1,.bool x2,.int .i64 x3]
abbrev By (t:TypeId) (a:Addr) (k:Bool->Int->Prog):Prog:=.read True (ld t a) (sG [.bool,.int .i64]) (u2 k)
abbrev Bz (e:Nat) (p:Prog) (k:(Option Addr)->Prog):Prog:=.bind e [.one .ptr] p (u1 k)
abbrev B0 (x0:Int) (x1:Int) (x2:Int) (x3:Int) (x4:Int) (x5:Int) (x6:Int):Value:=.agg #[.int .i64 x0,.int .i64 x1,.int .i64 x2,.int .i64 x3,.int .i64 x4,.int .i64 x5,.int .i64 x6]
abbrev B1 (t:TypeId) (a:Addr) (k:Int->Int->Int->Int->Int->Int->Int->Prog):Prog:=.read True (ld t a) (sG [.int .i64,.int .i64,.int .i64,.int .i64,.int .i64,.int .i64,.int .i64]) (u7 k)
abbrev B2 (m:Sem Value) (k:Prog):Prog:=.act m (.tup []) (u0 k)
abbrev B3 (m:Sem Value) (k:(Option Nat)->Prog):Prog:=.act m sM (u1 k)
abbrev B4 (g:Prop) (t:TypeId) (a:Addr) (k:Int->Int->Int->Int->Int->Int->Int->Prog):Prog:=.read g (ld t a) (sG [.int .i64,.int .i64,.int .i64,.int .i64,.int .i64,.int .i64,.int .i64]) (u7 k)
abbrev B5 (m:Sem Unit) (k:Prog):Prog:=.actU m k
abbrev B6 (t:TypeId) (a:Addr) (i:Nat) (k:Int->Int->Int->Int->Int->Int->Int->Prog):Prog:=.read True (ld t (Addr.add a i)) (sG [.int .i64,.int .i64,.int .i64,.int .i64,.int .i64,.int .i64,.int .i64]) (u7 k)
abbrev B7 (t:TypeId) (a:Addr) (i:Nat) (k:Int->Int->Int->Int->Prog):Prog:=.read True (ld t (Addr.add a i)) (sG [.int .i64,.int .i64,.int .i64,.int .i64]) (u4 k)
abbrev B8 (g:Prop) (t:TypeId) (a:Addr) (i:Nat) (k:(Option Nat)->Prog):Prog:=.read g (ld t (Addr.add a i)) sM (u1 k)
abbrev B9 (g:Prop) (m:Sem Value) (k:Int->Int->Prog):Prog:=.read g m (sG [.int .i64,.int .i64]) (u2 k)
abbrev BA (g:Prop) (t:TypeId) (a:Addr) (i:Nat) (k:Sl->Prog):Prog:=.read g (ld t (Addr.add a i)) sL (u1 k)
abbrev BB (g:Prop) (m:Sem Value) (k:Int->Prog):Prog:=.read g m (sI .i64) (u1 k)
abbrev BC (a:Addr) (i:Nat):Value:=.pointer (some (Addr.add a i))
abbrev BD (m:Sem Value) (k:(Option Addr)->Prog):Prog:=.read True m sP (u1 k)
abbrev BE (t:TypeId) (a:Addr) (i:Nat) (k:Int->Prog):Prog:=.read True (ld t (Addr.add a i)) (sI .u8) (u1 k)
abbrev BF (x:Int) (k:Int->Prog):Prog:=.lt (.int .u8) x k
abbrev BG (t:TypeId) (a:Addr) (k:Sl->Int->Prog):Prog:=.read True (ld t a) (sG [.slc,.int .i64]) (u2 k)
abbrev BH (x0:Sl) (x1:Int):Value:=.agg #[x0.v,.int .i64 x1]
abbrev BI (f:Value) (l:List Value) (k:Bool->Prog):Prog:=.callv f l sB (u1 k)
abbrev BJ (e:Nat) (x:Int × Int × Int × Bool × Bool × Unit) (k:Int->Int->Int->Bool->Bool->Prog):Prog:=.loop e [.one (.int .i64),.one (.int .i64),.one (.int .i64),.one .bool,.one .bool] x (u5 k)
abbrev BK (e:Nat) (p:Prog) (k:Int->Int->Int->Bool->Bool->Prog):Prog:=.bind e [.one (.int .i64),.one (.int .i64),.one (.int .i64),.one .bool,.one .bool] p (u5 k)
abbrev BL (g:Prop) (t:TypeId) (a:Addr) (i:Nat) (k:ByteArray->Prog):Prog:=.read g (ld t (Addr.add a i)) sS (u1 k)
abbrev BM (f:FuncId) (l:List Value) (k:Int->Bool->Prog):Prog:=.call f l (.tup [.one (.int .i64),.one .bool]) (u2 k)
abbrev BN (e:Nat) (p:Prog) (k:Int->Int->Bool->Prog):Prog:=.bind e [.one (.int .i64),.one (.int .i64),.one .bool] p (u3 k)
abbrev BO (t:TypeId) (a:Addr) (k:Int->Int->Prog):Prog:=.read True (ld t a) (sG [.int .i64,.int .i64]) (u2 k)
abbrev BQ (g:Prop) (t:TypeId) (a:Addr) (i:Nat) (k:Int->Int->Int->Int->Prog):Prog:=.read g (ld t (Addr.add a i)) (sG [.int .i64,.int .i64,.int .i64,.int .i64]) (u4 k)
abbrev BR (f:Value) (l:List Value) (k:Int->Prog):Prog:=.callv f l (sI .i64) (u1 k)
abbrev BS (e:Nat) (p:Prog) (k:Int->Int->Int->Prog):Prog:=.bind e [.one (.int .i64),.one (.int .i64),.one (.int .i64)] p (u3 k)
abbrev BT (t:TypeId) (a:Addr) (k:Int->Prog):Prog:=.read True (ld t a) (sI .i64) (u1 k)
abbrev BU (e:Nat) (p:Prog) (k:Int->Int->Prog):Prog:=.bind e [.one (.int .u64),.one (.int .i64)] p (u2 k)
abbrev BV (t:TypeId) (a:Addr) (k:Int->Prog):Prog:=.read True (ld t a) (sI .u64) (u1 k)
abbrev BW (g:Prop) (t:TypeId) (a:Addr) (i:Nat) (k:Int->Int->Int->Int->Int->Int->Int->Prog):Prog:=.read g (ld t (Addr.add a i)) (sG [.int .i64,.int .i64,.int .i64,.int .i64,.int .i64,.int .i64,.int .i64]) (u7 k)
abbrev BX (t:TypeId) (a:Addr) (k:(Option Addr)->Prog):Prog:=.read True (ld t a) sP (u1 k)
abbrev BY (m:Sem Value) (k:Sl->Prog):Prog:=.read True m sL (u1 k)
abbrev BZ (t:TypeId) (a:Addr) (k:ByteArray->ByteArray->Bool->Int->Prog):Prog:=.read True (ld t a) (sG [.str,.str,.bool,.int .i64]) (u4 k)
abbrev Ca (f:FuncId) (l:List Value) (k:Sl->Int->Bool->Prog):Prog:=.call f l (.tup [.one .slc,.one (.int .i64),.one .bool]) (u3 k)
abbrev Cb (t:TypeId) (p:Option Addr) (k:Int->Prog):Prog:=.read True (Instr.loadAt t (.pointer p)) (sI .i64) (u1 k)
abbrev Cc (f:FuncId) (l:List Value) (k:Int->Prog):Prog:=.call f l (sI .u32) (u1 k)
abbrev Cd (x:Int) (k:Int->Prog):Prog:=.lt (.int .u32) x k
abbrev Ce (t:TypeId) (a:Addr) (k:Int->Int->Int->Prog):Prog:=.read True (ld t a) (sG [.int .i64,.int .i64,.int .i64]) (u3 k)
abbrev Cf (e:Nat) (p:Prog) (k:Int->Prog):Prog:=.bind e [.one (.int .u32)] p (u1 k)
abbrev Cg (e:Nat) (x:Int × Int × Unit) (k:Int->Int->Prog):Prog:=.loop e [.one (.int .u32),.one (.int .i64)] x (u2 k)
def zzs (b_0 b_1 b_2 b_3 b_4 b_5:Int) (b_6:Sl) (offset:Int) (most:Int):Prog :=
Ab T.a0 (Aa b_0 b_1 b_2 b_3 b_4 b_5 b_6) λa0=>
Ac T.a0 a0 λn1 n2 n3 n4 n5 n6 l7=>
Ae F.a85 [Ad none,Aa n1 n2 n3 n4 n5 n6 l7] λn8 b9 n10=>
Af n8 λn11=>
Ag b9 λb12=>
Af n10 λn13=>
Ae F.a91 [Ad none,Ah offset,Ah most,.bool true,Ah offset] λn14 b15 n16=>
Af n14 λn17=>
Ag b15 λb18=>
Af n16 λn19=>
Ac T.a0 a0 λn20 n21 n22 n23 n24 n25 l26=>
.call F.a86 [Ad none,Aa n20 n21 n22 n23 n24 n25 l26] (.tup [.one .bool,.one (.int .i64)]) (u2 λb27 (n28:Int)=>
Ag b27 λb29=>
Af n28 λn30=>
.call F.a93 [Ad none,Ah offset,Ah most,.bool true] (.tup [.one .slc,.one (.int .i64),.one (.int .i64)]) (u3 λl31 (n32 n33:Int)=>
Af n32 λn34=>
Af n33 λn35=>
Ai F.a89 [Ad none,Ah offset] λn36 n37=>
Af n36 λn38=>
Af n37 λn39=>
Ai F.a88 [Ad none,Ah offset] λn40 n41=>
Af n40 λn42=>
Af n41 λn43=>
Aj 1 (
Ak (not b12 && not b18 && not b29 && n13 == 1 && n19 == 1 && n30 == 1 && n35 == 1 && (Al l31) == 0 && n34 == 0 && n39 == 1 && n43 == 1) (
Am F.a94 [Ad none] λn44=>
Ak (n44 == 1) (
Am F.a90 [Ad none] λn45=>
Ak (n45 == 0) (
Am F.a92 [Ad none] λn46=>
Ak (n46 == 0) (
Am F.a95 [Ad none] λn47=>
Ak (n47 == 0) (
An F.a87 [Ad none] λl48=>
Ak ((Al l48) == 0) (
Ao F.a218 [] λb49=>
Ag b49 λb50=>
Ap 1 [.bool b50])<|
Ap 1 [.bool false])<|
Ap 1 [.bool false])<|
Ap 1 [.bool false])<|
Ap 1 [.bool false])<|
Ap 1 [.bool false])<|
Ap 1 [.bool false]) λb51=>
Ap 0 [.bool b51]))
theorem znr (b_0 b_1 b_2 b_3 b_4 b_5:Int) (b_6:Sl) (offset most:Int):FnS (zzs b_0 b_1 b_2 b_3 b_4 b_5 b_6 offset most) F.a217 #[.agg #[.int .i64 b_0,.int .i64 b_1,.int .i64 b_2,.int .i64 b_3,.int .i64 b_4,.int .i64 b_5,.slice b_6.a b_6.len b_6.cap],.int .i64 offset,.int .i64 most]:=dV ⟨[],[],[(8,[(6,.one .bool)])],[]⟩ Go.Proofs.Tryz.func8 (by kernel_rfl)
def z05b (d:Option Addr) (prefix_:ByteArray) (c_0 c_1:Int) (c_2:Int):Prog :=
Ab T.a30 (Aq c_0 c_1 c_2) λa0=>
Ar T.a12 a0 2 λn1=>
As (decide (n1<1)=false) T.a12 a0 2 λn2=>
Ak (decide (n1<1) || decide (n2>1024)) (
Ak (Option.isNone d) (
Ap 0 [Ad none,Ah 1])<|
Ap 0 [Ad none,Ah 2])<|
Au T.a43 a0 0 λn3 n4=>
Aw F.a146 [Ad d,.string prefix_,Av n3 n4] λp5 n6=>
Af n6 λn7=>
Ak (n7 != 0) (
Af n7 λn8=>
Ap 0 [Ad none,Ah n8])<|
Ar T.a12 a0 2 λn9=>
Ab T.a31 (.agg #[Ad p5,Ad d,.string prefix_,Ah n9,Ad none,Ad none]) λa10=>
Aj 1 (
Ay F.a103 [Ax a10] λs11=>
Am F.a36 [Ad d,.string s11] λn12=>
Ak (decide (n12>0)) (
Ap 1 [.bool true])<|
Ay F.a103 [Ax a10] λs13=>
Ao F.a104 [Ad d,.string s13] λb14=>
Ap 1 [.bool b14]) λb15=>
Az 1 (
Ak b15 (
Ay F.a103 [Ax a10] λs16=>
Am F.a34 [Ad d,.string s16] λn17=>
Af n17 λn18=>
Ak (n18 != 0) (
Af n18 λn19=>
Ap 0 [Ad none,Ah n19])<|
Ap 1 [])<|
Ap 1 [])<|
Am F.a99 [Ax a10] λn20=>
Af n20 λn21=>
An F.a124 [Ad p5] λl22=>
Az 1 (
AA 2 (0,()) λn23=>
Ak (decide (n23<(Al l22))) (
.ex [.adr] (c1 λa24=>0<=n23/\n23<(Al l22)/\l22.a=some a24) (u1 λa25=>
AB T.a0 a25 (Int.toNat n23*7) λn26 n27 n28 n29 n30 n31 l32=>
AC T.a0 λa33=>
AD T.a0 a33 (Aa n26 n27 n28 n29 n30 n31 l32)<|
Ar T.a13 a33 0 λn34=>
Az 3 (
Ak (decide (n34>=n21)) (
Ac T.a0 a33 λn35 n36 n37 n38 n39 n40 l41=>
AE F.a102 [Ax a10,Aa n35 n36 n37 n38 n39 n40 l41]<|
Ap 3 [])<|
Ap 3 [])<|
Ap 2 [Ah (AF (n23+1))]))<|
Ap 1 [])<|
Ap 0 [Ax a10,Ah 0]
theorem zt0 (d:Option Addr) (prefix_:ByteArray) (c_0 c_1 c_2:Int):FnS (z05b d prefix_ c_0 c_1 c_2) F.a84 #[.pointer d,.string prefix_,.agg #[.int .i64 c_0,.int .i64 c_1,.int .i64 c_2]]:=dV ⟨[(18741891978888913616950,[]),(1083197534374707740536733770,[])],[(0,[])],[(9,[(54,.one .bool)])],[(0,[(67,.one (.int .i64))])]⟩ Go.Proofs.Tryz.func12 (by kernel_rfl)
def zxo (p:Option Addr) (pid epoch:Int) (commit:Bool) (time:Int):Prog :=
Ak (Option.isNone p) (
Ap 0 [Ah 0,.bool false,Ah 1])<|
AG F.a111 [Ah pid,Ah epoch,.bool commit,Ah time] λn0 n1 n2 n3 n4 n5 l6=>
Ae F.a100 [Ad p,Aa n0 n1 n2 n3 n4 n5 l6] λn7 b8 n9=>
Af n7 λn10=>
Ag b8 λb11=>
Af n9 λn12=>
Ap 0 [Ah n10,.bool b11,Ah n12]
theorem zfw (p:Option Addr) (pid epoch:Int) (commit:Bool) (time:Int):FnS (zxo p pid epoch commit time) F.a91 #[.pointer p,.int .i64 pid,.int .i64 epoch,.bool commit,.int .i64 time]:=dV ⟨[],[],[],[]⟩ Go.Proofs.Tryz.func14 (by kernel_rfl)
def zxm (p:Option Addr) (b_0 b_1 b_2 b_3 b_4 b_5:Int) (b_6:Sl):Prog :=
Ab T.a0 (Aa b_0 b_1 b_2 b_3 b_4 b_5 b_6) λa0=>
AH (Option.isNone p) (
Ap 0 [Ah 0,.bool false,Ah 1])<|
Ac T.a0 a0 λn2 n3 n4 n5 n6 n7 l8=>
Ao F.a105 [Aa n2 n3 n4 n5 n6 n7 l8] λb9=>
AH b9 (
Ap 0 [Ah 0,.bool false,Ah 2])<|
Ac T.a0 a0 λn11 n12 n13 n14 n15 n16 l17=>
Ae F.a100 [Ad p,Aa n11 n12 n13 n14 n15 n16 l17] λn18 b19 n20=>
Af n18 λn21=>
Ag b19 λb22=>
Af n20 λn23=>
Ap 0 [Ah n21,.bool b22,Ah n23]
theorem zfu (p:Option Addr) (b_0 b_1 b_2 b_3 b_4 b_5:Int) (b_6:Sl):FnS (zxm p b_0 b_1 b_2 b_3 b_4 b_5 b_6) F.a85 #[.pointer p,.agg #[.int .i64 b_0,.int .i64 b_1,.int .i64 b_2,.int .i64 b_3,.int .i64 b_4,.int .i64 b_5,.slice b_6.a b_6.len b_6.cap]]:=dV ⟨[],[],[],[]⟩ Go.Proofs.Tryz.func15 (by kernel_rfl)
def zxq (p:Option Addr) (offset most:Int) (committed:Bool):Prog :=
Ak (Option.isNone p) (
Ap 0 [.slice none 0 0,Ah 0,Ah 1])<|
AI p λa1=>
AJ T.a28 (Addr.add a1 0) 0 λp2=>
AK F.a128 [Ad p2,Ah offset,Ah most] λl3 n4=>
Af n4 λn5=>
Ak (n5 != 0) (
Af n5 λn6=>
Ap 0 [.slice none 0 0,Ah 0,Ah n6])<|
Af offset λn7=>
.bind 1 [.one .slc,.one (.int .i64)] (
.loop 2 [.one .slc,.one (.int .i64),.one (.int .i64)] (⟨none,0,0⟩,(n7,(0,()))) (u3 λl8 (n9 n10:Int)=>
Ak (decide (n10<(Al l3))) (
.ex [.adr] (c1 λa11=>0<=n10/\n10<(Al l3)/\l3.a=some a11) (u1 λa12=>
AB T.a0 a12 (Int.toNat n10*7) λn13 n14 n15 n16 n17 n18 l19=>
AC T.a0 λa20=>
AD T.a0 a20 (Aa n13 n14 n15 n16 n17 n18 l19)<|
Aj 3 (
AL<|
AM (committed=true) T.a13 a20 0 λn21=>
Ak committed (
Am F.a95 [Ad p] λn22=>
AN<|
Ap 3 [.bool (decide (n21>=n22))])<|
AN<|
Ap 3 [.bool false]) λb23=>
Ak b23 (
Ap 1 [l8.v,Ah n9])<|
Aj 3 (
AL<|
AO (not committed=false) p λa25=>
.read (not committed=false) (ld T.a27 (Addr.add a25 5)) sP (u1 λp26=>
AP (not committed=false) T.a0 a20 λn27 n28 n29 n30 n31 n32 l33=>
Ak (not committed) (
AN<|
Ap 3 [.bool true])<|
Am F.a63 [Ad p26,Aa n27 n28 n29 n30 n31 n32 l33] λn34=>
AN<|
Ap 3 [.bool (n34 == 1)])) λb35=>
AQ 3 (
Ak b35 (
Ac T.a0 a20 λn36 n37 n38 n39 n40 n41 l42=>
AR (Instr.buildSlice T.a33 1 #[(0,Aa n36 n37 n38 n39 n40 n41 l42)]) λl43=>
An F.a109 [l43.v] λl44=>
AR (app T.a39 T.a39 T.a39 l8.v l44.v) λl45=>
Ap 3 [l45.v])<|
Ap 3 [l8.v]) λl46=>
Ac T.a0 a20 λn47 n48 n49 n50 n51 n52 l53=>
Am F.a112 [Aa n47 n48 n49 n50 n51 n52 l53] λn54=>
Af n54 λn55=>
Ap 2 [l46.v,Ah n55,Ah (AF (n10+1))]))<|
Ap 1 [l8.v,Ah n9])) (u2 λl56 (n57:Int)=>
Af n57 λn58=>
Ap 0 [l56.v,Ah n58,Ah 0])
theorem zfy (p:Option Addr) (offset most:Int) (committed:Bool):FnS (zxq p offset most committed) F.a93 #[.pointer p,.int .i64 offset,.int .i64 most,.bool committed]:=dV ⟨[(73196680484479534366778,[(13,.one .slc)])],[(0,[(13,.one .slc),(14,.one (.int .i64))])],[(11,[(47,.one .bool)]),(12,[(58,.one .bool)])],[(0,[(13,.one .slc),(14,.one (.int .i64)),(36,.one (.int .i64))])]⟩ Go.Proofs.Tryz.func16 (by kernel_rfl)
def z05d (p:Option Addr):Prog :=
Ak (Option.isNone p) (
Ap 0 [.slice none 0 0])<|
AI p λa1=>
AJ T.a28 (Addr.add a1 0) 0 λp2=>
An F.a124 [Ad p2] λl3=>
Ap 0 [l3.v]
theorem zt2 (p:Option Addr):FnS (z05d p) F.a87 #[.pointer p]:=dV ⟨[],[],[],[]⟩ Go.Proofs.Tryz.func17 (by kernel_rfl)
def zxr (p:Option Addr):Prog :=
Ak (Option.isNone p) (
Ap 0 [Ah 0])<|
AI p λa1=>
AJ T.a27 a1 5 λp2=>
An F.a67 [Ad p2] λl3=>
Ak ((Al l3) == 0) (
Am F.a92 [Ad p] λn4=>
Af n4 λn5=>
Ap 0 [Ah n5])<|
AI p λa7=>
AJ T.a27 a7 5 λp8=>
Am F.a69 [Ad p8] λn9=>
Am F.a90 [Ad p] λn10=>
Af (if n10>n9 then n10 else n9) λn11=>
Ap 0 [Ah n11]
theorem zfz (p:Option Addr):FnS (zxr p) F.a95 #[.pointer p]:=dV ⟨[],[],[],[]⟩ Go.Proofs.Tryz.func18 (by kernel_rfl)
def z7x  : Prog :=
.call F.a42 [.int .i64 10000] (.tup [.one .ptr,.one (.int .i64)]) (u2 λp0 (n1:Int) =>
.lt (.int .i64) (n1) λ(n2:Int) =>
.call F.a84 [.pointer p0,.string (ByteArray.mk #[112]),.agg #[.int .i64 100,.int .i64 9,.int .i64 4]] (.tup [.one .ptr,.one (.int .i64)]) (u2 λp3 (n4:Int) =>
.lt (.int .i64) (n4) λ(n5:Int) =>
.ite (n5 != 0 || Option.isNone p3) (
.done 0 [.bool false]) (
.act (Instr.buildSlice T.a34 1 #[(0,.agg #[.string (ByteArray.mk #[107]),.string (ByteArray.mk #[]),.bool false,.int .i64 0])]) sL (u1 λl6 =>
.act (new T.a0) sA (u1 λa7 =>
.actU (st T.a0 a7 (.agg #[.int .i64 0,.int .i64 3,.int .i64 0,.int .i64 0,.int .i64 1,.int .i64 0,l6.v])) <|
.read True (ld T.a0 a7) (sG [.int .i64,.int .i64,.int .i64,.int .i64,.int .i64,.int .i64,.slc]) (u7 λ(n8 n9 n10 n11 n12 n13:Int) l14 =>
.call F.a85 [.pointer p3,.agg #[.int .i64 n8,.int .i64 n9,.int .i64 n10,.int .i64 n11,.int .i64 n12,.int .i64 n13,l14.v]] (.tup [.one (.int .i64),.one .bool,.one (.int .i64)]) (u3 λ(n15:Int) b16 (n17:Int) =>
.lt (.int .i64) (n15) λ(n18:Int) =>
.lt (.bool) (b16) λb19 =>
.lt (.int .i64) (n17) λ(n20:Int) =>
.read True (ld T.a0 a7) (sG [.int .i64,.int .i64,.int .i64,.int .i64,.int .i64,.int .i64,.slc]) (u7 λ(n21 n22 n23 n24 n25 n26:Int) l27 =>
.call F.a85 [.pointer p3,.agg #[.int .i64 n21,.int .i64 n22,.int .i64 n23,.int .i64 n24,.int .i64 n25,.int .i64 n26,l27.v]] (.tup [.one (.int .i64),.one .bool,.one (.int .i64)]) (u3 λ(n28:Int) b29 (n30:Int) =>
.lt (.int .i64) (n28) λ(n31:Int) =>
.lt (.bool) (b29) λb32 =>
.lt (.int .i64) (n30) λ(n33:Int) =>
.call F.a93 [.pointer p3,.int .i64 0,.int .i64 9,.bool true] (.tup [.one .slc,.one (.int .i64),.one (.int .i64)]) (u3 λl34 (n35 n36:Int) =>
.lt (.int .i64) (n35) λ(n37:Int) =>
.lt (.int .i64) (n36) λ(n38:Int) =>
.call F.a93 [.pointer p3,.int .i64 0,.int .i64 9,.bool false] (.tup [.one .slc,.one (.int .i64),.one (.int .i64)]) (u3 λl39 (n40 n41:Int) =>
.lt (.int .i64) (n40) λ(n42:Int) =>
.lt (.int .i64) (n41) λ(n43:Int) =>
.call F.a91 [.pointer p3,.int .i64 3,.int .i64 0,.bool true,.int .i64 0] (.tup [.one (.int .i64),.one .bool,.one (.int .i64)]) (u3 λ(n44:Int) b45 (n46:Int) =>
.lt (.int .i64) (n44) λ(n47:Int) =>
.lt (.bool) (b45) λb48 =>
.lt (.int .i64) (n46) λ(n49:Int) =>
.call F.a93 [.pointer p3,.int .i64 0,.int .i64 9,.bool true] (.tup [.one .slc,.one (.int .i64),.one (.int .i64)]) (u3 λl50 (n51 n52:Int) =>
.lt (.int .i64) (n51) λ(n53:Int) =>
.lt (.int .i64) (n52) λ(n54:Int) =>
.lt (.bool) (n18 == 0 && not b19 && n20 == 0 && n31 == 0 && b32 && n33 == 0 && ((l34.len:Nat):Int) == 0 && n37 == 0 && ((l39.len:Nat):Int) == 1 && n42 == 1 && n47 == 1 && n49 == 0 && ((l50.len:Nat):Int) == 1 && n53 == 2) λb55 =>
.done 0 [.bool b55])))))))))))))
theorem z91 :FnS (z7x ) F.a218 #[]:=dV ⟨[],[],[],[]⟩ Go.Proofs.Tryz.func20 (by kernel_rfl)
def zxp (p:Option Addr):Prog :=
Ak (Option.isNone p) (
Ap 0 [Ah 0])<|
AI p λa1=>
AJ T.a28 (Addr.add a1 0) 0 λp2=>
Am F.a127 [Ad p2] λn3=>
Af n3 λn4=>
Ap 0 [Ah n4]
theorem zfx (p:Option Addr):FnS (zxp p) F.a92 #[.pointer p]:=dV ⟨[],[],[],[]⟩ Go.Proofs.Tryz.func28 (by kernel_rfl)
def z05e (p:Option Addr) (horizon:Int):Prog :=
Ak (Option.isNone p) (
Ap 0 [Ah 0,Ah 1])<|
Am F.a97 [Ad p] λn0=>
Af n0 λn1=>
Ak (n1 == 0) (
Ap 0 [Ah 0,Ah 0])<|
Am F.a94 [Ad p] λn2=>
Af n2 λn3=>
Ak (n3 != 0) (
Af n3 λn4=>
Ap 0 [Ah 0,Ah n4])<|
AI p λa6=>
AJ T.a28 (Addr.add a6 0) 0 λp7=>
An F.a124 [Ad p7] λl8=>
.bind 1 [.one (.int .i64),.one .slc] (
.loop 2 [.one (.int .i64),.one .slc,.one (.int .i64)] (0,(⟨none,0,0⟩,(0,()))) (u3 λ(n9:Int) l10 (n11:Int)=>
Ak (decide (n11<(Al l8))) (
.ex [.adr] (c1 λa12=>0<=n11/\n11<(Al l8)/\l8.a=some a12) (u1 λa13=>
AB T.a0 a13 (Int.toNat n11*7) λn14 n15 n16 n17 n18 n19 l20=>
AC T.a0 λa21=>
AD T.a0 a21 (Aa n14 n15 n16 n17 n18 n19 l20)<|
Ar T.a13 a21 0 λn22=>
Ak (decide (n22>=n1)) (
Ap 1 [Ah n9,l10.v])<|
AS T.a34 a21 6 λl23=>
Af (AF (n9+(Al l23))) λn24=>
AL<|
AI p λa26=>
AJ T.a27 a26 5 λp27=>
Ac T.a0 a21 λn28 n29 n30 n31 n32 n33 l34=>
Am F.a63 [Ad p27,Aa n28 n29 n30 n31 n32 n33 l34] λn35=>
AN<|
AQ 3 (
Ak (n35 == 1) (
Ac T.a0 a21 λn36 n37 n38 n39 n40 n41 l42=>
AR (Instr.buildSlice T.a33 1 #[(0,Aa n36 n37 n38 n39 n40 n41 l42)]) λl43=>
An F.a109 [l43.v] λl44=>
AR (app T.a39 T.a39 T.a39 l10.v l44.v) λl45=>
Ap 3 [l45.v])<|
Ap 3 [l10.v]) λl46=>
Ap 2 [Ah n24,l46.v,Ah (AF (n11+1))]))<|
Ap 1 [Ah n9,l10.v])) (u2 λ(n47:Int) l48=>
An F.a6 [Ah horizon,l48.v] λl49=>
AK F.a7 [l49.v] λl50 n51=>
Af n51 λn52=>
Ak (n52 != 0) (
Af n52 λn53=>
Ap 0 [Ah 0,Ah n53])<|
AI p λa55=>
AJ T.a28 (Addr.add a55 0) 0 λp56=>
Am F.a131 [Ad p56,Ah n1,l50.v] λn57=>
Af n57 λn58=>
Ak (n58 != 0) (
Af n58 λn59=>
Ap 0 [Ah 0,Ah n59])<|
AI p λa61=>
AJ T.a27 a61 5 λp62=>
Am F.a64 [Ad p62,Ah n1] λn63=>
Af (AF (n47-(Al l49))) λn64=>
Ap 0 [Ah n64,Ah 0])
theorem zt3 (p:Option Addr) (horizon:Int):FnS (z05e p horizon) F.a88 #[.pointer p,.int .i64 horizon]:=dV ⟨[(9297159013149632888886,[(9,.one .slc)])],[(0,[(8,.one (.int .i64)),(9,.one .slc)])],[],[(0,[(8,.one (.int .i64)),(9,.one .slc),(35,.one (.int .i64))])]⟩ Go.Proofs.Tryz.func30 (by kernel_rfl)
def z05c (p:Option Addr) (b_0 b_1 b_2 b_3 b_4 b_5:Int) (b_6:Sl):Prog :=
Ab T.a0 (Aa b_0 b_1 b_2 b_3 b_4 b_5 b_6) λa0=>
Ak (Option.isNone p) (
Ap 0 [.bool false,Ah 1])<|
Am F.a92 [Ad p] λn1=>
AT T.a13 a0 0 (Ah n1)<|
Ac T.a0 a0 λn2 n3 n4 n5 n6 n7 l8=>
AU F.a96 [Ad p,Aa n2 n3 n4 n5 n6 n7 l8] λb9 n10 n11=>
AC T.a6 λa12=>
AD T.a6 a12 (AV b9 n10)<|
Af n11 λn13=>
AW T.a3 a12 0 λb14=>
Ag b14 λb15=>
Af n13 λn16=>
Ap 0 [.bool b15,Ah n16]
theorem zt1 (p:Option Addr) (b_0 b_1 b_2 b_3 b_4 b_5:Int) (b_6:Sl):FnS (z05c p b_0 b_1 b_2 b_3 b_4 b_5 b_6) F.a86 #[.pointer p,.agg #[.int .i64 b_0,.int .i64 b_1,.int .i64 b_2,.int .i64 b_3,.int .i64 b_4,.int .i64 b_5,.slice b_6.a b_6.len b_6.cap]]:=dV ⟨[],[],[],[]⟩ Go.Proofs.Tryz.func33 (by kernel_rfl)
def z05f (p:Option Addr) (time:Int):Prog :=
Ak (Option.isNone p) (
Ap 0 [Ah 0,Ah 1])<|
AI p λa1=>
AJ T.a23 a1 4 λp2=>
AX F.a16 [Ad p2] λp3=>
An F.a17 [Ad p3,Ah time] λl4=>
Am F.a98 [Ad p,Ad p3] λn5=>
Af n5 λn6=>
Ak (n6 != 0) (
Af n6 λn7=>
Ap 0 [Ah 0,Ah n7])<|
AI p λa9=>
AT T.a23 a9 4 (Ad p3)<|
Af (Al l4) λn10=>
Ap 0 [Ah n10,Ah 0]
theorem zt4 (p:Option Addr) (time:Int):FnS (z05f p time) F.a89 #[.pointer p,.int .i64 time]:=dV ⟨[],[],[],[]⟩ Go.Proofs.Tryz.func34 (by kernel_rfl)
def z05g (p:Option Addr):Prog :=
Ak (Option.isNone p) (
Ap 0 [Ah 1])<|
AI p λa1=>
AJ T.a23 a1 4 λp2=>
Am F.a98 [Ad p,Ad p2] λn3=>
Af n3 λn4=>
Ap 0 [Ah n4]
theorem zt5 (p:Option Addr):FnS (z05g p) F.a94 #[.pointer p]:=dV ⟨[],[],[],[]⟩ Go.Proofs.Tryz.func35 (by kernel_rfl)
def zxn (p:Option Addr):Prog :=
Ak (Option.isNone p) (
Ap 0 [Ah 0])<|
AI p λa1=>
AJ T.a28 (Addr.add a1 0) 0 λp2=>
Am F.a126 [Ad p2] λn3=>
Af n3 λn4=>
Ap 0 [Ah n4]
theorem zfv (p:Option Addr):FnS (zxn p) F.a90 #[.pointer p]:=dV ⟨[],[],[],[]⟩ Go.Proofs.Tryz.func36 (by kernel_rfl)
def zyb (p:Option Addr):Prog :=
AI p λa1=>
AY T.a47 (Addr.add a1 0) 2 λs2=>
.must (((ByteArray.size s2+4:Nat):Int)<=9223372036854775807) <|
AZ (s2++(ByteArray.mk #[46,116,109,112])) λs3=>
Ap 0 [.string s3]
theorem zly (p:Option Addr):FnS (zyb p) F.a103 #[.pointer p]:=dV ⟨[],[],[],[]⟩ Go.Proofs.Tryz.func42 (by kernel_rfl)
def zyc (d:Option Addr) (name:ByteArray):Prog :=
AK F.a33 [Ad d,.string name] λl0 n1=>
Af n1 λn2=>
Ag (n2 == 0) λb3=>
Ap 0 [.bool b3]
theorem zlz (d:Option Addr) (name:ByteArray):FnS (zyc d name) F.a104 #[.pointer d,.string name]:=dV ⟨[],[],[],[]⟩ Go.Proofs.Tryz.func43 (by kernel_rfl)
def zy7 (p:Option Addr):Prog :=
AI p λa1=>
Ar T.a12 a1 3 λn2=>
Aw F.a12 [Ah n2] λp3 n4=>
AI p λa6=>
AT T.a23 a6 4 (Ad p3)<|
AX F.a59 [] λp7=>
AI p λa9=>
AT T.a27 a9 5 (Ad p7)<|
AQ 1 (
AL<|
AI p λa11=>
Ba T.a24 (Addr.add a11 0) 1 λp12=>
Ay F.a101 [Ad p] λs13=>
AN<|
AK F.a33 [Ad p12,.string s13] λl14 n15=>
Af n15 λn16=>
AN<|
Ap 1 [l14.v]) λl17=>
Bb F.a46 [l17.v] λl18 b19=>
Ag b19 λb20=>
Ak (not b20) (
Ap 0 [Ah 0])<|
AX F.a222 [l18.v] λp21=>
Bc F.a229 [Ad p21] λn22=>
Ay F.a228 [Ad p21,Ah 262144] λs23=>
Ay F.a228 [Ad p21,Ah 262144] λs24=>
Bd n22 λn25=>
AZ s23 λs26=>
AZ s24 λs27=>
Aj 1 (
Am F.a224 [Ad p21] λn28=>
Ak (n28 != 0) (
Ap 1 [.bool true])<|
Am F.a92 [Ad p] λn29=>
Ak (decide (n25>IntKind.wrap .u64 n29)) (
Ap 1 [.bool true])<|
Am F.a90 [Ad p] λn30=>
Ap 1 [.bool (decide (AF n25<n30))]) λb31=>
Ak b31 (
Ap 0 [Ah 0])<|
AR (convert T.a47 T.a42 (.string s26)) λl32=>
AI p λa34=>
Ar T.a12 a34 3 λn35=>
Aw F.a11 [l32.v,Ah n35] λp36 n37=>
Af n37 λn38=>
Aj 1 (
Ak (n38 != 0) (
Ap 1 [.bool true])<|
Am F.a19 [Ad p36] λn39=>
Ap 1 [.bool (decide (n39>AF n25))]) λb40=>
Ak b40 (
Ap 0 [Ah 0])<|
AR (convert T.a47 T.a42 (.string s27)) λl41=>
Aw F.a58 [l41.v] λp42 n43=>
Af n43 λn44=>
Aj 1 (
Ak (n44 != 0) (
Ap 1 [.bool true])<|
Am F.a66 [Ad p42] λn45=>
Ap 1 [.bool (decide (n45>AF n25))]) λb46=>
Ak b46 (
Ap 0 [Ah 0])<|
AI p λa48=>
AT T.a23 a48 4 (Ad p36)<|
AI p λa50=>
AT T.a27 a50 5 (Ad p42)<|
Af (AF n25) λn51=>
Ap 0 [Ah n51]
theorem zlu (p:Option Addr):FnS (zy7 p) F.a99 #[.pointer p]:=dV ⟨[],[],[(3,[(3,.one .slc)]),(9,[(71,.one .bool)]),(12,[(90,.one .bool)]),(15,[(105,.one .bool)])],[]⟩ Go.Proofs.Tryz.func45 (by kernel_rfl)
def zya (p:Option Addr) (b_0 b_1 b_2 b_3 b_4 b_5:Int) (b_6:Sl):Prog :=
Ab T.a0 (Aa b_0 b_1 b_2 b_3 b_4 b_5 b_6) λa0=>
AL<|
AI p λa2=>
AJ T.a23 a2 4 λp3=>
Ac T.a0 a0 λn4 n5 n6 n7 n8 n9 l10=>
Am F.a21 [Ad p3,Aa n4 n5 n6 n7 n8 n9 l10] λn11=>
AN<|
AL<|
AI p λa13=>
AJ T.a27 a13 5 λp14=>
Ac T.a0 a0 λn15 n16 n17 n18 n19 n20 l21=>
Am F.a70 [Ad p14,Aa n15 n16 n17 n18 n19 n20 l21] λn22=>
AN<|
Ap 0 []
theorem zlx (p:Option Addr) (b_0 b_1 b_2 b_3 b_4 b_5:Int) (b_6:Sl):FnS (zya p b_0 b_1 b_2 b_3 b_4 b_5 b_6) F.a102 #[.pointer p,.agg #[.int .i64 b_0,.int .i64 b_1,.int .i64 b_2,.int .i64 b_3,.int .i64 b_4,.int .i64 b_5,.slice b_6.a b_6.len b_6.cap]]:=dV ⟨[],[],[],[]⟩ Go.Proofs.Tryz.func47 (by kernel_rfl)
def zy8 (p:Option Addr) (b_0 b_1 b_2 b_3 b_4 b_5:Int) (b_6:Sl):Prog :=
Ab T.a0 (Aa b_0 b_1 b_2 b_3 b_4 b_5 b_6) λa0=>
Am F.a92 [Ad p] λn1=>
AT T.a13 a0 0 (Ah n1)<|
Ac T.a0 a0 λn2 n3 n4 n5 n6 n7 l8=>
AU F.a96 [Ad p,Aa n2 n3 n4 n5 n6 n7 l8] λb9 n10 n11=>
AC T.a6 λa12=>
AD T.a6 a12 (AV b9 n10)<|
Af n11 λn13=>
Be ((n13 != 0)=false) T.a3 a12 0 λb14=>
Ak (n13 != 0 || b14) (
AL<|
Ar T.a13 a12 1 λn15=>
AW T.a3 a12 0 λb16=>
Af n15 λn17=>
Ag b16 λb18=>
Af n13 λn19=>
AN<|
Ap 0 [Ah n17,.bool b18,Ah n19])<|
Bf 1 (
AL<|
AI p λa21=>
Ba T.a28 (Addr.add a21 0) 0 λp22=>
Ac T.a0 a0 λn23 n24 n25 n26 n27 n28 l29=>
AR (Instr.buildSlice T.a33 1 #[(0,Aa n23 n24 n25 n26 n27 n28 l29)]) λl30=>
AN<|
Ai F.a125 [Ad p22,l30.v] λn31 n32=>
Af n31 λn33=>
Af n32 λn34=>
AN<|
Ap 1 [Ah n34,Ah n33]) λn35 n36=>
Bg 1 (
Ak (n35 == 0) (
AI p λa38=>
AJ T.a28 (Addr.add a38 0) 0 λp39=>
Am F.a133 [Ad p39] λn40=>
Af n40 λn41=>
Ap 1 [Ah n41])<|
Ap 1 [Ah n35]) λn42=>
Ak (n42 != 0) (
Af n42 λn43=>
Ap 0 [Ah 0,.bool false,Ah n43])<|
AT T.a13 a0 0 (Ah n36)<|
Ac T.a0 a0 λn44 n45 n46 n47 n48 n49 l50=>
AG F.a106 [Aa n44 n45 n46 n47 n48 n49 l50] λn51 n52 n53 n54 n55 n56 l57=>
AE F.a102 [Ad p,Aa n51 n52 n53 n54 n55 n56 l57]<|
Af n36 λn58=>
Ap 0 [Ah n58,.bool false,Ah 0]
theorem zlv (p:Option Addr) (b_0 b_1 b_2 b_3 b_4 b_5:Int) (b_6:Sl):FnS (zy8 p b_0 b_1 b_2 b_3 b_4 b_5 b_6) F.a100 #[.pointer p,.agg #[.int .i64 b_0,.int .i64 b_1,.int .i64 b_2,.int .i64 b_3,.int .i64 b_4,.int .i64 b_5,.slice b_6.a b_6.len b_6.cap]]:=dV ⟨[(2269814212195778602,[(8,.one (.int .i64))])],[],[(5,[(8,.one (.int .i64)),(9,.one (.int .i64))])],[]⟩ Go.Proofs.Tryz.func48 (by kernel_rfl)
def zyd (b_0 b_1 b_2 b_3 b_4 b_5:Int) (b_6:Sl):Prog :=
Ab T.a0 (Aa b_0 b_1 b_2 b_3 b_4 b_5 b_6) λa0=>
Ar T.a12 a0 4 λn1=>
As ((n1 == 2)=false) T.a12 a0 4 λn2=>
Ag (n1 == 2 || n2 == 3) λb3=>
Ap 0 [.bool b3]
theorem zm0 (b_0 b_1 b_2 b_3 b_4 b_5:Int) (b_6:Sl):FnS (zyd b_0 b_1 b_2 b_3 b_4 b_5 b_6) F.a105 #[.agg #[.int .i64 b_0,.int .i64 b_1,.int .i64 b_2,.int .i64 b_3,.int .i64 b_4,.int .i64 b_5,.slice b_6.a b_6.len b_6.cap]]:=dV ⟨[],[],[],[]⟩ Go.Proofs.Tryz.func50 (by kernel_rfl)
def z054 (v:Option Addr) (b_0 b_1 b_2 b_3 b_4 b_5:Int) (b_6:Sl):Prog :=
Ab T.a0 (Aa b_0 b_1 b_2 b_3 b_4 b_5 b_6) λa0=>
Ak (Option.isNone v) (
Ap 0 [Ah 0])<|
Bh 1 (
AL<|
AI v λa2=>
Bi T.a20 a2 2 λm3=>
Bj T.a13 a0 1 λn4=>
Bj T.a12 a0 2 λn5=>
Bk (Instr.lookup T.a20 (.map m3) (Av n4 n5) true) λn6 n7 n8 n9 b10=>
AC T.a17 λa11=>
AN<|
AD T.a17 a11 (Bl n6 n7 n8 n9)<|
Ag b10 λb12=>
AN<|
Ap 1 [Ax a11,.bool b12]) λa13 b14=>
Ac T.a0 a0 λn15 n16 n17 n18 n19 n20 l21=>
Ao F.a75 [Aa n15 n16 n17 n18 n19 n20 l21] λb22=>
AH b22 (
Ap 0 [Ah 3])<|
AL<|
Bj T.a13 a0 0 λn24=>
Am F.a69 [Ad v] λn25=>
Ag (decide (n24>=n25)) λb26=>
AN<|
Ak b26 (
Ap 0 [Ah 0])<|
Ar T.a12 a0 4 λn27=>
As ((n27 == 1 && b14)=true) T.a13 a0 0 λn28=>
As ((n27 == 1 && b14)=true) T.a13 a13 2 λn29=>
AH (n27 == 1 && b14 && decide (n28>=n29)) (
Ap 0 [Ah 2])<|
Ap 0 [Ah 1]
theorem zsr (v:Option Addr) (b_0 b_1 b_2 b_3 b_4 b_5:Int) (b_6:Sl):FnS (z054 v b_0 b_1 b_2 b_3 b_4 b_5 b_6) F.a63 #[.pointer v,.agg #[.int .i64 b_0,.int .i64 b_1,.int .i64 b_2,.int .i64 b_3,.int .i64 b_4,.int .i64 b_5,.slice b_6.a b_6.len b_6.cap]]:=dV ⟨[],[],[(3,[(5,.one .adr),(6,.one .bool)])],[]⟩ Go.Proofs.Tryz.func52 (by kernel_rfl)
def zxh (v:Option Addr):Prog :=
Ak (Option.isNone v) (
Ap 0 [.slice none 0 0])<|
AI v λa1=>
Bn T.a19 a1 1 λm2=>
Bo (Instr.range T.a19 (.map m2)) λa3=>
AQ 1 (
Bp 2 (⟨none,0,0⟩,()) λl4=>
.next (Instr.next (Ax a3) false T.a49) ([.one (.int .i64),.agg [.int .i64,.int .i64,.int .i64,.int .i64]]) (u5 λ(n5 n6 n7 n8 n9:Int)=>
.act (Instr.entry (Ax a3)) (.tup [.one (.int .i64),.agg [.int .i64,.int .i64,.int .i64,.int .i64]]) (u5 λ(n10 n11 n12 n13 n14:Int)=>
AC T.a17 λa15=>
AD T.a17 a15 (Bl n11 n12 n13 n14)<|
Bq T.a17 a15 λn16 n17 n18 n19=>
.call F.a74 [Bl n16 n17 n18 n19] (sG [.int .i64,.int .i64,.int .i64,.int .i64]) (u4 λ(n20 n21 n22 n23:Int)=>
AR (Instr.buildSlice T.a37 1 #[(0,Bl n20 n21 n22 n23)]) λl24=>
AR (app T.a37 T.a37 T.a37 l4.v l24.v) λl25=>
Ap 2 [l25.v]))) <|
Ap 1 [l4.v]) λl26=>
AE F.a158 [l26.v,.func (Fn.func 133) #[] #[]]<|
Ap 0 [l26.v]
theorem zst (v:Option Addr) {w:World} {R:List Value->World->Prop} (h:(zxh v).wp P (λ_=>True) w λe vs w'=>e=0/\R vs w') :
  Calls P F.a67 #[.pointer v] w λe w'=>∃ vs,e=.returned (z7e vs)/\R vs w' :=
 z8n (zg9 Go.Proofs.Tryz.func55 (by kernel_rfl) (by kernel_rfl) (by kernel_rfl)) zgf mix [.val (.pointer v)] (by rw [show zgv P 25 ⟨zge,[(13,[.one (.int .i64),.agg [.int .i64,.int .i64,.int .i64,.int .i64]]),(15,[.one (.int .i64),.agg [.int .i64,.int .i64,.int .i64,.int .i64]])]⟩ { cnd:=[],blk:=[(0,[(3,.one .slc)])],reg:=[],lps:=[(0,[(3,.one .slc)])] } [.tmp 2] (z9x Go.Proofs.Tryz.f55) [.val (.pointer v)]=zxh v from by kernel_rfl];exact h)
def zxi (v:Option Addr):Prog :=
Ak (Option.isNone v) (
Ap 0 [Ah 0])<|
AI v λa1=>
Ar T.a13 a1 0 λn2=>
Af n2 λn3=>
AI v λa5=>
Bn T.a19 a5 1 λm6=>
Bo (Instr.range T.a19 (.map m6)) λa7=>
Bg 1 (
AA 2 (n3,()) λn8=>
.next (Instr.next (Ax a7) false T.a49) ([.one (.int .i64),.agg [.int .i64,.int .i64,.int .i64,.int .i64]]) (u5 λ(n9 n10 n11 n12 n13:Int)=>
.act (Instr.entry (Ax a7)) (.tup [.one (.int .i64),.agg [.int .i64,.int .i64,.int .i64,.int .i64]]) (u5 λ(n14 n15 n16 n17 n18:Int)=>
AC T.a17 λa19=>
AD T.a17 a19 (Bl n15 n16 n17 n18)<|
Ar T.a13 a19 2 λn20=>
Af (if n20<n8 then n20 else n8) λn21=>
Ap 2 [Ah n21])) <|
Ap 1 [Ah n8]) λn22=>
Af n22 λn23=>
Ap 0 [Ah n23]
theorem zsv (v:Option Addr) {w:World} {R:List Value->World->Prop} (h:(zxi v).wp P (λ_=>True) w λe vs w'=>e=0/\R vs w') :
  Calls P F.a69 #[.pointer v] w λe w'=>∃ vs,e=.returned (z7e vs)/\R vs w' :=
 z8n (zg9 Go.Proofs.Tryz.func56 (by kernel_rfl) (by kernel_rfl) (by kernel_rfl)) zgf mix [.val (.pointer v)] (by rw [show zgv P 26 ⟨zge,[(17,[.one (.int .i64),.agg [.int .i64,.int .i64,.int .i64,.int .i64]]),(19,[.one (.int .i64),.agg [.int .i64,.int .i64,.int .i64,.int .i64]])]⟩ { cnd:=[],blk:=[(0,[(3,.one (.int .i64))])],reg:=[],lps:=[(0,[(3,.one (.int .i64))])] } [.tmp 2] (z9x Go.Proofs.Tryz.f56) [.val (.pointer v)]=zxi v from by kernel_rfl];exact h)
def z06n (p:Option Addr):Prog :=
AI p λa1=>
AJ T.a28 (Addr.add a1 0) 0 λp2=>
An F.a132 [Ad p2] λl3=>
Bg 1 (
Br 2 (0,(0,())) λn4 n5=>
Ak (decide (n5<(Al l3))) (
.ex [.adr] (c1 λa6=>0<=n5/\n5<(Al l3)/\l3.a=some a6) (u1 λa7=>
Ar T.a13 a7 (Int.toNat n5*1) λn8=>
Af n5 λn9=>
Af n8 λn10=>
Aj 3 (
Ak (decide (n9>0)) (
Am F.a95 [Ad p] λn11=>
Ap 3 [.bool (decide (n10<=n11))])<|
Ap 3 [.bool false]) λb12=>
Bg 3 (
Ak b12 (
Af n10 λn13=>
Ap 3 [Ah n13])<|
Ap 3 [Ah n4]) λn14=>
Ap 2 [Ah n14,Ah (AF (n5+1))]))<|
Ap 1 [Ah n4]) λn15=>
Af n15 λn16=>
Ap 0 [Ah n16]
def zf6 (horizon:Int) (l:Sl):Prog :=
.call F.a9 [l.v] sM (u1 λm0=>
AQ 1 (
Bs 2 (⟨none,0,0⟩,(0,())) λl1 n2=>
Ak (decide (n2<(Al l))) (
AQ 3 (
.ex [.adr] (c1 λa3=>0<=n2/\n2<(Al l)/\l.a=some a3) (u1 λa4=>
Bt T.a32 a4 (Int.toNat n2*5) λn5 s6 s7 b8 n9=>
AC T.a32 λa10=>
Af n2 λn11=>
AD T.a32 a10 (Bu n5 s6 s7 b8 n9)<|
AY T.a47 (Addr.add a10 1) 0 λs12=>
Bv (Instr.lookup T.a21 (.map m0) (.string s12) false) λn13=>
Be ((n13 != n11)=false) T.a3 (Addr.add a10 1) 2 λb14=>
As ((n13 != n11)=false/\b14=true) T.a13 (Addr.add a10 1) 3 λn15=>
Ak (n13 != n11 || b14 && decide (n15<horizon)) (
Ap 3 [l1.v])<|
.read True (ld T.a32 a10) (sG [.int .i64,.str,.str,.bool,.int .i64]) (u5 λ(n16:Int) s17 s18 b19 (n20:Int)=>
AR (Instr.buildSlice T.a39 1 #[(0,Bu n16 s17 s18 b19 n20)]) λl21=>
AR (app T.a39 T.a39 T.a39 l1.v l21.v) λl22=>
Ap 3 [l22.v]))) λl23=>
Ap 2 [l23.v,Ah (AF (n2+1))])<|
Ap 1 [l1.v]) λl24=>
Ap 0 [l24.v])
def zf7 (l:Sl):Prog :=
Aj 1 (
.ex [.adr] (c1 λa0=>decide ((Al l)>0)=true->(0:Int)<=0/\0<(Al l)/\l.a=some a0) (u1 λa1=>
As (decide ((Al l)>0)=true) T.a13 (Addr.add a1 0) 0 λn2=>
Ak (decide ((Al l)>0)) (
Ao F.a10 [Ah n2,l.v] λb3=>
Ap 1 [.bool (not b3)])<|
Ap 1 [.bool false])) λb4=>
Ak b4 (
Ap 0 [.slice none 0 0,Ah 8])<|
AC T.a0 λa5=>
AD T.a0 a5 (.agg #[Ah 0,Ah 0,Ah 0,Ah 0,Ah 0,Ah 0,.slice none 0 0])<|
AQ 1 (
Bs 2 (⟨none,0,0⟩,(0,())) λl6 n7=>
Ak (decide (n7<(Al l))) (
.ex [.adr] (c1 λa8=>0<=n7/\n7<(Al l)/\l.a=some a8) (u1 λa9=>
Bt T.a32 a9 (Int.toNat n7*5) λn10 s11 s12 b13 n14=>
AC T.a32 λa15=>
AD T.a32 a15 (Bu n10 s11 s12 b13 n14)<|
Ac T.a0 a5 λn16 n17 n18 n19 n20 n21 l22=>
.read True (ld T.a32 a15) (sG [.int .i64,.str,.str,.bool,.int .i64]) (u5 λ(n23:Int) s24 s25 b26 (n27:Int)=>
Ao F.a8 [Aa n16 n17 n18 n19 n20 n21 l22,Bu n23 s24 s25 b26 n27] λb28=>
AQ 3 (
Ak (not b28) (
AS T.a34 a5 6 λl29=>
AQ 4 (
Ak (decide ((Al l29)>0)) (
Ac T.a0 a5 λn30 n31 n32 n33 n34 n35 l36=>
AR (Instr.buildSlice T.a33 1 #[(0,Aa n30 n31 n32 n33 n34 n35 l36)]) λl37=>
AR (app T.a33 T.a33 T.a33 l6.v l37.v) λl38=>
Ap 4 [l38.v])<|
Ap 4 [l6.v]) λl39=>
Ar T.a13 a15 0 λn40=>
Ar T.a13 (Addr.add a15 1) 3 λn41=>
AD T.a0 a5 (.agg #[Ah n40,Ah 0,Ah 0,Ah 0,Ah 0,Ah n41,.slice none 0 0])<|
Ap 3 [l39.v])<|
Ap 3 [l6.v]) λl42=>
AS T.a34 a5 6 λl43=>
Bw T.a2 a15 1 λs44 s45 b46 n47=>
AR (Instr.buildSlice T.a34 1 #[(0,Bx s44 s45 b46 n47)]) λl48=>
AR (app T.a34 T.a34 T.a34 l43.v l48.v) λl49=>
AT T.a34 a5 6 l49.v<|
Ap 2 [l42.v,Ah (AF (n7+1))])))<|
Ap 1 [l6.v]) λl50=>
AS T.a34 a5 6 λl51=>
AQ 1 (
Ak (decide ((Al l51)>0)) (
Ac T.a0 a5 λn52 n53 n54 n55 n56 n57 l58=>
AR (Instr.buildSlice T.a33 1 #[(0,Aa n52 n53 n54 n55 n56 n57 l58)]) λl59=>
AR (app T.a33 T.a33 T.a33 l50.v l59.v) λl60=>
Ap 1 [l60.v])<|
Ap 1 [l50.v]) λl61=>
Az 1 (
AA 2 (0,()) λn62=>
Ak (decide (n62<(Al l61))) (
.ex [.adr] (c1 λa63=>0<=n62/\n62<(Al l61)/\l61.a=some a63) (u1 λa64=>
AB T.a0 a64 (Int.toNat n62*7) λn65 n66 n67 n68 n69 n70 l71=>
AC T.a0 λa72=>
AD T.a0 a72 (Aa n65 n66 n67 n68 n69 n70 l71)<|
Ac T.a0 a72 λn73 n74 n75 n76 n77 n78 l79=>
Am F.a114 [Aa n73 n74 n75 n76 n77 n78 l79] λn80=>
Af n80 λn81=>
Ak (n81 != 0) (
Af n81 λn82=>
Ap 0 [.slice none 0 0,Ah n82])<|
Ap 2 [Ah (AF (n62+1))]))<|
Ap 1 [])<|
Ap 0 [l61.v,Ah 0]
def z08c (v:Option Addr) (offset:Int):Prog :=
Ab T.a13 (Ah offset) λa0=>
Ak (Option.isNone v) (
Ap 0 [Ah 0])<|
AI v λa2=>
Bn T.a20 a2 2 λm3=>
Bv (Builtin.len_ #[T.a20] T.a12 #[.map m3]) λn4=>
Af n4 λn5=>
AI v λa7=>
Bn T.a20 a7 2 λm8=>
AE F.a79 [.map m8,.func (Fn.func 162) #[] #[Ax a0]]<|
AI v λa10=>
Bn T.a20 a10 2 λm11=>
Bv (Builtin.len_ #[T.a20] T.a12 #[.map m11]) λn12=>
Af (AF (n5-n12)) λn13=>
Ap 0 [Ah n13]
def zy6 (p:Option Addr) (b_0 b_1 b_2 b_3 b_4 b_5:Int) (b_6:Sl):Prog :=
Ab T.a0 (Aa b_0 b_1 b_2 b_3 b_4 b_5 b_6) λa0=>
AC T.a6 λa1=>
.bind 1 [.one .adr,.one (.int .i64)] (
AL<|
AI p λa3=>
Ba T.a23 a3 4 λp4=>
.hold True (ld T.a0 a0) (sG [.int .i64,.int .i64,.int .i64,.int .i64,.int .i64,.int .i64,.slc]) (u7 λ(n5 n6 n7 n8 n9 n10:Int) l11=>
.both (
AN<|
AU F.a18 [Ad p4,Aa n5 n6 n7 n8 n9 n10 l11] λb12 n13 n14=>
AC T.a6 λa15=>
AD T.a6 a15 (AV b12 n13)<|
Af n14 λn16=>
AN<|
Ap 1 [Ax a15,Ah n16]) <|
AC T.a6 λa17=>
AN<|
AU F.a18 [Ad p4,Aa n5 n6 n7 n8 n9 n10 l11] λb18 n19 n20=>
AD T.a6 a17 (AV b18 n19)<|
Af n20 λn21=>
AN<|
Ap 1 [Ax a17,Ah n21])) (u2 λa22 (n23:Int)=>
Be ((n23 != 0)=false) T.a3 a22 0 λb24=>
Ak (n23 != 0 || b24) (
By T.a6 a22 λb25 n26=>
AD T.a6 a1 (AV b25 n26)<|
Af n23 λn27=>
By T.a6 a1 λb28 n29=>
Ap 0 [AV b28 n29,Ah n27])<|
Bg 1 (
AL<|
.hold True (ld T.a6 a22) (sG [.bool,.int .i64]) (u2 λb30 (n31:Int)=>
AI p λa33=>
AJ T.a27 a33 5 λp34=>
Ac T.a0 a0 λn35 n36 n37 n38 n39 n40 l41=>
Am F.a65 [Ad p34,Aa n35 n36 n37 n38 n39 n40 l41] λn42=>
AN<|
AD T.a6 a1 (AV b30 n31)<|
Af n42 λn43=>
AN<|
Ap 1 [Ah n43])) λn44=>
By T.a6 a1 λb45 n46=>
Ap 0 [AV b45 n46,Ah n44])
theorem zlt (p:Option Addr) (b_0 b_1 b_2 b_3 b_4 b_5:Int) (b_6:Sl):FnS (zy6 p b_0 b_1 b_2 b_3 b_4 b_5 b_6) F.a96 #[.pointer p,.agg #[.int .i64 b_0,.int .i64 b_1,.int .i64 b_2,.int .i64 b_3,.int .i64 b_4,.int .i64 b_5,.slice b_6.a b_6.len b_6.cap]]:=dV ⟨[],[],[(1,[(6,.one .adr),(7,.one (.int .i64))]),(4,[(5,.one (.int .i64))])],[]⟩ Go.Proofs.Tryz.func83 (by kernel_rfl)
def z082 (t:Option Addr):Prog :=
Ak (Option.isNone t) (
Ap 0 [Ad none])<|
Bz 1 (
AL<|
AI t λa1=>
Bj T.a12 a1 0 λn2=>
AI t λa4=>
Bj T.a13 a4 1 λn5=>
AI t λa7=>
Bn T.a18 a7 2 λm8=>
.call F.a78 [.map m8] sM (u1 λm9=>
AN<|
Ab T.a5 (.agg #[Ah n2,Ah n5,.map m9]) λa10=>
AN<|
Ap 1 [Ax a10])) λp11=>
Ap 0 [Ad p11]
def z083 (t:Option Addr) (time:Int):Prog :=
Ak (Option.isNone t) (
Ap 0 [.slice none 0 0])<|
AI t λa1=>
Bn T.a18 a1 2 λm2=>
Bo (Instr.range T.a18 (.map m2)) λa3=>
AQ 1 (
Bp 2 (⟨none,0,0⟩,()) λl4=>
.next (Instr.next (Ax a3) false T.a49) ([.one (.int .i64),.agg [.int .i64,.int .i64,.int .i64,.int .i64,.int .i64,.int .i64,.int .i64]]) (u8 λ(n5 n6 n7 n8 n9 n10 n11 n12:Int)=>
.act (Instr.entry (Ax a3)) (.tup [.one (.int .i64),.agg [.int .i64,.int .i64,.int .i64,.int .i64,.int .i64,.int .i64,.int .i64]]) (u8 λ(n13 n14 n15 n16 n17 n18 n19 n20:Int)=>
AC T.a4 λa21=>
Af n13 λn22=>
AD T.a4 a21 (B0 n14 n15 n16 n17 n18 n19 n20)<|
B1 T.a4 a21 λn23 n24 n25 n26 n27 n28 n29=>
Ao F.a14 [B0 n23 n24 n25 n26 n27 n28 n29] λb30=>
As (not b30=true) T.a13 a21 6 λn31=>
AQ 3 (
Ak (not b30 && decide (n31<time)) (
AR (Instr.buildSlice T.a36 1 #[(0,Ah n22)]) λl32=>
AR (app T.a36 T.a36 T.a36 l4.v l32.v) λl33=>
Ap 3 [l33.v])<|
Ap 3 [l4.v]) λl34=>
Ap 2 [l34.v])) <|
Ap 1 [l4.v]) λl35=>
Az 1 (
AA 2 (0,()) λn36=>
Ak (decide (n36<(Al l35))) (
.ex [.adr] (c1 λa37=>0<=n36/\n36<(Al l35)/\l35.a=some a37) (u1 λa38=>
Ar T.a13 a38 (Int.toNat n36*1) λn39=>
Af n39 λn40=>
AI t λa42=>
Bn T.a18 a42 2 λm43=>
B2 (Builtin.delete_ #[T.a18,T.a13] T.a49 #[.map m43,Ah n40])<|
Ap 2 [Ah (AF (n36+1))]))<|
Ap 1 [])<|
AE F.a159 [l35.v]<|
Ap 0 [l35.v]
def z06o (p:Option Addr) (t:Option Addr):Prog :=
.bind 1 [.one .slc,.one .slc] (
AL<|
AI p λa1=>
Ba T.a27 a1 5 λp2=>
An F.a15 [Ad t] λl3=>
AN<|
An F.a60 [Ad p2] λl4=>
AN<|
Ap 1 [l3.v,l4.v]) (u2 λl5 l6=>
Ak (decide ((Al l5)>262144) || decide ((Al l6)>262144)) (
Ap 0 [Ah 7])<|
AQ 1 (
AL<|
.hold True (convert T.a42 T.a47 l5.v) sS (u1 λs7=>
.hold True (convert T.a42 T.a47 l6.v) sS (u1 λs8=>
Am F.a92 [Ad p] λn9=>
An F.a233 [.int .u64 (IntKind.wrap .u64 n9)] λl10=>
An F.a232 [.string s7] λl11=>
AN<|
An F.a232 [.string s8] λl12=>
AR (Instr.buildSlice T.a40 3 #[(0,l10.v),(1,l11.v),(2,l12.v)]) λl13=>
An F.a47 [l13.v] λl14=>
AN<|
Ap 1 [l14.v]))) λl15=>
Ak ((Al l15) == 0) (
Ap 0 [Ah 7])<|
Aj 1 (
AL<|
AI p λa17=>
Ba T.a24 (Addr.add a17 0) 1 λp18=>
Ay F.a103 [Ad p] λs19=>
AN<|
Ao F.a104 [Ad p18,.string s19] λb20=>
AN<|
Ap 1 [.bool b20]) λb21=>
Az 1 (
Ak b21 (
Bg 2 (
AL<|
AI p λa23=>
Ba T.a24 (Addr.add a23 0) 1 λp24=>
Ay F.a103 [Ad p] λs25=>
AN<|
Am F.a34 [Ad p24,.string s25] λn26=>
Af n26 λn27=>
AN<|
Ap 2 [Ah n27]) λn28=>
Ak (n28 != 0) (
Af n28 λn29=>
Ap 0 [Ah n29])<|
Ap 1 [])<|
Ap 1 [])<|
Bg 1 (
AL<|
AI p λa31=>
Ba T.a24 (Addr.add a31 0) 1 λp32=>
.both (
Ay F.a103 [Ad p] λs33=>
AR (Instr.buildSlice T.a40 1 #[(0,l15.v)]) λl34=>
AN<|
Am F.a28 [Ad p32,.string s33,l34.v] λn35=>
Af n35 λn36=>
AN<|
Ap 1 [Ah n36]) <|
AR (Instr.buildSlice T.a40 1 #[(0,l15.v)]) λl37=>
Ay F.a103 [Ad p] λs38=>
AN<|
Am F.a28 [Ad p32,.string s38,l37.v] λn39=>
Af n39 λn40=>
AN<|
Ap 1 [Ah n40]) λn41=>
Ak (n41 != 0) (
Af n41 λn42=>
Ap 0 [Ah n42])<|
Bg 1 (
AL<|
AI p λa44=>
Ba T.a24 (Addr.add a44 0) 1 λp45=>
Ay F.a103 [Ad p] λs46=>
AR (Instr.buildSlice T.a41 1 #[(0,.string s46)]) λl47=>
AN<|
Am F.a37 [Ad p45,l47.v] λn48=>
Af n48 λn49=>
AN<|
Ap 1 [Ah n49]) λn50=>
Ak (n50 != 0) (
Af n50 λn51=>
Ap 0 [Ah n51])<|
Bg 1 (
AL<|
AI p λa53=>
Ba T.a24 (Addr.add a53 0) 1 λp54=>
Ay F.a103 [Ad p] λs55=>
Ay F.a101 [Ad p] λs56=>
AN<|
Am F.a35 [Ad p54,.string s55,.string s56] λn57=>
Af n57 λn58=>
AN<|
Ap 1 [Ah n58]) λn59=>
Ap 0 [Ah n59])
def z042 (most:Int):Prog :=
Ak (decide (most<1) || decide (most>4096)) (
Ap 0 [Ad none,Ah 2])<|
B3 (Instr.makeMap T.a18 none) λm0=>
Ab T.a5 (.agg #[Ah most,Ah 0,.map m0]) λa1=>
Ap 0 [Ax a1,Ah 0]
theorem zrp (most:Int):FnS (z042 most) F.a12 #[.int .i64 most]:=dV ⟨[],[],[],[]⟩ Go.Proofs.Tryz.func104 (by kernel_rfl)
def zou  : Prog :=
.act (Instr.makeMap T.a19 none) sM (u1 λm0 =>
.act (Instr.makeMap T.a20 none) sM (u1 λm1 =>
.act (Instr.box T.a15 (.agg #[.int .i64 0,.map m0,.map m1])) sA (u1 λa2 =>
.done 0 [.pointer (some a2)])))
theorem zii :FnS (zou ) F.a59 #[]:=dV ⟨[],[],[],[]⟩ Go.Proofs.Tryz.func105 (by kernel_rfl)
def zy9 (p:Option Addr):Prog :=
AI p λa1=>
AY T.a47 (Addr.add a1 0) 2 λs2=>
.must (((ByteArray.size s2+5:Nat):Int)<=9223372036854775807) <|
AZ (s2++(ByteArray.mk #[46,115,110,97,112])) λs3=>
Ap 0 [.string s3]
theorem zlw (p:Option Addr):FnS (zy9 p) F.a101 #[.pointer p]:=dV ⟨[],[],[],[]⟩ Go.Proofs.Tryz.func106 (by kernel_rfl)
def z080 (raw:Sl) (most:Int):Prog :=
Aw F.a12 [Ah most] λp0 n1=>
Af n1 λn2=>
Ak (n2 != 0) (
Af n2 λn3=>
Ap 0 [Ad none,Ah n3])<|
Bb F.a46 [raw.v] λl4 b5=>
Ag b5 λb6=>
Ak (not b6) (
Ap 0 [Ad none,Ah 6])<|
AX F.a222 [l4.v] λp7=>
Am F.a27 [Ad p7,Ah 1099511627777] λn8=>
AI p0 λa10=>
AT T.a13 a10 1 (Ah n8)<|
Am F.a27 [Ad p7,Ah 4096] λn11=>
Af n11 λn12=>
AI p0 λa14=>
Ar T.a13 a14 1 λn15=>
Ak (decide (n15>1099511627777) || decide (n12>most)) (
Ap 0 [Ad none,Ah 6])<|
Az 1 (
Br 2 (0,(0,())) λn16 n17=>
Ak (decide (n17<n12)) (
Am F.a27 [Ad p7,Ah 1048576] λn18=>
Am F.a27 [Ad p7,Ah 32768] λn19=>
Am F.a27 [Ad p7,Ah 2147483647] λn20=>
Am F.a27 [Ad p7,Ah 64] λn21=>
Am F.a27 [Ad p7,Ah 1099511627776] λn22=>
Am F.a230 [Ad p7,Ah (-1),Ah 1099511627776] λn23=>
Am F.a27 [Ad p7,Ah 1099511627776] λn24=>
AC T.a4 λa25=>
AD T.a4 a25 (B0 n18 n19 n20 n21 n22 n23 n24)<|
Aj 3 (
AL<|
Am F.a225 [Ad p7] λn26=>
B4 ((n26 != 0)=false) T.a4 a25 λn27 n28 n29 n30 n31 n32 n33=>
AO ((n26 != 0)=false) p0 λa35=>
As ((n26 != 0)=false) T.a13 a35 1 λn36=>
Ak (n26 != 0) (
AN<|
Ap 3 [.bool true])<|
Ao F.a26 [B0 n27 n28 n29 n30 n31 n32 n33,Ah n36] λb37=>
As (not b37=false) T.a13 a25 0 λn38=>
AN<|
Ap 3 [.bool (not b37 || decide (n38<=n16))]) λb39=>
Ak b39 (
Ap 0 [Ad none,Ah 6])<|
AL<|
AI p0 λa41=>
Bn T.a18 a41 2 λm42=>
Ar T.a13 a25 0 λn43=>
B1 T.a4 a25 λn44 n45 n46 n47 n48 n49 n50=>
B5 (Instr.mapUpdate T.a18 (.map m42) (Ah n43) (B0 n44 n45 n46 n47 n48 n49 n50))<|
AN<|
Ar T.a13 a25 0 λn51=>
Af n51 λn52=>
Ap 2 [Ah n52,Ah (AF (n17+1))])<|
Ap 1 [])<|
Am F.a224 [Ad p7] λn53=>
Ak (n53 != 0) (
Ap 0 [Ad none,Ah 6])<|
Ap 0 [Ad p0,Ah 0]
def z084 (t:Option Addr):Prog :=
Ak (Option.isNone t) (
Ap 0 [Ah 0])<|
AI t λa1=>
Ar T.a13 a1 1 λn2=>
Af n2 λn3=>
Ap 0 [Ah n3]
def z089 (raw:Sl):Prog :=
Bb F.a46 [raw.v] λl0 b1=>
Ag b1 λb2=>
Ak (not b2) (
Ap 0 [Ad none,Ah 6])<|
AX F.a222 [l0.v] λp3=>
AX F.a59 [] λp4=>
Am F.a77 [Ad p3,Ah 1099511627777] λn5=>
AI p4 λa7=>
AT T.a13 a7 0 (Ah n5)<|
Aj 1 (
AI p4 λa9=>
Ar T.a13 a9 0 λn10=>
Ak (decide (n10>1099511627777)) (
Ap 1 [.bool true])<|
Ao F.a73 [Ad p4,Ad p3] λb11=>
Ak (not b11) (
Ap 1 [.bool true])<|
Ao F.a71 [Ad p4,Ad p3] λb12=>
Ak (not b12) (
Ap 1 [.bool true])<|
Am F.a224 [Ad p3] λn13=>
Ap 1 [.bool (n13 != 0)]) λb14=>
Ak b14 (
Ap 0 [Ad none,Ah 6])<|
Ap 0 [Ad p4,Ah 0]
def z08d (v:Option Addr):Prog :=
Ak (Option.isNone v) (
Ap 0 [Ah 0])<|
AI v λa1=>
Ar T.a13 a1 0 λn2=>
Af n2 λn3=>
Ap 0 [Ah n3]
def z046 (t:Option Addr) (b_0 b_1 b_2 b_3 b_4 b_5:Int) (b_6:Sl):Prog :=
Ab T.a0 (Aa b_0 b_1 b_2 b_3 b_4 b_5 b_6) λa0=>
Ac T.a0 a0 λn1 n2 n3 n4 n5 n6 l7=>
AU F.a18 [Ad t,Aa n1 n2 n3 n4 n5 n6 l7] λb8 n9 n10=>
AC T.a6 λa11=>
AD T.a6 a11 (AV b8 n9)<|
Af n10 λn12=>
AH (n12 != 0) (
Af n12 λn14=>
Ap 0 [Ah n14])<|
AW T.a3 a11 0 λb15=>
AH b15 (
Ap 0 [Ah 4])<|
AL<|
Ar T.a13 a0 0 λn17=>
AI t λa19=>
Ar T.a13 a19 1 λn20=>
Ag (decide (n17<n20)) λb21=>
AN<|
Ak b21 (
Ap 0 [Ah 8])<|
Ac T.a0 a0 λn22 n23 n24 n25 n26 n27 l28=>
Am F.a112 [Aa n22 n23 n24 n25 n26 n27 l28] λn29=>
AI t λa31=>
AT T.a13 a31 1 (Ah n29)<|
Ar T.a13 a0 1 λn32=>
Ak (n32 == 0) (
Ap 0 [Ah 0])<|
Ar T.a13 a0 1 λn33=>
.call F.a23 [Ad t,Ah n33] (.tup [.agg [.int .i64,.int .i64,.int .i64,.int .i64,.int .i64,.int .i64,.int .i64],.one .bool]) (u8 λ(n34 n35 n36 n37 n38 n39 n40:Int) b41=>
AC T.a4 λa42=>
AD T.a4 a42 (B0 n34 n35 n36 n37 n38 n39 n40)<|
Ag b41 λb43=>
Ar T.a13 a0 5 λn44=>
Af n44 λn45=>
Bg 1 (
Ak b43 (
Ar T.a13 a42 6 λn46=>
Af (if n46>n45 then n46 else n45) λn47=>
Ap 1 [Ah n47])<|
Ap 1 [Ah n45]) λn48=>
Ar T.a12 a0 4 λn49=>
Az 1 (
Az 2 (
Ag (n49 == 2) λb50=>
Aj 3 (
Ak b50 (
Ap 3 [.bool b50])<|
Ag (n49 == 3) λb51=>
Ap 3 [.bool b51]) λb52=>
Ak b52 (
AL<|
AI t λa54=>
Bn T.a18 a54 2 λm55=>
Ar T.a13 a0 1 λn56=>
Ar T.a13 a0 1 λn57=>
Ar T.a12 a0 2 λn58=>
B5 (Instr.mapUpdate T.a18 (.map m55) (Ah n56) (.agg #[Ah n57,Ah (AF (n58+1)),Ah 0,Ah 0,Ah 0,Ah (-1),Ah n48]))<|
AN<|
Ap 0 [Ah 0])<|
AH (n49 == 1) (
B1 T.a4 a42 λn60 n61 n62 n63 n64 n65 n66=>
Ao F.a14 [B0 n60 n61 n62 n63 n64 n65 n66] λb67=>
Az 3 (
Ak (not b67) (
Ar T.a13 a0 0 λn68=>
AT T.a13 a42 5 (Ah n68)<|
Ap 3 [])<|
Ap 3 [])<|
Ap 2 [])<|
Ap 2 [])<|
AL<|
AI t λa70=>
Bn T.a18 a70 2 λm71=>
Ar T.a13 a0 1 λn72=>
Ar T.a13 a0 1 λn73=>
Ar T.a12 a0 2 λn74=>
Ar T.a12 a0 3 λn75=>
AS T.a34 a0 6 λl76=>
Ar T.a13 a0 0 λn77=>
Ar T.a13 a42 5 λn78=>
B5 (Instr.mapUpdate T.a18 (.map m71) (Ah n72) (.agg #[Ah n73,Ah n74,Ah n75,Ah (Al l76),Ah n77,Ah n78,Ah n48]))<|
AN<|
Ap 1 [])<|
Ap 0 [Ah 0])
theorem zrt (t:Option Addr) (b_0 b_1 b_2 b_3 b_4 b_5:Int) (b_6:Sl):FnS (z046 t b_0 b_1 b_2 b_3 b_4 b_5 b_6) F.a21 #[.pointer t,.agg #[.int .i64 b_0,.int .i64 b_1,.int .i64 b_2,.int .i64 b_3,.int .i64 b_4,.int .i64 b_5,.slice b_6.a b_6.len b_6.cap]]:=dV ⟨[(34587645138207506480,[(9,.one (.int .i64))]),(737869762948382064695,[(55,.one .bool)]),(2166395068749415481073467467,[])],[(1,[]),(4,[])],[],[]⟩ Go.Proofs.Tryz.func116 (by kernel_rfl)
def z057 (v:Option Addr) (b_0 b_1 b_2 b_3 b_4 b_5:Int) (b_6:Sl):Prog :=
Ab T.a0 (Aa b_0 b_1 b_2 b_3 b_4 b_5 b_6) λa0=>
Ac T.a0 a0 λn1 n2 n3 n4 n5 n6 l7=>
Am F.a65 [Ad v,Aa n1 n2 n3 n4 n5 n6 l7] λn8=>
Af n8 λn9=>
Ak (n9 != 0) (
Af n9 λn10=>
Ap 0 [Ah n10])<|
Ac T.a0 a0 λn11 n12 n13 n14 n15 n16 l17=>
Am F.a112 [Aa n11 n12 n13 n14 n15 n16 l17] λn18=>
AI v λa20=>
AT T.a13 a20 0 (Ah n18)<|
Bh 1 (
AL<|
AI v λa22=>
Bi T.a19 a22 1 λm23=>
Bj T.a13 a0 1 λn24=>
Bk (Instr.lookup T.a19 (.map m23) (Ah n24) true) λn25 n26 n27 n28 b29=>
AC T.a17 λa30=>
AN<|
AD T.a17 a30 (Bl n25 n26 n27 n28)<|
Ag b29 λb31=>
AN<|
Ap 1 [Ax a30,.bool b31]) λa32 b33=>
Ar T.a12 a0 4 λn34=>
Ag (n34 == 1 && not b33) λb35=>
Az 1 (
Ak b35 (
AL<|
AI v λa37=>
Bn T.a19 a37 1 λm38=>
Ar T.a13 a0 1 λn39=>
Ar T.a13 a0 1 λn40=>
Ar T.a12 a0 2 λn41=>
Ar T.a13 a0 0 λn42=>
B5 (Instr.mapUpdate T.a19 (.map m38) (Ah n39) (.agg #[Ah n40,Ah n41,Ah n42,Ah (-1)]))<|
AN<|
Ap 1 [])<|
Ac T.a0 a0 λn43 n44 n45 n46 n47 n48 l49=>
Ao F.a75 [Aa n43 n44 n45 n46 n47 n48 l49] λb50=>
Ag (b50 && b33) λb51=>
Az 2 (
Ak b51 (
AL<|
AI v λa53=>
Bn T.a19 a53 1 λm54=>
Ar T.a13 a0 1 λn55=>
B2 (Builtin.delete_ #[T.a19,T.a13] T.a49 #[.map m54,Ah n55])<|
AN<|
Ar T.a12 a0 4 λn56=>
Az 3 (
Ak (n56 == 3) (
Ar T.a13 a0 0 λn57=>
AT T.a13 a32 3 (Ah n57)<|
AL<|
AI v λa59=>
Bn T.a20 a59 2 λm60=>
Au T.a16 a32 0 λn61 n62=>
Bq T.a17 a32 λn63 n64 n65 n66=>
B5 (Instr.mapUpdate T.a20 (.map m60) (Av n61 n62) (Bl n63 n64 n65 n66))<|
AN<|
Ap 3 [])<|
Ap 3 [])<|
Ap 2 [])<|
Ap 2 [])<|
Ap 1 [])<|
Ap 0 [Ah 0]
theorem zsw (v:Option Addr) (b_0 b_1 b_2 b_3 b_4 b_5:Int) (b_6:Sl):FnS (z057 v b_0 b_1 b_2 b_3 b_4 b_5 b_6) F.a70 #[.pointer v,.agg #[.int .i64 b_0,.int .i64 b_1,.int .i64 b_2,.int .i64 b_3,.int .i64 b_4,.int .i64 b_5,.slice b_6.a b_6.len b_6.cap]]:=dV ⟨[(309182778366441411431104577,[]),(309484419525534710019129395,[]),(309485009820782118771359773,[])],[],[(5,[(6,.one .adr),(7,.one .bool)])],[]⟩ Go.Proofs.Tryz.func117 (by kernel_rfl)
def z05a (b_0 b_1 b_2 b_3 b_4 b_5:Int) (b_6:Sl):Prog :=
Ab T.a0 (Aa b_0 b_1 b_2 b_3 b_4 b_5 b_6) λa0=>
Ar T.a12 a0 4 λn1=>
As ((n1 == 2)=false) T.a12 a0 4 λn2=>
Ag (n1 == 2 || n2 == 3) λb3=>
Ap 0 [.bool b3]
theorem zsz (b_0 b_1 b_2 b_3 b_4 b_5:Int) (b_6:Sl):FnS (z05a b_0 b_1 b_2 b_3 b_4 b_5 b_6) F.a75 #[.agg #[.int .i64 b_0,.int .i64 b_1,.int .i64 b_2,.int .i64 b_3,.int .i64 b_4,.int .i64 b_5,.slice b_6.a b_6.len b_6.cap]]:=dV ⟨[],[],[],[]⟩ Go.Proofs.Tryz.func127 (by kernel_rfl)
def z059 (l_0 l_1 l_2:Int) (l_3:Int):Prog :=
Ab T.a17 (Bl l_0 l_1 l_2 l_3) λa0=>
AC T.a14 λa1=>
Ar T.a13 (Addr.add a0 0) 0 λn2=>
Ar T.a12 (Addr.add a0 0) 1 λn3=>
Ar T.a13 a0 2 λn4=>
Ar T.a13 a0 3 λn5=>
AD T.a14 a1 (Bl n2 n3 n4 n5)<|
Bq T.a14 a1 λn6 n7 n8 n9=>
Ap 0 [Bl n6 n7 n8 n9]
theorem zsy (l_0 l_1 l_2 l_3:Int):FnS (z059 l_0 l_1 l_2 l_3) F.a74 #[.agg #[.int .i64 l_0,.int .i64 l_1,.int .i64 l_2,.int .i64 l_3]]:=dV ⟨[],[],[],[]⟩ Go.Proofs.Tryz.func131 (by kernel_rfl)
def z056 (a_0 a_1 a_2 a_3 b_0 b_1 b_2:Int) (b_3:Int):Prog :=
Ab T.a14 (Bl a_0 a_1 a_2 a_3) λa0=>
Ab T.a14 (Bl b_0 b_1 b_2 b_3) λa1=>
Ar T.a13 a0 2 λn2=>
Ar T.a13 a1 2 λn3=>
Am F.a1 [Ah n2,Ah n3] λn4=>
Af n4 λn5=>
Ap 0 [Ah n5]
theorem zsu (a_0 a_1 a_2 a_3 b_0 b_1 b_2 b_3:Int):FnS (z056 a_0 a_1 a_2 a_3 b_0 b_1 b_2 b_3) F.a68 #[.agg #[.int .i64 a_0,.int .i64 a_1,.int .i64 a_2,.int .i64 a_3],.agg #[.int .i64 b_0,.int .i64 b_1,.int .i64 b_2,.int .i64 b_3]]:=dV ⟨[],[],[],[]⟩ Go.Proofs.Tryz.func133 (by kernel_rfl)
def zf9 (l:Sl):Prog :=
B3 (Instr.makeMap T.a21 (some (Ah (Al l)))) λm0=>
Az 1 (
AA 2 (0,()) λn1=>
Ak (decide (n1<(Al l))) (
.ex [.adr] (c1 λa2=>0<=n1/\n1<(Al l)/\l.a=some a2) (u1 λa3=>
Bt T.a32 a3 (Int.toNat n1*5) λn4 s5 s6 b7 n8=>
AC T.a32 λa9=>
Af n1 λn10=>
AD T.a32 a9 (Bu n4 s5 s6 b7 n8)<|
AY T.a47 (Addr.add a9 1) 0 λs11=>
B5 (Instr.mapUpdate T.a21 (.map m0) (.string s11) (Ah n10))<|
Ap 2 [Ah (AF (n1+1))]))<|
Ap 1 [])<|
Ap 0 [.map m0]
def z07z (from_:Int) (l:Sl):Prog :=
Az 1 (
AA 2 (0,()) λn0=>
Ak (decide (n0<(Al l))) (
.ex [.adr] (c1 λa1=>0<=n0/\n0<(Al l)/\l.a=some a1) (u1 λa2=>
Bt T.a32 a2 (Int.toNat n0*5) λn3 s4 s5 b6 n7=>
AC T.a32 λa8=>
Af n0 λn9=>
AD T.a32 a8 (Bu n3 s4 s5 b6 n7)<|
AL<|
As ((n9 == 0)=true) T.a13 a8 0 λn10=>
As ((n9 == 0 && decide (n10<from_))=false/\decide (n9>0)=true) T.a13 a8 0 λn11=>
.ex [.adr] (c1 λa12=>(n9 == 0 && decide (n10<from_))=false/\decide (n9>0)=true->0<=AF (n9-1)/\AF (n9-1)<(Al l)/\l.a=some a12) (u1 λa13=>
As ((n9 == 0 && decide (n10<from_))=false/\decide (n9>0)=true) T.a13 (Addr.add a13 (Int.toNat (AF (n9-1))*5)) 0 λn14=>
AN<|
Ak (n9 == 0 && decide (n10<from_) || decide (n9>0) && decide (n11<=n14)) (
Ap 0 [.bool false])<|
Ap 2 [Ah (AF (n0+1))])))<|
Ap 1 [])<|
Ap 0 [.bool true]
def zf8 (b_0 b_1 b_2 b_3 b_4 b_5:Int) (b_6:Sl) (r_0:Int) (r_1 r_2:ByteArray) (r_3:Bool) (r_4:Int):Prog :=
Ab T.a0 (Aa b_0 b_1 b_2 b_3 b_4 b_5 b_6) λa0=>
Ab T.a32 (Bu r_0 r_1 r_2 r_3 r_4) λa1=>
AS T.a34 a0 6 λl2=>
Af (Al l2) λn3=>
As ((decide (n3>0) && decide (n3<64))=true) T.a13 a1 0 λn4=>
As ((decide (n3>0) && decide (n3<64))=true) T.a13 a0 0 λn5=>
Ag (decide (n3>0) && decide (n3<64) && AF (n4-n3) == n5) λb6=>
Ap 0 [.bool b6]
def z045 (t:Option Addr) (b_0 b_1 b_2 b_3 b_4 b_5:Int) (b_6:Sl):Prog :=
Ab T.a0 (Aa b_0 b_1 b_2 b_3 b_4 b_5 b_6) λa0=>
AC T.a6 λa1=>
Ak (Option.isNone t) (
AD T.a6 a1 (AV false 0)<|
By T.a6 a1 λb2 n3=>
Ap 0 [AV b2 n3,Ah 1])<|
Ac T.a0 a0 λn4 n5 n6 n7 n8 n9 l10=>
Am F.a114 [Aa n4 n5 n6 n7 n8 n9 l10] λn11=>
Af n11 λn12=>
As ((n12 != 0)=false) T.a13 a0 1 λn13=>
Ak (n12 != 0 || n13 == 0) (
AD T.a6 a1 (AV false 0)<|
Af n12 λn14=>
By T.a6 a1 λb15 n16=>
Ap 0 [AV b15 n16,Ah n14])<|
Ar T.a13 a0 1 λn17=>
.call F.a23 [Ad t,Ah n17] (.tup [.agg [.int .i64,.int .i64,.int .i64,.int .i64,.int .i64,.int .i64,.int .i64],.one .bool]) (u8 λ(n18 n19 n20 n21 n22 n23 n24:Int) b25=>
AC T.a4 λa26=>
AD T.a4 a26 (B0 n18 n19 n20 n21 n22 n23 n24)<|
Ag b25 λb27=>
Ar T.a12 a0 2 λn28=>
Ar T.a12 a26 1 λn29=>
Ak (decide (n28<n29)) (
Ac T.a0 a0 λn30 n31 n32 n33 n34 n35 l36=>
Ao F.a25 [Aa n30 n31 n32 n33 n34 n35 l36] λb37=>
Ak b37 (
AD T.a6 a1 (.agg #[.bool true,Ah (-1)])<|
By T.a6 a1 λb38 n39=>
Ap 0 [AV b38 n39,Ah 0])<|
AD T.a6 a1 (AV false 0)<|
By T.a6 a1 λb40 n41=>
Ap 0 [AV b40 n41,Ah 20])<|
Ac T.a0 a0 λn42 n43 n44 n45 n46 n47 l48=>
Ao F.a25 [Aa n42 n43 n44 n45 n46 n47 l48] λb49=>
Az 1 (
Ak (not b49) (
B1 T.a4 a26 λn50 n51 n52 n53 n54 n55 n56=>
Ac T.a0 a0 λn57 n58 n59 n60 n61 n62 l63=>
.call F.a24 [B0 n50 n51 n52 n53 n54 n55 n56,Aa n57 n58 n59 n60 n61 n62 l63] (.tup [.agg [.bool,.int .i64],.one .bool]) (u3 λb64 (n65:Int) b66=>
AC T.a6 λa67=>
AD T.a6 a67 (AV b64 n65)<|
AH b66 (
By T.a6 a67 λb69 n70=>
AD T.a6 a1 (AV b69 n70)<|
By T.a6 a1 λb71 n72=>
Ap 0 [AV b71 n72,Ah 0])<|
Ap 1 []))<|
Ap 1 [])<|
B1 T.a4 a26 λn73 n74 n75 n76 n77 n78 n79=>
Ac T.a0 a0 λn80 n81 n82 n83 n84 n85 l86=>
Am F.a22 [Ad t,B0 n73 n74 n75 n76 n77 n78 n79,.bool b27,Aa n80 n81 n82 n83 n84 n85 l86] λn87=>
AD T.a6 a1 (AV false 0)<|
Af n87 λn88=>
By T.a6 a1 λb89 n90=>
Ap 0 [AV b89 n90,Ah n88])
theorem zrs (t:Option Addr) (b_0 b_1 b_2 b_3 b_4 b_5:Int) (b_6:Sl):FnS (z045 t b_0 b_1 b_2 b_3 b_4 b_5 b_6) F.a18 #[.pointer t,.agg #[.int .i64 b_0,.int .i64 b_1,.int .i64 b_2,.int .i64 b_3,.int .i64 b_4,.int .i64 b_5,.slice b_6.a b_6.len b_6.cap]]:=dV ⟨[(18374686479678046251,[])],[],[],[]⟩ Go.Proofs.Tryz.func164 (by kernel_rfl)
def z055 (v:Option Addr) (b_0 b_1 b_2 b_3 b_4 b_5:Int) (b_6:Sl):Prog :=
Ab T.a0 (Aa b_0 b_1 b_2 b_3 b_4 b_5 b_6) λa0=>
Ak (Option.isNone v) (
Ap 0 [Ah 1])<|
Ac T.a0 a0 λn1 n2 n3 n4 n5 n6 l7=>
Am F.a114 [Aa n1 n2 n3 n4 n5 n6 l7] λn8=>
Af n8 λn9=>
Ak (n9 != 0) (
Af n9 λn10=>
Ap 0 [Ah n10])<|
AL<|
Ar T.a13 a0 0 λn11=>
AI v λa13=>
Ar T.a13 a13 0 λn14=>
Ag (decide (n11<n14)) λb15=>
AN<|
Ak b15 (
Ap 0 [Ah 8])<|
Ar T.a12 a0 4 λn16=>
AH (n16 != 0) (
Ac T.a0 a0 λn18 n19 n20 n21 n22 n23 l24=>
Am F.a72 [Ad v,Aa n18 n19 n20 n21 n22 n23 l24] λn25=>
Af n25 λn26=>
Ap 0 [Ah n26])<|
Ap 0 [Ah 0]
theorem zss (v:Option Addr) (b_0 b_1 b_2 b_3 b_4 b_5:Int) (b_6:Sl):FnS (z055 v b_0 b_1 b_2 b_3 b_4 b_5 b_6) F.a65 #[.pointer v,.agg #[.int .i64 b_0,.int .i64 b_1,.int .i64 b_2,.int .i64 b_3,.int .i64 b_4,.int .i64 b_5,.slice b_6.a b_6.len b_6.cap]]:=dV ⟨[],[],[],[]⟩ Go.Proofs.Tryz.func165 (by kernel_rfl)
def z044 (r_0 r_1 r_2 r_3 r_4 r_5:Int) (r_6:Int):Prog :=
Ab T.a4 (B0 r_0 r_1 r_2 r_3 r_4 r_5 r_6) λa0=>
Ar T.a13 a0 5 λn1=>
Ag (decide (n1>=0)) λb2=>
Ap 0 [.bool b2]
theorem zrr (r_0 r_1 r_2 r_3 r_4 r_5 r_6:Int):FnS (z044 r_0 r_1 r_2 r_3 r_4 r_5 r_6) F.a14 #[.agg #[.int .i64 r_0,.int .i64 r_1,.int .i64 r_2,.int .i64 r_3,.int .i64 r_4,.int .i64 r_5,.int .i64 r_6]]:=dV ⟨[],[],[],[]⟩ Go.Proofs.Tryz.func167 (by kernel_rfl)
def z081 (t:Option Addr):Prog :=
Ak (Option.isNone t) (
Ap 0 [.slice none 0 0])<|
AQ 1 (
AL<|
AI t λa1=>
Ar T.a13 a1 1 λn2=>
AI t λa4=>
Bi T.a18 a4 2 λm5=>
An F.a233 [.int .u64 (IntKind.wrap .u64 n2)] λl6=>
Bv (Builtin.len_ #[T.a18] T.a12 #[.map m5]) λn7=>
AN<|
An F.a233 [.int .u64 (IntKind.wrap .u64 n7)] λl8=>
AR (Instr.buildSlice T.a40 2 #[(0,l6.v),(1,l8.v)]) λl9=>
An F.a221 [l9.v] λl10=>
AN<|
Ap 1 [l10.v]) λl11=>
An F.a20 [Ad t] λl12=>
AQ 1 (
Bs 2 ({ a:=l11.a,len:=l11.len,cap:=l11.cap },(0,())) λl13 n14=>
Ak (decide (n14<(Al l12))) (
AQ 3 (
.ex [.adr] (c1 λa15=>0<=n14/\n14<(Al l12)/\l12.a=some a15) (u1 λa16=>
B6 T.a4 a16 (Int.toNat n14*7) λn17 n18 n19 n20 n21 n22 n23=>
AC T.a4 λa24=>
AD T.a4 a24 (B0 n17 n18 n19 n20 n21 n22 n23)<|
Ar T.a13 a24 0 λn25=>
Ar T.a12 a24 1 λn26=>
Ar T.a12 a24 2 λn27=>
Ar T.a12 a24 3 λn28=>
Ar T.a13 a24 4 λn29=>
AR (Instr.buildSlice T.a36 5 #[(0,Ah n25),(1,Ah n26),(2,Ah n27),(3,Ah n28),(4,Ah n29)]) λl30=>
AQ 4 (
Bs 5 ({ a:=l13.a,len:=l13.len,cap:=l13.cap },(0,())) λl31 n32=>
Ak (decide (n32<(Al l30))) (
.ex [.adr] (c1 λa33=>0<=n32/\n32<(Al l30)/\l30.a=some a33) (u1 λa34=>
Ar T.a13 a34 (Int.toNat n32*1) λn35=>
Af n35 λn36=>
An F.a233 [.int .u64 (IntKind.wrap .u64 n36)] λl37=>
AR (app T.a42 T.a42 T.a42 l31.v l37.v) λl38=>
Ap 5 [l38.v,Ah (AF (n32+1))]))<|
Ap 4 [l31.v]) λl39=>
AQ 4 (
AL<|
Ar T.a13 a24 5 λn40=>
Bj T.a13 a24 6 λn41=>
An F.a220 [Ah n40] λl42=>
AN<|
An F.a233 [.int .u64 (IntKind.wrap .u64 n41)] λl43=>
AR (Instr.buildSlice T.a40 2 #[(0,l42.v),(1,l43.v)]) λl44=>
An F.a221 [l44.v] λl45=>
AR (app T.a42 T.a42 T.a42 l39.v l45.v) λl46=>
AN<|
Ap 4 [l46.v]) λl47=>
Ap 3 [l47.v])) λl48=>
Ap 2 [l48.v,Ah (AF (n14+1))])<|
Ap 1 [l13.v]) λl49=>
AR (Instr.buildSlice T.a40 1 #[(0,l49.v)]) λl50=>
An F.a47 [l50.v] λl51=>
Ap 0 [l51.v]
def z08a (v:Option Addr):Prog :=
Ak (Option.isNone v) (
Ap 0 [.slice none 0 0])<|
An F.a67 [Ad v] λl0=>
An F.a61 [Ad v] λl1=>
AI v λa3=>
Ar T.a13 a3 0 λn4=>
An F.a233 [.int .u64 (IntKind.wrap .u64 n4)] λl5=>
An F.a233 [.int .u64 (IntKind.wrap .u64 (Al l0))] λl6=>
AR (Instr.buildSlice T.a40 2 #[(0,l5.v),(1,l6.v)]) λl7=>
An F.a221 [l7.v] λl8=>
AQ 1 (
Bs 2 ({ a:=l8.a,len:=l8.len,cap:=l8.cap },(0,())) λl9 n10=>
Ak (decide (n10<(Al l0))) (
.ex [.adr] (c1 λa11=>0<=n10/\n10<(Al l0)/\l0.a=some a11) (u1 λa12=>
B7 T.a14 a12 (Int.toNat n10*4) λn13 n14 n15 n16=>
AC T.a14 λa17=>
AD T.a14 a17 (Bl n13 n14 n15 n16)<|
AQ 3 (
AL<|
Ar T.a13 a17 0 λn18=>
Bj T.a12 a17 1 λn19=>
Bj T.a13 a17 2 λn20=>
An F.a233 [.int .u64 (IntKind.wrap .u64 n18)] λl21=>
An F.a233 [.int .u64 (IntKind.wrap .u64 n19)] λl22=>
AN<|
An F.a233 [.int .u64 (IntKind.wrap .u64 n20)] λl23=>
AR (Instr.buildSlice T.a40 3 #[(0,l21.v),(1,l22.v),(2,l23.v)]) λl24=>
An F.a221 [l24.v] λl25=>
AR (app T.a42 T.a42 T.a42 l9.v l25.v) λl26=>
AN<|
Ap 3 [l26.v]) λl27=>
Ap 2 [l27.v,Ah (AF (n10+1))]))<|
Ap 1 [l9.v]) λl28=>
An F.a233 [.int .u64 (IntKind.wrap .u64 (Al l1))] λl29=>
AR (app T.a42 T.a42 T.a42 l28.v l29.v) λl30=>
AQ 1 (
Bs 2 ({ a:=l30.a,len:=l30.len,cap:=l30.cap },(0,())) λl31 n32=>
Ak (decide (n32<(Al l1))) (
.ex [.adr] (c1 λa33=>0<=n32/\n32<(Al l1)/\l1.a=some a33) (u1 λa34=>
B7 T.a14 a34 (Int.toNat n32*4) λn35 n36 n37 n38=>
AC T.a14 λa39=>
AD T.a14 a39 (Bl n35 n36 n37 n38)<|
AQ 3 (
AL<|
Ar T.a13 a39 0 λn40=>
Bj T.a12 a39 1 λn41=>
Bj T.a13 a39 2 λn42=>
Bj T.a13 a39 3 λn43=>
An F.a233 [.int .u64 (IntKind.wrap .u64 n40)] λl44=>
An F.a233 [.int .u64 (IntKind.wrap .u64 n41)] λl45=>
An F.a233 [.int .u64 (IntKind.wrap .u64 n42)] λl46=>
AN<|
An F.a233 [.int .u64 (IntKind.wrap .u64 n43)] λl47=>
AR (Instr.buildSlice T.a40 4 #[(0,l44.v),(1,l45.v),(2,l46.v),(3,l47.v)]) λl48=>
An F.a221 [l48.v] λl49=>
AR (app T.a42 T.a42 T.a42 l31.v l49.v) λl50=>
AN<|
Ap 3 [l50.v]) λl51=>
Ap 2 [l51.v,Ah (AF (n32+1))]))<|
Ap 1 [l31.v]) λl52=>
AR (Instr.buildSlice T.a40 1 #[(0,l52.v)]) λl53=>
An F.a47 [l53.v] λl54=>
Ap 0 [l54.v]
def z087 (r:Option Addr) (most:Int):Prog :=
Bc F.a229 [Ad r] λn0=>
Bd n0 λn1=>
Ak (decide (n1>IntKind.wrap .u64 most)) (
Af (AF (most+1)) λn2=>
Ap 0 [Ah n2])<|
Af (AF n1) λn3=>
Ap 0 [Ah n3]
def z086 (r_0 r_1 r_2 r_3 r_4 r_5 r_6:Int) (next_:Int):Prog :=
Ab T.a4 (B0 r_0 r_1 r_2 r_3 r_4 r_5 r_6) λa0=>
Ar T.a13 a0 0 λn1=>
As (decide (n1<1)=false) T.a13 a0 0 λn2=>
As ((decide (n1<1) || decide (n2>1048576))=false) T.a12 a0 1 λn3=>
As ((decide (n1<1) || decide (n2>1048576) || decide (n3>32768))=false) T.a13 a0 6 λn4=>
As ((decide (n1<1) || decide (n2>1048576) || decide (n3>32768) || decide (n4>1099511627776))=false) T.a12 a0 3 λn5=>
Ak (decide (n1<1) || decide (n2>1048576) || decide (n3>32768) || decide (n4>1099511627776) || decide (n5>64)) (
Ap 0 [.bool false])<|
Ar T.a12 a0 3 λn6=>
Ak (n6 == 0) (
Ar T.a12 a0 2 λn7=>
As ((n7 == 0)=true) T.a13 a0 4 λn8=>
As ((n7 == 0 && n8 == 0)=true) T.a13 a0 5 λn9=>
Ag (n7 == 0 && n8 == 0 && n9 == -1) λb10=>
Ap 0 [.bool b10])<|
Aj 1 (
Ar T.a12 a0 1 λn11=>
B4 (decide (n11<=32767)=true) T.a4 a0 λn12 n13 n14 n15 n16 n17 n18=>
Ak (decide (n11<=32767)) (
Am F.a13 [B0 n12 n13 n14 n15 n16 n17 n18] λn19=>
As (decide (n19<=2147483648)=true) T.a13 a0 4 λn20=>
As (decide (n19<=2147483648)=true) T.a12 a0 3 λn21=>
As ((decide (n19<=2147483648) && decide (AF (n20+n21)<=next_))=true) T.a13 a0 5 λn22=>
As ((decide (n19<=2147483648) && decide (AF (n20+n21)<=next_))=true) T.a13 a0 4 λn23=>
Ag (decide (n19<=2147483648) && decide (AF (n20+n21)<=next_) && decide (n22<=n23)) λb24=>
Ap 1 [.bool b24])<|
Ap 1 [.bool false]) λb25=>
Ap 0 [.bool b25]
def z08h (r:Option Addr) (most:Int):Prog :=
Bc F.a229 [Ad r] λn0=>
Bd n0 λn1=>
Ak (decide (n1>IntKind.wrap .u64 most)) (
Af (AF (most+1)) λn2=>
Ap 0 [Ah n2])<|
Af (AF n1) λn3=>
Ap 0 [Ah n3]
def z08f (v:Option Addr) (r:Option Addr):Prog :=
Am F.a77 [Ad r,Ah 1024] λn0=>
Af n0 λn1=>
Az 1 (
Br 2 (-1,(0,())) λn2 n3=>
Ak (decide (n3<n1)) (
AI v λa5=>
Ar T.a13 a5 0 λn6=>
.call F.a76 [Ad r,Ah n6] (.tup [.agg [.int .i64,.int .i64,.int .i64,.int .i64],.one .bool]) (u5 λ(n7 n8 n9 n10:Int) b11=>
AC T.a17 λa12=>
AD T.a17 a12 (Bl n7 n8 n9 n10)<|
Ag b11 λb13=>
Aj 3 (
AL<|
AI v λa15=>
Bi T.a19 a15 1 λm16=>
Bj T.a13 (Addr.add a12 0) 0 λn17=>
Bk (Instr.lookup T.a19 (.map m16) (Ah n17) true) λn18 n19 n20 n21 b22=>
AC T.a17 λa23=>
AN<|
AD T.a17 a23 (Bl n18 n19 n20 n21)<|
Ag b22 λb24=>
AN<|
Ap 3 [.bool b24]) λb25=>
As ((not b13 || b25)=false) T.a13 a12 2 λn26=>
Ak (not b13 || b25 || decide (n26<=n2) || decide (n3>=1024)) (
Ap 0 [.bool false])<|
AL<|
AI v λa28=>
Bn T.a19 a28 1 λm29=>
Ar T.a13 (Addr.add a12 0) 0 λn30=>
Bq T.a17 a12 λn31 n32 n33 n34=>
B5 (Instr.mapUpdate T.a19 (.map m29) (Ah n30) (Bl n31 n32 n33 n34))<|
AN<|
Ar T.a13 a12 2 λn35=>
Af n35 λn36=>
Af (AF (n3+1)) λn37=>
Ap 2 [Ah n36,Ah n37]))<|
Ap 1 [])<|
Am F.a225 [Ad r] λn38=>
Ag (n38 == 0) λb39=>
Ap 0 [.bool b39]
def z08e (v:Option Addr) (r:Option Addr):Prog :=
Am F.a77 [Ad r,Ah 4096] λn0=>
Af n0 λn1=>
Az 1 (
Br 2 (-1,(0,())) λn2 n3=>
Ak (decide (n3<n1)) (
AI v λa5=>
Ar T.a13 a5 0 λn6=>
.call F.a76 [Ad r,Ah n6] (.tup [.agg [.int .i64,.int .i64,.int .i64,.int .i64],.one .bool]) (u5 λ(n7 n8 n9 n10:Int) b11=>
AC T.a17 λa12=>
AD T.a17 a12 (Bl n7 n8 n9 n10)<|
Ag b11 λb13=>
Am F.a77 [Ad r,Ah 1099511627776] λn14=>
AT T.a13 a12 3 (Ah n14)<|
Aj 3 (
AL<|
AI v λa16=>
Bi T.a20 a16 2 λm17=>
.hold True (ld T.a16 (Addr.add a12 0)) (sG [.int .i64,.int .i64]) (u2 λ(n18 n19:Int)=>
Bk (Instr.lookup T.a20 (.map m17) (Av n18 n19) true) λn20 n21 n22 n23 b24=>
AC T.a17 λa25=>
AN<|
AD T.a17 a25 (Bl n20 n21 n22 n23)<|
Ag b24 λb26=>
AN<|
Ap 3 [.bool b26])) λb27=>
Aj 3 (
AL<|
Ak (not b13) (
AN<|
Ap 3 [.bool true])<|
Am F.a225 [Ad r] λn28=>
AO ((n28 != 0 || b27)=false) v λa30=>
B8 ((n28 != 0 || b27)=false) T.a19 a30 1 λm31=>
As ((n28 != 0 || b27)=false) T.a13 (Addr.add a12 0) 0 λn32=>
.read ((n28 != 0 || b27)=false) (Instr.lookup T.a19 (.map m31) (Ah n32) false) (sG [.int .i64,.int .i64,.int .i64,.int .i64]) (u4 λ(n33 n34 n35 n36:Int)=>
B9 ((n28 != 0 || b27)=false) (ld T.a16 (Addr.add a12 0)) λn37 n38=>
As ((n28 != 0 || b27 || n33 == n37 && n34 == n38)=false) T.a13 a12 3 λn39=>
As ((n28 != 0 || b27 || n33 == n37 && n34 == n38 || decide (n39<=n2))=false) T.a13 a12 3 λn40=>
As ((n28 != 0 || b27 || n33 == n37 && n34 == n38 || decide (n39<=n2))=false) T.a13 a12 2 λn41=>
As ((n28 != 0 || b27 || n33 == n37 && n34 == n38 || decide (n39<=n2) || decide (n40<=n41))=false) T.a13 a12 3 λn42=>
AO ((n28 != 0 || b27 || n33 == n37 && n34 == n38 || decide (n39<=n2) || decide (n40<=n41))=false) v λa44=>
As ((n28 != 0 || b27 || n33 == n37 && n34 == n38 || decide (n39<=n2) || decide (n40<=n41))=false) T.a13 a44 0 λn45=>
AN<|
Ap 3 [.bool (n28 != 0 || b27 || n33 == n37 && n34 == n38 || decide (n39<=n2) || decide (n40<=n41) || decide (n42>=n45) || decide (n3>=4096))])) λb46=>
Ak b46 (
Ap 0 [.bool false])<|
AL<|
AI v λa48=>
Bn T.a20 a48 2 λm49=>
Au T.a16 a12 0 λn50 n51=>
Bq T.a17 a12 λn52 n53 n54 n55=>
B5 (Instr.mapUpdate T.a20 (.map m49) (Av n50 n51) (Bl n52 n53 n54 n55))<|
AN<|
Ar T.a13 a12 3 λn56=>
Af n56 λn57=>
Af (AF (n3+1)) λn58=>
Ap 2 [Ah n57,Ah n58]))<|
Ap 1 [])<|
Am F.a225 [Ad r] λn59=>
Ag (n59 == 0) λb60=>
Ap 0 [.bool b60]
def z048 (t:Option Addr) (pid:Int):Prog :=
AC T.a4 λa0=>
AI t λa2=>
Bn T.a18 a2 2 λm3=>
.read True (Instr.lookup T.a18 (.map m3) (Ah pid) true) (.tup [.agg [.int .i64,.int .i64,.int .i64,.int .i64,.int .i64,.int .i64,.int .i64],.one .bool]) (u8 λ(n4 n5 n6 n7 n8 n9 n10:Int) b11=>
AC T.a4 λa12=>
AD T.a4 a12 (B0 n4 n5 n6 n7 n8 n9 n10)<|
Ag b11 λb13=>
Ak (not b13) (
AD T.a4 a0 (.agg #[Ah pid,Ah (-1),Ah 0,Ah 0,Ah 0,Ah (-1),Ah 0])<|
B1 T.a4 a0 λn14 n15 n16 n17 n18 n19 n20=>
Ap 0 [B0 n14 n15 n16 n17 n18 n19 n20,.bool false])<|
B1 T.a4 a12 λn21 n22 n23 n24 n25 n26 n27=>
AD T.a4 a0 (B0 n21 n22 n23 n24 n25 n26 n27)<|
B1 T.a4 a0 λn28 n29 n30 n31 n32 n33 n34=>
Ap 0 [B0 n28 n29 n30 n31 n32 n33 n34,.bool true])
theorem zrv (t:Option Addr) (pid:Int):FnS (z048 t pid) F.a23 #[.pointer t,.int .i64 pid]:=dV ⟨[],[],[],[]⟩ Go.Proofs.Tryz.func202 (by kernel_rfl)
def z04a (b_0 b_1 b_2 b_3 b_4 b_5:Int) (b_6:Sl):Prog :=
Ab T.a0 (Aa b_0 b_1 b_2 b_3 b_4 b_5 b_6) λa0=>
Ar T.a12 a0 4 λn1=>
As ((n1 == 2)=false) T.a12 a0 4 λn2=>
Ag (n1 == 2 || n2 == 3) λb3=>
Ap 0 [.bool b3]
theorem zrx (b_0 b_1 b_2 b_3 b_4 b_5:Int) (b_6:Sl):FnS (z04a b_0 b_1 b_2 b_3 b_4 b_5 b_6) F.a25 #[.agg #[.int .i64 b_0,.int .i64 b_1,.int .i64 b_2,.int .i64 b_3,.int .i64 b_4,.int .i64 b_5,.slice b_6.a b_6.len b_6.cap]]:=dV ⟨[],[],[],[]⟩ Go.Proofs.Tryz.func232 (by kernel_rfl)
def z049 (r_0 r_1 r_2 r_3 r_4 r_5 r_6 b_0 b_1 b_2 b_3 b_4 b_5:Int) (b_6:Sl):Prog :=
Ab T.a4 (B0 r_0 r_1 r_2 r_3 r_4 r_5 r_6) λa0=>
Ab T.a0 (Aa b_0 b_1 b_2 b_3 b_4 b_5 b_6) λa1=>
AC T.a6 λa2=>
Aj 1 (
AL<|
Ar T.a12 a1 2 λn3=>
Ar T.a12 a0 1 λn4=>
AM ((n3 != n4)=false) T.a12 a1 3 λn5=>
.hold ((n3 != n4)=false) (ld T.a34 (Addr.add a1 6)) sL (u1 λl6=>
B4 ((n3 != n4)=false) T.a4 a0 λn7 n8 n9 n10 n11 n12 n13=>
Ak (n3 != n4) (
AN<|
Ap 1 [.bool true])<|
Am F.a13 [B0 n7 n8 n9 n10 n11 n12 n13] λn14=>
AN<|
Ap 1 [.bool (decide (AF (n5+(Al l6))>n14))])) λb15=>
Ak b15 (
AD T.a6 a2 (AV false 0)<|
By T.a6 a2 λb16 n17=>
Ap 0 [AV b16 n17,.bool false])<|
Ar T.a12 a1 3 λn18=>
Ar T.a12 a0 2 λn19=>
BA ((n18 == n19)=true) T.a34 a1 6 λl20=>
As ((n18 == n19)=true) T.a12 a0 3 λn21=>
Ak (n18 == n19 && (Al l20) == n21) (
Ar T.a13 a0 4 λn22=>
AD T.a6 a2 (AV true n22)<|
By T.a6 a2 λb23 n24=>
Ap 0 [AV b23 n24,.bool true])<|
AD T.a6 a2 (.agg #[.bool true,Ah (-1)])<|
By T.a6 a2 λb25 n26=>
Ap 0 [AV b25 n26,.bool true]
theorem zrw (r_0 r_1 r_2 r_3 r_4 r_5 r_6 b_0 b_1 b_2 b_3 b_4 b_5:Int) (b_6:Sl):FnS (z049 r_0 r_1 r_2 r_3 r_4 r_5 r_6 b_0 b_1 b_2 b_3 b_4 b_5 b_6) F.a24 #[.agg #[.int .i64 r_0,.int .i64 r_1,.int .i64 r_2,.int .i64 r_3,.int .i64 r_4,.int .i64 r_5,.int .i64 r_6],.agg #[.int .i64 b_0,.int .i64 b_1,.int .i64 b_2,.int .i64 b_3,.int .i64 b_4,.int .i64 b_5,.slice b_6.a b_6.len b_6.cap]]:=dV ⟨[],[],[(1,[(21,.one .bool)])],[]⟩ Go.Proofs.Tryz.func233 (by kernel_rfl)
def z047 (t:Option Addr) (r_0 r_1 r_2 r_3 r_4 r_5 r_6:Int) (there:Bool) (b_0 b_1 b_2 b_3 b_4 b_5:Int) (b_6:Sl):Prog :=
Ab T.a4 (B0 r_0 r_1 r_2 r_3 r_4 r_5 r_6) λa0=>
Ab T.a0 (Aa b_0 b_1 b_2 b_3 b_4 b_5 b_6) λa1=>
B1 T.a4 a0 λn2 n3 n4 n5 n6 n7 n8=>
Am F.a13 [B0 n2 n3 n4 n5 n6 n7 n8] λn9=>
Af n9 λn10=>
Ar T.a12 a1 2 λn11=>
Ar T.a12 a0 1 λn12=>
Bg 1 (
Ak (decide (n11>n12)) (
Ap 1 [Ah 0])<|
Ap 1 [Ah n10]) λn13=>
B1 T.a4 a0 λn14 n15 n16 n17 n18 n19 n20=>
Ao F.a14 [B0 n14 n15 n16 n17 n18 n19 n20] λb21=>
As (b21=true) T.a12 a1 2 λn22=>
As (b21=true) T.a12 a0 1 λn23=>
As (b21=true/\decide (n22>n23)=false) T.a12 a1 4 λn24=>
AH (b21 && (decide (n22>n23) || n24 == 0)) (
Ap 0 [Ah 22])<|
Ac T.a0 a1 λn26 n27 n28 n29 n30 n31 l32=>
Ao F.a25 [Aa n26 n27 n28 n29 n30 n31 l32] λb33=>
As (not b33=true) T.a12 a1 3 λn34=>
AH (not b33 && n34 != n13) (
Ap 0 [Ah 21])<|
AL<|
AO (not there=true) t λa37=>
B8 (not there=true) T.a18 a37 2 λm38=>
BB (not there=true) (Builtin.len_ #[T.a18] T.a12 #[.map m38]) λn39=>
AO (not there=true) t λa41=>
As (not there=true) T.a12 a41 0 λn42=>
Ag (not there && decide (n39>=n42)) λb43=>
AN<|
Ak b43 (
Ap 0 [Ah 5])<|
Ap 0 [Ah 0]
theorem zru (t:Option Addr) (r_0 r_1 r_2 r_3 r_4 r_5 r_6:Int) (there:Bool) (b_0 b_1 b_2 b_3 b_4 b_5:Int) (b_6:Sl):FnS (z047 t r_0 r_1 r_2 r_3 r_4 r_5 r_6 there b_0 b_1 b_2 b_3 b_4 b_5 b_6) F.a22 #[.pointer t,.agg #[.int .i64 r_0,.int .i64 r_1,.int .i64 r_2,.int .i64 r_3,.int .i64 r_4,.int .i64 r_5,.int .i64 r_6],.bool there,.agg #[.int .i64 b_0,.int .i64 b_1,.int .i64 b_2,.int .i64 b_3,.int .i64 b_4,.int .i64 b_5,.slice b_6.a b_6.len b_6.cap]]:=dV ⟨[(2097168,[(9,.one (.int .i64))])],[],[],[]⟩ Go.Proofs.Tryz.func234 (by kernel_rfl)
def z058 (v:Option Addr) (b_0 b_1 b_2 b_3 b_4 b_5:Int) (b_6:Sl):Prog :=
Ab T.a0 (Aa b_0 b_1 b_2 b_3 b_4 b_5 b_6) λa0=>
Ar T.a13 a0 1 λn1=>
Ar T.a12 a0 2 λn2=>
AC T.a16 λa3=>
AD T.a16 a3 (Av n1 n2)<|
Aj 1 (
AL<|
AI v λa5=>
Bi T.a20 a5 2 λm6=>
.hold True (ld T.a16 a3) (sG [.int .i64,.int .i64]) (u2 λ(n7 n8:Int)=>
Bk (Instr.lookup T.a20 (.map m6) (Av n7 n8) true) λn9 n10 n11 n12 b13=>
AC T.a17 λa14=>
AN<|
AD T.a17 a14 (Bl n9 n10 n11 n12)<|
Ag b13 λb15=>
AN<|
Ap 1 [.bool b15])) λb16=>
Bh 1 (
AL<|
AI v λa18=>
Bi T.a19 a18 1 λm19=>
Bj T.a13 a0 1 λn20=>
Bk (Instr.lookup T.a19 (.map m19) (Ah n20) true) λn21 n22 n23 n24 b25=>
AC T.a17 λa26=>
AN<|
AD T.a17 a26 (Bl n21 n22 n23 n24)<|
Ag b25 λb27=>
AN<|
Ap 1 [Ax a26,.bool b27]) λa28 b29=>
AH b16 (
Ap 0 [Ah 20])<|
B9 (b29=true) (ld T.a16 (Addr.add a28 0)) λn31 n32=>
B9 (b29=true) (ld T.a16 a3) λn33 n34=>
AH (b29 && not (n31 == n33 && n32 == n34)) (
Ap 0 [Ah 22])<|
Ar T.a12 a0 4 λn36=>
AO ((n36 == 1 && not b29)=true) v λa38=>
B8 ((n36 == 1 && not b29)=true) T.a19 a38 1 λm39=>
BB ((n36 == 1 && not b29)=true) (Builtin.len_ #[T.a19] T.a12 #[.map m39]) λn40=>
AH (n36 == 1 && not b29 && decide (n40>=1024)) (
Ap 0 [Ah 5])<|
Ar T.a12 a0 4 λn42=>
AO ((n42 == 3 && b29)=true) v λa44=>
B8 ((n42 == 3 && b29)=true) T.a20 a44 2 λm45=>
BB ((n42 == 3 && b29)=true) (Builtin.len_ #[T.a20] T.a12 #[.map m45]) λn46=>
AH (n42 == 3 && b29 && decide (n46>=4096)) (
Ap 0 [Ah 5])<|
Ap 0 [Ah 0]
theorem zsx (v:Option Addr) (b_0 b_1 b_2 b_3 b_4 b_5:Int) (b_6:Sl):FnS (z058 v b_0 b_1 b_2 b_3 b_4 b_5 b_6) F.a72 #[.pointer v,.agg #[.int .i64 b_0,.int .i64 b_1,.int .i64 b_2,.int .i64 b_3,.int .i64 b_4,.int .i64 b_5,.slice b_6.a b_6.len b_6.cap]]:=dV ⟨[],[],[(2,[(7,.one .bool)]),(3,[(8,.one .adr),(9,.one .bool)])],[]⟩ Go.Proofs.Tryz.func235 (by kernel_rfl)
def z085 (t:Option Addr):Prog :=
Ak (Option.isNone t) (
Ap 0 [.slice none 0 0])<|
AI t λa1=>
Bn T.a18 a1 2 λm2=>
.call F.a81 [.map m2] sV (u1 λv3=>
An F.a156 [v3] λl4=>
AE F.a157 [l4.v,.func (Fn.func 289) #[] #[]]<|
Ap 0 [l4.v])
def z08b (v:Option Addr):Prog :=
Ak (Option.isNone v) (
Ap 0 [.slice none 0 0])<|
AI v λa1=>
Bn T.a20 a1 2 λm2=>
Bo (Instr.range T.a20 (.map m2)) λa3=>
AQ 1 (
Bp 2 (⟨none,0,0⟩,()) λl4=>
.next (Instr.next (Ax a3) false T.a49) ([.agg [.int .i64,.int .i64],.agg [.int .i64,.int .i64,.int .i64,.int .i64]]) (u6 λ(n5 n6 n7 n8 n9 n10:Int)=>
.act (Instr.entry (Ax a3)) (.tup [.agg [.int .i64,.int .i64],.agg [.int .i64,.int .i64,.int .i64,.int .i64]]) (u6 λ(n11 n12 n13 n14 n15 n16:Int)=>
AC T.a17 λa17=>
AD T.a17 a17 (Bl n13 n14 n15 n16)<|
Bq T.a17 a17 λn18 n19 n20 n21=>
.call F.a74 [Bl n18 n19 n20 n21] (sG [.int .i64,.int .i64,.int .i64,.int .i64]) (u4 λ(n22 n23 n24 n25:Int)=>
AR (Instr.buildSlice T.a37 1 #[(0,Bl n22 n23 n24 n25)]) λl26=>
AR (app T.a37 T.a37 T.a37 l4.v l26.v) λl27=>
Ap 2 [l27.v]))) <|
Ap 1 [l4.v]) λl28=>
AE F.a158 [l28.v,.func (Fn.func 290) #[] #[]]<|
Ap 0 [l28.v]
def z043 (r_0 r_1 r_2 r_3 r_4 r_5:Int) (r_6:Int):Prog :=
Ab T.a4 (B0 r_0 r_1 r_2 r_3 r_4 r_5 r_6) λa0=>
Ar T.a12 a0 2 λn1=>
Ar T.a12 a0 3 λn2=>
Af (AF (n1+n2)) λn3=>
Ap 0 [Ah n3]
theorem zrq (r_0 r_1 r_2 r_3 r_4 r_5 r_6:Int):FnS (z043 r_0 r_1 r_2 r_3 r_4 r_5 r_6) F.a13 #[.agg #[.int .i64 r_0,.int .i64 r_1,.int .i64 r_2,.int .i64 r_3,.int .i64 r_4,.int .i64 r_5,.int .i64 r_6]]:=dV ⟨[],[],[],[]⟩ Go.Proofs.Tryz.func253 (by kernel_rfl)
def z08g (r:Option Addr) (next_:Int):Prog :=
AC T.a17 λa0=>
Am F.a77 [Ad r,Ah 1048576] λn1=>
Am F.a77 [Ad r,Ah 32767] λn2=>
Am F.a77 [Ad r,Ah 1099511627776] λn3=>
AC T.a17 λa4=>
AD T.a17 a4 (.agg #[Ah n1,Ah n2,Ah n3,Ah (-1)])<|
Aj 1 (
AL<|
.hold True (ld T.a17 a4) (sG [.int .i64,.int .i64,.int .i64,.int .i64]) (u4 λ(n5 n6 n7 n8:Int)=>
Am F.a225 [Ad r] λn9=>
As ((n9 == 0)=true) T.a13 (Addr.add a4 0) 0 λn10=>
As ((n9 == 0 && decide (n10>=1))=true) T.a13 (Addr.add a4 0) 0 λn11=>
As ((n9 == 0 && decide (n10>=1) && decide (n11<=1048576))=true) T.a12 (Addr.add a4 0) 1 λn12=>
AM ((n9 == 0 && decide (n10>=1) && decide (n11<=1048576) && decide (n12<=32767))=true) T.a13 a4 2 λn13=>
AD T.a17 a0 (Bl n5 n6 n7 n8)<|
Ag (n9 == 0 && decide (n10>=1) && decide (n11<=1048576) && decide (n12<=32767) && decide (n13<next_)) λb14=>
AN<|
Ap 1 [.bool b14])) λb15=>
Bq T.a17 a0 λn16 n17 n18 n19=>
Ap 0 [Bl n16 n17 n18 n19,.bool b15]
def z053 (a_0 a_1 a_2 a_3 b_0 b_1 b_2:Int) (b_3:Int):Prog :=
Ab T.a14 (Bl a_0 a_1 a_2 a_3) λa0=>
Ab T.a14 (Bl b_0 b_1 b_2 b_3) λa1=>
Ar T.a13 a0 3 λn2=>
Ar T.a13 a1 3 λn3=>
Am F.a1 [Ah n2,Ah n3] λn4=>
Af n4 λn5=>
Ap 0 [Ah n5]
theorem zsq (a_0 a_1 a_2 a_3 b_0 b_1 b_2 b_3:Int):FnS (z053 a_0 a_1 a_2 a_3 b_0 b_1 b_2 b_3) F.a62 #[.agg #[.int .i64 a_0,.int .i64 a_1,.int .i64 a_2,.int .i64 a_3],.agg #[.int .i64 b_0,.int .i64 b_1,.int .i64 b_2,.int .i64 b_3]]:=dV ⟨[],[],[],[]⟩ Go.Proofs.Tryz.func290 (by kernel_rfl)
structure RowA where
 pid:Int
 epoch:Int
 seq:Int
 count:Int
 base:Int
 frm:Int
 time:Int
def z5g (t:RowA):List Value:=[.int .i64 t.pid,.int .i64 t.epoch,.int .i64 t.seq,.int .i64 t.count,.int .i64 t.base,.int .i64 t.frm,.int .i64 t.time]
instance:EncA z5g [.int .i64,.int .i64,.int .i64,.int .i64,.int .i64,.int .i64,.int .i64] (λt=>(t.pid,t.epoch,t.seq,t.count,t.base,t.frm,t.time,())):=⟨λ_=>rfl⟩
instance:EncN z5g 7:=⟨λ_=>rfl,by decide,by simp [z5g,Value.oneCell']⟩
instance:EncF z5g 0 (.int .i64) (λt=>t.pid):=⟨λ_=>rfl⟩
instance:EncF z5g 1 (.int .i64) (λt=>t.epoch):=⟨λ_=>rfl⟩
instance:EncF z5g 2 (.int .i64) (λt=>t.seq):=⟨λ_=>rfl⟩
instance:EncF z5g 3 (.int .i64) (λt=>t.count):=⟨λ_=>rfl⟩
instance:EncF z5g 4 (.int .i64) (λt=>t.base):=⟨λ_=>rfl⟩
instance:EncF z5g 5 (.int .i64) (λt=>t.frm):=⟨λ_=>rfl⟩
instance:EncF z5g 6 (.int .i64) (λt=>t.time):=⟨λ_=>rfl⟩
abbrev evW (t:RowA):Value:=.agg #[.int .i64 t.pid,.int .i64 t.epoch,.int .i64 t.seq,.int .i64 t.count,.int .i64 t.base,.int .i64 t.frm,.int .i64 t.time]
end Go.Dec
