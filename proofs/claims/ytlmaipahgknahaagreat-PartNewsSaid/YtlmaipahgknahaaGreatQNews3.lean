/- What the claim of this folder leans on: our own texts, joined, without what it does not use. -/
import Derived.Test.YtlmaipahgknahaaGreatRows
import Derived.WalkKit
import Derived.ProofKit
import Derived.OpenShut
import Derived.RowKit3
import Derived.OrdersHeld
import Derived.Scope
import Derived.KernelRfl
import Derived.Laws.Sem
import Derived.Laws.StructEq
import Derived.Deep.AppendSrc
import Derived.Laws.BytesArg
import Derived.Laws.RangeString
import Derived.Maps.RangeRun
import Derived.Lib.ConvBytes
import Derived.Lib.SlBytesConst
import Derived.ChangeSlices
import Derived.ChangeMaps5
import Derived.ChangeSame
import Derived.Deep.Slices
import Derived.Deep.Fields
import Derived.Test.YtlmaipahgknahaaGreatProg
import Derived.WideKeyRuns
import Derived.DeepKeys3
import Derived.Laws.MakeOwn
import Derived.Sort.MapsRangeIn
import Derived.Sort.KeysCollected
import Derived.RangeFuncNested
import Derived.RangeFuncBound
import Derived.RangeFuncCalls
import Derived.RangeFuncLeaves
import Derived.RangeFuncBox
import Derived.OwnWalkIn
import Derived.TacticsInMore
import Derived.RegionIn
import Derived.LoopNIn
import Derived.LoopIn
import Derived.Maps.AppendAt
import Derived.Shelf.Abstract
import Derived.Shelf.Sort.Plain
import Derived.Shelf.Slices.In.SortNone
import Derived.Test.YtlmaipahgknahaaGreatQNews1
import Derived.Test.YtlmaipahgknahaaGreatQNews2
set_option linter.unusedVariables false
set_option linter.unusedSimpArgs false
namespace Go.Dec
theorem dS {f:FuncId} {fn:Func} {n:Nat} {rv:List RV} {p:Prog} {w:World} {R:List Value->World->Prop} (H:Hints) (args:List Base) (hf:P.funcs[f]? = some fn) (hb:fn.body.isSome=true) (hn:fn.ntmps=n) (hr:z9y fn.results.toList=rv) (he:zf5 P n ⟨zgl,[]⟩ H rv (za2 fn) args=p) (h:p.wp P (λ_=>True) w λe vs w'=>e=0/\R vs w'):Ret P f (args.map Base.v).toArray w R:=z8s (zgg hf hb hn hr) zgm mix args (by rw [he];exact h)
abbrev FnS (p:Prog) (f:FuncId) (vs:Array Value):Prop:=∀ {w:World} {R:List Value->World->Prop},p.wp P (λ_=>True) w (λe vs w'=>e=0/\R vs w')->Ret P f vs w R
theorem dV {f:FuncId} {fn:Func} {p:Prog} {vs:List Value} (H:Hints) (hf:P.funcs[f]? = some fn) (he:(fn.body.isSome,zf5 P fn.ntmps ⟨zgl,[]⟩ H (z9y fn.results.toList) (za2 fn) (vs.map Base.val))=(true,p)):FnS p f vs.toArray:=λh=>by
 have e:=dS H (vs.map Base.val) hf (congrArg Prod.fst he) rfl rfl (congrArg Prod.snd he) h
 rwa [List.map_map,show Base.v∘Base.val=id from rfl,List.map_id] at e
abbrev Aa (n:Int):Value:=.int .i64 n
abbrev Ab (f:FuncId) (l:List Value) (k:(Option Addr)->Int->Prog):Prog:=.call f l (.tup [.one .ptr,.one (.int .i64)]) (u2 k)
abbrev Ac (x:Int) (k:Int->Prog):Prog:=.lt (.int .i64) x k
abbrev Ad (t:TypeId) (k:Addr->Prog):Prog:=.act (new t) sA (u1 k)
abbrev Ae (t:TypeId) (a:Addr) (v:Value) (k:Prog):Prog:=.actU (st t a v) k
abbrev Af (x0:Int) (x1:Int) (x2:Int):Value:=.agg #[.int .i64 x0,.int .i64 x1,.int .i64 x2]
abbrev Ag (t:TypeId) (a:Addr) (k:Int->Int->Int->Prog):Prog:=.read True (ld t a) (sG [.int .i64,.int .i64,.int .i64]) (u3 k)
abbrev Ah (p:Option Addr):Value:=.pointer p
abbrev Ai (b:Bool) (p q:Prog):Prog:=.ite b p q
abbrev Aj (e:Nat) (p:Prog) (k:Bool->Prog):Prog:=.bind e [.one .bool] p (u1 k)
abbrev Ak (f:FuncId) (l:List Value) (k:Bool->Prog):Prog:=.call f l sB (u1 k)
abbrev Al (x:Bool) (k:Bool->Prog):Prog:=.lt (.bool) x k
abbrev Am (e:Nat) (l:List Value):Prog:=.done e l
abbrev An (f:FuncId) (l:List Value) (k:(Option Addr)->Prog):Prog:=.call f l sP (u1 k)
abbrev Ao (f:FuncId) (l:List Value) (k:Prog):Prog:=.call f l (.tup []) (u0 k)
abbrev Ap (t:TypeId) (v:Value) (k:Addr->Prog):Prog:=.act (Instr.box t v) sA (u1 k)
abbrev Aq (t:TypeId) (a:Addr) (i:Nat) (k:Int->Prog):Prog:=.read True (ld t (Addr.add a i)) (sI .i64) (u1 k)
abbrev Ar (g:Prop) (t:TypeId) (a:Addr) (i:Nat) (k:Int->Prog):Prog:=.read g (ld t (Addr.add a i)) (sI .i64) (u1 k)
abbrev As (t:TypeId) (a:Addr) (i:Nat) (k:Int->Int->Prog):Prog:=.read True (ld t (Addr.add a i)) (sG [.int .i64,.int .i64]) (u2 k)
abbrev Au (x0:Int) (x1:Int):Value:=.agg #[.int .i64 x0,.int .i64 x1]
abbrev Av (a:Addr):Value:=.pointer (some a)
abbrev Aw (f:FuncId) (l:List Value) (k:ByteArray->Prog):Prog:=.call f l sS (u1 k)
abbrev Ax (f:FuncId) (l:List Value) (k:Int->Prog):Prog:=.call f l (sI .i64) (u1 k)
abbrev Ay (e:Nat) (p:Prog) (k:Prog):Prog:=.bind e [] p (u0 k)
abbrev Az (f:FuncId) (l:List Value) (k:Sl->Prog):Prog:=.call f l sL (u1 k)
abbrev AA (e:Nat) (x:Int × Unit) (k:Int->Prog):Prog:=.loop e [.one (.int .i64)] x (u1 k)
abbrev AB (l:Sl):Int:=((l.len:Nat):Int)
abbrev AC (t:TypeId) (a:Addr) (i:Nat) (k:Int->Int->Int->Int->Int->Int->Sl->Prog):Prog:=.read True (ld t (Addr.add a i)) (sG [.int .i64,.int .i64,.int .i64,.int .i64,.int .i64,.int .i64,.slc]) (u7 k)
abbrev AD (x0:Int) (x1:Int) (x2:Int) (x3:Int) (x4:Int) (x5:Int) (x6:Sl):Value:=.agg #[.int .i64 x0,.int .i64 x1,.int .i64 x2,.int .i64 x3,.int .i64 x4,.int .i64 x5,x6.v]
abbrev AE (t:TypeId) (a:Addr) (k:Int->Int->Int->Int->Int->Int->Sl->Prog):Prog:=.read True (ld t a) (sG [.int .i64,.int .i64,.int .i64,.int .i64,.int .i64,.int .i64,.slc]) (u7 k)
abbrev AF (n:Int):Int:=IntKind.wrap .i64 n
abbrev AG (f:FuncId) (l:List Value) (k:Int->Int->Int->Int->Int->Int->Sl->Prog):Prog:=.call f l (sG [.int .i64,.int .i64,.int .i64,.int .i64,.int .i64,.int .i64,.slc]) (u7 k)
abbrev AH (x:Bool) (p q:Prog):Prog:=.lt .bool x λb=>.ite b p q
abbrev AI (s:Option Addr) (k:Addr->Prog):Prog:=.ex [.adr] (c1 λa=>s=some a) (u1 k)
abbrev AJ (t:TypeId) (a:Addr) (i:Nat) (k:(Option Addr)->Prog):Prog:=.read True (ld t (Addr.add a i)) sP (u1 k)
abbrev AK (f:FuncId) (l:List Value) (k:Sl->Int->Prog):Prog:=.call f l (.tup [.one .slc,.one (.int .i64)]) (u2 k)
abbrev AL (k:Prog):Prog:=.tick k
abbrev AM (g:Prop) (t:TypeId) (a:Addr) (i:Nat) (k:Int->Prog):Prog:=.hold g (ld t (Addr.add a i)) (sI .i64) (u1 k)
abbrev AN (k:Prog):Prog:=.untick k
abbrev AO (g:Prop) (s:Option Addr) (k:Addr->Prog):Prog:=.ex [.adr] (c1 λa=>g->s=some a) (u1 k)
abbrev AP (g:Prop) (t:TypeId) (a:Addr) (k:Int->Int->Int->Int->Int->Int->Sl->Prog):Prog:=.read g (ld t a) (sG [.int .i64,.int .i64,.int .i64,.int .i64,.int .i64,.int .i64,.slc]) (u7 k)
abbrev AQ (e:Nat) (p:Prog) (k:Sl->Prog):Prog:=.bind e [.one .slc] p (u1 k)
abbrev AR (m:Sem Value) (k:Sl->Prog):Prog:=.act m sL (u1 k)
abbrev AS (g:Prop) (t:TypeId) (a:Addr) (i:Nat) (k:(Option Addr)->Prog):Prog:=.hold g (ld t (Addr.add a i)) sP (u1 k)
abbrev AT (t:TypeId) (a:Addr) (i:Nat) (k:ByteArray->Prog):Prog:=.read True (ld t (Addr.add a i)) sS (u1 k)
abbrev AU (x:ByteArray) (k:ByteArray->Prog):Prog:=.lt (.str) x k
abbrev AV (t:TypeId) (a:Addr) (i:Nat) (v:Value) (k:Prog):Prog:=.actU (st t (Addr.add a i) v) k
abbrev AW (t:TypeId) (a:Addr) (i:Nat) (k:(Option Addr)->Prog):Prog:=.hold True (ld t (Addr.add a i)) sP (u1 k)
abbrev AX (f:FuncId) (l:List Value) (k:Sl->Bool->Prog):Prog:=.call f l (.tup [.one .slc,.one .bool]) (u2 k)
abbrev AY (f:FuncId) (l:List Value) (k:Int->Prog):Prog:=.call f l (sI .u64) (u1 k)
abbrev AZ (x:Int) (k:Int->Prog):Prog:=.lt (.int .u64) x k
abbrev Ba (f:FuncId) (l:List Value) (k:Bool->Int->Int->Prog):Prog:=.call f l (.tup [.agg [.bool,.int .i64],.one (.int .i64)]) (u3 k)
abbrev Bb (x0:Bool) (x1:Int):Value:=.agg #[.bool x0,.int .i64 x1]
abbrev Bc (g:Prop) (t:TypeId) (a:Addr) (i:Nat) (k:Bool->Prog):Prog:=.read g (ld t (Addr.add a i)) sB (u1 k)
abbrev Bd (t:TypeId) (a:Addr) (i:Nat) (k:Bool->Prog):Prog:=.read True (ld t (Addr.add a i)) sB (u1 k)
abbrev Be (e:Nat) (p:Prog) (k:Int->Int->Prog):Prog:=.bind e [.one (.int .i64),.one (.int .i64)] p (u2 k)
abbrev Bf (f:FuncId) (l:List Value) (k:Int->Int->Prog):Prog:=.call f l (.tup [.one (.int .i64),.one (.int .i64)]) (u2 k)
abbrev Bg (e:Nat) (p:Prog) (k:Int->Prog):Prog:=.bind e [.one (.int .i64)] p (u1 k)
abbrev Bh (e:Nat) (p:Prog) (k:Addr->Bool->Prog):Prog:=.bind e [.one .adr,.one .bool] p (u2 k)
abbrev Bi (t:TypeId) (a:Addr) (i:Nat) (k:(Option Nat)->Prog):Prog:=.hold True (ld t (Addr.add a i)) sM (u1 k)
abbrev Bj (t:TypeId) (a:Addr) (i:Nat) (k:Int->Prog):Prog:=.hold True (ld t (Addr.add a i)) (sI .i64) (u1 k)
abbrev Bk (m:Sem Value) (k:Int->Int->Int->Int->Bool->Prog):Prog:=.hold True m (.tup [.agg [.int .i64,.int .i64,.int .i64,.int .i64],.one .bool]) (u5 k)
abbrev Bl (x0:Int) (x1:Int) (x2:Int) (x3:Int):Value:=.agg #[.int .i64 x0,.int .i64 x1,.int .i64 x2,.int .i64 x3]
abbrev Bn (t:TypeId) (a:Addr) (i:Nat) (k:(Option Nat)->Prog):Prog:=.read True (ld t (Addr.add a i)) sM (u1 k)
abbrev Bo (t:TypeId) (a:Addr) (k:Int->Int->Int->Int->Prog):Prog:=.read True (ld t a) (sG [.int .i64,.int .i64,.int .i64,.int .i64]) (u4 k)
abbrev Bp (t:TypeId) (a:Addr) (i:Nat) (k:Sl->Prog):Prog:=.read True (ld t (Addr.add a i)) sL (u1 k)
abbrev Bq (t:TypeId) (a:Addr) (k:Bool->Int->Prog):Prog:=.read True (ld t a) (sG [.bool,.int .i64]) (u2 k)
abbrev Br (e:Nat) (x:Int × Int × Unit) (k:Int->Int->Prog):Prog:=.loop e [.one (.int .i64),.one (.int .i64)] x (u2 k)
abbrev Bs (x0:Int) (x1:Int) (x2:Int) (x3:Int) (x4:Int) (x5:Int) (x6:Int):Value:=.agg #[.int .i64 x0,.int .i64 x1,.int .i64 x2,.int .i64 x3,.int .i64 x4,.int .i64 x5,.int .i64 x6]
abbrev Bt (g:Prop) (t:TypeId) (a:Addr) (k:Int->Int->Int->Int->Int->Int->Int->Prog):Prog:=.read g (ld t a) (sG [.int .i64,.int .i64,.int .i64,.int .i64,.int .i64,.int .i64,.int .i64]) (u7 k)
abbrev Bu (t:TypeId) (a:Addr) (k:Int->Int->Int->Int->Int->Int->Int->Prog):Prog:=.read True (ld t a) (sG [.int .i64,.int .i64,.int .i64,.int .i64,.int .i64,.int .i64,.int .i64]) (u7 k)
abbrev Bv (m:Sem Unit) (k:Prog):Prog:=.actU m k
abbrev Bw (t:TypeId) (a:Addr) (i:Nat) (k:Int->Int->Int->Int->Prog):Prog:=.read True (ld t (Addr.add a i)) (sG [.int .i64,.int .i64,.int .i64,.int .i64]) (u4 k)
abbrev Bx (g:Prop) (t:TypeId) (a:Addr) (i:Nat) (k:Sl->Prog):Prog:=.read g (ld t (Addr.add a i)) sL (u1 k)
abbrev By (g:Prop) (t:TypeId) (a:Addr) (i:Nat) (k:(Option Nat)->Prog):Prog:=.read g (ld t (Addr.add a i)) sM (u1 k)
abbrev Bz (g:Prop) (m:Sem Value) (k:Int->Int->Prog):Prog:=.read g m (sG [.int .i64,.int .i64]) (u2 k)
abbrev B0 (g:Prop) (m:Sem Value) (k:Int->Prog):Prog:=.read g m (sI .i64) (u1 k)
abbrev B1 (a:Addr) (i:Nat):Value:=.pointer (some (Addr.add a i))
abbrev B2 (m:Sem Value) (k:(Option Addr)->Prog):Prog:=.read True m sP (u1 k)
abbrev B3 (t:TypeId) (a:Addr) (i:Nat) (k:Int->Prog):Prog:=.read True (ld t (Addr.add a i)) (sI .u8) (u1 k)
abbrev B4 (x:Int) (k:Int->Prog):Prog:=.lt (.int .u8) x k
abbrev B5 (t:TypeId) (a:Addr) (k:Sl->Int->Prog):Prog:=.read True (ld t a) (sG [.slc,.int .i64]) (u2 k)
abbrev B6 (x0:Sl) (x1:Int):Value:=.agg #[x0.v,.int .i64 x1]
abbrev B7 (g:Prop) (t:TypeId) (a:Addr) (i:Nat) (k:ByteArray->Prog):Prog:=.read g (ld t (Addr.add a i)) sS (u1 k)
abbrev B8 (f:FuncId) (l:List Value) (k:Int->Bool->Prog):Prog:=.call f l (.tup [.one (.int .i64),.one .bool]) (u2 k)
abbrev B9 (g:Prop) (t:TypeId) (a:Addr) (i:Nat) (k:Int->Int->Int->Int->Prog):Prog:=.read g (ld t (Addr.add a i)) (sG [.int .i64,.int .i64,.int .i64,.int .i64]) (u4 k)
abbrev BA (f:Value) (l:List Value) (k:Int->Prog):Prog:=.callv f l (sI .i64) (u1 k)
abbrev BB (t:TypeId) (a:Addr) (k:Int->Prog):Prog:=.read True (ld t a) (sI .i64) (u1 k)
abbrev BC (e:Nat) (p:Prog) (k:Int->Int->Prog):Prog:=.bind e [.one (.int .u64),.one (.int .i64)] p (u2 k)
abbrev BD (t:TypeId) (a:Addr) (k:Int->Prog):Prog:=.read True (ld t a) (sI .u64) (u1 k)
abbrev BE (t:TypeId) (a:Addr) (k:(Option Addr)->Prog):Prog:=.read True (ld t a) sP (u1 k)
abbrev BF (m:Sem Value) (k:Sl->Prog):Prog:=.read True m sL (u1 k)
abbrev BG (e:Nat) (x:Sl × Int × Unit) (k:Sl->Int->Prog):Prog:=.loop e [.one .slc,.one (.int .i64)] x (u2 k)
abbrev BH (t:TypeId) (a:Addr) (i:Nat) (k:ByteArray->ByteArray->Bool->Int->Prog):Prog:=.read True (ld t (Addr.add a i)) (sG [.str,.str,.bool,.int .i64]) (u4 k)
abbrev BI (x0:ByteArray) (x1:ByteArray) (x2:Bool) (x3:Int):Value:=.agg #[.string x0,.string x1,.bool x2,.int .i64 x3]
abbrev BJ (t:TypeId) (a:Addr) (k:ByteArray->ByteArray->Bool->Int->Prog):Prog:=.read True (ld t a) (sG [.str,.str,.bool,.int .i64]) (u4 k)
abbrev BK (x0:Int) (x1:Int) (x2:Sl):Value:=.agg #[.int .i64 x0,.int .i64 x1,x2.v]
abbrev BL (f:FuncId) (l:List Value) (k:Sl->Int->Bool->Prog):Prog:=.call f l (.tup [.one .slc,.one (.int .i64),.one .bool]) (u3 k)
abbrev BM (t:TypeId) (p:Option Addr) (k:Int->Prog):Prog:=.read True (Instr.loadAt t (.pointer p)) (sI .i64) (u1 k)
abbrev BN (t:TypeId) (a:Addr) (i:Nat) (k:Sl->Prog):Prog:=.hold True (ld t (Addr.add a i)) sL (u1 k)
abbrev BO (f:FuncId) (l:List Value) (k:Int->Prog):Prog:=.call f l (sI .u32) (u1 k)
abbrev BQ (x:Int) (k:Int->Prog):Prog:=.lt (.int .u32) x k
abbrev BR (e:Nat) (p:Prog) (k:Int->Prog):Prog:=.bind e [.one (.int .u32)] p (u1 k)
abbrev BS (e:Nat) (x:Int × Int × Unit) (k:Int->Int->Prog):Prog:=.loop e [.one (.int .u32),.one (.int .i64)] x (u2 k)
def zzy (seg gap:Int) (most:Int):Prog :=
Ab F.a32 [Aa 1000] λp0 n1=>
Ac n1 λn2=>
Ad T.a31 λa3=>
Ae T.a31 a3 (Af seg gap most)<|
Ag T.a31 a3 λn4 n5 n6=>
Ab F.a68 [Ah p0,.string (ByteArray.mk #[112]),Af n4 n5 n6] λp7 n8=>
Ac n8 λn9=>
Ai (decide (most<1) || decide (most>1024) || decide (seg<64) || decide (seg>4194304) || decide (gap<1) || decide (gap>4194304)) (
Aj 1 (
Ai (Option.isNone p7 && n9 == 2) (
Ak F.a164 [] λb10=>
Al b10 λb11=>
Am 1 [.bool b11])<|
Am 1 [.bool false]) λb12=>
Am 0 [.bool b12])<|
Aj 1 (
Ai (n9 != 0) (
Am 1 [.bool true])<|
An F.a183 [Aa seg,Aa gap,Aa most] λp13=>
Ak F.a165 [Ah p7,Ah p13] λb14=>
Am 1 [.bool (not b14)]) λb15=>
Ai b15 (
Am 0 [.bool false])<|
Ao F.a21 [Ah p0,Aa 0]<|
Ag T.a31 a3 λn16 n17 n18=>
Ab F.a68 [Ah p0,.string (ByteArray.mk #[112]),Af n16 n17 n18] λp19 n20=>
Ac n20 λn21=>
Ag T.a31 a3 λn22 n23 n24=>
Ab F.a68 [Ah none,.string (ByteArray.mk #[112]),Af n22 n23 n24] λp25 n26=>
Ac n26 λn27=>
Aj 1 (
Ai (Option.isNone p19 && n21 == 9 && Option.isNone p25 && n27 == 1) (
Ak F.a164 [] λb28=>
Al b28 λb29=>
Am 1 [.bool b29])<|
Am 1 [.bool false]) λb30=>
Am 0 [.bool b30]
theorem znd (seg gap most:Int):FnS (zzy seg gap most) F.a162 #[.int .i64 seg,.int .i64 gap,.int .i64 most]:=dV ⟨[],[],[(5,[(6,.one .bool)]),(6,[(72,.one .bool)]),(11,[(6,.one .bool)])],[]⟩ Go.Proofs.Tryz.func6 (by kernel_rfl)
def zt4 (d:Option Addr) (prefix_:ByteArray) (c_0 c_1:Int) (c_2:Int):Prog :=
Ap T.a31 (Af c_0 c_1 c_2) λa0=>
Aq T.a12 a0 2 λn1=>
Ar (decide (n1<1)=false) T.a12 a0 2 λn2=>
Ai (decide (n1<1) || decide (n2>1024)) (
Ai (Option.isNone d) (
Am 0 [Ah none,Aa 1])<|
Am 0 [Ah none,Aa 2])<|
As T.a47 a0 0 λn3 n4=>
Ab F.a121 [Ah d,.string prefix_,Au n3 n4] λp5 n6=>
Ac n6 λn7=>
Ai (n7 != 0) (
Ac n7 λn8=>
Am 0 [Ah none,Aa n8])<|
Aq T.a12 a0 2 λn9=>
Ap T.a32 (.agg #[Ah p5,Ah d,.string prefix_,Aa n9,Ah none,Ah none]) λa10=>
Aj 1 (
Aw F.a81 [Av a10] λs11=>
Ax F.a26 [Ah d,.string s11] λn12=>
Ai (decide (n12>0)) (
Am 1 [.bool true])<|
Aw F.a81 [Av a10] λs13=>
Ak F.a82 [Ah d,.string s13] λb14=>
Am 1 [.bool b14]) λb15=>
Ay 1 (
Ai b15 (
Aw F.a81 [Av a10] λs16=>
Ax F.a25 [Ah d,.string s16] λn17=>
Ac n17 λn18=>
Ai (n18 != 0) (
Ac n18 λn19=>
Am 0 [Ah none,Aa n19])<|
Am 1 [])<|
Am 1 [])<|
Ax F.a77 [Av a10] λn20=>
Ac n20 λn21=>
Az F.a102 [Ah p5] λl22=>
Ay 1 (
AA 2 (0,()) λn23=>
Ai (decide (n23<(AB l22))) (
.ex [.adr] (c1 λa24=>0<=n23/\n23<(AB l22)/\l22.a=some a24) (u1 λa25=>
AC T.a0 a25 (Int.toNat n23*7) λn26 n27 n28 n29 n30 n31 l32=>
Ad T.a0 λa33=>
Ae T.a0 a33 (AD n26 n27 n28 n29 n30 n31 l32)<|
Aq T.a13 a33 0 λn34=>
Ay 3 (
Ai (decide (n34>=n21)) (
AE T.a0 a33 λn35 n36 n37 n38 n39 n40 l41=>
Ao F.a80 [Av a10,AD n35 n36 n37 n38 n39 n40 l41]<|
Am 3 [])<|
Am 3 [])<|
Am 2 [Aa (AF (n23+1))]))<|
Am 1 [])<|
Am 0 [Av a10,Aa 0]
theorem zbg (d:Option Addr) (prefix_:ByteArray) (c_0 c_1 c_2:Int):FnS (zt4 d prefix_ c_0 c_1 c_2) F.a68 #[.pointer d,.string prefix_,.agg #[.int .i64 c_0,.int .i64 c_1,.int .i64 c_2]]:=dV ⟨[(18741891978888913616950,[]),(1083197534374707740536733770,[])],[(0,[])],[(9,[(54,.one .bool)])],[(0,[(67,.one (.int .i64))])]⟩ Go.Proofs.Tryz.func12 (by kernel_rfl)
def z05u (p:Option Addr) (pid epoch:Int) (commit:Bool) (time:Int):Prog :=
Ai (Option.isNone p) (
Am 0 [Aa 0,.bool false,Aa 1])<|
AG F.a89 [Aa pid,Aa epoch,.bool commit,Aa time] λn0 n1 n2 n3 n4 n5 l6=>
.call F.a78 [Ah p,AD n0 n1 n2 n3 n4 n5 l6] (.tup [.one (.int .i64),.one .bool,.one (.int .i64)]) (u3 λ(n7:Int) b8 (n9:Int)=>
Ac n7 λn10=>
Al b8 λb11=>
Ac n9 λn12=>
Am 0 [Aa n10,.bool b11,Aa n12])
theorem zt8 (p:Option Addr) (pid epoch:Int) (commit:Bool) (time:Int):FnS (z05u p pid epoch commit time) F.a72 #[.pointer p,.int .i64 pid,.int .i64 epoch,.bool commit,.int .i64 time]:=dV ⟨[],[],[],[]⟩ Go.Proofs.Tryz.func14 (by kernel_rfl)
def z05r (p:Option Addr) (b_0 b_1 b_2 b_3 b_4 b_5:Int) (b_6:Sl):Prog :=
Ap T.a0 (AD b_0 b_1 b_2 b_3 b_4 b_5 b_6) λa0=>
AH (Option.isNone p) (
Am 0 [Aa 0,.bool false,Aa 1])<|
AE T.a0 a0 λn2 n3 n4 n5 n6 n7 l8=>
Ak F.a83 [AD n2 n3 n4 n5 n6 n7 l8] λb9=>
AH b9 (
Am 0 [Aa 0,.bool false,Aa 2])<|
AE T.a0 a0 λn11 n12 n13 n14 n15 n16 l17=>
.call F.a78 [Ah p,AD n11 n12 n13 n14 n15 n16 l17] (.tup [.one (.int .i64),.one .bool,.one (.int .i64)]) (u3 λ(n18:Int) b19 (n20:Int)=>
Ac n18 λn21=>
Al b19 λb22=>
Ac n20 λn23=>
Am 0 [Aa n21,.bool b22,Aa n23])
theorem zt5 (p:Option Addr) (b_0 b_1 b_2 b_3 b_4 b_5:Int) (b_6:Sl):FnS (z05r p b_0 b_1 b_2 b_3 b_4 b_5 b_6) F.a69 #[.pointer p,.agg #[.int .i64 b_0,.int .i64 b_1,.int .i64 b_2,.int .i64 b_3,.int .i64 b_4,.int .i64 b_5,.slice b_6.a b_6.len b_6.cap]]:=dV ⟨[],[],[],[]⟩ Go.Proofs.Tryz.func15 (by kernel_rfl)
def z05w (p:Option Addr) (offset most:Int) (committed:Bool):Prog :=
Ai (Option.isNone p) (
Am 0 [.slice none 0 0,Aa 0,Aa 1])<|
AI p λa1=>
AJ T.a27 (Addr.add a1 0) 0 λp2=>
AK F.a106 [Ah p2,Aa offset,Aa most] λl3 n4=>
Ac n4 λn5=>
Ai (n5 != 0) (
Ac n5 λn6=>
Am 0 [.slice none 0 0,Aa 0,Aa n6])<|
Ac offset λn7=>
.bind 1 [.one .slc,.one (.int .i64)] (
.loop 2 [.one .slc,.one (.int .i64),.one (.int .i64)] (⟨none,0,0⟩,(n7,(0,()))) (u3 λl8 (n9 n10:Int)=>
Ai (decide (n10<(AB l3))) (
.ex [.adr] (c1 λa11=>0<=n10/\n10<(AB l3)/\l3.a=some a11) (u1 λa12=>
AC T.a0 a12 (Int.toNat n10*7) λn13 n14 n15 n16 n17 n18 l19=>
Ad T.a0 λa20=>
Ae T.a0 a20 (AD n13 n14 n15 n16 n17 n18 l19)<|
Aj 3 (
AL<|
AM (committed=true) T.a13 a20 0 λn21=>
Ai committed (
Ax F.a75 [Ah p] λn22=>
AN<|
Am 3 [.bool (decide (n21>=n22))])<|
AN<|
Am 3 [.bool false]) λb23=>
Ai b23 (
Am 1 [l8.v,Aa n9])<|
Aj 3 (
AL<|
AO (not committed=false) p λa25=>
.read (not committed=false) (ld T.a26 (Addr.add a25 5)) sP (u1 λp26=>
AP (not committed=false) T.a0 a20 λn27 n28 n29 n30 n31 n32 l33=>
Ai (not committed) (
AN<|
Am 3 [.bool true])<|
Ax F.a51 [Ah p26,AD n27 n28 n29 n30 n31 n32 l33] λn34=>
AN<|
Am 3 [.bool (n34 == 1)])) λb35=>
AQ 3 (
Ai b35 (
AE T.a0 a20 λn36 n37 n38 n39 n40 n41 l42=>
AR (Instr.buildSlice T.a34 1 #[(0,AD n36 n37 n38 n39 n40 n41 l42)]) λl43=>
Az F.a87 [l43.v] λl44=>
AR (app T.a40 T.a40 T.a40 l8.v l44.v) λl45=>
Am 3 [l45.v])<|
Am 3 [l8.v]) λl46=>
AE T.a0 a20 λn47 n48 n49 n50 n51 n52 l53=>
Ax F.a90 [AD n47 n48 n49 n50 n51 n52 l53] λn54=>
Ac n54 λn55=>
Am 2 [l46.v,Aa n55,Aa (AF (n10+1))]))<|
Am 1 [l8.v,Aa n9])) (u2 λl56 (n57:Int)=>
Ac n57 λn58=>
Am 0 [l56.v,Aa n58,Aa 0])
theorem zta (p:Option Addr) (offset most:Int) (committed:Bool):FnS (z05w p offset most committed) F.a74 #[.pointer p,.int .i64 offset,.int .i64 most,.bool committed]:=dV ⟨[(73196680484479534366778,[(13,.one .slc)])],[(0,[(13,.one .slc),(14,.one (.int .i64))])],[(11,[(47,.one .bool)]),(12,[(58,.one .bool)])],[(0,[(13,.one .slc),(14,.one (.int .i64)),(36,.one (.int .i64))])]⟩ Go.Proofs.Tryz.func16 (by kernel_rfl)
def z05s (p:Option Addr):Prog :=
Ai (Option.isNone p) (
Am 0 [.slice none 0 0])<|
AI p λa1=>
AJ T.a27 (Addr.add a1 0) 0 λp2=>
Az F.a102 [Ah p2] λl3=>
Am 0 [l3.v]
theorem zt6 (p:Option Addr):FnS (z05s p) F.a70 #[.pointer p]:=dV ⟨[],[],[],[]⟩ Go.Proofs.Tryz.func17 (by kernel_rfl)
def z05x (p:Option Addr):Prog :=
Ai (Option.isNone p) (
Am 0 [Aa 0])<|
AI p λa1=>
AJ T.a26 a1 5 λp2=>
Az F.a54 [Ah p2] λl3=>
Ai ((AB l3) == 0) (
Ax F.a73 [Ah p] λn4=>
Ac n4 λn5=>
Am 0 [Aa n5])<|
AI p λa7=>
AJ T.a26 a7 5 λp8=>
Ax F.a56 [Ah p8] λn9=>
Ax F.a71 [Ah p] λn10=>
Ac (if n10>n9 then n10 else n9) λn11=>
Am 0 [Aa n11]
theorem ztb (p:Option Addr):FnS (z05x p) F.a75 #[.pointer p]:=dV ⟨[],[],[],[]⟩ Go.Proofs.Tryz.func18 (by kernel_rfl)
def z82  : Prog :=
.call F.a32 [.int .i64 10000] (.tup [.one .ptr,.one (.int .i64)]) (u2 λp0 (n1:Int) =>
.lt (.int .i64) (n1) λ(n2:Int) =>
.call F.a68 [.pointer p0,.string (ByteArray.mk #[112]),.agg #[.int .i64 100,.int .i64 9,.int .i64 4]] (.tup [.one .ptr,.one (.int .i64)]) (u2 λp3 (n4:Int) =>
.lt (.int .i64) (n4) λ(n5:Int) =>
.ite (n5 != 0 || Option.isNone p3) (
.done 0 [.bool false]) (
.act (Instr.buildSlice T.a35 1 #[(0,.agg #[.string (ByteArray.mk #[107]),.string (ByteArray.mk #[]),.bool false,.int .i64 0])]) sL (u1 λl6 =>
.act (new T.a0) sA (u1 λa7 =>
.actU (st T.a0 a7 (.agg #[.int .i64 0,.int .i64 3,.int .i64 0,.int .i64 0,.int .i64 1,.int .i64 0,l6.v])) <|
.read True (ld T.a0 a7) (sG [.int .i64,.int .i64,.int .i64,.int .i64,.int .i64,.int .i64,.slc]) (u7 λ(n8 n9 n10 n11 n12 n13:Int) l14 =>
.call F.a69 [.pointer p3,.agg #[.int .i64 n8,.int .i64 n9,.int .i64 n10,.int .i64 n11,.int .i64 n12,.int .i64 n13,l14.v]] (.tup [.one (.int .i64),.one .bool,.one (.int .i64)]) (u3 λ(n15:Int) b16 (n17:Int) =>
.lt (.int .i64) (n15) λ(n18:Int) =>
.lt (.bool) (b16) λb19 =>
.lt (.int .i64) (n17) λ(n20:Int) =>
.read True (ld T.a0 a7) (sG [.int .i64,.int .i64,.int .i64,.int .i64,.int .i64,.int .i64,.slc]) (u7 λ(n21 n22 n23 n24 n25 n26:Int) l27 =>
.call F.a69 [.pointer p3,.agg #[.int .i64 n21,.int .i64 n22,.int .i64 n23,.int .i64 n24,.int .i64 n25,.int .i64 n26,l27.v]] (.tup [.one (.int .i64),.one .bool,.one (.int .i64)]) (u3 λ(n28:Int) b29 (n30:Int) =>
.lt (.int .i64) (n28) λ(n31:Int) =>
.lt (.bool) (b29) λb32 =>
.lt (.int .i64) (n30) λ(n33:Int) =>
.call F.a74 [.pointer p3,.int .i64 0,.int .i64 9,.bool true] (.tup [.one .slc,.one (.int .i64),.one (.int .i64)]) (u3 λl34 (n35 n36:Int) =>
.lt (.int .i64) (n35) λ(n37:Int) =>
.lt (.int .i64) (n36) λ(n38:Int) =>
.call F.a74 [.pointer p3,.int .i64 0,.int .i64 9,.bool false] (.tup [.one .slc,.one (.int .i64),.one (.int .i64)]) (u3 λl39 (n40 n41:Int) =>
.lt (.int .i64) (n40) λ(n42:Int) =>
.lt (.int .i64) (n41) λ(n43:Int) =>
.call F.a72 [.pointer p3,.int .i64 3,.int .i64 0,.bool true,.int .i64 0] (.tup [.one (.int .i64),.one .bool,.one (.int .i64)]) (u3 λ(n44:Int) b45 (n46:Int) =>
.lt (.int .i64) (n44) λ(n47:Int) =>
.lt (.bool) (b45) λb48 =>
.lt (.int .i64) (n46) λ(n49:Int) =>
.call F.a74 [.pointer p3,.int .i64 0,.int .i64 9,.bool true] (.tup [.one .slc,.one (.int .i64),.one (.int .i64)]) (u3 λl50 (n51 n52:Int) =>
.lt (.int .i64) (n51) λ(n53:Int) =>
.lt (.int .i64) (n52) λ(n54:Int) =>
.lt (.bool) (n18 == 0 && not b19 && n20 == 0 && n31 == 0 && b32 && n33 == 0 && ((l34.len:Nat):Int) == 0 && n37 == 0 && ((l39.len:Nat):Int) == 1 && n42 == 1 && n47 == 1 && n49 == 0 && ((l50.len:Nat):Int) == 1 && n53 == 2) λb55 =>
.done 0 [.bool b55])))))))))))))
theorem z96 :FnS (z82 ) F.a164 #[]:=dV ⟨[],[],[],[]⟩ Go.Proofs.Tryz.func20 (by kernel_rfl)
def z00a (seg gap:Int) (most:Int):Prog :=
Ap T.a53 (.agg #[Aa seg,Aa gap,.slice none 0 0]) λa0=>
Ap T.a55 (.agg #[Aa most,Aa 0,.slice none 0 0]) λa1=>
Ap T.a57 (.agg #[Aa 0,.slice none 0 0,.slice none 0 0]) λa2=>
Ap T.a58 (.agg #[Av a0,Av a1,Av a2,.bool false,Aa 0,Ah none,Ah none]) λa3=>
Am 0 [Av a3]
theorem znp (seg gap most:Int):FnS (z00a seg gap most) F.a183 #[.int .i64 seg,.int .i64 gap,.int .i64 most]:=dV ⟨[],[],[],[]⟩ Go.Proofs.Tryz.func21 (by kernel_rfl)
def z000 (p:Option Addr) (r:Option Addr):Prog :=
Aj 1 (
AL<|
AO (Option.isNone p=false) r λa1=>
AS (Option.isNone p=false) T.a29 a1 0 λp2=>
Ai (Option.isNone p) (
AN<|
AN<|
AN<|
AN<|
Am 1 [.bool true])<|
Ax F.a71 [Ah p] λn3=>
AN<|
Ax F.a176 [Ah p2] λn4=>
AO ((n3 != n4)=false) r λa6=>
AS ((n3 != n4)=false) T.a29 a6 0 λp7=>
Ai (n3 != n4) (
AN<|
AN<|
AN<|
Am 1 [.bool true])<|
Ax F.a73 [Ah p] λn8=>
AN<|
Ax F.a177 [Ah p7] λn9=>
Ai (n8 != n9) (
AN<|
AN<|
Am 1 [.bool true])<|
Ax F.a75 [Ah p] λn10=>
Ax F.a185 [Ah r] λn11=>
AO ((n10 != n11)=false) r λa13=>
AS ((n10 != n11)=false) T.a29 a13 0 λp14=>
Ai (n10 != n11) (
AN<|
AN<|
Am 1 [.bool true])<|
Az F.a70 [Ah p] λl15=>
AN<|
Az F.a175 [Ah p14] λl16=>
Ak F.a171 [l15.v,l16.v] λb17=>
AN<|
Am 1 [.bool (not b17)]) λb18=>
Ai b18 (
Am 0 [.bool false])<|
Ax F.a71 [Ah p] λn19=>
.call F.a74 [Ah p,Aa n19,Aa 1000,.bool true] (.tup [.one .slc,.one (.int .i64),.one (.int .i64)]) (u3 λl20 (n21 n22:Int)=>
Ac n21 λn23=>
Ac n22 λn24=>
AI r λa26=>
AJ T.a29 a26 0 λp27=>
Ax F.a176 [Ah p27] λn28=>
.call F.a184 [Ah r,Aa n28,Aa 1000,.bool true] (.tup [.one .slc,.one (.int .i64),.one (.int .i64)]) (u3 λl29 (n30 n31:Int)=>
Ac n30 λn32=>
Ac n31 λn33=>
Aj 1 (
Ai (n24 == n33 && n23 == n32) (
Ak F.a163 [l20.v,l29.v] λb34=>
Al b34 λb35=>
Am 1 [.bool b35])<|
Am 1 [.bool false]) λb36=>
Am 0 [.bool b36]))
theorem znf (p r:Option Addr):FnS (z000 p r) F.a165 #[.pointer p,.pointer r]:=dV ⟨[],[],[(1,[(50,.one .bool)]),(5,[(4,.one .bool)])],[]⟩ Go.Proofs.Tryz.func24 (by kernel_rfl)
def z05v (p:Option Addr):Prog :=
Ai (Option.isNone p) (
Am 0 [Aa 0])<|
AI p λa1=>
AJ T.a27 (Addr.add a1 0) 0 λp2=>
Ax F.a105 [Ah p2] λn3=>
Ac n3 λn4=>
Am 0 [Aa n4]
theorem zt9 (p:Option Addr):FnS (z05v p) F.a73 #[.pointer p]:=dV ⟨[],[],[],[]⟩ Go.Proofs.Tryz.func28 (by kernel_rfl)
def z05t (p:Option Addr):Prog :=
Ai (Option.isNone p) (
Am 0 [Aa 0])<|
AI p λa1=>
AJ T.a27 (Addr.add a1 0) 0 λp2=>
Ax F.a104 [Ah p2] λn3=>
Ac n3 λn4=>
Am 0 [Aa n4]
theorem zt7 (p:Option Addr):FnS (z05t p) F.a71 #[.pointer p]:=dV ⟨[],[],[],[]⟩ Go.Proofs.Tryz.func36 (by kernel_rfl)
def z063 (p:Option Addr):Prog :=
AI p λa1=>
AT T.a51 (Addr.add a1 0) 2 λs2=>
.must (((ByteArray.size s2+4:Nat):Int)<=9223372036854775807) <|
AU (s2++(ByteArray.mk #[46,116,109,112])) λs3=>
Am 0 [.string s3]
theorem zth (p:Option Addr):FnS (z063 p) F.a81 #[.pointer p]:=dV ⟨[],[],[],[]⟩ Go.Proofs.Tryz.func42 (by kernel_rfl)
def z064 (d:Option Addr) (name:ByteArray):Prog :=
AK F.a24 [Ah d,.string name] λl0 n1=>
Ac n1 λn2=>
Al (n2 == 0) λb3=>
Am 0 [.bool b3]
theorem zti (d:Option Addr) (name:ByteArray):FnS (z064 d name) F.a82 #[.pointer d,.string name]:=dV ⟨[],[],[],[]⟩ Go.Proofs.Tryz.func43 (by kernel_rfl)
def z05z (p:Option Addr):Prog :=
AI p λa1=>
Aq T.a12 a1 3 λn2=>
Ab F.a6 [Aa n2] λp3 n4=>
AI p λa6=>
AV T.a22 a6 4 (Ah p3)<|
An F.a49 [] λp7=>
AI p λa9=>
AV T.a26 a9 5 (Ah p7)<|
AQ 1 (
AL<|
AI p λa11=>
AW T.a23 (Addr.add a11 0) 1 λp12=>
Aw F.a79 [Ah p] λs13=>
AN<|
AK F.a24 [Ah p12,.string s13] λl14 n15=>
Ac n15 λn16=>
AN<|
Am 1 [l14.v]) λl17=>
AX F.a36 [l17.v] λl18 b19=>
Al b19 λb20=>
Ai (not b20) (
Am 0 [Aa 0])<|
An F.a189 [l18.v] λp21=>
AY F.a196 [Ah p21] λn22=>
Aw F.a195 [Ah p21,Aa 262144] λs23=>
Aw F.a195 [Ah p21,Aa 262144] λs24=>
AZ n22 λn25=>
AU s23 λs26=>
AU s24 λs27=>
Aj 1 (
Ax F.a191 [Ah p21] λn28=>
Ai (n28 != 0) (
Am 1 [.bool true])<|
Ax F.a73 [Ah p] λn29=>
Ai (decide (n25>IntKind.wrap .u64 n29)) (
Am 1 [.bool true])<|
Ax F.a71 [Ah p] λn30=>
Am 1 [.bool (decide (AF n25<n30))]) λb31=>
Ai b31 (
Am 0 [Aa 0])<|
AR (convert T.a51 T.a46 (.string s26)) λl32=>
AI p λa34=>
Aq T.a12 a34 3 λn35=>
Ab F.a5 [l32.v,Aa n35] λp36 n37=>
Ac n37 λn38=>
Aj 1 (
Ai (n38 != 0) (
Am 1 [.bool true])<|
Ax F.a10 [Ah p36] λn39=>
Am 1 [.bool (decide (n39>AF n25))]) λb40=>
Ai b40 (
Am 0 [Aa 0])<|
AR (convert T.a51 T.a46 (.string s27)) λl41=>
Ab F.a48 [l41.v] λp42 n43=>
Ac n43 λn44=>
Aj 1 (
Ai (n44 != 0) (
Am 1 [.bool true])<|
Ax F.a53 [Ah p42] λn45=>
Am 1 [.bool (decide (n45>AF n25))]) λb46=>
Ai b46 (
Am 0 [Aa 0])<|
AI p λa48=>
AV T.a22 a48 4 (Ah p36)<|
AI p λa50=>
AV T.a26 a50 5 (Ah p42)<|
Ac (AF n25) λn51=>
Am 0 [Aa n51]
theorem ztd (p:Option Addr):FnS (z05z p) F.a77 #[.pointer p]:=dV ⟨[],[],[(3,[(3,.one .slc)]),(9,[(71,.one .bool)]),(12,[(90,.one .bool)]),(15,[(105,.one .bool)])],[]⟩ Go.Proofs.Tryz.func45 (by kernel_rfl)
def z062 (p:Option Addr) (b_0 b_1 b_2 b_3 b_4 b_5:Int) (b_6:Sl):Prog :=
Ap T.a0 (AD b_0 b_1 b_2 b_3 b_4 b_5 b_6) λa0=>
AL<|
AI p λa2=>
AJ T.a22 a2 4 λp3=>
AE T.a0 a0 λn4 n5 n6 n7 n8 n9 l10=>
Ax F.a11 [Ah p3,AD n4 n5 n6 n7 n8 n9 l10] λn11=>
AN<|
AL<|
AI p λa13=>
AJ T.a26 a13 5 λp14=>
AE T.a0 a0 λn15 n16 n17 n18 n19 n20 l21=>
Ax F.a57 [Ah p14,AD n15 n16 n17 n18 n19 n20 l21] λn22=>
AN<|
Am 0 []
theorem ztg (p:Option Addr) (b_0 b_1 b_2 b_3 b_4 b_5:Int) (b_6:Sl):FnS (z062 p b_0 b_1 b_2 b_3 b_4 b_5 b_6) F.a80 #[.pointer p,.agg #[.int .i64 b_0,.int .i64 b_1,.int .i64 b_2,.int .i64 b_3,.int .i64 b_4,.int .i64 b_5,.slice b_6.a b_6.len b_6.cap]]:=dV ⟨[],[],[],[]⟩ Go.Proofs.Tryz.func47 (by kernel_rfl)
def z060 (p:Option Addr) (b_0 b_1 b_2 b_3 b_4 b_5:Int) (b_6:Sl):Prog :=
Ap T.a0 (AD b_0 b_1 b_2 b_3 b_4 b_5 b_6) λa0=>
Ax F.a73 [Ah p] λn1=>
AV T.a13 a0 0 (Aa n1)<|
AE T.a0 a0 λn2 n3 n4 n5 n6 n7 l8=>
Ba F.a76 [Ah p,AD n2 n3 n4 n5 n6 n7 l8] λb9 n10 n11=>
Ad T.a6 λa12=>
Ae T.a6 a12 (Bb b9 n10)<|
Ac n11 λn13=>
Bc ((n13 != 0)=false) T.a3 a12 0 λb14=>
Ai (n13 != 0 || b14) (
AL<|
Aq T.a13 a12 1 λn15=>
Bd T.a3 a12 0 λb16=>
Ac n15 λn17=>
Al b16 λb18=>
Ac n13 λn19=>
AN<|
Am 0 [Aa n17,.bool b18,Aa n19])<|
Be 1 (
AL<|
AI p λa21=>
AW T.a27 (Addr.add a21 0) 0 λp22=>
AE T.a0 a0 λn23 n24 n25 n26 n27 n28 l29=>
AR (Instr.buildSlice T.a34 1 #[(0,AD n23 n24 n25 n26 n27 n28 l29)]) λl30=>
AN<|
Bf F.a103 [Ah p22,l30.v] λn31 n32=>
Ac n31 λn33=>
Ac n32 λn34=>
AN<|
Am 1 [Aa n34,Aa n33]) λn35 n36=>
Bg 1 (
Ai (n35 == 0) (
AI p λa38=>
AJ T.a27 (Addr.add a38 0) 0 λp39=>
Ax F.a109 [Ah p39] λn40=>
Ac n40 λn41=>
Am 1 [Aa n41])<|
Am 1 [Aa n35]) λn42=>
Ai (n42 != 0) (
Ac n42 λn43=>
Am 0 [Aa 0,.bool false,Aa n43])<|
AV T.a13 a0 0 (Aa n36)<|
AE T.a0 a0 λn44 n45 n46 n47 n48 n49 l50=>
AG F.a84 [AD n44 n45 n46 n47 n48 n49 l50] λn51 n52 n53 n54 n55 n56 l57=>
Ao F.a80 [Ah p,AD n51 n52 n53 n54 n55 n56 l57]<|
Ac n36 λn58=>
Am 0 [Aa n58,.bool false,Aa 0]
theorem zte (p:Option Addr) (b_0 b_1 b_2 b_3 b_4 b_5:Int) (b_6:Sl):FnS (z060 p b_0 b_1 b_2 b_3 b_4 b_5 b_6) F.a78 #[.pointer p,.agg #[.int .i64 b_0,.int .i64 b_1,.int .i64 b_2,.int .i64 b_3,.int .i64 b_4,.int .i64 b_5,.slice b_6.a b_6.len b_6.cap]]:=dV ⟨[(2269814212195778602,[(8,.one (.int .i64))])],[],[(5,[(8,.one (.int .i64)),(9,.one (.int .i64))])],[]⟩ Go.Proofs.Tryz.func48 (by kernel_rfl)
def z065 (b_0 b_1 b_2 b_3 b_4 b_5:Int) (b_6:Sl):Prog :=
Ap T.a0 (AD b_0 b_1 b_2 b_3 b_4 b_5 b_6) λa0=>
Aq T.a12 a0 4 λn1=>
Ar ((n1 == 2)=false) T.a12 a0 4 λn2=>
Al (n1 == 2 || n2 == 3) λb3=>
Am 0 [.bool b3]
theorem ztj (b_0 b_1 b_2 b_3 b_4 b_5:Int) (b_6:Sl):FnS (z065 b_0 b_1 b_2 b_3 b_4 b_5 b_6) F.a83 #[.agg #[.int .i64 b_0,.int .i64 b_1,.int .i64 b_2,.int .i64 b_3,.int .i64 b_4,.int .i64 b_5,.slice b_6.a b_6.len b_6.cap]]:=dV ⟨[],[],[],[]⟩ Go.Proofs.Tryz.func50 (by kernel_rfl)
def z05k (v:Option Addr) (b_0 b_1 b_2 b_3 b_4 b_5:Int) (b_6:Sl):Prog :=
Ap T.a0 (AD b_0 b_1 b_2 b_3 b_4 b_5 b_6) λa0=>
Ai (Option.isNone v) (
Am 0 [Aa 0])<|
Bh 1 (
AL<|
AI v λa2=>
Bi T.a20 a2 2 λm3=>
Bj T.a13 a0 1 λn4=>
Bj T.a12 a0 2 λn5=>
Bk (Instr.lookup T.a20 (.map m3) (Au n4 n5) true) λn6 n7 n8 n9 b10=>
Ad T.a17 λa11=>
AN<|
Ae T.a17 a11 (Bl n6 n7 n8 n9)<|
Al b10 λb12=>
AN<|
Am 1 [Av a11,.bool b12]) λa13 b14=>
AE T.a0 a0 λn15 n16 n17 n18 n19 n20 l21=>
Ak F.a62 [AD n15 n16 n17 n18 n19 n20 l21] λb22=>
AH b22 (
Am 0 [Aa 3])<|
AL<|
Bj T.a13 a0 0 λn24=>
Ax F.a56 [Ah v] λn25=>
Al (decide (n24>=n25)) λb26=>
AN<|
Ai b26 (
Am 0 [Aa 0])<|
Aq T.a12 a0 4 λn27=>
Ar ((n27 == 1 && b14)=true) T.a13 a0 0 λn28=>
Ar ((n27 == 1 && b14)=true) T.a13 a13 2 λn29=>
AH (n27 == 1 && b14 && decide (n28>=n29)) (
Am 0 [Aa 2])<|
Am 0 [Aa 1]
theorem zsv (v:Option Addr) (b_0 b_1 b_2 b_3 b_4 b_5:Int) (b_6:Sl):FnS (z05k v b_0 b_1 b_2 b_3 b_4 b_5 b_6) F.a51 #[.pointer v,.agg #[.int .i64 b_0,.int .i64 b_1,.int .i64 b_2,.int .i64 b_3,.int .i64 b_4,.int .i64 b_5,.slice b_6.a b_6.len b_6.cap]]:=dV ⟨[],[],[(3,[(5,.one .adr),(6,.one .bool)])],[]⟩ Go.Proofs.Tryz.func52 (by kernel_rfl)
def zyd (v:Option Addr):Prog :=
Ai (Option.isNone v) (
Am 0 [.slice none 0 0])<|
AI v λa1=>
Bn T.a19 a1 1 λm2=>
.act (Instr.range T.a19 (.map m2)) sA (u1 λa3=>
AQ 1 (
.loop 2 [.one .slc] (⟨none,0,0⟩,()) (u1 λl4=>
.next (Instr.next (Av a3) false T.a60) ([.one (.int .i64),.agg [.int .i64,.int .i64,.int .i64,.int .i64]]) (u5 λ(n5 n6 n7 n8 n9:Int)=>
.act (Instr.entry (Av a3)) (.tup [.one (.int .i64),.agg [.int .i64,.int .i64,.int .i64,.int .i64]]) (u5 λ(n10 n11 n12 n13 n14:Int)=>
Ad T.a17 λa15=>
Ae T.a17 a15 (Bl n11 n12 n13 n14)<|
Bo T.a17 a15 λn16 n17 n18 n19=>
.call F.a61 [Bl n16 n17 n18 n19] (sG [.int .i64,.int .i64,.int .i64,.int .i64]) (u4 λ(n20 n21 n22 n23:Int)=>
AR (Instr.buildSlice T.a38 1 #[(0,Bl n20 n21 n22 n23)]) λl24=>
AR (app T.a38 T.a38 T.a38 l4.v l24.v) λl25=>
Am 2 [l25.v]))) <|
Am 1 [l4.v])) λl26=>
Ao F.a130 [l26.v,.func (Fn.func 133) #[] #[]]<|
Am 0 [l26.v])
theorem zsx (v:Option Addr) {w:World} {R:List Value->World->Prop} (h:(zyd v).wp P (λ_=>True) w λe vs w'=>e=0/\R vs w') :
  Calls P F.a54 #[.pointer v] w λe w'=>∃ vs,e=.returned (z7h vs)/\R vs w' :=
 z8s (zgg Go.Proofs.Tryz.func55 (by kernel_rfl) (by kernel_rfl) (by kernel_rfl)) zgm mix [.val (.pointer v)] (by rw [show zf5 P 25 ⟨zgl,[(13,[.one (.int .i64),.agg [.int .i64,.int .i64,.int .i64,.int .i64]]),(15,[.one (.int .i64),.agg [.int .i64,.int .i64,.int .i64,.int .i64]])]⟩ { cnd:=[],blk:=[(0,[(3,.one .slc)])],reg:=[],lps:=[(0,[(3,.one .slc)])] } [.tmp 2] (za2 Go.Proofs.Tryz.f55) [.val (.pointer v)]=zyd v from by kernel_rfl];exact h)
def zye (v:Option Addr):Prog :=
Ai (Option.isNone v) (
Am 0 [Aa 0])<|
AI v λa1=>
Aq T.a13 a1 0 λn2=>
Ac n2 λn3=>
AI v λa5=>
Bn T.a19 a5 1 λm6=>
.act (Instr.range T.a19 (.map m6)) sA (u1 λa7=>
Bg 1 (
AA 2 (n3,()) λn8=>
.next (Instr.next (Av a7) false T.a60) ([.one (.int .i64),.agg [.int .i64,.int .i64,.int .i64,.int .i64]]) (u5 λ(n9 n10 n11 n12 n13:Int)=>
.act (Instr.entry (Av a7)) (.tup [.one (.int .i64),.agg [.int .i64,.int .i64,.int .i64,.int .i64]]) (u5 λ(n14 n15 n16 n17 n18:Int)=>
Ad T.a17 λa19=>
Ae T.a17 a19 (Bl n15 n16 n17 n18)<|
Aq T.a13 a19 2 λn20=>
Ac (if n20<n8 then n20 else n8) λn21=>
Am 2 [Aa n21])) <|
Am 1 [Aa n8]) λn22=>
Ac n22 λn23=>
Am 0 [Aa n23])
theorem zsz (v:Option Addr) {w:World} {R:List Value->World->Prop} (h:(zye v).wp P (λ_=>True) w λe vs w'=>e=0/\R vs w') :
  Calls P F.a56 #[.pointer v] w λe w'=>∃ vs,e=.returned (z7h vs)/\R vs w' :=
 z8s (zgg Go.Proofs.Tryz.func56 (by kernel_rfl) (by kernel_rfl) (by kernel_rfl)) zgm mix [.val (.pointer v)] (by rw [show zf5 P 26 ⟨zgl,[(17,[.one (.int .i64),.agg [.int .i64,.int .i64,.int .i64,.int .i64]]),(19,[.one (.int .i64),.agg [.int .i64,.int .i64,.int .i64,.int .i64]])]⟩ { cnd:=[],blk:=[(0,[(3,.one (.int .i64))])],reg:=[],lps:=[(0,[(3,.one (.int .i64))])] } [.tmp 2] (za2 Go.Proofs.Tryz.f56) [.val (.pointer v)]=zye v from by kernel_rfl];exact h)
def z00c (p:Option Addr):Prog :=
AI p λa1=>
AJ T.a30 a1 2 λp2=>
AI p2 λa4=>
Bp T.a45 a4 1 λl5=>
Ai ((AB l5) == 0) (
AI p λa7=>
AJ T.a29 a7 0 λp8=>
Ax F.a177 [Ah p8] λn9=>
Ac n9 λn10=>
Am 0 [Aa n10])<|
Aj 1 (
AL<|
AI p λa12=>
AJ T.a30 a12 2 λp13=>
AI p λa15=>
AW T.a29 a15 0 λp16=>
Ax F.a181 [Ah p13] λn17=>
AN<|
Ax F.a176 [Ah p16] λn18=>
AN<|
Am 1 [.bool (decide (n17<n18))]) λb19=>
Ai b19 (
AI p λa21=>
AJ T.a29 a21 0 λp22=>
Ax F.a176 [Ah p22] λn23=>
Ac n23 λn24=>
Am 0 [Aa n24])<|
AI p λa26=>
AJ T.a30 a26 2 λp27=>
Ax F.a181 [Ah p27] λn28=>
Ac n28 λn29=>
Am 0 [Aa n29]
theorem znr (p:Option Addr):FnS (z00c p) F.a185 #[.pointer p]:=dV ⟨[],[],[(3,[(27,.one .bool)])],[]⟩ Go.Proofs.Tryz.func63 (by kernel_rfl)
def z00b (p:Option Addr) (offset most:Int) (committed:Bool):Prog :=
AI p λa1=>
AJ T.a29 a1 0 λp2=>
AK F.a178 [Ah p2,Aa offset,Aa most] λl3 n4=>
Ac n4 λn5=>
Ai (n5 != 0) (
Ac n5 λn6=>
Am 0 [.slice none 0 0,Aa 0,Aa n6])<|
Ac offset λn7=>
.bind 1 [.one .slc,.one (.int .i64)] (
.loop 2 [.one .slc,.one (.int .i64),.one (.int .i64)] (⟨none,0,0⟩,(n7,(0,()))) (u3 λl8 (n9 n10:Int)=>
Ai (decide (n10<(AB l3))) (
.ex [.adr] (c1 λa11=>0<=n10/\n10<(AB l3)/\l3.a=some a11) (u1 λa12=>
AC T.a0 a12 (Int.toNat n10*7) λn13 n14 n15 n16 n17 n18 l19=>
Ad T.a0 λa20=>
Ae T.a0 a20 (AD n13 n14 n15 n16 n17 n18 l19)<|
Aj 3 (
AL<|
AM (committed=true) T.a13 a20 0 λn21=>
Ai committed (
Ax F.a185 [Ah p] λn22=>
AN<|
Am 3 [.bool (decide (n21>=n22))])<|
AN<|
Am 3 [.bool false]) λb23=>
Ai b23 (
Ac n9 λn24=>
Am 0 [l8.v,Aa n24,Aa 0])<|
Aj 3 (
AL<|
AO (not committed=false) p λa26=>
.read (not committed=false) (ld T.a30 (Addr.add a26 2)) sP (u1 λp27=>
AP (not committed=false) T.a0 a20 λn28 n29 n30 n31 n32 n33 l34=>
Ai (not committed) (
AN<|
Am 3 [.bool true])<|
Ax F.a180 [Ah p27,AD n28 n29 n30 n31 n32 n33 l34] λn35=>
AN<|
Am 3 [.bool (n35 == 1)])) λb36=>
AQ 3 (
Ai b36 (
AE T.a0 a20 λn37 n38 n39 n40 n41 n42 l43=>
AR (Instr.buildSlice T.a34 1 #[(0,AD n37 n38 n39 n40 n41 n42 l43)]) λl44=>
Az F.a166 [l44.v] λl45=>
AR (app T.a43 T.a43 T.a43 l8.v l45.v) λl46=>
Am 3 [l46.v])<|
Am 3 [l8.v]) λl47=>
AL<|
Bj T.a13 a20 0 λn48=>
AE T.a0 a20 λn49 n50 n51 n52 n53 n54 l55=>
Ax F.a172 [AD n49 n50 n51 n52 n53 n54 l55] λn56=>
Ac (AF (n48+n56)) λn57=>
AN<|
Am 2 [l47.v,Aa n57,Aa (AF (n10+1))]))<|
Am 1 [l8.v,Aa n9])) (u2 λl58 (n59:Int)=>
Ac n59 λn60=>
Am 0 [l58.v,Aa n60,Aa 0])
theorem znq (p:Option Addr) (offset most:Int) (committed:Bool):FnS (z00b p offset most committed) F.a184 #[.pointer p,.int .i64 offset,.int .i64 most,.bool committed]:=dV ⟨[(36598340242239783960633,[(13,.one .slc)])],[(0,[(13,.one .slc),(14,.one (.int .i64))])],[(9,[(44,.one .bool)]),(11,[(57,.one .bool)])],[(0,[(13,.one .slc),(14,.one (.int .i64)),(33,.one (.int .i64))])]⟩ Go.Proofs.Tryz.func66 (by kernel_rfl)
def zzz (a:Sl) (b:Sl):Prog :=
Ai ((AB a) != (AB b)) (
Am 0 [.bool false])<|
Ay 1 (
AA 2 (0,()) λn0=>
Ai (decide (n0<(AB a))) (
Ac n0 λn1=>
AL<|
.ex [.adr] (c1 λa2=>0<=n1/\n1<(AB a)/\a.a=some a2) (u1 λa3=>
Aq T.a13 (Addr.add a3 (Int.toNat n1*5)) 0 λn4=>
.ex [.adr] (c1 λa5=>0<=n1/\n1<(AB b)/\b.a=some a5) (u1 λa6=>
Aq T.a13 (Addr.add a6 (Int.toNat n1*5)) 0 λn7=>
.ex [.adr] (c1 λa8=>(n4 != n7)=false->0<=n1/\n1<(AB a)/\a.a=some a8) (u1 λa9=>
.read ((n4 != n7)=false) (ld T.a2 (Addr.add (Addr.add a9 (Int.toNat n1*5)) 1)) (sG [.str,.str,.bool,.int .i64]) (u4 λs10 s11 b12 (n13:Int)=>
.ex [.adr] (c1 λa14=>(n4 != n7)=false->0<=n1/\n1<(AB b)/\b.a=some a14) (u1 λa15=>
.read ((n4 != n7)=false) (ld T.a2 (Addr.add (Addr.add a15 (Int.toNat n1*5)) 1)) (sG [.str,.str,.bool,.int .i64]) (u4 λs16 s17 b18 (n19:Int)=>
AN<|
Ai (n4 != n7 || not (s10 == s16 && (s11 == s17 && (b12 == b18 && n13 == n19)))) (
Am 0 [.bool false])<|
Am 2 [Aa (AF (n0+1))])))))))<|
Am 1 [])<|
Am 0 [.bool true]
theorem zne (a b:Sl):FnS (zzz a b) F.a163 #[.slice a.a a.len a.cap,.slice b.a b.len b.cap]:=dV ⟨[],[(0,[])],[],[(0,[(13,.one (.int .i64))])]⟩ Go.Proofs.Tryz.func67 (by kernel_rfl)
def z05y (p:Option Addr) (b_0 b_1 b_2 b_3 b_4 b_5:Int) (b_6:Sl):Prog :=
Ap T.a0 (AD b_0 b_1 b_2 b_3 b_4 b_5 b_6) λa0=>
Ad T.a6 λa1=>
.bind 1 [.one .adr,.one (.int .i64)] (
AL<|
AI p λa3=>
AW T.a22 a3 4 λp4=>
.hold True (ld T.a0 a0) (sG [.int .i64,.int .i64,.int .i64,.int .i64,.int .i64,.int .i64,.slc]) (u7 λ(n5 n6 n7 n8 n9 n10:Int) l11=>
.both (
AN<|
Ba F.a9 [Ah p4,AD n5 n6 n7 n8 n9 n10 l11] λb12 n13 n14=>
Ad T.a6 λa15=>
Ae T.a6 a15 (Bb b12 n13)<|
Ac n14 λn16=>
AN<|
Am 1 [Av a15,Aa n16]) <|
Ad T.a6 λa17=>
AN<|
Ba F.a9 [Ah p4,AD n5 n6 n7 n8 n9 n10 l11] λb18 n19 n20=>
Ae T.a6 a17 (Bb b18 n19)<|
Ac n20 λn21=>
AN<|
Am 1 [Av a17,Aa n21])) (u2 λa22 (n23:Int)=>
Bc ((n23 != 0)=false) T.a3 a22 0 λb24=>
Ai (n23 != 0 || b24) (
Bq T.a6 a22 λb25 n26=>
Ae T.a6 a1 (Bb b25 n26)<|
Ac n23 λn27=>
Bq T.a6 a1 λb28 n29=>
Am 0 [Bb b28 n29,Aa n27])<|
Bg 1 (
AL<|
.hold True (ld T.a6 a22) (sG [.bool,.int .i64]) (u2 λb30 (n31:Int)=>
AI p λa33=>
AJ T.a26 a33 5 λp34=>
AE T.a0 a0 λn35 n36 n37 n38 n39 n40 l41=>
Ax F.a52 [Ah p34,AD n35 n36 n37 n38 n39 n40 l41] λn42=>
AN<|
Ae T.a6 a1 (Bb b30 n31)<|
Ac n42 λn43=>
AN<|
Am 1 [Aa n43])) λn44=>
Bq T.a6 a1 λb45 n46=>
Am 0 [Bb b45 n46,Aa n44])
theorem ztc (p:Option Addr) (b_0 b_1 b_2 b_3 b_4 b_5:Int) (b_6:Sl):FnS (z05y p b_0 b_1 b_2 b_3 b_4 b_5 b_6) F.a76 #[.pointer p,.agg #[.int .i64 b_0,.int .i64 b_1,.int .i64 b_2,.int .i64 b_3,.int .i64 b_4,.int .i64 b_5,.slice b_6.a b_6.len b_6.cap]]:=dV ⟨[],[],[(1,[(6,.one .adr),(7,.one (.int .i64))]),(4,[(5,.one (.int .i64))])],[]⟩ Go.Proofs.Tryz.func83 (by kernel_rfl)
def zf7 (most:Int):Prog :=
Ai (decide (most<1) || decide (most>4096)) (
Am 0 [Ah none,Aa 2])<|
.act (Instr.makeMap T.a18 none) sM (u1 λm0=>
Ap T.a5 (.agg #[Aa most,Aa 0,.map m0]) λa1=>
Am 0 [Av a1,Aa 0])
theorem zw3 (most:Int):FnS (zf7 most) F.a6 #[.int .i64 most]:=dV ⟨[],[],[],[]⟩ Go.Proofs.Tryz.func104 (by kernel_rfl)
def zov  : Prog :=
.act (Instr.makeMap T.a19 none) sM (u1 λm0 =>
.act (Instr.makeMap T.a20 none) sM (u1 λm1 =>
.act (Instr.box T.a15 (.agg #[.int .i64 0,.map m0,.map m1])) sA (u1 λa2 =>
.done 0 [.pointer (some a2)])))
theorem zir :FnS (zov ) F.a49 #[]:=dV ⟨[],[],[],[]⟩ Go.Proofs.Tryz.func105 (by kernel_rfl)
def z061 (p:Option Addr):Prog :=
AI p λa1=>
AT T.a51 (Addr.add a1 0) 2 λs2=>
.must (((ByteArray.size s2+5:Nat):Int)<=9223372036854775807) <|
AU (s2++(ByteArray.mk #[46,115,110,97,112])) λs3=>
Am 0 [.string s3]
theorem ztf (p:Option Addr):FnS (z061 p) F.a79 #[.pointer p]:=dV ⟨[],[],[],[]⟩ Go.Proofs.Tryz.func106 (by kernel_rfl)
def zf6 (raw:Sl) (most:Int):Prog :=
Ab F.a6 [Aa most] λp0 n1=>
Ac n1 λn2=>
Ai (n2 != 0) (
Ac n2 λn3=>
Am 0 [Ah none,Aa n3])<|
AX F.a36 [raw.v] λl4 b5=>
Al b5 λb6=>
Ai (not b6) (
Am 0 [Ah none,Aa 6])<|
An F.a189 [l4.v] λp7=>
Ax F.a17 [Ah p7,Aa 1099511627777] λn8=>
AI p0 λa10=>
AV T.a13 a10 1 (Aa n8)<|
Ax F.a17 [Ah p7,Aa 4096] λn11=>
Ac n11 λn12=>
AI p0 λa14=>
Aq T.a13 a14 1 λn15=>
Ai (decide (n15>1099511627777) || decide (n12>most)) (
Am 0 [Ah none,Aa 6])<|
Ay 1 (
Br 2 (0,(0,())) λn16 n17=>
Ai (decide (n17<n12)) (
Ax F.a17 [Ah p7,Aa 1048576] λn18=>
Ax F.a17 [Ah p7,Aa 32768] λn19=>
Ax F.a17 [Ah p7,Aa 2147483647] λn20=>
Ax F.a17 [Ah p7,Aa 64] λn21=>
Ax F.a17 [Ah p7,Aa 1099511627776] λn22=>
Ax F.a197 [Ah p7,Aa (-1),Aa 1099511627776] λn23=>
Ax F.a17 [Ah p7,Aa 1099511627776] λn24=>
Ad T.a4 λa25=>
Ae T.a4 a25 (Bs n18 n19 n20 n21 n22 n23 n24)<|
Aj 3 (
AL<|
Ax F.a192 [Ah p7] λn26=>
Bt ((n26 != 0)=false) T.a4 a25 λn27 n28 n29 n30 n31 n32 n33=>
AO ((n26 != 0)=false) p0 λa35=>
Ar ((n26 != 0)=false) T.a13 a35 1 λn36=>
Ai (n26 != 0) (
AN<|
Am 3 [.bool true])<|
Ak F.a16 [Bs n27 n28 n29 n30 n31 n32 n33,Aa n36] λb37=>
Ar (not b37=false) T.a13 a25 0 λn38=>
AN<|
Am 3 [.bool (not b37 || decide (n38<=n16))]) λb39=>
Ai b39 (
Am 0 [Ah none,Aa 6])<|
AL<|
AI p0 λa41=>
Bn T.a18 a41 2 λm42=>
Aq T.a13 a25 0 λn43=>
Bu T.a4 a25 λn44 n45 n46 n47 n48 n49 n50=>
Bv (Instr.mapUpdate T.a18 (.map m42) (Aa n43) (Bs n44 n45 n46 n47 n48 n49 n50))<|
AN<|
Aq T.a13 a25 0 λn51=>
Ac n51 λn52=>
Am 2 [Aa n52,Aa (AF (n17+1))])<|
Am 1 [])<|
Ax F.a191 [Ah p7] λn53=>
Ai (n53 != 0) (
Am 0 [Ah none,Aa 6])<|
Am 0 [Ah p0,Aa 0]
def z089 (t:Option Addr):Prog :=
Ai (Option.isNone t) (
Am 0 [Aa 0])<|
AI t λa1=>
Aq T.a13 a1 1 λn2=>
Ac n2 λn3=>
Am 0 [Aa n3]
def z08c (raw:Sl):Prog :=
AX F.a36 [raw.v] λl0 b1=>
Al b1 λb2=>
Ai (not b2) (
Am 0 [Ah none,Aa 6])<|
An F.a189 [l0.v] λp3=>
An F.a49 [] λp4=>
Ax F.a64 [Ah p3,Aa 1099511627777] λn5=>
AI p4 λa7=>
AV T.a13 a7 0 (Aa n5)<|
Aj 1 (
AI p4 λa9=>
Aq T.a13 a9 0 λn10=>
Ai (decide (n10>1099511627777)) (
Am 1 [.bool true])<|
Ak F.a60 [Ah p4,Ah p3] λb11=>
Ai (not b11) (
Am 1 [.bool true])<|
Ak F.a58 [Ah p4,Ah p3] λb12=>
Ai (not b12) (
Am 1 [.bool true])<|
Ax F.a191 [Ah p3] λn13=>
Am 1 [.bool (n13 != 0)]) λb14=>
Ai b14 (
Am 0 [Ah none,Aa 6])<|
Am 0 [Ah p4,Aa 0]
def z08d (v:Option Addr):Prog :=
Ai (Option.isNone v) (
Am 0 [Aa 0])<|
AI v λa1=>
Aq T.a13 a1 0 λn2=>
Ac n2 λn3=>
Am 0 [Aa n3]
def z04l (t:Option Addr) (b_0 b_1 b_2 b_3 b_4 b_5:Int) (b_6:Sl):Prog :=
Ap T.a0 (AD b_0 b_1 b_2 b_3 b_4 b_5 b_6) λa0=>
AE T.a0 a0 λn1 n2 n3 n4 n5 n6 l7=>
Ba F.a9 [Ah t,AD n1 n2 n3 n4 n5 n6 l7] λb8 n9 n10=>
Ad T.a6 λa11=>
Ae T.a6 a11 (Bb b8 n9)<|
Ac n10 λn12=>
AH (n12 != 0) (
Ac n12 λn14=>
Am 0 [Aa n14])<|
Bd T.a3 a11 0 λb15=>
AH b15 (
Am 0 [Aa 4])<|
AL<|
Aq T.a13 a0 0 λn17=>
AI t λa19=>
Aq T.a13 a19 1 λn20=>
Al (decide (n17<n20)) λb21=>
AN<|
Ai b21 (
Am 0 [Aa 8])<|
AE T.a0 a0 λn22 n23 n24 n25 n26 n27 l28=>
Ax F.a90 [AD n22 n23 n24 n25 n26 n27 l28] λn29=>
AI t λa31=>
AV T.a13 a31 1 (Aa n29)<|
Aq T.a13 a0 1 λn32=>
Ai (n32 == 0) (
Am 0 [Aa 0])<|
Aq T.a13 a0 1 λn33=>
.call F.a13 [Ah t,Aa n33] (.tup [.agg [.int .i64,.int .i64,.int .i64,.int .i64,.int .i64,.int .i64,.int .i64],.one .bool]) (u8 λ(n34 n35 n36 n37 n38 n39 n40:Int) b41=>
Ad T.a4 λa42=>
Ae T.a4 a42 (Bs n34 n35 n36 n37 n38 n39 n40)<|
Al b41 λb43=>
Aq T.a13 a0 5 λn44=>
Ac n44 λn45=>
Bg 1 (
Ai b43 (
Aq T.a13 a42 6 λn46=>
Ac (if n46>n45 then n46 else n45) λn47=>
Am 1 [Aa n47])<|
Am 1 [Aa n45]) λn48=>
Aq T.a12 a0 4 λn49=>
Ay 1 (
Ay 2 (
Al (n49 == 2) λb50=>
Aj 3 (
Ai b50 (
Am 3 [.bool b50])<|
Al (n49 == 3) λb51=>
Am 3 [.bool b51]) λb52=>
Ai b52 (
AL<|
AI t λa54=>
Bn T.a18 a54 2 λm55=>
Aq T.a13 a0 1 λn56=>
Aq T.a13 a0 1 λn57=>
Aq T.a12 a0 2 λn58=>
Bv (Instr.mapUpdate T.a18 (.map m55) (Aa n56) (.agg #[Aa n57,Aa (AF (n58+1)),Aa 0,Aa 0,Aa 0,Aa (-1),Aa n48]))<|
AN<|
Am 0 [Aa 0])<|
AH (n49 == 1) (
Bu T.a4 a42 λn60 n61 n62 n63 n64 n65 n66=>
Ak F.a8 [Bs n60 n61 n62 n63 n64 n65 n66] λb67=>
Ay 3 (
Ai (not b67) (
Aq T.a13 a0 0 λn68=>
AV T.a13 a42 5 (Aa n68)<|
Am 3 [])<|
Am 3 [])<|
Am 2 [])<|
Am 2 [])<|
AL<|
AI t λa70=>
Bn T.a18 a70 2 λm71=>
Aq T.a13 a0 1 λn72=>
Aq T.a13 a0 1 λn73=>
Aq T.a12 a0 2 λn74=>
Aq T.a12 a0 3 λn75=>
Bp T.a35 a0 6 λl76=>
Aq T.a13 a0 0 λn77=>
Aq T.a13 a42 5 λn78=>
Bv (Instr.mapUpdate T.a18 (.map m71) (Aa n72) (.agg #[Aa n73,Aa n74,Aa n75,Aa (AB l76),Aa n77,Aa n78,Aa n48]))<|
AN<|
Am 1 [])<|
Am 0 [Aa 0])
theorem zrw (t:Option Addr) (b_0 b_1 b_2 b_3 b_4 b_5:Int) (b_6:Sl):FnS (z04l t b_0 b_1 b_2 b_3 b_4 b_5 b_6) F.a11 #[.pointer t,.agg #[.int .i64 b_0,.int .i64 b_1,.int .i64 b_2,.int .i64 b_3,.int .i64 b_4,.int .i64 b_5,.slice b_6.a b_6.len b_6.cap]]:=dV ⟨[(34587645138207506480,[(9,.one (.int .i64))]),(737869762948382064695,[(55,.one .bool)]),(2166395068749415481073467467,[])],[(1,[]),(4,[])],[],[]⟩ Go.Proofs.Tryz.func116 (by kernel_rfl)
def z05n (v:Option Addr) (b_0 b_1 b_2 b_3 b_4 b_5:Int) (b_6:Sl):Prog :=
Ap T.a0 (AD b_0 b_1 b_2 b_3 b_4 b_5 b_6) λa0=>
AE T.a0 a0 λn1 n2 n3 n4 n5 n6 l7=>
Ax F.a52 [Ah v,AD n1 n2 n3 n4 n5 n6 l7] λn8=>
Ac n8 λn9=>
Ai (n9 != 0) (
Ac n9 λn10=>
Am 0 [Aa n10])<|
AE T.a0 a0 λn11 n12 n13 n14 n15 n16 l17=>
Ax F.a90 [AD n11 n12 n13 n14 n15 n16 l17] λn18=>
AI v λa20=>
AV T.a13 a20 0 (Aa n18)<|
Bh 1 (
AL<|
AI v λa22=>
Bi T.a19 a22 1 λm23=>
Bj T.a13 a0 1 λn24=>
Bk (Instr.lookup T.a19 (.map m23) (Aa n24) true) λn25 n26 n27 n28 b29=>
Ad T.a17 λa30=>
AN<|
Ae T.a17 a30 (Bl n25 n26 n27 n28)<|
Al b29 λb31=>
AN<|
Am 1 [Av a30,.bool b31]) λa32 b33=>
Aq T.a12 a0 4 λn34=>
Al (n34 == 1 && not b33) λb35=>
Ay 1 (
Ai b35 (
AL<|
AI v λa37=>
Bn T.a19 a37 1 λm38=>
Aq T.a13 a0 1 λn39=>
Aq T.a13 a0 1 λn40=>
Aq T.a12 a0 2 λn41=>
Aq T.a13 a0 0 λn42=>
Bv (Instr.mapUpdate T.a19 (.map m38) (Aa n39) (.agg #[Aa n40,Aa n41,Aa n42,Aa (-1)]))<|
AN<|
Am 1 [])<|
AE T.a0 a0 λn43 n44 n45 n46 n47 n48 l49=>
Ak F.a62 [AD n43 n44 n45 n46 n47 n48 l49] λb50=>
Al (b50 && b33) λb51=>
Ay 2 (
Ai b51 (
AL<|
AI v λa53=>
Bn T.a19 a53 1 λm54=>
Aq T.a13 a0 1 λn55=>
.act (Builtin.delete_ #[T.a19,T.a13] T.a60 #[.map m54,Aa n55]) (.tup []) (u0 <|
AN<|
Aq T.a12 a0 4 λn56=>
Ay 3 (
Ai (n56 == 3) (
Aq T.a13 a0 0 λn57=>
AV T.a13 a32 3 (Aa n57)<|
AL<|
AI v λa59=>
Bn T.a20 a59 2 λm60=>
As T.a16 a32 0 λn61 n62=>
Bo T.a17 a32 λn63 n64 n65 n66=>
Bv (Instr.mapUpdate T.a20 (.map m60) (Au n61 n62) (Bl n63 n64 n65 n66))<|
AN<|
Am 3 [])<|
Am 3 [])<|
Am 2 []))<|
Am 2 [])<|
Am 1 [])<|
Am 0 [Aa 0]
theorem zt0 (v:Option Addr) (b_0 b_1 b_2 b_3 b_4 b_5:Int) (b_6:Sl):FnS (z05n v b_0 b_1 b_2 b_3 b_4 b_5 b_6) F.a57 #[.pointer v,.agg #[.int .i64 b_0,.int .i64 b_1,.int .i64 b_2,.int .i64 b_3,.int .i64 b_4,.int .i64 b_5,.slice b_6.a b_6.len b_6.cap]]:=dV ⟨[(309182778366441411431104577,[]),(309484419525534710019129395,[]),(309485009820782118771359773,[])],[],[(5,[(6,.one .adr),(7,.one .bool)])],[]⟩ Go.Proofs.Tryz.func117 (by kernel_rfl)
def z05q (b_0 b_1 b_2 b_3 b_4 b_5:Int) (b_6:Sl):Prog :=
Ap T.a0 (AD b_0 b_1 b_2 b_3 b_4 b_5 b_6) λa0=>
Aq T.a12 a0 4 λn1=>
Ar ((n1 == 2)=false) T.a12 a0 4 λn2=>
Al (n1 == 2 || n2 == 3) λb3=>
Am 0 [.bool b3]
theorem zt3 (b_0 b_1 b_2 b_3 b_4 b_5:Int) (b_6:Sl):FnS (z05q b_0 b_1 b_2 b_3 b_4 b_5 b_6) F.a62 #[.agg #[.int .i64 b_0,.int .i64 b_1,.int .i64 b_2,.int .i64 b_3,.int .i64 b_4,.int .i64 b_5,.slice b_6.a b_6.len b_6.cap]]:=dV ⟨[],[],[],[]⟩ Go.Proofs.Tryz.func127 (by kernel_rfl)
def z05p (l_0 l_1 l_2:Int) (l_3:Int):Prog :=
Ap T.a17 (Bl l_0 l_1 l_2 l_3) λa0=>
Ad T.a14 λa1=>
Aq T.a13 (Addr.add a0 0) 0 λn2=>
Aq T.a12 (Addr.add a0 0) 1 λn3=>
Aq T.a13 a0 2 λn4=>
Aq T.a13 a0 3 λn5=>
Ae T.a14 a1 (Bl n2 n3 n4 n5)<|
Bo T.a14 a1 λn6 n7 n8 n9=>
Am 0 [Bl n6 n7 n8 n9]
theorem zt2 (l_0 l_1 l_2 l_3:Int):FnS (z05p l_0 l_1 l_2 l_3) F.a61 #[.agg #[.int .i64 l_0,.int .i64 l_1,.int .i64 l_2,.int .i64 l_3]]:=dV ⟨[],[],[],[]⟩ Go.Proofs.Tryz.func131 (by kernel_rfl)
def z05m (a_0 a_1 a_2 a_3 b_0 b_1 b_2:Int) (b_3:Int):Prog :=
Ap T.a14 (Bl a_0 a_1 a_2 a_3) λa0=>
Ap T.a14 (Bl b_0 b_1 b_2 b_3) λa1=>
Aq T.a13 a0 2 λn2=>
Aq T.a13 a1 2 λn3=>
Ax F.a1 [Aa n2,Aa n3] λn4=>
Ac n4 λn5=>
Am 0 [Aa n5]
theorem zsy (a_0 a_1 a_2 a_3 b_0 b_1 b_2 b_3:Int):FnS (z05m a_0 a_1 a_2 a_3 b_0 b_1 b_2 b_3) F.a55 #[.agg #[.int .i64 a_0,.int .i64 a_1,.int .i64 a_2,.int .i64 a_3],.agg #[.int .i64 b_0,.int .i64 b_1,.int .i64 b_2,.int .i64 b_3]]:=dV ⟨[],[],[],[]⟩ Go.Proofs.Tryz.func133 (by kernel_rfl)
def z087 (l:Sl) (pid:Int) (epoch:Int):Prog :=
Ay 1 (
AA 2 (0,()) λn0=>
Ai (decide (n0<(AB l))) (
.ex [.adr] (c1 λa1=>0<=n0/\n0<(AB l)/\l.a=some a1) (u1 λa2=>
Bw T.a56 a2 (Int.toNat n0*4) λn3 n4 n5 n6=>
Ad T.a56 λa7=>
Ac n0 λn8=>
Ae T.a56 a7 (Bl n3 n4 n5 n6)<|
Aq T.a13 a7 0 λn9=>
Ar ((n9 == pid)=true) T.a12 a7 1 λn10=>
Ai (n9 == pid && n10 == epoch) (
Ac n8 λn11=>
Am 0 [Aa n11])<|
Am 2 [Aa (AF (n0+1))]))<|
Am 1 [])<|
Am 0 [Aa (-1)]
def z086 (v:Option Addr):Prog :=
AI v λa1=>
Bp T.a45 a1 1 λl2=>
Ai (decide ((AB l2)>0)) (
AI v λa4=>
Bp T.a45 a4 1 λl5=>
.ex [.adr] (c1 λa6=>(0:Int)<=0/\0<(AB l5)/\l5.a=some a6) (u1 λa7=>
Aq T.a13 (Addr.add a7 0) 2 λn8=>
Ac n8 λn9=>
Am 0 [Aa n9]))<|
AI v λa11=>
Aq T.a13 a11 0 λn12=>
Ac n12 λn13=>
Am 0 [Aa n13]
def z085 (v:Option Addr) (b_0 b_1 b_2 b_3 b_4 b_5:Int) (b_6:Sl):Prog :=
Ap T.a0 (AD b_0 b_1 b_2 b_3 b_4 b_5 b_6) λa0=>
AE T.a0 a0 λn1 n2 n3 n4 n5 n6 l7=>
Ak F.a168 [AD n1 n2 n3 n4 n5 n6 l7] λb8=>
Ai b8 (
Am 0 [Aa 3])<|
AL<|
Bj T.a13 a0 0 λn9=>
Ax F.a181 [Ah v] λn10=>
AN<|
Ai (decide (n9>=n10)) (
Am 0 [Aa 0])<|
AL<|
AI v λa12=>
Bp T.a45 a12 2 λl13=>
Aq T.a13 a0 1 λn14=>
Aq T.a12 a0 2 λn15=>
Ax F.a182 [l13.v,Aa n14,Aa n15] λn16=>
Ac n16 λn17=>
AN<|
AL<|
Aq T.a12 a0 4 λn18=>
Ar ((n18 == 1 && decide (n17>=0))=true) T.a13 a0 0 λn19=>
AO ((n18 == 1 && decide (n17>=0))=true) v λa21=>
Bx ((n18 == 1 && decide (n17>=0))=true) T.a45 a21 2 λl22=>
.ex [.adr] (c1 λa23=>(n18 == 1 && decide (n17>=0))=true->0<=n17/\n17<(AB l22)/\l22.a=some a23) (u1 λa24=>
Ar ((n18 == 1 && decide (n17>=0))=true) T.a13 (Addr.add a24 (Int.toNat n17*4)) 2 λn25=>
AN<|
Ai (n18 == 1 && decide (n17>=0) && decide (n19>=n25)) (
Am 0 [Aa 2])<|
Am 0 [Aa 1])
def z04k (t:Option Addr) (b_0 b_1 b_2 b_3 b_4 b_5:Int) (b_6:Sl):Prog :=
Ap T.a0 (AD b_0 b_1 b_2 b_3 b_4 b_5 b_6) λa0=>
Ad T.a6 λa1=>
Ai (Option.isNone t) (
Ae T.a6 a1 (Bb false 0)<|
Bq T.a6 a1 λb2 n3=>
Am 0 [Bb b2 n3,Aa 1])<|
AE T.a0 a0 λn4 n5 n6 n7 n8 n9 l10=>
Ax F.a92 [AD n4 n5 n6 n7 n8 n9 l10] λn11=>
Ac n11 λn12=>
Ar ((n12 != 0)=false) T.a13 a0 1 λn13=>
Ai (n12 != 0 || n13 == 0) (
Ae T.a6 a1 (Bb false 0)<|
Ac n12 λn14=>
Bq T.a6 a1 λb15 n16=>
Am 0 [Bb b15 n16,Aa n14])<|
Aq T.a13 a0 1 λn17=>
.call F.a13 [Ah t,Aa n17] (.tup [.agg [.int .i64,.int .i64,.int .i64,.int .i64,.int .i64,.int .i64,.int .i64],.one .bool]) (u8 λ(n18 n19 n20 n21 n22 n23 n24:Int) b25=>
Ad T.a4 λa26=>
Ae T.a4 a26 (Bs n18 n19 n20 n21 n22 n23 n24)<|
Al b25 λb27=>
Aq T.a12 a0 2 λn28=>
Aq T.a12 a26 1 λn29=>
Ai (decide (n28<n29)) (
AE T.a0 a0 λn30 n31 n32 n33 n34 n35 l36=>
Ak F.a15 [AD n30 n31 n32 n33 n34 n35 l36] λb37=>
Ai b37 (
Ae T.a6 a1 (.agg #[.bool true,Aa (-1)])<|
Bq T.a6 a1 λb38 n39=>
Am 0 [Bb b38 n39,Aa 0])<|
Ae T.a6 a1 (Bb false 0)<|
Bq T.a6 a1 λb40 n41=>
Am 0 [Bb b40 n41,Aa 20])<|
AE T.a0 a0 λn42 n43 n44 n45 n46 n47 l48=>
Ak F.a15 [AD n42 n43 n44 n45 n46 n47 l48] λb49=>
Ay 1 (
Ai (not b49) (
Bu T.a4 a26 λn50 n51 n52 n53 n54 n55 n56=>
AE T.a0 a0 λn57 n58 n59 n60 n61 n62 l63=>
.call F.a14 [Bs n50 n51 n52 n53 n54 n55 n56,AD n57 n58 n59 n60 n61 n62 l63] (.tup [.agg [.bool,.int .i64],.one .bool]) (u3 λb64 (n65:Int) b66=>
Ad T.a6 λa67=>
Ae T.a6 a67 (Bb b64 n65)<|
AH b66 (
Bq T.a6 a67 λb69 n70=>
Ae T.a6 a1 (Bb b69 n70)<|
Bq T.a6 a1 λb71 n72=>
Am 0 [Bb b71 n72,Aa 0])<|
Am 1 []))<|
Am 1 [])<|
Bu T.a4 a26 λn73 n74 n75 n76 n77 n78 n79=>
AE T.a0 a0 λn80 n81 n82 n83 n84 n85 l86=>
Ax F.a12 [Ah t,Bs n73 n74 n75 n76 n77 n78 n79,.bool b27,AD n80 n81 n82 n83 n84 n85 l86] λn87=>
Ae T.a6 a1 (Bb false 0)<|
Ac n87 λn88=>
Bq T.a6 a1 λb89 n90=>
Am 0 [Bb b89 n90,Aa n88])
theorem zru (t:Option Addr) (b_0 b_1 b_2 b_3 b_4 b_5:Int) (b_6:Sl):FnS (z04k t b_0 b_1 b_2 b_3 b_4 b_5 b_6) F.a9 #[.pointer t,.agg #[.int .i64 b_0,.int .i64 b_1,.int .i64 b_2,.int .i64 b_3,.int .i64 b_4,.int .i64 b_5,.slice b_6.a b_6.len b_6.cap]]:=dV ⟨[(18374686479678046251,[])],[],[],[]⟩ Go.Proofs.Tryz.func164 (by kernel_rfl)
def z05l (v:Option Addr) (b_0 b_1 b_2 b_3 b_4 b_5:Int) (b_6:Sl):Prog :=
Ap T.a0 (AD b_0 b_1 b_2 b_3 b_4 b_5 b_6) λa0=>
Ai (Option.isNone v) (
Am 0 [Aa 1])<|
AE T.a0 a0 λn1 n2 n3 n4 n5 n6 l7=>
Ax F.a92 [AD n1 n2 n3 n4 n5 n6 l7] λn8=>
Ac n8 λn9=>
Ai (n9 != 0) (
Ac n9 λn10=>
Am 0 [Aa n10])<|
AL<|
Aq T.a13 a0 0 λn11=>
AI v λa13=>
Aq T.a13 a13 0 λn14=>
Al (decide (n11<n14)) λb15=>
AN<|
Ai b15 (
Am 0 [Aa 8])<|
Aq T.a12 a0 4 λn16=>
AH (n16 != 0) (
AE T.a0 a0 λn18 n19 n20 n21 n22 n23 l24=>
Ax F.a59 [Ah v,AD n18 n19 n20 n21 n22 n23 l24] λn25=>
Ac n25 λn26=>
Am 0 [Aa n26])<|
Am 0 [Aa 0]
theorem zsw (v:Option Addr) (b_0 b_1 b_2 b_3 b_4 b_5:Int) (b_6:Sl):FnS (z05l v b_0 b_1 b_2 b_3 b_4 b_5 b_6) F.a52 #[.pointer v,.agg #[.int .i64 b_0,.int .i64 b_1,.int .i64 b_2,.int .i64 b_3,.int .i64 b_4,.int .i64 b_5,.slice b_6.a b_6.len b_6.cap]]:=dV ⟨[],[],[],[]⟩ Go.Proofs.Tryz.func165 (by kernel_rfl)
def zf9 (r_0 r_1 r_2 r_3 r_4 r_5:Int) (r_6:Int):Prog :=
Ap T.a4 (Bs r_0 r_1 r_2 r_3 r_4 r_5 r_6) λa0=>
Aq T.a13 a0 5 λn1=>
Al (decide (n1>=0)) λb2=>
Am 0 [.bool b2]
theorem zw5 (r_0 r_1 r_2 r_3 r_4 r_5 r_6:Int):FnS (zf9 r_0 r_1 r_2 r_3 r_4 r_5 r_6) F.a8 #[.agg #[.int .i64 r_0,.int .i64 r_1,.int .i64 r_2,.int .i64 r_3,.int .i64 r_4,.int .i64 r_5,.int .i64 r_6]]:=dV ⟨[],[],[],[]⟩ Go.Proofs.Tryz.func167 (by kernel_rfl)
def z08b (r:Option Addr) (most:Int):Prog :=
AY F.a196 [Ah r] λn0=>
AZ n0 λn1=>
Ai (decide (n1>IntKind.wrap .u64 most)) (
Ac (AF (most+1)) λn2=>
Am 0 [Aa n2])<|
Ac (AF n1) λn3=>
Am 0 [Aa n3]
def z08a (r_0 r_1 r_2 r_3 r_4 r_5 r_6:Int) (next_:Int):Prog :=
Ap T.a4 (Bs r_0 r_1 r_2 r_3 r_4 r_5 r_6) λa0=>
Aq T.a13 a0 0 λn1=>
Ar (decide (n1<1)=false) T.a13 a0 0 λn2=>
Ar ((decide (n1<1) || decide (n2>1048576))=false) T.a12 a0 1 λn3=>
Ar ((decide (n1<1) || decide (n2>1048576) || decide (n3>32768))=false) T.a13 a0 6 λn4=>
Ar ((decide (n1<1) || decide (n2>1048576) || decide (n3>32768) || decide (n4>1099511627776))=false) T.a12 a0 3 λn5=>
Ai (decide (n1<1) || decide (n2>1048576) || decide (n3>32768) || decide (n4>1099511627776) || decide (n5>64)) (
Am 0 [.bool false])<|
Aq T.a12 a0 3 λn6=>
Ai (n6 == 0) (
Aq T.a12 a0 2 λn7=>
Ar ((n7 == 0)=true) T.a13 a0 4 λn8=>
Ar ((n7 == 0 && n8 == 0)=true) T.a13 a0 5 λn9=>
Al (n7 == 0 && n8 == 0 && n9 == -1) λb10=>
Am 0 [.bool b10])<|
Aj 1 (
Aq T.a12 a0 1 λn11=>
Bt (decide (n11<=32767)=true) T.a4 a0 λn12 n13 n14 n15 n16 n17 n18=>
Ai (decide (n11<=32767)) (
Ax F.a7 [Bs n12 n13 n14 n15 n16 n17 n18] λn19=>
Ar (decide (n19<=2147483648)=true) T.a13 a0 4 λn20=>
Ar (decide (n19<=2147483648)=true) T.a12 a0 3 λn21=>
Ar ((decide (n19<=2147483648) && decide (AF (n20+n21)<=next_))=true) T.a13 a0 5 λn22=>
Ar ((decide (n19<=2147483648) && decide (AF (n20+n21)<=next_))=true) T.a13 a0 4 λn23=>
Al (decide (n19<=2147483648) && decide (AF (n20+n21)<=next_) && decide (n22<=n23)) λb24=>
Am 1 [.bool b24])<|
Am 1 [.bool false]) λb25=>
Am 0 [.bool b25]
def z08h (r:Option Addr) (most:Int):Prog :=
AY F.a196 [Ah r] λn0=>
AZ n0 λn1=>
Ai (decide (n1>IntKind.wrap .u64 most)) (
Ac (AF (most+1)) λn2=>
Am 0 [Aa n2])<|
Ac (AF n1) λn3=>
Am 0 [Aa n3]
def z08f (v:Option Addr) (r:Option Addr):Prog :=
Ax F.a64 [Ah r,Aa 1024] λn0=>
Ac n0 λn1=>
Ay 1 (
Br 2 (-1,(0,())) λn2 n3=>
Ai (decide (n3<n1)) (
AI v λa5=>
Aq T.a13 a5 0 λn6=>
.call F.a63 [Ah r,Aa n6] (.tup [.agg [.int .i64,.int .i64,.int .i64,.int .i64],.one .bool]) (u5 λ(n7 n8 n9 n10:Int) b11=>
Ad T.a17 λa12=>
Ae T.a17 a12 (Bl n7 n8 n9 n10)<|
Al b11 λb13=>
Aj 3 (
AL<|
AI v λa15=>
Bi T.a19 a15 1 λm16=>
Bj T.a13 (Addr.add a12 0) 0 λn17=>
Bk (Instr.lookup T.a19 (.map m16) (Aa n17) true) λn18 n19 n20 n21 b22=>
Ad T.a17 λa23=>
AN<|
Ae T.a17 a23 (Bl n18 n19 n20 n21)<|
Al b22 λb24=>
AN<|
Am 3 [.bool b24]) λb25=>
Ar ((not b13 || b25)=false) T.a13 a12 2 λn26=>
Ai (not b13 || b25 || decide (n26<=n2) || decide (n3>=1024)) (
Am 0 [.bool false])<|
AL<|
AI v λa28=>
Bn T.a19 a28 1 λm29=>
Aq T.a13 (Addr.add a12 0) 0 λn30=>
Bo T.a17 a12 λn31 n32 n33 n34=>
Bv (Instr.mapUpdate T.a19 (.map m29) (Aa n30) (Bl n31 n32 n33 n34))<|
AN<|
Aq T.a13 a12 2 λn35=>
Ac n35 λn36=>
Ac (AF (n3+1)) λn37=>
Am 2 [Aa n36,Aa n37]))<|
Am 1 [])<|
Ax F.a192 [Ah r] λn38=>
Al (n38 == 0) λb39=>
Am 0 [.bool b39]
def z08e (v:Option Addr) (r:Option Addr):Prog :=
Ax F.a64 [Ah r,Aa 4096] λn0=>
Ac n0 λn1=>
Ay 1 (
Br 2 (-1,(0,())) λn2 n3=>
Ai (decide (n3<n1)) (
AI v λa5=>
Aq T.a13 a5 0 λn6=>
.call F.a63 [Ah r,Aa n6] (.tup [.agg [.int .i64,.int .i64,.int .i64,.int .i64],.one .bool]) (u5 λ(n7 n8 n9 n10:Int) b11=>
Ad T.a17 λa12=>
Ae T.a17 a12 (Bl n7 n8 n9 n10)<|
Al b11 λb13=>
Ax F.a64 [Ah r,Aa 1099511627776] λn14=>
AV T.a13 a12 3 (Aa n14)<|
Aj 3 (
AL<|
AI v λa16=>
Bi T.a20 a16 2 λm17=>
.hold True (ld T.a16 (Addr.add a12 0)) (sG [.int .i64,.int .i64]) (u2 λ(n18 n19:Int)=>
Bk (Instr.lookup T.a20 (.map m17) (Au n18 n19) true) λn20 n21 n22 n23 b24=>
Ad T.a17 λa25=>
AN<|
Ae T.a17 a25 (Bl n20 n21 n22 n23)<|
Al b24 λb26=>
AN<|
Am 3 [.bool b26])) λb27=>
Aj 3 (
AL<|
Ai (not b13) (
AN<|
Am 3 [.bool true])<|
Ax F.a192 [Ah r] λn28=>
AO ((n28 != 0 || b27)=false) v λa30=>
By ((n28 != 0 || b27)=false) T.a19 a30 1 λm31=>
Ar ((n28 != 0 || b27)=false) T.a13 (Addr.add a12 0) 0 λn32=>
.read ((n28 != 0 || b27)=false) (Instr.lookup T.a19 (.map m31) (Aa n32) false) (sG [.int .i64,.int .i64,.int .i64,.int .i64]) (u4 λ(n33 n34 n35 n36:Int)=>
Bz ((n28 != 0 || b27)=false) (ld T.a16 (Addr.add a12 0)) λn37 n38=>
Ar ((n28 != 0 || b27 || n33 == n37 && n34 == n38)=false) T.a13 a12 3 λn39=>
Ar ((n28 != 0 || b27 || n33 == n37 && n34 == n38 || decide (n39<=n2))=false) T.a13 a12 3 λn40=>
Ar ((n28 != 0 || b27 || n33 == n37 && n34 == n38 || decide (n39<=n2))=false) T.a13 a12 2 λn41=>
Ar ((n28 != 0 || b27 || n33 == n37 && n34 == n38 || decide (n39<=n2) || decide (n40<=n41))=false) T.a13 a12 3 λn42=>
AO ((n28 != 0 || b27 || n33 == n37 && n34 == n38 || decide (n39<=n2) || decide (n40<=n41))=false) v λa44=>
Ar ((n28 != 0 || b27 || n33 == n37 && n34 == n38 || decide (n39<=n2) || decide (n40<=n41))=false) T.a13 a44 0 λn45=>
AN<|
Am 3 [.bool (n28 != 0 || b27 || n33 == n37 && n34 == n38 || decide (n39<=n2) || decide (n40<=n41) || decide (n42>=n45) || decide (n3>=4096))])) λb46=>
Ai b46 (
Am 0 [.bool false])<|
AL<|
AI v λa48=>
Bn T.a20 a48 2 λm49=>
As T.a16 a12 0 λn50 n51=>
Bo T.a17 a12 λn52 n53 n54 n55=>
Bv (Instr.mapUpdate T.a20 (.map m49) (Au n50 n51) (Bl n52 n53 n54 n55))<|
AN<|
Aq T.a13 a12 3 λn56=>
Ac n56 λn57=>
Ac (AF (n3+1)) λn58=>
Am 2 [Aa n57,Aa n58]))<|
Am 1 [])<|
Ax F.a192 [Ah r] λn59=>
Al (n59 == 0) λb60=>
Am 0 [.bool b60]
def z04n (t:Option Addr) (pid:Int):Prog :=
Ad T.a4 λa0=>
AI t λa2=>
Bn T.a18 a2 2 λm3=>
.read True (Instr.lookup T.a18 (.map m3) (Aa pid) true) (.tup [.agg [.int .i64,.int .i64,.int .i64,.int .i64,.int .i64,.int .i64,.int .i64],.one .bool]) (u8 λ(n4 n5 n6 n7 n8 n9 n10:Int) b11=>
Ad T.a4 λa12=>
Ae T.a4 a12 (Bs n4 n5 n6 n7 n8 n9 n10)<|
Al b11 λb13=>
Ai (not b13) (
Ae T.a4 a0 (.agg #[Aa pid,Aa (-1),Aa 0,Aa 0,Aa 0,Aa (-1),Aa 0])<|
Bu T.a4 a0 λn14 n15 n16 n17 n18 n19 n20=>
Am 0 [Bs n14 n15 n16 n17 n18 n19 n20,.bool false])<|
Bu T.a4 a12 λn21 n22 n23 n24 n25 n26 n27=>
Ae T.a4 a0 (Bs n21 n22 n23 n24 n25 n26 n27)<|
Bu T.a4 a0 λn28 n29 n30 n31 n32 n33 n34=>
Am 0 [Bs n28 n29 n30 n31 n32 n33 n34,.bool true])
theorem zry (t:Option Addr) (pid:Int):FnS (z04n t pid) F.a13 #[.pointer t,.int .i64 pid]:=dV ⟨[],[],[],[]⟩ Go.Proofs.Tryz.func202 (by kernel_rfl)
def z04p (b_0 b_1 b_2 b_3 b_4 b_5:Int) (b_6:Sl):Prog :=
Ap T.a0 (AD b_0 b_1 b_2 b_3 b_4 b_5 b_6) λa0=>
Aq T.a12 a0 4 λn1=>
Ar ((n1 == 2)=false) T.a12 a0 4 λn2=>
Al (n1 == 2 || n2 == 3) λb3=>
Am 0 [.bool b3]
theorem zs0 (b_0 b_1 b_2 b_3 b_4 b_5:Int) (b_6:Sl):FnS (z04p b_0 b_1 b_2 b_3 b_4 b_5 b_6) F.a15 #[.agg #[.int .i64 b_0,.int .i64 b_1,.int .i64 b_2,.int .i64 b_3,.int .i64 b_4,.int .i64 b_5,.slice b_6.a b_6.len b_6.cap]]:=dV ⟨[],[],[],[]⟩ Go.Proofs.Tryz.func232 (by kernel_rfl)
def z04o (r_0 r_1 r_2 r_3 r_4 r_5 r_6 b_0 b_1 b_2 b_3 b_4 b_5:Int) (b_6:Sl):Prog :=
Ap T.a4 (Bs r_0 r_1 r_2 r_3 r_4 r_5 r_6) λa0=>
Ap T.a0 (AD b_0 b_1 b_2 b_3 b_4 b_5 b_6) λa1=>
Ad T.a6 λa2=>
Aj 1 (
AL<|
Aq T.a12 a1 2 λn3=>
Aq T.a12 a0 1 λn4=>
AM ((n3 != n4)=false) T.a12 a1 3 λn5=>
.hold ((n3 != n4)=false) (ld T.a35 (Addr.add a1 6)) sL (u1 λl6=>
Bt ((n3 != n4)=false) T.a4 a0 λn7 n8 n9 n10 n11 n12 n13=>
Ai (n3 != n4) (
AN<|
Am 1 [.bool true])<|
Ax F.a7 [Bs n7 n8 n9 n10 n11 n12 n13] λn14=>
AN<|
Am 1 [.bool (decide (AF (n5+(AB l6))>n14))])) λb15=>
Ai b15 (
Ae T.a6 a2 (Bb false 0)<|
Bq T.a6 a2 λb16 n17=>
Am 0 [Bb b16 n17,.bool false])<|
Aq T.a12 a1 3 λn18=>
Aq T.a12 a0 2 λn19=>
Bx ((n18 == n19)=true) T.a35 a1 6 λl20=>
Ar ((n18 == n19)=true) T.a12 a0 3 λn21=>
Ai (n18 == n19 && (AB l20) == n21) (
Aq T.a13 a0 4 λn22=>
Ae T.a6 a2 (Bb true n22)<|
Bq T.a6 a2 λb23 n24=>
Am 0 [Bb b23 n24,.bool true])<|
Ae T.a6 a2 (.agg #[.bool true,Aa (-1)])<|
Bq T.a6 a2 λb25 n26=>
Am 0 [Bb b25 n26,.bool true]
theorem zrz (r_0 r_1 r_2 r_3 r_4 r_5 r_6 b_0 b_1 b_2 b_3 b_4 b_5:Int) (b_6:Sl):FnS (z04o r_0 r_1 r_2 r_3 r_4 r_5 r_6 b_0 b_1 b_2 b_3 b_4 b_5 b_6) F.a14 #[.agg #[.int .i64 r_0,.int .i64 r_1,.int .i64 r_2,.int .i64 r_3,.int .i64 r_4,.int .i64 r_5,.int .i64 r_6],.agg #[.int .i64 b_0,.int .i64 b_1,.int .i64 b_2,.int .i64 b_3,.int .i64 b_4,.int .i64 b_5,.slice b_6.a b_6.len b_6.cap]]:=dV ⟨[],[],[(1,[(21,.one .bool)])],[]⟩ Go.Proofs.Tryz.func233 (by kernel_rfl)
def z04m (t:Option Addr) (r_0 r_1 r_2 r_3 r_4 r_5 r_6:Int) (there:Bool) (b_0 b_1 b_2 b_3 b_4 b_5:Int) (b_6:Sl):Prog :=
Ap T.a4 (Bs r_0 r_1 r_2 r_3 r_4 r_5 r_6) λa0=>
Ap T.a0 (AD b_0 b_1 b_2 b_3 b_4 b_5 b_6) λa1=>
Bu T.a4 a0 λn2 n3 n4 n5 n6 n7 n8=>
Ax F.a7 [Bs n2 n3 n4 n5 n6 n7 n8] λn9=>
Ac n9 λn10=>
Aq T.a12 a1 2 λn11=>
Aq T.a12 a0 1 λn12=>
Bg 1 (
Ai (decide (n11>n12)) (
Am 1 [Aa 0])<|
Am 1 [Aa n10]) λn13=>
Bu T.a4 a0 λn14 n15 n16 n17 n18 n19 n20=>
Ak F.a8 [Bs n14 n15 n16 n17 n18 n19 n20] λb21=>
Ar (b21=true) T.a12 a1 2 λn22=>
Ar (b21=true) T.a12 a0 1 λn23=>
Ar (b21=true/\decide (n22>n23)=false) T.a12 a1 4 λn24=>
AH (b21 && (decide (n22>n23) || n24 == 0)) (
Am 0 [Aa 22])<|
AE T.a0 a1 λn26 n27 n28 n29 n30 n31 l32=>
Ak F.a15 [AD n26 n27 n28 n29 n30 n31 l32] λb33=>
Ar (not b33=true) T.a12 a1 3 λn34=>
AH (not b33 && n34 != n13) (
Am 0 [Aa 21])<|
AL<|
AO (not there=true) t λa37=>
By (not there=true) T.a18 a37 2 λm38=>
B0 (not there=true) (Builtin.len_ #[T.a18] T.a12 #[.map m38]) λn39=>
AO (not there=true) t λa41=>
Ar (not there=true) T.a12 a41 0 λn42=>
Al (not there && decide (n39>=n42)) λb43=>
AN<|
Ai b43 (
Am 0 [Aa 5])<|
Am 0 [Aa 0]
theorem zrx (t:Option Addr) (r_0 r_1 r_2 r_3 r_4 r_5 r_6:Int) (there:Bool) (b_0 b_1 b_2 b_3 b_4 b_5:Int) (b_6:Sl):FnS (z04m t r_0 r_1 r_2 r_3 r_4 r_5 r_6 there b_0 b_1 b_2 b_3 b_4 b_5 b_6) F.a12 #[.pointer t,.agg #[.int .i64 r_0,.int .i64 r_1,.int .i64 r_2,.int .i64 r_3,.int .i64 r_4,.int .i64 r_5,.int .i64 r_6],.bool there,.agg #[.int .i64 b_0,.int .i64 b_1,.int .i64 b_2,.int .i64 b_3,.int .i64 b_4,.int .i64 b_5,.slice b_6.a b_6.len b_6.cap]]:=dV ⟨[(2097168,[(9,.one (.int .i64))])],[],[],[]⟩ Go.Proofs.Tryz.func234 (by kernel_rfl)
def z05o (v:Option Addr) (b_0 b_1 b_2 b_3 b_4 b_5:Int) (b_6:Sl):Prog :=
Ap T.a0 (AD b_0 b_1 b_2 b_3 b_4 b_5 b_6) λa0=>
Aq T.a13 a0 1 λn1=>
Aq T.a12 a0 2 λn2=>
Ad T.a16 λa3=>
Ae T.a16 a3 (Au n1 n2)<|
Aj 1 (
AL<|
AI v λa5=>
Bi T.a20 a5 2 λm6=>
.hold True (ld T.a16 a3) (sG [.int .i64,.int .i64]) (u2 λ(n7 n8:Int)=>
Bk (Instr.lookup T.a20 (.map m6) (Au n7 n8) true) λn9 n10 n11 n12 b13=>
Ad T.a17 λa14=>
AN<|
Ae T.a17 a14 (Bl n9 n10 n11 n12)<|
Al b13 λb15=>
AN<|
Am 1 [.bool b15])) λb16=>
Bh 1 (
AL<|
AI v λa18=>
Bi T.a19 a18 1 λm19=>
Bj T.a13 a0 1 λn20=>
Bk (Instr.lookup T.a19 (.map m19) (Aa n20) true) λn21 n22 n23 n24 b25=>
Ad T.a17 λa26=>
AN<|
Ae T.a17 a26 (Bl n21 n22 n23 n24)<|
Al b25 λb27=>
AN<|
Am 1 [Av a26,.bool b27]) λa28 b29=>
AH b16 (
Am 0 [Aa 20])<|
Bz (b29=true) (ld T.a16 (Addr.add a28 0)) λn31 n32=>
Bz (b29=true) (ld T.a16 a3) λn33 n34=>
AH (b29 && not (n31 == n33 && n32 == n34)) (
Am 0 [Aa 22])<|
Aq T.a12 a0 4 λn36=>
AO ((n36 == 1 && not b29)=true) v λa38=>
By ((n36 == 1 && not b29)=true) T.a19 a38 1 λm39=>
B0 ((n36 == 1 && not b29)=true) (Builtin.len_ #[T.a19] T.a12 #[.map m39]) λn40=>
AH (n36 == 1 && not b29 && decide (n40>=1024)) (
Am 0 [Aa 5])<|
Aq T.a12 a0 4 λn42=>
AO ((n42 == 3 && b29)=true) v λa44=>
By ((n42 == 3 && b29)=true) T.a20 a44 2 λm45=>
B0 ((n42 == 3 && b29)=true) (Builtin.len_ #[T.a20] T.a12 #[.map m45]) λn46=>
AH (n42 == 3 && b29 && decide (n46>=4096)) (
Am 0 [Aa 5])<|
Am 0 [Aa 0]
theorem zt1 (v:Option Addr) (b_0 b_1 b_2 b_3 b_4 b_5:Int) (b_6:Sl):FnS (z05o v b_0 b_1 b_2 b_3 b_4 b_5 b_6) F.a59 #[.pointer v,.agg #[.int .i64 b_0,.int .i64 b_1,.int .i64 b_2,.int .i64 b_3,.int .i64 b_4,.int .i64 b_5,.slice b_6.a b_6.len b_6.cap]]:=dV ⟨[],[],[(2,[(7,.one .bool)]),(3,[(8,.one .adr),(9,.one .bool)])],[]⟩ Go.Proofs.Tryz.func235 (by kernel_rfl)
def zf8 (r_0 r_1 r_2 r_3 r_4 r_5:Int) (r_6:Int):Prog :=
Ap T.a4 (Bs r_0 r_1 r_2 r_3 r_4 r_5 r_6) λa0=>
Aq T.a12 a0 2 λn1=>
Aq T.a12 a0 3 λn2=>
Ac (AF (n1+n2)) λn3=>
Am 0 [Aa n3]
theorem zw4 (r_0 r_1 r_2 r_3 r_4 r_5 r_6:Int):FnS (zf8 r_0 r_1 r_2 r_3 r_4 r_5 r_6) F.a7 #[.agg #[.int .i64 r_0,.int .i64 r_1,.int .i64 r_2,.int .i64 r_3,.int .i64 r_4,.int .i64 r_5,.int .i64 r_6]]:=dV ⟨[],[],[],[]⟩ Go.Proofs.Tryz.func253 (by kernel_rfl)
def z08g (r:Option Addr) (next_:Int):Prog :=
Ad T.a17 λa0=>
Ax F.a64 [Ah r,Aa 1048576] λn1=>
Ax F.a64 [Ah r,Aa 32767] λn2=>
Ax F.a64 [Ah r,Aa 1099511627776] λn3=>
Ad T.a17 λa4=>
Ae T.a17 a4 (.agg #[Aa n1,Aa n2,Aa n3,Aa (-1)])<|
Aj 1 (
AL<|
.hold True (ld T.a17 a4) (sG [.int .i64,.int .i64,.int .i64,.int .i64]) (u4 λ(n5 n6 n7 n8:Int)=>
Ax F.a192 [Ah r] λn9=>
Ar ((n9 == 0)=true) T.a13 (Addr.add a4 0) 0 λn10=>
Ar ((n9 == 0 && decide (n10>=1))=true) T.a13 (Addr.add a4 0) 0 λn11=>
Ar ((n9 == 0 && decide (n10>=1) && decide (n11<=1048576))=true) T.a12 (Addr.add a4 0) 1 λn12=>
AM ((n9 == 0 && decide (n10>=1) && decide (n11<=1048576) && decide (n12<=32767))=true) T.a13 a4 2 λn13=>
Ae T.a17 a0 (Bl n5 n6 n7 n8)<|
Al (n9 == 0 && decide (n10>=1) && decide (n11<=1048576) && decide (n12<=32767) && decide (n13<next_)) λb14=>
AN<|
Am 1 [.bool b14])) λb15=>
Bo T.a17 a0 λn16 n17 n18 n19=>
Am 0 [Bl n16 n17 n18 n19,.bool b15]
def z05j (a_0 a_1 a_2 a_3 b_0 b_1 b_2:Int) (b_3:Int):Prog :=
Ap T.a14 (Bl a_0 a_1 a_2 a_3) λa0=>
Ap T.a14 (Bl b_0 b_1 b_2 b_3) λa1=>
Aq T.a13 a0 3 λn2=>
Aq T.a13 a1 3 λn3=>
Ax F.a1 [Aa n2,Aa n3] λn4=>
Ac n4 λn5=>
Am 0 [Aa n5]
theorem zsu (a_0 a_1 a_2 a_3 b_0 b_1 b_2 b_3:Int):FnS (z05j a_0 a_1 a_2 a_3 b_0 b_1 b_2 b_3) F.a50 #[.agg #[.int .i64 a_0,.int .i64 a_1,.int .i64 a_2,.int .i64 a_3],.agg #[.int .i64 b_0,.int .i64 b_1,.int .i64 b_2,.int .i64 b_3]]:=dV ⟨[],[],[],[]⟩ Go.Proofs.Tryz.func290 (by kernel_rfl)
structure RowA where
 pid:Int
 epoch:Int
 seq:Int
 count:Int
 base:Int
 frm:Int
 time:Int
def z5j (t:RowA):List Value:=[.int .i64 t.pid,.int .i64 t.epoch,.int .i64 t.seq,.int .i64 t.count,.int .i64 t.base,.int .i64 t.frm,.int .i64 t.time]
instance:EncA z5j [.int .i64,.int .i64,.int .i64,.int .i64,.int .i64,.int .i64,.int .i64] (λt=>(t.pid,t.epoch,t.seq,t.count,t.base,t.frm,t.time,())):=⟨λ_=>rfl⟩
instance:EncN z5j 7:=⟨λ_=>rfl,by decide,by simp [z5j,Value.oneCell']⟩
instance:EncF z5j 0 (.int .i64) (λt=>t.pid):=⟨λ_=>rfl⟩
instance:EncF z5j 1 (.int .i64) (λt=>t.epoch):=⟨λ_=>rfl⟩
instance:EncF z5j 2 (.int .i64) (λt=>t.seq):=⟨λ_=>rfl⟩
instance:EncF z5j 3 (.int .i64) (λt=>t.count):=⟨λ_=>rfl⟩
instance:EncF z5j 4 (.int .i64) (λt=>t.base):=⟨λ_=>rfl⟩
instance:EncF z5j 5 (.int .i64) (λt=>t.frm):=⟨λ_=>rfl⟩
instance:EncF z5j 6 (.int .i64) (λt=>t.time):=⟨λ_=>rfl⟩
abbrev evW (t:RowA):Value:=.agg #[.int .i64 t.pid,.int .i64 t.epoch,.int .i64 t.seq,.int .i64 t.count,.int .i64 t.base,.int .i64 t.frm,.int .i64 t.time]
def z053 (room:Int):Prog :=
Ai (decide (room<0) || decide (room>4194304)) (
Am 0 [Ah none,Aa 2])<|
.act (Instr.makeMap T.a21 none) sM (u1 λm0=>
Ap T.a7 (.agg #[Aa (-1),.bool false,Aa room,Aa 0,.map m0]) λa1=>
Am 0 [Av a1,Aa 0])
theorem zse (room:Int):FnS (z053 room) F.a32 #[.int .i64 room]:=dV ⟨[],[],[],[]⟩ Go.Proofs.Tryz.func11 (by kernel_rfl)
def z04q (d:Option Addr) (name:ByteArray) (parts:Sl):Prog :=
Ax F.a30 [Ah d] λn0=>
Ac n0 λn1=>
Ai (n1 != 0) (
Ac n1 λn2=>
Am 0 [Aa n2])<|
Ak F.a31 [.string name] λb3=>
Ai (not b3) (
Am 0 [Aa 2])<|
Bg 1 (
Br 2 (0,(0,())) λn4 n5=>
Ai (decide (n5<(AB parts))) (
.ex [.adr] (c1 λa6=>0<=n5/\n5<(AB parts)/\parts.a=some a6) (u1 λa7=>
Bp T.a46 a7 (Int.toNat n5*1) λl8=>
Ax F.a20 [Ah d] λn9=>
Ai (decide ((AB l8)>AF (n9-n4))) (
Am 0 [Aa 5])<|
Ac (AF (n4+(AB l8))) λn10=>
Am 2 [Aa n10,Aa (AF (n5+1))]))<|
Am 1 [Aa n4]) λn11=>
AI d λa13=>
Bn T.a21 a13 4 λm14=>
.read True (Instr.lookup T.a21 (.map m14) (.string name) true) (.tup [.one .ptr,.one .bool]) (u2 λp15 b16=>
Al b16 λb17=>
.bind 1 [.one .ptr] (
Ai (not b17) (
AI d λa19=>
Bn T.a21 a19 4 λm20=>
.read True (Builtin.len_ #[T.a21] T.a12 #[.map m20]) (sI .i64) (u1 λ(n21:Int)=>
Ai (decide (n21>=128)) (
Am 0 [Aa 5])<|
Ap T.a8 (.agg #[.slice none 0 0,Aa 0]) λa22=>
AI d λa24=>
Bn T.a21 a24 4 λm25=>
Bv (Instr.mapUpdate T.a21 (.map m25) (.string name) (Av a22))<|
Am 1 [Av a22]))<|
Am 1 [Ah p15]) (u1 λp26=>
Ay 1 (
AA 2 (0,()) λn27=>
Ai (decide (n27<(AB parts))) (
.ex [.adr] (c1 λa28=>0<=n27/\n27<(AB parts)/\parts.a=some a28) (u1 λa29=>
Bp T.a46 a29 (Int.toNat n27*1) λl30=>
AI p26 λa32=>
Bp T.a46 a32 0 λl33=>
AR (app T.a46 T.a46 T.a46 l33.v l30.v) λl34=>
AI p26 λa36=>
AV T.a46 a36 0 l34.v<|
Am 2 [Aa (AF (n27+1))]))<|
Am 1 [])<|
AI d λa38=>
Aq T.a12 a38 3 λn39=>
AI d λa41=>
AV T.a12 a41 3 (Aa (AF (n39+n11)))<|
AI d λa43=>
Ao F.a33 [B1 a43 0]<|
Am 0 [Aa 0]))
theorem zs1 (d:Option Addr) (name:ByteArray) (parts:Sl):FnS (z04q d name parts) F.a18 #[.pointer d,.string name,.slice parts.a parts.len parts.cap]:=dV ⟨[(604426016319167176900660,[(11,.one .ptr)])],[(0,[(8,.one (.int .i64))]),(2,[])],[],[(0,[(8,.one (.int .i64)),(26,.one (.int .i64))]),(2,[(69,.one (.int .i64))])]⟩ Go.Proofs.Tryz.func25 (by kernel_rfl)
def z04x (d:Option Addr) (name:ByteArray):Prog :=
.call F.a28 [Ah d,.string name] (sG [.slc,.int .i64]) (u2 λl0 (n1:Int)=>
Ac (AB l0) λn2=>
Am 0 [Aa n2])
theorem zs8 (d:Option Addr) (name:ByteArray):FnS (z04x d name) F.a26 #[.pointer d,.string name]:=dV ⟨[],[],[],[]⟩ Go.Proofs.Tryz.func27 (by kernel_rfl)
def z04t (d:Option Addr) (n:Int):Prog :=
AO (Option.isNone d=false) d λa1=>
Bc (Option.isNone d=false) T.a3 (Addr.add a1 0) 1 λb2=>
Ai (Option.isNone d || b2) (
Am 0 [])<|
AI d λa4=>
AV T.a12 (Addr.add a4 0) 0 (Aa (if -1>n then -1 else n))<|
AI d λa6=>
AV T.a3 (Addr.add a6 0) 1 (.bool (n == 0))<|
Am 0 []
theorem zs4 (d:Option Addr) (n:Int):FnS (z04t d n) F.a21 #[.pointer d,.int .i64 n]:=dV ⟨[],[],[],[]⟩ Go.Proofs.Tryz.func29 (by kernel_rfl)
def z04w (d:Option Addr) (name:ByteArray):Prog :=
Ax F.a30 [Ah d] λn0=>
Ac n0 λn1=>
Ai (n1 != 0) (
Ac n1 λn2=>
Am 0 [Aa n2])<|
AI d λa4=>
Bn T.a21 a4 4 λm5=>
B2 (Instr.lookup T.a21 (.map m5) (.string name) false) λp6=>
Ai (Option.isNone p6) (
Am 0 [Aa 3])<|
Ao F.a29 [Ah d,.string name]<|
AI d λa8=>
Ao F.a33 [B1 a8 0]<|
Am 0 [Aa 0]
theorem zs7 (d:Option Addr) (name:ByteArray):FnS (z04w d name) F.a25 #[.pointer d,.string name]:=dV ⟨[],[],[],[]⟩ Go.Proofs.Tryz.func44 (by kernel_rfl)
def z051 (d:Option Addr):Prog :=
AH (Option.isNone d) (
Am 0 [Aa 1])<|
AI d λa2=>
Bd T.a3 (Addr.add a2 0) 1 λb3=>
AH b3 (
Am 0 [Aa 9])<|
Am 0 [Aa 0]
theorem zsc (d:Option Addr):FnS (z051 d) F.a30 #[.pointer d]:=dV ⟨[],[],[],[]⟩ Go.Proofs.Tryz.func68 (by kernel_rfl)
def z052 (s:ByteArray):Prog :=
Ai (decide (((ByteArray.size s:Nat):Int)<1) || decide (((ByteArray.size s:Nat):Int)>24)) (
Am 0 [.bool false])<|
AR (convert T.a51 T.a46 (.string s)) λl0=>
Ay 1 (
AA 2 (0,()) λn1=>
Ai (decide (n1<(AB l0))) (
.ex [.adr] (c1 λa2=>0<=n1/\n1<(AB l0)/\l0.a=some a2) (u1 λa3=>
B3 T.a59 a3 (Int.toNat n1*1) λn4=>
B4 n4 λn5=>
Al (decide (n5>=97) && decide (n5<=122)) λb6=>
Al (decide (n5>=48) && decide (n5<=57)) λb7=>
Ai (not b6 && not b7 && n5 != 46 && n5 != 45) (
Am 0 [.bool false])<|
Am 2 [Aa (AF (n1+1))]))<|
Am 1 [])<|
Am 0 [.bool true]
theorem zsd (s:ByteArray):FnS (z052 s) F.a31 #[.string s]:=dV ⟨[],[(0,[])],[],[(0,[(18,.one (.int .i64))])]⟩ Go.Proofs.Tryz.func69 (by kernel_rfl)
def z04s (d:Option Addr):Prog :=
Ai (Option.isNone d) (
Am 0 [Aa 0])<|
AL<|
AI d λa1=>
Aq T.a12 a1 2 λn2=>
AI d λa4=>
Aq T.a12 a4 3 λn5=>
Ac (if 0>AF (n2-n5) then 0 else AF (n2-n5)) λn6=>
AN<|
Am 0 [Aa n6]
theorem zs3 (d:Option Addr):FnS (z04s d) F.a20 #[.pointer d]:=dV ⟨[],[],[],[]⟩ Go.Proofs.Tryz.func70 (by kernel_rfl)
def z054 (p:Option Addr):Prog :=
AI p λa1=>
Aq T.a12 a1 0 λn2=>
Ay 1 (
Ai (decide (n2>0)) (
AI p λa4=>
Aq T.a12 a4 0 λn5=>
AI p λa7=>
AV T.a12 a7 0 (Aa (AF (n5-1)))<|
AI p λa9=>
Aq T.a12 a9 0 λn10=>
AI p λa12=>
AV T.a3 a12 1 (.bool (n10 == 0))<|
Am 1 [])<|
Am 1 [])<|
Am 0 []
theorem zsf (p:Option Addr):FnS (z054 p) F.a33 #[.pointer p]:=dV ⟨[(17179344902,[])],[],[],[]⟩ Go.Proofs.Tryz.func71 (by kernel_rfl)
def zf69 (m:Option Nat):Prog :=
Ap T.a21 (.map m) λa0=>
Am 0 [.func (Fn.func 148) #[] #[Av a0]]
theorem zf69_calls (m:Option Nat):FnS (zf69 m) F.a65 #[.map m]:=dV ⟨[],[],[],[]⟩ Go.Proofs.Tryz.func72 (by kernel_rfl)
def zf170 (s:ByteArray) (prefix_:ByteArray):Prog :=
Ak F.a47 [.string s,.string prefix_] λb0=>
Al b0 λb1=>
Am 0 [.bool b1]
theorem zf170_calls (s prefix_:ByteArray):FnS (zf170 s prefix_) F.a161 #[.string s,.string prefix_]:=dV ⟨[],[],[],[]⟩ Go.Proofs.Tryz.func73 (by kernel_rfl)
def z07m (x:Sl):Prog :=
Ac (AB x) λn0=>
Ax F.a66 [.int .u64 (IntKind.wrap .u64 n0)] λn1=>
Ao F.a154 [x.v,Aa 0,Aa n0,Aa n1]<|
Am 0 []
def z04z (d:Option Addr) (name:ByteArray):Prog :=
Ad T.a8 λa0=>
AO (Option.isNone d=false) d λa2=>
By (Option.isNone d=false) T.a21 a2 4 λm3=>
.read (Option.isNone d=false) (Instr.lookup T.a21 (.map m3) (.string name) false) sP (u1 λp4=>
Ai (Option.isNone d || Option.isNone p4) (
Ae T.a8 a0 (.agg #[.slice none 0 0,Aa 0])<|
B5 T.a8 a0 λl5 n6=>
Am 0 [B6 l5 n6])<|
AI d λa8=>
Bn T.a21 a8 4 λm9=>
B2 (Instr.lookup T.a21 (.map m9) (.string name) false) λp10=>
AI p10 λa12=>
B5 T.a8 a12 λl13 n14=>
Ae T.a8 a0 (B6 l13 n14)<|
B5 T.a8 a0 λl15 n16=>
Am 0 [B6 l15 n16])
theorem zsa (d:Option Addr) (name:ByteArray):FnS (z04z d name) F.a28 #[.pointer d,.string name]:=dV ⟨[],[],[],[]⟩ Go.Proofs.Tryz.func75 (by kernel_rfl)
def z04u (d:Option Addr):Prog :=
AO (Option.isNone d=false) d λa1=>
Bc (Option.isNone d=false) T.a3 (Addr.add a1 0) 1 λb2=>
Al (Option.isNone d || b2) λb3=>
Am 0 [.bool b3]
theorem zs5 (d:Option Addr):FnS (z04u d) F.a22 #[.pointer d]:=dV ⟨[],[],[],[]⟩ Go.Proofs.Tryz.func97 (by kernel_rfl)
def z04v (d:Option Addr) (name:ByteArray):Prog :=
Ai (Option.isNone d) (
Am 0 [.slice none 0 0,Aa 1])<|
AI d λa1=>
Bn T.a21 a1 4 λm2=>
B2 (Instr.lookup T.a21 (.map m2) (.string name) false) λp3=>
Ai (Option.isNone p3) (
Am 0 [.slice none 0 0,Aa 3])<|
AI p3 λa5=>
Bp T.a46 a5 0 λl6=>
Az F.a0 [l6.v] λl7=>
Am 0 [l7.v,Aa 0]
theorem zs6 (d:Option Addr) (name:ByteArray):FnS (z04v d name) F.a24 #[.pointer d,.string name]:=dV ⟨[],[],[],[]⟩ Go.Proofs.Tryz.func102 (by kernel_rfl)
def z050 (d:Option Addr) (name:ByteArray):Prog :=
AI d λa1=>
Bn T.a21 a1 4 λm2=>
B2 (Instr.lookup T.a21 (.map m2) (.string name) false) λp3=>
Ay 1 (
Ai (not (Option.isNone p3)) (
AL<|
AI d λa5=>
Aq T.a12 a5 3 λn6=>
AI p3 λa8=>
Bp T.a46 a8 0 λl9=>
AI d λa11=>
AV T.a12 a11 3 (Aa (AF (n6-(AB l9))))<|
AN<|
AI d λa13=>
Bn T.a21 a13 4 λm14=>
.act (Builtin.delete_ #[T.a21,T.a51] T.a60 #[.map m14,.string name]) (.tup []) (u0 <|
Am 1 []))<|
Am 1 [])<|
Am 0 []
theorem zsb (d:Option Addr) (name:ByteArray):FnS (z050 d name) F.a29 #[.pointer d,.string name]:=dV ⟨[(4398012956684,[])],[],[],[]⟩ Go.Proofs.Tryz.func103 (by kernel_rfl)
def zzx (n:Int) (f:Value):Prog :=
Ac n λn0=>
Bg 1 (
Br 2 (0,(n0,())) λn1 n2=>
Ai (decide (n1<n2)) (
Ac (AF (Int.fdiv (IntKind.wrap .u64 (AF (n1+n2))) 2)) λn3=>
.callv (f) [Aa n3] sB (u1 λb4=>
Be 3 (
Ai (not b4) (
Ac (AF (n3+1)) λn5=>
Am 3 [Aa n5,Aa n2])<|
Ac n3 λn6=>
Am 3 [Aa n1,Aa n6]) λn7 n8=>
Am 2 [Aa n7,Aa n8]))<|
Am 1 [Aa n1]) λn9=>
Ac n9 λn10=>
Am 0 [Aa n10]
theorem znc (n:Int) (f:Value) {w:World} {R:List Value->World->Prop} (h:(zzx n f).wp P (λ_=>True) w λe vs w'=>e=0/\R vs w'):Ret P F.a160 #[.int .i64 n,f] w R:=dS (n:=26) (rv:=[.tmp 4]) { cnd:=[(120259477525,[(5,.one (.int .i64)),(6,.one (.int .i64))])],blk:=[(0,[(5,.one (.int .i64))])],reg:=[],lps:=[(0,[(5,.one (.int .i64)),(6,.one (.int .i64))])] } [.val (.int .i64 n),.any f] Go.Proofs.Tryz.func121 (by kernel_rfl) (by kernel_rfl) (by kernel_rfl) (by kernel_rfl) h
def zzu (x:Sl) (cmp:Value):Prog :=
Ac (AB x) λn0=>
Ax F.a66 [.int .u64 (IntKind.wrap .u64 n0)] λn1=>
Ao F.a153 [x.v,Aa 0,Aa n0,Aa n1,cmp]<|
Am 0 []
theorem zmw (x:Sl) (cmp:Value) {w:World} {R:List Value->World->Prop} (h:(zzu x cmp).wp P (λ_=>True) w λe vs w'=>e=0/\R vs w'):Ret P F.a130 #[.slice x.a x.len x.cap,cmp] w R:=dS (n:=14) (rv:=[]) { cnd:=[],blk:=[],reg:=[],lps:=[] } [.val (.slice x.a x.len x.cap),.any cmp] Go.Proofs.Tryz.func132 (by kernel_rfl) (by kernel_rfl) (by kernel_rfl) (by kernel_rfl) h
def zf1 (x:Int) (y:Int):Prog :=
Ak F.a3 [Aa x] λb0=>
Al b0 λb1=>
Ak F.a3 [Aa y] λb2=>
Al b2 λb3=>
Ai b1 (
Ai b3 (
Am 0 [Aa 0])<|
Am 0 [Aa (-1)])<|
Ai b3 (
Am 0 [Aa 1])<|
Ai (decide (x<y)) (
Am 0 [Aa (-1)])<|
Ai (decide (x>y)) (
Am 0 [Aa 1])<|
Am 0 [Aa 0]
theorem zw1 (x y:Int):FnS (zf1 x y) F.a1 #[.int .i64 x,.int .i64 y]:=dV ⟨[],[],[],[]⟩ Go.Proofs.Tryz.func134 (by kernel_rfl)
def zf49 (s:ByteArray) (prefix_:ByteArray):Prog :=
.must (decide (((ByteArray.size s:Nat):Int)>=((ByteArray.size prefix_:Nat):Int))=true->0<=((ByteArray.size prefix_:Nat):Int)/\((ByteArray.size prefix_:Nat):Int)<=((ByteArray.size s:Nat):Int)) <|
Al (decide (((ByteArray.size s:Nat):Int)>=((ByteArray.size prefix_:Nat):Int)) && ByteArray.toList (ByteArray.extract s 0 (Int.toNat (((ByteArray.size prefix_:Nat):Int)))) == ByteArray.toList prefix_) λb0=>
Am 0 [.bool b0]
theorem zf49_calls (s prefix_:ByteArray):FnS (zf49 s prefix_) F.a47 #[.string s,.string prefix_]:=dV ⟨[],[],[],[]⟩ Go.Proofs.Tryz.func149 (by kernel_rfl)
def z07x (data:Sl) (a b:Int) (limit:Int):Prog :=
.loop 1 [.one (.int .i64),.one (.int .i64),.one (.int .i64),.one .bool,.one .bool] (a,(b,(limit,(true,(true,()))))) (u5 λ(n0 n1 n2:Int) b3 b4=>
.bind 2 [.one (.int .i64),.one (.int .i64),.one (.int .i64),.one .bool,.one .bool] (
Ac (AF (n1-n0)) λn5=>
Ai (decide (n5<=12)) (
Ao F.a139 [data.v,Aa n0,Aa n1]<|
Am 0 [])<|
Ai (n2 == 0) (
Ao F.a137 [data.v,Aa n0,Aa n1]<|
Am 0 [])<|
Bg 3 (
Ai (not b3) (
Ao F.a133 [data.v,Aa n0,Aa n1]<|
Ac (AF (n2-1)) λn6=>
Am 3 [Aa n6])<|
Am 3 [Aa n2]) λn7=>
Bf F.a135 [data.v,Aa n0,Aa n1] λn8 n9=>
Ac n8 λn10=>
Ac n9 λn11=>
Be 3 (
Ai (n11 == 2) (
Ao F.a156 [data.v,Aa n0,Aa n1]<|
Ac (AF (AF (n1-1)-AF (n10-n0))) λn12=>
Am 3 [Aa n12,Aa 1])<|
Am 3 [Aa n10,Aa n11]) λn13 n14=>
Ay 3 (
Ai (b3 && b4 && n14 == 1) (
Ak F.a148 [data.v,Aa n0,Aa n1] λb15=>
Ai b15 (
Am 0 [])<|
Am 3 [])<|
Am 3 [])<|
Aj 3 (
AL<|
.ex [.adr] (c1 λa16=>decide (n0>0)=true->0<=AF (n0-1)/\AF (n0-1)<(AB data)/\data.a=some a16) (u1 λa17=>
B7 (decide (n0>0)=true) T.a51 a17 (Int.toNat (AF (n0-1))*1) λs18=>
.ex [.adr] (c1 λa19=>decide (n0>0)=true->0<=n13/\n13<(AB data)/\data.a=some a19) (u1 λa20=>
B7 (decide (n0>0)=true) T.a51 a20 (Int.toNat n13*1) λs21=>
Ai (decide (n0>0)) (
Ak F.a2 [.string s18,.string s21] λb22=>
AN<|
Am 3 [.bool (not b22)])<|
AN<|
Am 3 [.bool false]))) λb23=>
Ai b23 (
Ax F.a151 [data.v,Aa n0,Aa n1,Aa n13] λn24=>
Ac n24 λn25=>
Ac n25 λn26=>
Am 2 [Aa n26,Aa n1,Aa n7,.bool b3,.bool b4])<|
B8 F.a152 [data.v,Aa n0,Aa n1,Aa n13] λn27 b28=>
Ac n27 λn29=>
Al b28 λb30=>
Al b30 λb31=>
Ac (AF (n29-n0)) λn32=>
Ac (AF (n1-n29)) λn33=>
Ac (AF (Int.tdiv n5 8)) λn34=>
.bind 3 [.one (.int .i64),.one (.int .i64),.one .bool] (
Ai (decide (n32<n33)) (
Al (decide (n32>=n34)) λb35=>
Ao F.a154 [data.v,Aa n0,Aa n29,Aa n7]<|
Ac (AF (n29+1)) λn36=>
Am 3 [Aa n36,Aa n1,.bool b35])<|
Al (decide (n33>=n34)) λb37=>
Ao F.a154 [data.v,Aa (AF (n29+1)),Aa n1,Aa n7]<|
Ac n29 λn38=>
Am 3 [Aa n0,Aa n38,.bool b37]) (u3 λ(n39 n40:Int) b41=>
Am 2 [Aa n39,Aa n40,Aa n7,.bool b41,.bool b31])) (u5 λ(n42 n43 n44:Int) b45 b46=>
Am 1 [Aa n42,Aa n43,Aa n44,.bool b45,.bool b46]))
def zyg (x:Int):Prog :=
Ax F.a67 [.int .u64 x] λn0=>
Ac n0 λn1=>
Am 0 [Aa n1]
theorem zg5 (x:Int):FnS (zyg x) F.a66 #[.int .u64 x]:=dV ⟨[],[],[],[]⟩ Go.Proofs.Tryz.func151 (by kernel_rfl)
def z04y (d:Option Addr) (names:Sl):Prog :=
Ax F.a30 [Ah d] λn0=>
Ac n0 λn1=>
Ai (n1 != 0) (
Ac n1 λn2=>
Am 0 [Aa n2])<|
Ay 1 (
AA 2 (0,()) λn3=>
Ai (decide (n3<(AB names))) (
.ex [.adr] (c1 λa4=>0<=n3/\n3<(AB names)/\names.a=some a4) (u1 λa5=>
AT T.a51 a5 (Int.toNat n3*1) λs6=>
AU s6 λs7=>
AI d λa9=>
Bn T.a21 a9 4 λm10=>
B2 (Instr.lookup T.a21 (.map m10) (.string s7) false) λp11=>
Ai (Option.isNone p11) (
Am 0 [Aa 3])<|
Am 2 [Aa (AF (n3+1))]))<|
Am 1 [])<|
AQ 1 (
Ai ((AB names) == 0) (
Az F.a23 [Ah d,.string (ByteArray.mk #[])] λl12=>
Am 1 [l12.v])<|
Am 1 [names.v]) λl13=>
Ay 1 (
AA 2 (0,()) λn14=>
Ai (decide (n14<(AB l13))) (
.ex [.adr] (c1 λa15=>0<=n14/\n14<(AB l13)/\l13.a=some a15) (u1 λa16=>
AT T.a51 a16 (Int.toNat n14*1) λs17=>
AU s17 λs18=>
AI d λa20=>
Bn T.a21 a20 4 λm21=>
B2 (Instr.lookup T.a21 (.map m21) (.string s18) false) λp22=>
AI p22 λa24=>
Bp T.a46 a24 0 λl25=>
AI p22 λa27=>
AV T.a12 a27 1 (Aa (AB l25))<|
Am 2 [Aa (AF (n14+1))]))<|
Am 1 [])<|
AI d λa29=>
Ao F.a33 [B1 a29 0]<|
Am 0 [Aa 0]
theorem zs9 (d:Option Addr) (names:Sl):FnS (z04y d names) F.a27 #[.pointer d,.slice names.a names.len names.cap]:=dV ⟨[(105553116274720,[(1,.one .slc)])],[(0,[]),(2,[])],[],[(0,[(18,.one (.int .i64))]),(2,[(37,.one (.int .i64))])]⟩ Go.Proofs.Tryz.func159 (by kernel_rfl)
def z04r (d:Option Addr) (name:ByteArray) (n:Int):Prog :=
Ax F.a30 [Ah d] λn0=>
Ac n0 λn1=>
Ai (n1 != 0) (
Ac n1 λn2=>
Am 0 [Aa n2])<|
AI d λa4=>
Bn T.a21 a4 4 λm5=>
B2 (Instr.lookup T.a21 (.map m5) (.string name) false) λp6=>
AH (Option.isNone p6) (
Am 0 [Aa 3])<|
AO (decide (n<0)=false) p6 λa9=>
Bx (decide (n<0)=false) T.a46 a9 0 λl10=>
AH (decide (n<0) || decide (n>(AB l10))) (
Am 0 [Aa 2])<|
AL<|
AI d λa13=>
Aq T.a12 a13 3 λn14=>
AI p6 λa16=>
Bp T.a46 a16 0 λl17=>
AI d λa19=>
AV T.a12 a19 3 (Aa (AF (n14-AF ((AB l17)-n))))<|
AN<|
AI p6 λa21=>
Bp T.a46 a21 0 λl22=>
.must (0<=n/\n<=n/\n<=((l22.cap:Nat):Int)) <|
AI p6 λa24=>
AV T.a46 a24 0 (.slice l22.a (Int.toNat n) (Int.toNat n))<|
AI p6 λa26=>
Aq T.a12 a26 1 λn27=>
AI p6 λa29=>
AV T.a12 a29 1 (Aa (if n<n27 then n else n27))<|
AI d λa31=>
Ao F.a33 [B1 a31 0]<|
Am 0 [Aa 0]
theorem zs2 (d:Option Addr) (name:ByteArray) (n:Int):FnS (z04r d name n) F.a19 #[.pointer d,.string name,.int .i64 n]:=dV ⟨[],[],[],[]⟩ Go.Proofs.Tryz.func189 (by kernel_rfl)
def z07b (data:Sl) (a b limit:Int) (cmp:Value):Prog :=
.loop 1 [.one (.int .i64),.one (.int .i64),.one (.int .i64),.one .bool,.one .bool] (a,(b,(limit,(true,(true,()))))) (u5 λ(n0 n1 n2:Int) b3 b4=>
.bind 2 [.one (.int .i64),.one (.int .i64),.one (.int .i64),.one .bool,.one .bool] (
Ac (AF (n1-n0)) λn5=>
Ai (decide (n5<=12)) (
Ao F.a138 [data.v,Aa n0,Aa n1,cmp]<|
Am 0 [])<|
Ai (n2 == 0) (
Ao F.a136 [data.v,Aa n0,Aa n1,cmp]<|
Am 0 [])<|
Bg 3 (
Ai (not b3) (
Ao F.a132 [data.v,Aa n0,Aa n1,cmp]<|
Ac (AF (n2-1)) λn6=>
Am 3 [Aa n6])<|
Am 3 [Aa n2]) λn7=>
Bf F.a134 [data.v,Aa n0,Aa n1,cmp] λn8 n9=>
Ac n8 λn10=>
Ac n9 λn11=>
Be 3 (
Ai (n11 == 2) (
Ao F.a155 [data.v,Aa n0,Aa n1,cmp]<|
Ac (AF (AF (n1-1)-AF (n10-n0))) λn12=>
Am 3 [Aa n12,Aa 1])<|
Am 3 [Aa n10,Aa n11]) λn13 n14=>
Ay 3 (
Ai (b3 && b4 && n14 == 1) (
Ak F.a147 [data.v,Aa n0,Aa n1,cmp] λb15=>
Ai b15 (
Am 0 [])<|
Am 3 [])<|
Am 3 [])<|
Aj 3 (
AL<|
.ex [.adr] (c1 λa16=>decide (n0>0)=true->0<=AF (n0-1)/\AF (n0-1)<(AB data)/\data.a=some a16) (u1 λa17=>
B9 (decide (n0>0)=true) T.a14 a17 (Int.toNat (AF (n0-1))*4) λn18 n19 n20 n21=>
.ex [.adr] (c1 λa22=>decide (n0>0)=true->0<=n13/\n13<(AB data)/\data.a=some a22) (u1 λa23=>
B9 (decide (n0>0)=true) T.a14 a23 (Int.toNat n13*4) λn24 n25 n26 n27=>
Ai (decide (n0>0)) (
BA cmp [Bl n18 n19 n20 n21,Bl n24 n25 n26 n27] λn28=>
AN<|
Am 3 [.bool (not (decide (n28<0)))])<|
AN<|
Am 3 [.bool false]))) λb29=>
Ai b29 (
Ax F.a150 [data.v,Aa n0,Aa n1,Aa n13,cmp] λn30=>
Ac n30 λn31=>
Ac n31 λn32=>
Am 2 [Aa n32,Aa n1,Aa n7,.bool b3,.bool b4])<|
B8 F.a149 [data.v,Aa n0,Aa n1,Aa n13,cmp] λn33 b34=>
Ac n33 λn35=>
Al b34 λb36=>
Al b36 λb37=>
Ac (AF (n35-n0)) λn38=>
Ac (AF (n1-n35)) λn39=>
Ac (AF (Int.tdiv n5 8)) λn40=>
.bind 3 [.one (.int .i64),.one (.int .i64),.one .bool] (
Ai (decide (n38<n39)) (
Al (decide (n38>=n40)) λb41=>
Ao F.a153 [data.v,Aa n0,Aa n35,Aa n7,cmp]<|
Ac (AF (n35+1)) λn42=>
Am 3 [Aa n42,Aa n1,.bool b41])<|
Al (decide (n39>=n40)) λb43=>
Ao F.a153 [data.v,Aa (AF (n35+1)),Aa n1,Aa n7,cmp]<|
Ac n35 λn44=>
Am 3 [Aa n0,Aa n44,.bool b43]) (u3 λ(n45 n46:Int) b47=>
Am 2 [Aa n45,Aa n46,Aa n7,.bool b47,.bool b37])) (u5 λ(n48 n49 n50:Int) b51 b52=>
Am 1 [Aa n48,Aa n49,Aa n50,.bool b51,.bool b52]))
theorem zn8 (data:Sl) (a b limit:Int) (cmp:Value) {w:World} {R:List Value->World->Prop} (h:(z07b data a b limit cmp).wp P (λ_=>True) w λe vs w'=>e=0/\R vs w'):Ret P F.a153 #[.slice data.a data.len data.cap,.int .i64 a,.int .i64 b,.int .i64 limit,cmp] w R:=dS (n:=148) (rv:=[]) { cnd:=[(571957152676085799,[(3,.one (.int .i64))]),(1208335523804270569717816,[(13,.one (.int .i64)),(14,.one (.int .i64))]),(9594035304461697130468212811,[]),(1461501288881759191162698246220685009525288231037,[(1,.one (.int .i64)),(2,.one (.int .i64)),(10,.one .bool)])],blk:=[(1,[(1,.one (.int .i64)),(2,.one (.int .i64)),(3,.one (.int .i64)),(10,.one .bool),(11,.one .bool)])],reg:=[(17,[(97,.one .bool)])],lps:=[(0,[(1,.one (.int .i64)),(2,.one (.int .i64)),(3,.one (.int .i64)),(10,.one .bool),(11,.one .bool)])] } [.val (.slice data.a data.len data.cap),.val (.int .i64 a),.val (.int .i64 b),.val (.int .i64 limit),.any cmp] Go.Proofs.Tryz.func211 (by kernel_rfl) (by kernel_rfl) (by kernel_rfl) (by kernel_rfl) h
def zf3 (x:Int):Prog :=
Al (x != x) λb0=>
Am 0 [.bool b0]
theorem zw2 (x:Int):FnS (zf3 x) F.a3 #[.int .i64 x]:=dV ⟨[],[],[],[]⟩ Go.Proofs.Tryz.func212 (by kernel_rfl)
def z07q (data:Sl) (a:Int) (b:Int):Prog :=
Ac (AF (a+1)) λn0=>
Ay 1 (
AA 2 (n0,()) λn1=>
Ai (decide (n1<b)) (
Ay 3 (
Ac n1 λn2=>
Ay 4 (
AA 5 (n2,()) λn3=>
Aj 6 (
AL<|
.ex [.adr] (c1 λa4=>decide (n3>a)=true->0<=n3/\n3<(AB data)/\data.a=some a4) (u1 λa5=>
B7 (decide (n3>a)=true) T.a51 a5 (Int.toNat n3*1) λs6=>
.ex [.adr] (c1 λa7=>decide (n3>a)=true->0<=AF (n3-1)/\AF (n3-1)<(AB data)/\data.a=some a7) (u1 λa8=>
B7 (decide (n3>a)=true) T.a51 a8 (Int.toNat (AF (n3-1))*1) λs9=>
Ai (decide (n3>a)) (
Ak F.a2 [.string s6,.string s9] λb10=>
AN<|
Am 6 [.bool b10])<|
AN<|
Am 6 [.bool false]))) λb11=>
Ai b11 (
Ay 6 (
AL<|
.ex [.adr] (c1 λa12=>0<=AF (n3-1)/\AF (n3-1)<(AB data)/\data.a=some a12) (u1 λa13=>
AT T.a51 a13 (Int.toNat (AF (n3-1))*1) λs14=>
.ex [.adr] (c1 λa15=>0<=n3/\n3<(AB data)/\data.a=some a15) (u1 λa16=>
AT T.a51 a16 (Int.toNat n3*1) λs17=>
.ex [.adr] (c1 λa18=>0<=n3/\n3<(AB data)/\data.a=some a18) (u1 λa19=>
AV T.a51 a19 (Int.toNat n3*1) (.string s14)<|
.ex [.adr] (c1 λa20=>0<=AF (n3-1)/\AF (n3-1)<(AB data)/\data.a=some a20) (u1 λa21=>
AV T.a51 a21 (Int.toNat (AF (n3-1))*1) (.string s17)<|
AN<|
Am 6 [])))))<|
Ac (AF (n3-1)) λn22=>
Am 5 [Aa n22])<|
Am 4 [])<|
Am 3 [])<|
Ac (AF (n1+1)) λn23=>
Am 2 [Aa n23])<|
Am 1 [])<|
Am 0 []
def z07p (data:Sl) (a:Int) (b:Int):Prog :=
Ac a λn0=>
Ac (AF (b-a)) λn1=>
Ac (AF (Int.tdiv (AF (n1-1)) 2)) λn2=>
Ay 1 (
AA 2 (n2,()) λn3=>
Ai (decide (n3>=0)) (
Ao F.a158 [data.v,Aa n3,Aa n1,Aa n0]<|
Ac (AF (n3-1)) λn4=>
Am 2 [Aa n4])<|
Am 1 [])<|
Ac (AF (n1-1)) λn5=>
Ay 1 (
AA 2 (n5,()) λn6=>
Ai (decide (n6>=0)) (
Ay 3 (
AL<|
.ex [.adr] (c1 λa7=>0<=AF (n0+n6)/\AF (n0+n6)<(AB data)/\data.a=some a7) (u1 λa8=>
AT T.a51 a8 (Int.toNat (AF (n0+n6))*1) λs9=>
.ex [.adr] (c1 λa10=>0<=n0/\n0<(AB data)/\data.a=some a10) (u1 λa11=>
AT T.a51 a11 (Int.toNat n0*1) λs12=>
.ex [.adr] (c1 λa13=>0<=n0/\n0<(AB data)/\data.a=some a13) (u1 λa14=>
AV T.a51 a14 (Int.toNat n0*1) (.string s9)<|
.ex [.adr] (c1 λa15=>0<=AF (n0+n6)/\AF (n0+n6)<(AB data)/\data.a=some a15) (u1 λa16=>
AV T.a51 a16 (Int.toNat (AF (n0+n6))*1) (.string s12)<|
AN<|
Am 3 [])))))<|
Ao F.a158 [data.v,Aa 0,Aa n6,Aa n0]<|
Ac (AF (n6-1)) λn17=>
Am 2 [Aa n17])<|
Am 1 [])<|
Am 0 []
def z07n (data:Sl) (a:Int) (b:Int):Prog :=
Ac (AF (b-a)) λn0=>
Ay 1 (
Ai (decide (n0>=8)) (
Ad T.a50 λa1=>
Ae T.a50 a1 (.int .u64 (IntKind.wrap .u64 n0))<|
AY F.a144 [Aa n0] λn2=>
AZ n2 λn3=>
Ac (AF (AF (a+AF (AF (Int.tdiv n0 4)*2))-1)) λn4=>
Ay 2 (
AA 3 (n4,()) λn5=>
Ai (decide (n5<=AF (AF (a+AF (AF (Int.tdiv n0 4)*2))+1))) (
AY F.a159 [Av a1] λn6=>
Ac (AF (IntKind.wrap .u64 (((BitVec.toNat (BitVec.ofInt 64 n6 &&& BitVec.ofInt 64 (IntKind.wrap .u64 (n3-1))):Nat):Int)))) λn7=>
Bg 4 (
Ai (decide (n7>=n0)) (
Ac (AF (n7-n0)) λn8=>
Am 4 [Aa n8])<|
Am 4 [Aa n7]) λn9=>
Ay 4 (
AL<|
.ex [.adr] (c1 λa10=>0<=AF (a+n9)/\AF (a+n9)<(AB data)/\data.a=some a10) (u1 λa11=>
AT T.a51 a11 (Int.toNat (AF (a+n9))*1) λs12=>
.ex [.adr] (c1 λa13=>0<=n5/\n5<(AB data)/\data.a=some a13) (u1 λa14=>
AT T.a51 a14 (Int.toNat n5*1) λs15=>
.ex [.adr] (c1 λa16=>0<=n5/\n5<(AB data)/\data.a=some a16) (u1 λa17=>
AV T.a51 a17 (Int.toNat n5*1) (.string s12)<|
.ex [.adr] (c1 λa18=>0<=AF (a+n9)/\AF (a+n9)<(AB data)/\data.a=some a18) (u1 λa19=>
AV T.a51 a19 (Int.toNat (AF (a+n9))*1) (.string s15)<|
AN<|
Am 4 [])))))<|
Ac (AF (n5+1)) λn20=>
Am 3 [Aa n20])<|
Am 2 [])<|
Am 1 [])<|
Am 1 [])<|
Am 0 []
def z07o (data:Sl) (a:Int) (b:Int):Prog :=
Ac (AF (b-a)) λn0=>
Ad T.a12 λa1=>
Ac (AF (a+AF (AF (Int.tdiv n0 4)*1))) λn2=>
Ac (AF (a+AF (AF (Int.tdiv n0 4)*2))) λn3=>
Ac (AF (a+AF (AF (Int.tdiv n0 4)*3))) λn4=>
Bg 1 (
Ai (decide (n0>=8)) (
.bind 2 [.one (.int .i64),.one (.int .i64),.one (.int .i64)] (
Ai (decide (n0>=50)) (
Ax F.a141 [data.v,Aa n2,Av a1] λn5=>
Ac n5 λn6=>
Ax F.a141 [data.v,Aa n3,Av a1] λn7=>
Ac n7 λn8=>
Ax F.a141 [data.v,Aa n4,Av a1] λn9=>
Ac n9 λn10=>
Am 2 [Aa n6,Aa n8,Aa n10])<|
Am 2 [Aa n2,Aa n3,Aa n4]) (u3 λ(n11 n12 n13:Int)=>
Ax F.a143 [data.v,Aa n11,Aa n12,Aa n13,Av a1] λn14=>
Ac n14 λn15=>
Am 1 [Aa n15]))<|
Am 1 [Aa n3]) λn16=>
BB T.a12 a1 λn17=>
AH (n17 == 0) (
Ac n16 λn19=>
Am 0 [Aa n19,Aa 1])<|
AH (n17 == 12) (
Ac n16 λn21=>
Am 0 [Aa n21,Aa 2])<|
Ac n16 λn22=>
Am 0 [Aa n22,Aa 0]
def z07y (data:Sl) (a:Int) (b:Int):Prog :=
Ac a λn0=>
Ac (AF (b-1)) λn1=>
Ay 1 (
Br 2 (n0,(n1,())) λn2 n3=>
Ai (decide (n2<n3)) (
Ay 3 (
AL<|
.ex [.adr] (c1 λa4=>0<=n3/\n3<(AB data)/\data.a=some a4) (u1 λa5=>
AT T.a51 a5 (Int.toNat n3*1) λs6=>
.ex [.adr] (c1 λa7=>0<=n2/\n2<(AB data)/\data.a=some a7) (u1 λa8=>
AT T.a51 a8 (Int.toNat n2*1) λs9=>
.ex [.adr] (c1 λa10=>0<=n2/\n2<(AB data)/\data.a=some a10) (u1 λa11=>
AV T.a51 a11 (Int.toNat n2*1) (.string s6)<|
.ex [.adr] (c1 λa12=>0<=n3/\n3<(AB data)/\data.a=some a12) (u1 λa13=>
AV T.a51 a13 (Int.toNat n3*1) (.string s9)<|
AN<|
Am 3 [])))))<|
Ac (AF (n2+1)) λn14=>
Ac (AF (n3-1)) λn15=>
Am 2 [Aa n14,Aa n15])<|
Am 1 [])<|
Am 0 []
def z07u (data:Sl) (a:Int) (b:Int):Prog :=
Ac (AF (a+1)) λn0=>
Ay 1 (
Br 2 (n0,(0,())) λn1 n2=>
Ai (decide (n2<5)) (
Bg 3 (
Bg 4 (
AA 5 (n1,()) λn3=>
Aj 6 (
AL<|
.ex [.adr] (c1 λa4=>decide (n3<b)=true->0<=n3/\n3<(AB data)/\data.a=some a4) (u1 λa5=>
B7 (decide (n3<b)=true) T.a51 a5 (Int.toNat n3*1) λs6=>
.ex [.adr] (c1 λa7=>decide (n3<b)=true->0<=AF (n3-1)/\AF (n3-1)<(AB data)/\data.a=some a7) (u1 λa8=>
B7 (decide (n3<b)=true) T.a51 a8 (Int.toNat (AF (n3-1))*1) λs9=>
Ai (decide (n3<b)) (
Ak F.a2 [.string s6,.string s9] λb10=>
AN<|
Am 6 [.bool (not b10)])<|
AN<|
Am 6 [.bool false]))) λb11=>
Ai b11 (
Ac (AF (n3+1)) λn12=>
Am 5 [Aa n12])<|
Am 4 [Aa n3]) λn13=>
Ai (n13 == b) (
Am 0 [.bool true])<|
Ai (decide (AF (b-a)<50)) (
Am 0 [.bool false])<|
Ay 4 (
AL<|
.ex [.adr] (c1 λa14=>0<=AF (n13-1)/\AF (n13-1)<(AB data)/\data.a=some a14) (u1 λa15=>
AT T.a51 a15 (Int.toNat (AF (n13-1))*1) λs16=>
.ex [.adr] (c1 λa17=>0<=n13/\n13<(AB data)/\data.a=some a17) (u1 λa18=>
AT T.a51 a18 (Int.toNat n13*1) λs19=>
.ex [.adr] (c1 λa20=>0<=n13/\n13<(AB data)/\data.a=some a20) (u1 λa21=>
AV T.a51 a21 (Int.toNat n13*1) (.string s16)<|
.ex [.adr] (c1 λa22=>0<=AF (n13-1)/\AF (n13-1)<(AB data)/\data.a=some a22) (u1 λa23=>
AV T.a51 a23 (Int.toNat (AF (n13-1))*1) (.string s19)<|
AN<|
Am 4 [])))))<|
Ay 4 (
Ai (decide (AF (n13-a)>=2)) (
Ac (AF (n13-1)) λn24=>
Ay 5 (
AA 6 (n24,()) λn25=>
Ai (decide (n25>=1)) (
AL<|
.ex [.adr] (c1 λa26=>0<=n25/\n25<(AB data)/\data.a=some a26) (u1 λa27=>
AT T.a51 a27 (Int.toNat n25*1) λs28=>
.ex [.adr] (c1 λa29=>0<=AF (n25-1)/\AF (n25-1)<(AB data)/\data.a=some a29) (u1 λa30=>
AT T.a51 a30 (Int.toNat (AF (n25-1))*1) λs31=>
Ak F.a2 [.string s28,.string s31] λb32=>
AN<|
Ai (not b32) (
Am 5 [])<|
Ay 7 (
AL<|
.ex [.adr] (c1 λa33=>0<=AF (n25-1)/\AF (n25-1)<(AB data)/\data.a=some a33) (u1 λa34=>
AT T.a51 a34 (Int.toNat (AF (n25-1))*1) λs35=>
.ex [.adr] (c1 λa36=>0<=n25/\n25<(AB data)/\data.a=some a36) (u1 λa37=>
AT T.a51 a37 (Int.toNat n25*1) λs38=>
.ex [.adr] (c1 λa39=>0<=n25/\n25<(AB data)/\data.a=some a39) (u1 λa40=>
AV T.a51 a40 (Int.toNat n25*1) (.string s35)<|
.ex [.adr] (c1 λa41=>0<=AF (n25-1)/\AF (n25-1)<(AB data)/\data.a=some a41) (u1 λa42=>
AV T.a51 a42 (Int.toNat (AF (n25-1))*1) (.string s38)<|
AN<|
Am 7 [])))))<|
Ac (AF (n25-1)) λn43=>
Am 6 [Aa n43])))<|
Am 5 [])<|
Am 4 [])<|
Am 4 [])<|
Ay 4 (
Ai (decide (AF (b-n13)>=2)) (
Ac (AF (n13+1)) λn44=>
Ay 5 (
AA 6 (n44,()) λn45=>
Ai (decide (n45<b)) (
AL<|
.ex [.adr] (c1 λa46=>0<=n45/\n45<(AB data)/\data.a=some a46) (u1 λa47=>
AT T.a51 a47 (Int.toNat n45*1) λs48=>
.ex [.adr] (c1 λa49=>0<=AF (n45-1)/\AF (n45-1)<(AB data)/\data.a=some a49) (u1 λa50=>
AT T.a51 a50 (Int.toNat (AF (n45-1))*1) λs51=>
Ak F.a2 [.string s48,.string s51] λb52=>
AN<|
Ai (not b52) (
Am 5 [])<|
Ay 7 (
AL<|
.ex [.adr] (c1 λa53=>0<=AF (n45-1)/\AF (n45-1)<(AB data)/\data.a=some a53) (u1 λa54=>
AT T.a51 a54 (Int.toNat (AF (n45-1))*1) λs55=>
.ex [.adr] (c1 λa56=>0<=n45/\n45<(AB data)/\data.a=some a56) (u1 λa57=>
AT T.a51 a57 (Int.toNat n45*1) λs58=>
.ex [.adr] (c1 λa59=>0<=n45/\n45<(AB data)/\data.a=some a59) (u1 λa60=>
AV T.a51 a60 (Int.toNat n45*1) (.string s55)<|
.ex [.adr] (c1 λa61=>0<=AF (n45-1)/\AF (n45-1)<(AB data)/\data.a=some a61) (u1 λa62=>
AV T.a51 a62 (Int.toNat (AF (n45-1))*1) (.string s58)<|
AN<|
Am 7 [])))))<|
Ac (AF (n45+1)) λn63=>
Am 6 [Aa n63])))<|
Am 5 [])<|
Am 4 [])<|
Am 4 [])<|
Am 3 [Aa n13]) λn64=>
Ac (AF (n2+1)) λn65=>
Am 2 [Aa n64,Aa n65])<|
Am 1 [])<|
Am 0 [.bool false]
def zf2 (x:ByteArray) (y:ByteArray):Prog :=
Aj 1 (
Ak F.a4 [.string x] λb0=>
Ai b0 (
Ak F.a4 [.string y] λb1=>
Al (not b1 || Op.bytesLess (ByteArray.toList x) (ByteArray.toList y)) λb2=>
Am 1 [.bool b2])<|
Al (Op.bytesLess (ByteArray.toList x) (ByteArray.toList y)) λb3=>
Am 1 [.bool b3]) λb4=>
Am 0 [.bool b4]
def z07v (data:Sl) (a b:Int) (pivot:Int):Prog :=
Ay 1 (
AL<|
.ex [.adr] (c1 λa0=>0<=pivot/\pivot<(AB data)/\data.a=some a0) (u1 λa1=>
AT T.a51 a1 (Int.toNat pivot*1) λs2=>
.ex [.adr] (c1 λa3=>0<=a/\a<(AB data)/\data.a=some a3) (u1 λa4=>
AT T.a51 a4 (Int.toNat a*1) λs5=>
.ex [.adr] (c1 λa6=>0<=a/\a<(AB data)/\data.a=some a6) (u1 λa7=>
AV T.a51 a7 (Int.toNat a*1) (.string s2)<|
.ex [.adr] (c1 λa8=>0<=pivot/\pivot<(AB data)/\data.a=some a8) (u1 λa9=>
AV T.a51 a9 (Int.toNat pivot*1) (.string s5)<|
AN<|
Am 1 [])))))<|
Ac (AF (a+1)) λn10=>
Ac (AF (b-1)) λn11=>
Bg 1 (
Br 2 (n10,(n11,())) λn12 n13=>
Be 3 (
Bg 4 (
AA 5 (n12,()) λn14=>
Aj 6 (
AL<|
.ex [.adr] (c1 λa15=>decide (n14<=n13)=true->0<=a/\a<(AB data)/\data.a=some a15) (u1 λa16=>
B7 (decide (n14<=n13)=true) T.a51 a16 (Int.toNat a*1) λs17=>
.ex [.adr] (c1 λa18=>decide (n14<=n13)=true->0<=n14/\n14<(AB data)/\data.a=some a18) (u1 λa19=>
B7 (decide (n14<=n13)=true) T.a51 a19 (Int.toNat n14*1) λs20=>
Ai (decide (n14<=n13)) (
Ak F.a2 [.string s17,.string s20] λb21=>
AN<|
Am 6 [.bool (not b21)])<|
AN<|
Am 6 [.bool false]))) λb22=>
Ai b22 (
Ac (AF (n14+1)) λn23=>
Am 5 [Aa n23])<|
Am 4 [Aa n14]) λn24=>
Bg 4 (
AA 5 (n13,()) λn25=>
Aj 6 (
AL<|
.ex [.adr] (c1 λa26=>decide (n24<=n25)=true->0<=a/\a<(AB data)/\data.a=some a26) (u1 λa27=>
B7 (decide (n24<=n25)=true) T.a51 a27 (Int.toNat a*1) λs28=>
.ex [.adr] (c1 λa29=>decide (n24<=n25)=true->0<=n25/\n25<(AB data)/\data.a=some a29) (u1 λa30=>
B7 (decide (n24<=n25)=true) T.a51 a30 (Int.toNat n25*1) λs31=>
Ai (decide (n24<=n25)) (
Ak F.a2 [.string s28,.string s31] λb32=>
AN<|
Am 6 [.bool b32])<|
AN<|
Am 6 [.bool false]))) λb33=>
Ai b33 (
Ac (AF (n25-1)) λn34=>
Am 5 [Aa n34])<|
Am 4 [Aa n25]) λn35=>
Ai (decide (n24>n35)) (
Am 1 [Aa n24])<|
Ay 4 (
AL<|
.ex [.adr] (c1 λa36=>0<=n35/\n35<(AB data)/\data.a=some a36) (u1 λa37=>
AT T.a51 a37 (Int.toNat n35*1) λs38=>
.ex [.adr] (c1 λa39=>0<=n24/\n24<(AB data)/\data.a=some a39) (u1 λa40=>
AT T.a51 a40 (Int.toNat n24*1) λs41=>
.ex [.adr] (c1 λa42=>0<=n24/\n24<(AB data)/\data.a=some a42) (u1 λa43=>
AV T.a51 a43 (Int.toNat n24*1) (.string s38)<|
.ex [.adr] (c1 λa44=>0<=n35/\n35<(AB data)/\data.a=some a44) (u1 λa45=>
AV T.a51 a45 (Int.toNat n35*1) (.string s41)<|
AN<|
Am 4 [])))))<|
Ac (AF (n24+1)) λn46=>
Ac (AF (n35-1)) λn47=>
Am 3 [Aa n46,Aa n47]) λn48 n49=>
Am 2 [Aa n48,Aa n49]) λn50=>
Ac n50 λn51=>
Am 0 [Aa n51]
def z07w (data:Sl) (a b:Int) (pivot:Int):Prog :=
Ay 1 (
AL<|
.ex [.adr] (c1 λa0=>0<=pivot/\pivot<(AB data)/\data.a=some a0) (u1 λa1=>
AT T.a51 a1 (Int.toNat pivot*1) λs2=>
.ex [.adr] (c1 λa3=>0<=a/\a<(AB data)/\data.a=some a3) (u1 λa4=>
AT T.a51 a4 (Int.toNat a*1) λs5=>
.ex [.adr] (c1 λa6=>0<=a/\a<(AB data)/\data.a=some a6) (u1 λa7=>
AV T.a51 a7 (Int.toNat a*1) (.string s2)<|
.ex [.adr] (c1 λa8=>0<=pivot/\pivot<(AB data)/\data.a=some a8) (u1 λa9=>
AV T.a51 a9 (Int.toNat pivot*1) (.string s5)<|
AN<|
Am 1 [])))))<|
Ac (AF (a+1)) λn10=>
Ac (AF (b-1)) λn11=>
Bg 1 (
AA 2 (n10,()) λn12=>
Aj 3 (
AL<|
.ex [.adr] (c1 λa13=>decide (n12<=n11)=true->0<=n12/\n12<(AB data)/\data.a=some a13) (u1 λa14=>
B7 (decide (n12<=n11)=true) T.a51 a14 (Int.toNat n12*1) λs15=>
.ex [.adr] (c1 λa16=>decide (n12<=n11)=true->0<=a/\a<(AB data)/\data.a=some a16) (u1 λa17=>
B7 (decide (n12<=n11)=true) T.a51 a17 (Int.toNat a*1) λs18=>
Ai (decide (n12<=n11)) (
Ak F.a2 [.string s15,.string s18] λb19=>
AN<|
Am 3 [.bool b19])<|
AN<|
Am 3 [.bool false]))) λb20=>
Ai b20 (
Ac (AF (n12+1)) λn21=>
Am 2 [Aa n21])<|
Am 1 [Aa n12]) λn22=>
Bg 1 (
AA 2 (n11,()) λn23=>
Aj 3 (
AL<|
.ex [.adr] (c1 λa24=>decide (n22<=n23)=true->0<=n23/\n23<(AB data)/\data.a=some a24) (u1 λa25=>
B7 (decide (n22<=n23)=true) T.a51 a25 (Int.toNat n23*1) λs26=>
.ex [.adr] (c1 λa27=>decide (n22<=n23)=true->0<=a/\a<(AB data)/\data.a=some a27) (u1 λa28=>
B7 (decide (n22<=n23)=true) T.a51 a28 (Int.toNat a*1) λs29=>
Ai (decide (n22<=n23)) (
Ak F.a2 [.string s26,.string s29] λb30=>
AN<|
Am 3 [.bool (not b30)])<|
AN<|
Am 3 [.bool false]))) λb31=>
Ai b31 (
Ac (AF (n23-1)) λn32=>
Am 2 [Aa n32])<|
Am 1 [Aa n23]) λn33=>
Ai (decide (n22>n33)) (
Ay 1 (
AL<|
.ex [.adr] (c1 λa34=>0<=a/\a<(AB data)/\data.a=some a34) (u1 λa35=>
AT T.a51 a35 (Int.toNat a*1) λs36=>
.ex [.adr] (c1 λa37=>0<=n33/\n33<(AB data)/\data.a=some a37) (u1 λa38=>
AT T.a51 a38 (Int.toNat n33*1) λs39=>
.ex [.adr] (c1 λa40=>0<=n33/\n33<(AB data)/\data.a=some a40) (u1 λa41=>
AV T.a51 a41 (Int.toNat n33*1) (.string s36)<|
.ex [.adr] (c1 λa42=>0<=a/\a<(AB data)/\data.a=some a42) (u1 λa43=>
AV T.a51 a43 (Int.toNat a*1) (.string s39)<|
AN<|
Am 1 [])))))<|
Ac n33 λn44=>
Am 0 [Aa n44,.bool true])<|
Ay 1 (
AL<|
.ex [.adr] (c1 λa45=>0<=n33/\n33<(AB data)/\data.a=some a45) (u1 λa46=>
AT T.a51 a46 (Int.toNat n33*1) λs47=>
.ex [.adr] (c1 λa48=>0<=n22/\n22<(AB data)/\data.a=some a48) (u1 λa49=>
AT T.a51 a49 (Int.toNat n22*1) λs50=>
.ex [.adr] (c1 λa51=>0<=n22/\n22<(AB data)/\data.a=some a51) (u1 λa52=>
AV T.a51 a52 (Int.toNat n22*1) (.string s47)<|
.ex [.adr] (c1 λa53=>0<=n33/\n33<(AB data)/\data.a=some a53) (u1 λa54=>
AV T.a51 a54 (Int.toNat n33*1) (.string s50)<|
AN<|
Am 1 [])))))<|
Ac (AF (n22+1)) λn55=>
Ac (AF (n33-1)) λn56=>
Bg 1 (
Br 2 (n55,(n56,())) λn57 n58=>
Be 3 (
Bg 4 (
AA 5 (n57,()) λn59=>
Aj 6 (
AL<|
.ex [.adr] (c1 λa60=>decide (n59<=n58)=true->0<=n59/\n59<(AB data)/\data.a=some a60) (u1 λa61=>
B7 (decide (n59<=n58)=true) T.a51 a61 (Int.toNat n59*1) λs62=>
.ex [.adr] (c1 λa63=>decide (n59<=n58)=true->0<=a/\a<(AB data)/\data.a=some a63) (u1 λa64=>
B7 (decide (n59<=n58)=true) T.a51 a64 (Int.toNat a*1) λs65=>
Ai (decide (n59<=n58)) (
Ak F.a2 [.string s62,.string s65] λb66=>
AN<|
Am 6 [.bool b66])<|
AN<|
Am 6 [.bool false]))) λb67=>
Ai b67 (
Ac (AF (n59+1)) λn68=>
Am 5 [Aa n68])<|
Am 4 [Aa n59]) λn69=>
Bg 4 (
AA 5 (n58,()) λn70=>
Aj 6 (
AL<|
.ex [.adr] (c1 λa71=>decide (n69<=n70)=true->0<=n70/\n70<(AB data)/\data.a=some a71) (u1 λa72=>
B7 (decide (n69<=n70)=true) T.a51 a72 (Int.toNat n70*1) λs73=>
.ex [.adr] (c1 λa74=>decide (n69<=n70)=true->0<=a/\a<(AB data)/\data.a=some a74) (u1 λa75=>
B7 (decide (n69<=n70)=true) T.a51 a75 (Int.toNat a*1) λs76=>
Ai (decide (n69<=n70)) (
Ak F.a2 [.string s73,.string s76] λb77=>
AN<|
Am 6 [.bool (not b77)])<|
AN<|
Am 6 [.bool false]))) λb78=>
Ai b78 (
Ac (AF (n70-1)) λn79=>
Am 5 [Aa n79])<|
Am 4 [Aa n70]) λn80=>
Ai (decide (n69>n80)) (
Am 1 [Aa n80])<|
Ay 4 (
AL<|
.ex [.adr] (c1 λa81=>0<=n80/\n80<(AB data)/\data.a=some a81) (u1 λa82=>
AT T.a51 a82 (Int.toNat n80*1) λs83=>
.ex [.adr] (c1 λa84=>0<=n69/\n69<(AB data)/\data.a=some a84) (u1 λa85=>
AT T.a51 a85 (Int.toNat n69*1) λs86=>
.ex [.adr] (c1 λa87=>0<=n69/\n69<(AB data)/\data.a=some a87) (u1 λa88=>
AV T.a51 a88 (Int.toNat n69*1) (.string s83)<|
.ex [.adr] (c1 λa89=>0<=n80/\n80<(AB data)/\data.a=some a89) (u1 λa90=>
AV T.a51 a90 (Int.toNat n80*1) (.string s86)<|
AN<|
Am 4 [])))))<|
Ac (AF (n69+1)) λn91=>
Ac (AF (n80-1)) λn92=>
Am 3 [Aa n91,Aa n92]) λn93 n94=>
Am 2 [Aa n93,Aa n94]) λn95=>
Ay 1 (
AL<|
.ex [.adr] (c1 λa96=>0<=a/\a<(AB data)/\data.a=some a96) (u1 λa97=>
AT T.a51 a97 (Int.toNat a*1) λs98=>
.ex [.adr] (c1 λa99=>0<=n95/\n95<(AB data)/\data.a=some a99) (u1 λa100=>
AT T.a51 a100 (Int.toNat n95*1) λs101=>
.ex [.adr] (c1 λa102=>0<=n95/\n95<(AB data)/\data.a=some a102) (u1 λa103=>
AV T.a51 a103 (Int.toNat n95*1) (.string s98)<|
.ex [.adr] (c1 λa104=>0<=a/\a<(AB data)/\data.a=some a104) (u1 λa105=>
AV T.a51 a105 (Int.toNat a*1) (.string s101)<|
AN<|
Am 1 [])))))<|
Ac n95 λn106=>
Am 0 [Aa n106,.bool false]
def zyh (x:Int):Prog :=
BC 1 (
Ai (decide (x>=4294967296)) (
AZ (Int.fdiv x 4294967296) λn0=>
Am 1 [.int .u64 n0,Aa 32])<|
Am 1 [.int .u64 x,Aa 0]) λn1 n2=>
BC 1 (
Ai (decide (n1>=65536)) (
AZ (Int.fdiv n1 65536) λn3=>
Ac (AF (n2+16)) λn4=>
Am 1 [.int .u64 n3,Aa n4])<|
Am 1 [.int .u64 n1,Aa n2]) λn5 n6=>
BC 1 (
Ai (decide (n5>=256)) (
AZ (Int.fdiv n5 256) λn7=>
Ac (AF (n6+8)) λn8=>
Am 1 [.int .u64 n7,Aa n8])<|
Am 1 [.int .u64 n5,Aa n6]) λn9 n10=>
.must (0<=IntKind.wrap .u8 n9/\IntKind.wrap .u8 n9<256) <|
Ac (AF (n10+AF (bt (ByteArray.mk #[0,1,2,2,3,3,3,3,4,4,4,4,4,4,4,4,5,5,5,5,5,5,5,5,5,5,5,5,5,5,5,5,6,6,6,6,6,6,6,6,6,6,6,6,6,6,6,6,6,6,6,6,6,6,6,6,6,6,6,6,6,6,6,6,7,7,7,7,7,7,7,7,7,7,7,7,7,7,7,7,7,7,7,7,7,7,7,7,7,7,7,7,7,7,7,7,7,7,7,7,7,7,7,7,7,7,7,7,7,7,7,7,7,7,7,7,7,7,7,7,7,7,7,7,7,7,7,7,8,8,8,8,8,8,8,8,8,8,8,8,8,8,8,8,8,8,8,8,8,8,8,8,8,8,8,8,8,8,8,8,8,8,8,8,8,8,8,8,8,8,8,8,8,8,8,8,8,8,8,8,8,8,8,8,8,8,8,8,8,8,8,8,8,8,8,8,8,8,8,8,8,8,8,8,8,8,8,8,8,8,8,8,8,8,8,8,8,8,8,8,8,8,8,8,8,8,8,8,8,8,8,8,8,8,8,8,8,8,8,8,8,8,8,8,8,8,8,8,8,8,8,8,8,8,8,8]) (IntKind.wrap .u8 n9)))) λn11=>
Am 0 [Aa n11]
theorem zg6 (x:Int):FnS (zyh x) F.a67 #[.int .u64 x]:=dV ⟨[(413700,[(0,.one (.int .u64)),(2,.one (.int .i64))]),(31477768,[(0,.one (.int .u64)),(2,.one (.int .i64))]),(2013286414,[(0,.one (.int .u64)),(2,.one (.int .i64))])],[],[],[]⟩ Go.Proofs.Tryz.func230 (by kernel_rfl)
def z074 (data:Sl) (a b:Int) (cmp:Value):Prog :=
Ac (AF (a+1)) λn0=>
Ay 1 (
AA 2 (n0,()) λn1=>
Ai (decide (n1<b)) (
Ay 3 (
Ac n1 λn2=>
Ay 4 (
AA 5 (n2,()) λn3=>
Aj 6 (
AL<|
.ex [.adr] (c1 λa4=>decide (n3>a)=true->0<=n3/\n3<(AB data)/\data.a=some a4) (u1 λa5=>
B9 (decide (n3>a)=true) T.a14 a5 (Int.toNat n3*4) λn6 n7 n8 n9=>
.ex [.adr] (c1 λa10=>decide (n3>a)=true->0<=AF (n3-1)/\AF (n3-1)<(AB data)/\data.a=some a10) (u1 λa11=>
B9 (decide (n3>a)=true) T.a14 a11 (Int.toNat (AF (n3-1))*4) λn12 n13 n14 n15=>
Ai (decide (n3>a)) (
BA cmp [Bl n6 n7 n8 n9,Bl n12 n13 n14 n15] λn16=>
AN<|
Am 6 [.bool (decide (n16<0))])<|
AN<|
Am 6 [.bool false]))) λb17=>
Ai b17 (
Ay 6 (
AL<|
.ex [.adr] (c1 λa18=>0<=AF (n3-1)/\AF (n3-1)<(AB data)/\data.a=some a18) (u1 λa19=>
Bw T.a14 a19 (Int.toNat (AF (n3-1))*4) λn20 n21 n22 n23=>
.ex [.adr] (c1 λa24=>0<=n3/\n3<(AB data)/\data.a=some a24) (u1 λa25=>
Bw T.a14 a25 (Int.toNat n3*4) λn26 n27 n28 n29=>
.ex [.adr] (c1 λa30=>0<=n3/\n3<(AB data)/\data.a=some a30) (u1 λa31=>
AV T.a14 a31 (Int.toNat n3*4) (Bl n20 n21 n22 n23)<|
.ex [.adr] (c1 λa32=>0<=AF (n3-1)/\AF (n3-1)<(AB data)/\data.a=some a32) (u1 λa33=>
AV T.a14 a33 (Int.toNat (AF (n3-1))*4) (Bl n26 n27 n28 n29)<|
AN<|
Am 6 [])))))<|
Ac (AF (n3-1)) λn34=>
Am 5 [Aa n34])<|
Am 4 [])<|
Am 3 [])<|
Ac (AF (n1+1)) λn35=>
Am 2 [Aa n35])<|
Am 1 [])<|
Am 0 []
theorem zn0 (data:Sl) (a b:Int) (cmp:Value) {w:World} {R:List Value->World->Prop} (h:(z074 data a b cmp).wp P (λ_=>True) w λe vs w'=>e=0/\R vs w'):Ret P F.a138 #[.slice data.a data.len data.cap,.int .i64 a,.int .i64 b,cmp] w R:=dS (n:=53) (rv:=[]) { cnd:=[],blk:=[(0,[]),(1,[]),(2,[])],reg:=[(4,[(34,.one .bool)]),(6,[])],lps:=[(0,[(8,.one (.int .i64))]),(2,[(9,.one (.int .i64))])] } [.val (.slice data.a data.len data.cap),.val (.int .i64 a),.val (.int .i64 b),.any cmp] Go.Proofs.Tryz.func258 (by kernel_rfl) (by kernel_rfl) (by kernel_rfl) (by kernel_rfl) h
def z073 (data:Sl) (a b:Int) (cmp:Value):Prog :=
Ac a λn0=>
Ac (AF (b-a)) λn1=>
Ac (AF (Int.tdiv (AF (n1-1)) 2)) λn2=>
Ay 1 (
AA 2 (n2,()) λn3=>
Ai (decide (n3>=0)) (
Ao F.a157 [data.v,Aa n3,Aa n1,Aa n0,cmp]<|
Ac (AF (n3-1)) λn4=>
Am 2 [Aa n4])<|
Am 1 [])<|
Ac (AF (n1-1)) λn5=>
Ay 1 (
AA 2 (n5,()) λn6=>
Ai (decide (n6>=0)) (
Ay 3 (
AL<|
.ex [.adr] (c1 λa7=>0<=AF (n0+n6)/\AF (n0+n6)<(AB data)/\data.a=some a7) (u1 λa8=>
Bw T.a14 a8 (Int.toNat (AF (n0+n6))*4) λn9 n10 n11 n12=>
.ex [.adr] (c1 λa13=>0<=n0/\n0<(AB data)/\data.a=some a13) (u1 λa14=>
Bw T.a14 a14 (Int.toNat n0*4) λn15 n16 n17 n18=>
.ex [.adr] (c1 λa19=>0<=n0/\n0<(AB data)/\data.a=some a19) (u1 λa20=>
AV T.a14 a20 (Int.toNat n0*4) (Bl n9 n10 n11 n12)<|
.ex [.adr] (c1 λa21=>0<=AF (n0+n6)/\AF (n0+n6)<(AB data)/\data.a=some a21) (u1 λa22=>
AV T.a14 a22 (Int.toNat (AF (n0+n6))*4) (Bl n15 n16 n17 n18)<|
AN<|
Am 3 [])))))<|
Ao F.a157 [data.v,Aa 0,Aa n6,Aa n0,cmp]<|
Ac (AF (n6-1)) λn23=>
Am 2 [Aa n23])<|
Am 1 [])<|
Am 0 []
theorem zmz (data:Sl) (a b:Int) (cmp:Value) {w:World} {R:List Value->World->Prop} (h:(z073 data a b cmp).wp P (λ_=>True) w λe vs w'=>e=0/\R vs w'):Ret P F.a136 #[.slice data.a data.len data.cap,.int .i64 a,.int .i64 b,cmp] w R:=dS (n:=60) (rv:=[]) { cnd:=[],blk:=[(0,[]),(2,[])],reg:=[(10,[])],lps:=[(0,[(11,.one (.int .i64))]),(2,[(12,.one (.int .i64))])] } [.val (.slice data.a data.len data.cap),.val (.int .i64 a),.val (.int .i64 b),.any cmp] Go.Proofs.Tryz.func259 (by kernel_rfl) (by kernel_rfl) (by kernel_rfl) (by kernel_rfl) h
def z071 (data:Sl) (a b:Int) (cmp:Value):Prog :=
Ac (AF (b-a)) λn0=>
Ay 1 (
Ai (decide (n0>=8)) (
Ad T.a50 λa1=>
Ae T.a50 a1 (.int .u64 (IntKind.wrap .u64 n0))<|
AY F.a144 [Aa n0] λn2=>
AZ n2 λn3=>
Ac (AF (AF (a+AF (AF (Int.tdiv n0 4)*2))-1)) λn4=>
Ay 2 (
AA 3 (n4,()) λn5=>
Ai (decide (n5<=AF (AF (a+AF (AF (Int.tdiv n0 4)*2))+1))) (
AY F.a159 [Av a1] λn6=>
Ac (AF (IntKind.wrap .u64 (((BitVec.toNat (BitVec.ofInt 64 n6 &&& BitVec.ofInt 64 (IntKind.wrap .u64 (n3-1))):Nat):Int)))) λn7=>
Bg 4 (
Ai (decide (n7>=n0)) (
Ac (AF (n7-n0)) λn8=>
Am 4 [Aa n8])<|
Am 4 [Aa n7]) λn9=>
Ay 4 (
AL<|
.ex [.adr] (c1 λa10=>0<=AF (a+n9)/\AF (a+n9)<(AB data)/\data.a=some a10) (u1 λa11=>
Bw T.a14 a11 (Int.toNat (AF (a+n9))*4) λn12 n13 n14 n15=>
.ex [.adr] (c1 λa16=>0<=n5/\n5<(AB data)/\data.a=some a16) (u1 λa17=>
Bw T.a14 a17 (Int.toNat n5*4) λn18 n19 n20 n21=>
.ex [.adr] (c1 λa22=>0<=n5/\n5<(AB data)/\data.a=some a22) (u1 λa23=>
AV T.a14 a23 (Int.toNat n5*4) (Bl n12 n13 n14 n15)<|
.ex [.adr] (c1 λa24=>0<=AF (a+n9)/\AF (a+n9)<(AB data)/\data.a=some a24) (u1 λa25=>
AV T.a14 a25 (Int.toNat (AF (a+n9))*4) (Bl n18 n19 n20 n21)<|
AN<|
Am 4 [])))))<|
Ac (AF (n5+1)) λn26=>
Am 3 [Aa n26])<|
Am 2 [])<|
Am 1 [])<|
Am 1 [])<|
Am 0 []
theorem zmx (data:Sl) (a b:Int) (cmp:Value) {w:World} {R:List Value->World->Prop} (h:(z071 data a b cmp).wp P (λ_=>True) w λe vs w'=>e=0/\R vs w'):Ret P F.a132 #[.slice data.a data.len data.cap,.int .i64 a,.int .i64 b,cmp] w R:=dS (n:=67) (rv:=[]) { cnd:=[(2017612633078759469,[(12,.one (.int .i64))]),(604462909807313545068561,[])],blk:=[(0,[])],reg:=[(10,[])],lps:=[(0,[(11,.one (.int .i64))])] } [.val (.slice data.a data.len data.cap),.val (.int .i64 a),.val (.int .i64 b),.any cmp] Go.Proofs.Tryz.func260 (by kernel_rfl) (by kernel_rfl) (by kernel_rfl) (by kernel_rfl) h
def z072 (data:Sl) (a b:Int) (cmp:Value):Prog :=
Ac (AF (b-a)) λn0=>
Ad T.a12 λa1=>
Ac (AF (a+AF (AF (Int.tdiv n0 4)*1))) λn2=>
Ac (AF (a+AF (AF (Int.tdiv n0 4)*2))) λn3=>
Ac (AF (a+AF (AF (Int.tdiv n0 4)*3))) λn4=>
Bg 1 (
Ai (decide (n0>=8)) (
.bind 2 [.one (.int .i64),.one (.int .i64),.one (.int .i64)] (
Ai (decide (n0>=50)) (
Ax F.a140 [data.v,Aa n2,Av a1,cmp] λn5=>
Ac n5 λn6=>
Ax F.a140 [data.v,Aa n3,Av a1,cmp] λn7=>
Ac n7 λn8=>
Ax F.a140 [data.v,Aa n4,Av a1,cmp] λn9=>
Ac n9 λn10=>
Am 2 [Aa n6,Aa n8,Aa n10])<|
Am 2 [Aa n2,Aa n3,Aa n4]) (u3 λ(n11 n12 n13:Int)=>
Ax F.a142 [data.v,Aa n11,Aa n12,Aa n13,Av a1,cmp] λn14=>
Ac n14 λn15=>
Am 1 [Aa n15]))<|
Am 1 [Aa n3]) λn16=>
BB T.a12 a1 λn17=>
AH (n17 == 0) (
Ac n16 λn19=>
Am 0 [Aa n19,Aa 1])<|
AH (n17 == 12) (
Ac n16 λn21=>
Am 0 [Aa n21,Aa 2])<|
Ac n16 λn22=>
Am 0 [Aa n22,Aa 0]
theorem zmy (data:Sl) (a b:Int) (cmp:Value) {w:World} {R:List Value->World->Prop} (h:(z072 data a b cmp).wp P (λ_=>True) w λe vs w'=>e=0/\R vs w'):Ret P F.a134 #[.slice data.a data.len data.cap,.int .i64 a,.int .i64 b,cmp] w R:=dS (n:=63) (rv:=[.tmp 8,.tmp 9]) { cnd:=[(2305280059377713188,[(12,.one (.int .i64)),(13,.one (.int .i64)),(14,.one (.int .i64))]),(147573811852305498146,[(13,.one (.int .i64))])],blk:=[],reg:=[],lps:=[] } [.val (.slice data.a data.len data.cap),.val (.int .i64 a),.val (.int .i64 b),.any cmp] Go.Proofs.Tryz.func261 (by kernel_rfl) (by kernel_rfl) (by kernel_rfl) (by kernel_rfl) h
def z07c (data:Sl) (a b:Int) (cmp:Value):Prog :=
Ac a λn0=>
Ac (AF (b-1)) λn1=>
Ay 1 (
Br 2 (n0,(n1,())) λn2 n3=>
Ai (decide (n2<n3)) (
Ay 3 (
AL<|
.ex [.adr] (c1 λa4=>0<=n3/\n3<(AB data)/\data.a=some a4) (u1 λa5=>
Bw T.a14 a5 (Int.toNat n3*4) λn6 n7 n8 n9=>
.ex [.adr] (c1 λa10=>0<=n2/\n2<(AB data)/\data.a=some a10) (u1 λa11=>
Bw T.a14 a11 (Int.toNat n2*4) λn12 n13 n14 n15=>
.ex [.adr] (c1 λa16=>0<=n2/\n2<(AB data)/\data.a=some a16) (u1 λa17=>
AV T.a14 a17 (Int.toNat n2*4) (Bl n6 n7 n8 n9)<|
.ex [.adr] (c1 λa18=>0<=n3/\n3<(AB data)/\data.a=some a18) (u1 λa19=>
AV T.a14 a19 (Int.toNat n3*4) (Bl n12 n13 n14 n15)<|
AN<|
Am 3 [])))))<|
Ac (AF (n2+1)) λn20=>
Ac (AF (n3-1)) λn21=>
Am 2 [Aa n20,Aa n21])<|
Am 1 [])<|
Am 0 []
theorem zn9 (data:Sl) (a b:Int) (cmp:Value) {w:World} {R:List Value->World->Prop} (h:(z07c data a b cmp).wp P (λ_=>True) w λe vs w'=>e=0/\R vs w'):Ret P F.a155 #[.slice data.a data.len data.cap,.int .i64 a,.int .i64 b,cmp] w R:=dS (n:=34) (rv:=[]) { cnd:=[],blk:=[(0,[])],reg:=[(3,[])],lps:=[(0,[(8,.one (.int .i64)),(9,.one (.int .i64))])] } [.val (.slice data.a data.len data.cap),.val (.int .i64 a),.val (.int .i64 b),.any cmp] Go.Proofs.Tryz.func262 (by kernel_rfl) (by kernel_rfl) (by kernel_rfl) (by kernel_rfl) h
def z078 (data:Sl) (a b:Int) (cmp:Value):Prog :=
Ac (AF (a+1)) λn0=>
Ay 1 (
Br 2 (n0,(0,())) λn1 n2=>
Ai (decide (n2<5)) (
Bg 3 (
Bg 4 (
AA 5 (n1,()) λn3=>
Aj 6 (
AL<|
.ex [.adr] (c1 λa4=>decide (n3<b)=true->0<=n3/\n3<(AB data)/\data.a=some a4) (u1 λa5=>
B9 (decide (n3<b)=true) T.a14 a5 (Int.toNat n3*4) λn6 n7 n8 n9=>
.ex [.adr] (c1 λa10=>decide (n3<b)=true->0<=AF (n3-1)/\AF (n3-1)<(AB data)/\data.a=some a10) (u1 λa11=>
B9 (decide (n3<b)=true) T.a14 a11 (Int.toNat (AF (n3-1))*4) λn12 n13 n14 n15=>
Ai (decide (n3<b)) (
BA cmp [Bl n6 n7 n8 n9,Bl n12 n13 n14 n15] λn16=>
AN<|
Am 6 [.bool (not (decide (n16<0)))])<|
AN<|
Am 6 [.bool false]))) λb17=>
Ai b17 (
Ac (AF (n3+1)) λn18=>
Am 5 [Aa n18])<|
Am 4 [Aa n3]) λn19=>
Ai (n19 == b) (
Am 0 [.bool true])<|
Ai (decide (AF (b-a)<50)) (
Am 0 [.bool false])<|
Ay 4 (
AL<|
.ex [.adr] (c1 λa20=>0<=AF (n19-1)/\AF (n19-1)<(AB data)/\data.a=some a20) (u1 λa21=>
Bw T.a14 a21 (Int.toNat (AF (n19-1))*4) λn22 n23 n24 n25=>
.ex [.adr] (c1 λa26=>0<=n19/\n19<(AB data)/\data.a=some a26) (u1 λa27=>
Bw T.a14 a27 (Int.toNat n19*4) λn28 n29 n30 n31=>
.ex [.adr] (c1 λa32=>0<=n19/\n19<(AB data)/\data.a=some a32) (u1 λa33=>
AV T.a14 a33 (Int.toNat n19*4) (Bl n22 n23 n24 n25)<|
.ex [.adr] (c1 λa34=>0<=AF (n19-1)/\AF (n19-1)<(AB data)/\data.a=some a34) (u1 λa35=>
AV T.a14 a35 (Int.toNat (AF (n19-1))*4) (Bl n28 n29 n30 n31)<|
AN<|
Am 4 [])))))<|
Ay 4 (
Ai (decide (AF (n19-a)>=2)) (
Ac (AF (n19-1)) λn36=>
Ay 5 (
AA 6 (n36,()) λn37=>
Ai (decide (n37>=1)) (
AL<|
.ex [.adr] (c1 λa38=>0<=n37/\n37<(AB data)/\data.a=some a38) (u1 λa39=>
Bw T.a14 a39 (Int.toNat n37*4) λn40 n41 n42 n43=>
.ex [.adr] (c1 λa44=>0<=AF (n37-1)/\AF (n37-1)<(AB data)/\data.a=some a44) (u1 λa45=>
Bw T.a14 a45 (Int.toNat (AF (n37-1))*4) λn46 n47 n48 n49=>
BA cmp [Bl n40 n41 n42 n43,Bl n46 n47 n48 n49] λn50=>
AN<|
Ai (not (decide (n50<0))) (
Am 5 [])<|
Ay 7 (
AL<|
.ex [.adr] (c1 λa51=>0<=AF (n37-1)/\AF (n37-1)<(AB data)/\data.a=some a51) (u1 λa52=>
Bw T.a14 a52 (Int.toNat (AF (n37-1))*4) λn53 n54 n55 n56=>
.ex [.adr] (c1 λa57=>0<=n37/\n37<(AB data)/\data.a=some a57) (u1 λa58=>
Bw T.a14 a58 (Int.toNat n37*4) λn59 n60 n61 n62=>
.ex [.adr] (c1 λa63=>0<=n37/\n37<(AB data)/\data.a=some a63) (u1 λa64=>
AV T.a14 a64 (Int.toNat n37*4) (Bl n53 n54 n55 n56)<|
.ex [.adr] (c1 λa65=>0<=AF (n37-1)/\AF (n37-1)<(AB data)/\data.a=some a65) (u1 λa66=>
AV T.a14 a66 (Int.toNat (AF (n37-1))*4) (Bl n59 n60 n61 n62)<|
AN<|
Am 7 [])))))<|
Ac (AF (n37-1)) λn67=>
Am 6 [Aa n67])))<|
Am 5 [])<|
Am 4 [])<|
Am 4 [])<|
Ay 4 (
Ai (decide (AF (b-n19)>=2)) (
Ac (AF (n19+1)) λn68=>
Ay 5 (
AA 6 (n68,()) λn69=>
Ai (decide (n69<b)) (
AL<|
.ex [.adr] (c1 λa70=>0<=n69/\n69<(AB data)/\data.a=some a70) (u1 λa71=>
Bw T.a14 a71 (Int.toNat n69*4) λn72 n73 n74 n75=>
.ex [.adr] (c1 λa76=>0<=AF (n69-1)/\AF (n69-1)<(AB data)/\data.a=some a76) (u1 λa77=>
Bw T.a14 a77 (Int.toNat (AF (n69-1))*4) λn78 n79 n80 n81=>
BA cmp [Bl n72 n73 n74 n75,Bl n78 n79 n80 n81] λn82=>
AN<|
Ai (not (decide (n82<0))) (
Am 5 [])<|
Ay 7 (
AL<|
.ex [.adr] (c1 λa83=>0<=AF (n69-1)/\AF (n69-1)<(AB data)/\data.a=some a83) (u1 λa84=>
Bw T.a14 a84 (Int.toNat (AF (n69-1))*4) λn85 n86 n87 n88=>
.ex [.adr] (c1 λa89=>0<=n69/\n69<(AB data)/\data.a=some a89) (u1 λa90=>
Bw T.a14 a90 (Int.toNat n69*4) λn91 n92 n93 n94=>
.ex [.adr] (c1 λa95=>0<=n69/\n69<(AB data)/\data.a=some a95) (u1 λa96=>
AV T.a14 a96 (Int.toNat n69*4) (Bl n85 n86 n87 n88)<|
.ex [.adr] (c1 λa97=>0<=AF (n69-1)/\AF (n69-1)<(AB data)/\data.a=some a97) (u1 λa98=>
AV T.a14 a98 (Int.toNat (AF (n69-1))*4) (Bl n91 n92 n93 n94)<|
AN<|
Am 7 [])))))<|
Ac (AF (n69+1)) λn99=>
Am 6 [Aa n99])))<|
Am 5 [])<|
Am 4 [])<|
Am 4 [])<|
Am 3 [Aa n19]) λn100=>
Ac (AF (n2+1)) λn101=>
Am 2 [Aa n100,Aa n101])<|
Am 1 [])<|
Am 0 [.bool false]
theorem zn5 (data:Sl) (a b:Int) (cmp:Value) {w:World} {R:List Value->World->Prop} (h:(z078 data a b cmp).wp P (λ_=>True) w λe vs w'=>e=0/\R vs w'):Ret P F.a147 #[.slice data.a data.len data.cap,.int .i64 a,.int .i64 b,cmp] w R:=dS (n:=141) (rv:=[.tmp 8]) { cnd:=[(10384593716767423802157335373152321,[]),(11417981541481525548993173271482985208543707240,[])],blk:=[(0,[]),(1,[(9,.one (.int .i64))]),(2,[(9,.one (.int .i64))]),(4,[]),(6,[])],reg:=[(5,[(36,.one .bool)]),(11,[]),(17,[]),(23,[])],lps:=[(0,[(9,.one (.int .i64)),(10,.one (.int .i64))]),(2,[(9,.one (.int .i64))]),(4,[(11,.one (.int .i64))]),(6,[(12,.one (.int .i64))])] } [.val (.slice data.a data.len data.cap),.val (.int .i64 a),.val (.int .i64 b),.any cmp] Go.Proofs.Tryz.func263 (by kernel_rfl) (by kernel_rfl) (by kernel_rfl) (by kernel_rfl) h
def z07a (data:Sl) (a b pivot:Int) (cmp:Value):Prog :=
Ay 1 (
AL<|
.ex [.adr] (c1 λa0=>0<=pivot/\pivot<(AB data)/\data.a=some a0) (u1 λa1=>
Bw T.a14 a1 (Int.toNat pivot*4) λn2 n3 n4 n5=>
.ex [.adr] (c1 λa6=>0<=a/\a<(AB data)/\data.a=some a6) (u1 λa7=>
Bw T.a14 a7 (Int.toNat a*4) λn8 n9 n10 n11=>
.ex [.adr] (c1 λa12=>0<=a/\a<(AB data)/\data.a=some a12) (u1 λa13=>
AV T.a14 a13 (Int.toNat a*4) (Bl n2 n3 n4 n5)<|
.ex [.adr] (c1 λa14=>0<=pivot/\pivot<(AB data)/\data.a=some a14) (u1 λa15=>
AV T.a14 a15 (Int.toNat pivot*4) (Bl n8 n9 n10 n11)<|
AN<|
Am 1 [])))))<|
Ac (AF (a+1)) λn16=>
Ac (AF (b-1)) λn17=>
Bg 1 (
Br 2 (n16,(n17,())) λn18 n19=>
Be 3 (
Bg 4 (
AA 5 (n18,()) λn20=>
Aj 6 (
AL<|
.ex [.adr] (c1 λa21=>decide (n20<=n19)=true->0<=a/\a<(AB data)/\data.a=some a21) (u1 λa22=>
B9 (decide (n20<=n19)=true) T.a14 a22 (Int.toNat a*4) λn23 n24 n25 n26=>
.ex [.adr] (c1 λa27=>decide (n20<=n19)=true->0<=n20/\n20<(AB data)/\data.a=some a27) (u1 λa28=>
B9 (decide (n20<=n19)=true) T.a14 a28 (Int.toNat n20*4) λn29 n30 n31 n32=>
Ai (decide (n20<=n19)) (
BA cmp [Bl n23 n24 n25 n26,Bl n29 n30 n31 n32] λn33=>
AN<|
Am 6 [.bool (not (decide (n33<0)))])<|
AN<|
Am 6 [.bool false]))) λb34=>
Ai b34 (
Ac (AF (n20+1)) λn35=>
Am 5 [Aa n35])<|
Am 4 [Aa n20]) λn36=>
Bg 4 (
AA 5 (n19,()) λn37=>
Aj 6 (
AL<|
.ex [.adr] (c1 λa38=>decide (n36<=n37)=true->0<=a/\a<(AB data)/\data.a=some a38) (u1 λa39=>
B9 (decide (n36<=n37)=true) T.a14 a39 (Int.toNat a*4) λn40 n41 n42 n43=>
.ex [.adr] (c1 λa44=>decide (n36<=n37)=true->0<=n37/\n37<(AB data)/\data.a=some a44) (u1 λa45=>
B9 (decide (n36<=n37)=true) T.a14 a45 (Int.toNat n37*4) λn46 n47 n48 n49=>
Ai (decide (n36<=n37)) (
BA cmp [Bl n40 n41 n42 n43,Bl n46 n47 n48 n49] λn50=>
AN<|
Am 6 [.bool (decide (n50<0))])<|
AN<|
Am 6 [.bool false]))) λb51=>
Ai b51 (
Ac (AF (n37-1)) λn52=>
Am 5 [Aa n52])<|
Am 4 [Aa n37]) λn53=>
Ai (decide (n36>n53)) (
Am 1 [Aa n36])<|
Ay 4 (
AL<|
.ex [.adr] (c1 λa54=>0<=n53/\n53<(AB data)/\data.a=some a54) (u1 λa55=>
Bw T.a14 a55 (Int.toNat n53*4) λn56 n57 n58 n59=>
.ex [.adr] (c1 λa60=>0<=n36/\n36<(AB data)/\data.a=some a60) (u1 λa61=>
Bw T.a14 a61 (Int.toNat n36*4) λn62 n63 n64 n65=>
.ex [.adr] (c1 λa66=>0<=n36/\n36<(AB data)/\data.a=some a66) (u1 λa67=>
AV T.a14 a67 (Int.toNat n36*4) (Bl n56 n57 n58 n59)<|
.ex [.adr] (c1 λa68=>0<=n53/\n53<(AB data)/\data.a=some a68) (u1 λa69=>
AV T.a14 a69 (Int.toNat n53*4) (Bl n62 n63 n64 n65)<|
AN<|
Am 4 [])))))<|
Ac (AF (n36+1)) λn70=>
Ac (AF (n53-1)) λn71=>
Am 3 [Aa n70,Aa n71]) λn72 n73=>
Am 2 [Aa n72,Aa n73]) λn74=>
Ac n74 λn75=>
Am 0 [Aa n75]
theorem zn7 (data:Sl) (a b pivot:Int) (cmp:Value) {w:World} {R:List Value->World->Prop} (h:(z07a data a b pivot cmp).wp P (λ_=>True) w λe vs w'=>e=0/\R vs w'):Ret P F.a150 #[.slice data.a data.len data.cap,.int .i64 a,.int .i64 b,.int .i64 pivot,cmp] w R:=dS (n:=90) (rv:=[.tmp 10]) { cnd:=[],blk:=[(0,[(11,.one (.int .i64))]),(1,[(11,.one (.int .i64)),(12,.one (.int .i64))]),(2,[(11,.one (.int .i64))]),(4,[(12,.one (.int .i64))])],reg:=[(1,[]),(3,[(47,.one .bool)]),(5,[(65,.one .bool)]),(8,[])],lps:=[(0,[(11,.one (.int .i64)),(12,.one (.int .i64))]),(2,[(11,.one (.int .i64))]),(4,[(12,.one (.int .i64))])] } [.val (.slice data.a data.len data.cap),.val (.int .i64 a),.val (.int .i64 b),.val (.int .i64 pivot),.any cmp] Go.Proofs.Tryz.func264 (by kernel_rfl) (by kernel_rfl) (by kernel_rfl) (by kernel_rfl) h
def z079 (data:Sl) (a b pivot:Int) (cmp:Value):Prog :=
Ay 1 (
AL<|
.ex [.adr] (c1 λa0=>0<=pivot/\pivot<(AB data)/\data.a=some a0) (u1 λa1=>
Bw T.a14 a1 (Int.toNat pivot*4) λn2 n3 n4 n5=>
.ex [.adr] (c1 λa6=>0<=a/\a<(AB data)/\data.a=some a6) (u1 λa7=>
Bw T.a14 a7 (Int.toNat a*4) λn8 n9 n10 n11=>
.ex [.adr] (c1 λa12=>0<=a/\a<(AB data)/\data.a=some a12) (u1 λa13=>
AV T.a14 a13 (Int.toNat a*4) (Bl n2 n3 n4 n5)<|
.ex [.adr] (c1 λa14=>0<=pivot/\pivot<(AB data)/\data.a=some a14) (u1 λa15=>
AV T.a14 a15 (Int.toNat pivot*4) (Bl n8 n9 n10 n11)<|
AN<|
Am 1 [])))))<|
Ac (AF (a+1)) λn16=>
Ac (AF (b-1)) λn17=>
Bg 1 (
AA 2 (n16,()) λn18=>
Aj 3 (
AL<|
.ex [.adr] (c1 λa19=>decide (n18<=n17)=true->0<=n18/\n18<(AB data)/\data.a=some a19) (u1 λa20=>
B9 (decide (n18<=n17)=true) T.a14 a20 (Int.toNat n18*4) λn21 n22 n23 n24=>
.ex [.adr] (c1 λa25=>decide (n18<=n17)=true->0<=a/\a<(AB data)/\data.a=some a25) (u1 λa26=>
B9 (decide (n18<=n17)=true) T.a14 a26 (Int.toNat a*4) λn27 n28 n29 n30=>
Ai (decide (n18<=n17)) (
BA cmp [Bl n21 n22 n23 n24,Bl n27 n28 n29 n30] λn31=>
AN<|
Am 3 [.bool (decide (n31<0))])<|
AN<|
Am 3 [.bool false]))) λb32=>
Ai b32 (
Ac (AF (n18+1)) λn33=>
Am 2 [Aa n33])<|
Am 1 [Aa n18]) λn34=>
Bg 1 (
AA 2 (n17,()) λn35=>
Aj 3 (
AL<|
.ex [.adr] (c1 λa36=>decide (n34<=n35)=true->0<=n35/\n35<(AB data)/\data.a=some a36) (u1 λa37=>
B9 (decide (n34<=n35)=true) T.a14 a37 (Int.toNat n35*4) λn38 n39 n40 n41=>
.ex [.adr] (c1 λa42=>decide (n34<=n35)=true->0<=a/\a<(AB data)/\data.a=some a42) (u1 λa43=>
B9 (decide (n34<=n35)=true) T.a14 a43 (Int.toNat a*4) λn44 n45 n46 n47=>
Ai (decide (n34<=n35)) (
BA cmp [Bl n38 n39 n40 n41,Bl n44 n45 n46 n47] λn48=>
AN<|
Am 3 [.bool (not (decide (n48<0)))])<|
AN<|
Am 3 [.bool false]))) λb49=>
Ai b49 (
Ac (AF (n35-1)) λn50=>
Am 2 [Aa n50])<|
Am 1 [Aa n35]) λn51=>
Ai (decide (n34>n51)) (
Ay 1 (
AL<|
.ex [.adr] (c1 λa52=>0<=a/\a<(AB data)/\data.a=some a52) (u1 λa53=>
Bw T.a14 a53 (Int.toNat a*4) λn54 n55 n56 n57=>
.ex [.adr] (c1 λa58=>0<=n51/\n51<(AB data)/\data.a=some a58) (u1 λa59=>
Bw T.a14 a59 (Int.toNat n51*4) λn60 n61 n62 n63=>
.ex [.adr] (c1 λa64=>0<=n51/\n51<(AB data)/\data.a=some a64) (u1 λa65=>
AV T.a14 a65 (Int.toNat n51*4) (Bl n54 n55 n56 n57)<|
.ex [.adr] (c1 λa66=>0<=a/\a<(AB data)/\data.a=some a66) (u1 λa67=>
AV T.a14 a67 (Int.toNat a*4) (Bl n60 n61 n62 n63)<|
AN<|
Am 1 [])))))<|
Ac n51 λn68=>
Am 0 [Aa n68,.bool true])<|
Ay 1 (
AL<|
.ex [.adr] (c1 λa69=>0<=n51/\n51<(AB data)/\data.a=some a69) (u1 λa70=>
Bw T.a14 a70 (Int.toNat n51*4) λn71 n72 n73 n74=>
.ex [.adr] (c1 λa75=>0<=n34/\n34<(AB data)/\data.a=some a75) (u1 λa76=>
Bw T.a14 a76 (Int.toNat n34*4) λn77 n78 n79 n80=>
.ex [.adr] (c1 λa81=>0<=n34/\n34<(AB data)/\data.a=some a81) (u1 λa82=>
AV T.a14 a82 (Int.toNat n34*4) (Bl n71 n72 n73 n74)<|
.ex [.adr] (c1 λa83=>0<=n51/\n51<(AB data)/\data.a=some a83) (u1 λa84=>
AV T.a14 a84 (Int.toNat n51*4) (Bl n77 n78 n79 n80)<|
AN<|
Am 1 [])))))<|
Ac (AF (n34+1)) λn85=>
Ac (AF (n51-1)) λn86=>
Bg 1 (
Br 2 (n85,(n86,())) λn87 n88=>
Be 3 (
Bg 4 (
AA 5 (n87,()) λn89=>
Aj 6 (
AL<|
.ex [.adr] (c1 λa90=>decide (n89<=n88)=true->0<=n89/\n89<(AB data)/\data.a=some a90) (u1 λa91=>
B9 (decide (n89<=n88)=true) T.a14 a91 (Int.toNat n89*4) λn92 n93 n94 n95=>
.ex [.adr] (c1 λa96=>decide (n89<=n88)=true->0<=a/\a<(AB data)/\data.a=some a96) (u1 λa97=>
B9 (decide (n89<=n88)=true) T.a14 a97 (Int.toNat a*4) λn98 n99 n100 n101=>
Ai (decide (n89<=n88)) (
BA cmp [Bl n92 n93 n94 n95,Bl n98 n99 n100 n101] λn102=>
AN<|
Am 6 [.bool (decide (n102<0))])<|
AN<|
Am 6 [.bool false]))) λb103=>
Ai b103 (
Ac (AF (n89+1)) λn104=>
Am 5 [Aa n104])<|
Am 4 [Aa n89]) λn105=>
Bg 4 (
AA 5 (n88,()) λn106=>
Aj 6 (
AL<|
.ex [.adr] (c1 λa107=>decide (n105<=n106)=true->0<=n106/\n106<(AB data)/\data.a=some a107) (u1 λa108=>
B9 (decide (n105<=n106)=true) T.a14 a108 (Int.toNat n106*4) λn109 n110 n111 n112=>
.ex [.adr] (c1 λa113=>decide (n105<=n106)=true->0<=a/\a<(AB data)/\data.a=some a113) (u1 λa114=>
B9 (decide (n105<=n106)=true) T.a14 a114 (Int.toNat a*4) λn115 n116 n117 n118=>
Ai (decide (n105<=n106)) (
BA cmp [Bl n109 n110 n111 n112,Bl n115 n116 n117 n118] λn119=>
AN<|
Am 6 [.bool (not (decide (n119<0)))])<|
AN<|
Am 6 [.bool false]))) λb120=>
Ai b120 (
Ac (AF (n106-1)) λn121=>
Am 5 [Aa n121])<|
Am 4 [Aa n106]) λn122=>
Ai (decide (n105>n122)) (
Am 1 [Aa n122])<|
Ay 4 (
AL<|
.ex [.adr] (c1 λa123=>0<=n122/\n122<(AB data)/\data.a=some a123) (u1 λa124=>
Bw T.a14 a124 (Int.toNat n122*4) λn125 n126 n127 n128=>
.ex [.adr] (c1 λa129=>0<=n105/\n105<(AB data)/\data.a=some a129) (u1 λa130=>
Bw T.a14 a130 (Int.toNat n105*4) λn131 n132 n133 n134=>
.ex [.adr] (c1 λa135=>0<=n105/\n105<(AB data)/\data.a=some a135) (u1 λa136=>
AV T.a14 a136 (Int.toNat n105*4) (Bl n125 n126 n127 n128)<|
.ex [.adr] (c1 λa137=>0<=n122/\n122<(AB data)/\data.a=some a137) (u1 λa138=>
AV T.a14 a138 (Int.toNat n122*4) (Bl n131 n132 n133 n134)<|
AN<|
Am 4 [])))))<|
Ac (AF (n105+1)) λn139=>
Ac (AF (n122-1)) λn140=>
Am 3 [Aa n139,Aa n140]) λn141 n142=>
Am 2 [Aa n141,Aa n142]) λn143=>
Ay 1 (
AL<|
.ex [.adr] (c1 λa144=>0<=a/\a<(AB data)/\data.a=some a144) (u1 λa145=>
Bw T.a14 a145 (Int.toNat a*4) λn146 n147 n148 n149=>
.ex [.adr] (c1 λa150=>0<=n143/\n143<(AB data)/\data.a=some a150) (u1 λa151=>
Bw T.a14 a151 (Int.toNat n143*4) λn152 n153 n154 n155=>
.ex [.adr] (c1 λa156=>0<=n143/\n143<(AB data)/\data.a=some a156) (u1 λa157=>
AV T.a14 a157 (Int.toNat n143*4) (Bl n146 n147 n148 n149)<|
.ex [.adr] (c1 λa158=>0<=a/\a<(AB data)/\data.a=some a158) (u1 λa159=>
AV T.a14 a159 (Int.toNat a*4) (Bl n152 n153 n154 n155)<|
AN<|
Am 1 [])))))<|
Ac n143 λn160=>
Am 0 [Aa n160,.bool false]
theorem zn6 (data:Sl) (a b pivot:Int) (cmp:Value) {w:World} {R:List Value->World->Prop} (h:(z079 data a b pivot cmp).wp P (λ_=>True) w λe vs w'=>e=0/\R vs w'):Ret P F.a149 #[.slice data.a data.len data.cap,.int .i64 a,.int .i64 b,.int .i64 pivot,cmp] w R:=dS (n:=178) (rv:=[.tmp 10,.tmp 11]) { cnd:=[],blk:=[(0,[(12,.one (.int .i64))]),(2,[(13,.one (.int .i64))]),(4,[(13,.one (.int .i64))]),(5,[(12,.one (.int .i64)),(13,.one (.int .i64))]),(6,[(12,.one (.int .i64))]),(8,[(13,.one (.int .i64))])],reg:=[(1,[]),(3,[(47,.one .bool)]),(5,[(66,.one .bool)]),(8,[]),(10,[]),(13,[(120,.one .bool)]),(15,[(139,.one .bool)]),(18,[]),(21,[])],lps:=[(0,[(12,.one (.int .i64))]),(2,[(13,.one (.int .i64))]),(4,[(12,.one (.int .i64)),(13,.one (.int .i64))]),(6,[(12,.one (.int .i64))]),(8,[(13,.one (.int .i64))])] } [.val (.slice data.a data.len data.cap),.val (.int .i64 a),.val (.int .i64 b),.val (.int .i64 pivot),.any cmp] Go.Proofs.Tryz.func265 (by kernel_rfl) (by kernel_rfl) (by kernel_rfl) (by kernel_rfl) h
def z07z (data:Sl) (lo hi:Int) (first:Int):Prog :=
Ac lo λn0=>
Ay 1 (
AA 2 (n0,()) λn1=>
Ac (AF (AF (2*n1)+1)) λn2=>
Ai (decide (n2>=hi)) (
Am 1 [])<|
Aj 3 (
AL<|
.ex [.adr] (c1 λa3=>decide (AF (n2+1)<hi)=true->0<=AF (first+n2)/\AF (first+n2)<(AB data)/\data.a=some a3) (u1 λa4=>
B7 (decide (AF (n2+1)<hi)=true) T.a51 a4 (Int.toNat (AF (first+n2))*1) λs5=>
.ex [.adr] (c1 λa6=>decide (AF (n2+1)<hi)=true->0<=AF (AF (first+n2)+1)/\AF (AF (first+n2)+1)<(AB data)/\data.a=some a6) (u1 λa7=>
B7 (decide (AF (n2+1)<hi)=true) T.a51 a7 (Int.toNat (AF (AF (first+n2)+1))*1) λs8=>
Ai (decide (AF (n2+1)<hi)) (
Ak F.a2 [.string s5,.string s8] λb9=>
AN<|
Am 3 [.bool b9])<|
AN<|
Am 3 [.bool false]))) λb10=>
Bg 3 (
Ai b10 (
Ac (AF (n2+1)) λn11=>
Am 3 [Aa n11])<|
Am 3 [Aa n2]) λn12=>
AL<|
.ex [.adr] (c1 λa13=>0<=AF (first+n1)/\AF (first+n1)<(AB data)/\data.a=some a13) (u1 λa14=>
AT T.a51 a14 (Int.toNat (AF (first+n1))*1) λs15=>
.ex [.adr] (c1 λa16=>0<=AF (first+n12)/\AF (first+n12)<(AB data)/\data.a=some a16) (u1 λa17=>
AT T.a51 a17 (Int.toNat (AF (first+n12))*1) λs18=>
Ak F.a2 [.string s15,.string s18] λb19=>
AN<|
Ai (not b19) (
Am 0 [])<|
Ay 3 (
AL<|
.ex [.adr] (c1 λa20=>0<=AF (first+n12)/\AF (first+n12)<(AB data)/\data.a=some a20) (u1 λa21=>
AT T.a51 a21 (Int.toNat (AF (first+n12))*1) λs22=>
.ex [.adr] (c1 λa23=>0<=AF (first+n1)/\AF (first+n1)<(AB data)/\data.a=some a23) (u1 λa24=>
AT T.a51 a24 (Int.toNat (AF (first+n1))*1) λs25=>
.ex [.adr] (c1 λa26=>0<=AF (first+n1)/\AF (first+n1)<(AB data)/\data.a=some a26) (u1 λa27=>
AV T.a51 a27 (Int.toNat (AF (first+n1))*1) (.string s22)<|
.ex [.adr] (c1 λa28=>0<=AF (first+n12)/\AF (first+n12)<(AB data)/\data.a=some a28) (u1 λa29=>
AV T.a51 a29 (Int.toNat (AF (first+n12))*1) (.string s25)<|
AN<|
Am 3 [])))))<|
Ac n12 λn30=>
Am 2 [Aa n30])))<|
Am 0 []
def zzv (length:Int):Prog :=
Ax F.a66 [.int .u64 (IntKind.wrap .u64 length)] λn0=>
.must (0<=n0) <|
AZ (IntKind.wrap .u64 (1*2 ^ min (Int.toNat n0) 64)) λn1=>
Am 0 [.int .u64 n1]
theorem zn3 (length:Int):FnS (zzv length) F.a144 #[.int .i64 length]:=dV ⟨[],[],[],[]⟩ Go.Proofs.Tryz.func270 (by kernel_rfl)
def zzw (r:Option Addr):Prog :=
AL<|
AI r λa1=>
BD T.a50 a1 λn2=>
AI r λa4=>
BD T.a50 a4 λn5=>
AI r λa7=>
Ae T.a50 a7 (.int .u64 (IntKind.wrap .u64 (((BitVec.toNat (BitVec.ofInt 64 n2 ^^^ BitVec.ofInt 64 (IntKind.wrap .u64 (n5*8192))):Nat):Int))))<|
AN<|
AL<|
AI r λa9=>
BD T.a50 a9 λn10=>
AI r λa12=>
BD T.a50 a12 λn13=>
AI r λa15=>
Ae T.a50 a15 (.int .u64 (IntKind.wrap .u64 (((BitVec.toNat (BitVec.ofInt 64 n10 ^^^ BitVec.ofInt 64 (Int.fdiv n13 128)):Nat):Int))))<|
AN<|
AL<|
AI r λa17=>
BD T.a50 a17 λn18=>
AI r λa20=>
BD T.a50 a20 λn21=>
AI r λa23=>
Ae T.a50 a23 (.int .u64 (IntKind.wrap .u64 (((BitVec.toNat (BitVec.ofInt 64 n18 ^^^ BitVec.ofInt 64 (IntKind.wrap .u64 (n21*131072))):Nat):Int))))<|
AN<|
AI r λa25=>
BD T.a50 a25 λn26=>
AZ n26 λn27=>
Am 0 [.int .u64 n27]
theorem znb (r:Option Addr):FnS (zzw r) F.a159 #[.pointer r]:=dV ⟨[],[],[],[]⟩ Go.Proofs.Tryz.func271 (by kernel_rfl)
def z07r (data:Sl) (a:Int) (swaps:Option Addr):Prog :=
Ax F.a143 [data.v,Aa (AF (a-1)),Aa a,Aa (AF (a+1)),Ah swaps] λn0=>
Ac n0 λn1=>
Am 0 [Aa n1]
def z07s (data:Sl) (a b c:Int) (swaps:Option Addr):Prog :=
Bf F.a146 [data.v,Aa a,Aa b,Ah swaps] λn0 n1=>
Ac n0 λn2=>
Ac n1 λn3=>
Bf F.a146 [data.v,Aa n3,Aa c,Ah swaps] λn4 n5=>
Ac n4 λn6=>
Ac n5 λn7=>
Bf F.a146 [data.v,Aa n2,Aa n6,Ah swaps] λn8 n9=>
Ac n8 λn10=>
Ac n9 λn11=>
Ac n11 λn12=>
Am 0 [Aa n12]
def zf4 (x:ByteArray):Prog :=
Al (not (ByteArray.toList x == ByteArray.toList x)) λb0=>
Am 0 [.bool b0]
def z07d (data:Sl) (lo hi first:Int) (cmp:Value):Prog :=
Ac lo λn0=>
Ay 1 (
AA 2 (n0,()) λn1=>
Ac (AF (AF (2*n1)+1)) λn2=>
Ai (decide (n2>=hi)) (
Am 1 [])<|
Aj 3 (
AL<|
.ex [.adr] (c1 λa3=>decide (AF (n2+1)<hi)=true->0<=AF (first+n2)/\AF (first+n2)<(AB data)/\data.a=some a3) (u1 λa4=>
B9 (decide (AF (n2+1)<hi)=true) T.a14 a4 (Int.toNat (AF (first+n2))*4) λn5 n6 n7 n8=>
.ex [.adr] (c1 λa9=>decide (AF (n2+1)<hi)=true->0<=AF (AF (first+n2)+1)/\AF (AF (first+n2)+1)<(AB data)/\data.a=some a9) (u1 λa10=>
B9 (decide (AF (n2+1)<hi)=true) T.a14 a10 (Int.toNat (AF (AF (first+n2)+1))*4) λn11 n12 n13 n14=>
Ai (decide (AF (n2+1)<hi)) (
BA cmp [Bl n5 n6 n7 n8,Bl n11 n12 n13 n14] λn15=>
AN<|
Am 3 [.bool (decide (n15<0))])<|
AN<|
Am 3 [.bool false]))) λb16=>
Bg 3 (
Ai b16 (
Ac (AF (n2+1)) λn17=>
Am 3 [Aa n17])<|
Am 3 [Aa n2]) λn18=>
AL<|
.ex [.adr] (c1 λa19=>0<=AF (first+n1)/\AF (first+n1)<(AB data)/\data.a=some a19) (u1 λa20=>
Bw T.a14 a20 (Int.toNat (AF (first+n1))*4) λn21 n22 n23 n24=>
.ex [.adr] (c1 λa25=>0<=AF (first+n18)/\AF (first+n18)<(AB data)/\data.a=some a25) (u1 λa26=>
Bw T.a14 a26 (Int.toNat (AF (first+n18))*4) λn27 n28 n29 n30=>
BA cmp [Bl n21 n22 n23 n24,Bl n27 n28 n29 n30] λn31=>
AN<|
Ai (not (decide (n31<0))) (
Am 0 [])<|
Ay 3 (
AL<|
.ex [.adr] (c1 λa32=>0<=AF (first+n18)/\AF (first+n18)<(AB data)/\data.a=some a32) (u1 λa33=>
Bw T.a14 a33 (Int.toNat (AF (first+n18))*4) λn34 n35 n36 n37=>
.ex [.adr] (c1 λa38=>0<=AF (first+n1)/\AF (first+n1)<(AB data)/\data.a=some a38) (u1 λa39=>
Bw T.a14 a39 (Int.toNat (AF (first+n1))*4) λn40 n41 n42 n43=>
.ex [.adr] (c1 λa44=>0<=AF (first+n1)/\AF (first+n1)<(AB data)/\data.a=some a44) (u1 λa45=>
AV T.a14 a45 (Int.toNat (AF (first+n1))*4) (Bl n34 n35 n36 n37)<|
.ex [.adr] (c1 λa46=>0<=AF (first+n18)/\AF (first+n18)<(AB data)/\data.a=some a46) (u1 λa47=>
AV T.a14 a47 (Int.toNat (AF (first+n18))*4) (Bl n40 n41 n42 n43)<|
AN<|
Am 3 [])))))<|
Ac n18 λn48=>
Am 2 [Aa n48])))<|
Am 0 []
theorem zna (data:Sl) (lo hi first:Int) (cmp:Value) {w:World} {R:List Value->World->Prop} (h:(z07d data lo hi first cmp).wp P (λ_=>True) w λe vs w'=>e=0/\R vs w'):Ret P F.a157 #[.slice data.a data.len data.cap,.int .i64 lo,.int .i64 hi,.int .i64 first,cmp] w R:=dS (n:=82) (rv:=[]) { cnd:=[(27021597772611624,[(11,.one (.int .i64))])],blk:=[(0,[])],reg:=[(3,[(40,.one .bool)]),(6,[])],lps:=[(0,[(10,.one (.int .i64))])] } [.val (.slice data.a data.len data.cap),.val (.int .i64 lo),.val (.int .i64 hi),.val (.int .i64 first),.any cmp] Go.Proofs.Tryz.func294 (by kernel_rfl) (by kernel_rfl) (by kernel_rfl) (by kernel_rfl) h
def z075 (data:Sl) (a:Int) (swaps:Option Addr) (cmp:Value):Prog :=
Ax F.a142 [data.v,Aa (AF (a-1)),Aa a,Aa (AF (a+1)),Ah swaps,cmp] λn0=>
Ac n0 λn1=>
Am 0 [Aa n1]
theorem zn1 (data:Sl) (a:Int) (swaps:Option Addr) (cmp:Value) {w:World} {R:List Value->World->Prop} (h:(z075 data a swaps cmp).wp P (λ_=>True) w λe vs w'=>e=0/\R vs w'):Ret P F.a140 #[.slice data.a data.len data.cap,.int .i64 a,.pointer swaps,cmp] w R:=dS (n:=18) (rv:=[.tmp 8]) { cnd:=[],blk:=[],reg:=[],lps:=[] } [.val (.slice data.a data.len data.cap),.val (.int .i64 a),.val (.pointer swaps),.any cmp] Go.Proofs.Tryz.func295 (by kernel_rfl) (by kernel_rfl) (by kernel_rfl) (by kernel_rfl) h
def z076 (data:Sl) (a b c:Int) (swaps:Option Addr) (cmp:Value):Prog :=
Bf F.a145 [data.v,Aa a,Aa b,Ah swaps,cmp] λn0 n1=>
Ac n0 λn2=>
Ac n1 λn3=>
Bf F.a145 [data.v,Aa n3,Aa c,Ah swaps,cmp] λn4 n5=>
Ac n4 λn6=>
Ac n5 λn7=>
Bf F.a145 [data.v,Aa n2,Aa n6,Ah swaps,cmp] λn8 n9=>
Ac n8 λn10=>
Ac n9 λn11=>
Ac n11 λn12=>
Am 0 [Aa n12]
theorem zn2 (data:Sl) (a b c:Int) (swaps:Option Addr) (cmp:Value) {w:World} {R:List Value->World->Prop} (h:(z076 data a b c swaps cmp).wp P (λ_=>True) w λe vs w'=>e=0/\R vs w'):Ret P F.a142 #[.slice data.a data.len data.cap,.int .i64 a,.int .i64 b,.int .i64 c,.pointer swaps,cmp] w R:=dS (n:=41) (rv:=[.tmp 12]) { cnd:=[],blk:=[],reg:=[],lps:=[] } [.val (.slice data.a data.len data.cap),.val (.int .i64 a),.val (.int .i64 b),.val (.int .i64 c),.val (.pointer swaps),.any cmp] Go.Proofs.Tryz.func296 (by kernel_rfl) (by kernel_rfl) (by kernel_rfl) (by kernel_rfl) h
def z07t (data:Sl) (a b:Int) (swaps:Option Addr):Prog :=
AL<|
.ex [.adr] (c1 λa0=>0<=b/\b<(AB data)/\data.a=some a0) (u1 λa1=>
AT T.a51 a1 (Int.toNat b*1) λs2=>
.ex [.adr] (c1 λa3=>0<=a/\a<(AB data)/\data.a=some a3) (u1 λa4=>
AT T.a51 a4 (Int.toNat a*1) λs5=>
Ak F.a2 [.string s2,.string s5] λb6=>
AN<|
Ai b6 (
AI swaps λa8=>
BB T.a12 a8 λn9=>
AI swaps λa11=>
Ae T.a12 a11 (Aa (AF (n9+1)))<|
Ac b λn12=>
Ac a λn13=>
Am 0 [Aa n12,Aa n13])<|
Ac a λn14=>
Ac b λn15=>
Am 0 [Aa n14,Aa n15]))
def z077 (data:Sl) (a b:Int) (swaps:Option Addr) (cmp:Value):Prog :=
AL<|
.ex [.adr] (c1 λa0=>0<=b/\b<(AB data)/\data.a=some a0) (u1 λa1=>
Bw T.a14 a1 (Int.toNat b*4) λn2 n3 n4 n5=>
.ex [.adr] (c1 λa6=>0<=a/\a<(AB data)/\data.a=some a6) (u1 λa7=>
Bw T.a14 a7 (Int.toNat a*4) λn8 n9 n10 n11=>
BA cmp [Bl n2 n3 n4 n5,Bl n8 n9 n10 n11] λn12=>
AN<|
Ai (decide (n12<0)) (
AI swaps λa14=>
BB T.a12 a14 λn15=>
AI swaps λa17=>
Ae T.a12 a17 (Aa (AF (n15+1)))<|
Ac b λn18=>
Ac a λn19=>
Am 0 [Aa n18,Aa n19])<|
Ac a λn20=>
Ac b λn21=>
Am 0 [Aa n20,Aa n21]))
theorem zn4 (data:Sl) (a b:Int) (swaps:Option Addr) (cmp:Value) {w:World} {R:List Value->World->Prop} (h:(z077 data a b swaps cmp).wp P (λ_=>True) w λe vs w'=>e=0/\R vs w'):Ret P F.a145 #[.slice data.a data.len data.cap,.int .i64 a,.int .i64 b,.pointer swaps,cmp] w R:=dS (n:=32) (rv:=[.tmp 10,.tmp 11]) { cnd:=[],blk:=[],reg:=[],lps:=[] } [.val (.slice data.a data.len data.cap),.val (.int .i64 a),.val (.int .i64 b),.val (.pointer swaps),.any cmp] Go.Proofs.Tryz.func309 (by kernel_rfl) (by kernel_rfl) (by kernel_rfl) (by kernel_rfl) h
end Go.Dec
