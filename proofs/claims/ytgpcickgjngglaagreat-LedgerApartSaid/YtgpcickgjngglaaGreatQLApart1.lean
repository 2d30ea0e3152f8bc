/- What the claim of this folder leans on: our own texts, joined, without what it does not use. -/
import Derived.Test.YtgpcickgjngglaaGreatRows
import Derived.WalkKit
import Derived.ProofKit
import Derived.OpenShut
import Derived.RowKit3
import Derived.OrdersHeld
import Derived.Scope
import Derived.KernelRfl
import Derived.Laws.Sem
import Derived.Laws.StructEq
import Derived.Deep.AppendSrc
import Derived.Laws.BytesArg
import Derived.Laws.RangeString
import Derived.Maps.RangeRun
import Derived.Lib.ConvBytes
import Derived.Lib.SlBytesConst
import Derived.ChangeSlices
import Derived.ChangeMaps5
import Derived.ChangeSame
import Derived.Deep.Slices
import Derived.Deep.Fields
import Derived.Test.YtgpcickgjngglaaGreatProg
import Derived.Laws.MakeOwn
import Derived.WideKeyRuns
import Derived.DeepKeys3
import Derived.Sort.MapsRangeIn
import Derived.Sort.KeysCollected
import Derived.RangeFuncNested
import Derived.RangeFuncBound
import Derived.RangeFuncCalls
import Derived.RangeFuncLeaves
import Derived.RangeFuncBox
import Derived.OwnWalkIn
import Derived.TacticsInMore
import Derived.RegionIn
import Derived.LoopNIn
import Derived.LoopIn
import Derived.Maps.AppendAt
import Derived.Shelf.Abstract
import Derived.Shelf.Sort.Plain
import Derived.Shelf.Slices.In.SortNone
import Derived.Lib.AppendZerosOnto
import Derived.Lib.Overlaps
set_option linter.unusedVariables false
set_option linter.unusedSimpArgs false
namespace Go.Dec
inductive Pr where
 | int (k:IntKind)|bool|str|ptr|adr|slc|map|any
structure Sl where
 a:Option Addr
 len:Nat
 cap:Nat
@[reducible] def Pr.D:Pr->Type
 | .int _=>Int | .bool=>Bool | .str=>ByteArray | .ptr=>Option Addr | .adr=>Addr | .slc=>Sl | .map=>Option Nat | .any=>Value
@[reducible] def Pr.mk:(p:Pr)->p.D->Value
 | .int k,n=>.int k n
 | .bool,x=>.bool x
 | .str,x=>.string x
 | .ptr,x=>.pointer x
 | .adr,x=>.pointer (some x)
 | .slc,x=>.slice x.a x.len x.cap
 | .map,x=>.map x
 | .any,x=>x
@[reducible] def HL:List Pr->Type
 | []=>Unit
 | p::ps=>p.D × HL ps
@[reducible] def HL.vals:(ps:List Pr)->HL ps->List Value
 | [],_=>[]
 | p::ps,x=>p.mk x.1::HL.vals ps x.2
inductive Sh1 where
 | one (p:Pr)|agg (ps:List Pr)
@[reducible] def Sh1.prims:Sh1->List Pr
 | .one p=>[p]
 | .agg ps=>ps
@[reducible] def prims:List Sh1->List Pr
 | []=>[]
 | s::r=>s.prims++prims r
@[reducible] def build:List Sh1->List Value->List Value
 | [],_=>[]
 | .one _::r,v::vs=>v::build r vs
 | .one _::_,[]=>[]
 | .agg ps::r,vs=>.agg (vs.take ps.length).toArray::build r (vs.drop ps.length)
inductive Sh where
 | one (s:Sh1)|tup (l:List Sh1)
@[reducible] def Sh.prims:Sh->List Pr
 | .one s=>s.prims
 | .tup l=>Dec.prims l
@[reducible] def Sh.mk:(s:Sh)->HL s.prims->Value
 | .one (.one p),x=>p.mk x.1
 | .one (.agg ps),x=>.agg (HL.vals ps x).toArray
 | .tup l,x=>.tuple (build l (HL.vals (Dec.prims l) x)).toArray
@[reducible] def z1b (ss:List Sh1) (x:HL (prims ss)):List Value:=build ss (HL.vals (prims ss) x)
inductive Prog:Type where
 | fail (why:Nat)
 | done (e:Nat) (vs:List Value)
 | must (c:Prop) (k:Prog)
 | lt (p:Pr) (x:p.D) (k:p.D->Prog)
 | ex (ps:List Pr) (c:HL ps->Prop) (k:HL ps->Prog)
 | read (g:Prop) (m:Sem Value) (s:Sh) (k:HL s.prims->Prog)
 | hold (g:Prop) (m:Sem Value) (s:Sh) (k:HL s.prims->Prog)
 | act (m:Sem Value) (s:Sh) (k:HL s.prims->Prog)
 | actU (m:Sem Unit) (k:Prog)
 | next (m:Sem Value) (ss:List Sh1) (k1:HL (prims ss)->Prog) (k0:Prog)
 | call (f:FuncId) (args:List Value) (s:Sh) (k:HL s.prims->Prog)
 | callv (f:Value) (args:List Value) (s:Sh) (k:HL s.prims->Prog)
 | ite (b:Bool) (p q:Prog)
 | bind (e:Nat) (ss:List Sh1) (p:Prog) (k:HL (prims ss)->Prog)
 | loop (e:Nat) (ss:List Sh1) (x:HL (prims ss)) (body:HL (prims ss)->Prog)
 | both (p q:Prog)
 | tick (k:Prog)
 | untick (k:Prog)
abbrev Post:=Nat->List Value->World->Prop
@[reducible] def Post.catch (Q:Post) (e:Nat) (C:List Value->World->Prop):Post:=λe' vs w=>(e'=e->C vs w)/\(e'≠e->Q e' vs w)
def Prog.wp (P:Program):Prog->(World->Prop)->World->Post->Prop
 | .fail _,_,_,_=>False
 | .done e vs,_,w,Q=>Q e vs w
 | .must c k,S,w,Q=>c/\k.wp P S w Q
 | .lt _ x k,S,w,Q=>(k x).wp P S w Q
 | .ex _ c k,S,w,Q=>∃ x,c x/\(k x).wp P S w Q
 | .read g m s k,S,w,Q=>∃ x,(g->m.run P w=.ok (s.mk x) w)/\(k x).wp P S w Q
 | .hold g m s k,S,w,Q=>∃ x,(g->m.run P w=.ok (s.mk x) w)/\(k x).wp P (λw'=>S w'/\(g->m.run P w'=.ok (s.mk x) w')) w Q
 | .act m s k,S,w,Q=>∃ x w',m.run P w=.ok (s.mk x) w'/\S w'/\(k x).wp P S w' Q
 | .actU m k,S,w,Q=>∃ w',m.run P w=.ok () w'/\S w'/\k.wp P S w' Q
 | .next m ss k1 k0,S,w,Q =>
  (∃ x w',m.run P w=.ok (.tuple (.bool true::z1b ss x).toArray) w'/\S w'/\(k1 x).wp P S w' Q) \/
  (∃ w',m.run P w=.ok (.tuple #[.bool false]) w'/\S w'/\k0.wp P S w' Q)
 | .call f args s k,S,w,Q=>Calls P f args.toArray w λe w'=>∃ x,e=.returned (s.mk x)/\S w'/\(k x).wp P S w' Q
 | .callv fv args s k, S, w, Q => ∃ f first cap, fv = .func (.func f) first cap ∧ (P.funcs[f]?).any (fun fn => fn.body.isSome && fn.name != "runtime.NumGoroutine") = true ∧
   Calls P f (first++args.toArray++cap) w λe w'=>∃ x,e=.returned (s.mk x)/\S w'/\(k x).wp P S w' Q
 | .ite b p q,S,w,Q=>(b=true->p.wp P S w Q)/\(b=false->q.wp P S w Q)
 | .bind e ss p k,S,w,Q=>p.wp P S w (Q.catch e λvs w'=>∃ x,vs=z1b ss x/\(k x).wp P S w' Q)
 | .loop e ss x body,S,w,Q=>∃ I:Nat->HL (prims ss)->World->Prop,(∃ n,I n x w) /\
   ∀ n x w,I n x w->(body x).wp P S w (Q.catch e λvs w'=>∃ x' m,m<n/\vs=z1b ss x'/\I m x' w')
 | .both p q,S,w,Q=>p.wp P S w Q/\q.wp P S w Q
 | .tick k,S,w,Q=>k.wp P S { w with drawn:=w.drawn+1 } Q
 | .untick k,_,w,Q=>k.wp P (λ_=>True) w Q
theorem Prog.wp_mono {P:Program} (p:Prog):∀ {S:World->Prop} {w:World} {Q Q':Post},(∀ e vs w,Q e vs w->Q' e vs w)->p.wp P S w Q->p.wp P S w Q':=by
 induction p with
 | fail _=>exact λ_ h=>h
 | done e vs=>exact λhq h=>hq _ _ _ h
 | must c k ih=>exact λhq h=>⟨h.1,ih hq h.2⟩
 | lt p x k ih=>exact λhq h=>ih x hq h
 | ex ps c k ih=>exact λhq ⟨x,hc,h⟩=>⟨x,hc,ih x hq h⟩
 | read g m s k ih=>exact λhq ⟨x,hc,h⟩=>⟨x,hc,ih x hq h⟩
 | hold g m s k ih=>exact λhq ⟨x,hc,h⟩=>⟨x,hc,ih x hq h⟩
 | act m s k ih=>exact λhq ⟨x,w',hc,hs,h⟩=>⟨x,w',hc,hs,ih x hq h⟩
 | actU m k ih=>exact λhq ⟨w',hc,hs,h⟩=>⟨w',hc,hs,ih hq h⟩
 | next m ss k1 k0 ih1 ih0 =>
  intro S w Q Q' hq h
  rcases h with ⟨x,w',hc,hs,h⟩|⟨w',hc,hs,h⟩
  ·exact .inl ⟨x,w',hc,hs,ih1 x hq h⟩
  ·exact .inr ⟨w',hc,hs,ih0 hq h⟩
 | call f args s k ih=>exact λhq h=>Calls.mono h λe w' ⟨x,he,hs,h⟩=>⟨x,he,hs,ih x hq h⟩
 | callv f args s k ih=>exact λhq ⟨f,a,b,h1,h2,h⟩=>⟨f,a,b,h1,h2,Calls.mono h λe w' ⟨x,he,hs,h⟩=>⟨x,he,hs,ih x hq h⟩⟩
 | ite b p q ih1 ih2=>exact λhq h=>⟨λhb=>ih1 hq (h.1 hb),λhb=>ih2 hq (h.2 hb)⟩
 | bind e ss p k ih1 ih2 =>
  exact λhq h=>ih1 (λe' vs w h'=>⟨λhe=>let ⟨x,hx,h''⟩:=h'.1 he;⟨x,hx,ih2 x hq h''⟩,λhe=>hq _ _ _ (h'.2 he)⟩) h
 | loop e ss x body ih =>
  exact λhq ⟨I,h0,h⟩=>⟨I,h0,λn x w hI=>ih x (λe' vs w h'=>⟨h'.1,λhe=>hq _ _ _ (h'.2 he)⟩) (h n x w hI)⟩
 | both p q ih1 ih2=>exact λhq h=>⟨ih1 hq h.1,ih2 hq h.2⟩
 | tick k ih=>exact λhq h=>ih hq h
 | untick k ih=>exact λhq h=>ih hq h
inductive Base where
 | val (v:Value)|lit (v:Value)|adr (a:Addr)|any (v:Value)
@[reducible] def Base.v:Base->Value
 | .val v=>v
 | .lit v=>v
 | .adr a=>.pointer (some a)
 | .any v=>v
structure Ent where
 b:Base
 g:Option (Nat × Bool)
abbrev Env:=List (Nat × Option Base)
abbrev Ov:=List (Nat × Ent)
def Env.get:Env->Nat->Option Base
 | [],_=>none
 | (t,e)::r,s=>bif Nat.beq t s then e else Env.get r s
def Ov.get (env:Env):Ov->Nat->Option Ent
 | [],s=>match env.get s with
  | some b=>some ⟨b,none⟩
  | none=>none
 | (t,e)::r,s=>bif Nat.beq t s then some e else Ov.get env r s
def zed:Option (Nat × Bool)->Nat->Bool->Bool
 | some (s,w),t,u=>Nat.beq s t && (w == u)
 | none,_,_=>false
def opE (env:Env) (ov:Ov) (g:Option (Nat × Bool)):Operand->Option Base
 | .tmp t=>match ov.get env t with
  | some ⟨b,none⟩=>some b
  | some ⟨b,some (s,w)⟩=>bif zed g s w then some b else none
  | none=>none
 | .const v=>some (.lit v)
 | .global n=>some (.adr ⟨n,0,none⟩)
 | .func f=>some (.val (.func (.func f) #[] #[]))
def opV (env:Env) (ov:Ov) (g:Option (Nat × Bool)) (x:Operand):Value :=
 match opE env ov g x with
 | some b=>b.v
 | none=>undef
def zqn {α:Type}:Option α->Bool
 | some _=>true
 | none=>false
def ze5 (env:Env) (ov:Ov) (g:Option (Nat × Bool)) (o:Oper):Bool :=
 o.op.operands.toList.all λx=>zqn (opE env ov g x)
def zcr (a:Act):Option (Nat × Bool)->Prop
 | none=>True
 | some (s,w)=>a.tmps[s]? = some (.bool w)
def Ent.Ok (a:Act) (s:Nat) (e:Ent):Prop :=
 match e.g with
 | none=>a.tmps[s]? = some e.b.v
 | some (t,w)=>(a.tmps[t]? = some (.bool w)->a.tmps[s]? = some e.b.v)/\(¬ a.tmps[t]? = some (.bool w)->a.tmps[s]? = some undef)
structure Agree (n:Nat) (env:Env) (ov:Ov) (a:Act):Prop where
 size:a.tmps.size=n
 defers:a.defers=[]
 slots:∀ s e,ov.get env s=some e->e.Ok a s
theorem zmz {g:Option (Nat × Bool)} {s:Nat} {w:Bool} (h:zed g s w=true):g=some (s,w):=by
 cases g with
 | none=>simp [zed] at h
 | some x =>
  obtain ⟨t,u⟩:=x
  simp only [zed,Bool.and_eq_true] at h
  rw [Nat.eq_of_beq_eq_true h.1,eq_of_beq h.2]
theorem z3r {n:Nat} {env:Env} {ov:Ov} {a:Act} {g:Option (Nat × Bool)} (ha:Agree n env ov a) (hg:zcr a g) {x:Operand} {b:Base}
  (h:opE env ov g x=some b):a.eval x=b.v:=by
 cases x with
 | tmp t =>
  simp only [opE] at h
  have key:∀ v,a.tmps[t]? = some v->a.eval (.tmp t)=v:=λv hv=>by simp [Act.eval,hv]
  cases hget:ov.get env t with
  | none=>rw [hget] at h;cases h
  | some e =>
   obtain ⟨b',g'⟩:=e
   rw [hget] at h
   have hs:=ha.slots t _ hget
   cases g' with
   | none =>
    obtain rfl:=Option.some.inj h
    exact key _ hs
   | some x =>
    obtain ⟨s,w⟩:=x
    simp only [cond_eq_ite] at h
    by_cases hsame:zed g s w=true
    ·rw [if_pos hsame] at h
     obtain rfl:=Option.some.inj h
     have:=zmz hsame
     subst this
     exact key _ (hs.1 hg)
    ·rw [if_neg hsame] at h;cases h
 | const v=>simp only [opE] at h;obtain rfl:=Option.some.inj h;rfl
 | global k=>simp only [opE] at h;obtain rfl:=Option.some.inj h;rfl
 | func f=>simp only [opE] at h;obtain rfl:=Option.some.inj h;rfl
theorem z06r {n:Nat} {env:Env} {ov:Ov} {a:Act} {g:Option (Nat × Bool)} (ha:Agree n env ov a) (hg:zcr a g) {x:Operand}
  (h:zqn (opE env ov g x)=true):opV env ov g x=a.eval x:=by
 unfold opV
 cases hx:opE env ov g x with
 | none=>rw [hx] at h;cases h
 | some b=>exact (z3r ha hg hx).symm
def zha:Op->Bool
 | .select _ _=>false
 | _=>true
theorem z7r {n:Nat} {env:Env} {ov:Ov} {a:Act} {g:Option (Nat × Bool)} {o:Oper} (ha:Agree n env ov a) (hg:zcr a g)
  (hk:ze5 env ov g o=true) (hs:zha o.op=true):execOp a.eval o=execOp (opV env ov g) o:=by
 refine execOp_congr o (λcs b h=>by rw [h] at hs;cases hs) λx hx=>?_
 have:=List.all_eq_true.1 hk x (by simpa using hx)
 exact (z06r ha hg this).symm
def z9e {α:Type} (P:Program):Sem α->Option α
 | .pure a=>some a
 | .program k=>z9e P (k P)
 | _=>none
theorem zhg {α:Type} {P:Program}:∀ {m:Sem α} {x:α},z9e P m=some x->∀ w,m.run P w=.ok x w:=by
 intro m
 induction m with
 | pure a=>intro x h w;simp only [z9e,Option.some.injEq] at h;subst h;rfl
 | program k ih=>intro x h w;exact ih P h w
 | _=>intro x h;simp [z9e] at h
inductive PR where
 | pure (b:Base)
 | must (c:Prop) (b:Base)
 | exA (c:Addr->Prop) (b:Addr->Base)
def PR.Ok (P:Program) (m:Sem Next):PR->Prop
 | .pure b=>∀ w,m.run P w=.ok (.value b.v) w
 | .must c b=>c->∀ w,m.run P w=.ok (.value b.v) w
 | .exA c b=>∀ a,c a->∀ w,m.run P w=.ok (.value (b a).v) w
def bt (s:ByteArray) (i:Int):Int:=((s.data.toList.getD i.toNat 0).toNat:Int)
def z0w (A:Option Addr) (size l m:Nat):Option Addr:=if m=l then A else A.map (·.add (l*size))
def zfs (P:Program) (s:TypeId) (f:Nat):Option Nat :=
 match P.underlying s with
 | some (.struct fs)=>match fs[f]? with
  | some fd=>match P.info? fd.type with
   | some i=>if i.size=0 then none else some fd.offset
   | none=>none
  | none=>none
 | _=>none
def sizeOf? (P:Program) (t:TypeId):Option Nat :=
 match P.info? t with
 | some i=>some i.size
 | none=>none
def zlk (s:ByteArray) (lo hi:Option Base):Option PR :=
 match lo,hi with
 | none,none=>some (.pure (.val (.string (s.extract 0 s.size))))
 | some bl,none=>match bl.v with
  | .int _ l=>some (.must (0<=l/\l<=s.size) (.val (.string (s.extract l.toNat s.size))))
  | _=>none
 | none,some bh=>match bh.v with
  | .int _ h=>some (.must (0<=h/\h<=s.size) (.val (.string (s.extract 0 h.toNat))))
  | _=>none
 | some bl,some bh=>match bl.v,bh.v with
  | .int _ l,.int _ h=>some (.must (0<=l/\l<=h/\h<=s.size) (.val (.string (s.extract l.toNat h.toNat))))
  | _,_=>none
def ze3 (A:Option Addr) (len cap size:Nat) (lo hi mx:Option Base):Option PR :=
 match lo,hi,mx with
 | none,none,none=>some (.pure (.val (.slice A len cap)))
 | some bl,none,none=>match bl.v with
  | .int _ l=>some (.must (0<=l/\l<=len) (.val (.slice (z0w A size l.toNat cap) (len-l.toNat) (cap-l.toNat))))
  | _=>none
 | none,some bh,none=>match bh.v with
  | .int _ h=>some (.must (0<=h/\h<=cap) (.val (.slice A h.toNat cap)))
  | _=>none
 | some bl,some bh,none=>match bl.v,bh.v with
  | .int _ l,.int _ h=>some (.must (0<=l/\l<=h/\h<=cap) (.val (.slice (z0w A size l.toNat cap) (h.toNat-l.toNat) (cap-l.toNat))))
  | _,_=>none
 | none,some bh,some bm=>match bh.v,bm.v with
  | .int _ h,.int _ m=>some (.must (0<=h/\h<=m/\m<=cap) (.val (.slice A h.toNat m.toNat)))
  | _,_=>none
 | some bl,some bh,some bm=>match bl.v,bh.v,bm.v with
  | .int _ l,.int _ h,.int _ m=>some (.must (0<=l/\l<=h/\h<=m/\m<=cap) (.val (.slice (z0w A size l.toNat m.toNat) (h.toNat-l.toNat) (m.toNat-l.toNat))))
  | _,_,_=>none
 | _,none,some _=>none
def z9q (P:Program) (t:TypeId) (b:Base) (y:Operand):Option Bool :=
 match P.underlying t,b,y with
 | some (.pointer _),.adr _,.const (.pointer none)=>some false
 | some (.pointer _),.val (.pointer p),.const (.pointer none)=>some p.isNone
 | some (.slice _),.val (.slice a _ _),.const (.slice none _ _)=>some a.isNone
 | some (.map _ _),.val (.map r),.const (.map none)=>some r.isNone
 | _,_,_=>none
def zbx:Operand->Bool
 | .const (.pointer none)=>true
 | .const (.slice none _ _)=>true
 | .const (.map none)=>true
 | _=>false
def zbc:Operand->Bool
 | .const _=>true
 | _=>false
def z06h (P:Program) (t:TypeId):Bool :=
 match P.underlying t with
 | some .string=>true
 | _=>false
def z05s:Option Bool->Option Bool->Option Bool
 | some a,some b=>some (a && b)
 | _,_=>none
def zfp (P:Program) (t:TypeId):Option Bool :=
 match P.underlying t with
 | some (.struct _)=>some true
 | some (.array _ _)=>some true
 | some _=>some false
 | none=>none
def zkv (P:Program) (t:TypeId) (cs:Array Value) (off:Nat):Option Value :=
 match zfp P t with
 | some true=>match sizeOf? P t with
  | some n=>some (.agg ((cs.toList.drop off).take n).toArray)
  | none=>none
 | some false=>cs.toList[off]?
 | none=>none
def eqFields (g:TypeId->Value->Value->Option Bool) (p:TypeId->Array Value->Nat->Option Value) (xs ys:Array Value):List Field->Option Bool
 | []=>some true
 | f :: r => if f.name = "_" then none else match p f.type xs f.offset, p f.type ys f.offset with
  | some x,some y=>match r with
   | []=>g f.type x y
   | _=>z05s (g f.type x y) (eqFields g p xs ys r)
  | _,_=>none
def eqV (P:Program):Nat->TypeId->Value->Value->Option Bool
 | 0,_,_,_=>none
 | d+1,t,x,y=>match P.underlying t,x,y with
  | some (.int _),.int k a,.int k' b=>if k=k' then some (a == b) else none
  | some .bool,.bool a,.bool b=>some (a == b)
  | some .string,.string a,.string b=>some (a == b)
  | some (.struct fs),.agg xs,.agg ys=>if P.stoodInHeld t then none else eqFields (eqV P d) (zkv P) xs ys fs.toList
  | _,_,_=>none
def zby (P:Program) (t:TypeId):Bool :=
 match P.underlying t with
 | some (.struct _)=>!P.eqGuardType P.depth t
 | _=>false
def zsc (P:Program) (t:TypeId) (e:Operand->Option Base) (x y:Operand):Option Bool :=
 match e x,e y with
 | some bx,some by_=>match bx.v,by_.v with
  | .agg xs,.agg ys=>eqV P 10000 t (.agg xs) (.agg ys)
  | _,_=>none
 | _,_=>none
def zij (e:Operand->Option Base):Option Operand->Option (Option Base)
 | none=>some none
 | some x=>match e x with
  | some b=>some (some b)
  | none=>none
def zt1 (P:Program) (e:Operand->Option Base) (o:Oper):Option PR :=
 match o.op with
 | .nilCheck x=>match e x with
  | some (.adr a)=>some (.pure (.adr a))
  | some (.val (.pointer p))=>some (.exA (λa=>p=some a) .adr)
  | _=>none
 | .fieldAddr s x f=>match zfs P s f,e x with
  | some off,some (.adr a)=>some (.pure (.adr (a.add off)))
  | some off,some (.val (.pointer p))=>some (.exA (λa=>p=some a) (λa=>.adr (a.add off)))
  | _,_=>none
 | .indexAddr t x ix=>match P.underlying t,e x,e ix with
  | some (.slice el),some (.val (.slice A l _)),some bi=>match sizeOf? P el,bi.v with
   | some size,.int _ i=>some (.exA (λa=>0<=i/\i<l/\A=some a) (λa=>.adr (a.add (i.toNat*size))))
   | _,_=>none
  | some (.array n el),some (.adr a),some bi=>match sizeOf? P el,bi.v with
   | some size,.int _ i=>some (.must (0<=i/\i<n) (.adr (a.add (i.toNat*size))))
   | _,_=>none
  | _,_,_=>none
 | .index t x ix=>match P.underlying t,e x,e ix with
  | some .string,some bx,some bi=>match bx.v,bi.v with
   | .string s,.int _ i=>some (.must (0<=i/\i<s.size) (.val (.int .u8 (bt s i))))
   | _,_=>none
  | _,_,_=>none
 | .slice t x lo hi mx=>match P.underlying t,e x,zij e lo,zij e hi,zij e mx with
  | some .string,some bx,some bl,some bh,some none=>match bx.v with
   | .string s=>zlk s bl bh
   | _=>none
  | some (.slice el),some (.val (.slice A len cap)),some bl,some bh,some bm=>match sizeOf? P el with
   | some size=>ze3 A len cap size bl bh bm
   | none=>none
  | some (.array n el),some (.adr a),some bl,some bh,some bm=>match sizeOf? P el with
   | some size=>ze3 (some a) n n size bl bh bm
   | none=>none
  | _,_,_,_,_=>none
 | .binOp op xT x y _=>match op with
  | .quo=>bif zbc y then none else match e x,e y with
   | some bx,some by_=>match bx.v,by_.v with
    | .int k a,.int k' b=>if k=k' then some (.must (b≠0) (.val (.int k (k.wrap (a.tdiv b))))) else none
    | _,_=>none
   | _,_=>none
  | .rem=>bif zbc y then none else match e x,e y with
   | some bx,some by_=>match bx.v,by_.v with
    | .int k a,.int k' b=>if k=k' then some (.must (b≠0) (.val (.int k (a.tmod b)))) else none
    | _,_=>none
   | _,_=>none
  | .shl=>bif zbc y then none else match e x,e y with
   | some bx,some by_=>match bx.v,by_.v with
    | .int k a,.int _ b=>some (.must (0<=b) (.val (.int k (k.wrap (a*2 ^ (min b.toNat k.bits))))))
    | _,_=>none
   | _,_=>none
  | .shr=>bif zbc y then none else match e x,e y with
   | some bx,some by_=>match bx.v,by_.v with
    | .int k a,.int _ b=>some (.must (0<=b) (.val (.int k (a.fdiv (2 ^ (min b.toNat k.bits))))))
    | _,_=>none
   | _,_=>none
  | .add=>bif z06h P xT then (match e x,e y with
   | some bx,some by_=>match bx.v,by_.v with
    | .string a,.string b=>some (.must (((a.size+b.size:Nat):Int)<=IntKind.i64.max) (.val (.string (a++b))))
    | _,_=>none
   | _,_=>none) else none
  | .eql=>bif zbx y then (match e x with
   | some b=>match z9q P xT b y with
    | some t=>some (.pure (.val (.bool t)))
    | none=>none
   | none=>none) else bif zby P xT then (match zsc P xT e x y with
    | some t=>some (.pure (.val (.bool t)))
    | none=>none) else none
  | .neq=>bif zbx y then (match e x with
   | some b=>match z9q P xT b y with
    | some t=>some (.pure (.val (.bool !t)))
    | none=>none
   | none=>none) else bif zby P xT then (match zsc P xT e x y with
    | some t=>some (.pure (.val (.bool !t)))
    | none=>none) else none
  | _=>none
 | _=>none
section
variable {P:Program}
@[simp] theorem addr_add_zero (a:Addr):a.add 0=a:=by simp [Addr.add]
theorem z0l {w:World} {k:IntKind} {i:Int} {y:Nat} {c:BoundsCode} (h0:0<=i) (h1:i<=y) :
  (Instr.sliceBound (.int k i) y c).run P w=.ok i.toNat w:=by
 simp [Instr.sliceBound,asIntOf,h0,h1]
theorem run_underlying' {t:TypeId} {d:TypeDesc} (h:P.underlying t=some d) (w:World):(underlying t).run P w=.ok d w:=by
 simp [underlying,h]
theorem run_sizeOf' {t:TypeId} {n:Nat} (h:sizeOf? P t=some n) (w:World):(sizeOf t).run P w=.ok n w:=by
 unfold sizeOf? at h
 cases hi:P.info? t with
 | none=>rw [hi] at h;cases h
 | some i=>rw [hi] at h;obtain rfl:=Option.some.inj h;simp [sizeOf,typeInfo,hi]
theorem zw8 {t:TypeId} (ht:P.underlying t=some .string) {s:ByteArray} {lo hi:Option Base} {r:PR} (h:zlk s lo hi=some r) :
  PR.Ok P (do pure (.value (<- Instr.sliceAt t (.string s) (lo.map Base.v) (hi.map Base.v) none))) r:=by
 unfold zlk at h
 split at h
 ·obtain rfl:=Option.some.inj h
  intro w
  simp [Instr.sliceAt,Instr.slice,Instr.sliceBounds,run_underlying' ht]
 ·rename_i bl
  split at h
  ·rename_i k l hv
   obtain rfl:=Option.some.inj h
   rintro ⟨h0,h1⟩ w
   simp [Instr.sliceAt,Instr.slice,Instr.sliceBounds,run_underlying' ht,hv,z0l h0 h1]
  ·cases h
 ·rename_i bh
  split at h
  ·rename_i k l hv
   obtain rfl:=Option.some.inj h
   rintro ⟨h0,h1⟩ w
   simp [Instr.sliceAt,Instr.slice,Instr.sliceBounds,run_underlying' ht,hv,z0l h0 h1]
  ·cases h
 ·rename_i bl bh
  split at h
  ·rename_i k l k' u hv hv'
   obtain rfl:=Option.some.inj h
   rintro ⟨h0,h1,h2⟩ w
   simp [Instr.sliceAt,Instr.slice,Instr.sliceBounds,run_underlying' ht,hv,hv',z0l (by omega:0<=u) h2,z0l (y:=u.toNat) h0 (by omega)]
  ·cases h
theorem zia (m:Nat) (A:Option Addr):(if m=0 then A else A.map (·.add 0))=A:=by
 split
 ·rfl
 ·cases A <;> simp
theorem zg2 {c:Prop} [Decidable c] (a b:Addr):(some (if c then a else b))=if c then some a else some b:=by split <;> rfl
theorem zyo {t el:TypeId} (ht:P.underlying t=some (.slice el)) {A:Option Addr} {len cap size:Nat} (hz:sizeOf? P el=some size) {lo hi mx:Option Base} {r:PR}
  (h:ze3 A len cap size lo hi mx=some r) :
  PR.Ok P (do pure (.value (<- Instr.sliceAt t (.slice A len cap) (lo.map Base.v) (hi.map Base.v) (mx.map Base.v)))) r:=by
 unfold ze3 at h
 split at h
 ·obtain rfl:=Option.some.inj h
  intro w
  simp [Instr.sliceAt,Instr.slice,Instr.sliceBounds,run_underlying' ht,run_sizeOf' hz,zia]
 ·split at h
  ·rename_i k l hv
   obtain rfl:=Option.some.inj h
   rintro ⟨h0,h1⟩ w
   simp [Instr.sliceAt,Instr.slice,Instr.sliceBounds,run_underlying' ht,run_sizeOf' hz,hv,z0l h0 h1,z0w]
  ·cases h
 ·split at h
  ·rename_i k l hv
   obtain rfl:=Option.some.inj h
   rintro ⟨h0,h1⟩ w
   simp [Instr.sliceAt,Instr.slice,Instr.sliceBounds,run_underlying' ht,run_sizeOf' hz,hv,z0l h0 h1,zia]
  ·cases h
 ·split at h
  ·rename_i k l k' u hv hv'
   obtain rfl:=Option.some.inj h
   rintro ⟨h0,h1,h2⟩ w
   simp [Instr.sliceAt,Instr.slice,Instr.sliceBounds,run_underlying' ht,run_sizeOf' hz,hv,hv',z0l (by omega:0<=u) h2,z0l (y:=u.toNat) h0 (by omega),z0w]
  ·cases h
 ·split at h
  ·rename_i k l k' u hv hv'
   obtain rfl:=Option.some.inj h
   rintro ⟨h0,h1,h2⟩ w
   simp [Instr.sliceAt,Instr.slice,Instr.sliceBounds,run_underlying' ht,run_sizeOf' hz,hv,hv',z0l (by omega:0<=u) h2,z0l (y:=u.toNat) h0 (by omega),zia]
  ·cases h
 ·split at h
  ·rename_i k l k' u k'' m hv hv' hv''
   obtain rfl:=Option.some.inj h
   rintro ⟨h0,h1,h2,h3⟩ w
   simp [Instr.sliceAt,Instr.slice,Instr.sliceBounds,run_underlying' ht,run_sizeOf' hz,hv,hv',hv'',z0l (by omega:0<=m) h3,z0l (y:=m.toNat) (by omega:0<=u) (by omega),
    z0l (y:=u.toNat) h0 (by omega),z0w]
  ·cases h
 ·cases h
theorem zw7 {t el:TypeId} {n:Nat} (ht:P.underlying t=some (.array n el)) {a:Addr} {size:Nat} (hz:sizeOf? P el=some size) {lo hi mx:Option Base} {r:PR}
  (h:ze3 (some a) n n size lo hi mx=some r) :
  PR.Ok P (do pure (.value (<- Instr.sliceAt t (.pointer (some a)) (lo.map Base.v) (hi.map Base.v) (mx.map Base.v)))) r:=by
 unfold ze3 at h
 split at h
 ·obtain rfl:=Option.some.inj h
  intro w
  simp [Instr.sliceAt,Instr.sureAddr,Instr.sliceBounds,run_underlying' ht,run_sizeOf' hz]
 ·split at h
  ·rename_i k l hv
   obtain rfl:=Option.some.inj h
   rintro ⟨h0,h1⟩ w
   simp [Instr.sliceAt,Instr.sureAddr,Instr.sliceBounds,run_underlying' ht,run_sizeOf' hz,hv,z0l h0 h1,z0w,zg2]
  ·cases h
 ·split at h
  ·rename_i k l hv
   obtain rfl:=Option.some.inj h
   rintro ⟨h0,h1⟩ w
   simp [Instr.sliceAt,Instr.sureAddr,Instr.sliceBounds,run_underlying' ht,run_sizeOf' hz,hv,z0l h0 h1]
  ·cases h
 ·split at h
  ·rename_i k l k' u hv hv'
   obtain rfl:=Option.some.inj h
   rintro ⟨h0,h1,h2⟩ w
   simp [Instr.sliceAt,Instr.sureAddr,Instr.sliceBounds,run_underlying' ht,run_sizeOf' hz,hv,hv',z0l (by omega:0<=u) h2,z0l (y:=u.toNat) h0 (by omega),z0w,zg2]
  ·cases h
 ·split at h
  ·rename_i k l k' u hv hv'
   obtain rfl:=Option.some.inj h
   rintro ⟨h0,h1,h2⟩ w
   simp [Instr.sliceAt,Instr.sureAddr,Instr.sliceBounds,run_underlying' ht,run_sizeOf' hz,hv,hv',z0l (by omega:0<=u) h2,z0l (y:=u.toNat) h0 (by omega)]
  ·cases h
 ·split at h
  ·rename_i k l k' u k'' m hv hv' hv''
   obtain rfl:=Option.some.inj h
   rintro ⟨h0,h1,h2,h3⟩ w
   simp [Instr.sliceAt,Instr.sureAddr,Instr.sliceBounds,run_underlying' ht,run_sizeOf' hz,hv,hv',hv'',z0l (by omega:0<=m) h3,z0l (y:=m.toNat) (by omega:0<=u) (by omega),
    z0l (y:=u.toNat) h0 (by omega),z0w,zg2]
  ·cases h
 ·cases h
theorem z6x {e:Operand->Option Base} {ρ : Operand->Value} (he:∀ x b,e x=some b -> ρ x=b.v) {x:Option Operand} {r:Option Base} (h:zij e x=some r) :
  x.map ρ = r.map Base.v:=by
 cases x with
 | none=>simp only [zij,Option.some.injEq] at h;subst h;rfl
 | some x =>
  simp only [zij] at h
  cases hx:e x with
  | none=>rw [hx] at h;cases h
  | some b=>rw [hx] at h;obtain rfl:=Option.some.inj h;simp [he x b hx]
theorem zff {s:TypeId} {f off:Nat} (h:zfs P s f=some off) (a:Addr) (w:World) :
  (Instr.fieldAt s (.pointer (some a)) f).run P w=.ok (.pointer (some (a.add off))) w:=by
 unfold zfs at h
 split at h
 ·rename_i fs hs
  split at h
  ·rename_i fd hf
   split at h
   ·rename_i i hi
    split at h
    ·cases h
    ·rename_i hz
     obtain rfl:=Option.some.inj h
     simp [Instr.fieldAt,run_underlying' hs,hf,Instr.sureAddr,fieldPlace,run_sizeOf' (by unfold sizeOf?;rw [hi]:sizeOf? P fd.type=some i.size),hz]
   ·cases h
  ·cases h
 ·cases h
theorem znj {t:TypeId} {b:Base} {y:Operand} {v:Bool} (h:z9q P t b y=some v) (d:Nat) (w:World) :
  ∀ c,y=.const c->(Op.equalIn (d+1) t b.v c).run P w=.ok v w:=by
 unfold z9q at h
 split at h <;> try (cases h;done)
 ·rename_i ht
  obtain rfl:=Option.some.inj h
  intro c hc;cases hc
  simp only [Op.equalIn,Sem.run_bind,run_underlying' ht,Result.andThen_ok]
  rfl
 ·rename_i q ht
  obtain rfl:=Option.some.inj h
  intro c hc;cases hc
  cases q <;> (simp only [Op.equalIn,Sem.run_bind,run_underlying' ht,Result.andThen_ok];rfl)
 ·rename_i el a _ _ _ _ ht
  obtain rfl:=Option.some.inj h
  intro c hc;cases hc
  cases a <;> (simp only [Op.equalIn,Sem.run_bind,run_underlying' ht,Result.andThen_ok];rfl)
 ·rename_i r ht
  obtain rfl:=Option.some.inj h
  intro c hc;cases hc
  cases r <;> (simp only [Op.equalIn,Sem.run_bind,run_underlying' ht,Result.andThen_ok];rfl)
theorem zfe {t:TypeId} {b:Base} {y:Operand} {v:Bool} (h:z9q P t b y=some v) {ρ : Operand->Value} (hy:∀ c,ρ (.const c)=c) (w:World) :
  (binOp .eql t b.v (ρ y)).run P w=.ok (.bool v) w/\(binOp .neq t b.v (ρ y)).run P w=.ok (.bool !v) w /\
  (∀ op x y',(eqGuard op t x y' b.v (ρ y)).run P w=.ok () w):=by
 have key:(Op.equal t b.v (ρ y)).run P w=.ok v w/\(binOp .eql t b.v (ρ y)=do pure (.bool (<- Op.equal t b.v (ρ y))))/\(binOp .neq t b.v (ρ y)=do pure (.bool (!(<- Op.equal t b.v (ρ y))))) /\
   (∀ op x y',(eqGuard op t x y' b.v (ρ y)).run P w=.ok () w):=by
  have hq:(Op.equal t b.v (ρ y)).run P w=.ok v w:=by
   have:=znj h 9999 w
   unfold z9q at h
   split at h <;> try (cases h;done)
   all_goals (rw [hy];exact this _ rfl)
  refine ⟨hq,?_,?_,λop x y'=>?_⟩
  all_goals
   clear hq
   unfold z9q at h
   split at h <;> try (cases h;done)
   all_goals
    clear h
    simp only [hy]
    first|rfl|(unfold eqGuard;split <;> rfl)
 obtain ⟨h1,h2,h3,h4⟩:=key
 exact ⟨by rw [h2];simp [h1],by rw [h3];simp [h1],h4⟩
theorem z8t {t:TypeId} {b:Bool} (h:zfp P t=some b) (w:World):(isAgg t).run P w=.ok b w:=by
 unfold zfp at h
 split at h
 ·rename_i ht;obtain rfl:=Option.some.inj h;simp [isAgg,run_underlying' ht]
 ·rename_i ht;obtain rfl:=Option.some.inj h;simp [isAgg,run_underlying' ht]
 ·rename_i d h1 h2 ht
  obtain rfl:=Option.some.inj h
  simp only [isAgg,Sem.run_bind,run_underlying' ht,Result.andThen_ok]
  cases d <;> first|rfl|exact (h1 _ rfl).elim|exact (h2 _ _ rfl).elim
 ·cases h
theorem zmy {t:TypeId} {cs:Array Value} {off:Nat} {v:Value} (h:zkv P t cs off=some v) (w:World):(part t cs off).run P w=.ok v w:=by
 unfold zkv at h
 unfold part
 split at h
 ·rename_i ha
  split at h
  ·rename_i n hz
   obtain rfl:=Option.some.inj h
   simp only [Sem.run_bind,z8t ha,Result.andThen_ok,if_true,run_sizeOf' hz,Sem.run_pure]
   congr 2
   apply Array.ext'
   simp [List.take_drop,Nat.add_comm]
  ·cases h
 ·rename_i ha
  have hv:cs[off]? = some v:=by simpa using h
  simp only [Sem.run_bind,z8t ha,Result.andThen_ok,Bool.false_eq_true,if_false,hv,Sem.run_pure]
 ·cases h
theorem zev {g:TypeId->Value->Value->Option Bool} {d:Nat} (hg:∀ {t x y b},g t x y=some b->∀ w,(Op.equalIn d t x y).run P w=.ok b w) (xs ys:Array Value) :
  ∀ {l:List Field} {b:Bool},eqFields g (zkv P) xs ys l=some b->∀ w,(Op.eqFields d xs ys l).run P w=.ok b w
 | [],b,h,w=>by simp only [eqFields,Option.some.injEq] at h;subst h;simp [Op.eqFields]
 | f::r,b,h,w=>by
  simp only [eqFields] at h
  split at h
  ·cases h
  ·rename_i hf
   split at h
   ·rename_i x y hx hy
    have key:∀ b1,g f.type x y=some b1->(Op.eqFields d xs ys (f::r)).run P w=if b1 then (Op.eqFields d xs ys r).run P w else .ok false w:=λb1 hb=>by
     simp only [Op.eqFields,Sem.run_ite,Sem.run_bind,zmy hx,zmy hy,hg hb,Result.andThen_ok]
     rw [if_pos hf]
     cases b1 <;> simp
    split at h
    ·rename_i hr
     rw [key b h]
     cases b <;> simp [Op.eqFields]
    ·unfold z05s at h
     split at h
     ·rename_i b1 b2 h1 h2
      obtain rfl:=Option.some.inj h
      rw [key b1 h1,zev hg xs ys h2 w]
      cases b1 <;> simp
     ·cases h
   ·cases h
theorem znk {t:TypeId} {fs:Array Field} (h:P.underlying t=some (.struct fs)):P.fieldsOf t=fs:=by
 simp [Program.fieldsOf,h]
theorem zlo:∀ (d:Nat) {t:TypeId} {x y:Value} {b:Bool},eqV P d t x y=some b->∀ w,(Op.equalIn d t x y).run P w=.ok b w
 | 0,t,x,y,b,h,w=>by simp [eqV] at h
 | d+1,t,x,y,b,h,w=>by
  simp only [eqV] at h
  split at h
  ·rename_i ht
   split at h
   ·rename_i hk
    subst hk
    obtain rfl:=Option.some.inj h
    simp [Op.equalIn,run_underlying' ht]
   ·cases h
  ·rename_i ht
   obtain rfl:=Option.some.inj h
   simp [Op.equalIn,run_underlying' ht]
  ·rename_i ht
   obtain rfl:=Option.some.inj h
   simp [Op.equalIn,run_underlying' ht]
  ·rename_i fs xs ys ht
   split at h
   ·cases h
   ·rename_i hs
    have hf:=znk ht
    rw [run_equalIn_struct w d t xs ys (by rw [hf];exact ht) (by simpa using hs),hf]
    exact zev (zlo d) xs ys h w
  ·cases h
theorem zqd {e:Operand->Option Base} {ρ : Operand->Value} (he:∀ x b,e x=some b -> ρ x=b.v) {t:TypeId} (hs:zby P t=true) {x y:Operand} {b:Bool}
  (h:zsc P t e x y=some b) (w:World):∃ xs ys,ρ x=.agg xs /\ ρ y=.agg ys/\(Op.equalIn 10000 t (.agg xs) (.agg ys)).run P w=.ok b w/\P.eqGuardType P.depth t=false:=by
 unfold zsc at h
 split at h
 ·rename_i bx by_ hx hy
  split at h
  ·rename_i xs ys hvx hvy
   refine ⟨xs,ys,by rw [he _ _ hx,hvx],by rw [he _ _ hy,hvy],zlo 10000 h w,?_⟩
   unfold zby at hs
   split at hs
   ·simpa using hs
   ·cases hs
  ·cases h
 ·cases h
theorem zzw {e:Operand->Option Base} {ρ : Operand->Value} (he:∀ x b,e x=some b -> ρ x=b.v) (hc:∀ c,ρ (.const c)=c) {o:Oper} {r:PR}
  (h:zt1 P e o=some r):PR.Ok P (execOp ρ o) r:=by
 obtain ⟨dst,op,type,pos,after,guard⟩:=o
 unfold zt1 at h
 dsimp only at h
 split at h
 ·
  rename_i x
  split at h
  ·rename_i a ha
   obtain rfl:=Option.some.inj h
   intro w
   simp [execOp,he x _ ha]
  ·rename_i p hp
   obtain rfl:=Option.some.inj h
   rintro a rfl w
   simp [execOp,he x _ hp]
  ·cases h
 ·
  rename_i s x f
  split at h
  ·rename_i off a hf ha
   obtain rfl:=Option.some.inj h
   intro w
   simp [execOp,he x _ ha,zff hf]
  ·rename_i off p hf hp
   obtain rfl:=Option.some.inj h
   rintro a rfl w
   simp [execOp,he x _ hp,zff hf]
  ·cases h
 ·
  rename_i t x ix
  split at h
  ·rename_i el A l c bi ht hx hi
   split at h
   ·rename_i size k i hz hv
    obtain rfl:=Option.some.inj h
    rintro a ⟨h0,h1,rfl⟩ w
    simp [execOp,he x _ hx,he ix _ hi,hv,Instr.indexAt,asIntOf,run_underlying' ht,run_sizeOf' hz,h0,h1]
   ·cases h
  ·rename_i n el a bi ht hx hi
   split at h
   ·rename_i size k i hz hv
    obtain rfl:=Option.some.inj h
    rintro ⟨h0,h1⟩ w
    simp [execOp,he x _ hx,he ix _ hi,hv,Instr.indexAt,Instr.sureAddr,asIntOf,run_underlying' ht,run_sizeOf' hz,h0,h1]
   ·cases h
  ·cases h
 ·
  rename_i t x ix
  split at h
  ·rename_i bx bi ht hx hi
   split at h
   ·rename_i s k i hv hv'
    obtain rfl:=Option.some.inj h
    rintro ⟨h0,h1⟩ w
    have hlt:i.toNat<s.size:=by omega
    have hb:s[i.toNat]? = some s[i.toNat]:=getElem?_pos s i.toNat hlt
    have hbt:bt s i=(s[i.toNat].toNat:Int):=by
     unfold bt
     have:s.data.toList.getD i.toNat 0=s[i.toNat]:=by
      simp [List.getD,ByteArray.getElem_eq_getElem_data,ByteArray.size_data,hlt]
     rw [this]
    simp only [execOp,he x _ hx,he ix _ hi,hv,hv',Instr.index,asIntOf,Sem.run_bind,Sem.run_pure,Result.andThen_ok,run_underlying' ht,h0,if_true,hb,hbt]
   ·cases h
  ·cases h
 ·
  rename_i t x lo hi mx
  split at h
  ·rename_i bx bl bh ht hx hl hh hm
   split at h
   ·rename_i s hv
    have:=zw8 (P:=P) ht h
    have e1:=z6x he hl;have e2:=z6x he hh;have e3:=z6x he hm
    simp only [execOp,he x _ hx,hv,e1,e2,e3]
    exact this
   ·cases h
  ·rename_i el A len cap bl bh bm ht hx hl hh hm
   split at h
   ·rename_i size hz
    have:=zyo (P:=P) ht hz h
    have e1:=z6x he hl;have e2:=z6x he hh;have e3:=z6x he hm
    simp only [execOp,he x _ hx,e1,e2,e3]
    exact this
   ·cases h
  ·rename_i n el a bl bh bm ht hx hl hh hm
   split at h
   ·rename_i size hz
    have:=zw7 (P:=P) ht hz h
    have e1:=z6x he hl;have e2:=z6x he hh;have e3:=z6x he hm
    simp only [execOp,he x _ hx,e1,e2,e3]
    exact this
   ·cases h
  ·cases h
 ·
  rename_i bop xT x y yT
  split at h
  ·
   simp only [cond_eq_ite] at h
   split at h
   ·cases h
   ·split at h
    ·rename_i bx by_ hx hy
     split at h
     ·rename_i k a k' b hv hv'
      split at h
      ·rename_i hk
       subst hk
       obtain rfl:=Option.some.inj h
       intro hb w
       simp [execOp,eqGuard,he x _ hx,he y _ hy,hv,hv',binOp,Op.intDiv,hb]
      ·cases h
     ·cases h
    ·cases h
  ·simp only [cond_eq_ite] at h
   split at h
   ·cases h
   ·split at h
    ·rename_i bx by_ hx hy
     split at h
     ·rename_i k a k' b hv hv'
      split at h
      ·rename_i hk
       subst hk
       obtain rfl:=Option.some.inj h
       intro hb w
       simp [execOp,eqGuard,he x _ hx,he y _ hy,hv,hv',binOp,Op.intDiv,hb]
      ·cases h
     ·cases h
    ·cases h
  ·simp only [cond_eq_ite] at h
   split at h
   ·cases h
   ·split at h
    ·rename_i bx by_ hx hy
     split at h
     ·rename_i k a k' b hv hv'
      obtain rfl:=Option.some.inj h
      intro hb w
      have:¬ b<0:=by omega
      simp [execOp,eqGuard,he x _ hx,he y _ hy,hv,hv',binOp,Op.shift,this]
     ·cases h
    ·cases h
  ·simp only [cond_eq_ite] at h
   split at h
   ·cases h
   ·split at h
    ·rename_i bx by_ hx hy
     split at h
     ·rename_i k a k' b hv hv'
      obtain rfl:=Option.some.inj h
      intro hb w
      have:¬ b<0:=by omega
      simp [execOp,eqGuard,he x _ hx,he y _ hy,hv,hv',binOp,Op.shift,this]
     ·cases h
    ·cases h
  ·simp only [cond_eq_ite] at h
   split at h
   ·split at h
    ·rename_i bx by_ hx hy
     split at h
     ·rename_i a b hv hv'
      obtain rfl:=Option.some.inj h
      intro hb w
      have:¬ ((a.size+b.size:Nat):Int)>IntKind.i64.max:=by omega
      simp only [execOp,eqGuard,he x _ hx,he y _ hy,hv,hv',binOp,Op.stringOp,if_neg this]
      rfl
     ·cases h
    ·cases h
   ·cases h
  ·simp only [cond_eq_ite] at h
   split at h
   ·split at h
    ·rename_i b hx
     split at h
     ·rename_i v hv
      obtain rfl:=Option.some.inj h
      intro w
      obtain ⟨h1,h2,h3⟩:=zfe hv hc w
      simp [execOp,he x _ hx,h1,h3]
     ·cases h
    ·cases h
   ·split at h
    ·rename_i hst
     split at h
     ·rename_i t ht
      obtain rfl:=Option.some.inj h
      intro w
      obtain ⟨xs,ys,hx,hy,hq,hgd⟩:=zqd he hst ht w
      simp only [execOp,hx,hy,Sem.run_bind,run_eqGuard_agg (hm:=hgd),Result.andThen_ok,run_eql_struct,hq,Sem.run_pure]
     ·cases h
    ·cases h
  ·simp only [cond_eq_ite] at h
   split at h
   ·split at h
    ·rename_i b hx
     split at h
     ·rename_i v hv
      obtain rfl:=Option.some.inj h
      intro w
      obtain ⟨h1,h2,h3⟩:=zfe hv hc w
      simp [execOp,he x _ hx,h2,h3]
     ·cases h
    ·cases h
   ·split at h
    ·rename_i hst
     split at h
     ·rename_i t ht
      obtain rfl:=Option.some.inj h
      intro w
      obtain ⟨xs,ys,hx,hy,hq,hgd⟩:=zqd he hst ht w
      simp only [execOp,hx,hy,Sem.run_bind,run_eqGuard_agg (hm:=hgd),Result.andThen_ok,run_neq_struct,hq,Sem.run_pure]
     ·cases h
    ·cases h
  ·cases h
 ·cases h
end
def z05w:Option (List Pr)->Option (List Pr)->Option (List Pr)
 | some x,some y=>some (x++y)
 | _,_=>none
def zlq (f:TypeId->Option (List Pr)):List Field->Option (List Pr)
 | []=>some []
 | x::r=>z05w (f x.type) (zlq f r)
def z01d (x:Option (List Pr)):Nat->Option (List Pr)
 | 0=>some []
 | n+1=>z05w x (z01d x n)
def zls (P:Program):Nat->TypeId->Option (List Pr)
 | 0,_=>none
 | d+1,t=>match P.underlying t with
  | some (.int k)=>some [.int k]
  | some .bool=>some [.bool]
  | some .string=>some [.str]
  | some (.pointer _)=>some [.ptr]
  | some (.slice _)=>some [.slc]
  | some (.map _ _)=>some [.map]
  | some (.struct fs)=>zlq (zls P d) fs.toList
  | some (.array n e)=>z01d (zls P d e) n
  | some _=>some [.any]
  | none=>none
def sh1 (P:Program) (t:TypeId):Option Sh1 :=
 match P.underlying t,zls P 20 t with
 | some (.struct _),some l=>some (.agg l)
 | some (.array _ _),some l=>some (.agg l)
 | some _,some [p]=>some (.one p)
 | _,_=>none
def z075 (P:Program):List TypeId->Option (List Sh1)
 | []=>some []
 | t::r=>match sh1 P t,z075 P r with
  | some s,some l=>some (s::l)
  | _,_=>none
def z0am (P:Program) (t:TypeId):Option Sh :=
 match P.underlying t with
 | some (.tuple ts)=>match z075 P ts.toList with
  | some l=>some (.tup l)
  | none=>none
 | _=>match sh1 P t with
  | some s=>some (.one s)
  | none=>none
def z05t (P:Program) (t:TypeId):Bool :=
 match P.underlying t with
 | some (.func _ _ _)|some (.interface _)|some (.chan _ _)|some .unsafePointer=>true
 | _=>false
def mkB (P:Program) (t:TypeId) (v:Value):Base:=bif z05t P t then .any v else .val v
theorem zsw (P:Program) (t:TypeId) (v:Value):(mkB P t v).v=v:=by unfold mkB;cases z05t P t <;> rfl
@[reducible] def z8u:(s:Sh)->HL s.prims->Base
 | .one (.one .adr),x=>.adr x.1
 | .one (.one .any),x=>.any x.1
 | .one (.one (.int k)),x=>.val (.int k x.1)
 | .one (.one .bool),x=>.val (.bool x.1)
 | .one (.one .str),x=>.val (.string x.1)
 | .one (.one .ptr),x=>.val (.pointer x.1)
 | .one (.one .slc),x=>.val (.slice x.1.a x.1.len x.1.cap)
 | .one (.one .map),x=>.val (.map x.1)
 | .one (.agg ps),x=>.val ((Sh.one (.agg ps)).mk x)
 | .tup l,x=>.val ((Sh.tup l).mk x)
theorem z9x (s:Sh) (x:HL s.prims):(z8u s x).v=s.mk x:=by
 cases s with
 | one s=>cases s with
  | one p=>cases p <;> rfl
  | agg ps=>rfl
 | tup l=>rfl
inductive Cls where
 | p|r|w|u|c|nx
def cls (P:Program) (o:Oper):Cls :=
 match o.op with
 | .move _ | .assign _ | .pick _ _ _ | .build _ _ | .nilCheck _ | .unOp _ _ _ | .makeInterface _ _ | .makeFunc _ _ _ | .slice _ _ _ _ _ | .fieldAddr _ _ _ | .field _ _ _ | .indexAddr _ _ _ | .extract _ _=>.p
 | .index t _ ix=>match P.underlying t with
  | some .string=>.p
  | _=>bif zbc ix then .p else .r
 | .binOp op t _ y _=>match op with
  | .eql | .neq=>match P.underlying t with
   | some .bool|some (.int _)|some .string|some (.struct _)=>.p
   | some (.pointer _)|some (.slice _)|some (.map _ _)=>bif zbx y then .p else .r
   | _=>.r
  | _=>.p
 | .convert s d _=>match P.underlying s,P.underlying d with
  | some (.int _),some (.int _)=>.p
  | some .string,some .string=>.p
  | some (.slice _),some .string=>.r
  | _,_=>.w
 | .load _ _ | .lookup _ _ _ _=>.r
 | .store _ _ _ | .mapUpdate _ _ _ _ | .insert _ _ _ _ | .entryStore _ _ _ _=>.u
 | .next _ _=>.nx
 | .call c=>match c.callee with
  | .value _=>.c
  | .builtin .len=>match (c.argTypes[0]?).bind P.underlying with
   | some (.map _ _)=>.r
   | _=>.p
  | .builtin .cap | .builtin .min | .builtin .max=>.p
  | _=>.w
 | _=>.w
def zdg {α β:Type} (f:α->β) (a:Array α):Array β:=(a.toList.map f).toArray
theorem zqu {α β:Type} (f:α->β) (a:Array α):zdg f a=a.map f:=by cases a;simp [zdg]
def zkr (ρ : Operand->Value) (o:Oper):Option (Sem Value) :=
 match o.op with
 | .load t a=>some (Instr.loadAt t (ρ a))
 | .lookup t m k ok=>some (Instr.lookup t (ρ m) (ρ k) ok)
 | .entry it=>some (Instr.entry (ρ it))
 | .index t x ix=>some (Instr.index t (ρ x) (ρ ix))
 | .binOp op t x y _=>some (do eqGuard op t x y (ρ x) (ρ y);binOp op t (ρ x) (ρ y))
 | .convert s d x=>some (convert s d (ρ x))
 | .alloc e=>some (Instr.alloc e true (.tuple #[]))
 | .box e x=>some (Instr.box e (ρ x))
 | .buildSlice t n ps=>some (Instr.buildSlice t n (zdg (λp=>(p.1,ρ p.2)) ps))
 | .makeMap t r=>some (Instr.makeMap t (r.map ρ))
 | .makeSlice t l c=>some (Instr.makeSlice t (ρ l) (ρ c))
 | .range t x=>some (Instr.range t (ρ x))
 | .mapEntry t m k=>some (Instr.mapEntry t (ρ m) (ρ k))
 | .typeAssert x t u ok=>some (Instr.typeAssert (ρ x) t u ok)
 | .call c=>match c.callee with
  | .builtin .append=>some (Builtin.append_ c.argTypes o.type (zdg ρ c.args))
  | .builtin .copy=>some (Builtin.copy_ c.argTypes o.type (zdg ρ c.args))
  | .builtin .delete=>some (Builtin.delete_ c.argTypes o.type (zdg ρ c.args))
  | .builtin .clear=>some (Builtin.clear_ c.argTypes o.type (zdg ρ c.args))
  | .builtin .len=>some (Builtin.len_ c.argTypes o.type (zdg ρ c.args))
  | _=>none
 | _=>none
def zl4 (ρ : Operand->Value) (o:Oper):Option (Sem Unit) :=
 match o.op with
 | .store t a x=>some (Instr.storeAt t (ρ a) (ρ x))
 | .mapUpdate t m k x=>some (Instr.mapUpdate t (ρ m) (ρ k) (ρ x))
 | .insert t m k x=>some (Instr.mapUpdate t (ρ m) (ρ k) (ρ x))
 | .entryStore t m s x=>some (Instr.entryStore t (ρ m) (ρ s) (ρ x))
 | _=>none
def ztb (P:Program) (o:Oper):Option Sh :=
 match o.op with
 | .alloc _ | .box _ _ | .range _ _=>some (.one (.one .adr))
 | .call { callee:=.builtin .delete,.. } | .call { callee:=.builtin .clear,.. }=>some (.tup [])
 | _=>z0am P o.type
theorem zl3 {ρ : Operand->Value} {o:Oper} {m:Sem Value} (h:zkr ρ o=some m):execOp ρ o=(do pure (.value (<- m))):=by
 obtain ⟨dst,op,type,pos,after,guard⟩:=o
 unfold zkr at h
 cases op <;> dsimp only at h <;> (try (cases h;done)) <;> (try (obtain rfl:=Option.some.inj h;simp only [execOp,zqu];done))
 case call c =>
  obtain ⟨callee,args,types⟩:=c
  cases callee with
  | value f=>cases h
  | invoke r m=>cases h
  | builtin b =>
   cases b <;> dsimp only at h <;> (try (cases h;done)) <;>
    (obtain rfl:=Option.some.inj h;simp only [execOp,resolve,invoke,builtin,zqu];rfl)
theorem zvv {ρ : Operand->Value} {o:Oper} {m:Sem Unit} (h:zl4 ρ o=some m):execOp ρ o=(do m;pure .skip):=by
 obtain ⟨dst,op,type,pos,after,guard⟩:=o
 unfold zl4 at h
 cases op <;> dsimp only at h <;> (try (cases h;done)) <;> (obtain rfl:=Option.some.inj h;rfl)
inductive GS where
 | on|off|sym (s:Nat) (w:Bool)
def zd8 (ops:Array Oper) (env:Env) (ov:Ov) (o:Oper):GS :=
 match o.guard with
 | none=>.on
 | some (j,want)=>match (ops[j]?).bind (·.dst) with
  | none=>.off
  | some s=>match ov.get env s with
   | some ⟨.lit v,none⟩=>match v with
    | .bool b=>bif b == want then .on else .off
    | _=>.off
   | _=>.sym s want
def zh2 (env:Env) (ov:Ov):Nat->Nat->Bool->Option Prop
 | 0,_,_=>none
 | d+1,s,w=>match ov.get env s with
  | some ⟨.val (.bool b),none⟩=>some (b=w)
  | some ⟨.val (.bool b),some (t,u)⟩=>match zh2 env ov d t u with
   | some G=>some (G/\b=w)
   | none=>none
  | _=>none
def zkw (ov:Ov) (d:Nat):Bool:=ov.all λx=>match x.2.g with
 | some (s,_)=>!Nat.beq s d
 | none=>true
def zqy:Option (Nat × Bool)->Nat->Bool
 | none,_=>true
 | some (t,_),d=>!Nat.beq t d
def fin (n:Nat) (ov:Ov) (o:Oper) (g:Option (Nat × Bool)) (b:Base) (k:Ov->Prog):Prog :=
 match o.dst with
 | none=>k ov
 | some d=>bif Nat.ble (d+1) n && zkw ov d && zqy g d then k ((d,⟨b,g⟩)::ov) else .fail 1
def z09n (G:Option Prop) (r:PR) (f:Base->Prog):Prog :=
 match r,G with
 | .pure b,_=>f b
 | .must c b,none=>.must c (f b)
 | .must c b,some G=>.must (G->c) (f b)
 | .exA c b,none=>.ex [.adr] (λx=>c x.1) (λx=>f (b x.1))
 | .exA c b,some G=>.ex [.adr] (λx=>G->c x.1) (λx=>f (b x.1))
def z011 (P:Program) (o:Oper) (b:Base) (f:Base->Prog):Prog :=
 match P.underlying o.type,b with
 | some (.int _),.val (.int k n)=>.lt (.int k) n λx=>f (.val (.int k x))
 | some .bool,.val (.bool n)=>.lt .bool n λx=>f (.val (.bool x))
 | some .string,.val (.string n)=>.lt .str n λx=>f (.val (.string x))
 | _,_=>f b
def zi9:Operand->Bool
 | .const (.bool true)=>true
 | _=>false
def zg1:Operand->Bool
 | .const (.bool false)=>true
 | _=>false
def okG (g:Option (Nat × Bool)):Option (Nat × Bool)->Bool
 | none=>true
 | some (t,u)=>zed g t u
def zt3 (env:Env) (ov:Ov) (g:Option (Nat × Bool)) (c x y:Operand):Option Base :=
 match c with
 | .tmp s=>match ov.get env s with
  | some ⟨.lit (.bool b),none⟩=>match b with
   | true=>opE env ov g x
   | false=>opE env ov g y
  | some ⟨.val (.bool b),g'⟩ =>
   bif okG g g' then
    (bif zi9 x then (match opE env ov (some (s,false)) y with
     | some (.val (.bool z))=>some (.val (.bool (b || z)))
     | some (.lit (.bool z))=>some (.val (.bool (b || z)))
     | _=>none)
    else bif zg1 y then (match opE env ov (some (s,true)) x with
     | some (.val (.bool z))=>some (.val (.bool (b && z)))
     | some (.lit (.bool z))=>some (.val (.bool (b && z)))
     | _=>none)
    else none)
   else none
  | _=>none
 | _=>none
def z06i:Nat->Bool
 | 0=>true
 | _=>false
def zkx (P:Program) (n:Nat) (env:Env) (ov:Ov) (o:Oper) (g:Option (Nat × Bool)) (G:Option Prop) (k:Ov->Prog):Prog :=
 match o.op with
 | .pick c x y=>match zt3 env ov g c x y with
  | some b=>fin n ov o g b k
  | none=>.fail 2
 | .move x=>match opE env ov g x with
  | some b=>fin n ov o g b k
  | none=>.fail 3
 | .assign x=>match opE env ov g x with
  | some b=>match g with
   | none=>z011 P o b λb=>fin n ov o g b k
   | some _=>fin n ov o g b k
  | none=>.fail 3
 | .extract t ix=>match opE env ov g t with
  | some b=>match z9e P (Instr.extract b.v ix) with
   | some v=>fin n ov o g (match b with | .lit _=>bif z06i ix then .lit v else mkB P o.type v|_=>mkB P o.type v) k
   | none=>.fail 4
  | none=>.fail 3
 | _=>match zt1 P (opE env ov g) o with
  | some r=>z09n G r λb=>fin n ov o g b k
  | none=>bif ze5 env ov g o && zha o.op then (match z9e P (execOp (opV env ov g) o) with
   | some (.value v)=>fin n ov o g (mkB P o.type v) k
   | _=>.fail 5) else .fail 6
def zky (P:Program) (n:Nat) (dr:Bool) (env:Env) (ov:Ov) (o:Oper) (g:Option (Nat × Bool)) (G:Option Prop) (k:Ov->Prog):Prog :=
 match zkr (opV env ov g) o,ztb P o with
 | some m,some s=>bif ze5 env ov g o && zha o.op then
   (match dr with
   | true=>.hold (G.getD True) m s λx=>fin n ov o g (z8u s x) k
   | false=>.read (G.getD True) m s λx=>fin n ov o g (z8u s x) k)
  else .fail 7
 | _,_=>.fail 8
def zem (n:Nat) (ov:Ov) (o:Oper) (k:Ov->Prog):Prog:=fin n ov o none (.lit undef) k
def isP:Cls->Bool
 | .p=>true
 | _=>false
def z9m:Cls->Bool
 | .p | .r=>true
 | _=>false
def zen (P:Program) (n:Nat) (dr:Bool) (ops:Array Oper) (env:Env) (ov:Ov) (o:Oper) (k:Ov->Prog):Prog :=
 match zd8 ops env ov o with
 | .off=>zem n ov o k
 | .on=>match cls P o with
  | .p=>zkx P n env ov o none none k
  | .r=>zky P n dr env ov o none none k
  | _=>.fail 9
 | .sym s w=>match zh2 env ov 6 s w with
  | some G=>match cls P o with
   | .p=>zkx P n env ov o (some (s,w)) (some G) k
   | .r=>zky P n dr env ov o (some (s,w)) (some G) k
   | _=>.fail 9
  | none=>.fail 10
section
variable {P:Program} {n:Nat} {env:Env} {ov:Ov} {a:Act} {o:Oper} {ops:Array Oper}
theorem zt6 {ov:Ov} {d:Nat} (h:zkw ov d=true) {env:Env} {s:Nat} {e:Ent} {t:Nat} {u:Bool} (hg:ov.get env s=some e) (he:e.g=some (t,u)):t≠d:=by
 induction ov with
 | nil =>
  simp only [Ov.get] at hg
  split at hg
  ·obtain rfl:=Option.some.inj hg;cases he
  ·cases hg
 | cons x r ih =>
  obtain ⟨s',e'⟩:=x
  simp only [zkw,List.all_cons,Bool.and_eq_true] at h
  simp only [Ov.get,cond_eq_ite] at hg
  split at hg
  ·obtain rfl:=Option.some.inj hg
   have h1:=h.1
   rw [he] at h1
   simp only [Bool.not_eq_true'] at h1
   exact Nat.ne_of_beq_eq_false h1
  ·exact ih h.2 hg
theorem Agree.put {d:Nat} {v:Value} {b:Base} {g:Option (Nat × Bool)} (ha:Agree n env ov a) (hd:d<n) (hp:zkw ov d=true)
  (hv:match g with
   | none=>v=b.v
   | some (t,u)=>t≠d/\(a.tmps[t]? = some (.bool u)->v=b.v)/\(¬ a.tmps[t]? = some (.bool u)->v=undef)) :
  Agree n env ((d,⟨b,g⟩)::ov) (a.put (some d) v):=by
 have hsz:d<a.tmps.size:=by rw [ha.size];exact hd
 have hself:(a.tmps.setIfInBounds d v)[d]? = some v:=by simp [hsz]
 have hother:∀ t,t≠d->(a.tmps.setIfInBounds d v)[t]? = a.tmps[t]? := λt ht=>by
  rw [Array.getElem?_setIfInBounds_ne (Ne.symm ht)]
 refine ⟨by simp [Act.put,ha.size],ha.defers,λs e he=>?_⟩
 simp only [Ov.get,cond_eq_ite] at he
 split at he
 ·rename_i hds
  have hds:=Nat.eq_of_beq_eq_true hds
  subst hds
  obtain rfl:=Option.some.inj he
  unfold Ent.Ok
  dsimp only
  cases g with
  | none=>dsimp only at hv ⊢;subst hv;exact hself
  | some x =>
   obtain ⟨t,u⟩:=x
   dsimp only at hv ⊢
   obtain ⟨hne,h1,h2⟩:=hv
   simp only [Act.put]
   rw [hother t hne,hself]
   exact ⟨λh=>by rw [h1 h],λh=>by rw [h2 h]⟩
 ·rename_i hds
  have hds:s≠d:=λh=>hds (by subst h;exact Nat.beq_refl s)
  have hok:=ha.slots s e he
  unfold Ent.Ok at hok ⊢
  cases hg:e.g with
  | none=>rw [hg] at hok;dsimp only at hok ⊢;simp only [Act.put];rw [hother s hds];exact hok
  | some x =>
   obtain ⟨t,u⟩:=x
   have ht:=zt6 hp he hg
   rw [hg] at hok
   dsimp only at hok ⊢
   simp only [Act.put]
   rw [hother s hds,hother t ht]
   exact hok
def z9a (P:Program) (n:Nat) (ops:Array Oper) (env:Env) (o:Oper) (a:Act) (w:World) (p dr:Bool) (S:World->Prop) (k:Ov->Prog) (Q:Post):Prop :=
 ∃ v ov' S',Agree n env ov' (a.put o.dst v)/\(p=true->YieldsIf P ops (λ_=>True) o v a/\S'=S)/\(dr=true->YieldsIf P ops S' o v a)/\YieldsIf P ops (· = w) o v a/\S' w/\(∀ w',S' w'->S w')/\(dr=false->S'=S)/\(k ov').wp P S' w Q
def GOk (P:Program) (ops:Array Oper) (o:Oper) (a:Act):Option (Nat × Bool)->Prop
 | none=>Region.wanted o (yielded ops a.tmps)=true
 | some (t,u)=>Region.wanted o (yielded ops a.tmps)=true↔a.tmps[t]? = some (.bool u)
theorem zd2 {p dr:Bool} {g:Option (Nat × Bool)} {b:Base} {k:Ov->Prog} {S S':World->Prop} {w:World} {Q:Post} (ha:Agree n env ov a)
  (hg:GOk P ops o a g) (hy:∀ w',(p=true\/dr=true/\S' w'\/w'=w)->Region.wanted o (yielded ops a.tmps)=true->(execOp a.eval o).run P w'=.ok (.value b.v) w')
  (hS:S' w) (hSS:∀ w',S' w'->S w') (hp:p=true->S'=S) (hd:dr=false->S'=S) (h:(fin n ov o g b k).wp P S' w Q):z9a P n ops env o a w p dr S k Q:=by
 let v:Value:=if Region.wanted o (yielded ops a.tmps)=true then b.v else undef
 have hyi:∀ Y:World->Prop,(∀ w',Y w'->p=true\/dr=true/\S' w'\/w'=w)->YieldsIf P ops Y o v a:=λY hY=>by
  by_cases hw:Region.wanted o (yielded ops a.tmps)=true
  ·exact .inl ⟨hw,λw' hw'=>by rw [show v=b.v from if_pos hw];exact hy w' (hY w' hw') hw⟩
  ·exact .inr ⟨by simpa using hw,if_neg hw⟩
 unfold fin at h
 cases hdst:o.dst with
 | none =>
  rw [hdst] at h
  exact ⟨v,ov,S',by rw [hdst];exact ha,λhpp=>⟨hyi _ λw' _=>.inl hpp,hp hpp⟩,λhdr=>hyi S' λw' hw'=>.inr (.inl ⟨hdr,hw'⟩),hyi _ λw' hw'=>.inr (.inr hw'),hS,hSS,hd,h⟩
 | some d =>
  rw [hdst] at h
  simp only [cond_eq_ite] at h
  split at h
  ·rename_i hc
   simp only [Bool.and_eq_true] at hc
   have hlt:d<n:=Nat.le_of_ble_eq_true hc.1.1
   refine ⟨v,_,S',?_,λhpp=>⟨hyi _ λw' _=>.inl hpp,hp hpp⟩,λhdr=>hyi S' λw' hw'=>.inr (.inl ⟨hdr,hw'⟩),hyi _ λw' hw'=>.inr (.inr hw'),hS,hSS,hd,h⟩
   rw [hdst]
   refine Agree.put ha hlt hc.1.2 ?_
   cases g with
   | none=>exact if_pos hg
   | some x =>
    obtain ⟨t,u⟩:=x
    have hne:t≠d:=by
     have:=hc.2
     simp only [zqy,Bool.not_eq_true'] at this
     exact Nat.ne_of_beq_eq_false this
    exact ⟨hne,λh=>if_pos (hg.2 h),λh=>if_neg λh'=>h (hg.1 h')⟩
  ·exact h.elim
theorem z5k {g:Option (Nat × Bool)} (hg:GOk P ops o a g) (hw:Region.wanted o (yielded ops a.tmps)=true):zcr a g:=by
 cases g with
 | none=>trivial
 | some x=>obtain ⟨t,u⟩:=x;exact hg.1 hw
theorem zfx:∀ (d:Nat) {s:Nat} {w:Bool} {G:Prop},Agree n env ov a->zh2 env ov d s w=some G->a.tmps[s]? = some (.bool w)->G
 | 0,_,_,_,_,h,_=>by simp [zh2] at h
 | d+1,s,w,G,ha,h,hs=>by
  simp only [zh2] at h
  split at h
  ·rename_i b hb
   obtain rfl:=Option.some.inj h
   have:=ha.slots _ _ hb
   simp only [Ent.Ok,Base.v] at this
   rw [hs] at this
   simpa using this.symm
  ·rename_i b t u hb
   split at h
   ·rename_i G' hG'
    obtain rfl:=Option.some.inj h
    have:=ha.slots _ _ hb
    simp only [Ent.Ok,Base.v] at this
    by_cases ht:a.tmps[t]? = some (.bool u)
    ·refine ⟨zfx d ha hG' ht,?_⟩
     have h1:=this.1 ht
     rw [hs] at h1
     simpa using h1.symm
    ·have h1:=this.2 ht
     rw [hs] at h1
     simp [undef] at h1
   ·cases h
  ·cases h
theorem zt4 {G:Option Prop} {r:PR} {f:Base->Prog} {m:Sem Next} {S:World->Prop} {w:World} {Q:Post} {W:Prop} (hr:W->PR.Ok P m r)
  (hG:W->match G with|none=>True|some G=>G) (h:(z09n G r f).wp P S w Q) :
  ∃ b,(W->∀ w',m.run P w'=.ok (.value b.v) w')/\(f b).wp P S w Q:=by
 cases r with
 | pure b=>exact ⟨b,hr,by cases G <;> exact h⟩
 | must c b =>
  cases G with
  | none=>exact ⟨b,λhw=>hr hw h.1,h.2⟩
  | some G=>exact ⟨b,λhw=>hr hw (h.1 (hG hw)),h.2⟩
 | exA c b =>
  cases G with
  | none=>obtain ⟨x,hc,h⟩:=h;exact ⟨b x.1,λhw=>hr hw x.1 hc,h⟩
  | some G=>obtain ⟨x,hc,h⟩:=h;exact ⟨b x.1,λhw=>hr hw x.1 (hc (hG hw)),h⟩
theorem zno {b:Base} {f:Base->Prog} {S:World->Prop} {w:World} {Q:Post} (h:(z011 P o b f).wp P S w Q):(f b).wp P S w Q:=by
 unfold z011 at h
 split at h <;> exact h
theorem zso {x:Operand} (h:zi9 x=true):x=.const (.bool true):=by
 unfold zi9 at h;split at h
 ·rfl
 ·cases h
theorem znl {x:Operand} (h:zg1 x=true):x=.const (.bool false):=by
 unfold zg1 at h;split at h
 ·rfl
 ·cases h
theorem zj8 {s:Nat} {v:Value} (h:a.tmps[s]? = some v):a.eval (.tmp s)=v:=by simp [Act.eval,h]
theorem zzx {g:Option (Nat × Bool)} {c x y:Operand} {b:Base} (ha:Agree n env ov a) (hg:zcr a g) (h:zt3 env ov g c x y=some b)
  {dst:Option Tmp} {type:TypeId} {pos:String} {after:Array Edge} {guard:Option (Nat × Bool)} (w:World) :
  (execOp a.eval { dst,op:=.pick c x y,type,pos,after,guard }).run P w=.ok (.value b.v) w:=by
 unfold zt3 at h
 split at h
 ·rename_i s
  split at h
  ·rename_i t hs
   have h1:=zj8 (ha.slots _ _ hs)
   simp only [Base.v] at h1
   cases t with
   | true=>simp [execOp,h1,asBool,z3r ha hg h]
   | false=>simp [execOp,h1,asBool,z3r ha hg h]
  ·rename_i t g' hs
   simp only [cond_eq_ite] at h
   split at h
   ·rename_i hg'
    have h1:a.tmps[s]? = some (.bool t):=by
     have:=ha.slots _ _ hs
     unfold Ent.Ok at this
     cases g' with
     | none=>exact this
     | some x=>obtain ⟨t',u'⟩:=x;have e:=zmz hg';subst e;exact this.1 hg
    have h2:=zj8 h1
    split at h
    ·rename_i hx
     have hx:=zso hx
     subst hx
     split at h <;> first|cases h;done|skip
     all_goals
      rename_i z hz
      obtain rfl:=Option.some.inj h
      cases t with
      | true=>simp [execOp,h2,asBool,show a.eval (.const (.bool true))=.bool true from rfl]
      | false=>simp [execOp,h2,asBool,z3r (g:=some (s,false)) ha h1 hz]
    ·split at h
     ·rename_i hy
      have hy:=znl hy
      subst hy
      split at h <;> first|cases h;done|skip
      all_goals
       rename_i z hz
       obtain rfl:=Option.some.inj h
       cases t with
       | false=>simp [execOp,h2,asBool,show a.eval (.const (.bool false))=.bool false from rfl]
       | true=>simp [execOp,h2,asBool,z3r (g:=some (s,true)) ha h1 hz]
     ·cases h
   ·cases h
  ·cases h
 ·cases h
theorem zfj {p dr:Bool} {g:Option (Nat × Bool)} {G:Option Prop} {k:Ov->Prog} {S:World->Prop} {w:World} {Q:Post} (ha:Agree n env ov a)
  (hg:GOk P ops o a g) (hG:Region.wanted o (yielded ops a.tmps)=true->match G with|none=>True|some G=>G)
  (hS:S w) (h:(zkx P n env ov o g G k).wp P S w Q):z9a P n ops env o a w p dr S k Q:=by
 have close:∀ b,(Region.wanted o (yielded ops a.tmps)=true->∀ w',(execOp a.eval o).run P w'=.ok (.value b.v) w')->(fin n ov o g b k).wp P S w Q->z9a P n ops env o a w p dr S k Q :=
  λb hb h=>zd2 (S':=S) ha hg (λw' _ hw=>hb hw w') hS (λ_ h=>h) (λ_=>rfl) (λ_=>rfl) h
 obtain ⟨dst,op,type,pos,after,guard⟩:=o
 unfold zkx at h
 dsimp only at h
 split at h
 ·split at h
  ·rename_i b hb
   exact close b (λhw w'=>zzx ha (z5k hg hw) hb w') h
  ·exact h.elim
 ·split at h
  ·rename_i b hb
   exact close b (λhw w'=>by simp [execOp,z3r ha (z5k hg hw) hb]) h
  ·exact h.elim
 ·split at h
  ·rename_i b hb
   split at h
   ·exact close b (λhw w'=>by simp [execOp,z3r ha (z5k hg hw) hb]) (zno h)
   ·exact close b (λhw w'=>by simp [execOp,z3r ha (z5k hg hw) hb]) h
  ·exact h.elim
 ·split at h
  ·rename_i b hb
   split at h
   ·rename_i v hv
    refine close _ (λhw w'=>?_) h
    have:=zhg hv w'
    simp only [execOp,z3r ha (z5k hg hw) hb,Sem.run_bind,this,Result.andThen_ok,Sem.run_pure]
    congr 2
    split
    ·rw [cond_eq_ite];split
     ·rfl
     ·rw [zsw]
    ·rw [zsw]
   ·exact h.elim
  ·exact h.elim
 ·split at h
  ·rename_i r hr
   obtain ⟨b,hb,h'⟩:=zt4 (W:=Region.wanted _ (yielded ops a.tmps)=true)
    (λhw=>zzw (ρ := a.eval) (λx b hx=>z3r ha (z5k hg hw) hx) (λ_=>rfl) hr) hG h
   exact close b hb h'
  ·simp only [cond_eq_ite] at h
   split at h
   ·rename_i hk
    simp only [Bool.and_eq_true] at hk
    split at h
    ·rename_i v hv
     refine close _ (λhw w'=>?_) h
     rw [z7r ha (z5k hg hw) hk.1 hk.2,zhg hv w',zsw]
    ·exact h.elim
   ·exact h.elim
theorem zfk {dr:Bool} {g:Option (Nat × Bool)} {G:Option Prop} {k:Ov->Prog} {S:World->Prop} {w:World} {Q:Post} (ha:Agree n env ov a)
  (hg:GOk P ops o a g) (hG:Region.wanted o (yielded ops a.tmps)=true->match G with|none=>True|some G=>G)
  (hS:S w) (h:(zky P n dr env ov o g G k).wp P S w Q):z9a P n ops env o a w false dr S k Q:=by
 have hGd:Region.wanted o (yielded ops a.tmps)=true->G.getD True:=λhw=>by
  have:=hG hw
  cases G <;> exact this
 unfold zky at h
 split at h
 ·rename_i m s hm hs
  simp only [cond_eq_ite] at h
  split at h
  ·rename_i hk
   simp only [Bool.and_eq_true] at hk
   have hrun:∀ (x:HL s.prims) (w':World),m.run P w'=.ok (s.mk x) w'->Region.wanted o (yielded ops a.tmps)=true->(execOp a.eval o).run P w'=.ok (.value (z8u s x).v) w':=λx w' hx hw=>by
    rw [z7r ha (z5k hg hw) hk.1 hk.2,zl3 hm]
    simp [hx,z9x]
   cases dr with
   | true =>
    obtain ⟨x,hx,h⟩:=h
    refine zd2 (S':=λw'=>S w'/\(G.getD True->m.run P w'=.ok (s.mk x) w')) ha hg ?_ ⟨hS,hx⟩ (λ_ h=>h.1) (λh=>by cases h) (λh=>by cases h) h
    rintro w' (h|⟨_,hw'⟩|rfl) hw
    ·cases h
    ·exact hrun x w' (hw'.2 (hGd hw)) hw
    ·exact hrun x w' (hx (hGd hw)) hw
   | false =>
    obtain ⟨x,hx,h⟩:=h
    refine zd2 (S':=S) ha hg ?_ hS (λ_ h=>h) (λ_=>rfl) (λ_=>rfl) h
    rintro w' (h|⟨h,_⟩|rfl) hw
    ·cases h
    ·cases h
    ·exact hrun x w' (hx (hGd hw)) hw
  ·exact h.elim
 ·exact h.elim
theorem ztm {j d:Nat} (hd:(ops[j]?).bind (·.dst)=some d) (u:Bool):(yielded ops a.tmps j == some u)=true↔a.tmps[d]? = some (.bool u):=by
 unfold yielded
 rw [hd]
 simp only [Option.bind_some]
 cases hv:a.tmps[d]? with
 | none=>simp
 | some v=>cases v <;> simp
theorem zd9 (ha:Agree n env ov a) :
  match zd8 ops env ov o with
  | .on=>Region.wanted o (yielded ops a.tmps)=true
  | .off=>Region.wanted o (yielded ops a.tmps)=false
  | .sym s w=>Region.wanted o (yielded ops a.tmps)=true↔a.tmps[s]? = some (.bool w):=by
 unfold zd8 Region.wanted
 cases hgu:o.guard with
 | none=>rfl
 | some x =>
  obtain ⟨j,want⟩:=x
  dsimp only
  cases hd:(ops[j]?).bind (·.dst) with
  | none=>dsimp only;unfold yielded;rw [hd];rfl
  | some d =>
   dsimp only
   have hy:=ztm (a:=a) hd want
   split
   ·rename_i heq
    split at heq
    ·rename_i v hv
     split at heq
     ·rename_i b
      simp only [cond_eq_ite] at heq
      split at heq
      ·rename_i hb
       have:=ha.slots _ _ hv
       simp only [Ent.Ok,Base.v] at this
       rw [hy,this]
       have:=eq_of_beq hb
       rw [this]
      ·cases heq
     ·cases heq
    ·cases heq
   ·rename_i heq
    rw [<- Bool.not_eq_true,hy]
    split at heq
    ·rename_i v hv
     have:=ha.slots _ _ hv
     simp only [Ent.Ok,Base.v] at this
     rw [this]
     split at heq
     ·rename_i b
      simp only [cond_eq_ite] at heq
      split at heq
      ·cases heq
      ·rename_i hb
       intro h
       simp only [Option.some.injEq,Value.bool.injEq] at h
       exact hb (by simp [h])
     ·rename_i hv'
      intro h
      simp only [Option.some.injEq] at h
      exact hv' _ h
    ·cases heq
   ·rename_i heq
    split at heq
    ·split at heq
     ·simp only [cond_eq_ite] at heq
      split at heq <;> cases heq
     ·cases heq
    ·obtain ⟨rfl,rfl⟩:=GS.sym.inj heq
     exact hy
theorem zn2 {p dr:Bool} {k:Ov->Prog} {S:World->Prop} {w:World} {Q:Post} (ha:Agree n env ov a)
  (hoff:Region.wanted o (yielded ops a.tmps)=false) (hS:S w) (h:(zem n ov o k).wp P S w Q):z9a P n ops env o a w p dr S k Q:=by
 have hyi:∀ Y:World->Prop,YieldsIf P ops Y o undef a:=λY=>.inr ⟨hoff,rfl⟩
 unfold zem fin at h
 cases hdst:o.dst with
 | none=>rw [hdst] at h;exact ⟨undef,ov,S,by rw [hdst];exact ha,λ_=>⟨hyi _,rfl⟩,λ_=>hyi _,hyi _,hS,λ_ h=>h,λ_=>rfl,h⟩
 | some d =>
  rw [hdst] at h
  simp only [cond_eq_ite] at h
  split at h
  ·rename_i hc
   simp only [Bool.and_eq_true] at hc
   exact ⟨undef,_,S,by rw [hdst];exact Agree.put ha (Nat.le_of_ble_eq_true hc.1.1) hc.1.2 rfl,λ_=>⟨hyi _,rfl⟩,λ_=>hyi _,hyi _,hS,λ_ h=>h,λ_=>rfl,h⟩
  ·exact h.elim
theorem z80 {dr:Bool} {k:Ov->Prog} {S:World->Prop} {w:World} {Q:Post} (ha:Agree n env ov a)
  (hS:S w) (h:(zen P n dr ops env ov o k).wp P S w Q):z9a P n ops env o a w (isP (cls P o)) dr S k Q:=by
 have hgs:=zd9 (o:=o) (ops:=ops) ha
 unfold zen at h
 split at h
 ·rename_i hg;rw [hg] at hgs;exact zn2 ha hgs hS h
 ·rename_i hg
  rw [hg] at hgs
  split at h
  ·exact zfj (g:=none) (G:=none) ha hgs (λ_=>trivial) hS h
  ·rename_i hc;rw [hc];exact zfk (g:=none) (G:=none) ha hgs (λ_=>trivial) hS h
  ·exact h.elim
 ·rename_i s u hg
  rw [hg] at hgs
  split at h
  ·rename_i G hG
   split at h
   ·exact zfj (g:=some (s,u)) (G:=some G) ha hgs (λhw=>zfx 6 ha hG (hgs.1 hw)) hS h
   ·rename_i hc;rw [hc];exact zfk (g:=some (s,u)) (G:=some G) ha hgs (λhw=>zfx 6 ha hG (hgs.1 hw)) hS h
   ·exact h.elim
  ·exact h.elim
end
structure Fs where
 l:List FuncId
 nx:List (Nat × List Sh1)
def zq4 (s:Nat) (v:Bool) (t:Nat) (e:Ent):Ent :=
 bif Nat.beq t s then ⟨.lit (.bool v),none⟩
 else match e.g with
  | none=>e
  | some (s',w)=>bif Nat.beq s' s then ⟨bif w == v then e.b else .lit undef,none⟩ else e
def assume:Ov->Nat->Bool->Ov
 | [],_,_=>[]
 | (t,e)::r,s,v=>(t,zq4 s v t e)::assume r s v
def resolve (env:Env):Nat->Ov->Nat->(Ov->Prog)->Prog
 | 0,_,_,_=>.fail 11
 | d+1,ov,s,k=>match ov.get env s with
  | some ⟨.lit _,none⟩=>k ov
  | some ⟨.val (.bool b),none⟩=>.ite b (k (assume ov s true)) (k (assume ov s false))
  | some ⟨.val (.bool _),some (t,_)⟩=>resolve env d ov t λov'=>match ov'.get env s with
   | some ⟨.lit _,none⟩=>k ov'
   | some ⟨.val (.bool b),none⟩=>.ite b (k (assume ov' s true)) (k (assume ov' s false))
   | _=>.fail 12
  | _=>.fail 13
def zgw (env:Env) (ov:Ov):List Operand->Option (List Value)
 | []=>some []
 | x::r=>match opE env ov none x,zgw env ov r with
  | some b,some l=>some (b.v::l)
  | _,_=>none
def zi2 (f:FuncId) (args:Array Value):Sem Value:=do
 match (<- callFunc f args) with
 | .value v=>pure v
 | _ => stuck "a function with a body"
def z08e (P:Program) (n:Nat) (fs:Fs) (env:Env) (ov:Ov) (o:Oper) (c:Call) (k:Ov->Prog):Prog :=
 match c.callee with
 | .value f=>match opE env ov none f,zgw env ov c.args.toList,ztb P o with
  | some (.val (.func (.func i) first cap)),some args,some s =>
   bif fs.l.any (Nat.beq i) then .call i (first.toList++args++cap.toList) s λx=>fin n ov o none (z8u s x) k else .act (zi2 i (first++args.toArray++cap)) s λx=>fin n ov o none (z8u s x) k
  | some (.any fv),some args,some s=>.callv fv args s λx=>fin n ov o none (z8u s x) k
  | _,_,_=>.fail 15
 | _=>.fail 16
def zsz:List (Nat × List Sh1)->Option Nat->Option (List Sh1)
 | (t,x)::r,some s=>bif Nat.beq t s then some x else zsz r (some s)
 | _,_=>none
def z0a0 (P:Program) (fs:Fs) (o:Oper):Option Sh :=
 match o.op with
 | .entry _=>(zsz fs.nx o.dst).map Sh.tup
 | _=>ztb P o
def zud (P:Program) (n:Nat) (fs:Fs) (env:Env) (ov:Ov) (o:Oper) (k:Ov->Prog):Prog :=
 match cls P o with
 | .c=>match o.op with
  | .call c=>z08e P n fs env ov o c k
  | _=>.fail 17
 | .u=>match zl4 (opV env ov none) o with
  | some m=>bif ze5 env ov none o && zha o.op then .actU m (fin n ov o none (.lit undef) k) else .fail 18
  | none=>.fail 19
 | .nx=>match o.op,zsz fs.nx o.dst with
  | .next it isS,some ss=>bif ze5 env ov none o then
    .next (Instr.next (opV env ov none it) isS o.type) ss
     (λx=>fin n ov o none (.lit (.tuple (.bool true::z1b ss x).toArray)) k)
     (fin n ov o none (.lit (.tuple #[.bool false])) k)
   else .fail 20
  | _,_=>.fail 21
 | _=>match zkr (opV env ov none) o,z0a0 P fs o with
  | some m,some s=>bif ze5 env ov none o && zha o.op then .act m s λx=>fin n ov o none (z8u s x) k else .fail 22
  | _,_=>.fail 23
def zdz (P:Program) (n:Nat) (fs:Fs) (ops:Array Oper) (env:Env) (ov:Ov) (o:Oper) (k:Ov->Prog):Prog :=
 match zd8 ops env ov o with
 | .on=>zud P n fs env ov o k
 | .off=>zem n ov o k
 | .sym s _=>resolve env 6 ov s λov'=>match zd8 ops env ov' o with
  | .on=>zud P n fs env ov' o k
  | .off=>zem n ov' o k
  | .sym _ _=>.fail 24
def z4n (P:Program) (f:FuncId):Bool:=match P.funcs[f]? with
 | some fn => fn.body.isSome && fn.name != "runtime.NumGoroutine"
 | none=>false
section
variable {P:Program} {n:Nat} {fs:Fs} {env:Env} {ov:Ov} {a:Act} {o:Oper} {ops:Array Oper}
theorem zba {s:Nat} {v:Bool}:∀ {ov:Ov} {t:Nat} {e:Ent},(assume ov s v).get env t=some e ->
  (ov.get env t=some e)\/(t=s/\e=⟨.lit (.bool v),none⟩) \/
  (∃ e₀ w,ov.get env t=some e₀/\e₀.g=some (s,w)/\e=⟨bif w == v then e₀.b else .lit undef,none⟩)
 | [],t,e,h=>.inl h
 | (t',e')::r,t,e,h=>by
  simp only [assume,Ov.get] at h ⊢
  cases htt:Nat.beq t' t with
  | false=>rw [htt] at h;exact zba h
  | true =>
   rw [htt] at h
   simp only [cond_true,Option.some.injEq] at h ⊢
   subst h
   unfold zq4
   cases hts:Nat.beq t' s with
   | true=>exact .inr (.inl ⟨by rw [<- Nat.eq_of_beq_eq_true htt,Nat.eq_of_beq_eq_true hts],rfl⟩)
   | false =>
    cases hg:e'.g with
    | none=>exact .inl rfl
    | some x =>
     obtain ⟨s',w⟩:=x
     cases hss:Nat.beq s' s with
     | false=>simp [hss]
     | true =>
      have:=Nat.eq_of_beq_eq_true hss
      subst this
      simp only [hss,cond_true,cond_false]
      exact .inr (.inr ⟨e',w,rfl,hg,rfl⟩)
theorem Agree.assume {s:Nat} {v:Bool} (ha:Agree n env ov a) (hs:a.tmps[s]? = some (.bool v)):Agree n env (Dec.assume ov s v) a:=by
 refine ⟨ha.size,ha.defers,λt e he=>?_⟩
 rcases zba he with h|⟨rfl,rfl⟩|⟨e₀,w,h0,hg,rfl⟩
 ·exact ha.slots _ _ h
 ·exact hs
 ·have h1:=ha.slots _ _ h0
  unfold Ent.Ok at h1
  rw [hg] at h1
  unfold Ent.Ok
  dsimp only
  by_cases hw:w=v
  ·subst hw
   simp only [beq_self_eq_true,cond_true]
   exact h1.1 hs
  ·have:(w == v)=false:=by simpa using hw
   simp only [this,cond_false]
   refine h1.2 λh=>hw ?_
   rw [hs] at h
   simpa using h.symm
theorem zfa {s:Nat} {b:Bool} {k:Ov->Prog} {S:World->Prop} {w:World} {Q:Post} (ha:Agree n env ov a) (hs:a.tmps[s]? = some (.bool b))
  (h:(Prog.ite b (k (assume ov s true)) (k (assume ov s false))).wp P S w Q):∃ ov',Agree n env ov' a/\(k ov').wp P S w Q:=by
 cases b with
 | true=>exact ⟨_,ha.assume hs,h.1 rfl⟩
 | false=>exact ⟨_,ha.assume hs,h.2 rfl⟩
theorem zcl:∀ (d:Nat) {ov:Ov} {s:Nat} {k:Ov->Prog} {S:World->Prop} {w:World} {Q:Post},Agree n env ov a ->
  (resolve env d ov s k).wp P S w Q->∃ ov',Agree n env ov' a/\(k ov').wp P S w Q
 | 0,ov,s,k,S,w,Q,ha,h=>h.elim
 | d+1,ov,s,k,S,w,Q,ha,h=>by
  simp only [resolve] at h
  split at h
  ·exact ⟨ov,ha,h⟩
  ·rename_i b hb
   exact zfa ha (ha.slots _ _ hb) h
  ·obtain ⟨ov',ha',h'⟩:=zcl d ha h
   split at h'
   ·exact ⟨ov',ha',h'⟩
   ·rename_i b hb
    exact zfa ha' (ha'.slots _ _ hb) h'
   ·exact h'.elim
  ·exact h.elim
def zrz (P:Program) (n:Nat) (ops:Array Oper) (env:Env) (i:Nat) (a:Act) (w:World) (S:World->Prop) (k:Ov->Prog) (Q:Post) (QX:Exit->Act->World->Prop):Prop :=
 ∀ K:Act->World->Prop,(∀ ov' a' w',Agree n env ov' a'->S w'->(k ov').wp P S w' Q->K a' w')->wpOp P ops QX i K a w
theorem z5l {b:Base} {k:Ov->Prog} {S:World->Prop} {w:World} {Q:Post} (ha:Agree n env ov a) (h:(fin n ov o none b k).wp P S w Q) :
  ∃ ov',Agree n env ov' (a.put o.dst b.v)/\(k ov').wp P S w Q:=by
 unfold fin at h
 cases hdst:o.dst with
 | none=>rw [hdst] at h;exact ⟨ov,ha,h⟩
 | some d =>
  rw [hdst] at h
  simp only [cond_eq_ite] at h
  split at h
  ·rename_i hc
   simp only [Bool.and_eq_true] at hc
   exact ⟨_,Agree.put ha (Nat.le_of_ble_eq_true hc.1.1) hc.1.2 rfl,h⟩
  ·exact h.elim
theorem zbp (ha:Agree n env ov a):∀ {l:List Operand} {vs:List Value},zgw env ov l=some vs->l.map a.eval=vs
 | [],vs,h=>by simp only [zgw,Option.some.injEq] at h;subst h;rfl
 | x::r,vs,h=>by
  simp only [zgw] at h
  split at h
  ·rename_i b l hb hl
   obtain rfl:=Option.some.inj h
   rw [List.map_cons,z3r (g:=none) ha trivial hb,zbp ha hl]
  ·cases h
theorem zmx {f:FuncId} (hf:z4n P f=true) (args:Array Value) (w:World):(callFunc f args).run P w=.ok (.enter f args) w:=by
 unfold z4n at hf
 split at hf
 ·rename_i fn hfn
  simp only [Bool.and_eq_true] at hf
  have h1 : (fn.name == "runtime.NumGoroutine") = false := by
   have:=hf.2;simpa using this
  have h2:fn.body.isNone=false:=by
   have:=hf.1
   cases hb:fn.body <;> simp_all
  simp only [callFunc,Sem.run_bind,run_program,Result.andThen_ok,hfn,h1,h2,Bool.false_eq_true,if_false,Sem.run_pure]
 ·cases hf
theorem zmw {c:Call} {f:FuncId} {first cap:Array Value} {x:Operand} {ρ : Operand->Value} (hc:c.callee=.value x) (hx : ρ x=.func (.func f) first cap) (hf:z4n P f=true)
  {dst:Option Tmp} {type:TypeId} {pos:String} {after:Array Edge} {guard:Option (Nat × Bool)} (w:World) :
  (execOp ρ { dst,op:=.call c,type,pos,after,guard }).run P w=.ok (.enter f (first++c.args.map ρ ++ cap)) w:=by
 simp only [execOp,Go.resolve,hc,Deferred.ofValue,hx,Sem.run_bind,Sem.run_pure,Result.andThen_ok,Go.invoke,zmx hf]
theorem z03z {f:FuncId} {args:Array Value} {w w':World} {v:Value} (h:(zi2 f args).run P w=.ok v w'):(callFunc f args).run P w=.ok (.value v) w':=by
 unfold zi2 at h
 simp only [Sem.run_bind] at h
 cases hc:(callFunc f args).run P w with
 | ok r w2 =>
  rw [hc] at h
  simp only [Result.andThen_ok] at h
  cases r with
  | value v2 =>
   simp only [Sem.run_pure] at h
   obtain ⟨rfl,rfl⟩:v2=v/\w2=w':=by cases h;exact ⟨rfl,rfl⟩
   rfl
  | _=>cases h
 | _=>rw [hc] at h;cases h
theorem zxh {c:Call} {f:FuncId} {first cap:Array Value} {x:Operand} {ρ : Operand->Value} (hc:c.callee=.value x) (hx : ρ x=.func (.func f) first cap)
  {dst:Option Tmp} {type:TypeId} {pos:String} {after:Array Edge} {guard:Option (Nat × Bool)} (w:World) :
  (execOp ρ { dst,op:=.call c,type,pos,after,guard }).run P w=(callFunc f (first++c.args.map ρ ++ cap)).run P w:=by
 simp only [execOp,Go.resolve,hc,Deferred.ofValue,hx,Sem.run_bind,Sem.run_pure,Result.andThen_ok,Go.invoke]
theorem zj7 {i:Nat} {k:Ov->Prog} {S:World->Prop} {w:World} {Q:Post} {QX:Exit->Act->World->Prop} (hfs:∀ f ∈ fs.l,z4n P f=true) (hi:ops[i]? = some o)
  (ha:Agree n env ov a) (hw:Region.wanted o (yielded ops a.tmps)=true) (h:(zud P n fs env ov o k).wp P S w Q):zrz P n ops env i a w S k Q QX:=by
 intro K hK
 unfold wpOp
 simp only [hi,hw,if_true]
 refine .inl ?_
 unfold Oper.wp
 obtain ⟨dst,op,type,pos,after,guard⟩:=o
 unfold zud at h
 split at h
 ·
  split at h
  ·rename_i c hop
   dsimp only at hop
   subst hop
   unfold z08e at h
   split at h
   ·rename_i f hc
    split at h
    ·rename_i fi first cap args s hf hargs hs
     simp only [cond_eq_ite] at h
     split at h
     ·rename_i hm
      have hmem:fi ∈ fs.l:=by
       obtain ⟨y,hy,hy'⟩:=List.any_eq_true.1 hm
       rw [Nat.eq_of_beq_eq_true hy'];exact hy
      have hx:=z3r (g:=none) ha trivial hf
      rw [zmw hc hx (hfs _ hmem) w,Oper.upon_enter]
      have hargs':first++c.args.map a.eval++cap=(first.toList++args++cap.toList).toArray:=by
       rw [<- zbp ha hargs];apply Array.ext';simp
      rw [hargs']
      refine Calls.mono h λe w' ⟨x,he,hS,h'⟩=>?_
      subst he
      obtain ⟨ov',ha',h''⟩:=z5l ha h'
      rw [z9x] at ha'
      exact hK _ _ _ ha' hS h''
     ·obtain ⟨x,w',hrun,hS,h'⟩:=h
      have hx:=z3r (g:=none) ha trivial hf
      have hargs':first++c.args.map a.eval++cap=first++args.toArray++cap:=by
       rw [<- zbp ha hargs];congr 2;apply Array.ext';simp
      rw [zxh hc hx w,hargs',z03z hrun,Oper.upon_value]
      obtain ⟨ov',ha',h''⟩:=z5l ha h'
      rw [z9x] at ha'
      exact hK _ _ _ ha' hS h''
    ·rename_i fv args s hf hargs hs
     obtain ⟨fi,first,cap,hfv,hok,h⟩:=h
     have hx:=z3r (g:=none) ha trivial hf
     simp only [Base.v,hfv] at hx
     have hok':z4n P fi=true:=by
      unfold z4n
      cases hq:P.funcs[fi]? with
      | none=>rw [hq] at hok;cases hok
      | some fn=>rw [hq] at hok;simpa using hok
     rw [zmw hc hx hok' w,Oper.upon_enter]
     have hargs':first++c.args.map a.eval++cap=first++args.toArray++cap:=by
      rw [<- zbp ha hargs];congr 2;apply Array.ext';simp
     rw [hargs']
     refine Calls.mono h λe w' ⟨x,he,hS,h'⟩=>?_
     subst he
     obtain ⟨ov',ha',h''⟩:=z5l ha h'
     rw [z9x] at ha'
     exact hK _ _ _ ha' hS h''
    ·exact h.elim
   ·exact h.elim
  ·exact h.elim
 ·
  split at h
  ·rename_i m hm
   simp only [cond_eq_ite] at h
   split at h
   ·rename_i hk
    simp only [Bool.and_eq_true] at hk
    obtain ⟨w',hrun,hS,h'⟩:=h
    rw [z7r (g:=none) ha trivial hk.1 hk.2,zvv hm]
    simp only [Sem.run_bind,hrun,Result.andThen_ok,Sem.run_pure,Oper.upon_skip]
    obtain ⟨ov',ha',h''⟩:=z5l ha h'
    exact hK _ _ _ ha' hS h''
   ·exact h.elim
  ·exact h.elim
 ·
  split at h
  ·rename_i it isS ss hop hss
   dsimp only at hop
   subst hop
   simp only [cond_eq_ite] at h
   split at h
   ·rename_i hk
    rw [z7r (g:=none) ha trivial hk rfl]
    rcases h with ⟨x,w',hrun,hS,h'⟩|⟨w',hrun,hS,h'⟩
    ·simp only [execOp,Sem.run_bind,hrun,Result.andThen_ok,Sem.run_pure,Oper.upon_value]
     obtain ⟨ov',ha',h''⟩:=z5l ha h'
     exact hK _ _ _ ha' hS h''
    ·simp only [execOp,Sem.run_bind,hrun,Result.andThen_ok,Sem.run_pure,Oper.upon_value]
     obtain ⟨ov',ha',h''⟩:=z5l ha h'
     exact hK _ _ _ ha' hS h''
   ·exact h.elim
  ·exact h.elim
 ·split at h
  ·rename_i m s hm hs
   simp only [cond_eq_ite] at h
   split at h
   ·rename_i hk
    simp only [Bool.and_eq_true] at hk
    obtain ⟨x,w',hrun,hS,h'⟩:=h
    rw [z7r (g:=none) ha trivial hk.1 hk.2,zl3 hm]
    simp only [Sem.run_bind,hrun,Result.andThen_ok,Sem.run_pure,Oper.upon_value]
    obtain ⟨ov',ha',h''⟩:=z5l ha h'
    rw [z9x] at ha'
    exact hK _ _ _ ha' hS h''
   ·exact h.elim
  ·exact h.elim
theorem zfg {i:Nat} {k:Ov->Prog} {S:World->Prop} {w:World} {Q:Post} {QX:Exit->Act->World->Prop} (hi:ops[i]? = some o) (hS:S w)
  (ha:Agree n env ov a) (hw:Region.wanted o (yielded ops a.tmps)=false) (h:(zem n ov o k).wp P S w Q):zrz P n ops env i a w S k Q QX:=by
 intro K hK
 unfold wpOp
 simp only [hi,hw]
 obtain ⟨ov',ha',h''⟩:=z5l ha h
 exact hK _ _ _ ha' hS h''
theorem zjw {i:Nat} {k:Ov->Prog} {S:World->Prop} {w:World} {Q:Post} {QX:Exit->Act->World->Prop} (hfs:∀ f ∈ fs.l,z4n P f=true) (hi:ops[i]? = some o) (hS:S w)
  (ha:Agree n env ov a) (h:(zdz P n fs ops env ov o k).wp P S w Q):zrz P n ops env i a w S k Q QX:=by
 have hgs:=zd9 (o:=o) (ops:=ops) ha
 unfold zdz at h
 split at h
 ·rename_i hg;rw [hg] at hgs;exact zj7 hfs hi ha hgs h
 ·rename_i hg;rw [hg] at hgs;exact zfg hi hS ha hgs h
 ·obtain ⟨ov',ha',h'⟩:=zcl 6 ha h
  have hgs:=zd9 (o:=o) (ops:=ops) ha'
  split at h'
  ·rename_i hg;rw [hg] at hgs;exact zj7 hfs hi ha' hgs h'
  ·rename_i hg;rw [hg] at hgs;exact zfg hi hS ha' hgs h'
  ·exact h'.elim
end
def z9b (P:Program) (n:Nat) (fs:Fs) (ops:Array Oper) (env:Env):List Nat->Ov->(Ov->Prog)->Prog
 | [],ov,k=>k ov
 | i::rest,ov,k=>match ops[i]? with
  | none=>z9b P n fs ops env rest ov k
  | some o=>bif z9m (cls P o) then zen P n false ops env ov o λov'=>z9b P n fs ops env rest ov' k
   else zdz P n fs ops env ov o λov'=>z9b P n fs ops env rest ov' k
def zb8 (P:Program) (ops:Array Oper) (listed:Array Bool):List Nat->Option Nat
 | []=>none
 | i::r=>match ops[i]? with
  | some o=>bif z9m (cls P o) && Region.free .any ops listed i then some i else zb8 P ops listed r
  | none=>zb8 P ops listed r
def zi0 (f:Nat->Prog):List Nat->Prog
 | []=>.fail 25
 | [i]=>f i
 | i::r=>.both (f i) (zi0 f r)
def zks:List Oper->Nat->Nat->Nat
 | [],_,m=>m
 | o::r,j,m=>zks r (j+1) (bif o.after.toList.any (λe=>Region.binds .any e && m.testBit e.on) then m ||| 2 ^ j else m)
def zb6 (ops:Array Oper) (i:Nat):Nat:=zks ops.toList 0 (2 ^ i)
def zb5 (ops:Array Oper) (j:Nat):List Nat->Bool
 | []=>true
 | i::r=>(zb6 ops i).testBit j && zb5 ops j r
def zl5 (P:Program) (listed:Array Bool) (m:Nat):List Oper->Nat->Bool
 | [],_=>true
 | o::r,j=>(listed.getD j true || z9m (cls P o) || m.testBit j) && zl5 P listed m r (j+1)
def z43 (P:Program) (n:Nat) (fs:Fs) (ops:Array Oper) (env:Env):Nat->Array Bool->List Nat->List Nat->Ov->(Ov->Prog)->Prog
 | 0,listed,_,_,ov,k=>match Region.ready .any ops listed with
  | []=>.untick (k ov)
  | _=>.fail 26
 | d+1,listed,hl,rl,ov,k=>match Region.ready .any ops listed with
  | []=>.untick (k ov)
  | i::r=>match zb8 P ops listed (i::r) with
   | some j=>match ops[j]? with
    | some o=>bif isP (cls P o) then zen P n true ops env ov o λov'=>z43 P n fs ops env d (listed.setIfInBounds j true) hl rl ov' k
     else bif zl5 P listed (zb6 ops j) ops.toList 0 then zen P n false ops env ov o λov'=>z43 P n fs ops env d (listed.setIfInBounds j true) hl (j::rl) ov' k
     else zen P n true ops env ov o λov'=>z43 P n fs ops env d (listed.setIfInBounds j true) (j::hl) rl ov' k
    | none=>.fail 27
   | none=>zi0 (λj=>match ops[j]? with
    | some o=>bif z9m (cls P o) then (match rl with
      | []=>zdz P n fs ops env ov o λov'=>z43 P n fs ops env d (listed.setIfInBounds j true) hl [] ov' k
      | _=>.fail 28)
     else bif zb5 ops j rl then (match hl with
      | []=>zdz P n fs ops env ov o λov'=>z43 P n fs ops env d (listed.setIfInBounds j true) [] [] ov' k
      | i'::hl'=>bif zb5 ops j (i'::hl') then .untick (zdz P n fs ops env ov o λov'=>z43 P n fs ops env d (listed.setIfInBounds j true) [] [] ov' k)
       else zdz P n fs ops env ov o λov'=>z43 P n fs ops env d (listed.setIfInBounds j true) (i'::hl') rl ov' k)
     else .fail 29
    | none=>.fail 28) (i::r)
section
variable {P:Program} {n:Nat} {fs:Fs} {env:Env} {ov:Ov} {a:Act} {o:Oper} {ops:Array Oper}
theorem z73 {Q:Post} {QX:Exit->Act->World->Prop} {k:Ov->Prog} (hfs:∀ f ∈ fs.l,z4n P f=true)
  (hk:∀ ov' a' w',Agree n env ov' a'->(k ov').wp P (λ_=>True) w' Q->QX .normal a' w') :
  ∀ (l:List Nat) {ov:Ov} {a:Act} {w:World},Agree n env ov a->(z9b P n fs ops env l ov k).wp P (λ_=>True) w Q->wpOps P ops QX l a w
 | [],ov,a,w,ha,h=>hk ov a w ha h
 | i::rest,ov,a,w,ha,h=>by
  rw [wpOps_cons]
  unfold z9b at h
  cases ho:ops[i]? with
  | none =>
   rw [ho] at h
   unfold wpOp
   rw [ho]
   exact z73 hfs hk rest ha h
  | some o =>
   rw [ho] at h
   simp only [cond_eq_ite] at h
   split at h
   ·obtain ⟨v,ov',S',ha',_,_,hy,_,_,hS',h'⟩:=z80 (dr:=false) ha trivial h
    have:=hS' rfl
    subst this
    exact hy.wpOp ho rfl (z73 hfs hk rest ha' h')
   ·exact zjw hfs ho trivial ha h _ λov' a' w' ha' _ h'=>z73 hfs hk rest ha' h'
theorem zau {listed:Array Bool}:∀ {l:List Nat} {j:Nat},zb8 P ops listed l=some j->j ∈ l/\Region.free .any ops listed j=true/\∀ o,ops[j]? = some o->z9m (cls P o)=true
 | [],j,h=>by simp [zb8] at h
 | i::r,j,h=>by
  unfold zb8 at h
  split at h
  ·simp only [cond_eq_ite] at h
   split at h
   ·rename_i hc
    simp only [Bool.and_eq_true] at hc
    obtain rfl:=Option.some.inj h
    exact ⟨List.mem_cons_self ..,hc.2,λo' ho'=>by simp_all⟩
   ·have:=zau h;exact ⟨List.mem_cons_of_mem _ this.1,this.2⟩
  ·have:=zau h;exact ⟨List.mem_cons_of_mem _ this.1,this.2⟩
theorem zcw {f:Nat->Prog} {S:World->Prop} {w:World} {Q:Post}:∀ {l:List Nat},(zi0 f l).wp P S w Q->∀ i ∈ l,(f i).wp P S w Q
 | [],h,_,hi=>by cases hi
 | [j],h,i,hi=>by obtain rfl:=List.mem_singleton.1 hi;exact h
 | j::j'::r,h,i,hi=>by
  rcases List.mem_cons.1 hi with rfl|hi
  ·exact h.1
  ·exact zcw h.2 i hi
def z0ae (P:Program) (ops:Array Oper) (j:Nat):Prop:=∃ o,ops[j]? = some o/\z9m (cls P o)=false
def z9j (P:Program) (ops:Array Oper) (L:Array Bool) (i:Nat):Prop:=∃ j,L.getD j false=true/\z0ae P ops j/\(zb6 ops i).testBit j=true
def zcq (ops:Array Oper) (L:Array Bool):Prop:=∀ j o,ops[j]? = some o->L.getD j false=true->∀ e ∈ o.after,Region.binds .any e=true->L.getD e.on false=true
theorem zgs {p:Nat->Prop} (hp:∀ j o,ops[j]? = some o->p j->∀ e ∈ o.after,Region.binds .any e=true->p e.on) {i:Nat}:∀ (l:List Oper) (k m:Nat),(∀ t o,l[t]? = some o->ops[k+t]? = some o) ->
  (∀ j,m.testBit j=true->p j->p i)->∀ j,(zks l k m).testBit j=true->p j->p i
 | [],k,m,hl,hm,j,hj,h=>hm j hj h
 | o::r,k,m,hl,hm,j,hj,h=>by
  unfold zks at hj
  refine zgs hp r (k+1) _ (λt o ho=>by have:=hl (t+1) o (by simpa using ho);rwa [show k+1+t=k+(t+1) by omega]) ?_ j hj h
  intro j' hj' h'
  rw [cond_eq_ite] at hj'
  split at hj'
  ·rename_i hc
   rw [Nat.testBit_or,Nat.testBit_two_pow,Bool.or_eq_true] at hj'
   rcases hj' with hj'|hj'
   ·exact hm j' hj' h'
   ·obtain rfl:=of_decide_eq_true hj'
    obtain ⟨e,he,hb⟩:=List.any_eq_true.1 hc
    simp only [Bool.and_eq_true] at hb
    exact hm e.on hb.2 (hp k o (hl 0 o rfl) h' e (by simpa using he) hb.1)
  ·exact hm j' hj' h'
theorem zs7 {L:Array Bool} {i j:Nat} (hc:zcq ops L) (hj:L.getD j false=true) (hd:(zb6 ops i).testBit j=true):L.getD i false=true:=by
 refine zgs (p:=λj=>L.getD j false=true) (λj o ho h e he hb=>hc j o ho h e he hb) ops.toList 0 (2 ^ i) (λt o ho=>by simpa using ho) ?_ j hd hj
 intro j' h1 h2
 rw [Nat.testBit_two_pow] at h1
 obtain rfl:=of_decide_eq_true h1
 exact h2
theorem zqi {L:Array Bool} {i:Nat} (h:L.getD i true=false):L.getD i false=false:=by
 rcases Nat.lt_or_ge i L.size with h'|h'
 ·simp [h'] at h ⊢;exact h
 ·simp [Array.getElem?_eq_none h'] at h
theorem zbo {L:Array Bool} {j:Nat} (hc:zcq ops L) (hj:j ∈ Region.ready .any ops L):zcq ops (L.setIfInBounds j true):=by
 obtain ⟨_,oj,hoj,hall⟩:=mem_ready.1 hj
 intro j' o' ho' h' e he hb
 by_cases hjj:j=j'
 ·subst hjj
  rw [hoj] at ho'
  obtain rfl:=Option.some.inj ho'
  exact getD_set_true (hall e he hb)
 ·rw [getD_set_ne false hjj] at h'
  exact getD_set_true (hc j' o' ho' h' e he hb)
theorem zll {L:Array Bool} {i k:Nat} {o:Oper} (ho:ops[k]? = some o) (hp:z9m (cls P o)=true):z9j P ops (L.setIfInBounds k true) i↔z9j P ops L i:=by
 constructor
 ·rintro ⟨j,h1,⟨o',ho',h2⟩,h3⟩
  refine ⟨j,?_,⟨o',ho',h2⟩,h3⟩
  by_cases hkj:k=j
  ·subst hkj;rw [ho] at ho';obtain rfl:=Option.some.inj ho';rw [hp] at h2;cases h2
  ·rwa [getD_set_ne false hkj] at h1
 ·rintro ⟨j,h1,h2,h3⟩
  exact ⟨j,getD_set_true h1,h2,h3⟩
def z6r (P:Program) (ops:Array Oper) (Q:Exit->Act->World->Prop) (T:Array Bool->World->Prop):Nat->Array Bool->Act->World->Prop
 | 0,L,a,w=>Region.ready .any ops L=[]/\Q .normal a w
 | d+1,L,a,w=>(Region.ready .any ops L=[]->Q .normal a w) /\
  ∀ i ∈ Region.ready .any ops L,wpOp P ops Q i (λa' w'=>T (L.setIfInBounds i true) w'/\z6r P ops Q T d (L.setIfInBounds i true) a' w') a w
theorem zhs {Q:Exit->Act->World->Prop} {T:Array Bool->World->Prop}:∀ (d:Nat) (L:Array Bool) (a:Act) (w:World),z6r P ops Q T d L a w->wpAny P .any ops Q d L a w
 | 0,_,_,_,h=>h
 | d+1,L,_,_,h=>⟨h.1,λi hi=>wpOp_mono (λa' w' h'=>zhs d _ a' w' h'.2) (h.2 i hi)⟩
theorem zfn {Q:Exit->Act->World->Prop} {T T':Array Bool->World->Prop} (ht:∀ L w,T' L w->T L w):∀ (d:Nat) (L:Array Bool) (a:Act) (w:World),z6r P ops Q T' d L a w->z6r P ops Q T d L a w
 | 0,_,_,_,h=>h
 | d+1,L,_,_,h=>⟨h.1,λi hi=>wpOp_mono (λa' w' h'=>⟨ht _ _ h'.1,zfn ht d _ a' w' h'.2⟩) (h.2 i hi)⟩
theorem znx {i:Nat} {oi:Oper} {v:Value} {Q:Exit->Act->World->Prop} {T:Array Bool->World->Prop} {f:World->Prop} (hi:ops[i]? = some oi) (hsel:∀ (j:Nat) (o:Oper) cs b,ops[j]? = some o->o.op≠.select cs b)
  (hQ:∀ c a w,Q (.panic c) (a.put oi.dst v) w->Q (.panic c) a w) (hpr:z9m (cls P oi)=true) (hT:∀ L w,T (L.setIfInBounds i true) w->T L w) :
  ∀ (d:Nat) (L:Array Bool) (a:Act) (w:World),
   (∀ j oj,ops[j]? = some oj->j≠i->L.getD j true=false->(∀ e ∈ oj.after,Region.binds .any e=true->e.on≠i)->oi.apart ops oj=true) ->
   i ∈ Region.ready .any ops L->zcq ops L->YieldsIf P ops f oi v a->f w->T (L.setIfInBounds i true) w ->
   z6r P ops Q (λL w=>T L w/\(¬ z9j P ops L i->f w)) d (L.setIfInBounds i true) (a.put oi.dst v) w->z6r P ops Q T (d+1) L a w:=by
 have here:∀ (d:Nat) (L:Array Bool) (a:Act) (w:World),YieldsIf P ops f oi v a->f w->T (L.setIfInBounds i true) w ->
   z6r P ops Q (λL w=>T L w/\(¬ z9j P ops L i->f w)) d (L.setIfInBounds i true) (a.put oi.dst v) w ->
   wpOp P ops Q i (λa' w'=>T (L.setIfInBounds i true) w'/\z6r P ops Q T d (L.setIfInBounds i true) a' w') a w:=λd L a w hy hf ht H =>
  hy.wpOp hi hf ⟨ht,zfn (λ_ _ h=>h.1) _ _ _ _ H⟩
 intro d
 induction d with
 | zero =>
  intro L a w _ hr hc hy hf ht H
  refine ⟨λh=>(by rw [h] at hr;cases hr),λj hj=>?_⟩
  by_cases hji:j=i
  ·subst hji;exact here _ _ _ _ hy hf ht H
  ·have:=ready_mono hj hji
   rw [H.1] at this
   cases this
 | succ d ih =>
  intro L a w hfree hr hc hy hf ht H
  refine ⟨λh=>(by rw [h] at hr;cases hr),λj hj=>?_⟩
  by_cases hji:j=i
  ·subst hji;exact here _ _ _ _ hy hf ht H
  ·have h1:=H.2 j (ready_mono hj hji)
   obtain ⟨hjun,oj,hoj,hall⟩:=mem_ready.1 hj
   have hiun:=(mem_ready.1 hr).1
   have hnot:∀ e ∈ oj.after,Region.binds .any e=true->e.on≠i:=λe he hb heq=>by
    have h1:=hall e he hb
    rw [heq,zqi hiun] at h1
    cases h1
   have h2:=wpOp_putIf hoj (hfree j oj hoj hji hjun hnot) (λcs b=>hsel i oi cs b hi) (λcs b=>hsel j oj cs b hoj) hQ hy h1
   have hfree':∀ k ok,ops[k]? = some ok->k≠i->(L.setIfInBounds j true).getD k true=false ->
     (∀ e ∈ ok.after,Region.binds .any e=true->e.on≠i)->oi.apart ops ok=true:=λk ok hk hki hun hno=>by
    refine hfree k ok hk hki ?_ hno
    by_cases hjk:j=k
    ·subst hjk;exact hjun
    ·rw [getD_set_ne true hjk] at hun;exact hun
   have hcl:=zbo hc hj
   have hnd:¬ z9j P ops ((L.setIfInBounds i true).setIfInBounds j true) i:=by
    rw [Array.setIfInBounds_comm _ _ (Ne.symm hji),zll hi hpr]
    rintro ⟨j',h1,_,h3⟩
    have:=zs7 hcl h1 h3
    rw [getD_set_ne false hji,zqi hiun] at this
    cases this
   refine wpOp_mono (λa' w' h3=>?_) h2
   obtain ⟨hy',⟨ht',hf'⟩,H'⟩:=h3
   have hf':=hf' hnd
   rw [Array.setIfInBounds_comm _ _ (Ne.symm hji)] at ht' H'
   exact ⟨hT _ _ ht',ih (L.setIfInBounds j true) a' w' hfree' (ready_mono hr (Ne.symm hji)) hcl hy' hf' ht' H'⟩
theorem zeu {j:Nat}:∀ {l:List Nat},zb5 ops j l=true->∀ i ∈ l,(zb6 ops i).testBit j=true
 | [],_,i,hi=>by cases hi
 | x::r,h,i,hi=>by
  simp only [zb5,Bool.and_eq_true] at h
  rcases List.mem_cons.1 hi with rfl|hi
  ·exact h.1
  ·exact zeu h.2 i hi
def Inv (P:Program) (ops:Array Oper) (L:Array Bool) (hl rl:List Nat) (S:World->Prop) (T:Array Bool->World->Prop):Prop :=
 ∀ L' w',(∀ j,L.getD j false=true->L'.getD j false=true)->(∀ i ∈ rl,z9j P ops L' i)->(S w'\/∀ i ∈ hl,z9j P ops L' i)->T L' w'
theorem z8y {Q:Post} {QX:Exit->Act->World->Prop} {k:Ov->Prog} (hfs:∀ f ∈ fs.l,z4n P f=true) (hsel:Region.noSelect ops=true)
  (hQ:∀ c a w,¬ QX (.panic c) a w) (hk:∀ ov' a' w',Agree n env ov' a'->(k ov').wp P (λ_=>True) w' Q->QX .normal a' w') :
  ∀ (d:Nat) {L:Array Bool} {hl rl:List Nat} {ov:Ov} {a:Act} {w:World} {S:World->Prop} {T:Array Bool->World->Prop},Agree n env ov a->zcq ops L ->
   (∀ i o,ops[i]? = some o->z9m (cls P o)=true->∀ L w,T (L.setIfInBounds i true) w↔T L w)->Inv P ops L hl rl S T->T L w->S w ->
   (z43 P n fs ops env d L hl rl ov k).wp P S w Q->z6r P ops QX T d L a w
 | 0,L,hl,rl,ov,a,w,S,T,ha,hc,hT,hI,ht,hS,h=>by
  unfold z43 at h
  split at h
  ·rename_i hr;exact ⟨hr,hk _ _ _ ha h⟩
  ·exact h.elim
 | d+1,L,hl,rl,ov,a,w,S,T,ha,hc,hT,hI,ht,hS,h=>by
  unfold z43 at h
  split at h
  ·rename_i hr;exact ⟨λ_=>hk _ _ _ ha h,by rw [hr];simp⟩
  ·rename_i i r hr
   have mono:∀ {j:Nat} {hl rl:List Nat} {S:World->Prop} {T:Array Bool->World->Prop},Inv P ops L hl rl S T->Inv P ops (L.setIfInBounds j true) hl rl S T :=
    λhI L' w' hL=>hI L' w' λj' hj'=>hL j' (getD_set_true hj')
   split at h
   ·rename_i j hj
    have hj:=zau hj
    split at h
    ·rename_i o ho
     have hjr:j ∈ Region.ready .any ops L:=by rw [hr];exact hj.1
     have hQ':∀ v,∀ c a w,QX (.panic c) (a.put o.dst v) w->QX (.panic c) a w:=λv c a w h=>absurd h (hQ _ _ _)
     have hcl:=zbo hc hjr
     have hPR:z9m (cls P o)=true:=hj.2.2 o ho
     have hT':∀ f:World->Prop,∀ i o,ops[i]? = some o->z9m (cls P o)=true->∀ L w,(T (L.setIfInBounds i true) w/\(¬ z9j P ops (L.setIfInBounds i true) j->f w))↔(T L w/\(¬ z9j P ops L j->f w)) :=
      λf i o hi ho L w=>by rw [hT i o hi ho L w,zll hi ho]
     have go:∀ {v ov'} {S' f:World->Prop} {hl' rl':List Nat},YieldsIf P ops f o v a->Agree n env ov' (a.put o.dst v)->f w->S' w->Inv P ops (L.setIfInBounds j true) hl' rl' S' (λL w=>T L w/\(¬ z9j P ops L j->f w)) ->
       (z43 P n fs ops env d (L.setIfInBounds j true) hl' rl' ov' k).wp P S' w Q->z6r P ops QX T (d+1) L a w:=λhy ha' hf hS' hI' h' =>
      znx ho (Region.noSelect_spec hsel) (hQ' _) hPR (λL w h=>(hT j o ho hPR L w).1 h) d L a w (Region.free_spec ho hj.2.1) hjr hc hy hf ((hT j o ho hPR L w).2 ht)
       (z8y hfs hsel hQ hk d ha' hcl (hT' _) hI' ⟨(hT j o ho hPR L w).2 ht,λ_=>hf⟩ hS' h')
     simp only [cond_eq_ite] at h
     split at h
     ·rename_i hp
      obtain ⟨v,ov',S',ha',hy,_,_,_,_,_,h'⟩:=z80 (dr:=true) ha hS h
      obtain ⟨hy1,rfl⟩:=hy hp
      exact go (f:=λ_=>True) hy1 ha' trivial hS (λL' w' hL h1 h2=>⟨mono hI L' w' hL h1 h2,λ_=>trivial⟩) h'
     ·split at h
      ·obtain ⟨v,ov',S',ha',_,_,hy,_,_,hd,h'⟩:=z80 (dr:=false) ha hS h
       obtain rfl:=hd rfl
       refine go (f:=(· = w)) hy ha' rfl hS (λL' w' hL h1 h2=>⟨mono hI L' w' hL (λi hi=>h1 i (List.mem_cons_of_mem _ hi)) h2,λh3=>absurd (h1 j (List.mem_cons_self ..)) h3⟩) h'
      ·obtain ⟨v,ov',S',ha',_,hy,_,hS',hSS,_,h'⟩:=z80 (dr:=true) ha hS h
       refine go (f:=S') (hy rfl) ha' hS' hS' (λL' w' hL h1 h2=>⟨mono hI L' w' hL h1 ?_,λh3=>?_⟩) h'
       ·rcases h2 with h2|h2
        ·exact .inl (hSS _ h2)
        ·exact .inr λi hi=>h2 i (List.mem_cons_of_mem _ hi)
       ·rcases h2 with h2|h2
        ·exact h2
        ·exact absurd (h2 j (List.mem_cons_self ..)) h3
    ·exact h.elim
   ·refine ⟨λh0=>(by rw [h0] at hr;cases hr),λj hj=>?_⟩
    have hjL:(L.setIfInBounds j true).getD j false=true:=by
     have:=(mem_ready.1 hj).1
     rcases Nat.lt_or_ge j L.size with h'|h'
     ·simp [h']
     ·simp [Array.getElem?_eq_none h'] at this
    rw [hr] at hj
    have h':=zcw h j hj
    rw [<- hr] at hj
    have hcl:=zbo hc hj
    split at h'
    ·rename_i o ho
     have go:∀ {S':World->Prop} {hl' rl':List Nat},S' w->(∀ w',S' w'->T (L.setIfInBounds j true) w')->Inv P ops (L.setIfInBounds j true) hl' rl' S' T ->
       (zdz P n fs ops env ov o λov'=>z43 P n fs ops env d (L.setIfInBounds j true) hl' rl' ov' k).wp P S' w Q ->
       wpOp P ops QX j (λa' w'=>T (L.setIfInBounds j true) w'/\z6r P ops QX T d (L.setIfInBounds j true) a' w') a w:=λhS' hST hI' h' =>
      zjw hfs ho hS' ha h' _ λov' a' w' ha' hS'' h''=>⟨hST w' hS'',z8y hfs hsel hQ hk d ha' hcl hT hI' (hST w' hS'') hS'' h''⟩
     have sub:∀ j',L.getD j' false=true->(L.setIfInBounds j true).getD j' false=true:=λj' h=>getD_set_true h
     simp only [cond_eq_ite] at h'
     split at h'
     ·rename_i hp
      split at h'
      ·exact go hS (λw' hw'=>hI _ w' sub (λi hi=>by cases hi) (.inl hw')) (mono hI) h'
      ·exact h'.elim
     ·rename_i hp
      have hdead:∀ {l:List Nat},zb5 ops j l=true->∀ L':Array Bool,L'.getD j false=true->∀ i ∈ l,z9j P ops L' i:=λhd L' hL i hi =>
       ⟨j,hL,⟨o,ho,by simpa using hp⟩,zeu hd i hi⟩
      split at h'
      ·rename_i hrl
       have hrl:=hdead hrl
       split at h'
       ·exact go hS (λw' hw'=>hI _ w' sub (hrl _ hjL) (.inl hw')) (λL' w' hL h1 h2=>hI L' w' (λj' hj'=>hL j' (sub j' hj')) (hrl L' (hL j hjL)) h2) h'
       ·split at h'
        ·rename_i hhl
         have hhl:=hdead hhl
         refine go (S':=λ_=>True) trivial (λw' _=>hI _ w' sub (hrl _ hjL) (.inr (hhl _ hjL))) (λL' w' hL h1 h2=>hI L' w' (λj' hj'=>hL j' (sub j' hj')) (hrl L' (hL j hjL)) (.inr (hhl L' (hL j hjL)))) h'
        ·exact go hS (λw' hw'=>hI _ w' sub (hrl _ hjL) (.inl hw')) (mono hI) h'
      ·exact h'.elim
    ·exact h'.elim
end
abbrev Outs:=List (Nat × Sh1)
structure Hints where
 cnd:List (Nat × Outs)
 blk:List (Nat × Outs)
 reg:List (Nat × Outs)
 lps:List (Nat × Outs)
def z5t:List (Nat × Outs)->Nat->Option Outs
 | [],_=>none
 | (t,x)::r,s=>bif Nat.beq t s then some x else z5t r s
def shs:Outs->List Sh1
 | []=>[]
 | (_,s)::r=>s::shs r
def z6y (env:Env):List Nat->Option (List Value)
 | []=>some []
 | s::r=>match env.get s,z6y env r with
  | some b,some vs=>some (b.v::vs)
  | _,_=>none
def slots:Outs->List Nat
 | []=>[]
 | (t,_)::r=>t::slots r
inductive RV where
 | tmp (t:Nat)|cell (t:Nat) (ty:TypeId)
def z65 (P:Program) (env:Env):List RV->List Value->Prog
 | [],acc=>.done 0 acc.reverse
 | .tmp t::r,acc=>match env.get t with
  | some b=>z65 P env r (b.v::acc)
  | none=>.fail 44
 | .cell t ty::r,acc=>match env.get t,sh1 P ty with
  | some (.adr a),some s=>.read True (Instr.loadAt ty (.pointer (some a))) (.one s) λx=>z65 P env r ((Sh.one s).mk x::acc)
  | _,_=>.fail 45
def zci (d:Nat) (ts:List Nat) (env:Env):Prog :=
 match z6y env ts with
 | some vs=>.done d vs
 | none=>.fail 31
def zyw:Sh1->Value->Base
 | .one .any,v=>.any v
 | .one .adr,v=>match v with
  | .pointer (some a)=>.adr a
  | v=>.val v
 | _,v=>.val v
def z7w:Outs->List Value->Env
 | (t,s)::r,v::vs=>(t,some (zyw s v))::z7w r vs
 | _,_=>[]
def zd1 (m:Nat):Env->Env
 | []=>[]
 | (t,e)::r=>bif m.testBit t then zd1 m r else (t,e)::zd1 m r
def z7j (m:Nat) (outs:Outs) (vs:List Value) (env:Env):Env:=z7w outs vs++zd1 m env
def z7l:List Oper->Nat
 | []=>0
 | o::r=>match o.dst with
  | some d=>(1 <<< d) ||| z7l r
  | none=>z7l r
def z4e:Code->Nat
 | .region _ ops _=>z7l ops.toList
 | .seq x y=>z4e x ||| z4e y
 | .cond _ x y=>z4e x ||| z4e y
 | .block _ x=>z4e x
 | .loop x=>z4e x
 | .scope x=>z4e x
 | _=>0
def zik (m:Nat):Ov->Bool
 | []=>true
 | (t,_)::r=>m.testBit t && zik m r
def expOv:Ov->Env->Env
 | [],env=>env
 | (t,e)::r,env=>(t,match e.g with|none=>some e.b|some _=>none)::expOv r env
def z00r:(p:Pr)->Value->Option p.D
 | .int k,v=>match v with
  | .int k' n=>if k=k' then some n else none
  | _=>none
 | .bool,v=>match v with
  | .bool b=>some b
  | _=>none
 | .str,v=>match v with
  | .string s=>some s
  | _=>none
 | .ptr,v=>match v with
  | .pointer o=>some o
  | _=>none
 | .adr,v=>match v with
  | .pointer (some a)=>some a
  | _=>none
 | .slc,v=>match v with
  | .slice a l c=>some ⟨a,l,c⟩
  | _=>none
 | .map,v=>match v with
  | .map r=>some r
  | _=>none
 | .any,v=>some v
def zis:(ps:List Pr)->List Value->Option (HL ps)
 | [],[]=>some ()
 | p::ps,v::vs=>match z00r p v,zis ps vs with
  | some x,some y=>some (x,y)
  | _,_=>none
 | _,_=>none
def z8l:List Sh1->List Value->Option (List Value)
 | [],[]=>some []
 | .one _::r,v::vs=>match z8l r vs with
  | some l=>some (v::l)
  | none=>none
 | .agg ps::r,v::vs=>match v,z8l r vs with
  | .agg cs,some l=>bif Nat.beq cs.toList.length ps.length then some (cs.toList++l) else none
  | _,_=>none
 | _,_=>none
abbrev Ctx:=List (Nat × (Env->Prog))
def zlh:Ctx->Nat->Option (Env->Prog)
 | [],_=>none
 | (t,x)::r,s=>bif Nat.beq t s then some x else zlh r s
def zl1 (P:Program) (n:Nat) (fs:Fs) (ops:Array Oper) (draw:Bool) (env:Env) (k:Env->Prog):Prog :=
 match draw with
 | false=>z9b P n fs ops env (List.range ops.size) [] λov=>bif zik (z7l ops.toList) ov then k (expOv ov env) else .fail 32
 | true=>bif Region.noSelect ops then
   .tick (z43 P n fs ops env ops.size (Array.replicate ops.size false) [] [] [] λov=>bif zik (z7l ops.toList) ov then k (expOv ov env) else .fail 33)
  else .fail 34
def z9s (m:Nat):List Nat->Bool
 | []=>true
 | t::r=>m.testBit t && z9s m r
def zix (d m:Nat) (outs:Outs) (env:Env) (p:Prog) (k:Env->Prog):Prog :=
 bif z9s m (slots outs) then .bind d (shs outs) p λx=>k (z7j m outs (z1b (shs outs) x) env) else .fail 42
def z03q (c:Operand) (m:Nat):Nat:=match c with
 | .tmp t=>t+4096*m
 | _=>0
def z5q (P:Program) (n:Nat) (fs:Fs) (H:Hints) (rv:List RV):Code->Nat->Nat->Env->Ctx->(Env->Prog)->Prog
 | .skip,_,_,env,_,k=>k env
 | .ret,_,_,env,_,_=>z65 P env rv []
 | .exit id,_,_,env,ctx,_=>match zlh ctx id with
  | some k'=>k' env
  | none=>.fail 35
 | .seq x y,d,b,env,ctx,k=>z5q P n fs H rv x d b env ctx λenv'=>z5q P n fs H rv y d b env' ctx k
 | .region id ops draw,d,_,env,_,k=>match z5t H.reg id with
  | none=>zl1 P n fs ops draw env k
  | some outs=>zix d (z7l ops.toList) outs env (zl1 P n fs ops draw env (zci d (slots outs))) k
 | .cond c x y,d,b,env,ctx,k=>match opE env [] none c with
  | some (.lit (.bool t))=>match t with
   | true=>z5q P n fs H rv x d b env ctx k
   | false=>z5q P n fs H rv y d b env ctx k
  | some (.val (.bool t))=>match z5t H.cnd (z03q c (z4e x ||| z4e y)) with
   | none=>.ite t (z5q P n fs H rv x d b env ctx k) (z5q P n fs H rv y d b env ctx k)
   | some outs=>zix d (z4e x ||| z4e y) outs env
     (.ite t (z5q P n fs H rv x (d+1) b env ctx (zci d (slots outs))) (z5q P n fs H rv y (d+1) b env ctx (zci d (slots outs)))) k
  | _=>.fail 36
 | .block id x,d,_,env,ctx,k=>match z5t H.blk id with
  | none=>z5q P n fs H rv x d id env ((id,k)::ctx) k
  | some outs=>zix d (z4e x) outs env (z5q P n fs H rv x (d+1) id env ((id,zci d (slots outs))::ctx) (zci d (slots outs))) k
 | .loop x,d,b,env,ctx,_=>match z5t H.lps b with
  | some outs=>match z6y env (slots outs) with
   | some vs=>match z8l (shs outs) vs with
    | some fl=>match zis (prims (shs outs)) fl with
     | some x0=>bif z9s (z4e x) (slots outs) then
       .loop d (shs outs) x0 λv=>z5q P n fs H rv x (d+1) b (z7j (z4e x) outs (z1b (shs outs) v) env) ctx (zci d (slots outs))
      else .fail 42
     | none=>.fail 37
    | none=>.fail 38
   | none=>.fail 39
  | none=>.fail 40
 | .scope x,d,b,env,ctx,k=>z5q P n fs H rv x d b env ctx k
 | .label _,_,_,env,_,k=>k env
 | _,_,_,_,_,_=>.fail 41
section
variable {P:Program} {n:Nat} {fs:Fs} {a:Act}
theorem z05d:∀ {p:Pr} {v:Value} {x:p.D},z00r p v=some x->p.mk x=v:=by
 intro p v x h
 cases p <;> simp only [z00r] at h
 case any=>obtain rfl:=Option.some.inj h;rfl
 case int k =>
  split at h
  ·split at h
   ·rename_i hk;subst hk;obtain rfl:=Option.some.inj h;rfl
   ·cases h
  ·cases h
 all_goals
  split at h
  ·obtain rfl:=Option.some.inj h;rfl
  ·cases h
theorem zkm:∀ {ps:List Pr} {l:List Value} {x:HL ps},zis ps l=some x->HL.vals ps x=l
 | [],[],x,h=>rfl
 | [],_::_,x,h=>by simp [zis] at h
 | _::_,[],x,h=>by simp [zis] at h
 | p::ps,v::vs,x,h=>by
  simp only [zis] at h
  split at h
  ·rename_i y z hy hz
   obtain rfl:=Option.some.inj h
   simp only [HL.vals,z05d hy,zkm hz]
  ·cases h
theorem zat:∀ {ss:List Sh1} {vs l:List Value},z8l ss vs=some l->build ss l=vs
 | [],[],l,h=>by simp only [z8l,Option.some.injEq] at h;subst h;rfl
 | [],_::_,l,h=>by simp [z8l] at h
 | .one p::r,[],l,h=>by simp [z8l] at h
 | .agg ps::r,[],l,h=>by simp [z8l] at h
 | .one p::r,v::vs,l,h=>by
  simp only [z8l] at h
  split at h
  ·rename_i l' hl
   obtain rfl:=Option.some.inj h
   simp only [build,zat hl]
  ·cases h
 | .agg ps::r,v::vs,l,h=>by
  simp only [z8l] at h
  split at h
  ·rename_i cs l' hl
   simp only [cond_eq_ite] at h
   split at h
   ·rename_i hlen
    have hlen:=Nat.eq_of_beq_eq_true hlen
    obtain rfl:=Option.some.inj h
    simp only [build]
    rw [<- hlen,List.take_left,List.drop_left,zat hl]
   ·cases h
  ·cases h
theorem z063 (s:Sh1) (v:Value):(zyw s v).v=v:=by
 unfold zyw
 split
 ·rfl
 ·split <;> rfl
 ·rfl
abbrev AgreeT (n:Nat) (env:Env) (a:Act):Prop:=Agree n env [] a
theorem AgreeT.slot {env:Env} {s:Nat} {b:Base} (ha:AgreeT n env a) (h:env.get s=some b):a.tmps[s]? = some b.v:=by
 have:=ha.slots s ⟨b,none⟩ (by simp [Ov.get,h])
 exact this
theorem AgreeT.mk' {env:Env} (hs:a.tmps.size=n) (hd:a.defers=[]) (h:∀ s b,env.get s=some b->a.tmps[s]? = some b.v):AgreeT n env a:=by
 refine ⟨hs,hd,λs e he=>?_⟩
 simp only [Ov.get] at he
 split at he
 ·rename_i b hb
  obtain rfl:=Option.some.inj he
  exact h s b hb
 ·cases he
theorem zbu (env:Env):∀ (e1:Env) (s:Nat),Env.get (e1++env) s=if s ∈ e1.map (·.1) then Env.get e1 s else Env.get env s
 | [],s=>by simp
 | (t,e)::r,s=>by
  simp only [List.cons_append,Env.get,List.map_cons,List.mem_cons]
  cases h:Nat.beq t s with
  | true=>simp [(Nat.eq_of_beq_eq_true h).symm]
  | false =>
   have hne:¬ s=t:=λe=>by subst e;rw [Nat.beq_refl] at h;cases h
   simp only [cond_false,hne,false_or]
   exact zbu env r s
theorem zbv {m:Nat}:∀ {env:Env} {s:Nat},m.testBit s=false->(zd1 m env).get s=env.get s
 | [],s,h=>rfl
 | (t,e)::r,s,h=>by
  simp only [zd1,Env.get]
  cases hts:Nat.beq t s with
  | true =>
   have e:=Nat.eq_of_beq_eq_true hts
   subst e
   simp [h,Env.get,hts]
  | false =>
   cases m.testBit t with
   | true=>exact zbv h
   | false=>simp only [cond_false,Env.get,hts];exact zbv h
theorem z8z {m:Nat}:∀ {env:Env} {s:Nat} {b:Base},(zd1 m env).get s=some b->m.testBit s=false
 | [],s,b,h=>by simp [zd1,Env.get] at h
 | (t,e)::r,s,b,h=>by
  simp only [zd1,cond_eq_ite] at h
  split at h
  ·exact z8z h
  ·rename_i ht
   simp only [Env.get,cond_eq_ite] at h
   split at h
   ·rename_i hts
    have:=Nat.eq_of_beq_eq_true hts
    subst this
    simpa using ht
   ·exact z8z h
theorem z6m:∀ {outs:Outs} {env:Env} {vs:List Value},z6y env (slots outs)=some vs->(z7w outs vs).map (·.1)=slots outs
 | [],env,vs,h=>rfl
 | (t,s)::r,env,vs,h=>by
  simp only [slots,z6y] at h
  split at h
  ·rename_i b vs' hb hv
   obtain rfl:=Option.some.inj h
   simp only [z7w,List.map_cons,slots,z6m hv]
  ·cases h
theorem zjy {env:Env} (ha:AgreeT n env a):∀ {outs:Outs} {vs:List Value},z6y env (slots outs)=some vs->∀ s b,(z7w outs vs).get s=some b->a.tmps[s]? = some b.v
 | [],vs,h,s,b,hb=>by simp [z7w,Env.get] at hb
 | (t,sh)::r,vs,h,s,b,hb=>by
  simp only [slots,z6y] at h
  split at h
  ·rename_i b0 vs' hb0 hv
   obtain rfl:=Option.some.inj h
   simp only [z7w,Env.get,cond_eq_ite] at hb
   split at hb
   ·rename_i hts
    have:=Nat.eq_of_beq_eq_true hts
    subst this
    obtain rfl:=Option.some.inj hb
    rw [z063]
    exact ha.slot hb0
   ·exact zjy ha hv s b hb
  ·cases h
def z1d (m:Nat) (env env':Env):Prop:=∀ s,m.testBit s=false->env'.get s=env.get s
theorem z1d.refl (m:Nat) (env:Env):z1d m env env:=λ_ _=>rfl
theorem z1d.trans {m₁ m₂:Nat} {env env₁ env₂:Env} (h1:z1d m₁ env env₁) (h2:z1d m₂ env₁ env₂):z1d (m₁ ||| m₂) env env₂:=λs hs=>by
 rw [Nat.testBit_or,Bool.or_eq_false_iff] at hs
 rw [h2 s hs.2,h1 s hs.1]
theorem z1d.left {m₁ m₂:Nat} {env env₁:Env} (h1:z1d m₁ env env₁):z1d (m₁ ||| m₂) env env₁:=λs hs=>by
 rw [Nat.testBit_or,Bool.or_eq_false_iff] at hs
 exact h1 s hs.1
theorem z1d.right {m₁ m₂:Nat} {env env₁:Env} (h1:z1d m₂ env env₁):z1d (m₁ ||| m₂) env env₁:=λs hs=>by
 rw [Nat.testBit_or,Bool.or_eq_false_iff] at hs
 exact h1 s hs.2
theorem zhe {m:Nat}:∀ {l:List Nat},z9s m l=true->∀ s,m.testBit s=false->s ∉ l
 | [],_,s,_,h=>by cases h
 | t::r,h,s,hs,hm=>by
  simp only [z9s,Bool.and_eq_true] at h
  rcases List.mem_cons.1 hm with rfl|hm
  ·rw [h.1] at hs;cases hs
  ·exact zhe h.2 s hs hm
theorem zj9 {env:Env}:∀ {ov:Ov} {s:Nat} {b:Base},(expOv ov env).get s=some b->ov.get env s=some ⟨b,none⟩
 | [],s,b,h=>by simp only [expOv] at h;simp [Ov.get,h]
 | (t,e)::r,s,b,h=>by
  simp only [expOv,Env.get,Ov.get] at h ⊢
  cases hts:Nat.beq t s with
  | true =>
   rw [hts] at h
   simp only [cond_true] at h ⊢
   obtain ⟨b',g⟩:=e
   cases g with
   | none=>simp only [Option.some.injEq] at h;rw [h]
   | some x=>cases h
  | false=>rw [hts] at h;exact zj9 h
theorem zew {m:Nat} {env:Env}:∀ {ov:Ov},zik m ov=true->z1d m env (expOv ov env)
 | [],_=>λ_ _=>rfl
 | (t,e)::r,h=>λs hs=>by
  simp only [zik,Bool.and_eq_true] at h
  simp only [expOv,Env.get]
  cases hts:Nat.beq t s with
  | true=>have:=Nat.eq_of_beq_eq_true hts;subst this;rw [h.1] at hs;cases hs
  | false=>exact zew h.2 s hs
theorem AgreeT.expOv {env:Env} {ov:Ov} (ha:Agree n env ov a):AgreeT n (expOv ov env) a :=
 AgreeT.mk' ha.size ha.defers λs b hb=>ha.slots s _ (zj9 hb)
theorem zcj {m:Nat} {outs:Outs} {vs:List Value} {env:Env} (ho:z9s m (slots outs)=true) (hv:(z7w outs vs).map (·.1)=slots outs):z1d m env (z7j m outs vs env):=λs hs=>by
 unfold z7j
 rw [zbu,hv,if_neg (zhe ho s hs),zbv hs]
theorem AgreeT.join {m:Nat} {outs:Outs} {vs:List Value} {env env':Env} (ha:AgreeT n env' a) (hk:z1d m env env') (hv:z6y env' (slots outs)=some vs) :
  AgreeT n (z7j m outs vs env) a:=by
 refine AgreeT.mk' ha.size ha.defers λs b hb=>?_
 unfold z7j at hb
 rw [zbu,z6m hv] at hb
 split at hb
 ·exact zjy ha hv s b hb
 ·have hm:=z8z hb
  rw [zbv hm,<- hk s hm] at hb
  exact ha.slot hb
def zas (P:Program) (n d:Nat) (Q:Post) (p:Prog) (env:Env) (N:Act->World->Prop):Prop :=
 ∀ a w (Q':Post),(∀ e vs w,e<d->Q' e vs w->Q e vs w)->AgreeT n env a->p.wp P (λ_=>True) w Q'->N a w
theorem zas.up {d:Nat} {Q:Post} {C:List Value->World->Prop} {p:Prog} {env:Env} {N:Act->World->Prop} (h:zas P n d Q p env N):zas P n (d+1) (Q.catch d C) p env N :=
 λa w Q' hq ha hp=>h a w Q' (λe vs w he h'=>(hq e vs w (by omega) h').2 (by omega)) ha hp
theorem zas.mono {d:Nat} {Q:Post} {p:Prog} {env:Env} {N N':Act->World->Prop} (h:zas P n d Q p env N) (hn:∀ a w,N a w->N' a w):zas P n d Q p env N' :=
 λa w Q' hq ha hp=>hn _ _ (h a w Q' hq ha hp)
theorem z4x {env:Env} {Q Q':Post} (hq:∀ vs w,Q' 0 vs w->Q 0 vs w):∀ {l:List RV} {acc:List Value} {S:World->Prop} {w:World},(z65 P env l acc).wp P S w Q'->(z65 P env l acc).wp P S w Q
 | [],acc,S,w,h=>hq _ _ h
 | .tmp t::r,acc,S,w,h=>by
  unfold z65 at h ⊢
  split at h
  ·exact z4x hq h
  ·exact h.elim
 | .cell t ty::r,acc,S,w,h=>by
  unfold z65 at h ⊢
  split at h
  ·obtain ⟨x,hx,h⟩:=h;exact ⟨x,hx,z4x hq h⟩
  ·exact h.elim
theorem zqp {d:Nat} {ts:List Nat} {env:Env} {S:World->Prop} {w:World} {Q:Post} (h:(zci d ts env).wp P S w Q):∃ vs,z6y env ts=some vs/\Q d vs w:=by
 unfold zci at h
 split at h
 ·rename_i vs hv;exact ⟨vs,hv,h⟩
 ·exact h.elim
theorem z8q {d m:Nat} {outs:Outs} {env env':Env} {Q:Post} {k:Env->Prog} {N:Act->World->Prop} (ho:z9s m (slots outs)=true) (hk:z1d m env env')
  (hgood:∀ env'',z1d m env env''->zas P n d Q (k env'') env'' N) :
  zas P n (d+1) (Q.catch d λvs w'=>∃ x,vs=z1b (shs outs) x/\(k (z7j m outs (z1b (shs outs) x) env)).wp P (λ_=>True) w' Q) (zci d (slots outs) env') env' N:=by
 intro a w Q' hq ha h
 obtain ⟨vs,hv,h'⟩:=zqp h
 obtain ⟨x,rfl,h''⟩:=(hq d vs w (by omega) h').1 rfl
 exact hgood _ (zcj ho (z6m hv)) a w Q (λ_ _ _ _ h=>h) (AgreeT.join ha hk hv) h''
def z01a (Q:Exit->Act->World->Prop):Exit->Act->World->Prop
 | .panic _,_,_=>False
 | e,a,w=>Q e a w
theorem ztk {c:Code} {Q:Exit->Act->World->Prop} {w:World} (h:c.wp P (z01a Q) a w):c.wp P Q a w :=
 wp_mono h λe a w h=>by cases e <;> first|exact h|exact (h:False).elim
theorem zfd {id:Nat} {ops:Array Oper} {draw:Bool} {env:Env} {k:Env->Prog} {Q:Post} {QX:Exit->Act->World->Prop} {w:World} (hfs:∀ f ∈ fs.l,z4n P f=true) (hmix:P.follows .mixedOrders=true)
  (ha:AgreeT n env a) (hk:∀ env' a' w',z1d (z7l ops.toList) env env'->AgreeT n env' a'->(k env').wp P (λ_=>True) w' Q->QX .normal a' w')
  (h:(zl1 P n fs ops draw env k).wp P (λ_=>True) w Q):(Code.region id ops draw).wp P QX a w:=by
 have hk':∀ (c:Nat) ov' a' w',Agree n env ov' a'->(bif zik (z7l ops.toList) ov' then k (expOv ov' env) else Prog.fail c).wp P (λ_=>True) w' Q->QX .normal a' w':=λc ov' a' w' ha' h'=>by
  rw [cond_eq_ite] at h'
  split at h'
  ·rename_i hov;exact hk _ _ _ (zew hov) (AgreeT.expOv ha') h'
  ·exact h'.elim
 cases draw with
 | false =>
  refine wp_region ?_
  exact z73 hfs (hk' _) _ ha h
 | true =>
  unfold zl1 at h
  dsimp only at h
  rw [cond_eq_ite] at h
  split at h
  ·rename_i hsel
   refine ztk ?_
   refine wp_region_any hmix (zhs (T:=λ_ _=>True) _ _ _ _ ?_)
   refine z8y (QX:=z01a QX) hfs hsel (λc a w h=>h) (λov' a' w' ha' h'=>hk' _ ov' a' w' ha' h') _ ha (λj o ho h=>?_) (λ_ _ _ _ _ _=>Iff.rfl) (λ_ _ _ _ _=>trivial) trivial trivial h
   rcases Nat.lt_or_ge j ops.size with h'|h'
   ·simp [h'] at h
   ·simp [Nat.not_lt.2 h'] at h
  ·exact h.elim
theorem z0a4 (p:Nat->Prop):∀ m,p m->∃ m,p m/\∀ m',p m'->m<=m':=by
 intro m
 induction m using Nat.strongRecOn with
 | _ m ih =>
  intro hm
  by_cases h:∃ m',m'<m/\p m'
  ·obtain ⟨m',hlt,hm'⟩:=h;exact ih m' hlt hm'
  ·exact ⟨m,hm,λm' hm'=>Nat.le_of_not_lt λhlt=>h ⟨m',hlt,hm'⟩⟩
open Classical in
theorem ztj {c:Code} {Q:Exit->Act->World->Prop} {w:World} (I:Nat->Act->World->Prop) (h0:∃ m,I m a w)
  (round:∀ m a w,I m a w->c.wp P (Exit.then (λa' w'=>∃ m',m'<m/\I m' a' w') Q) a w):(Code.loop c).wp P Q a w:=by
 let μ : Act->World->Nat:=λa w=>if h:∃ m,I m a w/\∀ m',I m' a w->m<=m' then Classical.choose h else 0
 have hμ : ∀ a w m,I m a w->I (μ a w) a w /\ μ a w<=m:=λa w m hm=>by
  have hl:=z0a4 (λm=>I m a w) m hm
  have:=Classical.choose_spec hl
  simp only [μ,dif_pos hl]
  exact ⟨this.1,this.2 m hm⟩
 refine wp_loop (λa w=>∃ m,I m a w) μ h0 λa w ⟨m,hI⟩=>?_
 refine wp_mono (round _ a w (hμ a w m hI).1) λe a' w' h=>?_
 cases e with
 | normal =>
  obtain ⟨m',hlt,hm'⟩:=h
  exact ⟨⟨m',hm'⟩,Nat.lt_of_le_of_lt (hμ a' w' m' hm').2 hlt⟩
 | _=>exact h
theorem zs4 {H:Hints} {rv:List RV} (hfs:∀ f ∈ fs.l,z4n P f=true) (hmix:P.follows .mixedOrders=true) (c:Code) :
  ∀ {d b:Nat} {env:Env} {ctx:Ctx} {k:Env->Prog} {a:Act} {w:World} {Q:Post} {QX:Exit->Act->World->Prop},AgreeT n env a->0<d ->
   (∀ env',z1d (z4e c) env env'->zas P n d Q (k env') env' (QX .normal)) ->
   (∀ id k',zlh ctx id=some k'->∀ env',z1d (z4e c) env env'->zas P n d Q (k' env') env' (QX (.exit id))) ->
   (∀ env' a w,AgreeT n env' a->(z65 P env' rv []).wp P (λ_=>True) w Q->QX .ret a w) ->
   (z5q P n fs H rv c d b env ctx k).wp P (λ_=>True) w Q->c.wp P QX a w:=by
 induction c with
 | skip=>intro d b env ctx k a w Q QX ha hd hk hc hr h;exact wp_skip (hk env (z1d.refl _ _) a w Q (λ_ _ _ _ h=>h) ha h)
 | ret =>
  intro d b env ctx k a w Q QX ha hd hk hc hr h
  exact wp_ret (hr env a w ha h)
 | exit id =>
  intro d b env ctx k a w Q QX ha hd hk hc hr h
  unfold z5q at h
  split at h
  ·rename_i k' hk'
   exact wp_exit (hc id k' hk' env (z1d.refl _ _) a w Q (λ_ _ _ _ h=>h) ha h)
  ·exact h.elim
 | seq x y ihx ihy =>
  intro d b env ctx k a w Q QX ha hd hk hc hr h
  refine wp_seq ?_
  refine ihx (QX:=Exit.then (y.wp P QX) QX) ha hd (λenv' hk'=>?_) (λid k' hid env' hk'=>hc id k' hid env' (z1d.left hk')) hr h
  intro a' w' Q' hq ha' h'
  refine ihy ha' hd (λenv'' hk''=>?_) (λid k' hid env'' hk''=>?_) ?_ h'
  ·exact λa w Q'' hq''=>hk env'' (z1d.trans hk' hk'') a w Q'' λe vs w he h=>hq e vs w he (hq'' e vs w he h)
  ·exact λa w Q'' hq''=>hc id k' hid env'' (z1d.trans hk' hk'') a w Q'' λe vs w he h=>hq e vs w he (hq'' e vs w he h)
  ·exact λenv' a w ha h=>hr env' a w ha (z4x (hq 0 · · hd) h)
 | region id ops draw =>
  intro d b env ctx k a w Q QX ha hd hk hc hr h
  unfold z5q at h
  split at h
  ·refine zfd hfs hmix ha (λenv' a' w' hk' ha' h'=>?_) h
   exact hk env' hk' a' w' Q (λ_ _ _ _ h=>h) ha' h'
  ·rename_i outs ho
   unfold zix at h
   rw [cond_eq_ite] at h
   split at h
   ·rename_i hin
    refine zfd hfs hmix ha (λenv' a' w' hk' ha' h'=>?_) h
    exact z8q hin hk' hk a' w' _ (λ_ _ _ _ h=>h) ha' h'
   ·exact h.elim
 | cond c x y ihx ihy =>
  intro d b env ctx k a w Q QX ha hd hk hc hr h
  unfold z5q at h
  split at h
  ·rename_i t ht
   have ht':=z3r (g:=none) ha trivial ht
   cases t with
   | true=>exact wp_cond_true ht' (ihx ha hd (λenv' hk'=>hk env' (z1d.left hk')) (λid k' hid env' hk'=>hc id k' hid env' (z1d.left hk')) hr h)
   | false=>exact wp_cond_false ht' (ihy ha hd (λenv' hk'=>hk env' (z1d.right hk')) (λid k' hid env' hk'=>hc id k' hid env' (z1d.right hk')) hr h)
  ·rename_i t ht
   have ht':=z3r (g:=none) ha trivial ht
   split at h
   ·refine wp_cond_split ht' (λe=>?_) (λe=>?_)
    ·exact ihx ha hd (λenv' hk'=>hk env' (z1d.left hk')) (λid k' hid env' hk'=>hc id k' hid env' (z1d.left hk')) hr (h.1 e)
    ·exact ihy ha hd (λenv' hk'=>hk env' (z1d.right hk')) (λid k' hid env' hk'=>hc id k' hid env' (z1d.right hk')) hr (h.2 e)
   ·rename_i outs ho
    unfold zix at h
    rw [cond_eq_ite] at h
    split at h
    ·rename_i hin
     refine wp_cond_split ht' (λe=>?_) (λe=>?_)
     ·exact ihx ha (Nat.succ_pos d) (λenv' hk'=>z8q hin (z1d.left hk') hk) (λid k' hid env' hk'=>(hc id k' hid env' (z1d.left hk')).up)
       (λenv' a w ha h=>hr env' a w ha (z4x (λvs w h=>h.2 (by omega)) h)) (h.1 e)
     ·exact ihy ha (Nat.succ_pos d) (λenv' hk'=>z8q hin (z1d.right hk') hk) (λid k' hid env' hk'=>(hc id k' hid env' (z1d.right hk')).up)
       (λenv' a w ha h=>hr env' a w ha (z4x (λvs w h=>h.2 (by omega)) h)) (h.2 e)
    ·exact h.elim
  ·exact h.elim
 | block id x ih =>
  intro d b env ctx k a w Q QX ha hd hk hc hr h
  refine wp_block ?_
  have hexit:∀ {N:Act->World->Prop} {id':Nat},(∀ a w,QX .normal a w->N a w)->id=id'->True:=λ_ _=>trivial
  unfold z5q at h
  split at h
  ·refine ih (QX:=Exit.inBlock id QX) ha hd hk (λid' k' hid env' hk'=>?_) hr h
   simp only [zlh] at hid
   cases hii:Nat.beq id id' with
   | true =>
    rw [hii] at hid
    obtain rfl:=Option.some.inj hid
    have e:=Nat.eq_of_beq_eq_true hii
    subst e
    exact (hk env' hk').mono λa w h=>by simp only [Exit.inBlock,if_true];exact h
   | false =>
    rw [hii] at hid
    have e:¬ id'=id:=λe=>by subst e;rw [Nat.beq_refl] at hii;cases hii
    exact (hc id' k' hid env' hk').mono λa w h=>by simp only [Exit.inBlock,if_neg e];exact h
  ·rename_i outs ho
   unfold zix at h
   rw [cond_eq_ite] at h
   split at h
   ·rename_i hin
    refine ih (QX:=Exit.inBlock id QX) ha (Nat.succ_pos d) (λenv' hk'=>z8q hin hk' hk) (λid' k' hid env' hk'=>?_) (λenv' a w ha h=>hr env' a w ha (z4x (λvs w h=>h.2 (by omega)) h)) h
    simp only [zlh] at hid
    cases hii:Nat.beq id id' with
    | true =>
     rw [hii] at hid
     obtain rfl:=Option.some.inj hid
     have e:=Nat.eq_of_beq_eq_true hii
     subst e
     exact (z8q hin hk' hk).mono λa w h=>by simp only [Exit.inBlock,if_true];exact h
    | false =>
     rw [hii] at hid
     have e:¬ id'=id:=λe=>by subst e;rw [Nat.beq_refl] at hii;cases hii
     exact ((hc id' k' hid env' hk').up).mono λa w h=>by simp only [Exit.inBlock,if_neg e];exact h
   ·exact h.elim
 | loop x ih =>
  intro d b env ctx k a w Q QX ha hd hk hc hr h
  unfold z5q at h
  split at h
  ·rename_i outs ho
   split at h
   ·rename_i vs hvs
    split at h
    ·rename_i fl hfl
     split at h
     ·rename_i x0 hx0
      rw [cond_eq_ite] at h
      split at h
      ·rename_i hin
       have hv0:z1b (shs outs) x0=vs:=by unfold z1b;rw [zkm hx0,zat hfl]
       obtain ⟨I,⟨m,hI0⟩,hI⟩:=h
       refine ztj (λm a w=>∃ y,I m y w/\AgreeT n (z7j (z4e x) outs (z1b (shs outs) y) env) a/\(z7w outs (z1b (shs outs) y)).map (·.1)=slots outs)
        ⟨m,x0,hI0,AgreeT.join ha (z1d.refl _ _) (by rw [hv0];exact hvs),z6m (by rw [hv0];exact hvs)⟩ ?_
       rintro m a w ⟨x1,hI1,ha1,hsl⟩
       have hkeep:=zcj (env:=env) hin hsl
       refine ih (QX:=Exit.then _ QX) ha1 (Nat.succ_pos d) (λenv' hk'=>?_) (λid k' hid env' hk'=>?_) (λenv' a w ha h=>hr env' a w ha (z4x (λvs w h=>h.2 (by omega)) h)) (hI m x1 w hI1)
       ·intro a' w' Q' hq ha' h'
        obtain ⟨vs',hv',h''⟩:=zqp h'
        obtain ⟨x',m',hlt,rfl,hI'⟩:=(hq d vs' w' (by omega) h'').1 rfl
        have hke:z1d (z4e x) env env':=λs hs=>by rw [hk' s hs,hkeep s hs]
        exact ⟨m',hlt,x',hI',AgreeT.join ha' hke hv',z6m hv'⟩
       ·exact ((hc id k' hid env' λs hs=>by rw [hk' s hs,hkeep s hs]).up)
      ·exact h.elim
     ·exact h.elim
    ·exact h.elim
   ·exact h.elim
  ·exact h.elim
 | scope x ih =>
  intro d b env ctx k a w Q QX ha hd hk hc hr h
  exact wp_scope_straight (ih (QX:=Exit.noGoto QX) ha hd hk hc hr h)
 | label l=>intro d b env ctx k a w Q QX ha hd hk hc hr h;exact wp_label (hk env (z1d.refl _ _) a w Q (λ_ _ _ _ h=>h) ha h)
 | _=>intro d b env ctx k a w Q QX ha hd hk hc hr h;exact h.elim
def zb2:Nat->List Base->Env
 | _,[]=>[]
 | i,b::r=>(i,some b)::zb2 (i+1) r
def ziw (P:Program) (n:Nat) (fs:Fs) (H:Hints) (rv:List RV) (c:Code) (args:List Base):Prog :=
 bif Nat.ble args.length n then z5q P n fs H rv c 1 0 (zb2 0 args) [] (λenv=>z65 P env rv []) else .fail 43
def z90:List Value->Value
 | [v]=>v
 | vs=>.tuple vs.toArray
def zax:List ResultVar->List RV
 | []=>[]
 | .tmp t::r=>.tmp t::zax r
 | .cell t ty::r=>.cell t ty::zax r
theorem ziy:∀ {i:Nat} {l:List Base} {s:Nat} {b:Base},(zb2 i l).get s=some b->i<=s/\l[s-i]? = some b
 | i,[],s,b,h=>by simp [zb2,Env.get] at h
 | i,b'::r,s,b,h=>by
  simp only [zb2,Env.get] at h
  cases his:Nat.beq i s with
  | true =>
   rw [his] at h
   have:=Nat.eq_of_beq_eq_true his
   subst this
   simpa using h
  | false =>
   rw [his] at h
   have hne:i≠s:=Nat.ne_of_beq_eq_false his
   obtain ⟨h1,h2⟩:=ziy h
   refine ⟨by omega,?_⟩
   rw [show s-i=(s-(i+1))+1 by omega,List.getElem?_cons_succ]
   exact h2
def zbh (tmps:Array Value):ResultVar->Sem Value
 | .tmp t=>pure (tmps.getD t undef)
 | .cell x t=>do loadVar t (<- asAddr (tmps.getD x undef))
theorem zga {env:Env} {Q:Post} (ha:AgreeT n env a):∀ {l:List ResultVar} {acc:List Value} {w:World},(z65 P env (zax l) acc).wp P (λ_=>True) w Q ->
  ∃ vs,(l.mapM (zbh a.tmps)).run P w=.ok vs w/\Q 0 (acc.reverse++vs) w
 | [],acc,w,h=>⟨[],by simp,by simpa [z65,zax,Prog.wp] using h⟩
 | .tmp t::r,acc,w,h=>by
  simp only [zax,z65] at h
  split at h
  ·rename_i b hb
   obtain ⟨vs,hv,hq⟩:=zga ha h
   refine ⟨b.v::vs,?_,by simpa using hq⟩
   simp only [List.mapM_cons,zbh,Sem.run_bind,Sem.run_pure,Result.andThen_ok,hv]
   simp [ha.slot hb]
  ·exact h.elim
 | .cell t ty::r,acc,w,h=>by
  simp only [zax,z65] at h
  split at h
  ·rename_i x s hb hs
   obtain ⟨y,hy,h⟩:=h
   obtain ⟨vs,hv,hq⟩:=zga ha h
   refine ⟨(Sh.one s).mk y::vs,?_,by simpa using hq⟩
   have hy:=hy trivial
   have hslot:=ha.slot hb
   have hlv:(loadVar ty x).run P w=.ok ((Sh.one s).mk y) w:=by
    simpa [Instr.loadAt,Instr.sureAddr] using hy
   have hg:a.tmps.getD t undef=.pointer (some x):=by simp [hslot]
   simp only [List.mapM_cons,zbh,hg,asAddr,Sem.run_bind,Sem.run_pure,Result.andThen_ok,hlv,hv]
  ·exact h.elim
theorem znv {fn:Func} {vs:List Value} {tmps:Array Value} {w:World} (h:(fn.results.toList.mapM (zbh tmps)).run P w=.ok vs w):(results fn tmps).run P w=.ok (z90 vs) w:=by
 have hr:fn.results=(fn.results.toList).toArray:=by simp
 have hm:∀ (f:ResultVar->Sem Value),(∀ r,f r=zbh tmps r)->(fn.results.toList.mapM f).run P w=.ok vs w:=by
  intro f hf
  rw [show f=zbh tmps from funext hf];exact h
 unfold results
 rw [hr,List.mapM_toArray,Sem.run_bind,Sem.run_map,hm _ (λr=>by cases r <;> rfl)]
 simp only [Result.andThen_ok,Sem.run_pure]
 cases vs with
 | nil=>rfl
 | cons t r=>cases r <;> rfl
structure IsFn (P:Program) (f:FuncId) (n:Nat) (rv:List RV) (c:Code):Prop where
 ok:∃ fn,P.funcs[f]? = some fn/\fn.body=some c/\fn.ntmps=n/\zax fn.results.toList=rv
theorem z9k {f:FuncId} {rv:List RV} {c:Code} {H:Hints} {w:World} {R:List Value->World->Prop} (hfn:IsFn P f n rv c) (hfs:∀ f ∈ fs.l,z4n P f=true) (hmix:P.follows .mixedOrders=true) (args:List Base)
  (h:(ziw P n fs H rv c args).wp P (λ_=>True) w λe vs w'=>e=0/\R vs w') :
  Calls P f (args.map Base.v).toArray w λe w'=>∃ vs,e=.returned (z90 vs)/\R vs w':=by
 obtain ⟨fn,hf,hb,hn,hr⟩:=hfn.ok
 unfold ziw at h
 rw [cond_eq_ite] at h
 split at h
 ·rename_i hle
  have hle:=Nat.le_of_ble_eq_true hle
  refine calls_of_wp hf hb ?_
  have ha:AgreeT n (zb2 0 args) { tmps:=(args.map Base.v).toArray++Array.replicate (fn.ntmps-(args.map Base.v).toArray.size) undef,defers:=[] }:=by
   refine AgreeT.mk' (by simp [hn];omega) rfl λs b hb=>?_
   obtain ⟨_,h2⟩:=ziy hb
   simp only [Nat.sub_zero] at h2
   have hlt:s<args.length:=(List.getElem?_eq_some_iff.1 h2).1
   rw [Array.getElem?_append_left (by simpa using hlt)]
   simp [h2]
  have hend:∀ env' a w,AgreeT n env' a->(z65 P env' rv []).wp P (λ_=>True) w (λe vs w'=>e=0/\R vs w') ->
    a.defers=[]/\∃ v,(results fn a.tmps).run P w=.ok v w/\∃ vs,Ending.returned v=.returned (z90 vs)/\R vs w:=λenv' a w ha h=>by
   rw [<- hr] at h
   obtain ⟨vs,hv,hq⟩:=zga ha h
   exact ⟨ha.defers,_,znv hv,vs,rfl,by simpa using hq.2⟩
  refine zs4 hfs hmix c ha (Nat.succ_pos 0) (λenv' hk'=>?_) (λid k' hid=>by cases hid) (λenv' a w ha h=>?_) h
  ·intro a w Q' hq ha' h'
   exact hend env' a w ha' (z4x (λvs w h=>hq 0 vs w (Nat.succ_pos 0) h) h')
  ·exact hend env' a w ha h
 ·exact h.elim
end
@[reducible] def u0 (p:Prog):Unit->Prog:=λ_=>p
@[reducible] def u1 {α:Type} (f:α->Prog):α × Unit->Prog:=λx=>f x.1
@[reducible] def u2 {α β:Type} (f:α->β->Prog):α × β × Unit->Prog:=λx=>f x.1 x.2.1
@[reducible] def u3 {α β γ:Type} (f:α->β->γ->Prog):α × β × γ × Unit->Prog:=λx=>f x.1 x.2.1 x.2.2.1
@[reducible] def u4 {α β γ δ:Type} (f:α->β->γ->δ->Prog):α × β × γ × δ × Unit->Prog:=λx=>f x.1 x.2.1 x.2.2.1 x.2.2.2.1
@[reducible] def u5 {α β γ δ ε:Type} (f:α->β->γ->δ->ε->Prog):α × β × γ × δ × ε × Unit->Prog:=λx=>f x.1 x.2.1 x.2.2.1 x.2.2.2.1 x.2.2.2.2.1
@[reducible] def u6 {α β γ δ ε ζ:Type} (f:α->β->γ->δ->ε->ζ->Prog):α × β × γ × δ × ε × ζ × Unit->Prog:=λx=>f x.1 x.2.1 x.2.2.1 x.2.2.2.1 x.2.2.2.2.1 x.2.2.2.2.2.1
@[reducible] def u7 {α β γ δ ε ζ η:Type} (f:α->β->γ->δ->ε->ζ->η->Prog):α × β × γ × δ × ε × ζ × η × Unit->Prog:=λx=>f x.1 x.2.1 x.2.2.1 x.2.2.2.1 x.2.2.2.2.1 x.2.2.2.2.2.1 x.2.2.2.2.2.2.1
@[reducible] def ld (t:TypeId) (a:Addr):Sem Value:=Instr.loadAt t (.pointer (some a))
@[reducible] def st (t:TypeId) (a:Addr) (v:Value):Sem Unit:=Instr.storeAt t (.pointer (some a)) v
@[reducible] def new (t:TypeId):Sem Value:=Instr.alloc t true (.tuple #[])
@[reducible] def app (t u r:TypeId) (x y:Value):Sem Value:=Builtin.append_ #[t,u] r #[x,y]
@[reducible] def c1 {α:Type} (f:α->Prop):α × Unit->Prop:=λx=>f x.1
@[reducible] def zb4 (f:Func):Code:=f.body.getD .skip
@[reducible] def sI (k:IntKind):Sh:=.one (.one (.int k))
@[reducible] def sB:Sh:=.one (.one .bool)
@[reducible] def sS:Sh:=.one (.one .str)
@[reducible] def sP:Sh:=.one (.one .ptr)
@[reducible] def sA:Sh:=.one (.one .adr)
@[reducible] def sL:Sh:=.one (.one .slc)
@[reducible] def sM:Sh:=.one (.one .map)
@[reducible] def sG (l:List Pr):Sh:=.one (.agg l)
@[reducible] def Sl.v (l:Sl):Value:=.slice l.a l.len l.cap
theorem zi8 {P:Program} {f:FuncId} {fn:Func} {n:Nat} {rv:List RV} (h:P.funcs[f]? = some fn) (hb:fn.body.isSome=true) (hn:fn.ntmps=n) (hr:zax fn.results.toList=rv) :
  IsFn P f n rv (zb4 fn) :=
 ⟨fn,h,by unfold zb4;cases hc:fn.body <;> simp_all,hn,hr⟩
@[reducible] def u8 {A0 A1 A2 A3 A4 A5 A6 A7:Type} (f:A0->A1->A2->A3->A4->A5->A6->A7->Prog):A0 × A1 × A2 × A3 × A4 × A5 × A6 × A7 × Unit->Prog:=λx=>f x.1 x.2.1 x.2.2.1 x.2.2.2.1 x.2.2.2.2.1 x.2.2.2.2.2.1 x.2.2.2.2.2.2.1 x.2.2.2.2.2.2.2.1
@[reducible] def u9 {A0 A1 A2 A3 A4 A5 A6 A7 A8:Type} (f:A0->A1->A2->A3->A4->A5->A6->A7->A8->Prog):A0 × A1 × A2 × A3 × A4 × A5 × A6 × A7 × A8 × Unit->Prog:=λx=>f x.1 x.2.1 x.2.2.1 x.2.2.2.1 x.2.2.2.2.1 x.2.2.2.2.2.1 x.2.2.2.2.2.2.1 x.2.2.2.2.2.2.2.1 x.2.2.2.2.2.2.2.2.1
@[reducible] def u10 {A0 A1 A2 A3 A4 A5 A6 A7 A8 A9:Type} (f:A0->A1->A2->A3->A4->A5->A6->A7->A8->A9->Prog):A0 × A1 × A2 × A3 × A4 × A5 × A6 × A7 × A8 × A9 × Unit->Prog:=λx=>f x.1 x.2.1 x.2.2.1 x.2.2.2.1 x.2.2.2.2.1 x.2.2.2.2.2.1 x.2.2.2.2.2.2.1 x.2.2.2.2.2.2.2.1 x.2.2.2.2.2.2.2.2.1 x.2.2.2.2.2.2.2.2.2.1
@[reducible] def u11 {A0 A1 A2 A3 A4 A5 A6 A7 A8 A9 A10:Type} (f:A0->A1->A2->A3->A4->A5->A6->A7->A8->A9->A10->Prog):A0 × A1 × A2 × A3 × A4 × A5 × A6 × A7 × A8 × A9 × A10 × Unit->Prog:=λx=>f x.1 x.2.1 x.2.2.1 x.2.2.2.1 x.2.2.2.2.1 x.2.2.2.2.2.1 x.2.2.2.2.2.2.1 x.2.2.2.2.2.2.2.1 x.2.2.2.2.2.2.2.2.1 x.2.2.2.2.2.2.2.2.2.1 x.2.2.2.2.2.2.2.2.2.2.1
@[reducible] def u12 {A0 A1 A2 A3 A4 A5 A6 A7 A8 A9 A10 A11:Type} (f:A0->A1->A2->A3->A4->A5->A6->A7->A8->A9->A10->A11->Prog):A0 × A1 × A2 × A3 × A4 × A5 × A6 × A7 × A8 × A9 × A10 × A11 × Unit->Prog:=λx=>f x.1 x.2.1 x.2.2.1 x.2.2.2.1 x.2.2.2.2.1 x.2.2.2.2.2.1 x.2.2.2.2.2.2.1 x.2.2.2.2.2.2.2.1 x.2.2.2.2.2.2.2.2.1 x.2.2.2.2.2.2.2.2.2.1 x.2.2.2.2.2.2.2.2.2.2.1 x.2.2.2.2.2.2.2.2.2.2.2.1
@[reducible] def u13 {A0 A1 A2 A3 A4 A5 A6 A7 A8 A9 A10 A11 A12:Type} (f:A0->A1->A2->A3->A4->A5->A6->A7->A8->A9->A10->A11->A12->Prog):A0 × A1 × A2 × A3 × A4 × A5 × A6 × A7 × A8 × A9 × A10 × A11 × A12 × Unit->Prog:=λx=>f x.1 x.2.1 x.2.2.1 x.2.2.2.1 x.2.2.2.2.1 x.2.2.2.2.2.1 x.2.2.2.2.2.2.1 x.2.2.2.2.2.2.2.1 x.2.2.2.2.2.2.2.2.1 x.2.2.2.2.2.2.2.2.2.1 x.2.2.2.2.2.2.2.2.2.2.1 x.2.2.2.2.2.2.2.2.2.2.2.1 x.2.2.2.2.2.2.2.2.2.2.2.2.1
@[reducible] def u14 {A0 A1 A2 A3 A4 A5 A6 A7 A8 A9 A10 A11 A12 A13:Type} (f:A0->A1->A2->A3->A4->A5->A6->A7->A8->A9->A10->A11->A12->A13->Prog):A0 × A1 × A2 × A3 × A4 × A5 × A6 × A7 × A8 × A9 × A10 × A11 × A12 × A13 × Unit->Prog:=λx=>f x.1 x.2.1 x.2.2.1 x.2.2.2.1 x.2.2.2.2.1 x.2.2.2.2.2.1 x.2.2.2.2.2.2.1 x.2.2.2.2.2.2.2.1 x.2.2.2.2.2.2.2.2.1 x.2.2.2.2.2.2.2.2.2.1 x.2.2.2.2.2.2.2.2.2.2.1 x.2.2.2.2.2.2.2.2.2.2.2.1 x.2.2.2.2.2.2.2.2.2.2.2.2.1 x.2.2.2.2.2.2.2.2.2.2.2.2.2.1
@[reducible] def u15 {A0 A1 A2 A3 A4 A5 A6 A7 A8 A9 A10 A11 A12 A13 A14:Type} (f:A0->A1->A2->A3->A4->A5->A6->A7->A8->A9->A10->A11->A12->A13->A14->Prog):A0 × A1 × A2 × A3 × A4 × A5 × A6 × A7 × A8 × A9 × A10 × A11 × A12 × A13 × A14 × Unit->Prog:=λx=>f x.1 x.2.1 x.2.2.1 x.2.2.2.1 x.2.2.2.2.1 x.2.2.2.2.2.1 x.2.2.2.2.2.2.1 x.2.2.2.2.2.2.2.1 x.2.2.2.2.2.2.2.2.1 x.2.2.2.2.2.2.2.2.2.1 x.2.2.2.2.2.2.2.2.2.2.1 x.2.2.2.2.2.2.2.2.2.2.2.1 x.2.2.2.2.2.2.2.2.2.2.2.2.1 x.2.2.2.2.2.2.2.2.2.2.2.2.2.1 x.2.2.2.2.2.2.2.2.2.2.2.2.2.2.1
@[reducible] def u16 {A0 A1 A2 A3 A4 A5 A6 A7 A8 A9 A10 A11 A12 A13 A14 A15:Type} (f:A0->A1->A2->A3->A4->A5->A6->A7->A8->A9->A10->A11->A12->A13->A14->A15->Prog):A0 × A1 × A2 × A3 × A4 × A5 × A6 × A7 × A8 × A9 × A10 × A11 × A12 × A13 × A14 × A15 × Unit->Prog:=λx=>f x.1 x.2.1 x.2.2.1 x.2.2.2.1 x.2.2.2.2.1 x.2.2.2.2.2.1 x.2.2.2.2.2.2.1 x.2.2.2.2.2.2.2.1 x.2.2.2.2.2.2.2.2.1 x.2.2.2.2.2.2.2.2.2.1 x.2.2.2.2.2.2.2.2.2.2.1 x.2.2.2.2.2.2.2.2.2.2.2.1 x.2.2.2.2.2.2.2.2.2.2.2.2.1 x.2.2.2.2.2.2.2.2.2.2.2.2.2.1 x.2.2.2.2.2.2.2.2.2.2.2.2.2.2.1 x.2.2.2.2.2.2.2.2.2.2.2.2.2.2.2.1
end Go.Dec
