/- What the claim of this folder leans on: our own texts, joined, without what it does not use. -/
import Derived.Test.YtogdpmpccmpekaaGreatRows
import Derived.WalkKit
import Derived.ProofKit
import Derived.OpenShut
import Derived.RowKit3
import Derived.OrdersHeld
import Derived.Scope
import Derived.KernelRfl
import Derived.Laws.Sem
import Derived.Laws.StructEq
import Derived.Deep.AppendSrc
import Derived.Laws.BytesArg
import Derived.Laws.RangeString
import Derived.Maps.RangeRun
import Derived.Lib.ConvBytes
import Derived.Lib.SlBytesConst
import Derived.ChangeSlices
import Derived.ChangeMaps5
import Derived.ChangeSame
import Derived.Deep.Slices
import Derived.Deep.Fields
import Derived.Test.YtogdpmpccmpekaaGreatProg
import Derived.Laws.MakeOwn
import Derived.WideKeyRuns
import Derived.DeepKeys3
import Derived.Shelf.SlSortCmp.WholeK
import Derived.Shelf.SlSortCmp.NoneTotal
import Derived.Sort.MapsRangeIn
import Derived.Sort.KeysCollected
import Derived.RangeFuncNested
import Derived.RangeFuncBound
import Derived.RangeFuncCalls
import Derived.RangeFuncLeaves
import Derived.RangeFuncBox
import Derived.OwnWalkIn
import Derived.TacticsInMore
import Derived.RegionIn
import Derived.LoopNIn
import Derived.LoopIn
import Derived.Maps.AppendAt
import Derived.Shelf.Abstract
import Derived.Shelf.Sort.Plain
import Derived.Shelf.Slices.In.SortNone
import Derived.Lib.AppendZerosOnto
import Derived.Lib.Overlaps
set_option linter.unusedVariables false
set_option linter.unusedSimpArgs false
namespace Go.Dec
inductive Pr where
 | int (k:IntKind)|bool|str|ptr|adr|slc|map|any
structure Sl where
 a:Option Addr
 len:Nat
 cap:Nat
@[reducible] def Pr.D:Pr->Type
 | .int _=>Int | .bool=>Bool | .str=>ByteArray | .ptr=>Option Addr | .adr=>Addr | .slc=>Sl | .map=>Option Nat | .any=>Value
@[reducible] def Pr.mk:(p:Pr)->p.D->Value
 | .int k,n=>.int k n
 | .bool,x=>.bool x
 | .str,x=>.string x
 | .ptr,x=>.pointer x
 | .adr,x=>.pointer (some x)
 | .slc,x=>.slice x.a x.len x.cap
 | .map,x=>.map x
 | .any,x=>x
@[reducible] def HL:List Pr->Type
 | []=>Unit
 | p::ps=>p.D × HL ps
@[reducible] def HL.vals:(ps:List Pr)->HL ps->List Value
 | [],_=>[]
 | p::ps,x=>p.mk x.1::HL.vals ps x.2
inductive Sh1 where
 | one (p:Pr)|agg (ps:List Pr)
@[reducible] def Sh1.prims:Sh1->List Pr
 | .one p=>[p]
 | .agg ps=>ps
@[reducible] def prims:List Sh1->List Pr
 | []=>[]
 | s::r=>s.prims++prims r
@[reducible] def build:List Sh1->List Value->List Value
 | [],_=>[]
 | .one _::r,v::vs=>v::build r vs
 | .one _::_,[]=>[]
 | .agg ps::r,vs=>.agg (vs.take ps.length).toArray::build r (vs.drop ps.length)
inductive Sh where
 | one (s:Sh1)|tup (l:List Sh1)
@[reducible] def Sh.prims:Sh->List Pr
 | .one s=>s.prims
 | .tup l=>Dec.prims l
@[reducible] def Sh.mk:(s:Sh)->HL s.prims->Value
 | .one (.one p),x=>p.mk x.1
 | .one (.agg ps),x=>.agg (HL.vals ps x).toArray
 | .tup l,x=>.tuple (build l (HL.vals (Dec.prims l) x)).toArray
@[reducible] def z1e (ss:List Sh1) (x:HL (prims ss)):List Value:=build ss (HL.vals (prims ss) x)
inductive Prog:Type where
 | fail (why:Nat)
 | done (e:Nat) (vs:List Value)
 | must (c:Prop) (k:Prog)
 | lt (p:Pr) (x:p.D) (k:p.D->Prog)
 | ex (ps:List Pr) (c:HL ps->Prop) (k:HL ps->Prog)
 | read (g:Prop) (m:Sem Value) (s:Sh) (k:HL s.prims->Prog)
 | hold (g:Prop) (m:Sem Value) (s:Sh) (k:HL s.prims->Prog)
 | act (m:Sem Value) (s:Sh) (k:HL s.prims->Prog)
 | actU (m:Sem Unit) (k:Prog)
 | next (m:Sem Value) (ss:List Sh1) (k1:HL (prims ss)->Prog) (k0:Prog)
 | call (f:FuncId) (args:List Value) (s:Sh) (k:HL s.prims->Prog)
 | callv (f:Value) (args:List Value) (s:Sh) (k:HL s.prims->Prog)
 | ite (b:Bool) (p q:Prog)
 | bind (e:Nat) (ss:List Sh1) (p:Prog) (k:HL (prims ss)->Prog)
 | loop (e:Nat) (ss:List Sh1) (x:HL (prims ss)) (body:HL (prims ss)->Prog)
 | both (p q:Prog)
 | tick (k:Prog)
 | untick (k:Prog)
abbrev Post:=Nat->List Value->World->Prop
@[reducible] def Post.catch (Q:Post) (e:Nat) (C:List Value->World->Prop):Post:=λe' vs w=>(e'=e->C vs w)/\(e'≠e->Q e' vs w)
def Prog.wp (P:Program):Prog->(World->Prop)->World->Post->Prop
 | .fail _,_,_,_=>False
 | .done e vs,_,w,Q=>Q e vs w
 | .must c k,S,w,Q=>c/\k.wp P S w Q
 | .lt _ x k,S,w,Q=>(k x).wp P S w Q
 | .ex _ c k,S,w,Q=>∃ x,c x/\(k x).wp P S w Q
 | .read g m s k,S,w,Q=>∃ x,(g->m.run P w=.ok (s.mk x) w)/\(k x).wp P S w Q
 | .hold g m s k,S,w,Q=>∃ x,(g->m.run P w=.ok (s.mk x) w)/\(k x).wp P (λw'=>S w'/\(g->m.run P w'=.ok (s.mk x) w')) w Q
 | .act m s k,S,w,Q=>∃ x w',m.run P w=.ok (s.mk x) w'/\S w'/\(k x).wp P S w' Q
 | .actU m k,S,w,Q=>∃ w',m.run P w=.ok () w'/\S w'/\k.wp P S w' Q
 | .next m ss k1 k0,S,w,Q =>
  (∃ x w',m.run P w=.ok (.tuple (.bool true::z1e ss x).toArray) w'/\S w'/\(k1 x).wp P S w' Q) \/
  (∃ w',m.run P w=.ok (.tuple #[.bool false]) w'/\S w'/\k0.wp P S w' Q)
 | .call f args s k,S,w,Q=>Calls P f args.toArray w λe w'=>∃ x,e=.returned (s.mk x)/\S w'/\(k x).wp P S w' Q
 | .callv fv args s k, S, w, Q => ∃ f first cap, fv = .func (.func f) first cap ∧ (P.funcs[f]?).any (fun fn => fn.body.isSome && fn.name != "runtime.NumGoroutine") = true ∧
   Calls P f (first++args.toArray++cap) w λe w'=>∃ x,e=.returned (s.mk x)/\S w'/\(k x).wp P S w' Q
 | .ite b p q,S,w,Q=>(b=true->p.wp P S w Q)/\(b=false->q.wp P S w Q)
 | .bind e ss p k,S,w,Q=>p.wp P S w (Q.catch e λvs w'=>∃ x,vs=z1e ss x/\(k x).wp P S w' Q)
 | .loop e ss x body,S,w,Q=>∃ I:Nat->HL (prims ss)->World->Prop,(∃ n,I n x w) /\
   ∀ n x w,I n x w->(body x).wp P S w (Q.catch e λvs w'=>∃ x' m,m<n/\vs=z1e ss x'/\I m x' w')
 | .both p q,S,w,Q=>p.wp P S w Q/\q.wp P S w Q
 | .tick k,S,w,Q=>k.wp P S { w with drawn:=w.drawn+1 } Q
 | .untick k,_,w,Q=>k.wp P (λ_=>True) w Q
theorem Prog.wp_mono {P:Program} (p:Prog):∀ {S:World->Prop} {w:World} {Q Q':Post},(∀ e vs w,Q e vs w->Q' e vs w)->p.wp P S w Q->p.wp P S w Q':=by
 induction p with
 | fail _=>exact λ_ h=>h
 | done e vs=>exact λhq h=>hq _ _ _ h
 | must c k ih=>exact λhq h=>⟨h.1,ih hq h.2⟩
 | lt p x k ih=>exact λhq h=>ih x hq h
 | ex ps c k ih=>exact λhq ⟨x,hc,h⟩=>⟨x,hc,ih x hq h⟩
 | read g m s k ih=>exact λhq ⟨x,hc,h⟩=>⟨x,hc,ih x hq h⟩
 | hold g m s k ih=>exact λhq ⟨x,hc,h⟩=>⟨x,hc,ih x hq h⟩
 | act m s k ih=>exact λhq ⟨x,w',hc,hs,h⟩=>⟨x,w',hc,hs,ih x hq h⟩
 | actU m k ih=>exact λhq ⟨w',hc,hs,h⟩=>⟨w',hc,hs,ih hq h⟩
 | next m ss k1 k0 ih1 ih0 =>
  intro S w Q Q' hq h
  rcases h with ⟨x,w',hc,hs,h⟩|⟨w',hc,hs,h⟩
  ·exact .inl ⟨x,w',hc,hs,ih1 x hq h⟩
  ·exact .inr ⟨w',hc,hs,ih0 hq h⟩
 | call f args s k ih=>exact λhq h=>Calls.mono h λe w' ⟨x,he,hs,h⟩=>⟨x,he,hs,ih x hq h⟩
 | callv f args s k ih=>exact λhq ⟨f,a,b,h1,h2,h⟩=>⟨f,a,b,h1,h2,Calls.mono h λe w' ⟨x,he,hs,h⟩=>⟨x,he,hs,ih x hq h⟩⟩
 | ite b p q ih1 ih2=>exact λhq h=>⟨λhb=>ih1 hq (h.1 hb),λhb=>ih2 hq (h.2 hb)⟩
 | bind e ss p k ih1 ih2 =>
  exact λhq h=>ih1 (λe' vs w h'=>⟨λhe=>let ⟨x,hx,h''⟩:=h'.1 he;⟨x,hx,ih2 x hq h''⟩,λhe=>hq _ _ _ (h'.2 he)⟩) h
 | loop e ss x body ih =>
  exact λhq ⟨I,h0,h⟩=>⟨I,h0,λn x w hI=>ih x (λe' vs w h'=>⟨h'.1,λhe=>hq _ _ _ (h'.2 he)⟩) (h n x w hI)⟩
 | both p q ih1 ih2=>exact λhq h=>⟨ih1 hq h.1,ih2 hq h.2⟩
 | tick k ih=>exact λhq h=>ih hq h
 | untick k ih=>exact λhq h=>ih hq h
inductive Base where
 | val (v:Value)|lit (v:Value)|adr (a:Addr)|any (v:Value)
@[reducible] def Base.v:Base->Value
 | .val v=>v
 | .lit v=>v
 | .adr a=>.pointer (some a)
 | .any v=>v
structure Ent where
 b:Base
 g:Option (Nat × Bool)
abbrev Env:=List (Nat × Option Base)
abbrev Ov:=List (Nat × Ent)
def Env.get:Env->Nat->Option Base
 | [],_=>none
 | (t,e)::r,s=>bif Nat.beq t s then e else Env.get r s
def Ov.get (env:Env):Ov->Nat->Option Ent
 | [],s=>match env.get s with
  | some b=>some ⟨b,none⟩
  | none=>none
 | (t,e)::r,s=>bif Nat.beq t s then some e else Ov.get env r s
def zg6:Option (Nat × Bool)->Nat->Bool->Bool
 | some (s,w),t,u=>Nat.beq s t && (w == u)
 | none,_,_=>false
def opE (env:Env) (ov:Ov) (g:Option (Nat × Bool)):Operand->Option Base
 | .tmp t=>match ov.get env t with
  | some ⟨b,none⟩=>some b
  | some ⟨b,some (s,w)⟩=>bif zg6 g s w then some b else none
  | none=>none
 | .const v=>some (.lit v)
 | .global n=>some (.adr ⟨n,0,none⟩)
 | .func f=>some (.val (.func (.func f) #[] #[]))
def opV (env:Env) (ov:Ov) (g:Option (Nat × Bool)) (x:Operand):Value :=
 match opE env ov g x with
 | some b=>b.v
 | none=>undef
def zu5 {α:Type}:Option α->Bool
 | some _=>true
 | none=>false
def zfz (env:Env) (ov:Ov) (g:Option (Nat × Bool)) (o:Oper):Bool :=
 o.op.operands.toList.all λx=>zu5 (opE env ov g x)
def zeg (a:Act):Option (Nat × Bool)->Prop
 | none=>True
 | some (s,w)=>a.tmps[s]? = some (.bool w)
def Ent.Ok (a:Act) (s:Nat) (e:Ent):Prop :=
 match e.g with
 | none=>a.tmps[s]? = some e.b.v
 | some (t,w)=>(a.tmps[t]? = some (.bool w)->a.tmps[s]? = some e.b.v)/\(¬ a.tmps[t]? = some (.bool w)->a.tmps[s]? = some undef)
structure Agree (n:Nat) (env:Env) (ov:Ov) (a:Act):Prop where
 size:a.tmps.size=n
 defers:a.defers=[]
 slots:∀ s e,ov.get env s=some e->e.Ok a s
theorem zpm {g:Option (Nat × Bool)} {s:Nat} {w:Bool} (h:zg6 g s w=true):g=some (s,w):=by
 cases g with
 | none=>simp [zg6] at h
 | some x =>
  obtain ⟨t,u⟩:=x;simp only [zg6,Bool.and_eq_true] at h;rw [Nat.eq_of_beq_eq_true h.1,eq_of_beq h.2]
theorem z42 {n:Nat} {env:Env} {ov:Ov} {a:Act} {g:Option (Nat × Bool)} (ha:Agree n env ov a) (hg:zeg a g) {x:Operand} {b:Base}
  (h:opE env ov g x=some b):a.eval x=b.v:=by
 cases x with
 | tmp t =>
  simp only [opE] at h
  have key:∀ v,a.tmps[t]? = some v->a.eval (.tmp t)=v:=λv hv=>by simp [Act.eval,hv]
  cases hget:ov.get env t with
  | none=>rw [hget] at h;cases h
  | some e =>
   obtain ⟨b',g'⟩:=e;rw [hget] at h;have hs:=ha.slots t _ hget
   cases g' with
   | none =>
    obtain rfl:=Option.some.inj h;exact key _ hs
   | some x =>
    obtain ⟨s,w⟩:=x;simp only [cond_eq_ite] at h
    by_cases hsame:zg6 g s w=true
    ·rw [if_pos hsame] at h;obtain rfl:=Option.some.inj h;have:=zpm hsame;subst this;exact key _ (hs.1 hg)
    ·rw [if_neg hsame] at h;cases h
 | const v=>simp only [opE] at h;obtain rfl:=Option.some.inj h;rfl
 | global k=>simp only [opE] at h;obtain rfl:=Option.some.inj h;rfl
 | func f=>simp only [opE] at h;obtain rfl:=Option.some.inj h;rfl
theorem z0cy {n:Nat} {env:Env} {ov:Ov} {a:Act} {g:Option (Nat × Bool)} (ha:Agree n env ov a) (hg:zeg a g) {x:Operand}
  (h:zu5 (opE env ov g x)=true):opV env ov g x=a.eval x:=by
 unfold opV
 cases hx:opE env ov g x with
 | none=>rw [hx] at h;cases h
 | some b=>exact (z42 ha hg hx).symm
def zj0:Op->Bool
 | .select _ _=>false
 | _=>true
theorem z8o {n:Nat} {env:Env} {ov:Ov} {a:Act} {g:Option (Nat × Bool)} {o:Oper} (ha:Agree n env ov a) (hg:zeg a g)
  (hk:zfz env ov g o=true) (hs:zj0 o.op=true):execOp a.eval o=execOp (opV env ov g) o:=by
 refine execOp_congr o (λcs b h=>by rw [h] at hs;cases hs) λx hx=>?_;have:=List.all_eq_true.1 hk x (by simpa using hx);exact (z0cy ha hg this).symm
def zao {α:Type} (P:Program):Sem α->Option α
 | .pure a=>some a
 | .program k=>zao P (k P)
 | _=>none
theorem zj7 {α:Type} {P:Program}:∀ {m:Sem α} {x:α},zao P m=some x->∀ w,m.run P w=.ok x w:=by
 intro m
 induction m with
 | pure a=>intro x h w;simp only [zao,Option.some.injEq] at h;subst h;rfl
 | program k ih=>intro x h w;exact ih P h w
 | _=>intro x h;simp [zao] at h
inductive PR where
 | pure (b:Base)
 | must (c:Prop) (b:Base)
 | exA (c:Addr->Prop) (b:Addr->Base)
def PR.Ok (P:Program) (m:Sem Next):PR->Prop
 | .pure b=>∀ w,m.run P w=.ok (.value b.v) w
 | .must c b=>c->∀ w,m.run P w=.ok (.value b.v) w
 | .exA c b=>∀ a,c a->∀ w,m.run P w=.ok (.value (b a).v) w
def bt (s:ByteArray) (i:Int):Int:=((s.data.toList.getD i.toNat 0).toNat:Int)
def z0k (A:Option Addr) (size l m:Nat):Option Addr:=if m=l then A else A.map (·.add (l*size))
def zhg (P:Program) (s:TypeId) (f:Nat):Option Nat :=
 match P.underlying s with
 | some (.struct fs)=>match fs[f]? with
  | some fd=>match P.info? fd.type with
   | some i=>if i.size=0 then none else some fd.offset
   | none=>none
  | none=>none
 | _=>none
def sizeOf? (P:Program) (t:TypeId):Option Nat :=
 match P.info? t with
 | some i=>some i.size
 | none=>none
def zny (s:ByteArray) (lo hi:Option Base):Option PR :=
 match lo,hi with
 | none,none=>some (.pure (.val (.string (s.extract 0 s.size))))
 | some bl,none=>match bl.v with
  | .int _ l=>some (.must (0<=l/\l<=s.size) (.val (.string (s.extract l.toNat s.size))))
  | _=>none
 | none,some bh=>match bh.v with
  | .int _ h=>some (.must (0<=h/\h<=s.size) (.val (.string (s.extract 0 h.toNat))))
  | _=>none
 | some bl,some bh=>match bl.v,bh.v with
  | .int _ l,.int _ h=>some (.must (0<=l/\l<=h/\h<=s.size) (.val (.string (s.extract l.toNat h.toNat))))
  | _,_=>none
def zfw (A:Option Addr) (len cap size:Nat) (lo hi mx:Option Base):Option PR :=
 match lo,hi,mx with
 | none,none,none=>some (.pure (.val (.slice A len cap)))
 | some bl,none,none=>match bl.v with
  | .int _ l=>some (.must (0<=l/\l<=len) (.val (.slice (z0k A size l.toNat cap) (len-l.toNat) (cap-l.toNat))))
  | _=>none
 | none,some bh,none=>match bh.v with
  | .int _ h=>some (.must (0<=h/\h<=cap) (.val (.slice A h.toNat cap)))
  | _=>none
 | some bl,some bh,none=>match bl.v,bh.v with
  | .int _ l,.int _ h=>some (.must (0<=l/\l<=h/\h<=cap) (.val (.slice (z0k A size l.toNat cap) (h.toNat-l.toNat) (cap-l.toNat))))
  | _,_=>none
 | none,some bh,some bm=>match bh.v,bm.v with
  | .int _ h,.int _ m=>some (.must (0<=h/\h<=m/\m<=cap) (.val (.slice A h.toNat m.toNat)))
  | _,_=>none
 | some bl,some bh,some bm=>match bl.v,bh.v,bm.v with
  | .int _ l,.int _ h,.int _ m=>some (.must (0<=l/\l<=h/\h<=m/\m<=cap) (.val (.slice (z0k A size l.toNat m.toNat) (h.toNat-l.toNat) (m.toNat-l.toNat))))
  | _,_,_=>none
 | _,none,some _=>none
def zbb (P:Program) (t:TypeId) (b:Base) (y:Operand):Option Bool :=
 match P.underlying t,b,y with
 | some (.pointer _),.adr _,.const (.pointer none)=>some false
 | some (.pointer _),.val (.pointer p),.const (.pointer none)=>some p.isNone
 | some (.slice _),.val (.slice a _ _),.const (.slice none _ _)=>some a.isNone
 | some (.map _ _),.val (.map r),.const (.map none)=>some r.isNone
 | _,_,_=>none
def zdh:Operand->Bool
 | .const (.pointer none)=>true
 | .const (.slice none _ _)=>true
 | .const (.map none)=>true
 | _=>false
def zct:Operand->Bool
 | .const _=>true
 | _=>false
def z0cm (P:Program) (t:TypeId):Bool :=
 match P.underlying t with
 | some .string=>true
 | _=>false
def z0bu:Option Bool->Option Bool->Option Bool
 | some a,some b=>some (a && b)
 | _,_=>none
def zhc (P:Program) (t:TypeId):Option Bool :=
 match P.underlying t with
 | some (.struct _)=>some true
 | some (.array _ _)=>some true
 | some _=>some false
 | none=>none
def zn9 (P:Program) (t:TypeId) (cs:Array Value) (off:Nat):Option Value :=
 match zhc P t with
 | some true=>match sizeOf? P t with
  | some n=>some (.agg ((cs.toList.drop off).take n).toArray)
  | none=>none
 | some false=>cs.toList[off]?
 | none=>none
def eqFields (g:TypeId->Value->Value->Option Bool) (p:TypeId->Array Value->Nat->Option Value) (xs ys:Array Value):List Field->Option Bool
 | []=>some true
 | f :: r => if f.name = "_" then none else match p f.type xs f.offset, p f.type ys f.offset with
  | some x,some y=>match r with
   | []=>g f.type x y
   | _=>z0bu (g f.type x y) (eqFields g p xs ys r)
  | _,_=>none
def eqV (P:Program):Nat->TypeId->Value->Value->Option Bool
 | 0,_,_,_=>none
 | d+1,t,x,y=>match P.underlying t,x,y with
  | some (.int _),.int k a,.int k' b=>if k=k' then some (a == b) else none
  | some .bool,.bool a,.bool b=>some (a == b)
  | some .string,.string a,.string b=>some (a == b)
  | some (.struct fs),.agg xs,.agg ys=>if P.stoodInHeld t then none else eqFields (eqV P d) (zn9 P) xs ys fs.toList
  | _,_,_=>none
def zdi (P:Program) (t:TypeId):Bool :=
 match P.underlying t with
 | some (.struct _)=>!P.eqGuardType P.depth t
 | _=>false
def zvw (P:Program) (t:TypeId) (e:Operand->Option Base) (x y:Operand):Option Bool :=
 match e x,e y with
 | some bx,some by_=>match bx.v,by_.v with
  | .agg xs,.agg ys=>eqV P 10000 t (.agg xs) (.agg ys)
  | _,_=>none
 | _,_=>none
def zkf (e:Operand->Option Base):Option Operand->Option (Option Base)
 | none=>some none
 | some x=>match e x with
  | some b=>some (some b)
  | none=>none
def zwn (P:Program) (e:Operand->Option Base) (o:Oper):Option PR :=
 match o.op with
 | .nilCheck x=>match e x with
  | some (.adr a)=>some (.pure (.adr a))
  | some (.val (.pointer p))=>some (.exA (λa=>p=some a) .adr)
  | _=>none
 | .fieldAddr s x f=>match zhg P s f,e x with
  | some off,some (.adr a)=>some (.pure (.adr (a.add off)))
  | some off,some (.val (.pointer p))=>some (.exA (λa=>p=some a) (λa=>.adr (a.add off)))
  | _,_=>none
 | .indexAddr t x ix=>match P.underlying t,e x,e ix with
  | some (.slice el),some (.val (.slice A l _)),some bi=>match sizeOf? P el,bi.v with
   | some size,.int _ i=>some (.exA (λa=>0<=i/\i<l/\A=some a) (λa=>.adr (a.add (i.toNat*size))))
   | _,_=>none
  | some (.array n el),some (.adr a),some bi=>match sizeOf? P el,bi.v with
   | some size,.int _ i=>some (.must (0<=i/\i<n) (.adr (a.add (i.toNat*size))))
   | _,_=>none
  | _,_,_=>none
 | .index t x ix=>match P.underlying t,e x,e ix with
  | some .string,some bx,some bi=>match bx.v,bi.v with
   | .string s,.int _ i=>some (.must (0<=i/\i<s.size) (.val (.int .u8 (bt s i))))
   | _,_=>none
  | _,_,_=>none
 | .slice t x lo hi mx=>match P.underlying t,e x,zkf e lo,zkf e hi,zkf e mx with
  | some .string,some bx,some bl,some bh,some none=>match bx.v with
   | .string s=>zny s bl bh
   | _=>none
  | some (.slice el),some (.val (.slice A len cap)),some bl,some bh,some bm=>match sizeOf? P el with
   | some size=>zfw A len cap size bl bh bm
   | none=>none
  | some (.array n el),some (.adr a),some bl,some bh,some bm=>match sizeOf? P el with
   | some size=>zfw (some a) n n size bl bh bm
   | none=>none
  | _,_,_,_,_=>none
 | .binOp op xT x y _=>match op with
  | .quo=>bif zct y then none else match e x,e y with
   | some bx,some by_=>match bx.v,by_.v with
    | .int k a,.int k' b=>if k=k' then some (.must (b≠0) (.val (.int k (k.wrap (a.tdiv b))))) else none
    | _,_=>none
   | _,_=>none
  | .rem=>bif zct y then none else match e x,e y with
   | some bx,some by_=>match bx.v,by_.v with
    | .int k a,.int k' b=>if k=k' then some (.must (b≠0) (.val (.int k (a.tmod b)))) else none
    | _,_=>none
   | _,_=>none
  | .shl=>bif zct y then none else match e x,e y with
   | some bx,some by_=>match bx.v,by_.v with
    | .int k a,.int _ b=>some (.must (0<=b) (.val (.int k (k.wrap (a*2 ^ (min b.toNat k.bits))))))
    | _,_=>none
   | _,_=>none
  | .shr=>bif zct y then none else match e x,e y with
   | some bx,some by_=>match bx.v,by_.v with
    | .int k a,.int _ b=>some (.must (0<=b) (.val (.int k (a.fdiv (2 ^ (min b.toNat k.bits))))))
    | _,_=>none
   | _,_=>none
  | .add=>bif z0cm P xT then (match e x,e y with
   | some bx,some by_=>match bx.v,by_.v with
    | .string a,.string b=>some (.must (((a.size+b.size:Nat):Int)<=IntKind.i64.max) (.val (.string (a++b))))
    | _,_=>none
   | _,_=>none) else none
  | .eql=>bif zdh y then (match e x with
   | some b=>match zbb P xT b y with
    | some t=>some (.pure (.val (.bool t)))
    | none=>none
   | none=>none) else bif zdi P xT then (match zvw P xT e x y with
    | some t=>some (.pure (.val (.bool t)))
    | none=>none) else none
  | .neq=>bif zdh y then (match e x with
   | some b=>match zbb P xT b y with
    | some t=>some (.pure (.val (.bool !t)))
    | none=>none
   | none=>none) else bif zdi P xT then (match zvw P xT e x y with
    | some t=>some (.pure (.val (.bool !t)))
    | none=>none) else none
  | _=>none
 | _=>none
section
variable {P:Program}
@[simp] theorem addr_add_zero (a:Addr):a.add 0=a:=by simp [Addr.add]
theorem z0l {w:World} {k:IntKind} {i:Int} {y:Nat} {c:BoundsCode} (h0:0<=i) (h1:i<=y) :
  (Instr.sliceBound (.int k i) y c).run P w=.ok i.toNat w:=by
 simp [Instr.sliceBound,asIntOf,h0,h1]
theorem run_underlying' {t:TypeId} {d:TypeDesc} (h:P.underlying t=some d) (w:World):(underlying t).run P w=.ok d w:=by
 simp [underlying,h]
theorem run_sizeOf' {t:TypeId} {n:Nat} (h:sizeOf? P t=some n) (w:World):(sizeOf t).run P w=.ok n w:=by
 unfold sizeOf? at h
 cases hi:P.info? t with
 | none=>rw [hi] at h;cases h
 | some i=>rw [hi] at h;obtain rfl:=Option.some.inj h;simp [sizeOf,typeInfo,hi]
theorem z00e {t:TypeId} (ht:P.underlying t=some .string) {s:ByteArray} {lo hi:Option Base} {r:PR} (h:zny s lo hi=some r) :
  PR.Ok P (do pure (.value (<- Instr.sliceAt t (.string s) (lo.map Base.v) (hi.map Base.v) none))) r:=by
 unfold zny at h;split at h
 ·obtain rfl:=Option.some.inj h;intro w;simp [Instr.sliceAt,Instr.slice,Instr.sliceBounds,run_underlying' ht]
 ·rename_i bl
  split at h
  ·rename_i k l hv
   obtain rfl:=Option.some.inj h;rintro ⟨h0,h1⟩ w;simp [Instr.sliceAt,Instr.slice,Instr.sliceBounds,run_underlying' ht,hv,z0l h0 h1]
  ·cases h
 ·rename_i bh
  split at h
  ·rename_i k l hv
   obtain rfl:=Option.some.inj h;rintro ⟨h0,h1⟩ w;simp [Instr.sliceAt,Instr.slice,Instr.sliceBounds,run_underlying' ht,hv,z0l h0 h1]
  ·cases h
 ·rename_i bl bh
  split at h
  ·rename_i k l k' u hv hv'
   obtain rfl:=Option.some.inj h;rintro ⟨h0,h1,h2⟩ w;simp [Instr.sliceAt,Instr.slice,Instr.sliceBounds,run_underlying' ht,hv,hv',z0l (by omega:0<=u) h2,z0l (y:=u.toNat) h0 (by omega)]
  ·cases h
theorem zkb (m:Nat) (A:Option Addr):(if m=0 then A else A.map (·.add 0))=A:=by
 split
 ·rfl
 ·cases A <;> simp
theorem zhq {c:Prop} [Decidable c] (a b:Addr):(some (if c then a else b))=if c then some a else some b:=by split <;> rfl
theorem z039 {t el:TypeId} (ht:P.underlying t=some (.slice el)) {A:Option Addr} {len cap size:Nat} (hz:sizeOf? P el=some size) {lo hi mx:Option Base} {r:PR}
  (h:zfw A len cap size lo hi mx=some r) :
  PR.Ok P (do pure (.value (<- Instr.sliceAt t (.slice A len cap) (lo.map Base.v) (hi.map Base.v) (mx.map Base.v)))) r:=by
 unfold zfw at h;split at h
 ·obtain rfl:=Option.some.inj h;intro w;simp [Instr.sliceAt,Instr.slice,Instr.sliceBounds,run_underlying' ht,run_sizeOf' hz,zkb]
 ·split at h
  ·rename_i k l hv
   obtain rfl:=Option.some.inj h;rintro ⟨h0,h1⟩ w;simp [Instr.sliceAt,Instr.slice,Instr.sliceBounds,run_underlying' ht,run_sizeOf' hz,hv,z0l h0 h1,z0k]
  ·cases h
 ·split at h
  ·rename_i k l hv
   obtain rfl:=Option.some.inj h;rintro ⟨h0,h1⟩ w;simp [Instr.sliceAt,Instr.slice,Instr.sliceBounds,run_underlying' ht,run_sizeOf' hz,hv,z0l h0 h1,zkb]
  ·cases h
 ·split at h
  ·rename_i k l k' u hv hv'
   obtain rfl:=Option.some.inj h;rintro ⟨h0,h1,h2⟩ w;simp [Instr.sliceAt,Instr.slice,Instr.sliceBounds,run_underlying' ht,run_sizeOf' hz,hv,hv',z0l (by omega:0<=u) h2,z0l (y:=u.toNat) h0 (by omega),z0k]
  ·cases h
 ·split at h
  ·rename_i k l k' u hv hv'
   obtain rfl:=Option.some.inj h;rintro ⟨h0,h1,h2⟩ w;simp [Instr.sliceAt,Instr.slice,Instr.sliceBounds,run_underlying' ht,run_sizeOf' hz,hv,hv',z0l (by omega:0<=u) h2,z0l (y:=u.toNat) h0 (by omega),zkb]
  ·cases h
 ·split at h
  ·rename_i k l k' u k'' m hv hv' hv''
   obtain rfl:=Option.some.inj h;rintro ⟨h0,h1,h2,h3⟩ w
   simp [Instr.sliceAt,Instr.slice,Instr.sliceBounds,run_underlying' ht,run_sizeOf' hz,hv,hv',hv'',z0l (by omega:0<=m) h3,z0l (y:=m.toNat) (by omega:0<=u) (by omega),
    z0l (y:=u.toNat) h0 (by omega),z0k]
  ·cases h
 ·cases h
theorem z00d {t el:TypeId} {n:Nat} (ht:P.underlying t=some (.array n el)) {a:Addr} {size:Nat} (hz:sizeOf? P el=some size) {lo hi mx:Option Base} {r:PR}
  (h:zfw (some a) n n size lo hi mx=some r) :
  PR.Ok P (do pure (.value (<- Instr.sliceAt t (.pointer (some a)) (lo.map Base.v) (hi.map Base.v) (mx.map Base.v)))) r:=by
 unfold zfw at h;split at h
 ·obtain rfl:=Option.some.inj h;intro w;simp [Instr.sliceAt,Instr.sureAddr,Instr.sliceBounds,run_underlying' ht,run_sizeOf' hz]
 ·split at h
  ·rename_i k l hv
   obtain rfl:=Option.some.inj h;rintro ⟨h0,h1⟩ w;simp [Instr.sliceAt,Instr.sureAddr,Instr.sliceBounds,run_underlying' ht,run_sizeOf' hz,hv,z0l h0 h1,z0k,zhq]
  ·cases h
 ·split at h
  ·rename_i k l hv
   obtain rfl:=Option.some.inj h;rintro ⟨h0,h1⟩ w;simp [Instr.sliceAt,Instr.sureAddr,Instr.sliceBounds,run_underlying' ht,run_sizeOf' hz,hv,z0l h0 h1]
  ·cases h
 ·split at h
  ·rename_i k l k' u hv hv'
   obtain rfl:=Option.some.inj h;rintro ⟨h0,h1,h2⟩ w;simp [Instr.sliceAt,Instr.sureAddr,Instr.sliceBounds,run_underlying' ht,run_sizeOf' hz,hv,hv',z0l (by omega:0<=u) h2,z0l (y:=u.toNat) h0 (by omega),z0k,zhq]
  ·cases h
 ·split at h
  ·rename_i k l k' u hv hv'
   obtain rfl:=Option.some.inj h;rintro ⟨h0,h1,h2⟩ w;simp [Instr.sliceAt,Instr.sureAddr,Instr.sliceBounds,run_underlying' ht,run_sizeOf' hz,hv,hv',z0l (by omega:0<=u) h2,z0l (y:=u.toNat) h0 (by omega)]
  ·cases h
 ·split at h
  ·rename_i k l k' u k'' m hv hv' hv''
   obtain rfl:=Option.some.inj h;rintro ⟨h0,h1,h2,h3⟩ w
   simp [Instr.sliceAt,Instr.sureAddr,Instr.sliceBounds,run_underlying' ht,run_sizeOf' hz,hv,hv',hv'',z0l (by omega:0<=m) h3,z0l (y:=m.toNat) (by omega:0<=u) (by omega),
    z0l (y:=u.toNat) h0 (by omega),z0k,zhq]
  ·cases h
 ·cases h
theorem z7h {e:Operand->Option Base} {ρ : Operand->Value} (he:∀ x b,e x=some b -> ρ x=b.v) {x:Option Operand} {r:Option Base} (h:zkf e x=some r) :
  x.map ρ = r.map Base.v:=by
 cases x with
 | none=>simp only [zkf,Option.some.injEq] at h;subst h;rfl
 | some x =>
  simp only [zkf] at h
  cases hx:e x with
  | none=>rw [hx] at h;cases h
  | some b=>rw [hx] at h;obtain rfl:=Option.some.inj h;simp [he x b hx]
theorem zgx {s:TypeId} {f off:Nat} (h:zhg P s f=some off) (a:Addr) (w:World) :
  (Instr.fieldAt s (.pointer (some a)) f).run P w=.ok (.pointer (some (a.add off))) w:=by
 unfold zhg at h;split at h
 ·rename_i fs hs
  split at h
  ·rename_i fd hf
   split at h
   ·rename_i i hi
    split at h
    ·cases h
    ·rename_i hz
     obtain rfl:=Option.some.inj h;simp [Instr.fieldAt,run_underlying' hs,hf,Instr.sureAddr,fieldPlace,run_sizeOf' (by unfold sizeOf?;rw [hi]:sizeOf? P fd.type=some i.size),hz]
   ·cases h
  ·cases h
 ·cases h
theorem zq8 {t:TypeId} {b:Base} {y:Operand} {v:Bool} (h:zbb P t b y=some v) (d:Nat) (w:World) :
  ∀ c,y=.const c->(Op.equalIn (d+1) t b.v c).run P w=.ok v w:=by
 unfold zbb at h
 split at h <;> try (cases h;done)
 ·rename_i ht
  obtain rfl:=Option.some.inj h;intro c hc;cases hc;simp only [Op.equalIn,Sem.run_bind,run_underlying' ht,Result.andThen_ok];rfl
 ·rename_i q ht
  obtain rfl:=Option.some.inj h;intro c hc;cases hc;cases q <;> (simp only [Op.equalIn,Sem.run_bind,run_underlying' ht,Result.andThen_ok];rfl)
 ·rename_i el a _ _ _ _ ht
  obtain rfl:=Option.some.inj h;intro c hc;cases hc;cases a <;> (simp only [Op.equalIn,Sem.run_bind,run_underlying' ht,Result.andThen_ok];rfl)
 ·rename_i r ht
  obtain rfl:=Option.some.inj h;intro c hc;cases hc;cases r <;> (simp only [Op.equalIn,Sem.run_bind,run_underlying' ht,Result.andThen_ok];rfl)
theorem zgw {t:TypeId} {b:Base} {y:Operand} {v:Bool} (h:zbb P t b y=some v) {ρ : Operand->Value} (hy:∀ c,ρ (.const c)=c) (w:World) :
  (binOp .eql t b.v (ρ y)).run P w=.ok (.bool v) w/\(binOp .neq t b.v (ρ y)).run P w=.ok (.bool !v) w /\
  (∀ op x y',(eqGuard op t x y' b.v (ρ y)).run P w=.ok () w):=by
 have key:(Op.equal t b.v (ρ y)).run P w=.ok v w/\(binOp .eql t b.v (ρ y)=do pure (.bool (<- Op.equal t b.v (ρ y))))/\(binOp .neq t b.v (ρ y)=do pure (.bool (!(<- Op.equal t b.v (ρ y))))) /\
   (∀ op x y',(eqGuard op t x y' b.v (ρ y)).run P w=.ok () w):=by
  have hq:(Op.equal t b.v (ρ y)).run P w=.ok v w:=by
   have:=zq8 h 9999 w;unfold zbb at h
   split at h <;> try (cases h;done)
   all_goals (rw [hy];exact this _ rfl)
  refine ⟨hq,?_,?_,λop x y'=>?_⟩
  all_goals
   clear hq;unfold zbb at h
   split at h <;> try (cases h;done)
   all_goals
    clear h;simp only [hy]
    first|rfl|(unfold eqGuard;split <;> rfl)
 obtain ⟨h1,h2,h3,h4⟩:=key;exact ⟨by rw [h2];simp [h1],by rw [h3];simp [h1],h4⟩
theorem z9z {t:TypeId} {b:Bool} (h:zhc P t=some b) (w:World):(isAgg t).run P w=.ok b w:=by
 unfold zhc at h;split at h
 ·rename_i ht;obtain rfl:=Option.some.inj h;simp [isAgg,run_underlying' ht]
 ·rename_i ht;obtain rfl:=Option.some.inj h;simp [isAgg,run_underlying' ht]
 ·rename_i d h1 h2 ht
  obtain rfl:=Option.some.inj h;simp only [isAgg,Sem.run_bind,run_underlying' ht,Result.andThen_ok]
  cases d <;> first|rfl|exact (h1 _ rfl).elim|exact (h2 _ _ rfl).elim
 ·cases h
theorem zpl {t:TypeId} {cs:Array Value} {off:Nat} {v:Value} (h:zn9 P t cs off=some v) (w:World):(part t cs off).run P w=.ok v w:=by
 unfold zn9 at h;unfold part;split at h
 ·rename_i ha
  split at h
  ·rename_i n hz
   obtain rfl:=Option.some.inj h;simp only [Sem.run_bind,z9z ha,Result.andThen_ok,if_true,run_sizeOf' hz,Sem.run_pure]
   congr 2
   apply Array.ext';simp [List.take_drop,Nat.add_comm]
  ·cases h
 ·rename_i ha
  have hv:cs[off]? = some v:=by simpa using h
  simp only [Sem.run_bind,z9z ha,Result.andThen_ok,Bool.false_eq_true,if_false,hv,Sem.run_pure]
 ·cases h
theorem zgn {g:TypeId->Value->Value->Option Bool} {d:Nat} (hg:∀ {t x y b},g t x y=some b->∀ w,(Op.equalIn d t x y).run P w=.ok b w) (xs ys:Array Value) :
  ∀ {l:List Field} {b:Bool},eqFields g (zn9 P) xs ys l=some b->∀ w,(Op.eqFields d xs ys l).run P w=.ok b w
 | [],b,h,w=>by simp only [eqFields,Option.some.injEq] at h;subst h;simp [Op.eqFields]
 | f::r,b,h,w=>by
  simp only [eqFields] at h;split at h
  ·cases h
  ·rename_i hf
   split at h
   ·rename_i x y hx hy
    have key:∀ b1,g f.type x y=some b1->(Op.eqFields d xs ys (f::r)).run P w=if b1 then (Op.eqFields d xs ys r).run P w else .ok false w:=λb1 hb=>by
     simp only [Op.eqFields,Sem.run_ite,Sem.run_bind,zpl hx,zpl hy,hg hb,Result.andThen_ok];rw [if_pos hf];cases b1 <;> simp
    split at h
    ·rename_i hr
     rw [key b h];cases b <;> simp [Op.eqFields]
    ·unfold z0bu at h;split at h
     ·rename_i b1 b2 h1 h2
      obtain rfl:=Option.some.inj h;rw [key b1 h1,zgn hg xs ys h2 w];cases b1 <;> simp
     ·cases h
   ·cases h
theorem zq9 {t:TypeId} {fs:Array Field} (h:P.underlying t=some (.struct fs)):P.fieldsOf t=fs:=by
 simp [Program.fieldsOf,h]
theorem zo3:∀ (d:Nat) {t:TypeId} {x y:Value} {b:Bool},eqV P d t x y=some b->∀ w,(Op.equalIn d t x y).run P w=.ok b w
 | 0,t,x,y,b,h,w=>by simp [eqV] at h
 | d+1,t,x,y,b,h,w=>by
  simp only [eqV] at h;split at h
  ·rename_i ht
   split at h
   ·rename_i hk
    subst hk;obtain rfl:=Option.some.inj h;simp [Op.equalIn,run_underlying' ht]
   ·cases h
  ·rename_i ht
   obtain rfl:=Option.some.inj h;simp [Op.equalIn,run_underlying' ht]
  ·rename_i ht
   obtain rfl:=Option.some.inj h;simp [Op.equalIn,run_underlying' ht]
  ·rename_i fs xs ys ht
   split at h
   ·cases h
   ·rename_i hs
    have hf:=zq9 ht;rw [run_equalIn_struct w d t xs ys (by rw [hf];exact ht) (by simpa using hs),hf];exact zgn (zo3 d) xs ys h w
  ·cases h
theorem ztv {e:Operand->Option Base} {ρ : Operand->Value} (he:∀ x b,e x=some b -> ρ x=b.v) {t:TypeId} (hs:zdi P t=true) {x y:Operand} {b:Bool}
  (h:zvw P t e x y=some b) (w:World):∃ xs ys,ρ x=.agg xs /\ ρ y=.agg ys/\(Op.equalIn 10000 t (.agg xs) (.agg ys)).run P w=.ok b w/\P.eqGuardType P.depth t=false:=by
 unfold zvw at h;split at h
 ·rename_i bx by_ hx hy
  split at h
  ·rename_i xs ys hvx hvy
   refine ⟨xs,ys,by rw [he _ _ hx,hvx],by rw [he _ _ hy,hvy],zo3 10000 h w,?_⟩;unfold zdi at hs;split at hs
   ·simpa using hs
   ·cases hs
  ·cases h
 ·cases h
theorem z04o {e:Operand->Option Base} {ρ : Operand->Value} (he:∀ x b,e x=some b -> ρ x=b.v) (hc:∀ c,ρ (.const c)=c) {o:Oper} {r:PR}
  (h:zwn P e o=some r):PR.Ok P (execOp ρ o) r:=by
 obtain ⟨dst,op,type,pos,after,guard⟩:=o;unfold zwn at h;dsimp only at h;split at h
 ·
  rename_i x
  split at h
  ·rename_i a ha
   obtain rfl:=Option.some.inj h;intro w;simp [execOp,he x _ ha]
  ·rename_i p hp
   obtain rfl:=Option.some.inj h;rintro a rfl w;simp [execOp,he x _ hp]
  ·cases h
 ·
  rename_i s x f
  split at h
  ·rename_i off a hf ha
   obtain rfl:=Option.some.inj h;intro w;simp [execOp,he x _ ha,zgx hf]
  ·rename_i off p hf hp
   obtain rfl:=Option.some.inj h;rintro a rfl w;simp [execOp,he x _ hp,zgx hf]
  ·cases h
 ·
  rename_i t x ix
  split at h
  ·rename_i el A l c bi ht hx hi
   split at h
   ·rename_i size k i hz hv
    obtain rfl:=Option.some.inj h;rintro a ⟨h0,h1,rfl⟩ w;simp [execOp,he x _ hx,he ix _ hi,hv,Instr.indexAt,asIntOf,run_underlying' ht,run_sizeOf' hz,h0,h1]
   ·cases h
  ·rename_i n el a bi ht hx hi
   split at h
   ·rename_i size k i hz hv
    obtain rfl:=Option.some.inj h;rintro ⟨h0,h1⟩ w;simp [execOp,he x _ hx,he ix _ hi,hv,Instr.indexAt,Instr.sureAddr,asIntOf,run_underlying' ht,run_sizeOf' hz,h0,h1]
   ·cases h
  ·cases h
 ·
  rename_i t x ix
  split at h
  ·rename_i bx bi ht hx hi
   split at h
   ·rename_i s k i hv hv'
    obtain rfl:=Option.some.inj h;rintro ⟨h0,h1⟩ w
    have hlt:i.toNat<s.size:=by omega
    have hb:s[i.toNat]? = some s[i.toNat]:=getElem?_pos s i.toNat hlt
    have hbt:bt s i=(s[i.toNat].toNat:Int):=by
     unfold bt
     have:s.data.toList.getD i.toNat 0=s[i.toNat]:=by
      simp [List.getD,ByteArray.getElem_eq_getElem_data,ByteArray.size_data,hlt]
     rw [this]
    simp only [execOp,he x _ hx,he ix _ hi,hv,hv',Instr.index,asIntOf,Sem.run_bind,Sem.run_pure,Result.andThen_ok,run_underlying' ht,h0,if_true,hb,hbt]
   ·cases h
  ·cases h
 ·
  rename_i t x lo hi mx
  split at h
  ·rename_i bx bl bh ht hx hl hh hm
   split at h
   ·rename_i s hv
    have:=z00e (P:=P) ht h;have e1:=z7h he hl;have e2:=z7h he hh;have e3:=z7h he hm;simp only [execOp,he x _ hx,hv,e1,e2,e3];exact this
   ·cases h
  ·rename_i el A len cap bl bh bm ht hx hl hh hm
   split at h
   ·rename_i size hz
    have:=z039 (P:=P) ht hz h;have e1:=z7h he hl;have e2:=z7h he hh;have e3:=z7h he hm;simp only [execOp,he x _ hx,e1,e2,e3];exact this
   ·cases h
  ·rename_i n el a bl bh bm ht hx hl hh hm
   split at h
   ·rename_i size hz
    have:=z00d (P:=P) ht hz h;have e1:=z7h he hl;have e2:=z7h he hh;have e3:=z7h he hm;simp only [execOp,he x _ hx,e1,e2,e3];exact this
   ·cases h
  ·cases h
 ·
  rename_i bop xT x y yT
  split at h
  ·
   simp only [cond_eq_ite] at h;split at h
   ·cases h
   ·split at h
    ·rename_i bx by_ hx hy
     split at h
     ·rename_i k a k' b hv hv'
      split at h
      ·rename_i hk
       subst hk;obtain rfl:=Option.some.inj h;intro hb w;simp [execOp,eqGuard,he x _ hx,he y _ hy,hv,hv',binOp,Op.intDiv,hb]
      ·cases h
     ·cases h
    ·cases h
  ·simp only [cond_eq_ite] at h;split at h
   ·cases h
   ·split at h
    ·rename_i bx by_ hx hy
     split at h
     ·rename_i k a k' b hv hv'
      split at h
      ·rename_i hk
       subst hk;obtain rfl:=Option.some.inj h;intro hb w;simp [execOp,eqGuard,he x _ hx,he y _ hy,hv,hv',binOp,Op.intDiv,hb]
      ·cases h
     ·cases h
    ·cases h
  ·simp only [cond_eq_ite] at h;split at h
   ·cases h
   ·split at h
    ·rename_i bx by_ hx hy
     split at h
     ·rename_i k a k' b hv hv'
      obtain rfl:=Option.some.inj h;intro hb w
      have:¬ b<0:=by omega
      simp [execOp,eqGuard,he x _ hx,he y _ hy,hv,hv',binOp,Op.shift,this]
     ·cases h
    ·cases h
  ·simp only [cond_eq_ite] at h;split at h
   ·cases h
   ·split at h
    ·rename_i bx by_ hx hy
     split at h
     ·rename_i k a k' b hv hv'
      obtain rfl:=Option.some.inj h;intro hb w
      have:¬ b<0:=by omega
      simp [execOp,eqGuard,he x _ hx,he y _ hy,hv,hv',binOp,Op.shift,this]
     ·cases h
    ·cases h
  ·simp only [cond_eq_ite] at h;split at h
   ·split at h
    ·rename_i bx by_ hx hy
     split at h
     ·rename_i a b hv hv'
      obtain rfl:=Option.some.inj h;intro hb w
      have:¬ ((a.size+b.size:Nat):Int)>IntKind.i64.max:=by omega
      simp only [execOp,eqGuard,he x _ hx,he y _ hy,hv,hv',binOp,Op.stringOp,if_neg this];rfl
     ·cases h
    ·cases h
   ·cases h
  ·simp only [cond_eq_ite] at h;split at h
   ·split at h
    ·rename_i b hx
     split at h
     ·rename_i v hv
      obtain rfl:=Option.some.inj h;intro w;obtain ⟨h1,h2,h3⟩:=zgw hv hc w;simp [execOp,he x _ hx,h1,h3]
     ·cases h
    ·cases h
   ·split at h
    ·rename_i hst
     split at h
     ·rename_i t ht
      obtain rfl:=Option.some.inj h;intro w;obtain ⟨xs,ys,hx,hy,hq,hgd⟩:=ztv he hst ht w;simp only [execOp,hx,hy,Sem.run_bind,run_eqGuard_agg (hm:=hgd),Result.andThen_ok,run_eql_struct,hq,Sem.run_pure]
     ·cases h
    ·cases h
  ·simp only [cond_eq_ite] at h;split at h
   ·split at h
    ·rename_i b hx
     split at h
     ·rename_i v hv
      obtain rfl:=Option.some.inj h;intro w;obtain ⟨h1,h2,h3⟩:=zgw hv hc w;simp [execOp,he x _ hx,h2,h3]
     ·cases h
    ·cases h
   ·split at h
    ·rename_i hst
     split at h
     ·rename_i t ht
      obtain rfl:=Option.some.inj h;intro w;obtain ⟨xs,ys,hx,hy,hq,hgd⟩:=ztv he hst ht w;simp only [execOp,hx,hy,Sem.run_bind,run_eqGuard_agg (hm:=hgd),Result.andThen_ok,run_neq_struct,hq,Sem.run_pure]
     ·cases h
    ·cases h
  ·cases h
 ·cases h
end
def z0bz:Option (List Pr)->Option (List Pr)->Option (List Pr)
 | some x,some y=>some (x++y)
 | _,_=>none
def zo6 (f:TypeId->Option (List Pr)):List Field->Option (List Pr)
 | []=>some []
 | x::r=>z0bz (f x.type) (zo6 f r)
def z06n (x:Option (List Pr)):Nat->Option (List Pr)
 | 0=>some []
 | n+1=>z0bz x (z06n x n)
def zo8 (P:Program):Nat->TypeId->Option (List Pr)
 | 0,_=>none
 | d+1,t=>match P.underlying t with
  | some (.int k)=>some [.int k]
  | some .bool=>some [.bool]
  | some .string=>some [.str]
  | some (.pointer _)=>some [.ptr]
  | some (.slice _)=>some [.slc]
  | some (.map _ _)=>some [.map]
  | some (.struct fs)=>zo6 (zo8 P d) fs.toList
  | some (.array n e)=>z06n (zo8 P d e) n
  | some _=>some [.any]
  | none=>none
def sh1 (P:Program) (t:TypeId):Option Sh1 :=
 match P.underlying t,zo8 P 20 t with
 | some (.struct _),some l=>some (.agg l)
 | some (.array _ _),some l=>some (.agg l)
 | some _,some [p]=>some (.one p)
 | _,_=>none
def z0dc (P:Program):List TypeId->Option (List Sh1)
 | []=>some []
 | t::r=>match sh1 P t,z0dc P r with
  | some s,some l=>some (s::l)
  | _,_=>none
def z0gz (P:Program) (t:TypeId):Option Sh :=
 match P.underlying t with
 | some (.tuple ts)=>match z0dc P ts.toList with
  | some l=>some (.tup l)
  | none=>none
 | _=>match sh1 P t with
  | some s=>some (.one s)
  | none=>none
def z0bv (P:Program) (t:TypeId):Bool :=
 match P.underlying t with
 | some (.func _ _ _)|some (.interface _)|some (.chan _ _)|some .unsafePointer=>true
 | _=>false
def mkB (P:Program) (t:TypeId) (v:Value):Base:=bif z0bv P t then .any v else .val v
theorem zwf (P:Program) (t:TypeId) (v:Value):(mkB P t v).v=v:=by unfold mkB;cases z0bv P t <;> rfl
@[reducible] def za0:(s:Sh)->HL s.prims->Base
 | .one (.one .adr),x=>.adr x.1
 | .one (.one .any),x=>.any x.1
 | .one (.one (.int k)),x=>.val (.int k x.1)
 | .one (.one .bool),x=>.val (.bool x.1)
 | .one (.one .str),x=>.val (.string x.1)
 | .one (.one .ptr),x=>.val (.pointer x.1)
 | .one (.one .slc),x=>.val (.slice x.1.a x.1.len x.1.cap)
 | .one (.one .map),x=>.val (.map x.1)
 | .one (.agg ps),x=>.val ((Sh.one (.agg ps)).mk x)
 | .tup l,x=>.val ((Sh.tup l).mk x)
theorem zbi (s:Sh) (x:HL s.prims):(za0 s x).v=s.mk x:=by
 cases s with
 | one s=>cases s with
  | one p=>cases p <;> rfl
  | agg ps=>rfl
 | tup l=>rfl
inductive Cls where
 | p|r|w|u|c|nx
def cls (P:Program) (o:Oper):Cls :=
 match o.op with
 | .move _ | .assign _ | .pick _ _ _ | .build _ _ | .nilCheck _ | .unOp _ _ _ | .makeInterface _ _ | .makeFunc _ _ _ | .slice _ _ _ _ _ | .fieldAddr _ _ _ | .field _ _ _ | .indexAddr _ _ _ | .extract _ _=>.p
 | .index t _ ix=>match P.underlying t with
  | some .string=>.p
  | _=>bif zct ix then .p else .r
 | .binOp op t _ y _=>match op with
  | .eql | .neq=>match P.underlying t with
   | some .bool|some (.int _)|some .string|some (.struct _)=>.p
   | some (.pointer _)|some (.slice _)|some (.map _ _)=>bif zdh y then .p else .r
   | _=>.r
  | _=>.p
 | .convert s d _=>match P.underlying s,P.underlying d with
  | some (.int _),some (.int _)=>.p
  | some .string,some .string=>.p
  | some (.slice _),some .string=>.r
  | _,_=>.w
 | .load _ _ | .lookup _ _ _ _=>.r
 | .store _ _ _ | .mapUpdate _ _ _ _ | .insert _ _ _ _ | .entryStore _ _ _ _=>.u
 | .next _ _=>.nx
 | .call c=>match c.callee with
  | .value _=>.c
  | .builtin .len=>match (c.argTypes[0]?).bind P.underlying with
   | some (.map _ _)=>.r
   | _=>.p
  | .builtin .cap | .builtin .min | .builtin .max=>.p
  | _=>.w
 | _=>.w
def zfd {α β:Type} (f:α->β) (a:Array α):Array β:=(a.toList.map f).toArray
theorem zue {α β:Type} (f:α->β) (a:Array α):zfd f a=a.map f:=by cases a;simp [zfd]
def zn1 (ρ : Operand->Value) (o:Oper):Option (Sem Value) :=
 match o.op with
 | .load t a=>some (Instr.loadAt t (ρ a))
 | .lookup t m k ok=>some (Instr.lookup t (ρ m) (ρ k) ok)
 | .entry it=>some (Instr.entry (ρ it))
 | .index t x ix=>some (Instr.index t (ρ x) (ρ ix))
 | .binOp op t x y _=>some (do eqGuard op t x y (ρ x) (ρ y);binOp op t (ρ x) (ρ y))
 | .convert s d x=>some (convert s d (ρ x))
 | .alloc e=>some (Instr.alloc e true (.tuple #[]))
 | .box e x=>some (Instr.box e (ρ x))
 | .buildSlice t n ps=>some (Instr.buildSlice t n (zfd (λp=>(p.1,ρ p.2)) ps))
 | .makeMap t r=>some (Instr.makeMap t (r.map ρ))
 | .makeSlice t l c=>some (Instr.makeSlice t (ρ l) (ρ c))
 | .range t x=>some (Instr.range t (ρ x))
 | .mapEntry t m k=>some (Instr.mapEntry t (ρ m) (ρ k))
 | .typeAssert x t u ok=>some (Instr.typeAssert (ρ x) t u ok)
 | .call c=>match c.callee with
  | .builtin .append=>some (Builtin.append_ c.argTypes o.type (zfd ρ c.args))
  | .builtin .copy=>some (Builtin.copy_ c.argTypes o.type (zfd ρ c.args))
  | .builtin .delete=>some (Builtin.delete_ c.argTypes o.type (zfd ρ c.args))
  | .builtin .clear=>some (Builtin.clear_ c.argTypes o.type (zfd ρ c.args))
  | .builtin .len=>some (Builtin.len_ c.argTypes o.type (zfd ρ c.args))
  | _=>none
 | _=>none
def znj (ρ : Operand->Value) (o:Oper):Option (Sem Unit) :=
 match o.op with
 | .store t a x=>some (Instr.storeAt t (ρ a) (ρ x))
 | .mapUpdate t m k x=>some (Instr.mapUpdate t (ρ m) (ρ k) (ρ x))
 | .insert t m k x=>some (Instr.mapUpdate t (ρ m) (ρ k) (ρ x))
 | .entryStore t m s x=>some (Instr.entryStore t (ρ m) (ρ s) (ρ x))
 | _=>none
def zwy (P:Program) (o:Oper):Option Sh :=
 match o.op with
 | .alloc _ | .box _ _ | .range _ _=>some (.one (.one .adr))
 | .call { callee:=.builtin .delete,.. } | .call { callee:=.builtin .clear,.. }=>some (.tup [])
 | _=>z0gz P o.type
theorem zni {ρ : Operand->Value} {o:Oper} {m:Sem Value} (h:zn1 ρ o=some m):execOp ρ o=(do pure (.value (<- m))):=by
 obtain ⟨dst,op,type,pos,after,guard⟩:=o;unfold zn1 at h;cases op <;> dsimp only at h <;> (try (cases h;done)) <;> (try (obtain rfl:=Option.some.inj h;simp only [execOp,zue];done))
 case call c =>
  obtain ⟨callee,args,types⟩:=c
  cases callee with
  | value f=>cases h
  | invoke r m=>cases h
  | builtin b =>
   cases b <;> dsimp only at h <;> (try (cases h;done)) <;>
    (obtain rfl:=Option.some.inj h;simp only [execOp,resolve,invoke,builtin,zue];rfl)
theorem zzz {ρ : Operand->Value} {o:Oper} {m:Sem Unit} (h:znj ρ o=some m):execOp ρ o=(do m;pure .skip):=by
 obtain ⟨dst,op,type,pos,after,guard⟩:=o;unfold znj at h;cases op <;> dsimp only at h <;> (try (cases h;done)) <;> (obtain rfl:=Option.some.inj h;rfl)
inductive GS where
 | on|off|sym (s:Nat) (w:Bool)
def zev (ops:Array Oper) (env:Env) (ov:Ov) (o:Oper):GS :=
 match o.guard with
 | none=>.on
 | some (j,want)=>match (ops[j]?).bind (·.dst) with
  | none=>.off
  | some s=>match ov.get env s with
   | some ⟨.lit v,none⟩=>match v with
    | .bool b=>bif b == want then .on else .off
    | _=>.off
   | _=>.sym s want
def zir (env:Env) (ov:Ov):Nat->Nat->Bool->Option Prop
 | 0,_,_=>none
 | d+1,s,w=>match ov.get env s with
  | some ⟨.val (.bool b),none⟩=>some (b=w)
  | some ⟨.val (.bool b),some (t,u)⟩=>match zir env ov d t u with
   | some G=>some (G/\b=w)
   | none=>none
  | _=>none
def zna (ov:Ov) (d:Nat):Bool:=ov.all λx=>match x.2.g with
 | some (s,_)=>!Nat.beq s d
 | none=>true
def zui:Option (Nat × Bool)->Nat->Bool
 | none,_=>true
 | some (t,_),d=>!Nat.beq t d
def fin (n:Nat) (ov:Ov) (o:Oper) (g:Option (Nat × Bool)) (b:Base) (k:Ov->Prog):Prog :=
 match o.dst with
 | none=>k ov
 | some d=>bif Nat.ble (d+1) n && zna ov d && zui g d then k ((d,⟨b,g⟩)::ov) else .fail 1
def z0fs (G:Option Prop) (r:PR) (f:Base->Prog):Prog :=
 match r,G with
 | .pure b,_=>f b
 | .must c b,none=>.must c (f b)
 | .must c b,some G=>.must (G->c) (f b)
 | .exA c b,none=>.ex [.adr] (λx=>c x.1) (λx=>f (b x.1))
 | .exA c b,some G=>.ex [.adr] (λx=>G->c x.1) (λx=>f (b x.1))
def z069 (P:Program) (o:Oper) (b:Base) (f:Base->Prog):Prog :=
 match P.underlying o.type,b with
 | some (.int _),.val (.int k n)=>.lt (.int k) n λx=>f (.val (.int k x))
 | some .bool,.val (.bool n)=>.lt .bool n λx=>f (.val (.bool x))
 | some .string,.val (.string n)=>.lt .str n λx=>f (.val (.string x))
 | _,_=>f b
def zka:Operand->Bool
 | .const (.bool true)=>true
 | _=>false
def zhp:Operand->Bool
 | .const (.bool false)=>true
 | _=>false
def okG (g:Option (Nat × Bool)):Option (Nat × Bool)->Bool
 | none=>true
 | some (t,u)=>zg6 g t u
def zwp (env:Env) (ov:Ov) (g:Option (Nat × Bool)) (c x y:Operand):Option Base :=
 match c with
 | .tmp s=>match ov.get env s with
  | some ⟨.lit (.bool b),none⟩=>match b with
   | true=>opE env ov g x
   | false=>opE env ov g y
  | some ⟨.val (.bool b),g'⟩ =>
   bif okG g g' then
    (bif zka x then (match opE env ov (some (s,false)) y with
     | some (.val (.bool z))=>some (.val (.bool (b || z)))
     | some (.lit (.bool z))=>some (.val (.bool (b || z)))
     | _=>none)
    else bif zhp y then (match opE env ov (some (s,true)) x with
     | some (.val (.bool z))=>some (.val (.bool (b && z)))
     | some (.lit (.bool z))=>some (.val (.bool (b && z)))
     | _=>none)
    else none)
   else none
  | _=>none
 | _=>none
def z0cn:Nat->Bool
 | 0=>true
 | _=>false
def znc (P:Program) (n:Nat) (env:Env) (ov:Ov) (o:Oper) (g:Option (Nat × Bool)) (G:Option Prop) (k:Ov->Prog):Prog :=
 match o.op with
 | .pick c x y=>match zwp env ov g c x y with
  | some b=>fin n ov o g b k
  | none=>.fail 2
 | .move x=>match opE env ov g x with
  | some b=>fin n ov o g b k
  | none=>.fail 3
 | .assign x=>match opE env ov g x with
  | some b=>match g with
   | none=>z069 P o b λb=>fin n ov o g b k
   | some _=>fin n ov o g b k
  | none=>.fail 3
 | .extract t ix=>match opE env ov g t with
  | some b=>match zao P (Instr.extract b.v ix) with
   | some v=>fin n ov o g (match b with | .lit _=>bif z0cn ix then .lit v else mkB P o.type v|_=>mkB P o.type v) k
   | none=>.fail 4
  | none=>.fail 3
 | _=>match zwn P (opE env ov g) o with
  | some r=>z0fs G r λb=>fin n ov o g b k
  | none=>bif zfz env ov g o && zj0 o.op then (match zao P (execOp (opV env ov g) o) with
   | some (.value v)=>fin n ov o g (mkB P o.type v) k
   | _=>.fail 5) else .fail 6
def znd (P:Program) (n:Nat) (dr:Bool) (env:Env) (ov:Ov) (o:Oper) (g:Option (Nat × Bool)) (G:Option Prop) (k:Ov->Prog):Prog :=
 match zn1 (opV env ov g) o,zwy P o with
 | some m,some s=>bif zfz env ov g o && zj0 o.op then
   (match dr with
   | true=>.hold (G.getD True) m s λx=>fin n ov o g (za0 s x) k
   | false=>.read (G.getD True) m s λx=>fin n ov o g (za0 s x) k)
  else .fail 7
 | _,_=>.fail 8
def zgd (n:Nat) (ov:Ov) (o:Oper) (k:Ov->Prog):Prog:=fin n ov o none (.lit undef) k
def isP:Cls->Bool
 | .p=>true
 | _=>false
def zb3:Cls->Bool
 | .p | .r=>true
 | _=>false
def zge (P:Program) (n:Nat) (dr:Bool) (ops:Array Oper) (env:Env) (ov:Ov) (o:Oper) (k:Ov->Prog):Prog :=
 match zev ops env ov o with
 | .off=>zgd n ov o k
 | .on=>match cls P o with
  | .p=>znc P n env ov o none none k
  | .r=>znd P n dr env ov o none none k
  | _=>.fail 9
 | .sym s w=>match zir env ov 6 s w with
  | some G=>match cls P o with
   | .p=>znc P n env ov o (some (s,w)) (some G) k
   | .r=>znd P n dr env ov o (some (s,w)) (some G) k
   | _=>.fail 9
  | none=>.fail 10
section
variable {P:Program} {n:Nat} {env:Env} {ov:Ov} {a:Act} {o:Oper} {ops:Array Oper}
theorem zwt {ov:Ov} {d:Nat} (h:zna ov d=true) {env:Env} {s:Nat} {e:Ent} {t:Nat} {u:Bool} (hg:ov.get env s=some e) (he:e.g=some (t,u)):t≠d:=by
 induction ov with
 | nil =>
  simp only [Ov.get] at hg;split at hg
  ·obtain rfl:=Option.some.inj hg;cases he
  ·cases hg
 | cons x r ih =>
  obtain ⟨s',e'⟩:=x;simp only [zna,List.all_cons,Bool.and_eq_true] at h;simp only [Ov.get,cond_eq_ite] at hg;split at hg
  ·obtain rfl:=Option.some.inj hg;have h1:=h.1;rw [he] at h1;simp only [Bool.not_eq_true'] at h1;exact Nat.ne_of_beq_eq_false h1
  ·exact ih h.2 hg
theorem Agree.put {d:Nat} {v:Value} {b:Base} {g:Option (Nat × Bool)} (ha:Agree n env ov a) (hd:d<n) (hp:zna ov d=true)
  (hv:match g with
   | none=>v=b.v
   | some (t,u)=>t≠d/\(a.tmps[t]? = some (.bool u)->v=b.v)/\(¬ a.tmps[t]? = some (.bool u)->v=undef)) :
  Agree n env ((d,⟨b,g⟩)::ov) (a.put (some d) v):=by
 have hsz:d<a.tmps.size:=by rw [ha.size];exact hd
 have hself:(a.tmps.setIfInBounds d v)[d]? = some v:=by simp [hsz]
 have hother:∀ t,t≠d->(a.tmps.setIfInBounds d v)[t]? = a.tmps[t]? := λt ht=>by
  rw [Array.getElem?_setIfInBounds_ne (Ne.symm ht)]
 refine ⟨by simp [Act.put,ha.size],ha.defers,λs e he=>?_⟩;simp only [Ov.get,cond_eq_ite] at he;split at he
 ·rename_i hds
  have hds:=Nat.eq_of_beq_eq_true hds;subst hds;obtain rfl:=Option.some.inj he;unfold Ent.Ok;dsimp only
  cases g with
  | none=>dsimp only at hv ⊢;subst hv;exact hself
  | some x =>
   obtain ⟨t,u⟩:=x;dsimp only at hv ⊢;obtain ⟨hne,h1,h2⟩:=hv;simp only [Act.put];rw [hother t hne,hself];exact ⟨λh=>by rw [h1 h],λh=>by rw [h2 h]⟩
 ·rename_i hds
  have hds:s≠d:=λh=>hds (by subst h;exact Nat.beq_refl s);have hok:=ha.slots s e he;unfold Ent.Ok at hok ⊢
  cases hg:e.g with
  | none=>rw [hg] at hok;dsimp only at hok ⊢;simp only [Act.put];rw [hother s hds];exact hok
  | some x =>
   obtain ⟨t,u⟩:=x;have ht:=zwt hp he hg;rw [hg] at hok;dsimp only at hok ⊢;simp only [Act.put];rw [hother s hds,hother t ht];exact hok
def zal (P:Program) (n:Nat) (ops:Array Oper) (env:Env) (o:Oper) (a:Act) (w:World) (p dr:Bool) (S:World->Prop) (k:Ov->Prog) (Q:Post):Prop :=
 ∃ v ov' S',Agree n env ov' (a.put o.dst v)/\(p=true->YieldsIf P ops (λ_=>True) o v a/\S'=S)/\(dr=true->YieldsIf P ops S' o v a)/\YieldsIf P ops (· = w) o v a/\S' w/\(∀ w',S' w'->S w')/\(dr=false->S'=S)/\(k ov').wp P S' w Q
def GOk (P:Program) (ops:Array Oper) (o:Oper) (a:Act):Option (Nat × Bool)->Prop
 | none=>Region.wanted o (yielded ops a.tmps)=true
 | some (t,u)=>Region.wanted o (yielded ops a.tmps)=true↔a.tmps[t]? = some (.bool u)
theorem zep {p dr:Bool} {g:Option (Nat × Bool)} {b:Base} {k:Ov->Prog} {S S':World->Prop} {w:World} {Q:Post} (ha:Agree n env ov a)
  (hg:GOk P ops o a g) (hy:∀ w',(p=true\/dr=true/\S' w'\/w'=w)->Region.wanted o (yielded ops a.tmps)=true->(execOp a.eval o).run P w'=.ok (.value b.v) w')
  (hS:S' w) (hSS:∀ w',S' w'->S w') (hp:p=true->S'=S) (hd:dr=false->S'=S) (h:(fin n ov o g b k).wp P S' w Q):zal P n ops env o a w p dr S k Q:=by
 let v:Value:=if Region.wanted o (yielded ops a.tmps)=true then b.v else undef
 have hyi:∀ Y:World->Prop,(∀ w',Y w'->p=true\/dr=true/\S' w'\/w'=w)->YieldsIf P ops Y o v a:=λY hY=>by
  by_cases hw:Region.wanted o (yielded ops a.tmps)=true
  ·exact .inl ⟨hw,λw' hw'=>by rw [show v=b.v from if_pos hw];exact hy w' (hY w' hw') hw⟩
  ·exact .inr ⟨by simpa using hw,if_neg hw⟩
 unfold fin at h
 cases hdst:o.dst with
 | none =>
  rw [hdst] at h;exact ⟨v,ov,S',by rw [hdst];exact ha,λhpp=>⟨hyi _ λw' _=>.inl hpp,hp hpp⟩,λhdr=>hyi S' λw' hw'=>.inr (.inl ⟨hdr,hw'⟩),hyi _ λw' hw'=>.inr (.inr hw'),hS,hSS,hd,h⟩
 | some d =>
  rw [hdst] at h;simp only [cond_eq_ite] at h;split at h
  ·rename_i hc
   simp only [Bool.and_eq_true] at hc;have hlt:d<n:=Nat.le_of_ble_eq_true hc.1.1;refine ⟨v,_,S',?_,λhpp=>⟨hyi _ λw' _=>.inl hpp,hp hpp⟩,λhdr=>hyi S' λw' hw'=>.inr (.inl ⟨hdr,hw'⟩),hyi _ λw' hw'=>.inr (.inr hw'),hS,hSS,hd,h⟩;rw [hdst];refine Agree.put ha hlt hc.1.2 ?_
   cases g with
   | none=>exact if_pos hg
   | some x =>
    obtain ⟨t,u⟩:=x
    have hne:t≠d:=by
     have:=hc.2;simp only [zui,Bool.not_eq_true'] at this;exact Nat.ne_of_beq_eq_false this
    exact ⟨hne,λh=>if_pos (hg.2 h),λh=>if_neg λh'=>h (hg.1 h')⟩
  ·exact h.elim
theorem z5q {g:Option (Nat × Bool)} (hg:GOk P ops o a g) (hw:Region.wanted o (yielded ops a.tmps)=true):zeg a g:=by
 cases g with
 | none=>trivial
 | some x=>obtain ⟨t,u⟩:=x;exact hg.1 hw
theorem zhj:∀ (d:Nat) {s:Nat} {w:Bool} {G:Prop},Agree n env ov a->zir env ov d s w=some G->a.tmps[s]? = some (.bool w)->G
 | 0,_,_,_,_,h,_=>by simp [zir] at h
 | d+1,s,w,G,ha,h,hs=>by
  simp only [zir] at h;split at h
  ·rename_i b hb
   obtain rfl:=Option.some.inj h;have:=ha.slots _ _ hb;simp only [Ent.Ok,Base.v] at this;rw [hs] at this;simpa using this.symm
  ·rename_i b t u hb
   split at h
   ·rename_i G' hG'
    obtain rfl:=Option.some.inj h;have:=ha.slots _ _ hb;simp only [Ent.Ok,Base.v] at this
    by_cases ht:a.tmps[t]? = some (.bool u)
    ·refine ⟨zhj d ha hG' ht,?_⟩;have h1:=this.1 ht;rw [hs] at h1;simpa using h1.symm
    ·have h1:=this.2 ht;rw [hs] at h1;simp [undef] at h1
   ·cases h
  ·cases h
theorem zwr {G:Option Prop} {r:PR} {f:Base->Prog} {m:Sem Next} {S:World->Prop} {w:World} {Q:Post} {W:Prop} (hr:W->PR.Ok P m r)
  (hG:W->match G with|none=>True|some G=>G) (h:(z0fs G r f).wp P S w Q) :
  ∃ b,(W->∀ w',m.run P w'=.ok (.value b.v) w')/\(f b).wp P S w Q:=by
 cases r with
 | pure b=>exact ⟨b,hr,by cases G <;> exact h⟩
 | must c b =>
  cases G with
  | none=>exact ⟨b,λhw=>hr hw h.1,h.2⟩
  | some G=>exact ⟨b,λhw=>hr hw (h.1 (hG hw)),h.2⟩
 | exA c b =>
  cases G with
  | none=>obtain ⟨x,hc,h⟩:=h;exact ⟨b x.1,λhw=>hr hw x.1 hc,h⟩
  | some G=>obtain ⟨x,hc,h⟩:=h;exact ⟨b x.1,λhw=>hr hw x.1 (hc (hG hw)),h⟩
theorem zqc {b:Base} {f:Base->Prog} {S:World->Prop} {w:World} {Q:Post} (h:(z069 P o b f).wp P S w Q):(f b).wp P S w Q:=by
 unfold z069 at h;split at h <;> exact h
theorem zw6 {x:Operand} (h:zka x=true):x=.const (.bool true):=by
 unfold zka at h;split at h
 ·rfl
 ·cases h
theorem zqa {x:Operand} (h:zhp x=true):x=.const (.bool false):=by
 unfold zhp at h;split at h
 ·rfl
 ·cases h
theorem zlf {s:Nat} {v:Value} (h:a.tmps[s]? = some v):a.eval (.tmp s)=v:=by simp [Act.eval,h]
theorem z04p {g:Option (Nat × Bool)} {c x y:Operand} {b:Base} (ha:Agree n env ov a) (hg:zeg a g) (h:zwp env ov g c x y=some b)
  {dst:Option Tmp} {type:TypeId} {pos:String} {after:Array Edge} {guard:Option (Nat × Bool)} (w:World) :
  (execOp a.eval { dst,op:=.pick c x y,type,pos,after,guard }).run P w=.ok (.value b.v) w:=by
 unfold zwp at h;split at h
 ·rename_i s
  split at h
  ·rename_i t hs
   have h1:=zlf (ha.slots _ _ hs);simp only [Base.v] at h1
   cases t with
   | true=>simp [execOp,h1,asBool,z42 ha hg h]
   | false=>simp [execOp,h1,asBool,z42 ha hg h]
  ·rename_i t g' hs
   simp only [cond_eq_ite] at h;split at h
   ·rename_i hg'
    have h1:a.tmps[s]? = some (.bool t):=by
     have:=ha.slots _ _ hs;unfold Ent.Ok at this
     cases g' with
     | none=>exact this
     | some x=>obtain ⟨t',u'⟩:=x;have e:=zpm hg';subst e;exact this.1 hg
    have h2:=zlf h1;split at h
    ·rename_i hx
     have hx:=zw6 hx;subst hx
     split at h <;> first|cases h;done|skip
     all_goals
      rename_i z hz
      obtain rfl:=Option.some.inj h
      cases t with
      | true=>simp [execOp,h2,asBool,show a.eval (.const (.bool true))=.bool true from rfl]
      | false=>simp [execOp,h2,asBool,z42 (g:=some (s,false)) ha h1 hz]
    ·split at h
     ·rename_i hy
      have hy:=zqa hy;subst hy
      split at h <;> first|cases h;done|skip
      all_goals
       rename_i z hz
       obtain rfl:=Option.some.inj h
       cases t with
       | false=>simp [execOp,h2,asBool,show a.eval (.const (.bool false))=.bool false from rfl]
       | true=>simp [execOp,h2,asBool,z42 (g:=some (s,true)) ha h1 hz]
     ·cases h
   ·cases h
  ·cases h
 ·cases h
theorem zh2 {p dr:Bool} {g:Option (Nat × Bool)} {G:Option Prop} {k:Ov->Prog} {S:World->Prop} {w:World} {Q:Post} (ha:Agree n env ov a)
  (hg:GOk P ops o a g) (hG:Region.wanted o (yielded ops a.tmps)=true->match G with|none=>True|some G=>G)
  (hS:S w) (h:(znc P n env ov o g G k).wp P S w Q):zal P n ops env o a w p dr S k Q:=by
 have close:∀ b,(Region.wanted o (yielded ops a.tmps)=true->∀ w',(execOp a.eval o).run P w'=.ok (.value b.v) w')->(fin n ov o g b k).wp P S w Q->zal P n ops env o a w p dr S k Q :=
  λb hb h=>zep (S':=S) ha hg (λw' _ hw=>hb hw w') hS (λ_ h=>h) (λ_=>rfl) (λ_=>rfl) h
 obtain ⟨dst,op,type,pos,after,guard⟩:=o;unfold znc at h;dsimp only at h;split at h
 ·split at h
  ·rename_i b hb
   exact close b (λhw w'=>z04p ha (z5q hg hw) hb w') h
  ·exact h.elim
 ·split at h
  ·rename_i b hb
   exact close b (λhw w'=>by simp [execOp,z42 ha (z5q hg hw) hb]) h
  ·exact h.elim
 ·split at h
  ·rename_i b hb
   split at h
   ·exact close b (λhw w'=>by simp [execOp,z42 ha (z5q hg hw) hb]) (zqc h)
   ·exact close b (λhw w'=>by simp [execOp,z42 ha (z5q hg hw) hb]) h
  ·exact h.elim
 ·split at h
  ·rename_i b hb
   split at h
   ·rename_i v hv
    refine close _ (λhw w'=>?_) h;have:=zj7 hv w';simp only [execOp,z42 ha (z5q hg hw) hb,Sem.run_bind,this,Result.andThen_ok,Sem.run_pure]
    congr 2
    split
    ·rw [cond_eq_ite];split
     ·rfl
     ·rw [zwf]
    ·rw [zwf]
   ·exact h.elim
  ·exact h.elim
 ·split at h
  ·rename_i r hr
   obtain ⟨b,hb,h'⟩:=zwr (W:=Region.wanted _ (yielded ops a.tmps)=true)
    (λhw=>z04o (ρ := a.eval) (λx b hx=>z42 ha (z5q hg hw) hx) (λ_=>rfl) hr) hG h
   exact close b hb h'
  ·simp only [cond_eq_ite] at h;split at h
   ·rename_i hk
    simp only [Bool.and_eq_true] at hk;split at h
    ·rename_i v hv
     refine close _ (λhw w'=>?_) h;rw [z8o ha (z5q hg hw) hk.1 hk.2,zj7 hv w',zwf]
    ·exact h.elim
   ·exact h.elim
theorem zh3 {dr:Bool} {g:Option (Nat × Bool)} {G:Option Prop} {k:Ov->Prog} {S:World->Prop} {w:World} {Q:Post} (ha:Agree n env ov a)
  (hg:GOk P ops o a g) (hG:Region.wanted o (yielded ops a.tmps)=true->match G with|none=>True|some G=>G)
  (hS:S w) (h:(znd P n dr env ov o g G k).wp P S w Q):zal P n ops env o a w false dr S k Q:=by
 have hGd:Region.wanted o (yielded ops a.tmps)=true->G.getD True:=λhw=>by
  have:=hG hw;cases G <;> exact this
 unfold znd at h;split at h
 ·rename_i m s hm hs
  simp only [cond_eq_ite] at h;split at h
  ·rename_i hk
   simp only [Bool.and_eq_true] at hk
   have hrun:∀ (x:HL s.prims) (w':World),m.run P w'=.ok (s.mk x) w'->Region.wanted o (yielded ops a.tmps)=true->(execOp a.eval o).run P w'=.ok (.value (za0 s x).v) w':=λx w' hx hw=>by
    rw [z8o ha (z5q hg hw) hk.1 hk.2,zni hm];simp [hx,zbi]
   cases dr with
   | true =>
    obtain ⟨x,hx,h⟩:=h;refine zep (S':=λw'=>S w'/\(G.getD True->m.run P w'=.ok (s.mk x) w')) ha hg ?_ ⟨hS,hx⟩ (λ_ h=>h.1) (λh=>by cases h) (λh=>by cases h) h;rintro w' (h|⟨_,hw'⟩|rfl) hw
    ·cases h
    ·exact hrun x w' (hw'.2 (hGd hw)) hw
    ·exact hrun x w' (hx (hGd hw)) hw
   | false =>
    obtain ⟨x,hx,h⟩:=h;refine zep (S':=S) ha hg ?_ hS (λ_ h=>h) (λ_=>rfl) (λ_=>rfl) h;rintro w' (h|⟨h,_⟩|rfl) hw
    ·cases h
    ·cases h
    ·exact hrun x w' (hx (hGd hw)) hw
  ·exact h.elim
 ·exact h.elim
theorem zxk {j d:Nat} (hd:(ops[j]?).bind (·.dst)=some d) (u:Bool):(yielded ops a.tmps j == some u)=true↔a.tmps[d]? = some (.bool u):=by
 unfold yielded;rw [hd];simp only [Option.bind_some]
 cases hv:a.tmps[d]? with
 | none=>simp
 | some v=>cases v <;> simp
theorem zew (ha:Agree n env ov a) :
  match zev ops env ov o with
  | .on=>Region.wanted o (yielded ops a.tmps)=true
  | .off=>Region.wanted o (yielded ops a.tmps)=false
  | .sym s w=>Region.wanted o (yielded ops a.tmps)=true↔a.tmps[s]? = some (.bool w):=by
 unfold zev Region.wanted
 cases hgu:o.guard with
 | none=>rfl
 | some x =>
  obtain ⟨j,want⟩:=x;dsimp only
  cases hd:(ops[j]?).bind (·.dst) with
  | none=>dsimp only;unfold yielded;rw [hd];rfl
  | some d =>
   dsimp only;have hy:=zxk (a:=a) hd want;split
   ·rename_i heq
    split at heq
    ·rename_i v hv
     split at heq
     ·rename_i b
      simp only [cond_eq_ite] at heq;split at heq
      ·rename_i hb
       have:=ha.slots _ _ hv;simp only [Ent.Ok,Base.v] at this;rw [hy,this];have:=eq_of_beq hb;rw [this]
      ·cases heq
     ·cases heq
    ·cases heq
   ·rename_i heq
    rw [<- Bool.not_eq_true,hy];split at heq
    ·rename_i v hv
     have:=ha.slots _ _ hv;simp only [Ent.Ok,Base.v] at this;rw [this];split at heq
     ·rename_i b
      simp only [cond_eq_ite] at heq;split at heq
      ·cases heq
      ·rename_i hb
       intro h;simp only [Option.some.injEq,Value.bool.injEq] at h;exact hb (by simp [h])
     ·rename_i hv'
      intro h;simp only [Option.some.injEq] at h;exact hv' _ h
    ·cases heq
   ·rename_i heq
    split at heq
    ·split at heq
     ·simp only [cond_eq_ite] at heq;split at heq <;> cases heq
     ·cases heq
    ·obtain ⟨rfl,rfl⟩:=GS.sym.inj heq;exact hy
theorem zpq {p dr:Bool} {k:Ov->Prog} {S:World->Prop} {w:World} {Q:Post} (ha:Agree n env ov a)
  (hoff:Region.wanted o (yielded ops a.tmps)=false) (hS:S w) (h:(zgd n ov o k).wp P S w Q):zal P n ops env o a w p dr S k Q:=by
 have hyi:∀ Y:World->Prop,YieldsIf P ops Y o undef a:=λY=>.inr ⟨hoff,rfl⟩;unfold zgd fin at h
 cases hdst:o.dst with
 | none=>rw [hdst] at h;exact ⟨undef,ov,S,by rw [hdst];exact ha,λ_=>⟨hyi _,rfl⟩,λ_=>hyi _,hyi _,hS,λ_ h=>h,λ_=>rfl,h⟩
 | some d =>
  rw [hdst] at h;simp only [cond_eq_ite] at h;split at h
  ·rename_i hc
   simp only [Bool.and_eq_true] at hc;exact ⟨undef,_,S,by rw [hdst];exact Agree.put ha (Nat.le_of_ble_eq_true hc.1.1) hc.1.2 rfl,λ_=>⟨hyi _,rfl⟩,λ_=>hyi _,hyi _,hS,λ_ h=>h,λ_=>rfl,h⟩
  ·exact h.elim
theorem z8x {dr:Bool} {k:Ov->Prog} {S:World->Prop} {w:World} {Q:Post} (ha:Agree n env ov a)
  (hS:S w) (h:(zge P n dr ops env ov o k).wp P S w Q):zal P n ops env o a w (isP (cls P o)) dr S k Q:=by
 have hgs:=zew (o:=o) (ops:=ops) ha;unfold zge at h;split at h
 ·rename_i hg;rw [hg] at hgs;exact zpq ha hgs hS h
 ·rename_i hg
  rw [hg] at hgs;split at h
  ·exact zh2 (g:=none) (G:=none) ha hgs (λ_=>trivial) hS h
  ·rename_i hc;rw [hc];exact zh3 (g:=none) (G:=none) ha hgs (λ_=>trivial) hS h
  ·exact h.elim
 ·rename_i s u hg
  rw [hg] at hgs;split at h
  ·rename_i G hG
   split at h
   ·exact zh2 (g:=some (s,u)) (G:=some G) ha hgs (λhw=>zhj 6 ha hG (hgs.1 hw)) hS h
   ·rename_i hc;rw [hc];exact zh3 (g:=some (s,u)) (G:=some G) ha hgs (λhw=>zhj 6 ha hG (hgs.1 hw)) hS h
   ·exact h.elim
  ·exact h.elim
end
structure Fs where
 l:List FuncId
 nx:List (Nat × List Sh1)
def ztk (s:Nat) (v:Bool) (t:Nat) (e:Ent):Ent :=
 bif Nat.beq t s then ⟨.lit (.bool v),none⟩
 else match e.g with
  | none=>e
  | some (s',w)=>bif Nat.beq s' s then ⟨bif w == v then e.b else .lit undef,none⟩ else e
def assume:Ov->Nat->Bool->Ov
 | [],_,_=>[]
 | (t,e)::r,s,v=>(t,ztk s v t e)::assume r s v
def resolve (env:Env):Nat->Ov->Nat->(Ov->Prog)->Prog
 | 0,_,_,_=>.fail 11
 | d+1,ov,s,k=>match ov.get env s with
  | some ⟨.lit _,none⟩=>k ov
  | some ⟨.val (.bool b),none⟩=>.ite b (k (assume ov s true)) (k (assume ov s false))
  | some ⟨.val (.bool _),some (t,_)⟩=>resolve env d ov t λov'=>match ov'.get env s with
   | some ⟨.lit _,none⟩=>k ov'
   | some ⟨.val (.bool b),none⟩=>.ite b (k (assume ov' s true)) (k (assume ov' s false))
   | _=>.fail 12
  | _=>.fail 13
def zik (env:Env) (ov:Ov):List Operand->Option (List Value)
 | []=>some []
 | x::r=>match opE env ov none x,zik env ov r with
  | some b,some l=>some (b.v::l)
  | _,_=>none
def zk3 (f:FuncId) (args:Array Value):Sem Value:=do
 match (<- callFunc f args) with
 | .value v=>pure v
 | _ => stuck "a function with a body"
def z0eo (P:Program) (n:Nat) (fs:Fs) (env:Env) (ov:Ov) (o:Oper) (c:Call) (k:Ov->Prog):Prog :=
 match c.callee with
 | .value f=>match opE env ov none f,zik env ov c.args.toList,zwy P o with
  | some (.val (.func (.func i) first cap)),some args,some s =>
   bif fs.l.any (Nat.beq i) then .call i (first.toList++args++cap.toList) s λx=>fin n ov o none (za0 s x) k else .act (zk3 i (first++args.toArray++cap)) s λx=>fin n ov o none (za0 s x) k
  | some (.any fv),some args,some s=>.callv fv args s λx=>fin n ov o none (za0 s x) k
  | _,_,_=>.fail 15
 | _=>.fail 16
def zwi:List (Nat × List Sh1)->Option Nat->Option (List Sh1)
 | (t,x)::r,some s=>bif Nat.beq t s then some x else zwi r (some s)
 | _,_=>none
def z0g8 (P:Program) (fs:Fs) (o:Oper):Option Sh :=
 match o.op with
 | .entry _=>(zwi fs.nx o.dst).map Sh.tup
 | _=>zwy P o
def zyi (P:Program) (n:Nat) (fs:Fs) (env:Env) (ov:Ov) (o:Oper) (k:Ov->Prog):Prog :=
 match cls P o with
 | .c=>match o.op with
  | .call c=>z0eo P n fs env ov o c k
  | _=>.fail 17
 | .u=>match znj (opV env ov none) o with
  | some m=>bif zfz env ov none o && zj0 o.op then .actU m (fin n ov o none (.lit undef) k) else .fail 18
  | none=>.fail 19
 | .nx=>match o.op,zwi fs.nx o.dst with
  | .next it isS,some ss=>bif zfz env ov none o then
    .next (Instr.next (opV env ov none it) isS o.type) ss
     (λx=>fin n ov o none (.lit (.tuple (.bool true::z1e ss x).toArray)) k)
     (fin n ov o none (.lit (.tuple #[.bool false])) k)
   else .fail 20
  | _,_=>.fail 21
 | _=>match zn1 (opV env ov none) o,z0g8 P fs o with
  | some m,some s=>bif zfz env ov none o && zj0 o.op then .act m s λx=>fin n ov o none (za0 s x) k else .fail 22
  | _,_=>.fail 23
def zfv (P:Program) (n:Nat) (fs:Fs) (ops:Array Oper) (env:Env) (ov:Ov) (o:Oper) (k:Ov->Prog):Prog :=
 match zev ops env ov o with
 | .on=>zyi P n fs env ov o k
 | .off=>zgd n ov o k
 | .sym s _=>resolve env 6 ov s λov'=>match zev ops env ov' o with
  | .on=>zyi P n fs env ov' o k
  | .off=>zgd n ov' o k
  | .sym _ _=>.fail 24
def z4y (P:Program) (f:FuncId):Bool:=match P.funcs[f]? with
 | some fn => fn.body.isSome && fn.name != "runtime.NumGoroutine"
 | none=>false
section
variable {P:Program} {n:Nat} {fs:Fs} {env:Env} {ov:Ov} {a:Act} {o:Oper} {ops:Array Oper}
theorem zcr {s:Nat} {v:Bool}:∀ {ov:Ov} {t:Nat} {e:Ent},(assume ov s v).get env t=some e ->
  (ov.get env t=some e)\/(t=s/\e=⟨.lit (.bool v),none⟩) \/
  (∃ e₀ w,ov.get env t=some e₀/\e₀.g=some (s,w)/\e=⟨bif w == v then e₀.b else .lit undef,none⟩)
 | [],t,e,h=>.inl h
 | (t',e')::r,t,e,h=>by
  simp only [assume,Ov.get] at h ⊢
  cases htt:Nat.beq t' t with
  | false=>rw [htt] at h;exact zcr h
  | true =>
   rw [htt] at h;simp only [cond_true,Option.some.injEq] at h ⊢;subst h;unfold ztk
   cases hts:Nat.beq t' s with
   | true=>exact .inr (.inl ⟨by rw [<- Nat.eq_of_beq_eq_true htt,Nat.eq_of_beq_eq_true hts],rfl⟩)
   | false =>
    cases hg:e'.g with
    | none=>exact .inl rfl
    | some x =>
     obtain ⟨s',w⟩:=x
     cases hss:Nat.beq s' s with
     | false=>simp [hss]
     | true =>
      have:=Nat.eq_of_beq_eq_true hss;subst this;simp only [hss,cond_true,cond_false];exact .inr (.inr ⟨e',w,rfl,hg,rfl⟩)
theorem Agree.assume {s:Nat} {v:Bool} (ha:Agree n env ov a) (hs:a.tmps[s]? = some (.bool v)):Agree n env (Dec.assume ov s v) a:=by
 refine ⟨ha.size,ha.defers,λt e he=>?_⟩
 rcases zcr he with h|⟨rfl,rfl⟩|⟨e₀,w,h0,hg,rfl⟩
 ·exact ha.slots _ _ h
 ·exact hs
 ·have h1:=ha.slots _ _ h0;unfold Ent.Ok at h1;rw [hg] at h1;unfold Ent.Ok;dsimp only
  by_cases hw:w=v
  ·subst hw;simp only [beq_self_eq_true,cond_true];exact h1.1 hs
  ·have:(w == v)=false:=by simpa using hw
   simp only [this,cond_false];refine h1.2 λh=>hw ?_;rw [hs] at h;simpa using h.symm
theorem zgt {s:Nat} {b:Bool} {k:Ov->Prog} {S:World->Prop} {w:World} {Q:Post} (ha:Agree n env ov a) (hs:a.tmps[s]? = some (.bool b))
  (h:(Prog.ite b (k (assume ov s true)) (k (assume ov s false))).wp P S w Q):∃ ov',Agree n env ov' a/\(k ov').wp P S w Q:=by
 cases b with
 | true=>exact ⟨_,ha.assume hs,h.1 rfl⟩
 | false=>exact ⟨_,ha.assume hs,h.2 rfl⟩
theorem zec:∀ (d:Nat) {ov:Ov} {s:Nat} {k:Ov->Prog} {S:World->Prop} {w:World} {Q:Post},Agree n env ov a ->
  (resolve env d ov s k).wp P S w Q->∃ ov',Agree n env ov' a/\(k ov').wp P S w Q
 | 0,ov,s,k,S,w,Q,ha,h=>h.elim
 | d+1,ov,s,k,S,w,Q,ha,h=>by
  simp only [resolve] at h;split at h
  ·exact ⟨ov,ha,h⟩
  ·rename_i b hb
   exact zgt ha (ha.slots _ _ hb) h
  ·obtain ⟨ov',ha',h'⟩:=zec d ha h;split at h'
   ·exact ⟨ov',ha',h'⟩
   ·rename_i b hb
    exact zgt ha' (ha'.slots _ _ hb) h'
   ·exact h'.elim
  ·exact h.elim
def zvi (P:Program) (n:Nat) (ops:Array Oper) (env:Env) (i:Nat) (a:Act) (w:World) (S:World->Prop) (k:Ov->Prog) (Q:Post) (QX:Exit->Act->World->Prop):Prop :=
 ∀ K:Act->World->Prop,(∀ ov' a' w',Agree n env ov' a'->S w'->(k ov').wp P S w' Q->K a' w')->wpOp P ops QX i K a w
theorem z5r {b:Base} {k:Ov->Prog} {S:World->Prop} {w:World} {Q:Post} (ha:Agree n env ov a) (h:(fin n ov o none b k).wp P S w Q) :
  ∃ ov',Agree n env ov' (a.put o.dst b.v)/\(k ov').wp P S w Q:=by
 unfold fin at h
 cases hdst:o.dst with
 | none=>rw [hdst] at h;exact ⟨ov,ha,h⟩
 | some d =>
  rw [hdst] at h;simp only [cond_eq_ite] at h;split at h
  ·rename_i hc
   simp only [Bool.and_eq_true] at hc;exact ⟨_,Agree.put ha (Nat.le_of_ble_eq_true hc.1.1) hc.1.2 rfl,h⟩
  ·exact h.elim
theorem zda (ha:Agree n env ov a):∀ {l:List Operand} {vs:List Value},zik env ov l=some vs->l.map a.eval=vs
 | [],vs,h=>by simp only [zik,Option.some.injEq] at h;subst h;rfl
 | x::r,vs,h=>by
  simp only [zik] at h;split at h
  ·rename_i b l hb hl
   obtain rfl:=Option.some.inj h;rw [List.map_cons,z42 (g:=none) ha trivial hb,zda ha hl]
  ·cases h
theorem zpk {f:FuncId} (hf:z4y P f=true) (args:Array Value) (w:World):(callFunc f args).run P w=.ok (.enter f args) w:=by
 unfold z4y at hf;split at hf
 ·rename_i fn hfn
  simp only [Bool.and_eq_true] at hf
  have h1 : (fn.name == "runtime.NumGoroutine") = false := by
   have:=hf.2;simpa using this
  have h2:fn.body.isNone=false:=by
   have:=hf.1;cases hb:fn.body <;> simp_all
  simp only [callFunc,Sem.run_bind,run_program,Result.andThen_ok,hfn,h1,h2,Bool.false_eq_true,if_false,Sem.run_pure]
 ·cases hf
theorem zpj {c:Call} {f:FuncId} {first cap:Array Value} {x:Operand} {ρ : Operand->Value} (hc:c.callee=.value x) (hx : ρ x=.func (.func f) first cap) (hf:z4y P f=true)
  {dst:Option Tmp} {type:TypeId} {pos:String} {after:Array Edge} {guard:Option (Nat × Bool)} (w:World) :
  (execOp ρ { dst,op:=.call c,type,pos,after,guard }).run P w=.ok (.enter f (first++c.args.map ρ ++ cap)) w:=by
 simp only [execOp,Go.resolve,hc,Deferred.ofValue,hx,Sem.run_bind,Sem.run_pure,Result.andThen_ok,Go.invoke,zpk hf]
theorem z09t {f:FuncId} {args:Array Value} {w w':World} {v:Value} (h:(zk3 f args).run P w=.ok v w'):(callFunc f args).run P w=.ok (.value v) w':=by
 unfold zk3 at h;simp only [Sem.run_bind] at h
 cases hc:(callFunc f args).run P w with
 | ok r w2 =>
  rw [hc] at h;simp only [Result.andThen_ok] at h
  cases r with
  | value v2 =>
   simp only [Sem.run_pure] at h
   obtain ⟨rfl,rfl⟩:v2=v/\w2=w':=by cases h;exact ⟨rfl,rfl⟩
   rfl
  | _=>cases h
 | _=>rw [hc] at h;cases h
theorem z01s {c:Call} {f:FuncId} {first cap:Array Value} {x:Operand} {ρ : Operand->Value} (hc:c.callee=.value x) (hx : ρ x=.func (.func f) first cap)
  {dst:Option Tmp} {type:TypeId} {pos:String} {after:Array Edge} {guard:Option (Nat × Bool)} (w:World) :
  (execOp ρ { dst,op:=.call c,type,pos,after,guard }).run P w=(callFunc f (first++c.args.map ρ ++ cap)).run P w:=by
 simp only [execOp,Go.resolve,hc,Deferred.ofValue,hx,Sem.run_bind,Sem.run_pure,Result.andThen_ok,Go.invoke]
theorem zlc {i:Nat} {k:Ov->Prog} {S:World->Prop} {w:World} {Q:Post} {QX:Exit->Act->World->Prop} (hfs:∀ f ∈ fs.l,z4y P f=true) (hi:ops[i]? = some o)
  (ha:Agree n env ov a) (hw:Region.wanted o (yielded ops a.tmps)=true) (h:(zyi P n fs env ov o k).wp P S w Q):zvi P n ops env i a w S k Q QX:=by
 intro K hK;unfold wpOp;simp only [hi,hw,if_true];refine .inl ?_;unfold Oper.wp;obtain ⟨dst,op,type,pos,after,guard⟩:=o;unfold zyi at h;split at h
 ·
  split at h
  ·rename_i c hop
   dsimp only at hop;subst hop;unfold z0eo at h;split at h
   ·rename_i f hc
    split at h
    ·rename_i fi first cap args s hf hargs hs
     simp only [cond_eq_ite] at h;split at h
     ·rename_i hm
      have hmem:fi ∈ fs.l:=by
       obtain ⟨y,hy,hy'⟩:=List.any_eq_true.1 hm;rw [Nat.eq_of_beq_eq_true hy'];exact hy
      have hx:=z42 (g:=none) ha trivial hf;rw [zpj hc hx (hfs _ hmem) w,Oper.upon_enter]
      have hargs':first++c.args.map a.eval++cap=(first.toList++args++cap.toList).toArray:=by
       rw [<- zda ha hargs];apply Array.ext';simp
      rw [hargs'];refine Calls.mono h λe w' ⟨x,he,hS,h'⟩=>?_;subst he;obtain ⟨ov',ha',h''⟩:=z5r ha h';rw [zbi] at ha';exact hK _ _ _ ha' hS h''
     ·obtain ⟨x,w',hrun,hS,h'⟩:=h;have hx:=z42 (g:=none) ha trivial hf
      have hargs':first++c.args.map a.eval++cap=first++args.toArray++cap:=by
       rw [<- zda ha hargs];congr 2;apply Array.ext';simp
      rw [z01s hc hx w,hargs',z09t hrun,Oper.upon_value];obtain ⟨ov',ha',h''⟩:=z5r ha h';rw [zbi] at ha';exact hK _ _ _ ha' hS h''
    ·rename_i fv args s hf hargs hs
     obtain ⟨fi,first,cap,hfv,hok,h⟩:=h;have hx:=z42 (g:=none) ha trivial hf;simp only [Base.v,hfv] at hx
     have hok':z4y P fi=true:=by
      unfold z4y
      cases hq:P.funcs[fi]? with
      | none=>rw [hq] at hok;cases hok
      | some fn=>rw [hq] at hok;simpa using hok
     rw [zpj hc hx hok' w,Oper.upon_enter]
     have hargs':first++c.args.map a.eval++cap=first++args.toArray++cap:=by
      rw [<- zda ha hargs];congr 2;apply Array.ext';simp
     rw [hargs'];refine Calls.mono h λe w' ⟨x,he,hS,h'⟩=>?_;subst he;obtain ⟨ov',ha',h''⟩:=z5r ha h';rw [zbi] at ha';exact hK _ _ _ ha' hS h''
    ·exact h.elim
   ·exact h.elim
  ·exact h.elim
 ·
  split at h
  ·rename_i m hm
   simp only [cond_eq_ite] at h;split at h
   ·rename_i hk
    simp only [Bool.and_eq_true] at hk;obtain ⟨w',hrun,hS,h'⟩:=h;rw [z8o (g:=none) ha trivial hk.1 hk.2,zzz hm];simp only [Sem.run_bind,hrun,Result.andThen_ok,Sem.run_pure,Oper.upon_skip];obtain ⟨ov',ha',h''⟩:=z5r ha h';exact hK _ _ _ ha' hS h''
   ·exact h.elim
  ·exact h.elim
 ·
  split at h
  ·rename_i it isS ss hop hss
   dsimp only at hop;subst hop;simp only [cond_eq_ite] at h;split at h
   ·rename_i hk
    rw [z8o (g:=none) ha trivial hk rfl]
    rcases h with ⟨x,w',hrun,hS,h'⟩|⟨w',hrun,hS,h'⟩
    ·simp only [execOp,Sem.run_bind,hrun,Result.andThen_ok,Sem.run_pure,Oper.upon_value];obtain ⟨ov',ha',h''⟩:=z5r ha h';exact hK _ _ _ ha' hS h''
    ·simp only [execOp,Sem.run_bind,hrun,Result.andThen_ok,Sem.run_pure,Oper.upon_value];obtain ⟨ov',ha',h''⟩:=z5r ha h';exact hK _ _ _ ha' hS h''
   ·exact h.elim
  ·exact h.elim
 ·split at h
  ·rename_i m s hm hs
   simp only [cond_eq_ite] at h;split at h
   ·rename_i hk
    simp only [Bool.and_eq_true] at hk;obtain ⟨x,w',hrun,hS,h'⟩:=h;rw [z8o (g:=none) ha trivial hk.1 hk.2,zni hm];simp only [Sem.run_bind,hrun,Result.andThen_ok,Sem.run_pure,Oper.upon_value];obtain ⟨ov',ha',h''⟩:=z5r ha h';rw [zbi] at ha';exact hK _ _ _ ha' hS h''
   ·exact h.elim
  ·exact h.elim
theorem zgz {i:Nat} {k:Ov->Prog} {S:World->Prop} {w:World} {Q:Post} {QX:Exit->Act->World->Prop} (hi:ops[i]? = some o) (hS:S w)
  (ha:Agree n env ov a) (hw:Region.wanted o (yielded ops a.tmps)=false) (h:(zgd n ov o k).wp P S w Q):zvi P n ops env i a w S k Q QX:=by
 intro K hK;unfold wpOp;simp only [hi,hw];obtain ⟨ov',ha',h''⟩:=z5r ha h;exact hK _ _ _ ha' hS h''
theorem zm7 {i:Nat} {k:Ov->Prog} {S:World->Prop} {w:World} {Q:Post} {QX:Exit->Act->World->Prop} (hfs:∀ f ∈ fs.l,z4y P f=true) (hi:ops[i]? = some o) (hS:S w)
  (ha:Agree n env ov a) (h:(zfv P n fs ops env ov o k).wp P S w Q):zvi P n ops env i a w S k Q QX:=by
 have hgs:=zew (o:=o) (ops:=ops) ha;unfold zfv at h;split at h
 ·rename_i hg;rw [hg] at hgs;exact zlc hfs hi ha hgs h
 ·rename_i hg;rw [hg] at hgs;exact zgz hi hS ha hgs h
 ·obtain ⟨ov',ha',h'⟩:=zec 6 ha h;have hgs:=zew (o:=o) (ops:=ops) ha';split at h'
  ·rename_i hg;rw [hg] at hgs;exact zlc hfs hi ha' hgs h'
  ·rename_i hg;rw [hg] at hgs;exact zgz hi hS ha' hgs h'
  ·exact h'.elim
end
def zam (P:Program) (n:Nat) (fs:Fs) (ops:Array Oper) (env:Env):List Nat->Ov->(Ov->Prog)->Prog
 | [],ov,k=>k ov
 | i::rest,ov,k=>match ops[i]? with
  | none=>zam P n fs ops env rest ov k
  | some o=>bif zb3 (cls P o) then zge P n false ops env ov o λov'=>zam P n fs ops env rest ov' k
   else zfv P n fs ops env ov o λov'=>zam P n fs ops env rest ov' k
def zcp (P:Program) (ops:Array Oper) (listed:Array Bool):List Nat->Option Nat
 | []=>none
 | i::r=>match ops[i]? with
  | some o=>bif zb3 (cls P o) && Region.free .any ops listed i then some i else zcp P ops listed r
  | none=>zcp P ops listed r
def zjy (f:Nat->Prog):List Nat->Prog
 | []=>.fail 25
 | [i]=>f i
 | i::r=>.both (f i) (zjy f r)
def zn2:List Oper->Nat->Nat->Nat
 | [],_,m=>m
 | o::r,j,m=>zn2 r (j+1) (bif o.after.toList.any (λe=>Region.binds .any e && m.testBit e.on) then m ||| 2 ^ j else m)
def zcn (ops:Array Oper) (i:Nat):Nat:=zn2 ops.toList 0 (2 ^ i)
def zcm (ops:Array Oper) (j:Nat):List Nat->Bool
 | []=>true
 | i::r=>(zcn ops i).testBit j && zcm ops j r
def znk (P:Program) (listed:Array Bool) (m:Nat):List Oper->Nat->Bool
 | [],_=>true
 | o::r,j=>(listed.getD j true || zb3 (cls P o) || m.testBit j) && znk P listed m r (j+1)
def z4f (P:Program) (n:Nat) (fs:Fs) (ops:Array Oper) (env:Env):Nat->Array Bool->List Nat->List Nat->Ov->(Ov->Prog)->Prog
 | 0,listed,_,_,ov,k=>match Region.ready .any ops listed with
  | []=>.untick (k ov)
  | _=>.fail 26
 | d+1,listed,hl,rl,ov,k=>match Region.ready .any ops listed with
  | []=>.untick (k ov)
  | i::r=>match zcp P ops listed (i::r) with
   | some j=>match ops[j]? with
    | some o=>bif isP (cls P o) then zge P n true ops env ov o λov'=>z4f P n fs ops env d (listed.setIfInBounds j true) hl rl ov' k
     else bif znk P listed (zcn ops j) ops.toList 0 then zge P n false ops env ov o λov'=>z4f P n fs ops env d (listed.setIfInBounds j true) hl (j::rl) ov' k
     else zge P n true ops env ov o λov'=>z4f P n fs ops env d (listed.setIfInBounds j true) (j::hl) rl ov' k
    | none=>.fail 27
   | none=>zjy (λj=>match ops[j]? with
    | some o=>bif zb3 (cls P o) then (match rl with
      | []=>zfv P n fs ops env ov o λov'=>z4f P n fs ops env d (listed.setIfInBounds j true) hl [] ov' k
      | _=>.fail 28)
     else bif zcm ops j rl then (match hl with
      | []=>zfv P n fs ops env ov o λov'=>z4f P n fs ops env d (listed.setIfInBounds j true) [] [] ov' k
      | i'::hl'=>bif zcm ops j (i'::hl') then .untick (zfv P n fs ops env ov o λov'=>z4f P n fs ops env d (listed.setIfInBounds j true) [] [] ov' k)
       else zfv P n fs ops env ov o λov'=>z4f P n fs ops env d (listed.setIfInBounds j true) (i'::hl') rl ov' k)
     else .fail 29
    | none=>.fail 28) (i::r)
section
variable {P:Program} {n:Nat} {fs:Fs} {env:Env} {ov:Ov} {a:Act} {o:Oper} {ops:Array Oper}
theorem z7u {Q:Post} {QX:Exit->Act->World->Prop} {k:Ov->Prog} (hfs:∀ f ∈ fs.l,z4y P f=true)
  (hk:∀ ov' a' w',Agree n env ov' a'->(k ov').wp P (λ_=>True) w' Q->QX .normal a' w') :
  ∀ (l:List Nat) {ov:Ov} {a:Act} {w:World},Agree n env ov a->(zam P n fs ops env l ov k).wp P (λ_=>True) w Q->wpOps P ops QX l a w
 | [],ov,a,w,ha,h=>hk ov a w ha h
 | i::rest,ov,a,w,ha,h=>by
  rw [wpOps_cons];unfold zam at h
  cases ho:ops[i]? with
  | none =>
   rw [ho] at h;unfold wpOp;rw [ho];exact z7u hfs hk rest ha h
  | some o =>
   rw [ho] at h;simp only [cond_eq_ite] at h;split at h
   ·obtain ⟨v,ov',S',ha',_,_,hy,_,_,hS',h'⟩:=z8x (dr:=false) ha trivial h;have:=hS' rfl;subst this;exact hy.wpOp ho rfl (z7u hfs hk rest ha' h')
   ·exact zm7 hfs ho trivial ha h _ λov' a' w' ha' _ h'=>z7u hfs hk rest ha' h'
theorem zcd {listed:Array Bool}:∀ {l:List Nat} {j:Nat},zcp P ops listed l=some j->j ∈ l/\Region.free .any ops listed j=true/\∀ o,ops[j]? = some o->zb3 (cls P o)=true
 | [],j,h=>by simp [zcp] at h
 | i::r,j,h=>by
  unfold zcp at h;split at h
  ·simp only [cond_eq_ite] at h;split at h
   ·rename_i hc
    simp only [Bool.and_eq_true] at hc;obtain rfl:=Option.some.inj h;exact ⟨List.mem_cons_self ..,hc.2,λo' ho'=>by simp_all⟩
   ·have:=zcd h;exact ⟨List.mem_cons_of_mem _ this.1,this.2⟩
  ·have:=zcd h;exact ⟨List.mem_cons_of_mem _ this.1,this.2⟩
theorem zej {f:Nat->Prog} {S:World->Prop} {w:World} {Q:Post}:∀ {l:List Nat},(zjy f l).wp P S w Q->∀ i ∈ l,(f i).wp P S w Q
 | [],h,_,hi=>by cases hi
 | [j],h,i,hi=>by obtain rfl:=List.mem_singleton.1 hi;exact h
 | j::j'::r,h,i,hi=>by
  rcases List.mem_cons.1 hi with rfl|hi
  ·exact h.1
  ·exact zej h.2 i hi
def z0gr (P:Program) (ops:Array Oper) (j:Nat):Prop:=∃ o,ops[j]? = some o/\zb3 (cls P o)=false
def zaz (P:Program) (ops:Array Oper) (L:Array Bool) (i:Nat):Prop:=∃ j,L.getD j false=true/\z0gr P ops j/\(zcn ops i).testBit j=true
def zef (ops:Array Oper) (L:Array Bool):Prop:=∀ j o,ops[j]? = some o->L.getD j false=true->∀ e ∈ o.after,Region.binds .any e=true->L.getD e.on false=true
theorem zif {p:Nat->Prop} (hp:∀ j o,ops[j]? = some o->p j->∀ e ∈ o.after,Region.binds .any e=true->p e.on) {i:Nat}:∀ (l:List Oper) (k m:Nat),(∀ t o,l[t]? = some o->ops[k+t]? = some o) ->
  (∀ j,m.testBit j=true->p j->p i)->∀ j,(zn2 l k m).testBit j=true->p j->p i
 | [],k,m,hl,hm,j,hj,h=>hm j hj h
 | o::r,k,m,hl,hm,j,hj,h=>by
  unfold zn2 at hj;refine zif hp r (k+1) _ (λt o ho=>by have:=hl (t+1) o (by simpa using ho);rwa [show k+1+t=k+(t+1) by omega]) ?_ j hj h;intro j' hj' h';rw [cond_eq_ite] at hj';split at hj'
  ·rename_i hc
   rw [Nat.testBit_or,Nat.testBit_two_pow,Bool.or_eq_true] at hj'
   rcases hj' with hj'|hj'
   ·exact hm j' hj' h'
   ·obtain rfl:=of_decide_eq_true hj';obtain ⟨e,he,hb⟩:=List.any_eq_true.1 hc;simp only [Bool.and_eq_true] at hb;exact hm e.on hb.2 (hp k o (hl 0 o rfl) h' e (by simpa using he) hb.1)
  ·exact hm j' hj' h'
theorem zvs {L:Array Bool} {i j:Nat} (hc:zef ops L) (hj:L.getD j false=true) (hd:(zcn ops i).testBit j=true):L.getD i false=true:=by
 refine zif (p:=λj=>L.getD j false=true) (λj o ho h e he hb=>hc j o ho h e he hb) ops.toList 0 (2 ^ i) (λt o ho=>by simpa using ho) ?_ j hd hj;intro j' h1 h2;rw [Nat.testBit_two_pow] at h1;obtain rfl:=of_decide_eq_true h1;exact h2
theorem zu0 {L:Array Bool} {i:Nat} (h:L.getD i true=false):L.getD i false=false:=by
 rcases Nat.lt_or_ge i L.size with h'|h'
 ·simp [h'] at h ⊢;exact h
 ·simp [Array.getElem?_eq_none h'] at h
theorem zd9 {L:Array Bool} {j:Nat} (hc:zef ops L) (hj:j ∈ Region.ready .any ops L):zef ops (L.setIfInBounds j true):=by
 obtain ⟨_,oj,hoj,hall⟩:=mem_ready.1 hj;intro j' o' ho' h' e he hb
 by_cases hjj:j=j'
 ·subst hjj;rw [hoj] at ho';obtain rfl:=Option.some.inj ho';exact getD_set_true (hall e he hb)
 ·rw [getD_set_ne false hjj] at h';exact getD_set_true (hc j' o' ho' h' e he hb)
theorem znz {L:Array Bool} {i k:Nat} {o:Oper} (ho:ops[k]? = some o) (hp:zb3 (cls P o)=true):zaz P ops (L.setIfInBounds k true) i↔zaz P ops L i:=by
 constructor
 ·rintro ⟨j,h1,⟨o',ho',h2⟩,h3⟩;refine ⟨j,?_,⟨o',ho',h2⟩,h3⟩
  by_cases hkj:k=j
  ·subst hkj;rw [ho] at ho';obtain rfl:=Option.some.inj ho';rw [hp] at h2;cases h2
  ·rwa [getD_set_ne false hkj] at h1
 ·rintro ⟨j,h1,h2,h3⟩;exact ⟨j,getD_set_true h1,h2,h3⟩
def z79 (P:Program) (ops:Array Oper) (Q:Exit->Act->World->Prop) (T:Array Bool->World->Prop):Nat->Array Bool->Act->World->Prop
 | 0,L,a,w=>Region.ready .any ops L=[]/\Q .normal a w
 | d+1,L,a,w=>(Region.ready .any ops L=[]->Q .normal a w) /\
  ∀ i ∈ Region.ready .any ops L,wpOp P ops Q i (λa' w'=>T (L.setIfInBounds i true) w'/\z79 P ops Q T d (L.setIfInBounds i true) a' w') a w
theorem zjo {Q:Exit->Act->World->Prop} {T:Array Bool->World->Prop}:∀ (d:Nat) (L:Array Bool) (a:Act) (w:World),z79 P ops Q T d L a w->wpAny P .any ops Q d L a w
 | 0,_,_,_,h=>h
 | d+1,L,_,_,h=>⟨h.1,λi hi=>wpOp_mono (λa' w' h'=>zjo d _ a' w' h'.2) (h.2 i hi)⟩
theorem zh5 {Q:Exit->Act->World->Prop} {T T':Array Bool->World->Prop} (ht:∀ L w,T' L w->T L w):∀ (d:Nat) (L:Array Bool) (a:Act) (w:World),z79 P ops Q T' d L a w->z79 P ops Q T d L a w
 | 0,_,_,_,h=>h
 | d+1,L,_,_,h=>⟨h.1,λi hi=>wpOp_mono (λa' w' h'=>⟨ht _ _ h'.1,zh5 ht d _ a' w' h'.2⟩) (h.2 i hi)⟩
theorem zqp {i:Nat} {oi:Oper} {v:Value} {Q:Exit->Act->World->Prop} {T:Array Bool->World->Prop} {f:World->Prop} (hi:ops[i]? = some oi) (hsel:∀ (j:Nat) (o:Oper) cs b,ops[j]? = some o->o.op≠.select cs b)
  (hQ:∀ c a w,Q (.panic c) (a.put oi.dst v) w->Q (.panic c) a w) (hpr:zb3 (cls P oi)=true) (hT:∀ L w,T (L.setIfInBounds i true) w->T L w) :
  ∀ (d:Nat) (L:Array Bool) (a:Act) (w:World),
   (∀ j oj,ops[j]? = some oj->j≠i->L.getD j true=false->(∀ e ∈ oj.after,Region.binds .any e=true->e.on≠i)->oi.apart ops oj=true) ->
   i ∈ Region.ready .any ops L->zef ops L->YieldsIf P ops f oi v a->f w->T (L.setIfInBounds i true) w ->
   z79 P ops Q (λL w=>T L w/\(¬ zaz P ops L i->f w)) d (L.setIfInBounds i true) (a.put oi.dst v) w->z79 P ops Q T (d+1) L a w:=by
 have here:∀ (d:Nat) (L:Array Bool) (a:Act) (w:World),YieldsIf P ops f oi v a->f w->T (L.setIfInBounds i true) w ->
   z79 P ops Q (λL w=>T L w/\(¬ zaz P ops L i->f w)) d (L.setIfInBounds i true) (a.put oi.dst v) w ->
   wpOp P ops Q i (λa' w'=>T (L.setIfInBounds i true) w'/\z79 P ops Q T d (L.setIfInBounds i true) a' w') a w:=λd L a w hy hf ht H =>
  hy.wpOp hi hf ⟨ht,zh5 (λ_ _ h=>h.1) _ _ _ _ H⟩
 intro d
 induction d with
 | zero =>
  intro L a w _ hr hc hy hf ht H;refine ⟨λh=>(by rw [h] at hr;cases hr),λj hj=>?_⟩
  by_cases hji:j=i
  ·subst hji;exact here _ _ _ _ hy hf ht H
  ·have:=ready_mono hj hji;rw [H.1] at this;cases this
 | succ d ih =>
  intro L a w hfree hr hc hy hf ht H;refine ⟨λh=>(by rw [h] at hr;cases hr),λj hj=>?_⟩
  by_cases hji:j=i
  ·subst hji;exact here _ _ _ _ hy hf ht H
  ·have h1:=H.2 j (ready_mono hj hji);obtain ⟨hjun,oj,hoj,hall⟩:=mem_ready.1 hj;have hiun:=(mem_ready.1 hr).1
   have hnot:∀ e ∈ oj.after,Region.binds .any e=true->e.on≠i:=λe he hb heq=>by
    have h1:=hall e he hb;rw [heq,zu0 hiun] at h1;cases h1
   have h2:=wpOp_putIf hoj (hfree j oj hoj hji hjun hnot) (λcs b=>hsel i oi cs b hi) (λcs b=>hsel j oj cs b hoj) hQ hy h1
   have hfree':∀ k ok,ops[k]? = some ok->k≠i->(L.setIfInBounds j true).getD k true=false ->
     (∀ e ∈ ok.after,Region.binds .any e=true->e.on≠i)->oi.apart ops ok=true:=λk ok hk hki hun hno=>by
    refine hfree k ok hk hki ?_ hno
    by_cases hjk:j=k
    ·subst hjk;exact hjun
    ·rw [getD_set_ne true hjk] at hun;exact hun
   have hcl:=zd9 hc hj
   have hnd:¬ zaz P ops ((L.setIfInBounds i true).setIfInBounds j true) i:=by
    rw [Array.setIfInBounds_comm _ _ (Ne.symm hji),znz hi hpr];rintro ⟨j',h1,_,h3⟩;have:=zvs hcl h1 h3;rw [getD_set_ne false hji,zu0 hiun] at this;cases this
   refine wpOp_mono (λa' w' h3=>?_) h2;obtain ⟨hy',⟨ht',hf'⟩,H'⟩:=h3;have hf':=hf' hnd;rw [Array.setIfInBounds_comm _ _ (Ne.symm hji)] at ht' H';exact ⟨hT _ _ ht',ih (L.setIfInBounds j true) a' w' hfree' (ready_mono hr (Ne.symm hji)) hcl hy' hf' ht' H'⟩
theorem zgm {j:Nat}:∀ {l:List Nat},zcm ops j l=true->∀ i ∈ l,(zcn ops i).testBit j=true
 | [],_,i,hi=>by cases hi
 | x::r,h,i,hi=>by
  simp only [zcm,Bool.and_eq_true] at h
  rcases List.mem_cons.1 hi with rfl|hi
  ·exact h.1
  ·exact zgm h.2 i hi
def Inv (P:Program) (ops:Array Oper) (L:Array Bool) (hl rl:List Nat) (S:World->Prop) (T:Array Bool->World->Prop):Prop :=
 ∀ L' w',(∀ j,L.getD j false=true->L'.getD j false=true)->(∀ i ∈ rl,zaz P ops L' i)->(S w'\/∀ i ∈ hl,zaz P ops L' i)->T L' w'
theorem za5 {Q:Post} {QX:Exit->Act->World->Prop} {k:Ov->Prog} (hfs:∀ f ∈ fs.l,z4y P f=true) (hsel:Region.noSelect ops=true)
  (hQ:∀ c a w,¬ QX (.panic c) a w) (hk:∀ ov' a' w',Agree n env ov' a'->(k ov').wp P (λ_=>True) w' Q->QX .normal a' w') :
  ∀ (d:Nat) {L:Array Bool} {hl rl:List Nat} {ov:Ov} {a:Act} {w:World} {S:World->Prop} {T:Array Bool->World->Prop},Agree n env ov a->zef ops L ->
   (∀ i o,ops[i]? = some o->zb3 (cls P o)=true->∀ L w,T (L.setIfInBounds i true) w↔T L w)->Inv P ops L hl rl S T->T L w->S w ->
   (z4f P n fs ops env d L hl rl ov k).wp P S w Q->z79 P ops QX T d L a w
 | 0,L,hl,rl,ov,a,w,S,T,ha,hc,hT,hI,ht,hS,h=>by
  unfold z4f at h;split at h
  ·rename_i hr;exact ⟨hr,hk _ _ _ ha h⟩
  ·exact h.elim
 | d+1,L,hl,rl,ov,a,w,S,T,ha,hc,hT,hI,ht,hS,h=>by
  unfold z4f at h;split at h
  ·rename_i hr;exact ⟨λ_=>hk _ _ _ ha h,by rw [hr];simp⟩
  ·rename_i i r hr
   have mono:∀ {j:Nat} {hl rl:List Nat} {S:World->Prop} {T:Array Bool->World->Prop},Inv P ops L hl rl S T->Inv P ops (L.setIfInBounds j true) hl rl S T :=
    λhI L' w' hL=>hI L' w' λj' hj'=>hL j' (getD_set_true hj')
   split at h
   ·rename_i j hj
    have hj:=zcd hj;split at h
    ·rename_i o ho
     have hjr:j ∈ Region.ready .any ops L:=by rw [hr];exact hj.1
     have hQ':∀ v,∀ c a w,QX (.panic c) (a.put o.dst v) w->QX (.panic c) a w:=λv c a w h=>absurd h (hQ _ _ _);have hcl:=zd9 hc hjr;have hPR:zb3 (cls P o)=true:=hj.2.2 o ho
     have hT':∀ f:World->Prop,∀ i o,ops[i]? = some o->zb3 (cls P o)=true->∀ L w,(T (L.setIfInBounds i true) w/\(¬ zaz P ops (L.setIfInBounds i true) j->f w))↔(T L w/\(¬ zaz P ops L j->f w)) :=
      λf i o hi ho L w=>by rw [hT i o hi ho L w,znz hi ho]
     have go:∀ {v ov'} {S' f:World->Prop} {hl' rl':List Nat},YieldsIf P ops f o v a->Agree n env ov' (a.put o.dst v)->f w->S' w->Inv P ops (L.setIfInBounds j true) hl' rl' S' (λL w=>T L w/\(¬ zaz P ops L j->f w)) ->
       (z4f P n fs ops env d (L.setIfInBounds j true) hl' rl' ov' k).wp P S' w Q->z79 P ops QX T (d+1) L a w:=λhy ha' hf hS' hI' h' =>
      zqp ho (Region.noSelect_spec hsel) (hQ' _) hPR (λL w h=>(hT j o ho hPR L w).1 h) d L a w (Region.free_spec ho hj.2.1) hjr hc hy hf ((hT j o ho hPR L w).2 ht)
       (za5 hfs hsel hQ hk d ha' hcl (hT' _) hI' ⟨(hT j o ho hPR L w).2 ht,λ_=>hf⟩ hS' h')
     simp only [cond_eq_ite] at h;split at h
     ·rename_i hp
      obtain ⟨v,ov',S',ha',hy,_,_,_,_,_,h'⟩:=z8x (dr:=true) ha hS h;obtain ⟨hy1,rfl⟩:=hy hp;exact go (f:=λ_=>True) hy1 ha' trivial hS (λL' w' hL h1 h2=>⟨mono hI L' w' hL h1 h2,λ_=>trivial⟩) h'
     ·split at h
      ·obtain ⟨v,ov',S',ha',_,_,hy,_,_,hd,h'⟩:=z8x (dr:=false) ha hS h;obtain rfl:=hd rfl;refine go (f:=(· = w)) hy ha' rfl hS (λL' w' hL h1 h2=>⟨mono hI L' w' hL (λi hi=>h1 i (List.mem_cons_of_mem _ hi)) h2,λh3=>absurd (h1 j (List.mem_cons_self ..)) h3⟩) h'
      ·obtain ⟨v,ov',S',ha',_,hy,_,hS',hSS,_,h'⟩:=z8x (dr:=true) ha hS h;refine go (f:=S') (hy rfl) ha' hS' hS' (λL' w' hL h1 h2=>⟨mono hI L' w' hL h1 ?_,λh3=>?_⟩) h'
       ·rcases h2 with h2|h2
        ·exact .inl (hSS _ h2)
        ·exact .inr λi hi=>h2 i (List.mem_cons_of_mem _ hi)
       ·rcases h2 with h2|h2
        ·exact h2
        ·exact absurd (h2 j (List.mem_cons_self ..)) h3
    ·exact h.elim
   ·refine ⟨λh0=>(by rw [h0] at hr;cases hr),λj hj=>?_⟩
    have hjL:(L.setIfInBounds j true).getD j false=true:=by
     have:=(mem_ready.1 hj).1
     rcases Nat.lt_or_ge j L.size with h'|h'
     ·simp [h']
     ·simp [Array.getElem?_eq_none h'] at this
    rw [hr] at hj;have h':=zej h j hj;rw [<- hr] at hj;have hcl:=zd9 hc hj;split at h'
    ·rename_i o ho
     have go:∀ {S':World->Prop} {hl' rl':List Nat},S' w->(∀ w',S' w'->T (L.setIfInBounds j true) w')->Inv P ops (L.setIfInBounds j true) hl' rl' S' T ->
       (zfv P n fs ops env ov o λov'=>z4f P n fs ops env d (L.setIfInBounds j true) hl' rl' ov' k).wp P S' w Q ->
       wpOp P ops QX j (λa' w'=>T (L.setIfInBounds j true) w'/\z79 P ops QX T d (L.setIfInBounds j true) a' w') a w:=λhS' hST hI' h' =>
      zm7 hfs ho hS' ha h' _ λov' a' w' ha' hS'' h''=>⟨hST w' hS'',za5 hfs hsel hQ hk d ha' hcl hT hI' (hST w' hS'') hS'' h''⟩
     have sub:∀ j',L.getD j' false=true->(L.setIfInBounds j true).getD j' false=true:=λj' h=>getD_set_true h;simp only [cond_eq_ite] at h';split at h'
     ·rename_i hp
      split at h'
      ·exact go hS (λw' hw'=>hI _ w' sub (λi hi=>by cases hi) (.inl hw')) (mono hI) h'
      ·exact h'.elim
     ·rename_i hp
      have hdead:∀ {l:List Nat},zcm ops j l=true->∀ L':Array Bool,L'.getD j false=true->∀ i ∈ l,zaz P ops L' i:=λhd L' hL i hi =>
       ⟨j,hL,⟨o,ho,by simpa using hp⟩,zgm hd i hi⟩
      split at h'
      ·rename_i hrl
       have hrl:=hdead hrl;split at h'
       ·exact go hS (λw' hw'=>hI _ w' sub (hrl _ hjL) (.inl hw')) (λL' w' hL h1 h2=>hI L' w' (λj' hj'=>hL j' (sub j' hj')) (hrl L' (hL j hjL)) h2) h'
       ·split at h'
        ·rename_i hhl
         have hhl:=hdead hhl;refine go (S':=λ_=>True) trivial (λw' _=>hI _ w' sub (hrl _ hjL) (.inr (hhl _ hjL))) (λL' w' hL h1 h2=>hI L' w' (λj' hj'=>hL j' (sub j' hj')) (hrl L' (hL j hjL)) (.inr (hhl L' (hL j hjL)))) h'
        ·exact go hS (λw' hw'=>hI _ w' sub (hrl _ hjL) (.inl hw')) (mono hI) h'
      ·exact h'.elim
    ·exact h'.elim
end
abbrev Outs:=List (Nat × Sh1)
structure Hints where
 cnd:List (Nat × Outs)
 blk:List (Nat × Outs)
 reg:List (Nat × Outs)
 lps:List (Nat × Outs)
def z4r:List (Nat × Outs)->Nat->Option Outs
 | [],_=>none
 | (t,x)::r,s=>bif Nat.beq t s then some x else z4r r s
def shs:Outs->List Sh1
 | []=>[]
 | (_,s)::r=>s::shs r
def z7i (env:Env):List Nat->Option (List Value)
 | []=>some []
 | s::r=>match env.get s,z7i env r with
  | some b,some vs=>some (b.v::vs)
  | _,_=>none
def slots:Outs->List Nat
 | []=>[]
 | (t,_)::r=>t::slots r
inductive RV where
 | tmp (t:Nat)|cell (t:Nat) (ty:TypeId)
def z6k (P:Program) (env:Env):List RV->List Value->Prog
 | [],acc=>.done 0 acc.reverse
 | .tmp t::r,acc=>match env.get t with
  | some b=>z6k P env r (b.v::acc)
  | none=>.fail 44
 | .cell t ty::r,acc=>match env.get t,sh1 P ty with
  | some (.adr a),some s=>.read True (Instr.loadAt ty (.pointer (some a))) (.one s) λx=>z6k P env r ((Sh.one s).mk x::acc)
  | _,_=>.fail 45
def ze9 (d:Nat) (ts:List Nat) (env:Env):Prog :=
 match z7i env ts with
 | some vs=>.done d vs
 | none=>.fail 31
def z03c:Sh1->Value->Base
 | .one .any,v=>.any v
 | .one .adr,v=>match v with
  | .pointer (some a)=>.adr a
  | v=>.val v
 | _,v=>.val v
def z8u:Outs->List Value->Env
 | (t,s)::r,v::vs=>(t,some (z03c s v))::z8u r vs
 | _,_=>[]
def zeo (m:Nat):Env->Env
 | []=>[]
 | (t,e)::r=>bif m.testBit t then zeo m r else (t,e)::zeo m r
def z8f (m:Nat) (outs:Outs) (vs:List Value) (env:Env):Env:=z8u outs vs++zeo m env
def z8h:List Oper->Nat
 | []=>0
 | o::r=>match o.dst with
  | some d=>(1 <<< d) ||| z8h r
  | none=>z8h r
def z4p:Code->Nat
 | .region _ ops _=>z8h ops.toList
 | .seq x y=>z4p x ||| z4p y
 | .cond _ x y=>z4p x ||| z4p y
 | .block _ x=>z4p x
 | .loop x=>z4p x
 | .scope x=>z4p x
 | _=>0
def zkg (m:Nat):Ov->Bool
 | []=>true
 | (t,_)::r=>m.testBit t && zkg m r
def expOv:Ov->Env->Env
 | [],env=>env
 | (t,e)::r,env=>(t,match e.g with|none=>some e.b|some _=>none)::expOv r env
def z05u:(p:Pr)->Value->Option p.D
 | .int k,v=>match v with
  | .int k' n=>if k=k' then some n else none
  | _=>none
 | .bool,v=>match v with
  | .bool b=>some b
  | _=>none
 | .str,v=>match v with
  | .string s=>some s
  | _=>none
 | .ptr,v=>match v with
  | .pointer o=>some o
  | _=>none
 | .adr,v=>match v with
  | .pointer (some a)=>some a
  | _=>none
 | .slc,v=>match v with
  | .slice a l c=>some ⟨a,l,c⟩
  | _=>none
 | .map,v=>match v with
  | .map r=>some r
  | _=>none
 | .any,v=>some v
def zks:(ps:List Pr)->List Value->Option (HL ps)
 | [],[]=>some ()
 | p::ps,v::vs=>match z05u p v,zks ps vs with
  | some x,some y=>some (x,y)
  | _,_=>none
 | _,_=>none
def z9o:List Sh1->List Value->Option (List Value)
 | [],[]=>some []
 | .one _::r,v::vs=>match z9o r vs with
  | some l=>some (v::l)
  | none=>none
 | .agg ps::r,v::vs=>match v,z9o r vs with
  | .agg cs,some l=>bif Nat.beq cs.toList.length ps.length then some (cs.toList++l) else none
  | _,_=>none
 | _,_=>none
abbrev Ctx:=List (Nat × (Env->Prog))
def znw:Ctx->Nat->Option (Env->Prog)
 | [],_=>none
 | (t,x)::r,s=>bif Nat.beq t s then some x else znw r s
def zng (P:Program) (n:Nat) (fs:Fs) (ops:Array Oper) (draw:Bool) (env:Env) (k:Env->Prog):Prog :=
 match draw with
 | false=>zam P n fs ops env (List.range ops.size) [] λov=>bif zkg (z8h ops.toList) ov then k (expOv ov env) else .fail 32
 | true=>bif Region.noSelect ops then
   .tick (z4f P n fs ops env ops.size (Array.replicate ops.size false) [] [] [] λov=>bif zkg (z8h ops.toList) ov then k (expOv ov env) else .fail 33)
  else .fail 34
def zbc (m:Nat):List Nat->Bool
 | []=>true
 | t::r=>m.testBit t && zbc m r
def zl2 (d m:Nat) (outs:Outs) (env:Env) (p:Prog) (k:Env->Prog):Prog :=
 bif zbc m (slots outs) then .bind d (shs outs) p λx=>k (z8f m outs (z1e (shs outs) x) env) else .fail 42
def z09l (c:Operand) (m:Nat):Nat:=match c with
 | .tmp t=>t+4096*m
 | _=>0
def z5w (P:Program) (n:Nat) (fs:Fs) (H:Hints) (rv:List RV):Code->Nat->Nat->Env->Ctx->(Env->Prog)->Prog
 | .skip,_,_,env,_,k=>k env
 | .ret,_,_,env,_,_=>z6k P env rv []
 | .exit id,_,_,env,ctx,_=>match znw ctx id with
  | some k'=>k' env
  | none=>.fail 35
 | .seq x y,d,b,env,ctx,k=>z5w P n fs H rv x d b env ctx λenv'=>z5w P n fs H rv y d b env' ctx k
 | .region id ops draw,d,_,env,_,k=>match z4r H.reg id with
  | none=>zng P n fs ops draw env k
  | some outs=>zl2 d (z8h ops.toList) outs env (zng P n fs ops draw env (ze9 d (slots outs))) k
 | .cond c x y,d,b,env,ctx,k=>match opE env [] none c with
  | some (.lit (.bool t))=>match t with
   | true=>z5w P n fs H rv x d b env ctx k
   | false=>z5w P n fs H rv y d b env ctx k
  | some (.val (.bool t))=>match z4r H.cnd (z09l c (z4p x ||| z4p y)) with
   | none=>.ite t (z5w P n fs H rv x d b env ctx k) (z5w P n fs H rv y d b env ctx k)
   | some outs=>zl2 d (z4p x ||| z4p y) outs env
     (.ite t (z5w P n fs H rv x (d+1) b env ctx (ze9 d (slots outs))) (z5w P n fs H rv y (d+1) b env ctx (ze9 d (slots outs)))) k
  | _=>.fail 36
 | .block id x,d,_,env,ctx,k=>match z4r H.blk id with
  | none=>z5w P n fs H rv x d id env ((id,k)::ctx) k
  | some outs=>zl2 d (z4p x) outs env (z5w P n fs H rv x (d+1) id env ((id,ze9 d (slots outs))::ctx) (ze9 d (slots outs))) k
 | .loop x,d,b,env,ctx,_=>match z4r H.lps b with
  | some outs=>match z7i env (slots outs) with
   | some vs=>match z9o (shs outs) vs with
    | some fl=>match zks (prims (shs outs)) fl with
     | some x0=>bif zbc (z4p x) (slots outs) then
       .loop d (shs outs) x0 λv=>z5w P n fs H rv x (d+1) b (z8f (z4p x) outs (z1e (shs outs) v) env) ctx (ze9 d (slots outs))
      else .fail 42
     | none=>.fail 37
    | none=>.fail 38
   | none=>.fail 39
  | none=>.fail 40
 | .scope x,d,b,env,ctx,k=>z5w P n fs H rv x d b env ctx k
 | .label _,_,_,env,_,k=>k env
 | _,_,_,_,_,_=>.fail 41
section
variable {P:Program} {n:Nat} {fs:Fs} {a:Act}
theorem z0bf:∀ {p:Pr} {v:Value} {x:p.D},z05u p v=some x->p.mk x=v:=by
 intro p v x h;cases p <;> simp only [z05u] at h
 case any=>obtain rfl:=Option.some.inj h;rfl
 case int k =>
  split at h
  ·split at h
   ·rename_i hk;subst hk;obtain rfl:=Option.some.inj h;rfl
   ·cases h
  ·cases h
 all_goals
  split at h
  ·obtain rfl:=Option.some.inj h;rfl
  ·cases h
theorem zmv:∀ {ps:List Pr} {l:List Value} {x:HL ps},zks ps l=some x->HL.vals ps x=l
 | [],[],x,h=>rfl
 | [],_::_,x,h=>by simp [zks] at h
 | _::_,[],x,h=>by simp [zks] at h
 | p::ps,v::vs,x,h=>by
  simp only [zks] at h;split at h
  ·rename_i y z hy hz
   obtain rfl:=Option.some.inj h;simp only [HL.vals,z0bf hy,zmv hz]
  ·cases h
theorem zcc:∀ {ss:List Sh1} {vs l:List Value},z9o ss vs=some l->build ss l=vs
 | [],[],l,h=>by simp only [z9o,Option.some.injEq] at h;subst h;rfl
 | [],_::_,l,h=>by simp [z9o] at h
 | .one p::r,[],l,h=>by simp [z9o] at h
 | .agg ps::r,[],l,h=>by simp [z9o] at h
 | .one p::r,v::vs,l,h=>by
  simp only [z9o] at h;split at h
  ·rename_i l' hl
   obtain rfl:=Option.some.inj h;simp only [build,zcc hl]
  ·cases h
 | .agg ps::r,v::vs,l,h=>by
  simp only [z9o] at h;split at h
  ·rename_i cs l' hl
   simp only [cond_eq_ite] at h;split at h
   ·rename_i hlen
    have hlen:=Nat.eq_of_beq_eq_true hlen;obtain rfl:=Option.some.inj h;simp only [build];rw [<- hlen,List.take_left,List.drop_left,zcc hl]
   ·cases h
  ·cases h
theorem z0c6 (s:Sh1) (v:Value):(z03c s v).v=v:=by
 unfold z03c;split
 ·rfl
 ·split <;> rfl
 ·rfl
abbrev AgreeT (n:Nat) (env:Env) (a:Act):Prop:=Agree n env [] a
theorem AgreeT.slot {env:Env} {s:Nat} {b:Base} (ha:AgreeT n env a) (h:env.get s=some b):a.tmps[s]? = some b.v:=by
 have:=ha.slots s ⟨b,none⟩ (by simp [Ov.get,h]);exact this
theorem AgreeT.mk' {env:Env} (hs:a.tmps.size=n) (hd:a.defers=[]) (h:∀ s b,env.get s=some b->a.tmps[s]? = some b.v):AgreeT n env a:=by
 refine ⟨hs,hd,λs e he=>?_⟩;simp only [Ov.get] at he;split at he
 ·rename_i b hb
  obtain rfl:=Option.some.inj he;exact h s b hb
 ·cases he
theorem zde (env:Env):∀ (e1:Env) (s:Nat),Env.get (e1++env) s=if s ∈ e1.map (·.1) then Env.get e1 s else Env.get env s
 | [],s=>by simp
 | (t,e)::r,s=>by
  simp only [List.cons_append,Env.get,List.map_cons,List.mem_cons]
  cases h:Nat.beq t s with
  | true=>simp [(Nat.eq_of_beq_eq_true h).symm]
  | false =>
   have hne:¬ s=t:=λe=>by subst e;rw [Nat.beq_refl] at h;cases h
   simp only [cond_false,hne,false_or];exact zde env r s
theorem zdf {m:Nat}:∀ {env:Env} {s:Nat},m.testBit s=false->(zeo m env).get s=env.get s
 | [],s,h=>rfl
 | (t,e)::r,s,h=>by
  simp only [zeo,Env.get]
  cases hts:Nat.beq t s with
  | true =>
   have e:=Nat.eq_of_beq_eq_true hts;subst e;simp [h,Env.get,hts]
  | false =>
   cases m.testBit t with
   | true=>exact zdf h
   | false=>simp only [cond_false,Env.get,hts];exact zdf h
theorem za6 {m:Nat}:∀ {env:Env} {s:Nat} {b:Base},(zeo m env).get s=some b->m.testBit s=false
 | [],s,b,h=>by simp [zeo,Env.get] at h
 | (t,e)::r,s,b,h=>by
  simp only [zeo,cond_eq_ite] at h;split at h
  ·exact za6 h
  ·rename_i ht
   simp only [Env.get,cond_eq_ite] at h;split at h
   ·rename_i hts
    have:=Nat.eq_of_beq_eq_true hts;subst this;simpa using ht
   ·exact za6 h
theorem z71:∀ {outs:Outs} {env:Env} {vs:List Value},z7i env (slots outs)=some vs->(z8u outs vs).map (·.1)=slots outs
 | [],env,vs,h=>rfl
 | (t,s)::r,env,vs,h=>by
  simp only [slots,z7i] at h;split at h
  ·rename_i b vs' hb hv
   obtain rfl:=Option.some.inj h;simp only [z8u,List.map_cons,slots,z71 hv]
  ·cases h
theorem zm8 {env:Env} (ha:AgreeT n env a):∀ {outs:Outs} {vs:List Value},z7i env (slots outs)=some vs->∀ s b,(z8u outs vs).get s=some b->a.tmps[s]? = some b.v
 | [],vs,h,s,b,hb=>by simp [z8u,Env.get] at hb
 | (t,sh)::r,vs,h,s,b,hb=>by
  simp only [slots,z7i] at h;split at h
  ·rename_i b0 vs' hb0 hv
   obtain rfl:=Option.some.inj h;simp only [z8u,Env.get,cond_eq_ite] at hb;split at hb
   ·rename_i hts
    have:=Nat.eq_of_beq_eq_true hts;subst this;obtain rfl:=Option.some.inj hb;rw [z0c6];exact ha.slot hb0
   ·exact zm8 ha hv s b hb
  ·cases h
def z1j (m:Nat) (env env':Env):Prop:=∀ s,m.testBit s=false->env'.get s=env.get s
theorem z1j.refl (m:Nat) (env:Env):z1j m env env:=λ_ _=>rfl
theorem z1j.trans {m₁ m₂:Nat} {env env₁ env₂:Env} (h1:z1j m₁ env env₁) (h2:z1j m₂ env₁ env₂):z1j (m₁ ||| m₂) env env₂:=λs hs=>by
 rw [Nat.testBit_or,Bool.or_eq_false_iff] at hs;rw [h2 s hs.2,h1 s hs.1]
theorem z1j.left {m₁ m₂:Nat} {env env₁:Env} (h1:z1j m₁ env env₁):z1j (m₁ ||| m₂) env env₁:=λs hs=>by
 rw [Nat.testBit_or,Bool.or_eq_false_iff] at hs;exact h1 s hs.1
theorem z1j.right {m₁ m₂:Nat} {env env₁:Env} (h1:z1j m₂ env env₁):z1j (m₁ ||| m₂) env env₁:=λs hs=>by
 rw [Nat.testBit_or,Bool.or_eq_false_iff] at hs;exact h1 s hs.2
theorem zj4 {m:Nat}:∀ {l:List Nat},zbc m l=true->∀ s,m.testBit s=false->s ∉ l
 | [],_,s,_,h=>by cases h
 | t::r,h,s,hs,hm=>by
  simp only [zbc,Bool.and_eq_true] at h
  rcases List.mem_cons.1 hm with rfl|hm
  ·rw [h.1] at hs;cases hs
  ·exact zj4 h.2 s hs hm
theorem zlg {env:Env}:∀ {ov:Ov} {s:Nat} {b:Base},(expOv ov env).get s=some b->ov.get env s=some ⟨b,none⟩
 | [],s,b,h=>by simp only [expOv] at h;simp [Ov.get,h]
 | (t,e)::r,s,b,h=>by
  simp only [expOv,Env.get,Ov.get] at h ⊢
  cases hts:Nat.beq t s with
  | true =>
   rw [hts] at h;simp only [cond_true] at h ⊢;obtain ⟨b',g⟩:=e
   cases g with
   | none=>simp only [Option.some.injEq] at h;rw [h]
   | some x=>cases h
  | false=>rw [hts] at h;exact zlg h
theorem zgo {m:Nat} {env:Env}:∀ {ov:Ov},zkg m ov=true->z1j m env (expOv ov env)
 | [],_=>λ_ _=>rfl
 | (t,e)::r,h=>λs hs=>by
  simp only [zkg,Bool.and_eq_true] at h;simp only [expOv,Env.get]
  cases hts:Nat.beq t s with
  | true=>have:=Nat.eq_of_beq_eq_true hts;subst this;rw [h.1] at hs;cases hs
  | false=>exact zgo h.2 s hs
theorem AgreeT.expOv {env:Env} {ov:Ov} (ha:Agree n env ov a):AgreeT n (expOv ov env) a :=
 AgreeT.mk' ha.size ha.defers λs b hb=>ha.slots s _ (zlg hb)
theorem zea {m:Nat} {outs:Outs} {vs:List Value} {env:Env} (ho:zbc m (slots outs)=true) (hv:(z8u outs vs).map (·.1)=slots outs):z1j m env (z8f m outs vs env):=λs hs=>by
 unfold z8f;rw [zde,hv,if_neg (zj4 ho s hs),zdf hs]
theorem AgreeT.join {m:Nat} {outs:Outs} {vs:List Value} {env env':Env} (ha:AgreeT n env' a) (hk:z1j m env env') (hv:z7i env' (slots outs)=some vs) :
  AgreeT n (z8f m outs vs env) a:=by
 refine AgreeT.mk' ha.size ha.defers λs b hb=>?_;unfold z8f at hb;rw [zde,z71 hv] at hb;split at hb
 ·exact zm8 ha hv s b hb
 ·have hm:=za6 hb;rw [zdf hm,<- hk s hm] at hb;exact ha.slot hb
def zc9 (P:Program) (n d:Nat) (Q:Post) (p:Prog) (env:Env) (N:Act->World->Prop):Prop :=
 ∀ a w (Q':Post),(∀ e vs w,e<d->Q' e vs w->Q e vs w)->AgreeT n env a->p.wp P (λ_=>True) w Q'->N a w
theorem zc9.up {d:Nat} {Q:Post} {C:List Value->World->Prop} {p:Prog} {env:Env} {N:Act->World->Prop} (h:zc9 P n d Q p env N):zc9 P n (d+1) (Q.catch d C) p env N :=
 λa w Q' hq ha hp=>h a w Q' (λe vs w he h'=>(hq e vs w (by omega) h').2 (by omega)) ha hp
theorem zc9.mono {d:Nat} {Q:Post} {p:Prog} {env:Env} {N N':Act->World->Prop} (h:zc9 P n d Q p env N) (hn:∀ a w,N a w->N' a w):zc9 P n d Q p env N' :=
 λa w Q' hq ha hp=>hn _ _ (h a w Q' hq ha hp)
theorem z59 {env:Env} {Q Q':Post} (hq:∀ vs w,Q' 0 vs w->Q 0 vs w):∀ {l:List RV} {acc:List Value} {S:World->Prop} {w:World},(z6k P env l acc).wp P S w Q'->(z6k P env l acc).wp P S w Q
 | [],acc,S,w,h=>hq _ _ h
 | .tmp t::r,acc,S,w,h=>by
  unfold z6k at h ⊢;split at h
  ·exact z59 hq h
  ·exact h.elim
 | .cell t ty::r,acc,S,w,h=>by
  unfold z6k at h ⊢;split at h
  ·obtain ⟨x,hx,h⟩:=h;exact ⟨x,hx,z59 hq h⟩
  ·exact h.elim
theorem zu8 {d:Nat} {ts:List Nat} {env:Env} {S:World->Prop} {w:World} {Q:Post} (h:(ze9 d ts env).wp P S w Q):∃ vs,z7i env ts=some vs/\Q d vs w:=by
 unfold ze9 at h;split at h
 ·rename_i vs hv;exact ⟨vs,hv,h⟩
 ·exact h.elim
theorem z9u {d m:Nat} {outs:Outs} {env env':Env} {Q:Post} {k:Env->Prog} {N:Act->World->Prop} (ho:zbc m (slots outs)=true) (hk:z1j m env env')
  (hgood:∀ env'',z1j m env env''->zc9 P n d Q (k env'') env'' N) :
  zc9 P n (d+1) (Q.catch d λvs w'=>∃ x,vs=z1e (shs outs) x/\(k (z8f m outs (z1e (shs outs) x) env)).wp P (λ_=>True) w' Q) (ze9 d (slots outs) env') env' N:=by
 intro a w Q' hq ha h;obtain ⟨vs,hv,h'⟩:=zu8 h;obtain ⟨x,rfl,h''⟩:=(hq d vs w (by omega) h').1 rfl;exact hgood _ (zea ho (z71 hv)) a w Q (λ_ _ _ _ h=>h) (AgreeT.join ha hk hv) h''
def z06l (Q:Exit->Act->World->Prop):Exit->Act->World->Prop
 | .panic _,_,_=>False
 | e,a,w=>Q e a w
theorem zxg {c:Code} {Q:Exit->Act->World->Prop} {w:World} (h:c.wp P (z06l Q) a w):c.wp P Q a w :=
 wp_mono h λe a w h=>by cases e <;> first|exact h|exact (h:False).elim
theorem zgv {id:Nat} {ops:Array Oper} {draw:Bool} {env:Env} {k:Env->Prog} {Q:Post} {QX:Exit->Act->World->Prop} {w:World} (hfs:∀ f ∈ fs.l,z4y P f=true) (hmix:P.follows .mixedOrders=true)
  (ha:AgreeT n env a) (hk:∀ env' a' w',z1j (z8h ops.toList) env env'->AgreeT n env' a'->(k env').wp P (λ_=>True) w' Q->QX .normal a' w')
  (h:(zng P n fs ops draw env k).wp P (λ_=>True) w Q):(Code.region id ops draw).wp P QX a w:=by
 have hk':∀ (c:Nat) ov' a' w',Agree n env ov' a'->(bif zkg (z8h ops.toList) ov' then k (expOv ov' env) else Prog.fail c).wp P (λ_=>True) w' Q->QX .normal a' w':=λc ov' a' w' ha' h'=>by
  rw [cond_eq_ite] at h';split at h'
  ·rename_i hov;exact hk _ _ _ (zgo hov) (AgreeT.expOv ha') h'
  ·exact h'.elim
 cases draw with
 | false =>
  exact wp_region (z7u hfs (hk' _) _ ha h)
 | true =>
  unfold zng at h;dsimp only at h;rw [cond_eq_ite] at h;split at h
  ·rename_i hsel
   refine zxg (wp_region_any hmix (zjo (T:=λ_ _=>True) _ _ _ _ ?_));refine za5 (QX:=z06l QX) hfs hsel (λc a w h=>h) (λov' a' w' ha' h'=>hk' _ ov' a' w' ha' h') _ ha (λj o ho h=>?_) (λ_ _ _ _ _ _=>Iff.rfl) (λ_ _ _ _ _=>trivial) trivial trivial h
   rcases Nat.lt_or_ge j ops.size with h'|h'
   ·simp [h'] at h
   ·simp [Nat.not_lt.2 h'] at h
  ·exact h.elim
theorem z0ge (p:Nat->Prop):∀ m,p m->∃ m,p m/\∀ m',p m'->m<=m':=by
 intro m
 induction m using Nat.strongRecOn with
 | _ m ih =>
  intro hm
  by_cases h:∃ m',m'<m/\p m'
  ·obtain ⟨m',hlt,hm'⟩:=h;exact ih m' hlt hm'
  ·exact ⟨m,hm,λm' hm'=>Nat.le_of_not_lt λhlt=>h ⟨m',hlt,hm'⟩⟩
open Classical in
theorem zxf {c:Code} {Q:Exit->Act->World->Prop} {w:World} (I:Nat->Act->World->Prop) (h0:∃ m,I m a w)
  (round:∀ m a w,I m a w->c.wp P (Exit.then (λa' w'=>∃ m',m'<m/\I m' a' w') Q) a w):(Code.loop c).wp P Q a w:=by
 let μ : Act->World->Nat:=λa w=>if h:∃ m,I m a w/\∀ m',I m' a w->m<=m' then Classical.choose h else 0
 have hμ : ∀ a w m,I m a w->I (μ a w) a w /\ μ a w<=m:=λa w m hm=>by
  have hl:=z0ge (λm=>I m a w) m hm;have:=Classical.choose_spec hl;simp only [μ,dif_pos hl];exact ⟨this.1,this.2 m hm⟩
 refine wp_loop (λa w=>∃ m,I m a w) μ h0 λa w ⟨m,hI⟩=>wp_mono (round _ a w (hμ a w m hI).1) λe a' w' h=>?_
 cases e with
 | normal =>
  obtain ⟨m',hlt,hm'⟩:=h;exact ⟨⟨m',hm'⟩,Nat.lt_of_le_of_lt (hμ a' w' m' hm').2 hlt⟩
 | _=>exact h
theorem zvo {H:Hints} {rv:List RV} (hfs:∀ f ∈ fs.l,z4y P f=true) (hmix:P.follows .mixedOrders=true) (c:Code) :
  ∀ {d b:Nat} {env:Env} {ctx:Ctx} {k:Env->Prog} {a:Act} {w:World} {Q:Post} {QX:Exit->Act->World->Prop},AgreeT n env a->0<d ->
   (∀ env',z1j (z4p c) env env'->zc9 P n d Q (k env') env' (QX .normal)) ->
   (∀ id k',znw ctx id=some k'->∀ env',z1j (z4p c) env env'->zc9 P n d Q (k' env') env' (QX (.exit id))) ->
   (∀ env' a w,AgreeT n env' a->(z6k P env' rv []).wp P (λ_=>True) w Q->QX .ret a w) ->
   (z5w P n fs H rv c d b env ctx k).wp P (λ_=>True) w Q->c.wp P QX a w:=by
 induction c with
 | skip=>intro d b env ctx k a w Q QX ha hd hk hc hr h;exact wp_skip (hk env (z1j.refl _ _) a w Q (λ_ _ _ _ h=>h) ha h)
 | ret =>
  intro d b env ctx k a w Q QX ha hd hk hc hr h;exact wp_ret (hr env a w ha h)
 | exit id =>
  intro d b env ctx k a w Q QX ha hd hk hc hr h;unfold z5w at h;split at h
  ·rename_i k' hk'
   exact wp_exit (hc id k' hk' env (z1j.refl _ _) a w Q (λ_ _ _ _ h=>h) ha h)
  ·exact h.elim
 | seq x y ihx ihy =>
  intro d b env ctx k a w Q QX ha hd hk hc hr h;refine wp_seq (ihx (QX:=Exit.then (y.wp P QX) QX) ha hd (λenv' hk'=>?_) (λid k' hid env' hk'=>hc id k' hid env' (z1j.left hk')) hr h);intro a' w' Q' hq ha' h';refine ihy ha' hd (λenv'' hk''=>?_) (λid k' hid env'' hk''=>?_) ?_ h'
  ·exact λa w Q'' hq''=>hk env'' (z1j.trans hk' hk'') a w Q'' λe vs w he h=>hq e vs w he (hq'' e vs w he h)
  ·exact λa w Q'' hq''=>hc id k' hid env'' (z1j.trans hk' hk'') a w Q'' λe vs w he h=>hq e vs w he (hq'' e vs w he h)
  ·exact λenv' a w ha h=>hr env' a w ha (z59 (hq 0 · · hd) h)
 | region id ops draw =>
  intro d b env ctx k a w Q QX ha hd hk hc hr h;unfold z5w at h;split at h
  ·refine zgv hfs hmix ha (λenv' a' w' hk' ha' h'=>?_) h;exact hk env' hk' a' w' Q (λ_ _ _ _ h=>h) ha' h'
  ·rename_i outs ho
   unfold zl2 at h;rw [cond_eq_ite] at h;split at h
   ·rename_i hin
    refine zgv hfs hmix ha (λenv' a' w' hk' ha' h'=>?_) h;exact z9u hin hk' hk a' w' _ (λ_ _ _ _ h=>h) ha' h'
   ·exact h.elim
 | cond c x y ihx ihy =>
  intro d b env ctx k a w Q QX ha hd hk hc hr h;unfold z5w at h;split at h
  ·rename_i t ht
   have ht':=z42 (g:=none) ha trivial ht
   cases t with
   | true=>exact wp_cond_true ht' (ihx ha hd (λenv' hk'=>hk env' (z1j.left hk')) (λid k' hid env' hk'=>hc id k' hid env' (z1j.left hk')) hr h)
   | false=>exact wp_cond_false ht' (ihy ha hd (λenv' hk'=>hk env' (z1j.right hk')) (λid k' hid env' hk'=>hc id k' hid env' (z1j.right hk')) hr h)
  ·rename_i t ht
   have ht':=z42 (g:=none) ha trivial ht;split at h
   ·refine wp_cond_split ht' (λe=>?_) (λe=>?_)
    ·exact ihx ha hd (λenv' hk'=>hk env' (z1j.left hk')) (λid k' hid env' hk'=>hc id k' hid env' (z1j.left hk')) hr (h.1 e)
    ·exact ihy ha hd (λenv' hk'=>hk env' (z1j.right hk')) (λid k' hid env' hk'=>hc id k' hid env' (z1j.right hk')) hr (h.2 e)
   ·rename_i outs ho
    unfold zl2 at h;rw [cond_eq_ite] at h;split at h
    ·rename_i hin
     refine wp_cond_split ht' (λe=>?_) (λe=>?_)
     ·exact ihx ha (Nat.succ_pos d) (λenv' hk'=>z9u hin (z1j.left hk') hk) (λid k' hid env' hk'=>(hc id k' hid env' (z1j.left hk')).up)
       (λenv' a w ha h=>hr env' a w ha (z59 (λvs w h=>h.2 (by omega)) h)) (h.1 e)
     ·exact ihy ha (Nat.succ_pos d) (λenv' hk'=>z9u hin (z1j.right hk') hk) (λid k' hid env' hk'=>(hc id k' hid env' (z1j.right hk')).up)
       (λenv' a w ha h=>hr env' a w ha (z59 (λvs w h=>h.2 (by omega)) h)) (h.2 e)
    ·exact h.elim
  ·exact h.elim
 | block id x ih =>
  intro d b env ctx k a w Q QX ha hd hk hc hr h;refine wp_block ?_;have hexit:∀ {N:Act->World->Prop} {id':Nat},(∀ a w,QX .normal a w->N a w)->id=id'->True:=λ_ _=>trivial;unfold z5w at h;split at h
  ·refine ih (QX:=Exit.inBlock id QX) ha hd hk (λid' k' hid env' hk'=>?_) hr h;simp only [znw] at hid
   cases hii:Nat.beq id id' with
   | true =>
    rw [hii] at hid;obtain rfl:=Option.some.inj hid;have e:=Nat.eq_of_beq_eq_true hii;subst e
    exact (hk env' hk').mono λa w h=>by simp only [Exit.inBlock,if_true];exact h
   | false =>
    rw [hii] at hid
    have e:¬ id'=id:=λe=>by subst e;rw [Nat.beq_refl] at hii;cases hii
    exact (hc id' k' hid env' hk').mono λa w h=>by simp only [Exit.inBlock,if_neg e];exact h
  ·rename_i outs ho
   unfold zl2 at h;rw [cond_eq_ite] at h;split at h
   ·rename_i hin
    refine ih (QX:=Exit.inBlock id QX) ha (Nat.succ_pos d) (λenv' hk'=>z9u hin hk' hk) (λid' k' hid env' hk'=>?_) (λenv' a w ha h=>hr env' a w ha (z59 (λvs w h=>h.2 (by omega)) h)) h;simp only [znw] at hid
    cases hii:Nat.beq id id' with
    | true =>
     rw [hii] at hid;obtain rfl:=Option.some.inj hid;have e:=Nat.eq_of_beq_eq_true hii;subst e
     exact (z9u hin hk' hk).mono λa w h=>by simp only [Exit.inBlock,if_true];exact h
    | false =>
     rw [hii] at hid
     have e:¬ id'=id:=λe=>by subst e;rw [Nat.beq_refl] at hii;cases hii
     exact ((hc id' k' hid env' hk').up).mono λa w h=>by simp only [Exit.inBlock,if_neg e];exact h
   ·exact h.elim
 | loop x ih =>
  intro d b env ctx k a w Q QX ha hd hk hc hr h;unfold z5w at h;split at h
  ·rename_i outs ho
   split at h
   ·rename_i vs hvs
    split at h
    ·rename_i fl hfl
     split at h
     ·rename_i x0 hx0
      rw [cond_eq_ite] at h;split at h
      ·rename_i hin
       have hv0:z1e (shs outs) x0=vs:=by unfold z1e;rw [zmv hx0,zcc hfl]
       obtain ⟨I,⟨m,hI0⟩,hI⟩:=h
       refine zxf (λm a w=>∃ y,I m y w/\AgreeT n (z8f (z4p x) outs (z1e (shs outs) y) env) a/\(z8u outs (z1e (shs outs) y)).map (·.1)=slots outs)
        ⟨m,x0,hI0,AgreeT.join ha (z1j.refl _ _) (by rw [hv0];exact hvs),z71 (by rw [hv0];exact hvs)⟩ ?_
       rintro m a w ⟨x1,hI1,ha1,hsl⟩;have hkeep:=zea (env:=env) hin hsl;refine ih (QX:=Exit.then _ QX) ha1 (Nat.succ_pos d) (λenv' hk'=>?_) (λid k' hid env' hk'=>?_) (λenv' a w ha h=>hr env' a w ha (z59 (λvs w h=>h.2 (by omega)) h)) (hI m x1 w hI1)
       ·intro a' w' Q' hq ha' h';obtain ⟨vs',hv',h''⟩:=zu8 h';obtain ⟨x',m',hlt,rfl,hI'⟩:=(hq d vs' w' (by omega) h'').1 rfl
        have hke:z1j (z4p x) env env':=λs hs=>by rw [hk' s hs,hkeep s hs]
        exact ⟨m',hlt,x',hI',AgreeT.join ha' hke hv',z71 hv'⟩
       ·exact ((hc id k' hid env' λs hs=>by rw [hk' s hs,hkeep s hs]).up)
      ·exact h.elim
     ·exact h.elim
    ·exact h.elim
   ·exact h.elim
  ·exact h.elim
 | scope x ih =>
  intro d b env ctx k a w Q QX ha hd hk hc hr h;exact wp_scope_straight (ih (QX:=Exit.noGoto QX) ha hd hk hc hr h)
 | label l=>intro d b env ctx k a w Q QX ha hd hk hc hr h;exact wp_label (hk env (z1j.refl _ _) a w Q (λ_ _ _ _ h=>h) ha h)
 | _=>intro d b env ctx k a w Q QX ha hd hk hc hr h;exact h.elim
def zck:Nat->List Base->Env
 | _,[]=>[]
 | i,b::r=>(i,some b)::zck (i+1) r
def zi7 (P:Program) (n:Nat) (fs:Fs) (H:Hints) (rv:List RV) (c:Code) (args:List Base):Prog :=
 bif Nat.ble args.length n then z5w P n fs H rv c 1 0 (zck 0 args) [] (λenv=>z6k P env rv []) else .fail 43
def z9e:List Value->Value
 | [v]=>v
 | vs=>.tuple vs.toArray
def zcg:List ResultVar->List RV
 | []=>[]
 | .tmp t::r=>.tmp t::zcg r
 | .cell t ty::r=>.cell t ty::zcg r
theorem zl4:∀ {i:Nat} {l:List Base} {s:Nat} {b:Base},(zck i l).get s=some b->i<=s/\l[s-i]? = some b
 | i,[],s,b,h=>by simp [zck,Env.get] at h
 | i,b'::r,s,b,h=>by
  simp only [zck,Env.get] at h
  cases his:Nat.beq i s with
  | true =>
   rw [his] at h;have:=Nat.eq_of_beq_eq_true his;subst this;simpa using h
  | false =>
   rw [his] at h;have hne:i≠s:=Nat.ne_of_beq_eq_false his;obtain ⟨h1,h2⟩:=zl4 h;refine ⟨by omega,?_⟩;rw [show s-i=(s-(i+1))+1 by omega,List.getElem?_cons_succ];exact h2
def zcx (tmps:Array Value):ResultVar->Sem Value
 | .tmp t=>pure (tmps.getD t undef)
 | .cell x t=>do loadVar t (<- asAddr (tmps.getD x undef))
theorem zi0 {env:Env} {Q:Post} (ha:AgreeT n env a):∀ {l:List ResultVar} {acc:List Value} {w:World},(z6k P env (zcg l) acc).wp P (λ_=>True) w Q ->
  ∃ vs,(l.mapM (zcx a.tmps)).run P w=.ok vs w/\Q 0 (acc.reverse++vs) w
 | [],acc,w,h=>⟨[],by simp,by simpa [z6k,zcg,Prog.wp] using h⟩
 | .tmp t::r,acc,w,h=>by
  simp only [zcg,z6k] at h;split at h
  ·rename_i b hb
   obtain ⟨vs,hv,hq⟩:=zi0 ha h;refine ⟨b.v::vs,?_,by simpa using hq⟩;simp only [List.mapM_cons,zcx,Sem.run_bind,Sem.run_pure,Result.andThen_ok,hv];simp [ha.slot hb]
  ·exact h.elim
 | .cell t ty::r,acc,w,h=>by
  simp only [zcg,z6k] at h;split at h
  ·rename_i x s hb hs
   obtain ⟨y,hy,h⟩:=h;obtain ⟨vs,hv,hq⟩:=zi0 ha h;refine ⟨(Sh.one s).mk y::vs,?_,by simpa using hq⟩;have hy:=hy trivial;have hslot:=ha.slot hb
   have hlv:(loadVar ty x).run P w=.ok ((Sh.one s).mk y) w:=by
    simpa [Instr.loadAt,Instr.sureAddr] using hy
   have hg:a.tmps.getD t undef=.pointer (some x):=by simp [hslot]
   simp only [List.mapM_cons,zcx,hg,asAddr,Sem.run_bind,Sem.run_pure,Result.andThen_ok,hlv,hv]
  ·exact h.elim
theorem zql {fn:Func} {vs:List Value} {tmps:Array Value} {w:World} (h:(fn.results.toList.mapM (zcx tmps)).run P w=.ok vs w):(results fn tmps).run P w=.ok (z9e vs) w:=by
 have hr:fn.results=(fn.results.toList).toArray:=by simp
 have hm:∀ (f:ResultVar->Sem Value),(∀ r,f r=zcx tmps r)->(fn.results.toList.mapM f).run P w=.ok vs w:=by
  intro f hf;rw [show f=zcx tmps from funext hf];exact h
 unfold results;rw [hr,List.mapM_toArray,Sem.run_bind,Sem.run_map,hm _ (λr=>by cases r <;> rfl)];simp only [Result.andThen_ok,Sem.run_pure]
 cases vs with
 | nil=>rfl
 | cons t r=>cases r <;> rfl
structure IsFn (P:Program) (f:FuncId) (n:Nat) (rv:List RV) (c:Code):Prop where
 ok:∃ fn,P.funcs[f]? = some fn/\fn.body=some c/\fn.ntmps=n/\zcg fn.results.toList=rv
theorem z8n {f:FuncId} {rv:List RV} {c:Code} {H:Hints} {w:World} {R:List Value->World->Prop} (hfn:IsFn P f n rv c) (hfs:∀ f ∈ fs.l,z4y P f=true) (hmix:P.follows .mixedOrders=true) (args:List Base)
  (h:(zi7 P n fs H rv c args).wp P (λ_=>True) w λe vs w'=>e=0/\R vs w') :
  Calls P f (args.map Base.v).toArray w λe w'=>∃ vs,e=.returned (z9e vs)/\R vs w':=by
 obtain ⟨fn,hf,hb,hn,hr⟩:=hfn.ok;unfold zi7 at h;rw [cond_eq_ite] at h;split at h
 ·rename_i hle
  have hle:=Nat.le_of_ble_eq_true hle;refine calls_of_wp hf hb ?_
  have ha:AgreeT n (zck 0 args) { tmps:=(args.map Base.v).toArray++Array.replicate (fn.ntmps-(args.map Base.v).toArray.size) undef,defers:=[] }:=by
   refine AgreeT.mk' (by simp [hn];omega) rfl λs b hb=>?_;obtain ⟨_,h2⟩:=zl4 hb;simp only [Nat.sub_zero] at h2;have hlt:s<args.length:=(List.getElem?_eq_some_iff.1 h2).1;rw [Array.getElem?_append_left (by simpa using hlt)];simp [h2]
  have hend:∀ env' a w,AgreeT n env' a->(z6k P env' rv []).wp P (λ_=>True) w (λe vs w'=>e=0/\R vs w') ->
    a.defers=[]/\∃ v,(results fn a.tmps).run P w=.ok v w/\∃ vs,Ending.returned v=.returned (z9e vs)/\R vs w:=λenv' a w ha h=>by
   rw [<- hr] at h;obtain ⟨vs,hv,hq⟩:=zi0 ha h;exact ⟨ha.defers,_,zql hv,vs,rfl,by simpa using hq.2⟩
  refine zvo hfs hmix c ha (Nat.succ_pos 0) (λenv' hk'=>?_) (λid k' hid=>by cases hid) (λenv' a w ha h=>?_) h
  ·intro a w Q' hq ha' h';exact hend env' a w ha' (z59 (λvs w h=>hq 0 vs w (Nat.succ_pos 0) h) h')
  ·exact hend env' a w ha h
 ·exact h.elim
end
@[reducible] def u0 (p:Prog):Unit->Prog:=λ_=>p
@[reducible] def u1 {α:Type} (f:α->Prog):α × Unit->Prog:=λx=>f x.1
@[reducible] def u2 {α β:Type} (f:α->β->Prog):α × β × Unit->Prog:=λx=>f x.1 x.2.1
@[reducible] def u3 {α β γ:Type} (f:α->β->γ->Prog):α × β × γ × Unit->Prog:=λx=>f x.1 x.2.1 x.2.2.1
@[reducible] def u4 {α β γ δ:Type} (f:α->β->γ->δ->Prog):α × β × γ × δ × Unit->Prog:=λx=>f x.1 x.2.1 x.2.2.1 x.2.2.2.1
@[reducible] def u5 {α β γ δ ε:Type} (f:α->β->γ->δ->ε->Prog):α × β × γ × δ × ε × Unit->Prog:=λx=>f x.1 x.2.1 x.2.2.1 x.2.2.2.1 x.2.2.2.2.1
@[reducible] def u7 {α β γ δ ε ζ η:Type} (f:α->β->γ->δ->ε->ζ->η->Prog):α × β × γ × δ × ε × ζ × η × Unit->Prog:=λx=>f x.1 x.2.1 x.2.2.1 x.2.2.2.1 x.2.2.2.2.1 x.2.2.2.2.2.1 x.2.2.2.2.2.2.1
@[reducible] def ld (t:TypeId) (a:Addr):Sem Value:=Instr.loadAt t (.pointer (some a))
@[reducible] def st (t:TypeId) (a:Addr) (v:Value):Sem Unit:=Instr.storeAt t (.pointer (some a)) v
@[reducible] def new (t:TypeId):Sem Value:=Instr.alloc t true (.tuple #[])
@[reducible] def app (t u r:TypeId) (x y:Value):Sem Value:=Builtin.append_ #[t,u] r #[x,y]
@[reducible] def c1 {α:Type} (f:α->Prop):α × Unit->Prop:=λx=>f x.1
@[reducible] def zay (f:Func):Code:=f.body.getD .skip
@[reducible] def sI (k:IntKind):Sh:=.one (.one (.int k))
@[reducible] def sB:Sh:=.one (.one .bool)
@[reducible] def sS:Sh:=.one (.one .str)
@[reducible] def sP:Sh:=.one (.one .ptr)
@[reducible] def sA:Sh:=.one (.one .adr)
@[reducible] def sL:Sh:=.one (.one .slc)
@[reducible] def sM:Sh:=.one (.one .map)
@[reducible] def sV:Sh:=.one (.one .any)
@[reducible] def sG (l:List Pr):Sh:=.one (.agg l)
@[reducible] def Sl.v (l:Sl):Value:=.slice l.a l.len l.cap
theorem zfy {P:Program} {f:FuncId} {fn:Func} {n:Nat} {rv:List RV} (h:P.funcs[f]? = some fn) (hb:fn.body.isSome=true) (hn:fn.ntmps=n) (hr:zcg fn.results.toList=rv) :
  IsFn P f n rv (zay fn) :=
 ⟨fn,h,by unfold zay;cases hc:fn.body <;> simp_all,hn,hr⟩
@[reducible] def u8 {A0 A1 A2 A3 A4 A5 A6 A7:Type} (f:A0->A1->A2->A3->A4->A5->A6->A7->Prog):A0 × A1 × A2 × A3 × A4 × A5 × A6 × A7 × Unit->Prog:=λx=>f x.1 x.2.1 x.2.2.1 x.2.2.2.1 x.2.2.2.2.1 x.2.2.2.2.2.1 x.2.2.2.2.2.2.1 x.2.2.2.2.2.2.2.1
@[reducible] def u9 {A0 A1 A2 A3 A4 A5 A6 A7 A8:Type} (f:A0->A1->A2->A3->A4->A5->A6->A7->A8->Prog):A0 × A1 × A2 × A3 × A4 × A5 × A6 × A7 × A8 × Unit->Prog:=λx=>f x.1 x.2.1 x.2.2.1 x.2.2.2.1 x.2.2.2.2.1 x.2.2.2.2.2.1 x.2.2.2.2.2.2.1 x.2.2.2.2.2.2.2.1 x.2.2.2.2.2.2.2.2.1
@[reducible] def u10 {A0 A1 A2 A3 A4 A5 A6 A7 A8 A9:Type} (f:A0->A1->A2->A3->A4->A5->A6->A7->A8->A9->Prog):A0 × A1 × A2 × A3 × A4 × A5 × A6 × A7 × A8 × A9 × Unit->Prog:=λx=>f x.1 x.2.1 x.2.2.1 x.2.2.2.1 x.2.2.2.2.1 x.2.2.2.2.2.1 x.2.2.2.2.2.2.1 x.2.2.2.2.2.2.2.1 x.2.2.2.2.2.2.2.2.1 x.2.2.2.2.2.2.2.2.2.1
@[reducible] def u11 {A0 A1 A2 A3 A4 A5 A6 A7 A8 A9 A10:Type} (f:A0->A1->A2->A3->A4->A5->A6->A7->A8->A9->A10->Prog):A0 × A1 × A2 × A3 × A4 × A5 × A6 × A7 × A8 × A9 × A10 × Unit->Prog:=λx=>f x.1 x.2.1 x.2.2.1 x.2.2.2.1 x.2.2.2.2.1 x.2.2.2.2.2.1 x.2.2.2.2.2.2.1 x.2.2.2.2.2.2.2.1 x.2.2.2.2.2.2.2.2.1 x.2.2.2.2.2.2.2.2.2.1 x.2.2.2.2.2.2.2.2.2.2.1
structure Env' where
 os:Os
 out:Array (Nat × ByteArray)
structure PH where
 m:Nat->Option Obj
 e:Env'
instance:CoeFun PH (λ_=>Nat->Option Obj):=⟨PH.m⟩
abbrev HP:=PH->Prop
def PH.disj (p q:PH):Prop:=∀ b,p b=none\/q b=none
structure PH.sub (p q:PH):Prop where
 f:∀ b o,p b=some o->q b=some o
 e:p.e=q.e
instance {p q:PH}:CoeFun (p.sub q) (λ_=>∀ b o,p b=some o->q b=some o):=⟨PH.sub.f⟩
theorem PH.sub_refl (p:PH):p.sub p:=⟨λ_ _ h=>h,rfl⟩
theorem PH.sub_trans {p q r:PH} (h1:p.sub q) (h2:q.sub r):p.sub r:=⟨λb o h=>h2 b o (h1 b o h),h1.e.trans h2.e⟩
theorem PH.disj_sub {p q r:PH} (h:p.disj q) (hs:r.sub q):p.disj r:=λb=>by
 rcases h b with h|h
 ·exact .inl h
 ·cases hr:r b with
  | none=>exact .inr rfl
  | some o=>rw [hs b o hr] at h;cases h
def z88:List HP->PH->Prop
 | [],_=>True
 | H::r,p=>∃ p1 p2,p1.sub p/\p2.sub p/\p1.disj p2/\H p1/\z88 r p2
theorem zbf:∀ {l:List HP} {p q:PH},p.sub q->z88 l p->z88 l q
 | [],_,_,_,_=>trivial
 | H::r,p,q,hs,⟨p1,p2,h1,h2,hd,hH,hr⟩=>⟨p1,p2,PH.sub_trans h1 hs,PH.sub_trans h2 hs,hd,hH,hr⟩
def World.env' (w:World):Env':=⟨w.os,w.output⟩
def World.ph (w:World):PH:=⟨λb=>w.heap[b]?,World.env' w⟩
def Sat (w:World) (l:List HP):Prop:=z88 l (World.ph w)
def pt (b:Nat) (o:Obj):HP:=λp=>p b=some o
def HP.ex {α:Type} (f:α->HP):HP:=λp=>∃ x,f x p
def HP.star (A B:HP):HP:=λp=>∃ p1 p2,PH.sub p1 p/\PH.sub p2 p/\PH.disj p1 p2/\A p1/\B p2
def HP.and (φ:Prop) (A:HP):HP:=λp=>φ/\A p
def HP.all (l:List HP):HP:=z88 l
section
variable {w:World} {l r:List HP} {H A B:HP}
theorem Sat.tail (h:Sat w (H::l)):Sat w l:=by
 obtain ⟨p1,p2,h1,h2,hd,hH,hr⟩:=h;exact zbf h2 hr
theorem z01u {A B:HP} {l:List HP} {p:PH} (h:z88 (A::B::l) p):z88 (B::A::l) p:=by
 obtain ⟨p1,p2,h1,h2,hd,hA,q1,q2,g1,g2,gd,hB,hl⟩:=h
 let u:PH:=⟨λb=>match p1 b with
  | some o=>some o
  | none=>q2 b,p1.e⟩
 have hu1:p1.sub u:=⟨λb o h=>by simp [u,h],rfl⟩
 have hu2:q2.sub u:=⟨λb o h=>by
  have:p1 b=none:=(hd b).resolve_right (by rw [g2 b o h];simp)
  simp [u,this,h],by show q2.e=p1.e;rw [g2.e,h2.e,h1.e]⟩
 have hus:u.sub p:=⟨λb o h=>by
  simp only [u] at h;split at h
  ·rename_i o' ho;obtain rfl:=Option.some.inj h;exact h1 b _ ho
  ·exact h2 b o (g2 b o h),h1.e⟩
 refine ⟨q1,u,PH.sub_trans g1 h2,hus,λb=>?_,hB,p1,q2,hu1,hu2,PH.disj_sub hd g2,hA,hl⟩
 rcases gd b with h|h
 ·exact .inl h
 ·rcases hd b with h'|h'
  ·right;simp [u,h',h]
  ·left
   cases hq:q1 b with
   | none=>rfl
   | some o=>rw [g1 b o hq] at h';cases h'
theorem zc5 {l l':List HP} (h:l.Perm l'):∀ {p:PH},z88 l p->z88 l' p:=by
 induction h with
 | nil=>exact λh=>h
 | cons x _ ih=>exact λ⟨p1,p2,h1,h2,hd,hA,hl⟩=>⟨p1,p2,h1,h2,hd,hA,ih hl⟩
 | swap x y l=>exact z01u
 | trans _ _ ih1 ih2=>exact λh=>ih2 (ih1 h)
theorem Sat.perm (hp:l.Perm r) (h:Sat w l):Sat w r:=zc5 hp h
def zd0:List HP->Nat->Option (HP × List HP)
 | [],_=>none
 | x::r,0=>some (x,r)
 | x::r,n+1=>match zd0 r n with
  | some (y,r')=>some (y,x::r')
  | none=>none
theorem zh4:∀ {l:List HP} {i:Nat} {x:HP} {r:List HP},zd0 l i=some (x,r)->l.Perm (x::r)
 | [],_,_,_,h=>by simp [zd0] at h
 | y::l,0,x,r,h=>by simp only [zd0,Option.some.injEq,Prod.mk.injEq] at h;obtain ⟨rfl,rfl⟩:=h;exact .refl _
 | y::l,n+1,x,r,h=>by
  simp only [zd0] at h;split at h
  ·rename_i z r' hz
   simp only [Option.some.injEq,Prod.mk.injEq] at h;obtain ⟨rfl,rfl⟩:=h;exact (List.Perm.cons y (zh4 hz)).trans (.swap _ _ _)
  ·cases h
def zcw:List HP->List Nat->Option (List HP)
 | l,[]=>some l
 | l,i::is=>match zd0 l i with
  | some (x,r)=>match zcw r is with
   | some r'=>some (x::r')
   | none=>none
  | none=>none
theorem zfg:∀ {is:List Nat} {l r:List HP},zcw l is=some r->l.Perm r
 | [],l,r,h=>by simp only [zcw,Option.some.injEq] at h;subst h;exact .refl _
 | i::is,l,r,h=>by
  simp only [zcw] at h;split at h
  ·rename_i x l' hx
   split at h
   ·rename_i r' hr
    obtain rfl:=Option.some.inj h;exact (zh4 hx).trans (.cons x (zfg hr))
   ·cases h
  ·cases h
theorem Sat.pick (h:Sat w l) (is:List Nat) {r:List HP} (hr:zcw l is=some r:=by rfl):Sat w r:=h.perm (zfg hr)
theorem Sat.imp (hi:∀ p,A p->B p) (h:Sat w (A::l)):Sat w (B::l):=by
 obtain ⟨p1,p2,h1,h2,hd,hA,hl⟩:=h;exact ⟨p1,p2,h1,h2,hd,hi _ hA,hl⟩
theorem Sat.ex {α:Type} {f:α->HP} (h:Sat w (HP.ex f::l)):∃ x,Sat w (f x::l):=by
 obtain ⟨p1,p2,h1,h2,hd,⟨x,hx⟩,hl⟩:=h;exact ⟨x,p1,p2,h1,h2,hd,hx,hl⟩
theorem Sat.ex_mk {α:Type} {f:α->HP} (x:α) (h:Sat w (f x::l)):Sat w (HP.ex f::l):=h.imp λ_ h=>⟨x,h⟩
theorem Sat.and {φ:Prop} (h:Sat w (HP.and φ A::l)):φ/\Sat w (A::l):=by
 obtain ⟨p1,p2,h1,h2,hd,⟨hφ,hA⟩,hl⟩:=h;exact ⟨hφ,p1,p2,h1,h2,hd,hA,hl⟩
theorem Sat.and_mk {φ:Prop} (hφ:φ) (h:Sat w (A::l)):Sat w (HP.and φ A::l):=h.imp λ_ h=>⟨hφ,h⟩
theorem Sat.star (h : Sat w (HP.star A B :: l)) : Sat w (A :: B :: l) := by
  obtain ⟨p1, p2, h1, h2, hd, ⟨q1, q2, g1, g2, gd, hA, hB⟩, hl⟩ := h
  let u : PH := ⟨fun b => match q2 b with
    | some o => some o
    | none => p2 b, q2.e⟩
  have hu1 : q2.sub u := ⟨fun b o h => by simp [u, h], rfl⟩
  have hu2 : p2.sub u := ⟨fun b o h => by
    have : q2 b = none := by
      cases hq : q2 b with
      | none => rfl
      | some o' => rcases hd b with h' | h'
                   · rw [g2 b o' hq] at h'; cases h'
                   · rw [h] at h'; cases h'
    simp [u, this, h], by show p2.e = q2.e; rw [g2.e, h1.e, h2.e]⟩
  have hus : u.sub (World.ph w) := ⟨fun b o h => by
    simp only [u] at h;split at h
    · rename_i o' ho; obtain rfl := Option.some.inj h; exact h1 b _ (g2 b _ ho)
    · exact h2 b o h, g2.e.trans h1.e⟩
  refine ⟨q1, u, PH.sub_trans g1 h1, hus, fun b => ?_, hA, q2, p2, hu1, hu2, fun b => ?_, hB, hl⟩
  · rcases gd b with h | h
    · exact .inl h
    · cases hq : q1 b with
      | none => exact .inl rfl
      | some o =>
        right;have : p2 b = none := (hd b).resolve_left (by rw [g1 b o hq]; simp);simp [u, h, this]
  · rcases hd b with h' | h'
    · left
      cases hq : q2 b with
      | none => rfl
      | some o => rw [g2 b o hq] at h'; cases h'
    · exact .inr h'
theorem Sat.star_mk (h:Sat w (A::B::l)):Sat w (HP.star A B::l):=by
 obtain ⟨p1,p2,h1,h2,hd,hA,q1,q2,g1,g2,gd,hB,hl⟩:=h
 let u:PH:=⟨λb=>match p1 b with
  | some o=>some o
  | none=>q1 b,p1.e⟩
 have hu1:p1.sub u:=⟨λb o h=>by simp [u,h],rfl⟩
 have hu2:q1.sub u:=⟨λb o h=>by
  have:p1 b=none:=(hd b).resolve_right (by rw [g1 b o h];simp)
  simp [u,this,h],by show q1.e=p1.e;rw [g1.e,h2.e,h1.e]⟩
 refine ⟨u,q2,⟨λb o h=>?_,h1.e⟩,PH.sub_trans g2 h2,λb=>?_,⟨p1,q1,hu1,hu2,PH.disj_sub hd g1,hA,hB⟩,hl⟩
 ·simp only [u] at h;split at h
  ·rename_i o' ho;obtain rfl:=Option.some.inj h;exact h1 b _ ho
  ·exact h2 b o (g1 b o h)
 ·cases hq:q2 b with
  | none=>exact .inr rfl
  | some o =>
   left;have h1':p1 b=none:=(hd b).resolve_right (by rw [g2 b o hq];simp);have h2':q1 b=none:=(gd b).resolve_right (by rw [hq];simp);simp [u,h1',h2']
theorem Sat.get {b:Nat} {o:Obj} (h:Sat w (pt b o::l)):w.heap[b]? = some o:=by
 obtain ⟨p1,p2,h1,h2,hd,hA,hl⟩:=h;exact h1 b o hA
def z3i (w:World) (b:Nat) (o:Obj):World:={ w with heap:=w.heap.setIfInBounds b o }
def zw1:Obj->Nat × Nat
 | .cells _ _ fr=>fr
 | _=>(0,0)
theorem zet {w:World} {a:Addr}:w.frozen? a=match w.heap[a.block]? with
  | some o=>decide ((zw1 o).1<=a.off) && decide (a.off<(zw1 o).2)
  | none=>false:=by
 unfold World.frozen?;split
 ·rename_i h;rw [h];rfl
 ·rename_i h
  split
  ·rename_i o ho
   cases o <;> first|(simp [zw1];done)|skip
   exact (h _ _ _ _ ho).elim
  ·rfl
theorem Sat.set {b:Nat} {o o':Obj} (h:Sat w (pt b o::l)):Sat (z3i w b o') (pt b o'::l):=by
 have z4r:=h.get;obtain ⟨p1,p2,h1,h2,hd,hA,hl⟩:=h;have hlt:b<w.heap.size:=(Array.getElem?_eq_some_iff.1 z4r).1;have hp2:p2 b=none:=(hd b).resolve_left (by rw [show p1 b=some o from hA];simp);refine ⟨⟨λc=>if c=b then some o' else none,World.env' (z3i w b o')⟩,p2,⟨λc x h=>?_,rfl⟩,⟨λc x h=>?_,h2.e⟩,λc=>?_,by simp [pt],hl⟩
 ·simp only at h;split at h
  ·rename_i hc;subst hc;obtain rfl:=Option.some.inj h;simp [World.ph,z3i,hlt]
  ·cases h
 ·have hc:c≠b:=λe=>by subst e;rw [hp2] at h;cases h
  have:=h2 c x h;simpa [World.ph,z3i,Array.getElem?_setIfInBounds_ne (Ne.symm hc)] using this
 ·by_cases hc:c=b
  ·subst hc;exact .inr hp2
  ·exact .inl (by simp [hc])
def z06e (w' w:World):Prop:=w'.heap=w.heap/\w'.os=w.os/\w'.output=w.output
theorem Sat.heap {w':World} (h:Sat w l) (he:z06e w' w):Sat w' l:=by
 obtain ⟨e1,e2,e3⟩:=he
 have:World.ph w'=World.ph w:=by
  unfold World.ph World.env';rw [e1,e2,e3]
 unfold Sat;rw [this];exact h
theorem Sat.push {o:Obj} {w':World} (h:Sat w l) (he:w'.heap=w.heap.push o) (h2:w'.os=w.os:=by rfl) (h3:w'.output=w.output:=by rfl):Sat w' (pt w.heap.size o::l):=by
 have henv:World.env' w'=World.env' w:=by unfold World.env';rw [h2,h3]
 unfold Sat at *;refine ⟨⟨λc=>if c=w.heap.size then some o else none,World.env' w'⟩,World.ph w,⟨λc x h=>?_,rfl⟩,⟨λc x h=>?_,henv.symm⟩,λc=>?_,by simp [pt],h⟩
 ·simp only at h;split at h
  ·rename_i hc;subst hc;obtain rfl:=Option.some.inj h;simp [World.ph,he]
  ·cases h
 ·have hlt:c<w.heap.size:=(Array.getElem?_eq_some_iff.1 h).1
  have hne:c≠w.heap.size:=by omega
  simpa [World.ph,he,Array.getElem?_push,hne] using h
 ·by_cases hc:c=w.heap.size
  ·subst hc;right;simp [World.ph]
  ·exact .inl (by simp [hc])
def whole (W:World):HP:=λp=>(∀ b o,W.heap[b]? = some o->p b=some o)/\p.e=World.env' W
theorem Sat.whole (w:World):Sat w [Dec.whole w] :=
 ⟨World.ph w,⟨λ_=>none,World.env' w⟩,PH.sub_refl _,⟨(λ_ _ h=>by cases h),rfl⟩,(λ_=>Or.inr rfl),⟨λ_ _ h=>h,rfl⟩,trivial⟩
theorem Sat.of_whole {W:World} (hs:Sat w (Dec.whole W::l)):(∀ (b:Nat) (o:Obj),W.heap[b]? = some o->w.heap[b]? = some o)/\w.os=W.os/\w.output=W.output/\∀ a:Addr,a.block<W.heap.size->w.frozen? a=W.frozen? a:=by
 obtain ⟨p1,p2,h1,h2,hd,⟨hA,he⟩,hl⟩:=hs;have e:World.env' w=World.env' W:=h1.e.symm.trans he;unfold World.env' at e;simp only [Env'.mk.injEq] at e;have hh:∀ (b:Nat) (o:Obj),W.heap[b]? = some o->w.heap[b]? = some o:=λb o hb=>h1 b o (hA b o hb);refine ⟨hh,e.1,e.2,λa ha=>?_⟩
 have hg:W.heap[a.block]? = some W.heap[a.block]:=by simp [ha]
 rw [zet,zet,hg,hh _ _ hg]
end
abbrev tt:World->Prop:=λ_=>True
def zbq (P:Program) (T:TypeId):Option Value:=match P.info? T with
 | some i=>i.zero
 | none=>none
section
variable {P:Program} {w:World} {l:List HP} {Q:Post} {S:World->Prop}
theorem wp_must {c:Prop} {k:Prog} (hc:c) (h:k.wp P S w Q):(Prog.must c k).wp P S w Q:=⟨hc,h⟩
theorem wp_lt {p:Pr} {x:p.D} {k:p.D->Prog} (h:(k x).wp P S w Q):(Prog.lt p x k).wp P S w Q:=h
theorem zbo {b:Bool} {p q:Prog} (h1:b=true->p.wp P S w Q) (h2:b=false->q.wp P S w Q):(Prog.ite b p q).wp P S w Q:=⟨h1,h2⟩
theorem zw {b:Bool} {p q:Prog} (hb:b=true) (h:p.wp P S w Q):(Prog.ite b p q).wp P S w Q:=⟨λ_=>h,λh'=>(by rw [hb] at h';cases h')⟩
theorem z07 {b:Bool} {p q:Prog} (hb:b=false) (h:q.wp P S w Q):(Prog.ite b p q).wp P S w Q:=⟨λh'=>(by rw [hb] at h';cases h'),λ_=>h⟩
theorem z6o {ps:List Pr} {c:HL ps->Prop} {k:HL ps->Prog} (x:HL ps) (hc:c x) (h:(k x).wp P S w Q):(Prog.ex ps c k).wp P S w Q:=⟨x,hc,h⟩
theorem z3k {g:Prop} {m:Sem Value} {s:Sh} {k:HL s.prims->Prog} (x:HL s.prims) (hm:g->m.run P w=.ok (s.mk x) w) (h:(k x).wp P S w Q):(Prog.read g m s k).wp P S w Q:=⟨x,hm,h⟩
theorem zgb {k:Prog} (h:∀ w',z06e w' w->k.wp P S w' Q):(Prog.tick k).wp P S w Q:=h _ ⟨rfl,rfl,rfl⟩
theorem ze {k:Prog} (h:k.wp P tt w Q):(Prog.untick k).wp P S w Q:=h
theorem zkw {p q:Prog} (h1:p.wp P S w Q) (h2:q.wp P S w Q):(Prog.both p q).wp P S w Q:=⟨h1,h2⟩
theorem z3j {e:Nat} {ss:List Sh1} {p:Prog} {k:HL (prims ss)->Prog}
  (h:p.wp P S w (Q.catch e λvs w'=>∃ x,vs=z1e ss x/\(k x).wp P S w' Q)):(Prog.bind e ss p k).wp P S w Q:=h
theorem zj {e:Nat} {ss:List Sh1} {p:Prog} {k:HL (prims ss)->Prog} (M:HL (prims ss)->World->Prop)
  (hp:p.wp P S w (Q.catch e λvs w'=>∃ x,vs=z1e ss x/\M x w')) (hk:∀ x w,M x w->(k x).wp P S w Q):(Prog.bind e ss p k).wp P S w Q :=
 Prog.wp_mono p (λe' vs w h=>⟨λhe=>let ⟨x,hx,hm⟩:=h.1 he;⟨x,hx,hk x w hm⟩,h.2⟩) hp
theorem z0a {e:Nat} {ss:List Sh1} {x:HL (prims ss)} {body:HL (prims ss)->Prog} (I:Nat->HL (prims ss)->World->Prop) (n:Nat) (h0:I n x w)
  (h:∀ n x w,I n x w->(body x).wp P S w (Q.catch e λvs w'=>∃ x' m,m<n/\vs=z1e ss x'/\I m x' w')):(Prog.loop e ss x body).wp P S w Q:=⟨I,⟨n,h0⟩,h⟩
theorem zvk {e:Nat} {C:List Value->World->Prop} {vs:List Value} (h:C vs w):(Post.catch Q e C) e vs w:=⟨λ_=>h,λh'=>absurd rfl h'⟩
theorem z1z {e:Nat} {C:List Value->World->Prop} {vs:List Value} (h:C vs w):(Prog.done e vs).wp P S w (Post.catch Q e C):=zvk h
theorem zm {e e':Nat} {C:List Value->World->Prop} {vs:List Value} (h:(Prog.done e' vs).wp P S w Q) (hne:Nat.beq e' e=false:=by rfl):(Prog.done e' vs).wp P S w (Post.catch Q e C) :=
 ⟨λh'=>absurd h' (Nat.ne_of_beq_eq_false hne),λ_=>h⟩
theorem z9m {e e':Nat} {C:List Value->World->Prop} {vs:List Value} (hne:e'≠e) (h:Q e' vs w):(Post.catch Q e C) e' vs w:=⟨λh'=>absurd h' hne,λ_=>h⟩
theorem zb {f:FuncId} {args:List Value} {s:Sh} {k:HL s.prims->Prog} {R:List Value->World->Prop}
  (hc:Calls P f args.toArray w λe w'=>∃ vs,e=.returned (z9e vs)/\R vs w')
  (h:∀ vs w',R vs w'->∃ x,z9e vs=s.mk x/\S w'/\(k x).wp P S w' Q):(Prog.call f args s k).wp P S w Q:=by
 refine Calls.mono hc λe w' ⟨vs,he,hR⟩=>?_;obtain ⟨x,hx,hS,hk⟩:=h vs w' hR;exact ⟨x,by rw [he,hx],hS,hk⟩
theorem run_newVar {T:TypeId} {v:Value}:(newVar T v).run P w=.ok ⟨w.heap.size,0,none⟩ { w with heap:=w.heap.push (.cells v.cells T) }:=by
 simp [newVar,newRow]
theorem z0b4 {T:TypeId} {z:Value} (hz:zbq P T=some z):(new T).run P w=.ok (.pointer (some ⟨w.heap.size,0,none⟩)) { w with heap:=w.heap.push (.cells z.cells T) }:=by
 have:(zeroValue T).run P w=.ok z w:=by
  unfold zbq at hz
  cases hi:P.info? T with
  | none=>rw [hi] at hz;cases hz
  | some i=>rw [hi] at hz;simp only at hz;simp [zeroValue,typeInfo,hi,hz]
 simp only [new,Instr.alloc,Sem.run_bind,this,Result.andThen_ok,run_newVar,Sem.run_pure]
theorem z3h {b off:Nat} {cs:Array Value} {T:TypeId} {fr:Nat × Nat} (hb:w.heap[b]? = some (.cells cs T fr)):w.cell? ⟨b,off,none⟩=cs[off]? := by
 simp [World.cell?,hb]
theorem z2d (b off n:Nat):(Addr.mk b off none).add n=⟨b,off+n,none⟩:=by
 unfold Addr.add;split
 ·rename_i h;subst h;rfl
 ·rfl
theorem zcy {T:TypeId} {b off:Nat} {cs:Array Value} {T':TypeId} {fr:Nat × Nat} {v:Value} (hT:zhc P T=some false) (hb:w.heap[b]? = some (.cells cs T' fr)) (hc:cs[off]? = some v) :
  (ld T ⟨b,off,none⟩).run P w=.ok v w:=by
 simp only [ld,Instr.loadAt,Instr.sureAddr,loadVar,Sem.run_bind,Sem.run_pure,Result.andThen_ok,z9z hT,Bool.false_eq_true,if_false,run_load,z3h hb,hc]
theorem zed {b:Nat} {cs:Array Value} {T':TypeId} {fr:Nat × Nat} (hb:w.heap[b]? = some (.cells cs T' fr)) :
  ∀ (n:Nat) {off i:Nat} {acc:Array Value},off+i+n<=cs.size->(loadCellsFrom ⟨b,off,none⟩ i n acc).run P w=.ok (acc++cs.extract (off+i) (off+i+n)) w
 | 0,off,i,acc,h=>by simp [loadCellsFrom];omega
 | n+1,off,i,acc,h=>by
  have hlt:off+i<cs.size:=by omega
  have hc:cs[off+i]? = some cs[off+i]:=by simp [hlt]
  simp only [loadCellsFrom,Sem.run_bind,run_load,z2d,z3h hb,hc,Result.andThen_ok];rw [zed hb n (by omega)]
  congr 1
  apply Array.ext';simp only [Array.toList_append,Array.toList_push,List.append_assoc,Array.toList_extract,List.extract_eq_take_drop]
  congr 1
  rw [show off+i+(n+1)-(off+i)=n+1 by omega,show off+(i+1)+n-(off+(i+1))=n by omega,show off+(i+1)=off+i+1 by omega];rw [List.drop_eq_getElem_cons (l:=cs.toList) (i:=off+i) (by simpa using hlt),List.take_succ_cons];simp
theorem zv0 {T:TypeId} {b off n:Nat} {cs:Array Value} {T':TypeId} {fr:Nat × Nat} (hT:zhc P T=some true) (hn:sizeOf? P T=some n) (hb:w.heap[b]? = some (.cells cs T' fr)) (hc:off+n<=cs.size) :
  (ld T ⟨b,off,none⟩).run P w=.ok (.agg (cs.extract off (off+n))) w:=by
 simp only [ld,Instr.loadAt,Instr.sureAddr,loadVar,Sem.run_bind,Sem.run_pure,Result.andThen_ok,z9z hT,if_true,run_sizeOf' hn,loadCells,zed hb n (i:=0) (by omega)];simp
def putCells (cs:Array Value):Nat->List Value->Array Value
 | _,[]=>cs
 | off,v::r=>putCells (cs.setIfInBounds off v) (off+1) r
def ze3 (fr:Nat × Nat) (lo n:Nat):Prop:=∀ i,lo<=i->i<lo+n->¬ (fr.1<=i/\i<fr.2)
theorem z2g (lo n:Nat):ze3 (0,0) lo n:=λi _ _ h=>by simp at h
theorem zje {b off:Nat} {v:Value} {cs:Array Value} {T':TypeId} {fr:Nat × Nat} (hb:w.heap[b]? = some (.cells cs T' fr)) :
  w.setCell ⟨b,off,none⟩ v=z3i w b (.cells (cs.setIfInBounds off v) T' fr):=by
 unfold World.setCell z3i
 congr 1
 apply Array.ext_getElem?;intro i;rw [Array.getElem?_modify,Array.getElem?_setIfInBounds];have hlt:b<w.heap.size:=(Array.getElem?_eq_some_iff.1 hb).1
 by_cases hi:b=i
 ·subst hi
  have hg:w.heap[b]=.cells cs T' fr:=by
   have:=hb;rw [Array.getElem?_eq_getElem hlt] at this;exact Option.some.inj this
  simp [hg,hlt]
 ·simp [hi]
theorem zmh {b:Nat} {o o':Obj}:z3i (z3i w b o) b o'=z3i w b o':=by simp [z3i]
theorem zod {b:Nat} {o o':Obj} (hb:w.heap[b]? = some o):(z3i w b o').heap[b]? = some o':=by
 have hlt:b<w.heap.size:=(Array.getElem?_eq_some_iff.1 hb).1;simp [z3i,hlt]
theorem z9g {b:Nat} {T':TypeId} {fr:Nat × Nat}:∀ (vs:List Value) {w:World} {cs:Array Value} {off i:Nat},w.heap[b]? = some (.cells cs T' fr)->off+i+vs.length<=cs.size ->
  ze3 fr (off+i) vs.length->(∀ v ∈ vs,v.oneCell'=true)->(storeCells ⟨b,off,none⟩ vs i).run P w=.ok () (z3i w b (.cells (putCells cs (off+i) vs) T' fr))
 | [],w,cs,off,i,hb,hsz,hf,hv=>by
  show Result.ok () w=_;simp only [putCells]
  congr 1
  unfold z3i;have hlt:b<w.heap.size:=(Array.getElem?_eq_some_iff.1 hb).1
  have:w.heap.setIfInBounds b (.cells cs T' fr)=w.heap:=by
   apply Array.ext_getElem?;intro j;rw [Array.getElem?_setIfInBounds]
   by_cases hj:b=j
   ·subst hj
    have hg:w.heap[b]=.cells cs T' fr:=by
     have:=hb;rw [Array.getElem?_eq_getElem hlt] at this;exact Option.some.inj this
    simp [hlt,hg]
   ·simp [hj]
  rw [this]
 | v::r,w,cs,off,i,hb,hsz,hf,hv=>by
  rw [List.length_cons] at hsz hf
  have hlt:off+i<cs.size:=by omega
  have hfz:w.frozen? ⟨b,off+i,none⟩=false:=by
   have:=hf (off+i) (by omega) (by omega);simp only [World.frozen?,hb];simpa using this
  simp only [storeCells,Sem.run_bind,run_store _ _ _ _ _ (hv v (List.mem_cons_self ..)),z2d,z3h hb];rw [show cs[off+i]? = some cs[off+i] by simp [hlt]];simp only [hfz,Bool.false_eq_true,if_false,Result.andThen_ok,zje hb];rw [z9g r (zod hb) (by simp;omega) (λj h1 h2=>hf j (by omega) (by omega)) (λv hv'=>hv v (List.mem_cons_of_mem _ hv')),zmh];rfl
theorem zjc {T:TypeId} {b off:Nat} {cs:Array Value} {T':TypeId} {fr:Nat × Nat} {v:Value} {n:Nat} (hn:sizeOf? P T=some n) (hb:w.heap[b]? = some (.cells cs T' fr)) (hsz:off+n<=cs.size)
  (hv:v.cells.size=n) (hone:∀ x ∈ v.cells.toList,x.oneCell'=true) (hf:ze3 fr off n) :
  (st T ⟨b,off,none⟩ v).run P w=.ok () (z3i w b (.cells (putCells cs off v.cells.toList) T' fr)):=by
 simp only [st,Instr.storeAt,Instr.sureAddr,storeVar,Sem.run_bind,Sem.run_pure,Result.andThen_ok,run_sizeOf' hn];rw [if_neg (by simp [hv])];exact z9g _ (i:=0) hb (by simp [hv];omega) (by simpa [hv] using hf) hone
end
section
variable {P:Program} {w:World} {Q:Post}
abbrev Ret (P:Program) (f:FuncId) (args:Array Value) (w:World) (R:List Value->World->Prop):Prop :=
 Calls P f args w λe w'=>∃ vs,e=.returned (z9e vs)/\R vs w'
end
def slc (T:TypeId) (sz:Nat) (l:Sl) (cs:List Value):HP:=λp =>
 (l.a=none/\l.len=0/\l.cap=0/\cs=[]) \/
 ∃ b off arr fr,l.a=some ⟨b,off,none⟩/\p b=some (.cells arr T fr)/\cs.length=l.len*sz/\l.len<=l.cap/\off+l.cap*sz<=arr.size /\
  (∀ i,i<cs.length->arr[off+i]? = cs[i]?)/\ze3 fr off (l.cap*sz)
def Rd (w:World) (sz:Nat) (l:Sl) (cs:List Value):Prop :=
 cs.length=l.len*sz/\(l.len=0\/∃ b off arr T fr,l.a=some ⟨b,off,none⟩/\w.heap[b]? = some (.cells arr T fr)/\∀ i,i<cs.length->arr[off+i]? = cs[i]?)
section
variable {P:Program} {w:World} {l:List HP} {Q:Post} {S:World->Prop} {T:TypeId} {sz:Nat} {x y:Sl} {cs ds:List Value}
theorem Sat.rd (h:Sat w (slc T sz x cs::l)):Rd w sz x cs:=by
 obtain ⟨p1,p2,h1,h2,hd,hA,hl⟩:=h
 rcases hA with ⟨ha,hl0,hc0,rfl⟩|⟨b,off,arr,fr,ha,hb,hlen,hle,hsz,hcs,hf⟩
 ·exact ⟨by simp [hl0],.inl hl0⟩
 ·exact ⟨hlen,.inr ⟨b,off,arr,T,fr,ha,h1 b _ hb,hcs⟩⟩
theorem slc_nil (T:TypeId) (sz:Nat):∀ p,slc T sz ⟨none,0,0⟩ [] p:=λp=>.inl ⟨rfl,rfl,rfl,rfl⟩
theorem Sat.slc_nil (h:Sat w l):Sat w (slc T sz ⟨none,0,0⟩ []::l) :=
 ⟨⟨λ_=>none,World.env' w⟩,World.ph w,⟨(λ_ _ h=>by cases h),rfl⟩,PH.sub_refl _,(λ_=>Or.inl rfl),Dec.slc_nil T sz _,h⟩
theorem Sat.slc_of {b:Nat} {arr:Array Value} {n:Nat} (h:Sat w (pt b (.cells arr T)::l)) (hn:arr.size=n*sz):Sat w (slc T sz ⟨some ⟨b,0,none⟩,n,n⟩ arr.toList::l) :=
 h.imp λp hp=>.inr ⟨b,0,arr,(0,0),rfl,hp,by simp [hn],Nat.le_refl _,by simp [hn],λi _=>by simp,z2g _ _⟩
theorem getElem?_putCells:∀ (vs:List Value) {arr:Array Value} {o i:Nat},o+vs.length<=arr.size ->
  (putCells arr o vs)[i]? = if o<=i/\i<o+vs.length then vs[i-o]? else arr[i]?
 | [],arr,o,i,h=>by simp only [putCells,List.length_nil,Nat.add_zero];rw [if_neg (by omega)]
 | v::r,arr,o,i,h=>by
  simp only [List.length_cons] at h;simp only [putCells,List.length_cons];rw [getElem?_putCells r (by simp;omega),Array.getElem?_setIfInBounds]
  by_cases h1:o+1<=i/\i<o+1+r.length
  ·rw [if_pos h1,if_pos (by omega),show i-o=(i-(o+1))+1 by omega,List.getElem?_cons_succ]
  ·rw [if_neg h1]
   by_cases h2:o=i
   ·subst h2;rw [if_pos rfl,if_pos (by omega),if_pos (by omega)];simp
   ·rw [if_neg h2,if_neg (by omega)]
theorem z4w:∀ (vs:List Value) {arr:Array Value} {o:Nat},(putCells arr o vs).size=arr.size
 | [],arr,o=>rfl
 | v::r,arr,o=>by simp only [putCells];rw [z4w r];simp
theorem zch {b:Nat} {T':TypeId} {fr:Nat × Nat}:∀ (vs:List Value) {w:World} {arr:Array Value} {o:Nat},w.heap[b]? = some (.cells arr T' fr) ->
  w.setCells b o vs=z3i w b (.cells (putCells arr o vs) T' fr)
 | [],w,arr,o,hb=>by
  simp only [World.setCells,putCells];unfold z3i;have hlt:b<w.heap.size:=(Array.getElem?_eq_some_iff.1 hb).1
  have:w.heap.setIfInBounds b (.cells arr T' fr)=w.heap:=by
   apply Array.ext_getElem?;intro j;rw [Array.getElem?_setIfInBounds]
   by_cases hj:b=j
   ·subst hj
    have hg:w.heap[b]=.cells arr T' fr:=by
     have:=hb;rw [Array.getElem?_eq_getElem hlt] at this;exact Option.some.inj this
    simp [hlt,hg]
   ·simp [hj]
  rw [this]
 | v::r,w,arr,o,hb=>by
  simp only [World.setCells,putCells];rw [zje hb,zch r (zod hb),zmh]
theorem z021 (hk:∃ e',P.underlying T=some (.slice e')) (hy:Rd w sz y ds) (h1:∀ u ∈ ds,u.oneCell'=true):Src P sz T y.v y.len ds w:=by
 obtain ⟨e',hk⟩:=hk;obtain ⟨hlen,h0|⟨b,off,arr,T',fr,ha,hb,hcs⟩⟩:=hy
 ·have hds:ds=[]:=List.length_eq_zero_iff.1 (by rw [hlen,h0,Nat.zero_mul]);subst hds;obtain ⟨a,ln,cp⟩:=y;simp only at h0;subst h0
  cases a with
  | none=>exact Src.ofNil w hk cp
  | some a=>exact Src.ofSlice w hk a 0 cp [] (by simp) (λj u h=>by simp at h) h1
 ·obtain ⟨a,ln,cp⟩:=y;simp only at ha hlen;subst ha;refine Src.ofSlice w hk ⟨b,off,none⟩ ln cp ds hlen (λj u hj=>?_) h1;have hlt:j<ds.length:=(List.getElem?_eq_some_iff.1 hj).1;rw [z2d,z3h hb,hcs j hlt,hj]
theorem zno {t tx ty:TypeId} {i:TypeInfo} {z:Value} (ht:P.underlying t=some (.slice T)) (hi:P.info? T=some i) (hz:i.zero=some z) (hzs:z.cells.size=i.size)
  (hs:Sat w (slc T i.size x cs::l)) {v:Value} {n:Nat} (hsrc:Src P i.size tx v n ds w) (hbound:(x.len+n)*i.bytes<=140737488355328) (h63:x.len+n<=9223372036854775807) :
  ∃ r w',(app t tx ty x.v v).run P w=.ok r.v w'/\r.len=x.len+n/\Sat w' (slc T i.size r (cs++ds)::l)/\(∀ b,b<w.heap.size->(∀ o,x.a≠some ⟨b,o,none⟩)->w'.heap[b]? = w.heap[b]?)/\w.heap.size<=w'.heap.size:=by
 have hrd:=hs.rd
 by_cases hroom:x.len+n<=x.cap
 ·
  have hs':=hs;obtain ⟨p1,p2,h1,h2,hd,hA,hl⟩:=hs
  rcases hA with ⟨ha,hl0,hc0,rfl⟩|⟨b,off,arr,fr,ha,hb,hlen,hle,hsz,hcs,hf⟩
  ·
   have hn0:n=0:=by omega
   subst hn0;have hds:ds=[]:=List.length_eq_zero_iff.1 (by rw [hsrc.newsLen,Nat.zero_mul]);subst hds;obtain ⟨a,ln,cp⟩:=x;simp only at ha hl0 hc0;subst ha hl0 hc0;refine ⟨⟨none,0,0⟩,w,?_,rfl,hs',λ_ _ _=>rfl,Nat.le_refl _⟩
   rcases hsrc.kind with ⟨e',hk⟩|hk <;>
    simp [app,Builtin.append_,run_underlying ht,run_underlying hk,sizeOf,typeInfo,hi,hsrc.len,hsrc.cells]
  ·have hbw:w.heap[b]? = some (.cells arr T fr):=h1 b _ hb;obtain ⟨a,ln,cp⟩:=x;simp only at ha hlen hle hsz hf hroom;subst ha
   have hfit:off+ln*i.size+ds.length<=arr.size:=by
    rw [hsrc.newsLen,Nat.add_assoc,<- Nat.add_mul];exact Nat.le_trans (Nat.add_le_add_left (Nat.mul_le_mul_right _ hroom) _) hsz
   have hrun:=run_append_room_src (P:=P) w t tx ty T i ht hi b off ln cp v n ds hsrc hroom
    (λj hj=>by rw [z3h hbw];simp;omega)
    (λj hj=>by
     have h3:ln*i.size+ds.length<=cp*i.size:=by rw [hsrc.newsLen,<- Nat.add_mul];exact Nat.mul_le_mul_right _ hroom
     have:=hf (off+ln*i.size+j) (by omega) (by omega);simp only [World.frozen?,hbw]
     simpa using this)
   rw [zch ds hbw] at hrun;refine ⟨⟨some ⟨b,off,none⟩,ln+n,cp⟩,_,hrun,rfl,?_,λb' hb' hne=>?_,by simp [z3i]⟩
   ·have hset:Sat w (pt b (.cells arr T fr)::l):=⟨p1,p2,h1,h2,hd,hb,hl⟩
    refine hset.set.imp λp hp=>.inr ⟨b,off,_,fr,rfl,hp,?_,hroom,?_,λj hj=>?_,hf⟩
    ·rw [List.length_append,hlen,hsrc.newsLen,Nat.add_mul]
    ·rw [z4w];exact hsz
    ·rw [List.length_append,hlen] at hj;rw [getElem?_putCells ds hfit]
     by_cases hjl:j<ln*i.size
     ·rw [if_neg (by omega),hcs j (by omega),List.getElem?_append_left (by omega)]
     ·rw [if_pos (by omega),List.getElem?_append_right (by omega),hlen]
      congr 1;omega
   ·have:b≠b':=λe=>hne off (by rw [e]);simp [z3i,Array.getElem?_setIfInBounds_ne this]
 ·
  have hold:(Builtin.firstCells i.size x.len x.v).run P w.drew=.ok cs.toArray w.drew:=by
   have hrd':Rd w.drew i.size x cs:=hrd
   have hkk:(∃ e',P.underlying t=some (.slice e')):=⟨T,ht⟩
   obtain ⟨hlen,h0|⟨b,off,arr,T',fr,ha,hb,hcs⟩⟩:=hrd'
   ·have hcs0:cs=[]:=List.length_eq_zero_iff.1 (by rw [hlen,h0,Nat.zero_mul]);subst hcs0;obtain ⟨a,ln,cp⟩:=x;simp only at h0;subst h0
    cases a with
    | none=>simp [Builtin.firstCells]
    | some a=>exact run_firstCells_some (P:=P) w.drew i.size 0 a 0 cp [] (by simp) (λj u h=>by simp at h)
   ·obtain ⟨a,ln,cp⟩:=x;simp only at ha hlen;subst ha;refine run_firstCells_some (P:=P) w.drew i.size ln ⟨b,off,none⟩ ln cp cs hlen (λj u hj=>?_);have hlt:j<cs.length:=(List.getElem?_eq_some_iff.1 hj).1;rw [z2d,z3h hb,hcs j hlt,hj]
  have hrun:=run_append_grow_src (P:=P) w t tx ty T i z ht hi hz x.a x.len x.cap cs hold v n ds hsrc (by omega) (by omega) (growslice_fits (by omega) hbound);have hge:=grownCap_ge w (x.len+n) x.cap T;refine ⟨⟨some ⟨w.heap.size,0,none⟩,x.len+n,grownCap w (x.len+n) x.cap T⟩,_,hrun,rfl,?_,λb hb _=>?_,(by show _<=(w.heap.push _).size;simp)⟩
  ·have hp:=(hs.tail).push (w':=w.drew.alloc (.cells ((cs++ds).toArray++Builtin.zeroCells z.cells (grownCap w (x.len+n) x.cap T-(x.len+n))) T)) (o:=.cells ((cs++ds).toArray++Builtin.zeroCells z.cells (grownCap w (x.len+n) x.cap T-(x.len+n))) T) rfl;refine hp.imp λp hp=>.inr ⟨w.heap.size,0,_,(0,0),rfl,hp,?_,hge,?_,λj hj=>?_,z2g _ _⟩
   ·rw [List.length_append,hrd.1,hsrc.newsLen,Nat.add_mul]
   ·simp only [Array.size_append,List.size_toArray,List.length_append,size_zeroCells,hrd.1,hsrc.newsLen,hzs,Nat.zero_add];rw [<- Nat.add_mul,<- Nat.add_mul];exact Nat.mul_le_mul_right _ (by omega)
   ·rw [Nat.zero_add,Array.getElem?_append_left (by simpa using hj)];simp
  ·show (w.heap.push _)[b]? = _;simp [Array.getElem?_push,Nat.ne_of_lt hb]
def z4e (P:Program) (t:TypeId) (n:Nat) (ps:Array (Nat × Value)):Option (TypeId × Array Value) :=
 match P.underlying t with
 | some (.slice el)=>match P.info? el with
  | some i=>if n*i.size>16777216 then none else match (if n*i.size=0 then some #[] else (i.zero.map Value.cells)) with
   | some zero=>match Instr.fill (λj=>some (j*i.size,i.size)) ((Array.range (n*i.size)).map (zero[· % zero.size]!)) ps.toList with
    | some cells=>some (el,cells)
    | none=>none
   | none=>none
  | none=>none
 | _=>none
theorem zjb {t:TypeId} {n:Nat} {ps:Array (Nat × Value)} {el:TypeId} {cells:Array Value} (h:z4e P t n ps=some (el,cells)) :
  (Instr.buildSlice t n ps).run P w=.ok (.slice (some ⟨w.heap.size,0,none⟩) n n) { w with heap:=w.heap.push (.cells cells el) }:=by
 unfold z4e at h;split at h
 ·rename_i el' ht
  split at h
  ·rename_i i hi
   split at h
   ·cases h
   ·rename_i hsmall
    split at h
    ·rename_i zero hzero
     split at h
     ·rename_i cells' hfill
      obtain ⟨rfl,rfl⟩:=Prod.mk.inj (Option.some.inj h)
      have hsz:sizeOf? P el'=some i.size:=by unfold sizeOf?;rw [hi]
      have hs:¬ (n*i.size>2 ^ 24):=by simpa using hsmall
      by_cases h0:n*i.size=0
      ·rw [if_pos h0] at hzero;obtain rfl:=Option.some.inj hzero;simp only [Instr.buildSlice,Sem.run_bind,run_underlying' ht,Result.andThen_ok,run_sizeOf' hsz,if_neg hs,if_pos h0,Sem.run_pure,hfill,newRow,run_newObj]
      ·rw [if_neg h0] at hzero
       cases hzz:i.zero with
       | none=>rw [hzz] at hzero;cases hzero
       | some z =>
        rw [hzz] at hzero;obtain rfl:=Option.some.inj hzero
        have hzv:(zeroValue el').run P w=.ok z w:=by simp [zeroValue,typeInfo,hi,hzz]
        simp only [Instr.buildSlice,Sem.run_bind,run_underlying' ht,Result.andThen_ok,run_sizeOf' hsz,if_neg hs,if_neg h0,hzv,Sem.run_pure,hfill,newRow,run_newObj]
     ·cases h
    ·cases h
  ·cases h
 ·cases h
theorem Rd.pt {b:Nat} {arr:Array Value} {n:Nat} (h:Sat w (pt b (.cells arr T)::l)) (hn:arr.size=n*sz):Rd w sz ⟨some ⟨b,0,none⟩,n,n⟩ arr.toList :=
 (h.slc_of hn).rd
end
class Foc (l:List HP) (H:HP) (r:outParam (List HP)):Prop where
 perm:l.Perm (H::r)
instance Foc.head {H:HP} {l:List HP}:Foc (H::l) H l:=⟨.refl _⟩
instance (priority:=low) Foc.tail {x H:HP} {l r:List HP} [h:Foc l H r]:Foc (x::l) H (x::r):=⟨(List.Perm.cons x h.perm).trans (.swap _ _ _)⟩
class FocB (l:List HP) (b:Nat) (o:outParam Obj) (r:outParam (List HP)):Prop where
 perm:l.Perm (pt b o::r)
instance FocB.head {b:Nat} {o:Obj} {l:List HP}:FocB (pt b o::l) b o l:=⟨.refl _⟩
instance (priority:=low) FocB.tail {x:HP} {b:Nat} {o:Obj} {l r:List HP} [h:FocB l b o r]:FocB (x::l) b o (x::r):=⟨(List.Perm.cons x h.perm).trans (.swap _ _ _)⟩
class FocS (l:List HP) (x:Sl) (T:outParam TypeId) (sz:outParam Nat) (cs:outParam (List Value)) (r:outParam (List HP)):Prop where
 perm:l.Perm (slc T sz x cs::r)
instance FocS.head {x:Sl} {T:TypeId} {sz:Nat} {cs:List Value} {l:List HP}:FocS (slc T sz x cs::l) x T sz cs l:=⟨.refl _⟩
instance (priority:=low) FocS.tail {y:HP} {x:Sl} {T:TypeId} {sz:Nat} {cs:List Value} {l r:List HP} [h:FocS l x T sz cs r]:FocS (y::l) x T sz cs (y::r):=⟨(List.Perm.cons y h.perm).trans (.swap _ _ _)⟩
class One (P:Program) (T:TypeId):Prop where
 ok:zhc P T=some false/\sizeOf? P T=some 1
class Agg (P:Program) (T:TypeId) (n:outParam Nat):Prop where
 ok:zhc P T=some true/\sizeOf? P T=some n
section
variable {P:Program} {w:World} {l r:List HP} {Q:Post} {S:World->Prop} {b:Nat} {o:Obj}
theorem Sat.focB (b:Nat) [h:FocB l b o r] (hs:Sat w l):Sat w (pt b o::r):=hs.perm h.perm
theorem Sat.focS (x:Sl) {T:TypeId} {sz:Nat} {cs:List Value} [h:FocS l x T sz cs r] (hs:Sat w l):Sat w (slc T sz x cs::r):=hs.perm h.perm
section
variable {T T':TypeId} {off:Nat} {cs:Array Value} {fr:Nat × Nat} {g:Prop}
theorem z0dv {n:Nat} {vs:Array Value} {k:Prog} (hs:Sat w l) [hb:FocB l b (.cells cs T' (0,0)) r] [hT:Agg P T n] (hsz:Nat.ble (off+n) cs.size=true) (hv:vs.size=n) (hone:∀ x ∈ vs.toList,x.oneCell'=true)
  (h:∀ w',Sat w' (pt b (.cells (putCells cs off vs.toList) T' (0,0))::r)->S w'/\k.wp P S w' Q):(Prog.actU (st T ⟨b,off,none⟩ (.agg vs)) k).wp P S w Q:=by
 have:=zjc (P:=P) (v:=.agg vs) hT.ok.2 (hs.focB b).get (Nat.le_of_ble_eq_true hsz) hv hone (z2g _ _);have h':=h _ (hs.focB b).set;exact ⟨_,this,h'.1,h'.2⟩
theorem wp_new' {z:Value} {k:Addr × Unit->Prog} (hz:zbq P T=some z) (hs:Sat w l)
  (h:∀ b w',Sat w' (pt b (.cells z.cells T)::l)->S w'/\(k (⟨b,0,none⟩,())).wp P S w' Q):(Prog.act (new T) sA k).wp P S w Q :=
 have h':=h _ _ (hs.push (o:=.cells z.cells T) (w':={ w with heap:=w.heap.push (.cells z.cells T) }) rfl)
 ⟨(⟨w.heap.size,0,none⟩,()),_,z0b4 hz,h'.1,h'.2⟩
theorem wp_callS {f:FuncId} {args:List Value} {s:Sh} {k:HL s.prims->Prog} {vs₀:List Value} {R:World->Prop} (x:HL s.prims)
  (hc:Ret P f args.toArray w λvs w'=>vs=vs₀/\R w') (hx:z9e vs₀=s.mk x)
  (h:∀ w',R w'->S w'/\(k x).wp P S w' Q):(Prog.call f args s k).wp P S w Q :=
 zb hc λvs w' ⟨hv,hR⟩=>⟨x,by rw [hv,hx],h w' hR⟩
end
end
class Zer (P:Program) (T:TypeId) (z:outParam Value):Prop where
 ok:zbq P T=some z
class SlT (P:Program) (t:TypeId) (el:outParam TypeId) (sz bytes:outParam Nat):Prop where
 ok:P.underlying t=some (.slice el)/\(P.info? el).map (λi=>(i.size,i.bytes,i.zero.map (·.cells.size)))=some (sz,bytes,some sz)
section
variable {P:Program} {w:World} {l r:List HP} {Q:Post} {S:World->Prop}
theorem z0bn {T:TypeId} {z:Value} [hz:Zer P T z] {k:Addr × Unit->Prog} (hs:Sat w l)
  (h:∀ b w',Sat w' (pt b (.cells z.cells T)::l)->S w'/\(k (⟨b,0,none⟩,())).wp P S w' Q):(Prog.act (new T) sA k).wp P S w Q:=wp_new' hz.ok hs h
theorem SlT.parts {t el:TypeId} {sz bytes:Nat} (h:SlT P t el sz bytes):∃ i z,P.info? el=some i/\i.size=sz/\i.bytes=bytes/\i.zero=some z/\z.cells.size=i.size:=by
 obtain ⟨h1,h2⟩:=h.ok
 cases hi:P.info? el with
 | none=>rw [hi] at h2;cases h2
 | some i =>
  rw [hi] at h2;simp only [Option.map_some,Option.some.injEq,Prod.mk.injEq] at h2;obtain ⟨e1,e2,e3⟩:=h2
  cases hz:i.zero with
  | none=>rw [hz] at e3;cases e3
  | some z=>rw [hz] at e3;exact ⟨i,z,rfl,e1,e2,hz,by simp only [Option.map_some,Option.some.injEq] at e3;rw [e3,e1]⟩
theorem zxc {t tx ty el el':TypeId} {sz bytes sz' bytes':Nat} {x y:Sl} {cs ds:List Value} {k:Sl × Unit->Prog} [ht:SlT P t el sz bytes] [htx:SlT P tx el' sz' bytes'] (hs:Sat w l) [hf:FocS l x el sz cs r]
  (hy:Rd w sz y ds) (h1:∀ u ∈ ds,u.oneCell'=true) (hbound:(x.len+y.len)*bytes<=140737488355328) (h63:x.len+y.len<=9223372036854775807)
  (h:∀ z w',z.len=x.len+y.len->Sat w' (slc el sz z (cs++ds)::r)->S w'/\(k (z,())).wp P S w' Q):(Prog.act (app t tx ty x.v y.v) sL k).wp P S w Q:=by
 obtain ⟨i,z,hi,rfl,rfl,hz,hzs⟩:=ht.parts;obtain ⟨z,w',hrun,hlen,hs',_⟩:=zno (ty:=ty) ht.ok.1 hi hz hzs (hs.focS x) (z021 ⟨_,htx.ok.1⟩ hy h1) hbound h63;have h':=h z w' hlen hs';exact ⟨(z,()),w',hrun,h'.1,h'.2⟩
theorem z0dp {t ty el:TypeId} {sz bytes:Nat} {x:Sl} {cs:List Value} {ps:Array (Nat × Value)} {arr:Array Value} {k:Sl × Unit->Prog} [ht:SlT P t el sz bytes] (hs:Sat w l) [hf:FocS l x el sz cs r]
  (hps:z4e P t 1 ps=some (el,arr)) (harr:arr.size=sz) (h1:∀ u ∈ arr.toList,u.oneCell'=true) (hbound:(x.len+1)*bytes<=140737488355328) (h63:x.len+1<=9223372036854775807)
  (h:∀ z w',z.len=x.len+1->Sat w' (slc el sz z (cs++arr.toList)::r)->S w'/\(k (z,())).wp P S w' Q) (hS:∀ w',Sat w' l->S w') :
  (Prog.act (Instr.buildSlice t 1 ps) sL (u1 λy=>.act (app t t ty x.v y.v) sL k)).wp P S w Q:=by
 have hp:=hs.push (o:=.cells arr el) (w':={ w with heap:=w.heap.push (.cells arr el) }) rfl;refine ⟨(⟨some ⟨w.heap.size,0,none⟩,1,1⟩,()),_,zjb hps,hS _ hp.tail,?_⟩;have hrd:Rd { w with heap:=w.heap.push (.cells arr el) } sz ⟨some ⟨w.heap.size,0,none⟩,1,1⟩ arr.toList:=Rd.pt hp (by simp [harr]);exact zxc (ht:=ht) (htx:=ht) (x:=x) (y:=⟨some ⟨w.heap.size,0,none⟩,1,1⟩) hp.tail hrd h1 hbound h63 h
end
theorem zkz (x:Int):IntKind.wrap .i64 x=if x % 18446744073709551616>=9223372036854775808 then x % 18446744073709551616-18446744073709551616 else x % 18446744073709551616:=by
 by_cases h:x % 18446744073709551616>=9223372036854775808
 ·rw [if_pos h];simp [IntKind.wrap,IntKind.bits,IntKind.signed,h]
 ·rw [if_neg h];simp [IntKind.wrap,IntKind.bits,IntKind.signed];omega
theorem w64 {x:Int} (h0 : -9223372036854775808<=x) (h1:x<9223372036854775808):IntKind.wrap .i64 x=x:=by
 rw [zkz];split <;> omega
theorem wS {i:Nat} (h:i<9223372036854775807):IntKind.wrap .i64 ((i:Int)+1)=((i+1:Nat):Int):=by
 rw [w64 (by omega) (by omega)];omega
def At (w:World) (A:Addr) (vs:List Value):Prop :=
 ∃ b o arr T fr,A=⟨b,o,none⟩/\w.heap[b]? = some (.cells arr T fr)/\∀ i,i<vs.length->arr[o+i]? = vs[i]?
section
variable {P:Program} {w:World} {l:List HP} {Q:Post} {S:World->Prop} {A:Addr} {vs:List Value} {T:TypeId}
theorem At.add (h:At w A vs) (n:Nat):At w (A.add n) (vs.drop n):=by
 obtain ⟨b,o,arr,T,fr,rfl,hb,hc⟩:=h;refine ⟨b,o+n,arr,T,fr,by rw [z2d],hb,λi hi=>?_⟩;rw [List.length_drop] at hi;rw [Nat.add_assoc,hc _ (by omega),List.getElem?_drop]
theorem At.take (h:At w A vs) (n:Nat):At w A (vs.take n):=by
 obtain ⟨b,o,arr,T,fr,rfl,hb,hc⟩:=h;refine ⟨b,o,arr,T,fr,rfl,hb,λi hi=>?_⟩;rw [List.length_take] at hi;rw [hc _ (by omega),List.getElem?_take,if_pos (by omega)]
theorem At.ld1 [hT:One P T] {v:Value} (h:At w A vs) (hv:vs[0]? = some v):(ld T A).run P w=.ok v w:=by
 obtain ⟨b,o,arr,T,fr,rfl,hb,hc⟩:=h;have hlt:0<vs.length:=(List.getElem?_eq_some_iff.1 hv).1;exact zcy hT.ok.1 hb (by have:=hc 0 hlt;rw [Nat.add_zero] at this;rw [this,hv])
theorem At.fld [hT:One P T] {v:Value} {n:Nat} (h:At w A vs) (hv:vs[n]? = some v):(ld T (A.add n)).run P w=.ok v w :=
 (h.add n).ld1 (by rw [List.getElem?_drop];exact hv)
theorem At.ldA {n:Nat} [hT:Agg P T n] (h:At w A vs) (hn:vs.length=n):(ld T A).run P w=.ok (.agg vs.toArray) w:=by
 obtain ⟨b,o,arr,T',fr,rfl,hb,hc⟩:=h
 have hsz:o+n<=arr.size\/n=0:=by
  by_cases h0:n=0
  ·exact .inr h0
  ·left;have:=hc (n-1) (by omega);rw [List.getElem?_eq_getElem (by omega)] at this;have:=(Array.getElem?_eq_some_iff.1 this).1;omega
 rcases hsz with hsz|h0
 ·rw [zv0 hT.ok.1 hT.ok.2 hb hsz]
  congr 2
  apply Array.ext_getElem?;intro i;rw [Array.getElem?_extract]
  by_cases hi:i<n
  ·rw [if_pos (by omega),hc i (by omega)];simp
  ·rw [if_neg (by omega)];simp [List.getElem?_eq_none (by omega:vs.length<=i)]
 ·subst h0;obtain rfl:=List.length_eq_zero_iff.1 hn;simp only [ld,Instr.loadAt,Instr.sureAddr,loadVar,Sem.run_bind,Sem.run_pure,Result.andThen_ok,z9z hT.ok.1,if_true,run_sizeOf' hT.ok.2,loadCells,loadCellsFrom]
theorem z9p {α:Type} {enc:α->List Value} {sz:Nat} (henc:∀ x,(enc x).length=sz):∀ (xs:List α),(xs.flatMap enc).length=xs.length*sz
 | []=>by simp
 | x::r=>by simp [henc,z9p henc r,Nat.add_mul,Nat.add_comm]
theorem zo9 {α:Type} {enc:α->List Value} {sz:Nat} (henc:∀ x,(enc x).length=sz):∀ (xs:List α) (i:Nat) (hi:i<xs.length),((xs.flatMap enc).drop (i*sz)).take sz=enc xs[i]
 | x::r,0,hi=>by simp [henc,List.take_left' (henc x)]
 | x::r,i+1,hi=>by
  simp only [List.flatMap_cons,List.getElem_cons_succ];rw [Nat.add_mul,Nat.one_mul,Nat.add_comm,List.drop_append,List.drop_eq_nil_of_le (by rw [henc];omega),henc,Nat.add_sub_cancel_left,List.nil_append];exact zo9 henc r i (by simpa using hi)
theorem Rd.len {sz:Nat} {x:Sl} {α:Type} {enc:α->List Value} {xs:List α} (henc:∀ x,(enc x).length=sz) (hsz:0<sz) (h:Rd w sz x (xs.flatMap enc)):x.len=xs.length:=by
 have:=h.1;rw [z9p henc] at this;exact (Nat.eq_of_mul_eq_mul_right hsz this).symm
theorem Rd.el {sz:Nat} {x:Sl} {α:Type} {enc:α->List Value} {xs:List α} (henc:∀ x,(enc x).length=sz) (h:Rd w sz x (xs.flatMap enc)) (hne:0<x.len) :
  ∃ a,x.a=some a/\∀ (i:Nat) (hi:i<xs.length),At w (a.add (i*sz)) (enc xs[i]):=by
 obtain ⟨hlen,h0|⟨b,off,arr,T',fr,ha,hb,hcs⟩⟩:=h
 ·omega
 ·refine ⟨_,ha,λi hi=>?_⟩
  have h1:At w ⟨b,off,none⟩ (xs.flatMap enc):=⟨b,off,arr,T',fr,rfl,hb,hcs⟩
  have h2:=(h1.add (i*sz)).take sz
  rwa [zo9 henc xs i hi] at h2
theorem zxh {g:Prop} {m:Sem Value} {p:Pr} {x:p.D} {f:p.D->Prog} (hm:m.run P w=.ok (p.mk x) w) (h:(f x).wp P S w Q):(Prog.read g m (.one (.one p)) (u1 f)).wp P S w Q :=
 ⟨(x,()),λ_=>by cases p <;> exact hm,h⟩
end
section
variable {P:Program} {w:World} {l r:List HP} {Q:Post} {S:World->Prop} {T T':TypeId} {sz:Nat} {x:Sl} {cs:List Value} {a A:Addr} {q:Nat}
theorem z0b6 {v:Value} {vs:List Value} (hs:Sat w (slc T sz x cs::l)) (hx:x.a=some a) (hA:∀ b o,a=⟨b,o,none⟩->A=⟨b,o+q,none⟩) (hn:sizeOf? P T'=some vs.length) (hv:v.cells.toList=vs)
  (hone:∀ u ∈ vs,u.oneCell'=true) (hq:q+vs.length<=cs.length) :
  ∃ w',(st T' A v).run P w=.ok () w'/\Sat w' (slc T sz x (cs.take q++vs++cs.drop (q+vs.length))::l):=by
 obtain ⟨p1,p2,h1,h2,hd,hH,hl⟩:=hs
 rcases hH with ⟨ha,-⟩|⟨b,off,arr,fr,ha,hb,hlen,hle,hsz,hcs,hf⟩
 ·rw [ha] at hx;cases hx
 ·rw [ha] at hx;obtain rfl:=Option.some.inj hx;obtain rfl:=hA b off rfl;have hbw:w.heap[b]? = some (.cells arr T fr):=h1 b _ hb
  have hcl:cs.length<=x.cap*sz:=by rw [hlen];exact Nat.mul_le_mul_right _ hle
  have hvs:v.cells.size=vs.length:=by rw [<- hv];simp
  have hrun:=zjc (P:=P) (off:=off+q) hn hbw (by omega) hvs (by rw [hv];exact hone) (λi hi1 hi2=>hf i (by omega) (by omega));rw [hv] at hrun;refine ⟨_,hrun,?_⟩
  have hset:Sat w (pt b (.cells arr T fr)::l):=⟨p1,p2,h1,h2,hd,hb,hl⟩
  refine hset.set.imp λp hp=>.inr ⟨b,off,_,fr,ha,hp,?_,hle,?_,λi hi=>?_,hf⟩
  ·simp only [List.length_append,List.length_take,List.length_drop];omega
  ·rw [z4w];exact hsz
  ·simp only [List.length_append,List.length_take,List.length_drop] at hi;rw [getElem?_putCells vs (by omega)]
   by_cases h1:i<q
   ·rw [if_neg (by omega),hcs i (by omega),List.append_assoc,List.getElem?_append_left (by rw [List.length_take];omega),List.getElem?_take,if_pos h1]
   ·by_cases h2:i<q+vs.length
    ·rw [if_pos (by omega),List.append_assoc,List.getElem?_append_right (by rw [List.length_take];omega),List.length_take,List.getElem?_append_left (by omega)]
     congr 1;omega
    ·rw [if_neg (by omega),hcs i (by omega),List.getElem?_append_right (by rw [List.length_append,List.length_take];omega),List.getElem?_drop,List.length_append,List.length_take]
     congr 1;omega
theorem z0dw {v:Value} {vs:List Value} {k:Prog} (hs:Sat w l) [hf:FocS l x T sz cs r] (hx:x.a=some a) (hA:∀ b o,a=⟨b,o,none⟩->A=⟨b,o+q,none⟩) (hn:sizeOf? P T'=some vs.length) (hv:v.cells.toList=vs)
  (hone:∀ u ∈ vs,u.oneCell'=true) (hq:q+vs.length<=cs.length) (h:∀ w',Sat w' (slc T sz x (cs.take q++vs++cs.drop (q+vs.length))::r)->S w'/\k.wp P S w' Q) :
  (Prog.actU (st T' A v) k).wp P S w Q:=by
 obtain ⟨w',hrun,hs'⟩:=z0b6 (P:=P) (hs.focS x) hx hA hn hv hone hq;have h':=h w' hs';exact ⟨w',hrun,h'.1,h'.2⟩
theorem z7p {k':IntKind} {x y:Int} {k:Int->Prog} (hxy:x=y) (h:(k y).wp P S w Q):(Prog.lt (.int k') x k).wp P S w Q:=by subst hxy;exact h
theorem z22 {e:Nat} {us us':List Value} (hv:us=us') (h:(Prog.done e us').wp P S w Q):(Prog.done e us).wp P S w Q:=by rw [hv];exact h
theorem zob {α:Type} {enc:α->List Value} (henc:∀ x,(enc x).length=sz) (y:α):∀ (xs:List α) (i:Nat),i<xs.length ->
  (xs.flatMap enc).take (i*sz)++enc y++(xs.flatMap enc).drop (i*sz+sz)=(xs.set i y).flatMap enc
 | x::r,0,hi=>by simp [List.drop_left' (henc x)]
 | x::r,i+1,hi=>by
  have ih:=zob henc y r i (by simpa using hi);simp only [List.flatMap_cons,List.set_cons_succ]
  rw [<- ih,show (i+1)*sz=sz+i*sz by rw [Nat.add_mul,Nat.one_mul,Nat.add_comm],List.take_append,List.take_of_length_le (by rw [henc];omega),henc,Nat.add_sub_cancel_left,
   show sz+i*sz+sz=sz+(i*sz+sz) by omega,List.drop_append,List.drop_eq_nil_of_le (by rw [henc];omega),henc,Nat.add_sub_cancel_left,List.nil_append]
  simp only [List.append_assoc]
theorem zjr {α:Type} {enc:α->List Value} {xs:List α} {i:Nat} {y:α} {v:Value} {k:Prog} (henc:∀ x,(enc x).length=sz) (hs:Sat w l) [hf:FocS l x T sz (xs.flatMap enc) r] (hx:x.a=some a) (hi:i<xs.length)
  (hA:∀ b o,a=⟨b,o,none⟩->A=⟨b,o+i*sz,none⟩) (hn:sizeOf? P T'=some sz) (hv:v.cells.toList=enc y) (hone:∀ u ∈ enc y,u.oneCell'=true)
  (h:∀ w',Sat w' (slc T sz x ((xs.set i y).flatMap enc)::r)->S w'/\k.wp P S w' Q):(Prog.actU (st T' A v) k).wp P S w Q:=by
 refine z0dw (q:=i*sz) (vs:=enc y) hs hx hA (by rw [henc];exact hn) hv hone ?_ ?_
 ·rw [henc,z9p henc]
  calc i*sz+sz=(i+1)*sz:=by rw [Nat.add_mul,Nat.one_mul]
   _<=xs.length*sz:=Nat.mul_le_mul_right _ hi
 ·intro w' hs';rw [henc,zob henc y xs i hi] at hs';exact h w' hs'
theorem zlq:∀ (vs:List Value) (k:Nat) (arr:Array Value),(vs.zipIdx k).foldl (λcs (c,j)=>cs.setIfInBounds j c) arr=putCells arr k vs
 | [],_,_=>rfl
 | v::r,k,arr=>by rw [List.zipIdx_cons,List.foldl_cons,putCells];exact zlq r (k+1) _
theorem zfi {arr vs:Array Value} (h:arr.size=vs.size):putCells arr 0 vs.toList=vs:=by
 apply Array.ext_getElem?;intro i;rw [getElem?_putCells _ (by simp [h])];split
 ·simp
 ·rename_i h'
  rw [Array.getElem?_eq_none (by simp at h';omega),Array.getElem?_eq_none (by simp at h';omega)]
theorem bs1 {t:TypeId} {bytes:Nat} {v:Value} {arr:Array Value} [ht:SlT P t T sz bytes] (hv:v.cells=arr) (h0:Nat.beq sz 0=false) (h1:Nat.ble sz 16777216=true) (hsz:arr.size=sz:=by rfl):z4e P t 1 #[(0,v)]=some (T,arr):=by
 obtain ⟨i,z,hi,h2,h3,h4,h5⟩:=ht.parts;have h0:=Nat.ne_of_beq_eq_false h0;have h1:=Nat.le_of_ble_eq_true h1;subst h2;unfold z4e;simp only [ht.ok.1,hi,Nat.one_mul];rw [if_neg (by omega),if_neg h0,h4]
 have:∀ a:Array Value,a.size=i.size->Instr.fill (λj=>some (j*i.size,i.size)) a [(0,v)]=some arr:=λa ha=>by
  simp only [Instr.fill];rw [hv,if_neg (by simp [hsz,ha])]
  congr 1
  simp only [Nat.zero_mul,Nat.zero_add,<- Array.foldl_toList];rw [Array.toList_zipIdx,zlq arr.toList 0 a,zfi (by rw [ha,hsz])]
 rw [Option.map_some];dsimp only;rw [this _ (by simp)]
theorem z0dq {α:Type} {enc:α->List Value} {xs:List α} {y:α} {t ty:TypeId} {bytes:Nat} {ps:Array (Nat × Value)} {arr:Array Value} {k:Sl × Unit->Prog} [ht:SlT P t T sz bytes] (henc:∀ x,(enc x).length=sz) (hsz:0<sz) (hs:Sat w l)
  [hf:FocS l x T sz (xs.flatMap enc) r] (hps:z4e P t 1 ps=some (T,arr)) (harr:arr.toList=enc y) (h1:∀ u ∈ enc y,u.oneCell'=true) (hb:(xs.length+1)*bytes<=140737488355328) (h63:xs.length+1<=9223372036854775807)
  (h:∀ z w',Sat w' (slc T sz z ((xs++[y]).flatMap enc)::r)->S w'/\(k (z,())).wp P S w' Q) (hS:∀ w',Sat w' l->S w') :
  (Prog.act (Instr.buildSlice t 1 ps) sL (u1 λy=>.act (app t t ty x.v y.v) sL k)).wp P S w Q:=by
 have hl:x.len=xs.length:=(hs.focS x).rd.len henc hsz;refine z0dp hs hps (by rw [<- Array.length_toList,harr,henc]) (by rw [harr];exact h1) (by rw [hl];exact hb) (by rw [hl];exact h63) (λz w' _ hs'=>h z w' ?_) hS;rw [harr] at hs';simpa using hs'
end
class StT (P:Program) (t:TypeId):Prop where
 ok:P.underlying t=some .string
class BP (b:Bool) (p:outParam Prop):Prop where
 ok:b=true↔p
instance (priority:=low) BP.any {b:Bool}:BP b (b=true):=⟨.rfl⟩
instance BP.dec {p:Prop} [Decidable p]:BP (decide p) p:=⟨decide_eq_true_iff⟩
instance BP.or {a b:Bool} {p q:Prop} [h1:BP a p] [h2:BP b q]:BP (a || b) (p\/q):=⟨by rw [Bool.or_eq_true,h1.ok,h2.ok]⟩
instance BP.and {a b:Bool} {p q:Prop} [h1:BP a p] [h2:BP b q]:BP (a && b) (p/\q):=⟨by rw [Bool.and_eq_true,h1.ok,h2.ok]⟩
instance BP.not {a:Bool} {p:Prop} [h1:BP a p]:BP (!a) (¬ p):=⟨by rw [Bool.not_eq_true',<- h1.ok];simp⟩
instance BP.eqI {x y:Int}:BP (x == y) (x=y):=⟨by simp⟩
instance BP.neI {x y:Int}:BP (x != y) (x≠y):=⟨by simp⟩
theorem zel {s t:ByteArray}:ByteArray.toList s=ByteArray.toList t↔s=t:=by
 refine ⟨λh=>?_,λh=>by rw [h]⟩;have h2:(s.data == t.data)=true:=(beq_toListBytes s t).trans (beq_iff_eq.2 h);cases s;cases t;exact congrArg ByteArray.mk (eq_of_beq h2)
instance BP.eqS {s t:ByteArray}:BP (ByteArray.toList s == ByteArray.toList t) (s=t):=⟨by rw [beq_iff_eq,zel]⟩
instance BP.nilA {α:Type} {o:Option α}:BP (Option.isNone o) (o=none):=⟨by simp⟩
instance BP.tru:BP true True:=⟨by simp⟩
instance BP.fls:BP false False:=⟨by simp⟩
class IsP (p:Pr) (v:Value) (x:outParam p.D):Prop where
 ok:v=p.mk x
instance IsP.int {k:IntKind} {n:Int}:IsP (.int k) (.int k n) n:=⟨rfl⟩
instance IsP.bool {b:Bool}:IsP .bool (.bool b) b:=⟨rfl⟩
instance IsP.str {s:ByteArray}:IsP .str (.string s) s:=⟨rfl⟩
instance IsP.ptr {o:Option Addr}:IsP .ptr (.pointer o) o:=⟨rfl⟩
instance IsP.adr {a:Addr}:IsP .adr (.pointer (some a)) a:=⟨rfl⟩
instance (priority:=low) IsP.slc {a:Option Addr} {l c:Nat}:IsP .slc (.slice a l c) ⟨a,l,c⟩:=⟨rfl⟩
instance IsP.slv {x:Sl}:IsP .slc (.slice x.a x.len x.cap) x:=⟨rfl⟩
instance IsP.map {o:Option Nat}:IsP .map (.map o) o:=⟨rfl⟩
instance IsP.any {v:Value}:IsP .any v v:=⟨rfl⟩
class IsHL (ps:List Pr) (vs:List Value) (x:outParam (HL ps)):Prop where
 ok:vs=HL.vals ps x
instance IsHL.nil:IsHL [] [] ():=⟨rfl⟩
instance IsHL.cons {p:Pr} {ps:List Pr} {v:Value} {vs:List Value} {x:p.D} {y:HL ps} [h1:IsP p v x] [h2:IsHL ps vs y]:IsHL (p::ps) (v::vs) (x,y) :=
 ⟨by rw [h1.ok,h2.ok]⟩
class IsV (ss:List Sh1) (vs:List Value) (x:outParam (HL (prims ss))):Prop where
 ok:vs=z1e ss x
instance IsV.nil:IsV [] [] ():=⟨rfl⟩
instance IsV.cons {p:Pr} {ss:List Sh1} {v:Value} {vs:List Value} {x:p.D} {y:HL (prims ss)} [h1:IsP p v x] [h2:IsV ss vs y]:IsV (.one p::ss) (v::vs) ((x,y):p.D × HL (prims ss)) :=
 ⟨by rw [h1.ok,h2.ok];rfl⟩
class IsR (s:Sh) (vs:List Value) (x:outParam (HL s.prims)):Prop where
 ok:z9e vs=s.mk x
instance IsR.one {p:Pr} {v:Value} {x:p.D} [h:IsP p v x]:IsR (.one (.one p)) [v] ((x,()):p.D × Unit):=⟨by rw [h.ok];rfl⟩
instance IsR.agg {ps:List Pr} {vs:List Value} {x:HL ps} [h:IsHL ps vs x]:IsR (.one (.agg ps)) [.agg vs.toArray] x:=⟨by rw [h.ok];rfl⟩
instance IsR.nil:IsR (.tup []) [] ():=⟨rfl⟩
instance IsR.tup {s1 s2:Sh1} {l:List Sh1} {v1 v2:Value} {vs:List Value} {x:HL (prims (s1::s2::l))} [h:IsV (s1::s2::l) (v1::v2::vs) x]:IsR (.tup (s1::s2::l)) (v1::v2::vs) x :=
 ⟨by
  show Value.tuple (v1::v2::vs).toArray=.tuple (z1e (s1::s2::l) x).toArray
  rw [<- h.ok]⟩
class AddrIs (a:Addr) (b:outParam Nat) (off:outParam Nat):Prop where
 ok:a=⟨b,off,none⟩
instance AddrIs.at {b off:Nat}:AddrIs ⟨b,off,none⟩ b off:=⟨rfl⟩
instance (priority:=high) AddrIs.add0 {a:Addr} {b off:Nat} [h:AddrIs a b off]:AddrIs (a.add 0) b off:=⟨by rw [h.ok,z2d];rfl⟩
instance AddrIs.addn {a:Addr} {b n:Nat} [h:AddrIs a b 0]:AddrIs (a.add n) b n:=⟨by rw [h.ok,z2d,Nat.zero_add]⟩
class GetL (l:List Value) (n:Nat) (v:outParam Value):Prop where
 ok:l[n]? = some v
instance GetL.zero {v:Value} {l:List Value}:GetL (v::l) 0 v:=⟨rfl⟩
instance GetL.succ {u v:Value} {l:List Value} {n:Nat} [h:GetL l n v]:GetL (u::l) (n+1) v:=⟨by rw [List.getElem?_cons_succ];exact h.ok⟩
class SetL (l:List Value) (n:Nat) (v:Value) (l':outParam (List Value)):Prop where
 ok:l.set n v=l'/\n<l.length
instance SetL.zero {u v:Value} {l:List Value}:SetL (u::l) 0 v (v::l):=⟨rfl,by simp⟩
instance SetL.succ {u v:Value} {l l':List Value} {n:Nat} [h:SetL l n v l']:SetL (u::l) (n+1) v (u::l'):=⟨by rw [List.set_cons_succ,h.ok.1],by have:=h.ok.2;simp;omega⟩
class LenIs (l:List Value) (n:Nat):Prop where
 ok:l.length=n
instance LenIs.nil:LenIs [] 0:=⟨rfl⟩
instance LenIs.cons {v:Value} {l:List Value} {n:Nat} [h:LenIs l n]:LenIs (v::l) (n+1):=⟨by rw [List.length_cons,h.ok]⟩
class Cells (v:Value) (cs:outParam (List Value)):Prop where
 ok:v.cells=cs.toArray
instance Cells.agg {l:List Value}:Cells (.agg l.toArray) l:=⟨rfl⟩
instance Cells.int {k:IntKind} {n:Int}:Cells (.int k n) [.int k n]:=⟨rfl⟩
instance Cells.bool {b:Bool}:Cells (.bool b) [.bool b]:=⟨rfl⟩
instance Cells.str {s:ByteArray}:Cells (.string s) [.string s]:=⟨rfl⟩
instance Cells.ptr {o:Option Addr}:Cells (.pointer o) [.pointer o]:=⟨rfl⟩
instance Cells.slc {a:Option Addr} {l c:Nat}:Cells (.slice a l c) [.slice a l c]:=⟨rfl⟩
instance Cells.map {o:Option Nat}:Cells (.map o) [.map o]:=⟨rfl⟩
class Ones (vs:List Value):Prop where
 ok:∀ u ∈ vs,u.oneCell'=true
instance Ones.nil:Ones []:=⟨by simp⟩
theorem Ones.mk' {v:Value} {vs:List Value} (h1:v.oneCell'=true) (h:Ones vs):Ones (v::vs):=⟨λu hu=>(List.mem_cons.1 hu).elim (λe=>by rw [e];exact h1) (h.ok u)⟩
instance Ones.int {k:IntKind} {n:Int} {vs:List Value} [h:Ones vs]:Ones (.int k n::vs):=.mk' rfl h
instance Ones.bool {b:Bool} {vs:List Value} [h:Ones vs]:Ones (.bool b::vs):=.mk' rfl h
instance Ones.str {s:ByteArray} {vs:List Value} [h:Ones vs]:Ones (.string s::vs):=.mk' rfl h
instance Ones.ptr {o:Option Addr} {vs:List Value} [h:Ones vs]:Ones (.pointer o::vs):=.mk' rfl h
instance Ones.slc {a:Option Addr} {l c:Nat} {vs:List Value} [h:Ones vs]:Ones (.slice a l c::vs):=.mk' rfl h
class Fo {κ σ : Type} (l:List HP) (pred : κ -> σ -> HP) (key : κ) (st:outParam σ) (r:outParam (List HP)):Prop where
 perm:l.Perm (pred key st::r)
instance Fo.head {κ σ : Type} {l:List HP} {pred : κ -> σ -> HP} {key : κ} {st : σ}:Fo (pred key st::l) pred key st l:=⟨.refl _⟩
instance (priority:=low) Fo.tail {κ σ : Type} {x:HP} {l r:List HP} {pred : κ -> σ -> HP} {key : κ} {st : σ} [h:Fo l pred key st r]:Fo (x::l) pred key st (x::r) :=
 ⟨(List.Perm.cons x h.perm).trans (.swap _ _ _)⟩
class Sub (l l':List HP):Prop where
 sub:∀ p,z88 l p->z88 l' p
instance (priority:=high) Sub.refl {l:List HP}:Sub l l:=⟨λ_ h=>h⟩
instance Sub.cons {l r l':List HP} {H:HP} [h1:Foc l H r] [h2:Sub r l']:Sub l (H::l'):=⟨λp h=>by
 obtain ⟨p1,p2,a,b,hd,hH,hr⟩:=zc5 h1.perm h
 exact ⟨p1,p2,a,b,hd,hH,h2.sub _ hr⟩⟩
instance (priority:=low) Sub.drop {x:HP} {l l':List HP} [h:Sub l l']:Sub (x::l) l':=⟨λp hs=>by
 obtain ⟨p1,p2,a,b,hd,hH,hr⟩:=hs
 exact h.sub _ (zbf b hr)⟩
theorem Sat.sub {w:World} {l l':List HP} (hs:Sat w l) [h:Sub l l']:Sat w l':=h.sub _ hs
class FocR (l:List HP) (x:Sl) (sz:outParam Nat) (cs:outParam (List Value)):Prop where
 rd:∀ w,Sat w l->Rd w sz x cs
instance FocR.head {T:TypeId} {x:Sl} {sz:Nat} {cs:List Value} {l:List HP}:FocR (slc T sz x cs::l) x sz cs:=⟨λ_ h=>h.rd⟩
instance (priority:=low) FocR.tail {H:HP} {x:Sl} {sz:Nat} {cs:List Value} {l:List HP} [h:FocR l x sz cs]:FocR (H::l) x sz cs:=⟨λw hs=>h.rd w hs.tail⟩
class Enc1 {α:Type} (enc:α->List Value) (p:Pr) (dec:outParam (α->p.D)):Prop where
 ok:∀ y,enc y=[p.mk (dec y)]
class EncA {α:Type} (enc:α->List Value) (ps:List Pr) (dec:outParam (α->HL ps)):Prop where
 ok:∀ y,enc y=HL.vals ps (dec y)
class EncN {α:Type} (enc:α->List Value) (sz:outParam Nat):Prop where
 len:∀ y,(enc y).length=sz
 pos:0<sz
 one:∀ y,∀ u ∈ enc y,u.oneCell'=true
def encI (n:Int):List Value:=[.int .i64 n]
def z2m (s:ByteArray):List Value:=[.string s]
instance:Enc1 encI (.int .i64) (λn=>n):=⟨λ_=>rfl⟩
instance:Enc1 z2m .str (λn=>n):=⟨λ_=>rfl⟩
instance:EncN encI 1:=⟨λ_=>rfl,by decide,by simp [encI,Value.oneCell']⟩
instance:EncN z2m 1:=⟨λ_=>rfl,by decide,by simp [z2m,Value.oneCell']⟩
theorem z05z {x y:Int} (h:x=y:=by omega) (h0 : -9223372036854775808<=x/\x<9223372036854775808:=by omega):IntKind.wrap .i64 x=y:=by rw [w64 h0.1 h0.2,h]
theorem wu8 {x:Int} (h0:0<=x) (h1:x<256):IntKind.wrap .u8 x=x:=by simp [IntKind.wrap,IntKind.bits,IntKind.signed];omega
theorem zl0 {x:Int} (h0:0<=x) (h1:x<18446744073709551616):IntKind.wrap .u64 x=x:=by simp [IntKind.wrap,IntKind.bits,IntKind.signed];omega
class AppU {α:Type} (k:α->Prog) (x:α) (p:outParam Prog):Prop where
 ok:k x=p
instance AppU.u0 {p:Prog} {x:Unit}:AppU (u0 p) x p:=⟨rfl⟩
instance AppU.u1 {α:Type} {f:α->Prog} {a:α}:AppU (u1 f) (a,()) (f a):=⟨rfl⟩
instance AppU.u2 {α β:Type} {f:α->β->Prog} {a:α} {b:β}:AppU (u2 f) (a,b,()) (f a b):=⟨rfl⟩
instance AppU.u3 {α β γ:Type} {f:α->β->γ->Prog} {a:α} {b:β} {c:γ}:AppU (u3 f) (a,b,c,()) (f a b c):=⟨rfl⟩
instance AppU.u4 {α β γ δ:Type} {f:α->β->γ->δ->Prog} {a:α} {b:β} {c:γ} {d:δ}:AppU (u4 f) (a,b,c,d,()) (f a b c d):=⟨rfl⟩
instance AppU.u5 {α β γ δ ε:Type} {f:α->β->γ->δ->ε->Prog} {a:α} {b:β} {c:γ} {d:δ} {e:ε}:AppU (u5 f) (a,b,c,d,e,()) (f a b c d e):=⟨rfl⟩
instance AppU.u7 {α β γ δ ε ζ η:Type} {f:α->β->γ->δ->ε->ζ->η->Prog} {a:α} {b:β} {c:γ} {d:δ} {e:ε} {z:ζ} {y:η}:AppU (u7 f) (a,b,c,d,e,z,y,()) (f a b c d e z y):=⟨rfl⟩
instance AppU.u9 {A0 A1 A2 A3 A4 A5 A6 A7 A8:Type} {f:A0->A1->A2->A3->A4->A5->A6->A7->A8->Prog} {a0:A0} {a1:A1} {a2:A2} {a3:A3} {a4:A4} {a5:A5} {a6:A6} {a7:A7} {a8:A8}:AppU (u9 f) (a0,a1,a2,a3,a4,a5,a6,a7,a8,()) (f a0 a1 a2 a3 a4 a5 a6 a7 a8):=⟨rfl⟩
instance AppU.u11 {A0 A1 A2 A3 A4 A5 A6 A7 A8 A9 A10:Type} {f:A0->A1->A2->A3->A4->A5->A6->A7->A8->A9->A10->Prog} {a0:A0} {a1:A1} {a2:A2} {a3:A3} {a4:A4} {a5:A5} {a6:A6} {a7:A7} {a8:A8} {a9:A9} {a10:A10}:AppU (u11 f) (a0,a1,a2,a3,a4,a5,a6,a7,a8,a9,a10,()) (f a0 a1 a2 a3 a4 a5 a6 a7 a8 a9 a10):=⟨rfl⟩
class App {α:Type} (k:α->Prog) (x:α) (p:outParam Prog):Prop where
 ok:k x=p
instance (priority:=low) App.any {α:Type} {k:α->Prog} {x:α}:App k x (k x):=⟨rfl⟩
instance App.ofU {α:Type} {k:α->Prog} {x:α} {p:Prog} [h:AppU k x p]:App k x p:=⟨h.ok⟩
section
variable {P:Program} {w:World} {l r:List HP} {Q:Post} {S:World->Prop} {b off:Nat} {T T':TypeId} {g:Prop}
theorem zh {α:Type} {k:α->Prog} {x:α} {p:Prog} [h:AppU k x p] (hp:p.wp P S w Q):(k x).wp P S w Q:=by rw [h.ok];exact hp
theorem zi {c:Bool} {c':Prop} [h:BP c c'] {p q:Prog} (h1:c'->p.wp P S w Q) (h0:¬ c'->q.wp P S w Q):(Prog.ite c p q).wp P S w Q :=
 ⟨λhc=>h1 (h.ok.1 hc),λhc=>h0 λhp=>by rw [h.ok.2 hp] at hc;cases hc⟩
theorem z18 {c:Bool} {c':Prop} [h:BP c c'] {p q:Prog} (h1:p.wp P S w Q) (hc:c':=by first|trivial|assumption|omega|(simp;done)):(Prog.ite c p q).wp P S w Q :=
 zw (h.ok.2 hc) h1
theorem z06    {c : Bool} {c' : Prop} [h : BP c c'] {p q : Prog} (h1 : q.wp P S w Q) (hc : ¬ c' := by first | trivial | assumption | omega | (simp; done)) : (Prog.ite c p q).wp P S w Q :=
  z07      (by cases c; · rfl
               · exact absurd (h.ok.1 rfl) hc) h1
theorem zt {k:Prog} (hs:Sat w l) (h:∀ w',Sat w' l->k.wp P S w' Q):(Prog.tick k).wp P S w Q:=zgb λw' hw=>h w' (hs.heap hw)
theorem z1i {x:Int} {k:Int->Prog} (h:(k x).wp P S w Q) (h0 : -9223372036854775808<=x/\x<9223372036854775808:=by omega):(Prog.lt (.int .i64) (IntKind.wrap .i64 x) k).wp P S w Q:=by
 show (k (IntKind.wrap .i64 x)).wp P S w Q;rw [w64 h0.1 h0.2];exact h
theorem z27 {k':IntKind} {x y:Int} {k:Int->Prog} (h:(k y).wp P S w Q) (hxy:x=y:=by first|exact rfl|((try simp (disch:=omega) only [w64,wu8,zl0]);omega)):(Prog.lt (.int k') x k).wp P S w Q:=by subst hxy;exact h
theorem zf {a:Addr} {f:Addr->Prog} (h:(f a).wp P S w Q):(Prog.ex [.adr] (c1 λx=>some a=some x) (u1 f)).wp P S w Q:=⟨(a,()),rfl,h⟩
theorem z04 {a:Addr} {f:Addr->Prog} (h:(f a).wp P S w Q):(Prog.ex [.adr] (c1 λx=>g->some a=some x) (u1 f)).wp P S w Q:=⟨(a,()),λ_=>rfl,h⟩
theorem zg {e:Nat} {ss:List Sh1} {vs:List Value} {x:HL (prims ss)} {M:HL (prims ss)->World->Prop} [h:IsV ss vs x] (hm:M x w) :
  (Prog.done e vs).wp P S w (Q.catch e λvs w'=>∃ x,vs=z1e ss x/\M x w'):=⟨λ_=>⟨x,h.ok,hm⟩,λh'=>absurd rfl h'⟩
theorem z5a {e:Nat} {ss:List Sh1} {vs:List Value} {x:HL (prims ss)} {k:HL (prims ss)->Prog} {p:Prog} {Q':Post} [h:IsV ss vs x] [ha:App k x p] (hp:p.wp P S w Q') :
  (Prog.done e vs).wp P S w (Q.catch e λvs w'=>∃ x,vs=z1e ss x/\(k x).wp P S w' Q'):=⟨λ_=>⟨x,h.ok,by rw [ha.ok];exact hp⟩,λh'=>absurd rfl h'⟩
theorem z0x {e:Nat} {ss:List Sh1} {vs:List Value} {x:HL (prims ss)} {n:Nat} {I:Nat->HL (prims ss)->World->Prop} [h:IsV ss vs x] (m:Nat) (hm:I m x w) (hlt:m<n:=by omega) :
  (Prog.done e vs).wp P S w (Q.catch e λvs w'=>∃ x' m,m<n/\vs=z1e ss x'/\I m x' w'):=⟨λ_=>⟨x,m,hlt,h.ok,hm⟩,λh'=>absurd rfl h'⟩
theorem zd {s:Sh} {vs:List Value} {x:HL s.prims} {k:HL s.prims->Prog} {p:Prog} [h:IsR s vs x] [ha:App k x p] {Z:Prop} (hk:p.wp P S w Q) (hS:Z:=by trivial):∃ x,z9e vs=s.mk x/\Z/\(k x).wp P S w Q:=⟨x,h.ok,hS,by rw [ha.ok];exact hk⟩
theorem z09 {a:Addr} {vs:List Value} {fr:Nat × Nat} {v:Value} {p:Pr} {x:p.D} (hs:Sat w l) [ha:AddrIs a b off] [hb:FocB l b (.cells vs.toArray T' fr) r] [hT:One P T] [hg:GetL vs off v] [hp:IsP p v x] :
  (ld T a).run P w=.ok ((Sh.one (.one p)).mk (x,())) w:=by
 have:=zcy (P:=P) (off:=off) (v:=v) hT.ok.1 (hs.focB b).get (by simpa using hg.ok);rw [hp.ok] at this;rw [ha.ok];cases p <;> exact this
theorem z8 {a:Addr} {vs:List Value} {fr:Nat × Nat} {v:Value} {p:Pr} {x:p.D} {f:p.D->Prog} (hs:Sat w l) [ha:AddrIs a b off] [hb:FocB l b (.cells vs.toArray T' fr) r] [hT:One P T] [hg:GetL vs off v] [hp:IsP p v x]
  (h:(f x).wp P S w Q):(Prog.read g (ld T a) (.one (.one p)) (u1 f)).wp P S w Q :=
 ⟨(x,()),λ_=>z09 (T:=T) hs,h⟩
theorem z0y {a:Addr} {vs:List Value} {fr:Nat × Nat} {v:Value} {p:Pr} {x:p.D} {f:p.D->Prog} (hs:Sat w l) [ha:AddrIs a b off] [hb:FocB l b (.cells vs.toArray T' fr) r] [hT:One P T] [hg:GetL vs off v] [hp:IsP p v x]
  (h:(f x).wp P (λw'=>S w'/\(g->(ld T a).run P w'=.ok ((Sh.one (.one p)).mk (x,())) w')) w Q):(Prog.hold g (ld T a) (.one (.one p)) (u1 f)).wp P S w Q :=
 ⟨(x,()),λ_=>z09 (T:=T) hs,h⟩
theorem z0g {a:Addr} {vs:List Value} {fr:Nat × Nat} {ps:List Pr} {x:HL ps} {n:Nat} (hs:Sat w l) [ha:AddrIs a b 0] [hb:FocB l b (.cells vs.toArray T' fr) r] [hT:Agg P T n] [hx:IsHL ps vs x] [hn:LenIs vs n] :
  (ld T a).run P w=.ok ((Sh.one (.agg ps)).mk x) w:=by
 have hn:=hn.ok;rw [ha.ok,zv0 (P:=P) hT.ok.1 hT.ok.2 (hs.focB b).get (by simp [hn])];simp only [Nat.zero_add,<- hn]
 congr 2
 rw [<- hx.ok];simp
theorem zl {a:Addr} {vs:List Value} {fr:Nat × Nat} {ps:List Pr} {x:HL ps} {k:HL ps->Prog} {n:Nat} (hs:Sat w l) [ha:AddrIs a b 0] [hb:FocB l b (.cells vs.toArray T' fr) r] [hT:Agg P T n] [hx:IsHL ps vs x] [hn:LenIs vs n] {p:Prog} [hA:App k x p]
  (h:p.wp P S w Q):(Prog.read g (ld T a) (.one (.agg ps)) k).wp P S w Q :=
 ⟨x,λ_=>z0g (T:=T) hs,by rw [hA.ok];exact h⟩
theorem zjq {a:Addr} {vs:List Value} {fr:Nat × Nat} {ps:List Pr} {x:HL ps} {k:HL ps->Prog} {n:Nat} (hs:Sat w l) [ha:AddrIs a b 0] [hb:FocB l b (.cells vs.toArray T' fr) r] [hT:Agg P T n] [hx:IsHL ps vs x] [hn:LenIs vs n] {p:Prog} [hA:App k x p]
  (h:p.wp P (λw'=>S w'/\(g->(ld T a).run P w'=.ok ((Sh.one (.agg ps)).mk x) w')) w Q):(Prog.hold g (ld T a) (.one (.agg ps)) k).wp P S w Q :=
 ⟨x,λ_=>z0g (T:=T) hs,by rw [hA.ok];exact h⟩
theorem zy {a:Addr} {vs vs':List Value} {v:Value} {k:Prog} (hs:Sat w l) [ha:AddrIs a b off] [hb:FocB l b (.cells vs.toArray T' (0,0)) r] [hT:One P T] [hg:SetL vs off v vs'] [hv:Cells v [v]] [ho:Ones [v]]
  (h:∀ w',Sat w' (pt b (.cells vs'.toArray T')::r)->k.wp P S w' Q) (hS:∀ w',Sat w' (pt b (.cells vs'.toArray T')::r)->S w':=by
   first|exact λ_ _=>trivial|(intro w' hs;repeat' (first|exact trivial|exact z09 hs|exact z0g hs|refine ⟨?_,λ_=>?_⟩))):(Prog.actU (st T a v) k).wp P S w Q:=by
 have hv':v.cells=#[v]:=hv.ok;have:=zjc (P:=P) (v:=v) (off:=off) hT.ok.2 (hs.focB b).get (by have:=hg.ok.2;simp;omega) (by rw [hv'];rfl) (by rw [hv'];simpa using ho.ok) (z2g _ _);rw [hv'] at this;have hs':=(hs.focB b).set (o':=.cells vs'.toArray T');rw [<- hg.ok.1] at *
 have e:putCells vs.toArray off [v]=(vs.set off v).toArray:=by simp [putCells]
 rw [ha.ok];rw [show (#[v]:Array Value).toList=[v] from rfl,e] at this;exact ⟨_,this,hS _ hs',h _ hs'⟩
theorem zv {a:Addr} {vs vs':List Value} {k:Prog} {n:Nat} (hs:Sat w l) [ha:AddrIs a b 0] [hb:FocB l b (.cells vs.toArray T' (0,0)) r] [hT:Agg P T n] [ho:Ones vs'] [hn:LenIs vs n] [hn':LenIs vs' n]
  (h:∀ w',Sat w' (pt b (.cells vs'.toArray T')::r)->k.wp P S w' Q) (hS:∀ w',Sat w' (pt b (.cells vs'.toArray T')::r)->S w':=by
   first|exact λ_ _=>trivial|(intro w' hs;repeat' (first|exact trivial|exact z09 hs|exact z0g hs|refine ⟨?_,λ_=>?_⟩))):(Prog.actU (st T a (.agg vs'.toArray)) k).wp P S w Q:=by
 have hn:=hn.ok;have hn':=hn'.ok;have:=zjc (P:=P) (v:=.agg vs'.toArray) (off:=0) hT.ok.2 (hs.focB b).get (by simp [hn]) (by show vs'.toArray.size=n;simpa using hn') (by show ∀ x ∈ vs'.toArray.toList,_;simpa using ho.ok) (z2g _ _);have e:putCells vs.toArray 0 (Value.cells (.agg vs'.toArray)).toList=vs'.toArray:=zfi (vs:=vs'.toArray) (by simp [hn,hn']);rw [e] at this;have hs':=(hs.focB b).set (o':=.cells vs'.toArray T');rw [ha.ok];exact ⟨_,this,hS _ hs',h _ hs'⟩
theorem zu {z:Value} {cs:List Value} {k:Addr->Prog} (hs:Sat w l) [hz:Zer P T z] [hc:Cells z cs]
  (h:∀ b w',Sat w' (pt b (.cells cs.toArray T)::l)->(k ⟨b,0,none⟩).wp P S w' Q) (hS:∀ b w',Sat w' (pt b (.cells cs.toArray T)::l)->S w':=by
   first|exact λ_ _ _=>trivial|(intro b w' hs;repeat' (first|exact trivial|exact z09 hs|exact z0g hs|refine ⟨?_,λ_=>?_⟩))):(Prog.act (new T) sA (u1 k)).wp P S w Q :=
 z0bn hs λb w' hs=>by rw [hc.ok] at hs;exact ⟨hS _ _ hs,h _ _ hs⟩
theorem zr {v:Value} {cs:List Value} {k:Addr->Prog} (hs:Sat w l) [hc:Cells v cs]
  (h:∀ b w',Sat w' (pt b (.cells cs.toArray T)::l)->(k ⟨b,0,none⟩).wp P S w' Q) (hS:∀ b w',Sat w' (pt b (.cells cs.toArray T)::l)->S w':=by
   first|exact λ_ _ _=>trivial|(intro b w' hs;repeat' (first|exact trivial|exact z09 hs|exact z0g hs|refine ⟨?_,λ_=>?_⟩))):(Prog.act (Instr.box T v) sA (u1 k)).wp P S w Q:=by
 have hp:=hs.push (o:=.cells v.cells T) (w':={ w with heap:=w.heap.push (.cells v.cells T) }) rfl;rw [hc.ok] at hp;refine ⟨(⟨w.heap.size,0,none⟩,()),{ w with heap:=w.heap.push (.cells v.cells T) },by simp only [Instr.box,Sem.run_bind,run_newVar,Result.andThen_ok,Sem.run_pure],?_,?_⟩
 ·rw [hc.ok];exact hS _ _ hp
 ·rw [hc.ok];exact h _ _ hp
theorem z1g {α:Type} {enc:α->List Value} {xs:List α} {sz:Nat} {i i':Int} {x:Sl} {g':Prop} {p:Pr} {dec:α->p.D} {f:p.D->Prog} (hs:Sat w l) [hf:FocR l x sz (xs.flatMap enc)] [hE:EncN enc sz] [hD:Enc1 enc p dec] [hT:One P T]
  (n:Nat) (hn:n<xs.length) (h:(f (dec xs[n])).wp P S w Q) (hi:i=n:=by first|rfl|omega) (hi':i'=i:=by rfl) :
  (Prog.ex [.adr] (c1 λa=>0<=i/\i<((x.len:Nat):Int)/\x.a=some a) (u1 λa=>.read g' (ld T (Addr.add a (Int.toNat i'*sz))) (.one (.one p)) (u1 f))).wp P S w Q:=by
 subst hi hi';have hr:=hf.rd w hs;have hl:x.len=xs.length:=hr.len hE.len hE.pos;obtain ⟨a,ha,he⟩:=hr.el hE.len (by omega);refine ⟨(a,()),⟨by omega,by omega,ha⟩,(dec xs[n],()),λ_=>?_,h⟩;have:=he n hn;rw [hD.ok] at this;have h2:=At.ld1 (P:=P) (T:=T) this rfl;cases p <;> exact h2
theorem z5b {α:Type} {enc:α->List Value} {xs:List α} {sz m:Nat} {i i':Int} {x:Sl} {g':Prop} {ps:List Pr} {dec:α->HL ps} {k:HL ps->Prog} (hs:Sat w l) [hf:FocR l x sz (xs.flatMap enc)] [hE:EncN enc sz] [hD:EncA enc ps dec] [hT:Agg P T m]
  (n:Nat) (hn:n<xs.length) {p:Prog} [hA:App k (dec xs[n]) p] (h:p.wp P S w Q) (hi:i=n:=by first|rfl|omega) (hi':i'=i:=by rfl) (hm:Nat.beq sz m=true:=by rfl) :
  (Prog.ex [.adr] (c1 λa=>0<=i/\i<((x.len:Nat):Int)/\x.a=some a) (u1 λa=>.read g' (ld T (Addr.add a (Int.toNat i'*sz))) (.one (.agg ps)) k)).wp P S w Q:=by
 have hm:=Nat.eq_of_beq_eq_true hm;subst hi hi' hm;have hr:=hf.rd w hs;have hl:x.len=xs.length:=hr.len hE.len hE.pos;obtain ⟨a,ha,he⟩:=hr.el hE.len (by omega);refine ⟨(a,()),⟨by omega,by omega,ha⟩,dec xs[n],λ_=>?_,by rw [hA.ok];exact h⟩;have:=he n hn;have h2:=At.ldA (P:=P) (T:=T) this (hE.len _);rw [hD.ok] at h2;exact h2
theorem z66 {α:Type} {enc:α->List Value} {xs:List α} {t ty el:TypeId} {sz bytes:Nat} {x:Sl} {v:Value} {cs:List Value} {k:Sl->Prog} (hs:Sat w l) [ht:SlT P t el sz bytes] [hf:FocS l x el sz (xs.flatMap enc) r] [hE:EncN enc sz] [hv:Cells v cs]
  (y:α) (h:∀ z w',Sat w' (slc el sz z ((xs++[y]).flatMap enc)::r)->(k z).wp P S w' Q) (hy:cs=enc y:=by rfl) (hb:(xs.length+1)*bytes<=140737488355328/\xs.length+1<=9223372036854775807:=by omega)
  (hS:∀ w',S w':=by exact λ_=>trivial) (hz:(!Nat.beq sz 0 && Nat.ble sz 16777216)=true:=by rfl) :
  (Prog.act (Instr.buildSlice t 1 #[(0,v)]) sL (u1 λy=>.act (app t t ty x.v y.v) sL (u1 k))).wp P S w Q:=by
 have h1:v.cells=(enc y).toArray:=by rw [hv.ok,hy]
 have hlen:=hE.len y;rw [Bool.and_eq_true,Bool.not_eq_true'] at hz;exact z0dq (r:=r) (sz:=sz) (enc:=enc) (y:=y) hE.len hE.pos hs (bs1 h1 hz.1 hz.2 (by simp [hlen])) (by simp) (hE.one y) hb.1 hb.2 (λz w' hs'=>⟨hS _,h z w' hs'⟩) λw' _=>hS w'
end
class KeyT (P:Program) (kt:TypeId) {K:Type} (ek:K->Value):Prop where
 inj:∀ a b,ek a=ek b->a=b
 same:∀ a,Instr.sameBits 10000 (ek a) (ek a)=true
 check:∀ (b:Bool) (k:K) (w:World),(Instr.checkKey b 10000 kt (ek k)).run P w=.ok () w
 find:∀ (es:List MapEntry) (k:K) (w:World),(∀ e ∈ es,∃ k',e.key=ek k') ->
  (∃ (j:Nat) (e:MapEntry),es[j]? = some e/\e.key=ek k/\(Instr.findKey kt (ek k) es).run P w=.ok (some (j,e.val)) w) \/
  ((∀ e ∈ es,e.key≠ek k)/\(Instr.findKey kt (ek k) es).run P w=.ok none w)
theorem zeq {K:Type} {ek:K->Value} {kd:TypeDesc} [DecidableEq K] (hn:∀ a b,Instr.sameNow kd (ek a) (ek b)=some (decide (a=b))) (hinj:∀ a b,ek a=ek b->a=b) (k:K) :
  ∀ (es:List MapEntry) (i:Nat),(∀ e ∈ es,∃ k',e.key=ek k') ->
  (∃ (j:Nat) (e:MapEntry),es[j]? = some e/\e.key=ek k/\Instr.findNow kd (ek k) es i=some (some (i+j,e.val)))\/((∀ e ∈ es,e.key≠ek k)/\Instr.findNow kd (ek k) es i=some none)
 | [],i,_=>.inr ⟨by simp,rfl⟩
 | e::es,i,h=>by
  obtain ⟨k',hk'⟩:=h e (List.mem_cons_self ..)
  by_cases hk:k=k'
  ·subst hk;refine .inl ⟨0,e,rfl,hk',?_⟩;rw [Instr.findNow,hk',hn,decide_eq_true rfl];rfl
  ·have hstep:Instr.findNow kd (ek k) (e::es) i=Instr.findNow kd (ek k) es (i+1):=by rw [Instr.findNow,hk',hn,decide_eq_false hk]
   rcases zeq hn hinj k es (i+1) (λe he=>h e (List.mem_cons_of_mem _ he)) with ⟨j,e',h1,h2,h3⟩|⟨h1,h2⟩
   ·exact .inl ⟨j+1,e',h1,h2,by rw [hstep,h3,Nat.add_assoc,Nat.add_comm 1 j]⟩
   ·refine .inr ⟨λe' he'=>?_,by rw [hstep,h2]⟩
    rcases List.mem_cons.1 he' with rfl|he'
    ·rw [hk'];exact λe=>hk (hinj _ _ e).symm
    ·exact h1 e' he'
theorem zgq {P:Program} {kt:TypeId} {kd:TypeDesc} (hu:P.underlying kt=some kd) {k:Value} {es:List MapEntry} {r:Option (Nat × Value)} (h:Instr.findNow kd k es 0=some r) (w:World):(Instr.findKey kt k es).run P w=.ok r w:=by
 simp only [Instr.findKey,Sem.run_bind,run_underlying' hu,Result.andThen_ok,h,Sem.run_pure]
theorem KeyT.ofNow {P:Program} {kt:TypeId} {kd:TypeDesc} {K:Type} {ek:K->Value} [DecidableEq K] (hu:P.underlying kt=some kd) (hn:∀ a b,Instr.sameNow kd (ek a) (ek b)=some (decide (a=b))) (hinj:∀ a b,ek a=ek b->a=b)
  (hs:∀ a,Instr.sameBits 10000 (ek a) (ek a)=true) (hc:∀ (b:Bool) (k:K) (w:World),(Instr.checkKey b 10000 kt (ek k)).run P w=.ok () w):KeyT P kt ek where
 inj:=hinj
 same:=hs
 check:=hc
 find es k w h:=by
  rcases zeq hn hinj k es 0 h with ⟨j,e,h1,h2,h3⟩|⟨h1,h2⟩
  ·exact .inl ⟨j,e,h1,h2,by rw [zgq hu h3,Nat.zero_add]⟩
  ·exact .inr ⟨h1,zgq hu h2 w⟩
abbrev ekS (s:ByteArray):Value:=.string s
abbrev ekI (n:Int):Value:=.int .i64 n
theorem zl8 (a b:ByteArray):(a == b)=decide (a=b):=by
 by_cases h:a=b
 ·subst h;rw [decide_eq_true rfl];exact beq_self_eq_true a.data
 ·rw [decide_eq_false h]
  cases hb:(a == b) with
  | false=>rfl
  | true =>
   have hb:(a.data == b.data)=true:=hb;exact absurd (by cases a;cases b;exact congrArg ByteArray.mk (eq_of_beq hb)) h
theorem z03x {P:Program} {kt:TypeId} (hu:P.underlying kt=some .string):KeyT P kt ekS :=
 KeyT.ofNow hu (λa b=>by simp only [Instr.sameNow,zl8]) (λa b h=>by cases h;rfl) (λa=>by show (a == a)=true;rw [zl8,decide_eq_true rfl])
  λb k w=>by
   show (Instr.checkKey b (9999+1) kt _).run P w=_;rw [Instr.checkKey];simp only [Sem.run_bind,run_underlying' hu,Result.andThen_ok];rfl
theorem zol {P:Program} {kt:TypeId} (hu:P.underlying kt=some (.int .i64)):KeyT P kt ekI :=
 KeyT.ofNow hu (λa b=>by simp only [Instr.sameNow,if_pos];congr 1) (λa b h=>by cases h;rfl) (λa=>by show ((IntKind.i64 == IntKind.i64) && (a == a))=true;simp)
  λb k w=>by
   show (Instr.checkKey b (9999+1) kt _).run P w=_;rw [Instr.checkKey];simp only [Sem.run_bind,run_underlying' hu,Result.andThen_ok];rfl
class MapT (P:Program) (T:TypeId) (kt:outParam TypeId) (z:outParam Value):Prop where
 ok:∃ et,P.underlying T=some (.map kt et)/\zbq P et=some z
section
variable {K V:Type}
def MOk (ek:K->Value) (ev:V->Value) (E:Array MapEntry) (c:Nat) (es:List (K × V)):Prop :=
 ∃ xs:List (K × V),xs.Perm es/\(xs.map Prod.fst).Nodup/\E.toList.map (λe=>(e.key,e.val))=xs.map (λx=>(ek x.1,ev x.2)) /\
  E.toList.Pairwise (λa b=>a.born<b.born)/\∀ e ∈ E.toList,e.born<c
def z03 (ek:K->Value) (ev:V->Value) (m:Nat) (es:List (K × V)):HP:=HP.ex λM:Array MapEntry × Nat=>HP.and (MOk ek ev M.1 M.2 es) (pt m (.map M.1 M.2))
variable {ek:K->Value} {ev:V->Value} {m:Nat} {es es':List (K × V)} {P:Program} {w:World} {l r:List HP} {Q:Post} {S:World->Prop} {T kt:TypeId} {z:Value} {g:Prop}
theorem Sat.mapOpen (h:Sat w (z03 ek ev m es::l)):∃ E c,MOk ek ev E c es/\Sat w (pt m (.map E c)::l):=by
 obtain ⟨⟨E,c⟩,h⟩:=h.ex;exact ⟨E,c,h.and⟩
theorem Sat.mapShut {E:Array MapEntry} {c:Nat} (hm:MOk ek ev E c es) (h:Sat w (pt m (.map E c)::l)):Sat w (z03 ek ev m es::l):=.ex_mk (E,c) (.and_mk hm h)
theorem MOk.perm {E:Array MapEntry} {c:Nat} (h:MOk ek ev E c es) (hp:es.Perm es'):MOk ek ev E c es':=by
 obtain ⟨xs,h1,h2⟩:=h;exact ⟨xs,h1.trans hp,h2⟩
theorem Sat.mapPerm (h:Sat w (z03 ek ev m es::l)) (hp:es.Perm es'):Sat w (z03 ek ev m es'::l):=by
 obtain ⟨E,c,hm,h⟩:=h.mapOpen;exact h.mapShut (hm.perm hp)
theorem MOk.nodup {E:Array MapEntry} {c:Nat} (h:MOk ek ev E c es):(es.map Prod.fst).Nodup:=by
 obtain ⟨xs,h1,h2,-⟩:=h;exact (h1.map _).nodup_iff.1 h2
theorem Sat.mapNodup (h:Sat w (z03 ek ev m es::l)):(es.map Prod.fst).Nodup:=by
 obtain ⟨E,c,hm,-⟩:=h.mapOpen;exact hm.nodup
theorem MOk.size {E:Array MapEntry} {c:Nat} (h:MOk ek ev E c es):E.size=es.length:=by
 obtain ⟨xs,h1,h2,h3,-⟩:=h;rw [<- h1.length_eq,<- Array.length_toList];simpa using congrArg List.length h3
class FoM (l:List HP) (m:Nat) {K V:outParam Type} (ek:outParam (K->Value)) (ev:outParam (V->Value)) (es:outParam (List (K × V))) (r:outParam (List HP)):Prop where
 perm:l.Perm (z03 ek ev m es::r)
instance FoM.head {K V:Type} {l:List HP} {m:Nat} {ek:K->Value} {ev:V->Value} {es:List (K × V)}:FoM (z03 ek ev m es::l) m ek ev es l:=⟨.refl _⟩
instance (priority:=low) FoM.tail {K V:Type} {x:HP} {l r:List HP} {m:Nat} {ek:K->Value} {ev:V->Value} {es:List (K × V)} [h:FoM l m ek ev es r]:FoM (x::l) m ek ev es (x::r) :=
 ⟨(List.Perm.cons x h.perm).trans (.swap _ _ _)⟩
class IsK {K:Type} (ek:K->Value) (kv:Value) (k:outParam K):Prop where
 ok:kv=ek k
instance IsK.str {s:ByteArray}:IsK ekS (.string s) s:=⟨rfl⟩
instance IsK.int {n:Int}:IsK ekI (.int .i64 n) n:=⟨rfl⟩
theorem z63 {E:Array MapEntry} {c:Nat} (hb:w.heap[m]? = some (.map E c)):(getObj m).run P w=.ok (.map E c) w:=by
 simp [getObj,Sem.run,hb]
theorem zah {E:Array MapEntry} {c:Nat} (hb:w.heap[m]? = some (.map E c)) (E':Array MapEntry) (c':Nat):(setObj m (.map E' c')).run P w=.ok () (z3i w m (.map E' c')):=by
 have hlt:m<w.heap.size:=(Array.getElem?_eq_some_iff.1 hb).1;simp [setObj,Sem.run,hb,z3i]
theorem MOk.find [hk:KeyT P kt ek] {E:Array MapEntry} {c:Nat} (h:MOk ek ev E c es) (k:K) (w:World) :
  (∃ (j:Nat) (e:MapEntry) (v:V),E.toList[j]? = some e/\e.key=ek k/\e.val=ev v/\(k,v) ∈ es/\(Instr.findKey kt (ek k) E.toList).run P w=.ok (some (j,ev v)) w) \/
  ((∀ v,(k,v) ∉ es)/\(∀ e ∈ E.toList,e.key≠ek k)/\(Instr.findKey kt (ek k) E.toList).run P w=.ok none w):=by
 obtain ⟨xs,h1,h2,h3,-⟩:=h
 have hkeys:∀ e ∈ E.toList,∃ k',e.key=ek k':=λe he=>by
  have:(e.key,e.val) ∈ E.toList.map (λe=>(e.key,e.val)):=List.mem_map.2 ⟨e,he,rfl⟩;rw [h3] at this;obtain ⟨x,-,hx⟩:=List.mem_map.1 this;exact ⟨x.1,(Prod.mk.inj hx).1.symm⟩
 rcases hk.find E.toList k w hkeys with ⟨j,e,hj,he,hr⟩|⟨hn,hr⟩
 ·left
  have hx:(xs.map (λx=>(ek x.1,ev x.2)))[j]? = some (e.key,e.val):=by rw [<- h3,List.getElem?_map,hj];rfl
  rw [List.getElem?_map] at hx
  cases hxj:xs[j]? with
  | none=>rw [hxj] at hx;cases hx
  | some x =>
   rw [hxj] at hx;obtain ⟨k',v⟩:=x;simp only [Option.map_some,Option.some.injEq,Prod.mk.injEq] at hx;rw [he] at hx;obtain rfl:=hk.inj _ _ hx.1;exact ⟨j,e,v,hj,he,hx.2.symm,h1.mem_iff.1 (List.mem_of_getElem? hxj),by rw [hr,hx.2]⟩
 ·right;refine ⟨λv hv=>?_,hn,hr⟩;have:(ek k,ev v) ∈ xs.map (λx=>(ek x.1,ev x.2)):=List.mem_map.2 ⟨(k,v),h1.mem_iff.2 hv,rfl⟩;rw [<- h3] at this;obtain ⟨e,he,hx⟩:=List.mem_map.1 this;exact hn e he (Prod.mk.inj hx).1
theorem zdv (ok:Bool) [hT:MapT P T kt z] [hk:KeyT P kt ek] (hs:Sat w (z03 ek ev m es::l)) (k:K) :
  (∃ v,(k,v) ∈ es/\(Instr.lookup T (.map (some m)) (ek k) ok).run P w=.ok (if ok then .tuple #[ev v,.bool true] else ev v) w) \/
  ((∀ v,(k,v) ∉ es)/\(Instr.lookup T (.map (some m)) (ek k) ok).run P w=.ok (if ok then .tuple #[z,.bool false] else z) w):=by
 obtain ⟨et,hu,hz⟩:=hT.ok;obtain ⟨E,c,hm,hs⟩:=hs.mapOpen;have hb:=hs.get
 have hzv:(zeroValue et).run P w=.ok z w:=by
  unfold zbq at hz
  cases hi:P.info? et with
  | none=>rw [hi] at hz;cases hz
  | some i=>rw [hi] at hz;simp only at hz;simp [zeroValue,typeInfo,hi,hz]
 rcases hm.find (P:=P) (kt:=kt) k w with ⟨j,e,v,-,-,-,hv,hr⟩|⟨hv,-,hr⟩
 ·refine .inl ⟨v,hv,?_⟩;simp only [Instr.lookup,Sem.run_bind,run_underlying' hu,Result.andThen_ok,z63 hb,Sem.run_pure,hk.check,hr]
 ·refine .inr ⟨hv,?_⟩;simp only [Instr.lookup,Sem.run_bind,run_underlying' hu,Result.andThen_ok,z63 hb,Sem.run_pure,hk.check,hr,hzv]
theorem z5p {p:Pr} {f:p.D->Prog} {k:K} {kv:Value} {x0:p.D} {dv:V->p.D} (hs:Sat w l) [hf:FoM l m ek ev es r] [hT:MapT P T kt z] [hk:KeyT P kt ek] [hkv:IsK ek kv k] [hp0:IsP p z x0] [hd:∀ v,IsP p (ev v) (dv v)]
  (h1:∀ v,(k,v) ∈ es->(f (dv v)).wp P S w Q) (h0:(∀ v,(k,v) ∉ es)->(f x0).wp P S w Q) :
  (Prog.read g (Instr.lookup T (.map (some m)) kv false) (.one (.one p)) (u1 f)).wp P S w Q:=by
 rw [hkv.ok]
 rcases zdv (P:=P) (T:=T) false (hs.perm hf.perm) k with ⟨v,hv,hr⟩|⟨hv,hr⟩
 ·refine ⟨(dv v,()),λ_=>?_,h1 v hv⟩;rw [(hd v).ok] at hr;cases p <;> exact hr
 ·refine ⟨(x0,()),λ_=>?_,h0 hv⟩;rw [hp0.ok] at hr;cases p <;> exact hr
theorem z02m {p:Pr} {f:p.D->Bool->Prog} {k:K} {kv:Value} {x0:p.D} {dv:V->p.D} (hs:Sat w l) [hf:FoM l m ek ev es r] [hT:MapT P T kt z] [hk:KeyT P kt ek] [hkv:IsK ek kv k] [hp0:IsP p z x0] [hd:∀ v,IsP p (ev v) (dv v)]
  (h1:∀ v,(k,v) ∈ es->(f (dv v) true).wp P S w Q) (h0:(∀ v,(k,v) ∉ es)->(f x0 false).wp P S w Q) :
  (Prog.read g (Instr.lookup T (.map (some m)) kv true) (.tup [.one p,.one .bool]) (u2 f)).wp P S w Q:=by
 rw [hkv.ok]
 rcases zdv (P:=P) (T:=T) true (hs.perm hf.perm) k with ⟨v,hv,hr⟩|⟨hv,hr⟩
 ·refine ⟨(dv v,true,()),λ_=>?_,h1 v hv⟩;rw [(hd v).ok] at hr;cases p <;> exact hr
 ·refine ⟨(x0,false,()),λ_=>?_,h0 hv⟩;rw [hp0.ok] at hr;cases p <;> exact hr
theorem zd3 {f:Int->Prog} {ty:TypeId} (hs:Sat w l) [hf:FoM l m ek ev es r] [hT:MapT P T kt z] (h:(f (es.length:Nat)).wp P S w Q) :
  (Prog.read g (Builtin.len_ #[T] ty #[.map (some m)]) (sI .i64) (u1 f)).wp P S w Q:=by
 obtain ⟨et,hu,hz⟩:=hT.ok;obtain ⟨E,c,hm,hs⟩:=(hs.perm hf.perm).mapOpen;refine ⟨(_,()),λ_=>?_,h⟩;simp only [Builtin.len_,List.getElem?_toArray,List.getElem?_cons_zero,Sem.run_bind,run_underlying' hu,Result.andThen_ok,z63 hs.get,Sem.run_pure];rw [hm.size];rfl
theorem z8a {f:Option Nat->Prog} (ek:K->Value) (ev:V->Value) (hs:Sat w l) (h:∀ m w',Sat w' (z03 ek ev m []::l)->(f (some m)).wp P S w' Q) (hS:∀ w',S w':=by exact λ_=>trivial) :
  (Prog.act (Instr.makeMap T none) sM (u1 f)).wp P S w Q:=by
 have hp:=hs.push (o:=.map #[] 0) (w':={ w with heap:=w.heap.push (.map #[] 0) }) rfl;refine ⟨(some w.heap.size,()),{ w with heap:=w.heap.push (.map #[] 0) },?_,hS _,h _ _ (hp.mapShut ⟨[],.refl _,by simp,rfl,by simp,by simp⟩)⟩;simp [Instr.makeMap,Sem.run,newObj]
theorem z7y {α:Type} {xs:List α} {j:Nat} (h:j<xs.length):xs.Perm (xs[j]::xs.eraseIdx j):=by
 rw [List.eraseIdx_eq_take_drop_succ]
 have e:xs=xs.take j++xs[j]::xs.drop (j+1):=by rw [<- List.drop_eq_getElem_cons h,List.take_append_drop]
 exact (List.Perm.of_eq e).trans List.perm_middle
theorem map_eraseIdx' {α β:Type} (f:α->β) (xs:List α) (j:Nat):(xs.map f).eraseIdx j=(xs.eraseIdx j).map f:=by
 rw [List.eraseIdx_eq_take_drop_succ,List.eraseIdx_eq_take_drop_succ,List.map_append,List.map_take,List.map_drop]
theorem zm1 {xs:List (K × V)} {k:K} {v:V} (hn:(xs.map Prod.fst).Nodup) {j:Nat} (hj:xs[j]? = some (k,v)):xs.Perm ((k,v)::xs.eraseIdx j)/\∀ v',(k,v') ∉ xs.eraseIdx j:=by
 have hlt:j<xs.length:=(List.getElem?_eq_some_iff.1 hj).1
 have hg:xs[j]=(k,v):=by rw [List.getElem?_eq_getElem hlt] at hj;exact Option.some.inj hj
 have hp:xs.Perm ((k,v)::xs.eraseIdx j):=by
  rw [<- hg];exact z7y hlt
 refine ⟨hp,λv' hv'=>?_⟩;have:=(hp.map Prod.fst).nodup_iff.1 hn;rw [List.map_cons,List.nodup_cons] at this;exact this.1 (List.mem_map.2 ⟨(k,v'),hv',rfl⟩)
theorem MOk.modify [hk:KeyT P kt ek] {E:Array MapEntry} {c j:Nat} {e:MapEntry} {k:K} {v v':V} {es0:List (K × V)} (h:MOk ek ev E c es) (hp:es.Perm ((k,v)::es0)) (hj:E.toList[j]? = some e) (he:e.key=ek k) (hv':Value) (hvv:hv'=ev v') :
  MOk ek ev (E.modify j λe=>{ e with key:=ek k,val:=hv' }) c ((k,v')::es0):=by
 subst hvv;obtain ⟨xs,h1,h2,h3,h4,h5⟩:=h
 have hx:(xs.map (λx=>(ek x.1,ev x.2)))[j]? = some (e.key,e.val):=by rw [<- h3,List.getElem?_map,hj];rfl
 rw [List.getElem?_map] at hx
 cases hxj:xs[j]? with
 | none=>rw [hxj] at hx;cases hx
 | some x =>
  rw [hxj] at hx;obtain ⟨k1,v1⟩:=x;simp only [Option.map_some,Option.some.injEq,Prod.mk.injEq] at hx;rw [he] at hx;obtain rfl:=hk.inj _ _ hx.1;obtain ⟨hs1,hs2⟩:=zm1 h2 hxj;have hlt:j<xs.length:=(List.getElem?_eq_some_iff.1 hxj).1
  have hrest:(xs.eraseIdx j).Perm es0:=by
   have hnd:(es.map Prod.fst).Nodup:=(h1.map _).nodup_iff.1 h2;have hA:=(hs1.symm.trans h1).trans hp
   have hvv:v1=v:=by
    have hin:(k1,v1) ∈ (k1,v)::es0:=hA.mem_iff.1 (List.mem_cons_self ..)
    rcases List.mem_cons.1 hin with h|h
    ·exact (Prod.mk.inj h).2
    ·have:=(hp.map Prod.fst).nodup_iff.1 hnd;rw [List.map_cons,List.nodup_cons] at this;exact absurd (List.mem_map.2 ⟨_,h,rfl⟩) this.1
   subst hvv;exact List.Perm.cons_inv hA
  have hEl:(E.modify j λe=>{ e with key:=ek k1,val:=ev v' }).toList=E.toList.modify j λe=>{ e with key:=ek k1,val:=ev v' }:=Array.toList_modify
  have hset:xs.set j (k1,v')=xs.modify j λ_=>(k1,v'):=by
   apply List.ext_getElem?;intro i;rw [List.getElem?_set,List.getElem?_modify]
   by_cases hij:j=i
   ·subst hij;simp [hlt]
   ·simp [hij]
  refine ⟨xs.set j (k1,v'),?_,?_,?_,?_,?_⟩
  ·have hlt2:j<(xs.set j (k1,v')).length:=by simpa using hlt
   refine (z7y hlt2).trans ?_;rw [List.getElem_set_self,List.eraseIdx_set_eq];exact .cons _ hrest
  ·have:(xs.set j (k1,v')).map Prod.fst=xs.map Prod.fst:=by
    apply List.ext_getElem?;intro i;rw [List.getElem?_map,List.getElem?_map,List.getElem?_set]
    by_cases hij:j=i
    ·subst hij;rw [if_pos rfl,if_pos hlt,hxj];rfl
    ·rw [if_neg hij]
   rw [this];exact h2
  ·rw [hEl,hset];apply List.ext_getElem?;intro i;have h3':=congrArg (λl=>l[i]?) h3;simp only [List.getElem?_map] at h3';simp only [List.getElem?_map,List.getElem?_modify]
   by_cases hij:j=i
   ·subst hij;rw [hj,hxj];simp
   ·simp only [hij,if_false];cases hE:E.toList[i]? <;> cases hX:xs[i]? <;> rw [hE,hX] at h3' <;> simp_all
  ·rw [hEl];rw [List.pairwise_iff_getElem] at h4 ⊢;intro a b ha hb hab;rw [List.length_modify] at ha hb;have:=h4 a b ha hb hab;simp only [List.getElem_modify];split <;> split <;> exact this
  ·rw [hEl];intro x hx;obtain ⟨i,hi,rfl⟩:=List.getElem_of_mem hx;rw [List.length_modify] at hi;have:=h5 _ (List.getElem_mem hi);simp only [List.getElem_modify];split <;> exact this
theorem MOk.push {E:Array MapEntry} {c:Nat} {k:K} {v:V} (h:MOk ek ev E c es) (hk:∀ v,(k,v) ∉ es):MOk ek ev (E.push ⟨ek k,ev v,c⟩) (c+1) ((k,v)::es):=by
 obtain ⟨xs,h1,h2,h3,h4,h5⟩:=h;refine ⟨xs++[(k,v)],?_,?_,?_,?_,?_⟩
 ·exact (List.perm_append_comm).trans (.cons _ h1)
 ·rw [List.map_append,List.nodup_append];refine ⟨h2,by simp,λa ha b hb=>?_⟩;simp only [List.map_cons,List.map_nil,List.mem_singleton] at hb;subst hb;rintro rfl;obtain ⟨x,hx,hxe⟩:=List.mem_map.1 ha;obtain ⟨a1,a2⟩:=x;simp only at hxe;subst hxe;exact hk a2 (h1.mem_iff.1 hx)
 ·simp [h3]
 ·rw [Array.toList_push,List.pairwise_append];refine ⟨h4,by simp,λa ha b hb=>?_⟩;simp only [List.mem_singleton] at hb;subst hb;exact h5 a ha
 ·intro e he;rw [Array.toList_push,List.mem_append] at he
  rcases he with he|he
  ·have:=h5 e he;omega
  ·simp only [List.mem_singleton] at he;subst he;exact Nat.lt_succ_self _
theorem MOk.erase [hk:KeyT P kt ek] {E:Array MapEntry} {c j:Nat} {e:MapEntry} {k:K} {v:V} {es0:List (K × V)} (h:MOk ek ev E c es) (hp:es.Perm ((k,v)::es0)) (hj:E.toList[j]? = some e) (he:e.key=ek k) :
  MOk ek ev (E.eraseIdxIfInBounds j) c es0:=by
 obtain ⟨xs,h1,h2,h3,h4,h5⟩:=h
 have hx:(xs.map (λx=>(ek x.1,ev x.2)))[j]? = some (e.key,e.val):=by rw [<- h3,List.getElem?_map,hj];rfl
 rw [List.getElem?_map] at hx
 cases hxj:xs[j]? with
 | none=>rw [hxj] at hx;cases hx
 | some x =>
  rw [hxj] at hx;obtain ⟨k1,v1⟩:=x;simp only [Option.map_some,Option.some.injEq,Prod.mk.injEq] at hx;rw [he] at hx;obtain rfl:=hk.inj _ _ hx.1;obtain ⟨hs1,hs2⟩:=zm1 h2 hxj
  have hrest:(xs.eraseIdx j).Perm es0:=by
   have hnd:(es.map Prod.fst).Nodup:=(h1.map _).nodup_iff.1 h2;have hA:=(hs1.symm.trans h1).trans hp
   have hvv:v1=v:=by
    have hin:(k1,v1) ∈ (k1,v)::es0:=hA.mem_iff.1 (List.mem_cons_self ..)
    rcases List.mem_cons.1 hin with h|h
    ·exact (Prod.mk.inj h).2
    ·have:=(hp.map Prod.fst).nodup_iff.1 hnd;rw [List.map_cons,List.nodup_cons] at this;exact absurd (List.mem_map.2 ⟨_,h,rfl⟩) this.1
   subst hvv;exact List.Perm.cons_inv hA
  have hEl:(E.eraseIdxIfInBounds j).toList=E.toList.eraseIdx j:=Array.toList_eraseIdxIfInBounds;have hsub:(E.toList.eraseIdx j).Sublist E.toList:=List.eraseIdx_sublist ..;refine ⟨xs.eraseIdx j,hrest,?_,?_,?_,?_⟩
  ·exact ((List.eraseIdx_sublist ..).map _).nodup h2
  ·rw [hEl,<- map_eraseIdx',h3,map_eraseIdx']
  ·rw [hEl];exact h4.sublist hsub
  ·rw [hEl];exact λe he=>h5 e (hsub.mem he)
theorem z05c [hT:MapT P T kt z] [hk:KeyT P kt ek] (hs0:Sat w (z03 ek ev m es::l)) (k:K) (v:V) {es':List (K × V)} (he:(∃ v0,es.Perm ((k,v0)::es'))\/((∀ v,(k,v) ∉ es)/\es'=es)) :
  ∃ w',(Instr.mapUpdate T (.map (some m)) (ek k) (ev v)).run P w=.ok () w'/\Sat w' (z03 ek ev m ((k,v)::es')::l):=by
 obtain ⟨et,hu,hz⟩:=hT.ok;obtain ⟨E,c,hm,hs⟩:=hs0.mapOpen;have hb:=hs.get;clear hs0
 rcases hm.find (P:=P) (kt:=kt) k w with ⟨j,e,v1,hj,hke,-,hv,hr⟩|⟨hv,hne,hr⟩
 ·rcases he with ⟨v0,hp⟩|⟨hn,-⟩
  ·refine ⟨z3i w m (.map (E.modify j λe=>{ e with key:=ek k,val:=ev v }) c),?_,(hs.set).mapShut (hm.modify (P:=P) (kt:=kt) hp hj hke (ev v) rfl)⟩
   have hold:(((E[j]?).map (·.key)).getD (ek k))=ek k:=by
    rw [<- Array.getElem?_toList,hj];simpa using hke
   simp only [Instr.mapUpdate,Sem.run_bind,run_underlying' hu,Result.andThen_ok,z63 hb,hk.check,hr,hold,Instr.keyThatStays,hk.same,if_true,Sem.run_pure,zah hb]
  ·exact absurd hv (hn _)
 ·rcases he with ⟨v0,hp⟩|⟨-,rfl⟩
  ·exact absurd (hp.mem_iff.2 (List.mem_cons_self ..)) (hv _)
  ·refine ⟨z3i w m (.map (E.push ⟨ek k,ev v,c⟩) (c+1)),?_,(hs.set).mapShut (hm.push hv)⟩;simp only [Instr.mapUpdate,Sem.run_bind,run_underlying' hu,Result.andThen_ok,z63 hb,hk.check,hr,Sem.run_pure,zah hb]
theorem z4x {k:K} {kv:Value} {q:Prog} {vv:Value} (hs:Sat w l) [hf:FoM l m ek ev es r] [hT:MapT P T kt z] [hk:KeyT P kt ek] [hkv:IsK ek kv k] (es':List (K × V)) (he:(∃ v0,es.Perm ((k,v0)::es'))\/((∀ v,(k,v) ∉ es)/\es'=es))
  (v:V) (h:∀ w',Sat w' (z03 ek ev m ((k,v)::es')::r)->q.wp P S w' Q) (hv:vv=ev v:=by rfl) (hS:∀ w',S w':=by exact λ_=>trivial):(Prog.actU (Instr.mapUpdate T (.map (some m)) kv vv) q).wp P S w Q:=by
 subst hv;rw [hkv.ok];obtain ⟨w',hr,hs'⟩:=z05c (P:=P) (T:=T) (hs.perm hf.perm) k v he;exact ⟨w',hr,hS _,h w' hs'⟩
theorem zga {k:K} {kv:Value} {q:Prog} {ty tk:TypeId} (hs:Sat w l) [hf:FoM l m ek ev es r] [hT:MapT P T kt z] [hk:KeyT P kt ek] [hkv:IsK ek kv k] (es':List (K × V)) (he:(∃ v0,es.Perm ((k,v0)::es'))\/((∀ v,(k,v) ∉ es)/\es'=es))
  (h:∀ w',Sat w' (z03 ek ev m es'::r)->q.wp P S w' Q) (hS:∀ w',S w':=by exact λ_=>trivial):(Prog.act (Builtin.delete_ #[T,tk] ty #[.map (some m),kv]) (.tup []) (u0 q)).wp P S w Q:=by
 rw [hkv.ok];obtain ⟨et,hu,hz⟩:=hT.ok;obtain ⟨E,c,hm,hs⟩:=(hs.perm hf.perm).mapOpen;have hb:=hs.get
 rcases hm.find (P:=P) (kt:=kt) k w with ⟨j,e,v1,hj,hke,-,hv,hr⟩|⟨hv,hne,hr⟩
 ·rcases he with ⟨v0,hp⟩|⟨hn,-⟩
  ·refine ⟨(),z3i w m (.map (E.eraseIdxIfInBounds j) c),?_,hS _,h _ ((hs.set).mapShut (hm.erase (P:=P) (kt:=kt) hp hj hke))⟩;simp only [Builtin.delete_,List.getElem?_toArray,List.getElem?_cons_zero,List.getElem?_cons_succ,Sem.run_bind,run_underlying' hu,Result.andThen_ok,z63 hb,hk.check,hr,Sem.run_pure,zah hb]
  ·exact absurd hv (hn _)
 ·rcases he with ⟨v0,hp⟩|⟨-,rfl⟩
  ·exact absurd (hp.mem_iff.2 (List.mem_cons_self ..)) (hv _)
  ·refine ⟨(),z3i w m (.map E c),?_,hS _,h _ ((hs.set).mapShut hm)⟩;simp only [Builtin.delete_,List.getElem?_toArray,List.getElem?_cons_zero,List.getElem?_cons_succ,Sem.run_bind,run_underlying' hu,Result.andThen_ok,z63 hb,hk.check,hr,Sem.run_pure,zah hb]
end
open Go.ChangeMaps (setBlock)
section
variable {K V:Type}
structure ItOk (ek:K->Value) (ev:V->Value) (E:Array MapEntry) (c since c0:Nat) (seen:Array Nat) (es todo:List (K × V)) (last:Option (K × V)):Prop where
 ok:MOk ek ev E c es
 old:∀ x ∈ E.toList,x.born<since
 look:since<=c0
 clk:since<=c
 lst:∀ kv,last=some kv->c0=c/\∃ e ∈ E.toList,∃ s':Array Nat,seen=s'.push e.born/\e.key=ek kv.1/\e.val=ev kv.2
 todo:∃ ys:List (K × V),ys.Perm todo/\(leftOf E seen).toList.map (λe=>(e.key,e.val))=ys.map (λx=>(ek x.1,ev x.2))
structure ItS where
 E:Array MapEntry
 c:Nat
 since:Nat
 c0:Nat
 seen:Array Nat
def itP (ek:K->Value) (ev:V->Value) (it m:Nat) (es todo:List (K × V)) (last:Option (K × V)):HP:=HP.ex λM:ItS=>HP.and (ItOk ek ev M.E M.c M.since M.c0 M.seen es todo last) (HP.star (pt it (.mapIter (some m) M.since M.seen M.c0)) (pt m (.map M.E M.c)))
class FoI (l:List HP) (it:Nat) {K V:outParam Type} (ek:outParam (K->Value)) (ev:outParam (V->Value)) (m:outParam Nat) (es todo:outParam (List (K × V))) (last:outParam (Option (K × V))) (r:outParam (List HP)):Prop where
 perm:l.Perm (itP ek ev it m es todo last::r)
instance FoI.head {K V:Type} {l:List HP} {it m:Nat} {ek:K->Value} {ev:V->Value} {es todo:List (K × V)} {last:Option (K × V)}:FoI (itP ek ev it m es todo last::l) it ek ev m es todo last l:=⟨.refl _⟩
instance (priority:=low) FoI.tail {K V:Type} {x:HP} {l r:List HP} {it m:Nat} {ek:K->Value} {ev:V->Value} {es todo:List (K × V)} {last:Option (K × V)} [h:FoI l it ek ev m es todo last r]:FoI (x::l) it ek ev m es todo last (x::r) :=
 ⟨(List.Perm.cons x h.perm).trans (.swap _ _ _)⟩
variable {ek:K->Value} {ev:V->Value} {m it:Nat} {es es' todo:List (K × V)} {last:Option (K × V)} {P:Program} {w:World} {l r:List HP} {Q:Post} {S:World->Prop} {T kt ty:TypeId} {z:Value} {g:Prop}
theorem Sat.itOpen (h:Sat w (itP ek ev it m es todo last::l)):∃ E c since c0 seen,ItOk ek ev E c since c0 seen es todo last/\Sat w (pt it (.mapIter (some m) since seen c0)::pt m (.map E c)::l):=by
 obtain ⟨⟨E,c,since,c0,seen⟩,h⟩:=h.ex;obtain ⟨hok,h⟩:=h.and;exact ⟨E,c,since,c0,seen,hok,h.star⟩
theorem Sat.itShut {E:Array MapEntry} {c since c0:Nat} {seen:Array Nat} (hm:ItOk ek ev E c since c0 seen es todo last) (h:Sat w (pt it (.mapIter (some m) since seen c0)::pt m (.map E c)::l)):Sat w (itP ek ev it m es todo last::l) :=
 .ex_mk ⟨E,c,since,c0,seen⟩ (.and_mk hm (.star_mk h))
theorem Sat.itDone (h:Sat w (itP ek ev it m es todo last::l)):Sat w (z03 ek ev m es::l):=by
 obtain ⟨E,c,since,c0,seen,hok,h⟩:=h.itOpen;exact Sat.mapShut hok.ok h.tail
theorem ziw (E:Array MapEntry):leftOf E #[]=E:=by
 unfold leftOf
 exact Array.filter_eq_self.2 λx hx=>by simp
theorem zft {k:Addr->Prog} (hs:Sat w l) [ht:MapT P T kt z] [hf:FoM l m ek ev es r] (h:∀ it w',Sat w' (itP ek ev it m es es none::r)->(k ⟨it,0,none⟩).wp P S w' Q) (hS:∀ w',S w':=by exact λ_=>trivial) :
  (Prog.act (Instr.range T (.map (some m))) sA (u1 k)).wp P S w Q:=by
 obtain ⟨et,hu,-⟩:=ht.ok;obtain ⟨E,c,hok,hs⟩:=(hs.perm hf.perm).mapOpen;have hp:=hs.push (o:=.mapIter (some m) c #[] c) (w':=w.alloc (.mapIter (some m) c #[] c)) rfl;refine ⟨(⟨w.heap.size,0,none⟩,()),_,run_range_map w T kt et m E c hu hs.get,hS _,h _ _ ?_⟩;refine Sat.itShut ⟨hok,?_,Nat.le_refl _,Nat.le_refl _,(λkv h=>by cases h),?_⟩ hp
 ·obtain ⟨xs,-,-,-,-,h5⟩:=hok;exact h5
 ·obtain ⟨xs,h1,-,h3,-⟩:=hok;exact ⟨xs,h1,by rw [ziw];exact h3⟩
theorem zlz {E:Array MapEntry} {seen:Array Nat} {e:MapEntry} (hp:E.toList.Pairwise λa b=>a.born<b.born) (he:e ∈ (leftOf E seen).toList) :
  ((leftOf E seen).toList).Perm (e::(leftOf E (seen.push e.born)).toList):=by
 unfold leftOf at he ⊢;rw [Array.toList_filter] at he ⊢;rw [Array.toList_filter];generalize E.toList=L at *
 induction L with
 | nil=>cases he
 | cons x L ih =>
  rw [List.pairwise_cons] at hp;rw [List.filter_cons,List.filter_cons]
  by_cases hx:x=e
  ·subst hx
   have hrest:L.filter (λy=>!(seen.push x.born).contains y.born)=L.filter (λy=>!seen.contains y.born):=List.filter_congr λy hy=>by
    have:=hp.1 y hy;simp only [Array.contains_push]
    have:(y.born == x.born)=false:=by rw [beq_eq_false_iff_ne];omega
    simp [this]
   have hin:(!seen.contains x.born)=true:=(List.mem_filter.1 he).2
   have hout:(!(seen.push x.born).contains x.born)=false:=by simp
   rw [if_pos hin,if_neg (by rw [hout];simp),hrest]
  ·have heL:e ∈ L:=by
    rcases List.mem_cons.1 (List.mem_filter.1 he).1 with h|h
    ·exact absurd h.symm hx
    ·exact h
   have hb:x.born≠e.born:=by have:=hp.1 e heL;omega
   have ih:=ih hp.2 (List.mem_filter.2 ⟨heL,(List.mem_filter.1 he).2⟩)
   have hsame:(!(seen.push e.born).contains x.born)=!seen.contains x.born:=by
    simp only [Array.contains_push]
    have:(x.born == e.born)=false:=by rw [beq_eq_false_iff_ne];exact hb
    simp [this]
   rw [hsame];split
   ·exact (List.Perm.cons x ih).trans (.swap _ _ _)
   ·exact ih
theorem zi6 {ss:List Sh1} {k1:HL (prims ss)->Prog} {k0:Prog} (hs:Sat w l) [hf:FoI l it ek ev m es todo last r] (dx:K->V->HL (prims ss))
  (h1:∀ k v todo' w',todo.Perm ((k,v)::todo')->Sat w' (itP ek ev it m es todo' (some (k,v))::r)->(k1 (dx k v)).wp P tt w' Q) (h0:todo=[]->k0.wp P tt w Q) (hx:∀ k v,z1e ss (dx k v)=[ek k,ev v]:=by intros;rfl) :
  (Prog.next (Instr.next (.pointer (some ⟨it,0,none⟩)) false ty) ss k1 k0).wp P tt w Q:=by
 obtain ⟨E,c,since,c0,seen,hok,hs⟩:=(hs.perm hf.perm).itOpen;have hit:=hs.get;have hm:=hs.tail.get;obtain ⟨hmok,hold,hlook,hclk,-,ys,hys,hleft⟩:=hok
 rcases run_next_at (P:=P) w ty it m since c0 seen E c hit hm hold hlook with ⟨h,hrun⟩|⟨e,he,w1,hw1,hrun⟩
 ·refine .inr ⟨w,hrun,trivial,h0 ?_⟩
  have h2:ys.length=0:=by
   have:=congrArg List.length hleft;rw [List.length_map,List.length_map,Array.length_toList,h] at this;exact this.symm
  exact (hys.symm.trans (by rw [List.length_eq_zero_iff.1 h2])).eq_nil
 ·obtain ⟨xs,hxs,hnd,hkv,hborn,hlt⟩:=hmok;have hpush:=zlz hborn he;have hmem:(e.key,e.val) ∈ (leftOf E seen).toList.map λe=>(e.key,e.val):=List.mem_map.2 ⟨e,he,rfl⟩
  have hmap:=hpush.map λe=>(e.key,e.val)
  rw [hleft,List.map_cons] at hmap
  obtain ⟨ys',hys',hmap'⟩:∃ ys':List (K × V),∃ kv:K × V,ys.Perm (kv::ys')/\(e.key,e.val)=(ek kv.1,ev kv.2)/\(leftOf E (seen.push e.born)).toList.map (λe=>(e.key,e.val))=ys'.map λx=>(ek x.1,ev x.2):=by
   rw [hleft] at hmem;obtain ⟨a,b,hab⟩:=List.append_of_mem he
   have h3:leftOf E seen=⟨a++e::b⟩:=by
    apply Array.toList_inj.1;exact hab
   have h4:(leftOf E (seen.push e.born)).toList=a++b:=by
    have h5:(leftOf E (seen.push e.born)).toList=(leftOf E seen).toList.filter λy=>!(y.born == e.born):=by
     unfold leftOf;rw [Array.toList_filter,Array.toList_filter,List.filter_filter];refine List.filter_congr λy _=>?_;simp only [Array.contains_push];cases seen.contains y.born <;> cases (y.born == e.born) <;> rfl
    rw [h5,hab,List.filter_append,List.filter_cons_of_neg (by simp)]
    have hpw:(a++e::b).Pairwise λa b=>a.born<b.born:=by
     rw [<- hab];unfold leftOf;rw [Array.toList_filter];exact hborn.filter _
    rw [List.pairwise_append,List.pairwise_cons] at hpw
    congr 1
    ·exact List.filter_eq_self.2 λy hy=>by
      have:=hpw.2.2 y hy e (List.mem_cons_self ..)
      have:(y.born == e.born)=false:=by rw [beq_eq_false_iff_ne];omega
      rw [this];rfl
    ·exact List.filter_eq_self.2 λy hy=>by
      have:=hpw.2.1.1 y hy
      have:(y.born == e.born)=false:=by rw [beq_eq_false_iff_ne];omega
      rw [this];rfl
   rw [hab,List.map_append,List.map_cons] at hleft
   have hl:a.length<ys.length:=by
    have:=congrArg List.length hleft;simp at this;omega
   have e1:=List.take_append_drop a.length ys;have e2:ys.drop a.length=ys[a.length]::ys.drop (a.length+1):=List.drop_eq_getElem_cons hl
   have h6:(a.map λe=>(e.key,e.val))++((e.key,e.val)::b.map λe=>(e.key,e.val))=(ys.take a.length).map (λx=>(ek x.1,ev x.2))++((ek ys[a.length].1,ev ys[a.length].2)::(ys.drop (a.length+1)).map λx=>(ek x.1,ev x.2)):=by
    rw [hleft]
    conv=>lhs;rw [<- e1,e2]
    rw [List.map_append,List.map_cons]
   have h7:=List.append_inj h6 (by simp;omega);rw [List.cons.injEq] at h7;refine ⟨ys.take a.length++ys.drop (a.length+1),ys[a.length],?_,h7.2.1,?_⟩
   ·conv=>lhs;rw [<- e1,e2]
    exact List.perm_middle
   ·rw [h4,List.map_append,List.map_append,h7.1,h7.2.2]
  obtain ⟨hp,hkve,hl'⟩:=hmap';simp only [Prod.mk.injEq] at hkve;refine .inl ⟨dx hys'.1 hys'.2,setBlock w1 it (.mapIter (some m) since (seen.push e.born) c),?_,trivial,h1 hys'.1 hys'.2 ys' _ (hys.symm.trans hp) ?_⟩
  ·rw [hrun,hkve.1,hkve.2]
   congr 2
   rw [hx]
  ·have hs1:Sat w1 (pt it (.mapIter (some m) since seen c0)::pt m (.map E c)::r):=by
    rcases hw1 with rfl|rfl
    ·exact hs
    ·exact hs.heap ⟨rfl,rfl,rfl⟩
   have hs2:=hs1.set (o':=.mapIter (some m) since (seen.push e.born) c)
   have heE:e ∈ E.toList:=by
    unfold leftOf at he;rw [Array.toList_filter] at he;exact (List.mem_filter.1 he).1
   exact Sat.itShut ⟨⟨xs,hxs,hnd,hkv,hborn,hlt⟩,hold,hclk,hclk,(λkv h=>⟨rfl,e,heE,seen,rfl,by obtain rfl:=Option.some.inj h;exact hkve⟩),ys',.refl _,hl'⟩ hs2
theorem zky {ss:List Sh1} {k:HL (prims ss)->Prog} {kk:K} {v:V} {p:Prog} (hs:Sat w l) [hf:FoI l it ek ev m es todo (some (kk,v)) r] (x:HL (prims ss)) [hA:App k x p] (h:p.wp P S w Q) (hx:z1e ss x=[ek kk,ev v]:=by rfl) (hS:∀ w',S w':=by exact λ_=>trivial) :
  (Prog.act (Instr.entry (.pointer (some ⟨it,0,none⟩))) (.tup ss) k).wp P S w Q:=by
 obtain ⟨E,c,since,c0,seen,hok,hs⟩:=(hs.perm hf.perm).itOpen;have hit:=hs.get;have hm:=hs.tail.get;obtain ⟨hmok,hold,hlook,hclk,hlst,-⟩:=hok;obtain ⟨rfl,e,he,s',rfl,h1,h2⟩:=hlst _ rfl;obtain ⟨xs,-,-,-,hborn,-⟩:=hmok
 have hnd:(E.toList.map (·.born)).Nodup:=by
  rw [List.Nodup,List.pairwise_map]
  exact hborn.imp λ{a b} h=>by omega
 have hrun:=run_entry_at (P:=P) w it m since s' E c0 e hit hm he hnd;refine ⟨x,w,?_,hS _,by rw [hA.ok];exact h⟩;rw [hrun,h1,h2];show Result.ok (Value.tuple #[ek kk,ev v]) w=Result.ok (Value.tuple (z1e ss x).toArray) w;rw [hx]
end
class ByE (P:Program) (t:TypeId) (e:outParam TypeId):Prop where
 ok:P.underlying t=some (.slice e)/\P.underlying e=some (.int .u8)/\sizeOf? P e=some 1
def zk (b:UInt8):List Value:=[.int .u8 b.toNat]
instance:Enc1 zk (.int .u8) (λb=>(b.toNat:Int)):=⟨λ_=>rfl⟩
instance:EncN zk 1:=⟨λ_=>rfl,by decide,by simp [zk,Value.oneCell']⟩
theorem zby (bs:List UInt8):bs.flatMap zk=bs.map λb=>Value.int .u8 b.toNat:=by
 induction bs with
 | nil=>rfl
 | cons n r ih=>rw [List.flatMap_cons,ih];rfl
theorem z3z {α:Type} {enc:α->List Value} {sz:Nat} [h:EncN enc sz] (xs:List α):(xs.flatMap enc).length=xs.length*sz:=z9p h.len xs
section
variable {P:Program} {w:World} {l r:List HP} {Q:Post} {S:World->Prop} {T ts t e:TypeId} {sz:Nat} {x:Sl} {g:Prop}
theorem Sat.slen {α:Type} {enc:α->List Value} {xs:List α} (hs:Sat w l) (x:Sl) [hf:FocR l x sz (xs.flatMap enc)] [hE:EncN enc sz]:x.len=xs.length:=(hf.rd w hs).len hE.len hE.pos
theorem Sat.slc_cap {cs:List Value} (hs:Sat w (slc T sz x cs::l)):x.len<=x.cap:=by
 obtain ⟨p1,p2,h1,h2,hd,hA,hl⟩:=hs
 rcases hA with ⟨-,h1,h2,-⟩|⟨b,off,arr,fr,ha,hb,hlen,hle,-⟩
 ·omega
 ·exact hle
theorem zjs [ht:ByE P t e] [hst:StT P ts] {s:ByteArray} {k:Sl->Prog} (hs:Sat w l) (h:∀ x w',Sat w' (slc e 1 x (s.data.toList.flatMap zk)::l)->(k x).wp P S w' Q) (hS:∀ w',S w':=by exact λ_=>trivial) :
  (Prog.act (convert ts t (.string s)) sL (u1 k)).wp P S w Q:=by
 obtain ⟨h1,h2,-⟩:=ht.ok;have hrun:=Lib.run_convert_string_bytes (P:=P) w ts t e s hst.ok h1 h2;refine ⟨(⟨some ⟨w.heap.size,0,none⟩,s.size,grownCap w s.size 0 e⟩,()),_,hrun,hS _,h _ _ ?_⟩;have hge:=grownCap_ge w s.size 0 e
 have hpush:(Lib.bytesWorld w e s).heap=w.heap.push (.cells (Lib.bytesCells w e s) e ((Lib.bytesCells w e s).size,(Lib.bytesCells w e s).size+1)):=by
  apply Array.ext_getElem?;intro i;rw [Array.getElem?_push]
  by_cases hi:i=w.heap.size
  ·rw [hi,if_pos rfl];exact Lib.bytesWorld_at_new w e s
  ·rw [if_neg hi]
   rcases Nat.lt_or_ge i w.heap.size with h'|h'
   ·exact Lib.bytesWorld_at_old w e s i h'
   ·rw [Array.getElem?_eq_none (by rw [Lib.bytesWorld_size];omega),Array.getElem?_eq_none h']
 have hp:=hs.push hpush rfl rfl;refine hp.imp λp hp=>.inr ⟨w.heap.size,0,_,_,rfl,hp,?_,hge,?_,λi hi=>?_,λi h1 h2 h3=>?_⟩
 ·rw [z3z];rfl
 ·simp [Lib.bytesCells];show s.data.size+_>=_;have:s.size=s.data.size:=rfl;omega
 ·rw [z3z] at hi
  have hi:i<s.data.toList.length:=by omega
  rw [Nat.zero_add,zby]
  have hi2:i<s.data.size:=by simpa using hi
  have hi3:¬ s.size<=i:=by have:s.size=s.data.size:=rfl;omega
  simp [Lib.bytesCells,Array.getElem?_append,hi2,hi3]
 ·have:(Lib.bytesCells w e s).size=s.size+(grownCap w s.size 0 e-s.size):=by simp [Lib.bytesCells]
  dsimp only at h2 h3;omega
theorem z0b5 [ht:ByE P t e] [hst:StT P ts] {bs:List UInt8} (hs:Sat w l) [hf:FocR l x 1 (bs.flatMap zk)]:(convert t ts (.slice x.a x.len x.cap)).run P w=.ok (.string ⟨bs.toArray⟩) w:=by
 obtain ⟨h1,h2,-⟩:=ht.ok;have hl:=hs.slen x (xs:=bs) (enc:=zk);obtain ⟨hlen,h0⟩:=hf.rd w hs;obtain ⟨a,n,c⟩:=x;simp only at hl h0 ⊢;subst hl
 by_cases hz:bs=[]
 ·subst hz;rw [run_convert_bytes_string w t ts e a _ c h1 h2 hst.ok];cases a <;> simp [Conv.bytesToString,loadCells,loadCellsFrom]
  all_goals rfl
 ·rcases h0 with h0|⟨b,off,arr,T',fr,rfl,hb,hc⟩
  ·exact absurd (List.length_eq_zero_iff.1 h0) hz
  ·exact run_convert_bytes_back w t ts e _ c bs h1 h2 hst.ok λj hj=>by
    rw [z2d,z3h hb,hc j (by rw [z3z];omega),zby];simp [hj]
theorem zq5 [ht:ByE P t e] [hst:StT P ts] {bs:List UInt8} {k:ByteArray->Prog} (hs:Sat w l) [hf:FocR l x 1 (bs.flatMap zk)] (h:(k ⟨bs.toArray⟩).wp P S w Q) :
  (Prog.read g (convert t ts (.slice x.a x.len x.cap)) sS (u1 k)).wp P S w Q:=⟨(_,()),λ_=>z0b5 hs,h⟩
theorem zav {α:Type} {enc:α->List Value} {n:Nat} {ps:Array (Nat × Value)} {el:TypeId} {bytes:Nat} {cs:Array Value} {k:Sl->Prog} (hs:Sat w l) [ht:SlT P t el sz bytes] [hE:EncN enc sz] (xs:List α) (hc:z4e P t n ps=some (el,cs))
  (h:∀ b w',Sat w' (slc el sz ⟨some ⟨b,0,none⟩,n,n⟩ (xs.flatMap enc)::l)->(k ⟨some ⟨b,0,none⟩,n,n⟩).wp P S w' Q) (hx:xs.flatMap enc=cs.toList:=by rfl) (hn:xs.length=n:=by rfl) (hS:∀ w',S w':=by exact λ_=>trivial) :
  (Prog.act (Instr.buildSlice t n ps) sL (u1 k)).wp P S w Q:=by
 have hp:=hs.push (o:=.cells cs el) (w':={ w with heap:=w.heap.push (.cells cs el) }) rfl;refine ⟨(⟨some ⟨w.heap.size,0,none⟩,n,n⟩,()),_,zjb hc,hS _,h _ _ ?_⟩;rw [hx];exact hp.slc_of (by rw [<- Array.length_toList,<- hx,z3z,hn])
theorem bs0 {bytes:Nat} {el:TypeId} [ht:SlT P t el sz bytes]:z4e P t 0 #[]=some (el,#[]):=by
 obtain ⟨i,z,hi,h2,h3,h4,h5⟩:=ht.parts;unfold z4e;simp [ht.ok.1,hi,Instr.fill]
theorem zbp {α:Type} {enc:α->List Value} {v:Value} {el:TypeId} {bytes:Nat} {cs:List Value} {k:Sl->Prog} (hs:Sat w l) [ht:SlT P t el sz bytes] [hE:EncN enc sz] [hv:Cells v cs] (y:α)
  (h:∀ x w',Sat w' (slc el sz x ([y].flatMap enc)::l)->(k x).wp P S w' Q) (hy:cs=enc y:=by rfl) (hS:∀ w',S w':=by exact λ_=>trivial) (hz:(!Nat.beq sz 0 && Nat.ble sz 16777216)=true:=by rfl) :
  (Prog.act (Instr.buildSlice t 1 #[(0,v)]) sL (u1 k)).wp P S w Q:=by
 have h1:v.cells=(enc y).toArray:=by rw [hv.ok,hy]
 rw [Bool.and_eq_true,Bool.not_eq_true'] at hz;have hlen:=hE.len y;exact zav hs [y] (bs1 h1 hz.1 hz.2 (by simp [hlen])) (λb w'=>h _ w') (by simp) rfl hS
theorem wp_app' {α:Type} {enc:α->List Value} {xs ys:List α} {tx ty el el':TypeId} {bytes sz' bytes':Nat} {x y:Sl} {k:Sl->Prog} (hs:Sat w l) [ht:SlT P t el sz bytes] [htx:SlT P tx el' sz' bytes'] [hf:FocS l x el sz (xs.flatMap enc) r] [hy:FocR l y sz (ys.flatMap enc)] [hE:EncN enc sz]
  (h:∀ z w',Sat w' (slc el sz z ((xs++ys).flatMap enc)::r)->(k z).wp P S w' Q) (hb:(xs.length+ys.length)*bytes<=140737488355328/\xs.length+ys.length<=9223372036854775807:=by omega) (hS:∀ w',S w':=by exact λ_=>trivial) :
  (Prog.act (app t tx ty (.slice x.a x.len x.cap) (.slice y.a y.len y.cap)) sL (u1 k)).wp P S w Q:=by
 have h1:x.len=xs.length:=(hs.focS x).rd.len hE.len hE.pos;have h2:=hs.slen y (xs:=ys) (enc:=enc)
 refine zxc hs (hy.rd w hs) (λu hu=>?_) (by rw [h1,h2];exact hb.1) (by rw [h1,h2];exact hb.2) λz w' _ hs'=>⟨hS _,h z w' ?_⟩
 ·obtain ⟨a,-,hu⟩:=List.mem_flatMap.1 hu;exact hE.one a u hu
 ·rw [List.flatMap_append];exact hs'
theorem Sat.slc_cut {cs:List Value} {n:Nat} (hs:Sat w (slc T sz x cs::l)) (hn:n<=x.len):Sat w (slc T sz ⟨x.a,n,n⟩ (cs.take (n*sz))::l):=by
 refine hs.imp λp hp=>?_
 rcases hp with ⟨h1,h2,h3,rfl⟩|⟨b,off,arr,fr,ha,hb,hlen,hle,hsz,hc,hf⟩
 ·exact .inl ⟨h1,by dsimp only;omega,by dsimp only;omega,by simp⟩
 ·have hnc:n*sz<=x.cap*sz:=Nat.mul_le_mul_right _ (by omega);have hnl:n*sz<=x.len*sz:=Nat.mul_le_mul_right _ hn;refine .inr ⟨b,off,arr,fr,ha,hb,?_,Nat.le_refl _,by dsimp only;omega,λi hi=>?_,λi h1 h2=>hf i h1 (by dsimp only at h2;omega)⟩
  ·rw [List.length_take,hlen];dsimp only;omega
  ·rw [List.length_take] at hi;rw [hc i (by omega),List.getElem?_take,if_pos (by omega)]
theorem z5u {α:Type} {enc:α->List Value} [hE:EncN enc sz]:∀ (xs:List α) (n:Nat),(xs.flatMap enc).take (n*sz)=(xs.take n).flatMap enc
 | [],n=>by simp
 | x::xs,0=>by simp
 | x::xs,n+1=>by
  rw [List.take_succ_cons,List.flatMap_cons,List.flatMap_cons,Nat.add_mul,Nat.one_mul,Nat.add_comm,List.take_append,hE.len,List.take_of_length_le (by rw [hE.len];omega),Nat.add_sub_cancel_left,z5u xs n]
theorem Rd.pre {α:Type} {enc:α->List Value} [hE:EncN enc sz] {xs:List α} (h:Rd w sz x (xs.flatMap enc)) {n c:Nat} (hn:n<=xs.length):Rd w sz ⟨x.a,n,c⟩ ((xs.take n).flatMap enc):=by
 obtain ⟨hlen,h0⟩:=h;refine ⟨by rw [z3z,List.length_take,Nat.min_eq_left hn],?_⟩
 rcases h0 with h0|⟨b,off,arr,T',fr,ha,hb,hc⟩
 ·rw [z3z,h0] at hlen;have:=hE.pos
  have h1:xs.length=0:=by
   rcases Nat.mul_eq_zero.1 (hlen.trans (Nat.zero_mul _)) with h|h
   ·exact h
   ·omega
  exact .inl (by show n=0;omega)
 ·refine .inr ⟨b,off,arr,T',fr,ha,hb,λi hi=>?_⟩;rw [<- z5u,List.length_take] at hi;rw [hc i (by omega),<- z5u,List.getElem?_take,if_pos (by omega)]
theorem FocR.pre {α:Type} {enc:α->List Value} [hE:EncN enc sz] {xs:List α} [hf:FocR l x sz (xs.flatMap enc)] {n c:Nat} (hn:n<=xs.length):FocR l ⟨x.a,n,c⟩ sz ((xs.take n).flatMap enc):=⟨λw hs=>(hf.rd w hs).pre hn⟩
theorem zq3 {α:Type} {enc:α->List Value} {xs:List α} {i i':Int} {k:Prog} {v:Value} (hs:Sat w l) [hf:FocS l x T sz (xs.flatMap enc) r] [hE:EncN enc sz] [hT:One P t] (n:Nat) (hn:n<xs.length) (y:α)
  (h:∀ w',Sat w' (slc T sz x ((xs.set n y).flatMap enc)::r)->k.wp P S w' Q) (hi:i=n:=by first|rfl|omega) (hi':i'=i:=by rfl) (hy:v.cells.toList=enc y:=by rfl) (hsz:Nat.beq sz 1=true:=by rfl) (hS:∀ w',S w':=by exact λ_=>trivial) :
  (Prog.ex [.adr] (c1 λa=>0<=i/\i<((x.len:Nat):Int)/\x.a=some a) (u1 λa=>.actU (st t (Addr.add a (Int.toNat i'*sz)) v) k)).wp P S w Q:=by
 have hz:=Nat.eq_of_beq_eq_true hsz;subst hz hi hi';have hr:=(hs.focS x).rd;have hl:x.len=xs.length:=hr.len hE.len hE.pos;obtain ⟨a,ha,he⟩:=hr.el hE.len (by omega);refine ⟨(a,()),⟨by omega,by omega,ha⟩,?_⟩
 exact zjr (xs:=xs) (i:=n) (y:=y) hE.len hs ha hn (λb o e=>by subst e;rw [z2d,Int.toNat_natCast]) hT.ok.2 hy (hE.one y) λw' hs'=>⟨hS _,h w' hs'⟩
class EncF {α:Type} (enc:α->List Value) (j:Nat) (p:Pr) (dec:outParam (α->p.D)):Prop where
 ok:∀ y,(enc y)[j]? = some (p.mk (dec y))
theorem zkn {α:Type} {enc:α->List Value} {xs:List α} {j n:Nat} {p:Pr} {dec:α->p.D} (hs:Sat w l) [hf:FocR l x sz (xs.flatMap enc)] [hE:EncN enc sz] [hD:EncF enc j p dec] [hT:One P T] (hn:n<xs.length) :
  ∃ a,x.a=some a/\x.len=xs.length/\(ld T (Addr.add (Addr.add a (n*sz)) j)).run P w=.ok ((Sh.one (.one p)).mk (dec xs[n],())) w:=by
 have hr:=hf.rd w hs;have hl:x.len=xs.length:=hr.len hE.len hE.pos;obtain ⟨a,ha,he⟩:=hr.el hE.len (by omega);refine ⟨a,ha,hl,?_⟩;have h2:=At.fld (P:=P) (T:=T) (he n hn) (hD.ok xs[n]);cases p <;> exact h2
theorem z02l {α:Type} {enc:α->List Value} {xs:List α} {i i':Int} {j:Nat} {g':Prop} {p:Pr} {dec:α->p.D} {f:p.D->Prog} (hs:Sat w l) [hf:FocR l x sz (xs.flatMap enc)] [hE:EncN enc sz] [hD:EncF enc j p dec] [hT:One P T]
  (n:Nat) (hn:n<xs.length) (h:(f (dec xs[n])).wp P S w Q) (hi:i=n:=by first|rfl|omega) (hi':i'=i:=by rfl) :
  (Prog.ex [.adr] (c1 λa=>0<=i/\i<((x.len:Nat):Int)/\x.a=some a) (u1 λa=>.read g' (ld T (Addr.add (Addr.add a (Int.toNat i'*sz)) j)) (.one (.one p)) (u1 f))).wp P S w Q:=by
 subst hi hi';obtain ⟨a,ha,hl,hr⟩:=zkn (P:=P) (T:=T) (j:=j) (enc:=enc) (p:=p) (dec:=dec) (x:=x) hs hn;exact ⟨(a,()),⟨by omega,by omega,ha⟩,(dec xs[n],()),λ_=>by rw [Int.toNat_natCast];exact hr,h⟩
end
section
variable {w:World} {l r:List HP}
theorem Sat.all_cons' {a:HP} {L:List HP} (hs:Sat w (HP.all (a::L)::l)):Sat w (a::HP.all L::l):=by
 refine Sat.star (A:=a) (B:=HP.all L) (hs.imp λp h=>?_);obtain ⟨p1,p2,h1,h2,hd,hA,hl⟩:=h;exact ⟨p1,p2,h1,h2,hd,hA,hl⟩
theorem Sat.all_perm' {L L':List HP} (hp:L.Perm L') (hs:Sat w (HP.all L::l)):Sat w (HP.all L'::l):=hs.imp λp h=>zc5 hp h
theorem Sat.all_mem {α:Type} {f:α->HP} {xs:List α} {x:α} (hx:x ∈ xs) (hs:Sat w (HP.all (xs.map f)::l)):∃ L,Sat w (f x::HP.all L::l):=by
 obtain ⟨s,u,rfl⟩:=List.append_of_mem hx;exact ⟨(s++u).map f,(hs.all_perm' (L':=f x::(s++u).map f) ((List.perm_middle (l₁:=s) (l₂:=u) (a:=x)).map f)).all_cons'⟩
end
end Go.Dec
