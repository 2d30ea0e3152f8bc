/- What the claim of this folder leans on: our own texts, joined, without what it does not use. -/
import Derived.Test.YtgpcickgjngglaaGreatQLApart1
set_option linter.unusedVariables false
set_option linter.unusedSimpArgs false
namespace Go.Dec
structure Env' where
 os:Os
 out:Array (Nat × ByteArray)
structure PH where
 m:Nat->Option Obj
 e:Env'
instance:CoeFun PH (λ_=>Nat->Option Obj):=⟨PH.m⟩
abbrev HP:=PH->Prop
def PH.disj (p q:PH):Prop:=∀ b,p b=none\/q b=none
structure PH.sub (p q:PH):Prop where
 f:∀ b o,p b=some o->q b=some o
 e:p.e=q.e
instance {p q:PH}:CoeFun (p.sub q) (λ_=>∀ b o,p b=some o->q b=some o):=⟨PH.sub.f⟩
theorem PH.sub_refl (p:PH):p.sub p:=⟨λ_ _ h=>h,rfl⟩
theorem PH.sub_trans {p q r:PH} (h1:p.sub q) (h2:q.sub r):p.sub r:=⟨λb o h=>h2 b o (h1 b o h),h1.e.trans h2.e⟩
theorem PH.disj_sub {p q r:PH} (h:p.disj q) (hs:r.sub q):p.disj r:=λb=>by
 rcases h b with h|h
 ·exact .inl h
 ·cases hr:r b with
  | none=>exact .inr rfl
  | some o=>rw [hs b o hr] at h;cases h
def z7e:List HP->PH->Prop
 | [],_=>True
 | H::r,p=>∃ p1 p2,p1.sub p/\p2.sub p/\p1.disj p2/\H p1/\z7e r p2
theorem z9v:∀ {l:List HP} {p q:PH},p.sub q->z7e l p->z7e l q
 | [],_,_,_,_=>trivial
 | H::r,p,q,hs,⟨p1,p2,h1,h2,hd,hH,hr⟩=>⟨p1,p2,PH.sub_trans h1 hs,PH.sub_trans h2 hs,hd,hH,hr⟩
def World.env' (w:World):Env':=⟨w.os,w.output⟩
def World.ph (w:World):PH:=⟨λb=>w.heap[b]?,World.env' w⟩
def Sat (w:World) (l:List HP):Prop:=z7e l (World.ph w)
def pt (b:Nat) (o:Obj):HP:=λp=>p b=some o
def HP.ex {α:Type} (f:α->HP):HP:=λp=>∃ x,f x p
def HP.star (A B:HP):HP:=λp=>∃ p1 p2,PH.sub p1 p/\PH.sub p2 p/\PH.disj p1 p2/\A p1/\B p2
def HP.and (φ:Prop) (A:HP):HP:=λp=>φ/\A p
def HP.all (l:List HP):HP:=z7e l
section
variable {w:World} {l r:List HP} {H A B:HP}
theorem Sat.tail (h:Sat w (H::l)):Sat w l:=by
 obtain ⟨p1,p2,h1,h2,hd,hH,hr⟩:=h
 exact z9v h2 hr
theorem zxk {A B:HP} {l:List HP} {p:PH} (h:z7e (A::B::l) p):z7e (B::A::l) p:=by
 obtain ⟨p1,p2,h1,h2,hd,hA,q1,q2,g1,g2,gd,hB,hl⟩:=h
 let u:PH:=⟨λb=>match p1 b with
  | some o=>some o
  | none=>q2 b,p1.e⟩
 have hu1:p1.sub u:=⟨λb o h=>by simp [u,h],rfl⟩
 have hu2:q2.sub u:=⟨λb o h=>by
  have:p1 b=none:=(hd b).resolve_right (by rw [g2 b o h];simp)
  simp [u,this,h],by show q2.e=p1.e;rw [g2.e,h2.e,h1.e]⟩
 have hus:u.sub p:=⟨λb o h=>by
  simp only [u] at h
  split at h
  ·rename_i o' ho;obtain rfl:=Option.some.inj h;exact h1 b _ ho
  ·exact h2 b o (g2 b o h),h1.e⟩
 refine ⟨q1,u,PH.sub_trans g1 h2,hus,λb=>?_,hB,p1,q2,hu1,hu2,PH.disj_sub hd g2,hA,hl⟩
 rcases gd b with h|h
 ·exact .inl h
 ·rcases hd b with h'|h'
  ·right;simp [u,h',h]
  ·left
   cases hq:q1 b with
   | none=>rfl
   | some o=>rw [g1 b o hq] at h';cases h'
theorem zam {l l':List HP} (h:l.Perm l'):∀ {p:PH},z7e l p->z7e l' p:=by
 induction h with
 | nil=>exact λh=>h
 | cons x _ ih=>exact λ⟨p1,p2,h1,h2,hd,hA,hl⟩=>⟨p1,p2,h1,h2,hd,hA,ih hl⟩
 | swap x y l=>exact zxk
 | trans _ _ ih1 ih2=>exact λh=>ih2 (ih1 h)
theorem Sat.perm (hp:l.Perm r) (h:Sat w l):Sat w r:=zam hp h
def za0:List HP->Nat->Option (HP × List HP)
 | [],_=>none
 | x::r,0=>some (x,r)
 | x::r,n+1=>match za0 r n with
  | some (y,r')=>some (y,x::r')
  | none=>none
theorem zb0:∀ {l:List HP} {i:Nat} {x:HP} {r:List HP},za0 l i=some (x,r)->l.Perm (x::r)
 | [],_,_,_,h=>by simp [za0] at h
 | y::l,0,x,r,h=>by simp only [za0,Option.some.injEq,Prod.mk.injEq] at h;obtain ⟨rfl,rfl⟩:=h;exact .refl _
 | y::l,n+1,x,r,h=>by
  simp only [za0] at h
  split at h
  ·rename_i z r' hz
   simp only [Option.some.injEq,Prod.mk.injEq] at h
   obtain ⟨rfl,rfl⟩:=h
   exact (List.Perm.cons y (zb0 hz)).trans (.swap _ _ _)
  ·cases h
def zbg:List HP->List Nat->Option (List HP)
 | l,[]=>some l
 | l,i::is=>match za0 l i with
  | some (x,r)=>match zbg r is with
   | some r'=>some (x::r')
   | none=>none
  | none=>none
theorem zdj:∀ {is:List Nat} {l r:List HP},zbg l is=some r->l.Perm r
 | [],l,r,h=>by simp only [zbg,Option.some.injEq] at h;subst h;exact .refl _
 | i::is,l,r,h=>by
  simp only [zbg] at h
  split at h
  ·rename_i x l' hx
   split at h
   ·rename_i r' hr
    obtain rfl:=Option.some.inj h
    exact (zb0 hx).trans (.cons x (zdj hr))
   ·cases h
  ·cases h
theorem Sat.pick (h:Sat w l) (is:List Nat) {r:List HP} (hr:zbg l is=some r:=by rfl):Sat w r:=h.perm (zdj hr)
theorem Sat.imp (hi:∀ p,A p->B p) (h:Sat w (A::l)):Sat w (B::l):=by
 obtain ⟨p1,p2,h1,h2,hd,hA,hl⟩:=h
 exact ⟨p1,p2,h1,h2,hd,hi _ hA,hl⟩
theorem Sat.ex {α:Type} {f:α->HP} (h:Sat w (HP.ex f::l)):∃ x,Sat w (f x::l):=by
 obtain ⟨p1,p2,h1,h2,hd,⟨x,hx⟩,hl⟩:=h
 exact ⟨x,p1,p2,h1,h2,hd,hx,hl⟩
theorem Sat.ex_mk {α:Type} {f:α->HP} (x:α) (h:Sat w (f x::l)):Sat w (HP.ex f::l):=h.imp λ_ h=>⟨x,h⟩
theorem Sat.and {φ:Prop} (h:Sat w (HP.and φ A::l)):φ/\Sat w (A::l):=by
 obtain ⟨p1,p2,h1,h2,hd,⟨hφ,hA⟩,hl⟩:=h
 exact ⟨hφ,p1,p2,h1,h2,hd,hA,hl⟩
theorem Sat.and_mk {φ:Prop} (hφ:φ) (h:Sat w (A::l)):Sat w (HP.and φ A::l):=h.imp λ_ h=>⟨hφ,h⟩
theorem Sat.star (h : Sat w (HP.star A B :: l)) : Sat w (A :: B :: l) := by
  obtain ⟨p1, p2, h1, h2, hd, ⟨q1, q2, g1, g2, gd, hA, hB⟩, hl⟩ := h
  let u : PH := ⟨fun b => match q2 b with
    | some o => some o
    | none => p2 b, q2.e⟩
  have hu1 : q2.sub u := ⟨fun b o h => by simp [u, h], rfl⟩
  have hu2 : p2.sub u := ⟨fun b o h => by
    have : q2 b = none := by
      cases hq : q2 b with
      | none => rfl
      | some o' => rcases hd b with h' | h'
                   · rw [g2 b o' hq] at h'; cases h'
                   · rw [h] at h'; cases h'
    simp [u, this, h], by show p2.e = q2.e; rw [g2.e, h1.e, h2.e]⟩
  have hus : u.sub (World.ph w) := ⟨fun b o h => by
    simp only [u] at h
    split at h
    · rename_i o' ho; obtain rfl := Option.some.inj h; exact h1 b _ (g2 b _ ho)
    · exact h2 b o h, g2.e.trans h1.e⟩
  refine ⟨q1, u, PH.sub_trans g1 h1, hus, fun b => ?_, hA, q2, p2, hu1, hu2, fun b => ?_, hB, hl⟩
  · rcases gd b with h | h
    · exact .inl h
    · cases hq : q1 b with
      | none => exact .inl rfl
      | some o =>
        right
        have : p2 b = none := (hd b).resolve_left (by rw [g1 b o hq]; simp)
        simp [u, h, this]
  · rcases hd b with h' | h'
    · left
      cases hq : q2 b with
      | none => rfl
      | some o => rw [g2 b o hq] at h'; cases h'
    · exact .inr h'
theorem Sat.star_mk (h:Sat w (A::B::l)):Sat w (HP.star A B::l):=by
 obtain ⟨p1,p2,h1,h2,hd,hA,q1,q2,g1,g2,gd,hB,hl⟩:=h
 let u:PH:=⟨λb=>match p1 b with
  | some o=>some o
  | none=>q1 b,p1.e⟩
 have hu1:p1.sub u:=⟨λb o h=>by simp [u,h],rfl⟩
 have hu2:q1.sub u:=⟨λb o h=>by
  have:p1 b=none:=(hd b).resolve_right (by rw [g1 b o h];simp)
  simp [u,this,h],by show q1.e=p1.e;rw [g1.e,h2.e,h1.e]⟩
 refine ⟨u,q2,⟨λb o h=>?_,h1.e⟩,PH.sub_trans g2 h2,λb=>?_,⟨p1,q1,hu1,hu2,PH.disj_sub hd g1,hA,hB⟩,hl⟩
 ·simp only [u] at h
  split at h
  ·rename_i o' ho;obtain rfl:=Option.some.inj h;exact h1 b _ ho
  ·exact h2 b o (g1 b o h)
 ·cases hq:q2 b with
  | none=>exact .inr rfl
  | some o =>
   left
   have h1':p1 b=none:=(hd b).resolve_right (by rw [g2 b o hq];simp)
   have h2':q1 b=none:=(gd b).resolve_right (by rw [hq];simp)
   simp [u,h1',h2']
theorem Sat.get {b:Nat} {o:Obj} (h:Sat w (pt b o::l)):w.heap[b]? = some o:=by
 obtain ⟨p1,p2,h1,h2,hd,hA,hl⟩:=h
 exact h1 b o hA
theorem Sat.at {i:Nat} {b:Nat} {o:Obj} {r:List HP} (h:Sat w l) (i:Nat) (hi:za0 l i=some (pt b o,r):=by rfl):w.heap[b]? = some o:=(h.perm (zb0 hi)).get
def z39 (w:World) (b:Nat) (o:Obj):World:={ w with heap:=w.heap.setIfInBounds b o }
def zsi:Obj->Nat × Nat
 | .cells _ _ fr=>fr
 | _=>(0,0)
theorem zd6 {w:World} {a:Addr}:w.frozen? a=match w.heap[a.block]? with
  | some o=>decide ((zsi o).1<=a.off) && decide (a.off<(zsi o).2)
  | none=>false:=by
 unfold World.frozen?
 split
 ·rename_i h;rw [h];rfl
 ·rename_i h
  split
  ·rename_i o ho
   cases o <;> first|(simp [zsi];done)|skip
   exact (h _ _ _ _ ho).elim
  ·rfl
theorem Sat.set {b:Nat} {o o':Obj} (h:Sat w (pt b o::l)):Sat (z39 w b o') (pt b o'::l):=by
 have z5t:=h.get
 obtain ⟨p1,p2,h1,h2,hd,hA,hl⟩:=h
 have hlt:b<w.heap.size:=(Array.getElem?_eq_some_iff.1 z5t).1
 have hp2:p2 b=none:=(hd b).resolve_left (by rw [show p1 b=some o from hA];simp)
 refine ⟨⟨λc=>if c=b then some o' else none,World.env' (z39 w b o')⟩,p2,⟨λc x h=>?_,rfl⟩,⟨λc x h=>?_,h2.e⟩,λc=>?_,by simp [pt],hl⟩
 ·simp only at h
  split at h
  ·rename_i hc;subst hc;obtain rfl:=Option.some.inj h;simp [World.ph,z39,hlt]
  ·cases h
 ·have hc:c≠b:=λe=>by subst e;rw [hp2] at h;cases h
  have:=h2 c x h
  simpa [World.ph,z39,Array.getElem?_setIfInBounds_ne (Ne.symm hc)] using this
 ·by_cases hc:c=b
  ·subst hc;exact .inr hp2
  ·exact .inl (by simp [hc])
def z016 (w' w:World):Prop:=w'.heap=w.heap/\w'.os=w.os/\w'.output=w.output
theorem Sat.heap {w':World} (h:Sat w l) (he:z016 w' w):Sat w' l:=by
 obtain ⟨e1,e2,e3⟩:=he
 have:World.ph w'=World.ph w:=by
  unfold World.ph World.env'
  rw [e1,e2,e3]
 unfold Sat
 rw [this];exact h
theorem Sat.push {o:Obj} {w':World} (h:Sat w l) (he:w'.heap=w.heap.push o) (h2:w'.os=w.os:=by rfl) (h3:w'.output=w.output:=by rfl):Sat w' (pt w.heap.size o::l):=by
 have henv:World.env' w'=World.env' w:=by unfold World.env';rw [h2,h3]
 unfold Sat at *
 refine ⟨⟨λc=>if c=w.heap.size then some o else none,World.env' w'⟩,World.ph w,⟨λc x h=>?_,rfl⟩,⟨λc x h=>?_,henv.symm⟩,λc=>?_,by simp [pt],h⟩
 ·simp only at h
  split at h
  ·rename_i hc;subst hc;obtain rfl:=Option.some.inj h;simp [World.ph,he]
  ·cases h
 ·have hlt:c<w.heap.size:=(Array.getElem?_eq_some_iff.1 h).1
  have hne:c≠w.heap.size:=by omega
  simpa [World.ph,he,Array.getElem?_push,hne] using h
 ·by_cases hc:c=w.heap.size
  ·subst hc;right;simp [World.ph]
  ·exact .inl (by simp [hc])
def whole (W:World):HP:=λp=>(∀ b o,W.heap[b]? = some o->p b=some o)/\p.e=World.env' W
theorem Sat.whole (w:World):Sat w [Dec.whole w] :=
 ⟨World.ph w,⟨λ_=>none,World.env' w⟩,PH.sub_refl _,⟨(λ_ _ h=>by cases h),rfl⟩,(λ_=>Or.inr rfl),⟨λ_ _ h=>h,rfl⟩,trivial⟩
theorem Sat.of_whole {W:World} (hs:Sat w (Dec.whole W::l)):(∀ (b:Nat) (o:Obj),W.heap[b]? = some o->w.heap[b]? = some o)/\w.os=W.os/\w.output=W.output/\∀ a:Addr,a.block<W.heap.size->w.frozen? a=W.frozen? a:=by
 obtain ⟨p1,p2,h1,h2,hd,⟨hA,he⟩,hl⟩:=hs
 have e:World.env' w=World.env' W:=h1.e.symm.trans he
 unfold World.env' at e
 simp only [Env'.mk.injEq] at e
 have hh:∀ (b:Nat) (o:Obj),W.heap[b]? = some o->w.heap[b]? = some o:=λb o hb=>h1 b o (hA b o hb)
 refine ⟨hh,e.1,e.2,λa ha=>?_⟩
 have hg:W.heap[a.block]? = some W.heap[a.block]:=by simp [ha]
 rw [zd6,zd6,hg,hh _ _ hg]
end
abbrev tt:World->Prop:=λ_=>True
def za4 (P:Program) (T:TypeId):Option Value:=match P.info? T with
 | some i=>i.zero
 | none=>none
section
variable {P:Program} {w:World} {l:List HP} {Q:Post} {S:World->Prop}
theorem wp_must {c:Prop} {k:Prog} (hc:c) (h:k.wp P S w Q):(Prog.must c k).wp P S w Q:=⟨hc,h⟩
theorem wp_lt {p:Pr} {x:p.D} {k:p.D->Prog} (h:(k x).wp P S w Q):(Prog.lt p x k).wp P S w Q:=h
theorem zdw {b:Bool} {p q:Prog} (h1:b=true->p.wp P S w Q) (h2:b=false->q.wp P S w Q):(Prog.ite b p q).wp P S w Q:=⟨h1,h2⟩
theorem z6s {b:Bool} {p q:Prog} (hb:b=true) (h:p.wp P S w Q):(Prog.ite b p q).wp P S w Q:=⟨λ_=>h,λh'=>(by rw [hb] at h';cases h')⟩
theorem z3p {b:Bool} {p q:Prog} (hb:b=false) (h:q.wp P S w Q):(Prog.ite b p q).wp P S w Q:=⟨λh'=>(by rw [hb] at h';cases h'),λ_=>h⟩
theorem z05n {k:Prog} (h:∀ w',z016 w' w->k.wp P S w' Q):(Prog.tick k).wp P S w Q:=h _ ⟨rfl,rfl,rfl⟩
theorem ze {k:Prog} (h:k.wp P tt w Q):(Prog.untick k).wp P S w Q:=h
theorem zeh {p q:Prog} (h1:p.wp P S w Q) (h2:q.wp P S w Q):(Prog.both p q).wp P S w Q:=⟨h1,h2⟩
theorem z44 {e:Nat} {ss:List Sh1} {p:Prog} {k:HL (prims ss)->Prog}
  (h:p.wp P S w (Q.catch e λvs w'=>∃ x,vs=z1b ss x/\(k x).wp P S w' Q)):(Prog.bind e ss p k).wp P S w Q:=h
theorem zm {e:Nat} {ss:List Sh1} {p:Prog} {k:HL (prims ss)->Prog} (M:HL (prims ss)->World->Prop)
  (hp:p.wp P S w (Q.catch e λvs w'=>∃ x,vs=z1b ss x/\M x w')) (hk:∀ x w,M x w->(k x).wp P S w Q):(Prog.bind e ss p k).wp P S w Q :=
 Prog.wp_mono p (λe' vs w h=>⟨λhe=>let ⟨x,hx,hm⟩:=h.1 he;⟨x,hx,hk x w hm⟩,h.2⟩) hp
theorem z0c {e:Nat} {ss:List Sh1} {x:HL (prims ss)} {body:HL (prims ss)->Prog} (I:Nat->HL (prims ss)->World->Prop) (n:Nat) (h0:I n x w)
  (h:∀ n x w,I n x w->(body x).wp P S w (Q.catch e λvs w'=>∃ x' m,m<n/\vs=z1b ss x'/\I m x' w')):(Prog.loop e ss x body).wp P S w Q:=⟨I,⟨n,h0⟩,h⟩
theorem zs1 {e:Nat} {C:List Value->World->Prop} {vs:List Value} (h:C vs w):(Post.catch Q e C) e vs w:=⟨λ_=>h,λh'=>absurd rfl h'⟩
theorem z48 {e:Nat} {C:List Value->World->Prop} {vs:List Value} (h:C vs w):(Prog.done e vs).wp P S w (Post.catch Q e C):=zs1 h
theorem zn {e e':Nat} {C:List Value->World->Prop} {vs:List Value} (h:(Prog.done e' vs).wp P S w Q) (hne:Nat.beq e' e=false:=by rfl):(Prog.done e' vs).wp P S w (Post.catch Q e C) :=
 ⟨λh'=>absurd h' (Nat.ne_of_beq_eq_false hne),λ_=>h⟩
theorem z8i {e e':Nat} {C:List Value->World->Prop} {vs:List Value} (hne:e'≠e) (h:Q e' vs w):(Post.catch Q e C) e' vs w:=⟨λh'=>absurd h' hne,λ_=>h⟩
theorem z8 {f:FuncId} {args:List Value} {s:Sh} {k:HL s.prims->Prog} {R:List Value->World->Prop}
  (hc:Calls P f args.toArray w λe w'=>∃ vs,e=.returned (z90 vs)/\R vs w')
  (h:∀ vs w',R vs w'->∃ x,z90 vs=s.mk x/\S w'/\(k x).wp P S w' Q):(Prog.call f args s k).wp P S w Q:=by
 refine Calls.mono hc λe w' ⟨vs,he,hR⟩=>?_
 obtain ⟨x,hx,hS,hk⟩:=h vs w' hR
 exact ⟨x,by rw [he,hx],hS,hk⟩
theorem run_newVar {T:TypeId} {v:Value}:(newVar T v).run P w=.ok ⟨w.heap.size,0,none⟩ { w with heap:=w.heap.push (.cells v.cells T) }:=by
 simp [newVar,newRow]
theorem z054 {T:TypeId} {z:Value} (hz:za4 P T=some z):(new T).run P w=.ok (.pointer (some ⟨w.heap.size,0,none⟩)) { w with heap:=w.heap.push (.cells z.cells T) }:=by
 have:(zeroValue T).run P w=.ok z w:=by
  unfold za4 at hz
  cases hi:P.info? T with
  | none=>rw [hi] at hz;cases hz
  | some i=>rw [hi] at hz;simp only at hz;simp [zeroValue,typeInfo,hi,hz]
 simp only [new,Instr.alloc,Sem.run_bind,this,Result.andThen_ok,run_newVar,Sem.run_pure]
theorem z33 {b off:Nat} {cs:Array Value} {T:TypeId} {fr:Nat × Nat} (hb:w.heap[b]? = some (.cells cs T fr)):w.cell? ⟨b,off,none⟩=cs[off]? := by
 simp [World.cell?,hb]
theorem z23 (b off n:Nat):(Addr.mk b off none).add n=⟨b,off+n,none⟩:=by
 unfold Addr.add;split
 ·rename_i h;subst h;rfl
 ·rfl
theorem zrg {T:TypeId} {b off:Nat} {cs:Array Value} {T':TypeId} {fr:Nat × Nat} {v:Value} (hT:zfp P T=some false) (hb:w.heap[b]? = some (.cells cs T' fr)) (hc:cs[off]? = some v) :
  (ld T ⟨b,off,none⟩).run P w=.ok v w:=by
 simp only [ld,Instr.loadAt,Instr.sureAddr,loadVar,Sem.run_bind,Sem.run_pure,Result.andThen_ok,z8t hT,Bool.false_eq_true,if_false,run_load,z33 hb,hc]
theorem zcm {b:Nat} {cs:Array Value} {T':TypeId} {fr:Nat × Nat} (hb:w.heap[b]? = some (.cells cs T' fr)) :
  ∀ (n:Nat) {off i:Nat} {acc:Array Value},off+i+n<=cs.size->(loadCellsFrom ⟨b,off,none⟩ i n acc).run P w=.ok (acc++cs.extract (off+i) (off+i+n)) w
 | 0,off,i,acc,h=>by simp [loadCellsFrom];omega
 | n+1,off,i,acc,h=>by
  have hlt:off+i<cs.size:=by omega
  have hc:cs[off+i]? = some cs[off+i]:=by simp [hlt]
  simp only [loadCellsFrom,Sem.run_bind,run_load,z23,z33 hb,hc,Result.andThen_ok]
  rw [zcm hb n (by omega)]
  congr 1
  apply Array.ext'
  simp only [Array.toList_append,Array.toList_push,List.append_assoc,Array.toList_extract,List.extract_eq_take_drop]
  congr 1
  rw [show off+i+(n+1)-(off+i)=n+1 by omega,show off+(i+1)+n-(off+(i+1))=n by omega,show off+(i+1)=off+i+1 by omega]
  rw [List.drop_eq_getElem_cons (l:=cs.toList) (i:=off+i) (by simpa using hlt),List.take_succ_cons]
  simp
theorem zrh {T:TypeId} {b off n:Nat} {cs:Array Value} {T':TypeId} {fr:Nat × Nat} (hT:zfp P T=some true) (hn:sizeOf? P T=some n) (hb:w.heap[b]? = some (.cells cs T' fr)) (hc:off+n<=cs.size) :
  (ld T ⟨b,off,none⟩).run P w=.ok (.agg (cs.extract off (off+n))) w:=by
 simp only [ld,Instr.loadAt,Instr.sureAddr,loadVar,Sem.run_bind,Sem.run_pure,Result.andThen_ok,z8t hT,if_true,run_sizeOf' hn,loadCells,zcm hb n (i:=0) (by omega)]
 simp
def putCells (cs:Array Value):Nat->List Value->Array Value
 | _,[]=>cs
 | off,v::r=>putCells (cs.setIfInBounds off v) (off+1) r
def zcc (fr:Nat × Nat) (lo n:Nat):Prop:=∀ i,lo<=i->i<lo+n->¬ (fr.1<=i/\i<fr.2)
theorem z2o (lo n:Nat):zcc (0,0) lo n:=λi _ _ h=>by simp at h
theorem zhn {b off:Nat} {v:Value} {cs:Array Value} {T':TypeId} {fr:Nat × Nat} (hb:w.heap[b]? = some (.cells cs T' fr)) :
  w.setCell ⟨b,off,none⟩ v=z39 w b (.cells (cs.setIfInBounds off v) T' fr):=by
 unfold World.setCell z39
 congr 1
 apply Array.ext_getElem?
 intro i
 rw [Array.getElem?_modify,Array.getElem?_setIfInBounds]
 have hlt:b<w.heap.size:=(Array.getElem?_eq_some_iff.1 hb).1
 by_cases hi:b=i
 ·subst hi
  have hg:w.heap[b]=.cells cs T' fr:=by
   have:=hb;rw [Array.getElem?_eq_getElem hlt] at this;exact Option.some.inj this
  simp [hg,hlt]
 ·simp [hi]
theorem zk8 {b:Nat} {o o':Obj}:z39 (z39 w b o) b o'=z39 w b o':=by simp [z39]
theorem zlw {b:Nat} {o o':Obj} (hb:w.heap[b]? = some o):(z39 w b o').heap[b]? = some o':=by
 have hlt:b<w.heap.size:=(Array.getElem?_eq_some_iff.1 hb).1
 simp [z39,hlt]
theorem z8d {b:Nat} {T':TypeId} {fr:Nat × Nat}:∀ (vs:List Value) {w:World} {cs:Array Value} {off i:Nat},w.heap[b]? = some (.cells cs T' fr)->off+i+vs.length<=cs.size ->
  zcc fr (off+i) vs.length->(∀ v ∈ vs,v.oneCell'=true)->(storeCells ⟨b,off,none⟩ vs i).run P w=.ok () (z39 w b (.cells (putCells cs (off+i) vs) T' fr))
 | [],w,cs,off,i,hb,hsz,hf,hv=>by
  show Result.ok () w=_
  simp only [putCells]
  congr 1
  unfold z39
  have hlt:b<w.heap.size:=(Array.getElem?_eq_some_iff.1 hb).1
  have:w.heap.setIfInBounds b (.cells cs T' fr)=w.heap:=by
   apply Array.ext_getElem?
   intro j
   rw [Array.getElem?_setIfInBounds]
   by_cases hj:b=j
   ·subst hj
    have hg:w.heap[b]=.cells cs T' fr:=by
     have:=hb;rw [Array.getElem?_eq_getElem hlt] at this;exact Option.some.inj this
    simp [hlt,hg]
   ·simp [hj]
  rw [this]
 | v::r,w,cs,off,i,hb,hsz,hf,hv=>by
  rw [List.length_cons] at hsz hf
  have hlt:off+i<cs.size:=by omega
  have hfz:w.frozen? ⟨b,off+i,none⟩=false:=by
   have:=hf (off+i) (by omega) (by omega)
   simp only [World.frozen?,hb]
   simpa using this
  simp only [storeCells,Sem.run_bind,run_store _ _ _ _ _ (hv v (List.mem_cons_self ..)),z23,z33 hb]
  rw [show cs[off+i]? = some cs[off+i] by simp [hlt]]
  simp only [hfz,Bool.false_eq_true,if_false,Result.andThen_ok,zhn hb]
  rw [z8d r (zlw hb) (by simp;omega) (λj h1 h2=>hf j (by omega) (by omega)) (λv hv'=>hv v (List.mem_cons_of_mem _ hv')),zk8]
  rfl
theorem zhl {T:TypeId} {b off:Nat} {cs:Array Value} {T':TypeId} {fr:Nat × Nat} {v:Value} {n:Nat} (hn:sizeOf? P T=some n) (hb:w.heap[b]? = some (.cells cs T' fr)) (hsz:off+n<=cs.size)
  (hv:v.cells.size=n) (hone:∀ x ∈ v.cells.toList,x.oneCell'=true) (hf:zcc fr off n) :
  (st T ⟨b,off,none⟩ v).run P w=.ok () (z39 w b (.cells (putCells cs off v.cells.toList) T' fr)):=by
 simp only [st,Instr.storeAt,Instr.sureAddr,storeVar,Sem.run_bind,Sem.run_pure,Result.andThen_ok,run_sizeOf' hn]
 rw [if_neg (by simp [hv])]
 exact z8d _ (i:=0) hb (by simp [hv];omega) (by simpa [hv] using hf) hone
end
section
variable {P:Program} {w:World} {Q:Post}
abbrev Ret (P:Program) (f:FuncId) (args:Array Value) (w:World) (R:List Value->World->Prop):Prop :=
 Calls P f args w λe w'=>∃ vs,e=.returned (z90 vs)/\R vs w'
end
def slc (T:TypeId) (sz:Nat) (l:Sl) (cs:List Value):HP:=λp =>
 (l.a=none/\l.len=0/\l.cap=0/\cs=[]) \/
 ∃ b off arr fr,l.a=some ⟨b,off,none⟩/\p b=some (.cells arr T fr)/\cs.length=l.len*sz/\l.len<=l.cap/\off+l.cap*sz<=arr.size /\
  (∀ i,i<cs.length->arr[off+i]? = cs[i]?)/\zcc fr off (l.cap*sz)
def Rd (w:World) (sz:Nat) (l:Sl) (cs:List Value):Prop :=
 cs.length=l.len*sz/\(l.len=0\/∃ b off arr T fr,l.a=some ⟨b,off,none⟩/\w.heap[b]? = some (.cells arr T fr)/\∀ i,i<cs.length->arr[off+i]? = cs[i]?)
section
variable {P:Program} {w:World} {l:List HP} {Q:Post} {S:World->Prop} {T:TypeId} {sz:Nat} {x y:Sl} {cs ds:List Value}
theorem Sat.rd (h:Sat w (slc T sz x cs::l)):Rd w sz x cs:=by
 obtain ⟨p1,p2,h1,h2,hd,hA,hl⟩:=h
 rcases hA with ⟨ha,hl0,hc0,rfl⟩|⟨b,off,arr,fr,ha,hb,hlen,hle,hsz,hcs,hf⟩
 ·exact ⟨by simp [hl0],.inl hl0⟩
 ·exact ⟨hlen,.inr ⟨b,off,arr,T,fr,ha,h1 b _ hb,hcs⟩⟩
theorem slc_nil (T:TypeId) (sz:Nat):∀ p,slc T sz ⟨none,0,0⟩ [] p:=λp=>.inl ⟨rfl,rfl,rfl,rfl⟩
theorem Sat.slc_nil (h:Sat w l):Sat w (slc T sz ⟨none,0,0⟩ []::l) :=
 ⟨⟨λ_=>none,World.env' w⟩,World.ph w,⟨(λ_ _ h=>by cases h),rfl⟩,PH.sub_refl _,(λ_=>Or.inl rfl),Dec.slc_nil T sz _,h⟩
theorem Sat.slc_of {b:Nat} {arr:Array Value} {n:Nat} (h:Sat w (pt b (.cells arr T)::l)) (hn:arr.size=n*sz):Sat w (slc T sz ⟨some ⟨b,0,none⟩,n,n⟩ arr.toList::l) :=
 h.imp λp hp=>.inr ⟨b,0,arr,(0,0),rfl,hp,by simp [hn],Nat.le_refl _,by simp [hn],λi _=>by simp,z2o _ _⟩
theorem getElem?_putCells:∀ (vs:List Value) {arr:Array Value} {o i:Nat},o+vs.length<=arr.size ->
  (putCells arr o vs)[i]? = if o<=i/\i<o+vs.length then vs[i-o]? else arr[i]?
 | [],arr,o,i,h=>by simp only [putCells,List.length_nil,Nat.add_zero];rw [if_neg (by omega)]
 | v::r,arr,o,i,h=>by
  simp only [List.length_cons] at h
  simp only [putCells,List.length_cons]
  rw [getElem?_putCells r (by simp;omega),Array.getElem?_setIfInBounds]
  by_cases h1:o+1<=i/\i<o+1+r.length
  ·rw [if_pos h1,if_pos (by omega),show i-o=(i-(o+1))+1 by omega,List.getElem?_cons_succ]
  ·rw [if_neg h1]
   by_cases h2:o=i
   ·subst h2
    rw [if_pos rfl,if_pos (by omega),if_pos (by omega)]
    simp
   ·rw [if_neg h2,if_neg (by omega)]
theorem z4l:∀ (vs:List Value) {arr:Array Value} {o:Nat},(putCells arr o vs).size=arr.size
 | [],arr,o=>rfl
 | v::r,arr,o=>by simp only [putCells];rw [z4l r];simp
theorem zaz {b:Nat} {T':TypeId} {fr:Nat × Nat}:∀ (vs:List Value) {w:World} {arr:Array Value} {o:Nat},w.heap[b]? = some (.cells arr T' fr) ->
  w.setCells b o vs=z39 w b (.cells (putCells arr o vs) T' fr)
 | [],w,arr,o,hb=>by
  simp only [World.setCells,putCells]
  unfold z39
  have hlt:b<w.heap.size:=(Array.getElem?_eq_some_iff.1 hb).1
  have:w.heap.setIfInBounds b (.cells arr T' fr)=w.heap:=by
   apply Array.ext_getElem?
   intro j
   rw [Array.getElem?_setIfInBounds]
   by_cases hj:b=j
   ·subst hj
    have hg:w.heap[b]=.cells arr T' fr:=by
     have:=hb;rw [Array.getElem?_eq_getElem hlt] at this;exact Option.some.inj this
    simp [hlt,hg]
   ·simp [hj]
  rw [this]
 | v::r,w,arr,o,hb=>by
  simp only [World.setCells,putCells]
  rw [zhn hb,zaz r (zlw hb),zk8]
theorem zxn (hk:∃ e',P.underlying T=some (.slice e')) (hy:Rd w sz y ds) (h1:∀ u ∈ ds,u.oneCell'=true):Src P sz T y.v y.len ds w:=by
 obtain ⟨e',hk⟩:=hk
 obtain ⟨hlen,h0|⟨b,off,arr,T',fr,ha,hb,hcs⟩⟩:=hy
 ·have hds:ds=[]:=List.length_eq_zero_iff.1 (by rw [hlen,h0,Nat.zero_mul])
  subst hds
  obtain ⟨a,ln,cp⟩:=y
  simp only at h0
  subst h0
  cases a with
  | none=>exact Src.ofNil w hk cp
  | some a=>exact Src.ofSlice w hk a 0 cp [] (by simp) (λj u h=>by simp at h) h1
 ·obtain ⟨a,ln,cp⟩:=y
  simp only at ha hlen
  subst ha
  refine Src.ofSlice w hk ⟨b,off,none⟩ ln cp ds hlen (λj u hj=>?_) h1
  have hlt:j<ds.length:=(List.getElem?_eq_some_iff.1 hj).1
  rw [z23,z33 hb,hcs j hlt,hj]
theorem zl8 {t tx ty:TypeId} {i:TypeInfo} {z:Value} (ht:P.underlying t=some (.slice T)) (hi:P.info? T=some i) (hz:i.zero=some z) (hzs:z.cells.size=i.size)
  (hs:Sat w (slc T i.size x cs::l)) {v:Value} {n:Nat} (hsrc:Src P i.size tx v n ds w) (hbound:(x.len+n)*i.bytes<=140737488355328) (h63:x.len+n<=9223372036854775807) :
  ∃ r w',(app t tx ty x.v v).run P w=.ok r.v w'/\r.len=x.len+n/\Sat w' (slc T i.size r (cs++ds)::l)/\(∀ b,b<w.heap.size->(∀ o,x.a≠some ⟨b,o,none⟩)->w'.heap[b]? = w.heap[b]?)/\w.heap.size<=w'.heap.size:=by
 have hrd:=hs.rd
 by_cases hroom:x.len+n<=x.cap
 ·
  have hs':=hs
  obtain ⟨p1,p2,h1,h2,hd,hA,hl⟩:=hs
  rcases hA with ⟨ha,hl0,hc0,rfl⟩|⟨b,off,arr,fr,ha,hb,hlen,hle,hsz,hcs,hf⟩
  ·
   have hn0:n=0:=by omega
   subst hn0
   have hds:ds=[]:=List.length_eq_zero_iff.1 (by rw [hsrc.newsLen,Nat.zero_mul])
   subst hds
   obtain ⟨a,ln,cp⟩:=x
   simp only at ha hl0 hc0
   subst ha hl0 hc0
   refine ⟨⟨none,0,0⟩,w,?_,rfl,hs',λ_ _ _=>rfl,Nat.le_refl _⟩
   rcases hsrc.kind with ⟨e',hk⟩|hk <;>
    simp [app,Builtin.append_,run_underlying ht,run_underlying hk,sizeOf,typeInfo,hi,hsrc.len,hsrc.cells]
  ·have hbw:w.heap[b]? = some (.cells arr T fr):=h1 b _ hb
   obtain ⟨a,ln,cp⟩:=x
   simp only at ha hlen hle hsz hf hroom
   subst ha
   have hfit:off+ln*i.size+ds.length<=arr.size:=by
    rw [hsrc.newsLen,Nat.add_assoc,<- Nat.add_mul]
    exact Nat.le_trans (Nat.add_le_add_left (Nat.mul_le_mul_right _ hroom) _) hsz
   have hrun:=run_append_room_src (P:=P) w t tx ty T i ht hi b off ln cp v n ds hsrc hroom
    (λj hj=>by rw [z33 hbw];simp;omega)
    (λj hj=>by
     have h3:ln*i.size+ds.length<=cp*i.size:=by rw [hsrc.newsLen,<- Nat.add_mul];exact Nat.mul_le_mul_right _ hroom
     have:=hf (off+ln*i.size+j) (by omega) (by omega)
     simp only [World.frozen?,hbw]
     simpa using this)
   rw [zaz ds hbw] at hrun
   refine ⟨⟨some ⟨b,off,none⟩,ln+n,cp⟩,_,hrun,rfl,?_,λb' hb' hne=>?_,by simp [z39]⟩
   ·have hset:Sat w (pt b (.cells arr T fr)::l):=⟨p1,p2,h1,h2,hd,hb,hl⟩
    refine hset.set.imp λp hp=>.inr ⟨b,off,_,fr,rfl,hp,?_,hroom,?_,λj hj=>?_,hf⟩
    ·rw [List.length_append,hlen,hsrc.newsLen,Nat.add_mul]
    ·rw [z4l];exact hsz
    ·rw [List.length_append,hlen] at hj
     rw [getElem?_putCells ds hfit]
     by_cases hjl:j<ln*i.size
     ·rw [if_neg (by omega),hcs j (by omega),List.getElem?_append_left (by omega)]
     ·rw [if_pos (by omega),List.getElem?_append_right (by omega),hlen]
      congr 1;omega
   ·have:b≠b':=λe=>hne off (by rw [e])
    simp [z39,Array.getElem?_setIfInBounds_ne this]
 ·
  have hold:(Builtin.firstCells i.size x.len x.v).run P w.drew=.ok cs.toArray w.drew:=by
   have hrd':Rd w.drew i.size x cs:=hrd
   have hkk:(∃ e',P.underlying t=some (.slice e')):=⟨T,ht⟩
   obtain ⟨hlen,h0|⟨b,off,arr,T',fr,ha,hb,hcs⟩⟩:=hrd'
   ·have hcs0:cs=[]:=List.length_eq_zero_iff.1 (by rw [hlen,h0,Nat.zero_mul])
    subst hcs0
    obtain ⟨a,ln,cp⟩:=x
    simp only at h0
    subst h0
    cases a with
    | none=>simp [Builtin.firstCells]
    | some a=>exact run_firstCells_some (P:=P) w.drew i.size 0 a 0 cp [] (by simp) (λj u h=>by simp at h)
   ·obtain ⟨a,ln,cp⟩:=x
    simp only at ha hlen
    subst ha
    refine run_firstCells_some (P:=P) w.drew i.size ln ⟨b,off,none⟩ ln cp cs hlen (λj u hj=>?_)
    have hlt:j<cs.length:=(List.getElem?_eq_some_iff.1 hj).1
    rw [z23,z33 hb,hcs j hlt,hj]
  have hrun:=run_append_grow_src (P:=P) w t tx ty T i z ht hi hz x.a x.len x.cap cs hold v n ds hsrc (by omega) (by omega) (growslice_fits (by omega) hbound)
  have hge:=grownCap_ge w (x.len+n) x.cap T
  refine ⟨⟨some ⟨w.heap.size,0,none⟩,x.len+n,grownCap w (x.len+n) x.cap T⟩,_,hrun,rfl,?_,λb hb _=>?_,(by show _<=(w.heap.push _).size;simp)⟩
  ·have hp:=(hs.tail).push (w':=w.drew.alloc (.cells ((cs++ds).toArray++Builtin.zeroCells z.cells (grownCap w (x.len+n) x.cap T-(x.len+n))) T)) (o:=.cells ((cs++ds).toArray++Builtin.zeroCells z.cells (grownCap w (x.len+n) x.cap T-(x.len+n))) T) rfl
   refine hp.imp λp hp=>.inr ⟨w.heap.size,0,_,(0,0),rfl,hp,?_,hge,?_,λj hj=>?_,z2o _ _⟩
   ·rw [List.length_append,hrd.1,hsrc.newsLen,Nat.add_mul]
   ·simp only [Array.size_append,List.size_toArray,List.length_append,size_zeroCells,hrd.1,hsrc.newsLen,hzs,Nat.zero_add]
    rw [<- Nat.add_mul,<- Nat.add_mul]
    exact Nat.mul_le_mul_right _ (by omega)
   ·rw [Nat.zero_add,Array.getElem?_append_left (by simpa using hj)]
    simp
  ·show (w.heap.push _)[b]? = _
   simp [Array.getElem?_push,Nat.ne_of_lt hb]
def z42 (P:Program) (t:TypeId) (n:Nat) (ps:Array (Nat × Value)):Option (TypeId × Array Value) :=
 match P.underlying t with
 | some (.slice el)=>match P.info? el with
  | some i=>if n*i.size>16777216 then none else match (if n*i.size=0 then some #[] else (i.zero.map Value.cells)) with
   | some zero=>match Instr.fill (λj=>some (j*i.size,i.size)) ((Array.range (n*i.size)).map (zero[· % zero.size]!)) ps.toList with
    | some cells=>some (el,cells)
    | none=>none
   | none=>none
  | none=>none
 | _=>none
theorem zhk {t:TypeId} {n:Nat} {ps:Array (Nat × Value)} {el:TypeId} {cells:Array Value} (h:z42 P t n ps=some (el,cells)) :
  (Instr.buildSlice t n ps).run P w=.ok (.slice (some ⟨w.heap.size,0,none⟩) n n) { w with heap:=w.heap.push (.cells cells el) }:=by
 unfold z42 at h
 split at h
 ·rename_i el' ht
  split at h
  ·rename_i i hi
   split at h
   ·cases h
   ·rename_i hsmall
    split at h
    ·rename_i zero hzero
     split at h
     ·rename_i cells' hfill
      obtain ⟨rfl,rfl⟩:=Prod.mk.inj (Option.some.inj h)
      have hsz:sizeOf? P el'=some i.size:=by unfold sizeOf?;rw [hi]
      have hs:¬ (n*i.size>2 ^ 24):=by simpa using hsmall
      by_cases h0:n*i.size=0
      ·rw [if_pos h0] at hzero
       obtain rfl:=Option.some.inj hzero
       simp only [Instr.buildSlice,Sem.run_bind,run_underlying' ht,Result.andThen_ok,run_sizeOf' hsz,if_neg hs,if_pos h0,Sem.run_pure,hfill,newRow,run_newObj]
      ·rw [if_neg h0] at hzero
       cases hzz:i.zero with
       | none=>rw [hzz] at hzero;cases hzero
       | some z =>
        rw [hzz] at hzero
        obtain rfl:=Option.some.inj hzero
        have hzv:(zeroValue el').run P w=.ok z w:=by simp [zeroValue,typeInfo,hi,hzz]
        simp only [Instr.buildSlice,Sem.run_bind,run_underlying' ht,Result.andThen_ok,run_sizeOf' hsz,if_neg hs,if_neg h0,hzv,Sem.run_pure,hfill,newRow,run_newObj]
     ·cases h
    ·cases h
  ·cases h
 ·cases h
theorem Rd.pt {b:Nat} {arr:Array Value} {n:Nat} (h:Sat w (pt b (.cells arr T)::l)) (hn:arr.size=n*sz):Rd w sz ⟨some ⟨b,0,none⟩,n,n⟩ arr.toList :=
 (h.slc_of hn).rd
theorem Rd.cell {i j:Nat} (h:Rd w sz x cs) (hi:i<x.len) (hj:j<sz):∃ b off arr T fr,x.a=some ⟨b,off,none⟩/\w.heap[b]? = some (.cells arr T fr)/\arr[off+(i*sz+j)]? = cs[i*sz+j]? /\ i*sz+j<cs.length:=by
 obtain ⟨hlen,h0|⟨b,off,arr,T',fr,ha,hb,hcs⟩⟩:=h
 ·omega
 ·have hlt:i*sz+j<cs.length:=by
   rw [hlen]
   calc i*sz+j<i*sz+sz:=by omega
    _=(i+1)*sz:=by rw [Nat.add_mul,Nat.one_mul]
    _<=x.len*sz:=Nat.mul_le_mul_right _ hi
  exact ⟨b,off,arr,T',fr,ha,hb,hcs _ hlt,hlt⟩
end
class Foc (l:List HP) (H:HP) (r:outParam (List HP)):Prop where
 perm:l.Perm (H::r)
instance Foc.head {H:HP} {l:List HP}:Foc (H::l) H l:=⟨.refl _⟩
instance (priority:=low) Foc.tail {x H:HP} {l r:List HP} [h:Foc l H r]:Foc (x::l) H (x::r):=⟨(List.Perm.cons x h.perm).trans (.swap _ _ _)⟩
class FocB (l:List HP) (b:Nat) (o:outParam Obj) (r:outParam (List HP)):Prop where
 perm:l.Perm (pt b o::r)
instance FocB.head {b:Nat} {o:Obj} {l:List HP}:FocB (pt b o::l) b o l:=⟨.refl _⟩
instance (priority:=low) FocB.tail {x:HP} {b:Nat} {o:Obj} {l r:List HP} [h:FocB l b o r]:FocB (x::l) b o (x::r):=⟨(List.Perm.cons x h.perm).trans (.swap _ _ _)⟩
class FocS (l:List HP) (x:Sl) (T:outParam TypeId) (sz:outParam Nat) (cs:outParam (List Value)) (r:outParam (List HP)):Prop where
 perm:l.Perm (slc T sz x cs::r)
instance FocS.head {x:Sl} {T:TypeId} {sz:Nat} {cs:List Value} {l:List HP}:FocS (slc T sz x cs::l) x T sz cs l:=⟨.refl _⟩
instance (priority:=low) FocS.tail {y:HP} {x:Sl} {T:TypeId} {sz:Nat} {cs:List Value} {l r:List HP} [h:FocS l x T sz cs r]:FocS (y::l) x T sz cs (y::r):=⟨(List.Perm.cons y h.perm).trans (.swap _ _ _)⟩
class Split (l pre:List HP) (F:outParam (List HP)):Prop where
 perm:l.Perm (pre++F)
instance Split.nil {l:List HP}:Split l [] l:=⟨.refl _⟩
instance Split.cons {l r pre F:List HP} {H:HP} [h1:Foc l H r] [h2:Split r pre F]:Split l (H::pre) F:=⟨h1.perm.trans (.cons H h2.perm)⟩
class One (P:Program) (T:TypeId):Prop where
 ok:zfp P T=some false/\sizeOf? P T=some 1
class Agg (P:Program) (T:TypeId) (n:outParam Nat):Prop where
 ok:zfp P T=some true/\sizeOf? P T=some n
section
variable {P:Program} {w:World} {l r:List HP} {Q:Post} {S:World->Prop} {b:Nat} {o:Obj}
theorem Sat.focB (b:Nat) [h:FocB l b o r] (hs:Sat w l):Sat w (pt b o::r):=hs.perm h.perm
theorem Sat.focS (x:Sl) {T:TypeId} {sz:Nat} {cs:List Value} [h:FocS l x T sz cs r] (hs:Sat w l):Sat w (slc T sz x cs::r):=hs.perm h.perm
theorem Sat.split {pre F:List HP} [h:Split l pre F] (hs:Sat w l):Sat w (pre++F):=hs.perm h.perm
theorem Sat.blk (b:Nat) [h:FocB l b o r] (hs:Sat w l):w.heap[b]? = some o:=(hs.focB b).get
section
variable {T T':TypeId} {off:Nat} {cs:Array Value} {fr:Nat × Nat} {g:Prop}
theorem z07m {n:Nat} {vs:Array Value} {k:Prog} (hs:Sat w l) [hb:FocB l b (.cells cs T' (0,0)) r] [hT:Agg P T n] (hsz:Nat.ble (off+n) cs.size=true) (hv:vs.size=n) (hone:∀ x ∈ vs.toList,x.oneCell'=true)
  (h:∀ w',Sat w' (pt b (.cells (putCells cs off vs.toList) T' (0,0))::r)->S w'/\k.wp P S w' Q):(Prog.actU (st T ⟨b,off,none⟩ (.agg vs)) k).wp P S w Q:=by
 have:=zhl (P:=P) (v:=.agg vs) hT.ok.2 (hs.focB b).get (Nat.le_of_ble_eq_true hsz) hv hone (z2o _ _)
 have h':=h _ (hs.focB b).set
 exact ⟨_,this,h'.1,h'.2⟩
theorem wp_new' {z:Value} {k:Addr × Unit->Prog} (hz:za4 P T=some z) (hs:Sat w l)
  (h:∀ b w',Sat w' (pt b (.cells z.cells T)::l)->S w'/\(k (⟨b,0,none⟩,())).wp P S w' Q):(Prog.act (new T) sA k).wp P S w Q :=
 have h':=h _ _ (hs.push (o:=.cells z.cells T) (w':={ w with heap:=w.heap.push (.cells z.cells T) }) rfl)
 ⟨(⟨w.heap.size,0,none⟩,()),_,z054 hz,h'.1,h'.2⟩
theorem wp_callS {f:FuncId} {args:List Value} {s:Sh} {k:HL s.prims->Prog} {vs₀:List Value} {R:World->Prop} (x:HL s.prims)
  (hc:Ret P f args.toArray w λvs w'=>vs=vs₀/\R w') (hx:z90 vs₀=s.mk x)
  (h:∀ w',R w'->S w'/\(k x).wp P S w' Q):(Prog.call f args s k).wp P S w Q :=
 z8 hc λvs w' ⟨hv,hR⟩=>⟨x,by rw [hv,hx],h w' hR⟩
end
end
class Zer (P:Program) (T:TypeId) (z:outParam Value):Prop where
 ok:za4 P T=some z
class SlT (P:Program) (t:TypeId) (el:outParam TypeId) (sz bytes:outParam Nat):Prop where
 ok:P.underlying t=some (.slice el)/\(P.info? el).map (λi=>(i.size,i.bytes,i.zero.map (·.cells.size)))=some (sz,bytes,some sz)
section
variable {P:Program} {w:World} {l r:List HP} {Q:Post} {S:World->Prop}
theorem z05m {T:TypeId} {z:Value} [hz:Zer P T z] {k:Addr × Unit->Prog} (hs:Sat w l)
  (h:∀ b w',Sat w' (pt b (.cells z.cells T)::l)->S w'/\(k (⟨b,0,none⟩,())).wp P S w' Q):(Prog.act (new T) sA k).wp P S w Q:=wp_new' hz.ok hs h
theorem SlT.parts {t el:TypeId} {sz bytes:Nat} (h:SlT P t el sz bytes):∃ i z,P.info? el=some i/\i.size=sz/\i.bytes=bytes/\i.zero=some z/\z.cells.size=i.size:=by
 obtain ⟨h1,h2⟩:=h.ok
 cases hi:P.info? el with
 | none=>rw [hi] at h2;cases h2
 | some i =>
  rw [hi] at h2
  simp only [Option.map_some,Option.some.injEq,Prod.mk.injEq] at h2
  obtain ⟨e1,e2,e3⟩:=h2
  cases hz:i.zero with
  | none=>rw [hz] at e3;cases e3
  | some z=>rw [hz] at e3;exact ⟨i,z,rfl,e1,e2,hz,by simp only [Option.map_some,Option.some.injEq] at e3;rw [e3,e1]⟩
theorem ztg {t tx ty el el':TypeId} {sz bytes sz' bytes':Nat} {x y:Sl} {cs ds:List Value} {k:Sl × Unit->Prog} [ht:SlT P t el sz bytes] [htx:SlT P tx el' sz' bytes'] (hs:Sat w l) [hf:FocS l x el sz cs r]
  (hy:Rd w sz y ds) (h1:∀ u ∈ ds,u.oneCell'=true) (hbound:(x.len+y.len)*bytes<=140737488355328) (h63:x.len+y.len<=9223372036854775807)
  (h:∀ z w',z.len=x.len+y.len->Sat w' (slc el sz z (cs++ds)::r)->S w'/\(k (z,())).wp P S w' Q):(Prog.act (app t tx ty x.v y.v) sL k).wp P S w Q:=by
 obtain ⟨i,z,hi,rfl,rfl,hz,hzs⟩:=ht.parts
 obtain ⟨z,w',hrun,hlen,hs',_⟩:=zl8 (ty:=ty) ht.ok.1 hi hz hzs (hs.focS x) (zxn ⟨_,htx.ok.1⟩ hy h1) hbound h63
 have h':=h z w' hlen hs'
 exact ⟨(z,()),w',hrun,h'.1,h'.2⟩
theorem z07f {t ty el:TypeId} {sz bytes:Nat} {x:Sl} {cs:List Value} {ps:Array (Nat × Value)} {arr:Array Value} {k:Sl × Unit->Prog} [ht:SlT P t el sz bytes] (hs:Sat w l) [hf:FocS l x el sz cs r]
  (hps:z42 P t 1 ps=some (el,arr)) (harr:arr.size=sz) (h1:∀ u ∈ arr.toList,u.oneCell'=true) (hbound:(x.len+1)*bytes<=140737488355328) (h63:x.len+1<=9223372036854775807)
  (h:∀ z w',z.len=x.len+1->Sat w' (slc el sz z (cs++arr.toList)::r)->S w'/\(k (z,())).wp P S w' Q) (hS:∀ w',Sat w' l->S w') :
  (Prog.act (Instr.buildSlice t 1 ps) sL (u1 λy=>.act (app t t ty x.v y.v) sL k)).wp P S w Q:=by
 have hp:=hs.push (o:=.cells arr el) (w':={ w with heap:=w.heap.push (.cells arr el) }) rfl
 refine ⟨(⟨some ⟨w.heap.size,0,none⟩,1,1⟩,()),_,zhk hps,hS _ hp.tail,?_⟩
 have hrd:Rd { w with heap:=w.heap.push (.cells arr el) } sz ⟨some ⟨w.heap.size,0,none⟩,1,1⟩ arr.toList:=Rd.pt hp (by simp [harr])
 exact ztg (ht:=ht) (htx:=ht) (x:=x) (y:=⟨some ⟨w.heap.size,0,none⟩,1,1⟩) hp.tail hrd h1 hbound h63 h
end
theorem ziu (x:Int):IntKind.wrap .i64 x=if x % 18446744073709551616>=9223372036854775808 then x % 18446744073709551616-18446744073709551616 else x % 18446744073709551616:=by
 by_cases h:x % 18446744073709551616>=9223372036854775808
 ·rw [if_pos h];simp [IntKind.wrap,IntKind.bits,IntKind.signed,h]
 ·rw [if_neg h];simp [IntKind.wrap,IntKind.bits,IntKind.signed];omega
theorem w64 {x:Int} (h0 : -9223372036854775808<=x) (h1:x<9223372036854775808):IntKind.wrap .i64 x=x:=by
 rw [ziu];split <;> omega
theorem wS {i:Nat} (h:i<9223372036854775807):IntKind.wrap .i64 ((i:Int)+1)=((i+1:Nat):Int):=by
 rw [w64 (by omega) (by omega)];omega
def At (w:World) (A:Addr) (vs:List Value):Prop :=
 ∃ b o arr T fr,A=⟨b,o,none⟩/\w.heap[b]? = some (.cells arr T fr)/\∀ i,i<vs.length->arr[o+i]? = vs[i]?
section
variable {P:Program} {w:World} {l:List HP} {Q:Post} {S:World->Prop} {A:Addr} {vs:List Value} {T:TypeId}
theorem At.add (h:At w A vs) (n:Nat):At w (A.add n) (vs.drop n):=by
 obtain ⟨b,o,arr,T,fr,rfl,hb,hc⟩:=h
 refine ⟨b,o+n,arr,T,fr,by rw [z23],hb,λi hi=>?_⟩
 rw [List.length_drop] at hi
 rw [Nat.add_assoc,hc _ (by omega),List.getElem?_drop]
theorem At.take (h:At w A vs) (n:Nat):At w A (vs.take n):=by
 obtain ⟨b,o,arr,T,fr,rfl,hb,hc⟩:=h
 refine ⟨b,o,arr,T,fr,rfl,hb,λi hi=>?_⟩
 rw [List.length_take] at hi
 rw [hc _ (by omega),List.getElem?_take,if_pos (by omega)]
theorem At.ld1 [hT:One P T] {v:Value} (h:At w A vs) (hv:vs[0]? = some v):(ld T A).run P w=.ok v w:=by
 obtain ⟨b,o,arr,T,fr,rfl,hb,hc⟩:=h
 have hlt:0<vs.length:=(List.getElem?_eq_some_iff.1 hv).1
 exact zrg hT.ok.1 hb (by have:=hc 0 hlt;rw [Nat.add_zero] at this;rw [this,hv])
theorem At.fld [hT:One P T] {v:Value} {n:Nat} (h:At w A vs) (hv:vs[n]? = some v):(ld T (A.add n)).run P w=.ok v w :=
 (h.add n).ld1 (by rw [List.getElem?_drop];exact hv)
theorem At.ldA {n:Nat} [hT:Agg P T n] (h:At w A vs) (hn:vs.length=n):(ld T A).run P w=.ok (.agg vs.toArray) w:=by
 obtain ⟨b,o,arr,T',fr,rfl,hb,hc⟩:=h
 have hsz:o+n<=arr.size\/n=0:=by
  by_cases h0:n=0
  ·exact .inr h0
  ·left
   have:=hc (n-1) (by omega)
   rw [List.getElem?_eq_getElem (by omega)] at this
   have:=(Array.getElem?_eq_some_iff.1 this).1
   omega
 rcases hsz with hsz|h0
 ·rw [zrh hT.ok.1 hT.ok.2 hb hsz]
  congr 2
  apply Array.ext_getElem?
  intro i
  rw [Array.getElem?_extract]
  by_cases hi:i<n
  ·rw [if_pos (by omega),hc i (by omega)];simp
  ·rw [if_neg (by omega)];simp [List.getElem?_eq_none (by omega:vs.length<=i)]
 ·subst h0
  obtain rfl:=List.length_eq_zero_iff.1 hn
  simp only [ld,Instr.loadAt,Instr.sureAddr,loadVar,Sem.run_bind,Sem.run_pure,Result.andThen_ok,z8t hT.ok.1,if_true,run_sizeOf' hT.ok.2,loadCells,loadCellsFrom]
theorem z60 {α:Type} {enc:α->List Value} {sz:Nat} (henc:∀ x,(enc x).length=sz):∀ (xs:List α),(xs.flatMap enc).length=xs.length*sz
 | []=>by simp
 | x::r=>by simp [henc,z60 henc r,Nat.add_mul,Nat.add_comm]
theorem zft {α:Type} {enc:α->List Value} {sz:Nat} (henc:∀ x,(enc x).length=sz):∀ (xs:List α) (i:Nat) (hi:i<xs.length),((xs.flatMap enc).drop (i*sz)).take sz=enc xs[i]
 | x::r,0,hi=>by simp [henc,List.take_left' (henc x)]
 | x::r,i+1,hi=>by
  simp only [List.flatMap_cons,List.getElem_cons_succ]
  rw [Nat.add_mul,Nat.one_mul,Nat.add_comm,List.drop_append,List.drop_eq_nil_of_le (by rw [henc];omega),henc,Nat.add_sub_cancel_left,List.nil_append]
  exact zft henc r i (by simpa using hi)
theorem Rd.len {sz:Nat} {x:Sl} {α:Type} {enc:α->List Value} {xs:List α} (henc:∀ x,(enc x).length=sz) (hsz:0<sz) (h:Rd w sz x (xs.flatMap enc)):x.len=xs.length:=by
 have:=h.1
 rw [z60 henc] at this
 exact (Nat.eq_of_mul_eq_mul_right hsz this).symm
theorem Rd.el {sz:Nat} {x:Sl} {α:Type} {enc:α->List Value} {xs:List α} (henc:∀ x,(enc x).length=sz) (h:Rd w sz x (xs.flatMap enc)) (hne:0<x.len) :
  ∃ a,x.a=some a/\∀ (i:Nat) (hi:i<xs.length),At w (a.add (i*sz)) (enc xs[i]):=by
 obtain ⟨hlen,h0|⟨b,off,arr,T',fr,ha,hb,hcs⟩⟩:=h
 ·omega
 ·refine ⟨_,ha,λi hi=>?_⟩
  have h1:At w ⟨b,off,none⟩ (xs.flatMap enc):=⟨b,off,arr,T',fr,rfl,hb,hcs⟩
  have h2:=(h1.add (i*sz)).take sz
  rwa [zft henc xs i hi] at h2
end
section
variable {P:Program} {w:World} {l r:List HP} {Q:Post} {S:World->Prop} {T T':TypeId} {sz:Nat} {x:Sl} {cs:List Value} {a A:Addr} {q:Nat}
theorem z056 {v:Value} {vs:List Value} (hs:Sat w (slc T sz x cs::l)) (hx:x.a=some a) (hA:∀ b o,a=⟨b,o,none⟩->A=⟨b,o+q,none⟩) (hn:sizeOf? P T'=some vs.length) (hv:v.cells.toList=vs)
  (hone:∀ u ∈ vs,u.oneCell'=true) (hq:q+vs.length<=cs.length) :
  ∃ w',(st T' A v).run P w=.ok () w'/\Sat w' (slc T sz x (cs.take q++vs++cs.drop (q+vs.length))::l):=by
 obtain ⟨p1,p2,h1,h2,hd,hH,hl⟩:=hs
 rcases hH with ⟨ha,-⟩|⟨b,off,arr,fr,ha,hb,hlen,hle,hsz,hcs,hf⟩
 ·rw [ha] at hx;cases hx
 ·rw [ha] at hx
  obtain rfl:=Option.some.inj hx
  obtain rfl:=hA b off rfl
  have hbw:w.heap[b]? = some (.cells arr T fr):=h1 b _ hb
  have hcl:cs.length<=x.cap*sz:=by rw [hlen];exact Nat.mul_le_mul_right _ hle
  have hvs:v.cells.size=vs.length:=by rw [<- hv];simp
  have hrun:=zhl (P:=P) (off:=off+q) hn hbw (by omega) hvs (by rw [hv];exact hone) (λi hi1 hi2=>hf i (by omega) (by omega))
  rw [hv] at hrun
  refine ⟨_,hrun,?_⟩
  have hset:Sat w (pt b (.cells arr T fr)::l):=⟨p1,p2,h1,h2,hd,hb,hl⟩
  refine hset.set.imp λp hp=>.inr ⟨b,off,_,fr,ha,hp,?_,hle,?_,λi hi=>?_,hf⟩
  ·simp only [List.length_append,List.length_take,List.length_drop];omega
  ·rw [z4l];exact hsz
  ·simp only [List.length_append,List.length_take,List.length_drop] at hi
   rw [getElem?_putCells vs (by omega)]
   by_cases h1:i<q
   ·rw [if_neg (by omega),hcs i (by omega),List.append_assoc,List.getElem?_append_left (by rw [List.length_take];omega),List.getElem?_take,if_pos h1]
   ·by_cases h2:i<q+vs.length
    ·rw [if_pos (by omega),List.append_assoc,List.getElem?_append_right (by rw [List.length_take];omega),List.length_take,List.getElem?_append_left (by omega)]
     congr 1;omega
    ·rw [if_neg (by omega),hcs i (by omega),List.getElem?_append_right (by rw [List.length_append,List.length_take];omega),List.getElem?_drop,List.length_append,List.length_take]
     congr 1;omega
theorem zy3 {v:Value} {vs:List Value} {k:Prog} (hs:Sat w l) [hf:FocS l x T sz cs r] (hx:x.a=some a) (hA:∀ b o,a=⟨b,o,none⟩->A=⟨b,o+q,none⟩) (hn:sizeOf? P T'=some vs.length) (hv:v.cells.toList=vs)
  (hone:∀ u ∈ vs,u.oneCell'=true) (hq:q+vs.length<=cs.length) (h:∀ w',Sat w' (slc T sz x (cs.take q++vs++cs.drop (q+vs.length))::r)->S w'/\k.wp P S w' Q) :
  (Prog.actU (st T' A v) k).wp P S w Q:=by
 obtain ⟨w',hrun,hs'⟩:=z056 (P:=P) (hs.focS x) hx hA hn hv hone hq
 have h':=h w' hs'
 exact ⟨w',hrun,h'.1,h'.2⟩
theorem z83 {k':IntKind} {x y:Int} {k:Int->Prog} (hxy:x=y) (h:(k y).wp P S w Q):(Prog.lt (.int k') x k).wp P S w Q:=by subst hxy;exact h
theorem z29 {e:Nat} {us us':List Value} (hv:us=us') (h:(Prog.done e us').wp P S w Q):(Prog.done e us).wp P S w Q:=by rw [hv];exact h
theorem zfu {α:Type} {enc:α->List Value} (henc:∀ x,(enc x).length=sz) (y:α):∀ (xs:List α) (i:Nat),i<xs.length ->
  (xs.flatMap enc).take (i*sz)++enc y++(xs.flatMap enc).drop (i*sz+sz)=(xs.set i y).flatMap enc
 | x::r,0,hi=>by simp [List.drop_left' (henc x)]
 | x::r,i+1,hi=>by
  have ih:=zfu henc y r i (by simpa using hi)
  simp only [List.flatMap_cons,List.set_cons_succ]
  rw [<- ih,show (i+1)*sz=sz+i*sz by rw [Nat.add_mul,Nat.one_mul,Nat.add_comm],List.take_append,List.take_of_length_le (by rw [henc];omega),henc,Nat.add_sub_cancel_left,
   show sz+i*sz+sz=sz+(i*sz+sz) by omega,List.drop_append,List.drop_eq_nil_of_le (by rw [henc];omega),henc,Nat.add_sub_cancel_left,List.nil_append]
  simp only [List.append_assoc]
theorem zy2 {α:Type} {enc:α->List Value} {xs:List α} {i:Nat} {y:α} {v:Value} {k:Prog} (henc:∀ x,(enc x).length=sz) (hs:Sat w l) [hf:FocS l x T sz (xs.flatMap enc) r] (hx:x.a=some a) (hi:i<xs.length)
  (hA:∀ b o,a=⟨b,o,none⟩->A=⟨b,o+i*sz,none⟩) (hn:sizeOf? P T'=some sz) (hv:v.cells.toList=enc y) (hone:∀ u ∈ enc y,u.oneCell'=true)
  (h:∀ w',Sat w' (slc T sz x ((xs.set i y).flatMap enc)::r)->S w'/\k.wp P S w' Q):(Prog.actU (st T' A v) k).wp P S w Q:=by
 refine zy3 (q:=i*sz) (vs:=enc y) hs hx hA (by rw [henc];exact hn) hv hone ?_ ?_
 ·rw [henc,z60 henc]
  calc i*sz+sz=(i+1)*sz:=by rw [Nat.add_mul,Nat.one_mul]
   _<=xs.length*sz:=Nat.mul_le_mul_right _ hi
 ·intro w' hs'
  rw [henc,zfu henc y xs i hi] at hs'
  exact h w' hs'
theorem zjh:∀ (vs:List Value) (k:Nat) (arr:Array Value),(vs.zipIdx k).foldl (λcs (c,j)=>cs.setIfInBounds j c) arr=putCells arr k vs
 | [],_,_=>rfl
 | v::r,k,arr=>by rw [List.zipIdx_cons,List.foldl_cons,putCells];exact zjh r (k+1) _
theorem zdl {arr vs:Array Value} (h:arr.size=vs.size):putCells arr 0 vs.toList=vs:=by
 apply Array.ext_getElem?
 intro i
 rw [getElem?_putCells _ (by simp [h])]
 split
 ·simp
 ·rename_i h'
  rw [Array.getElem?_eq_none (by simp at h';omega),Array.getElem?_eq_none (by simp at h';omega)]
theorem bs1 {t:TypeId} {bytes:Nat} {v:Value} {arr:Array Value} [ht:SlT P t T sz bytes] (hv:v.cells=arr) (h0:Nat.beq sz 0=false) (h1:Nat.ble sz 16777216=true) (hsz:arr.size=sz:=by rfl):z42 P t 1 #[(0,v)]=some (T,arr):=by
 obtain ⟨i,z,hi,h2,h3,h4,h5⟩:=ht.parts
 have h0:=Nat.ne_of_beq_eq_false h0
 have h1:=Nat.le_of_ble_eq_true h1
 subst h2
 unfold z42
 simp only [ht.ok.1,hi,Nat.one_mul]
 rw [if_neg (by omega),if_neg h0,h4]
 have:∀ a:Array Value,a.size=i.size->Instr.fill (λj=>some (j*i.size,i.size)) a [(0,v)]=some arr:=λa ha=>by
  simp only [Instr.fill]
  rw [hv,if_neg (by simp [hsz,ha])]
  congr 1
  simp only [Nat.zero_mul,Nat.zero_add,<- Array.foldl_toList]
  rw [Array.toList_zipIdx,zjh arr.toList 0 a,zdl (by rw [ha,hsz])]
 rw [Option.map_some]
 dsimp only
 rw [this _ (by simp)]
theorem z07g {α:Type} {enc:α->List Value} {xs:List α} {y:α} {t ty:TypeId} {bytes:Nat} {ps:Array (Nat × Value)} {arr:Array Value} {k:Sl × Unit->Prog} [ht:SlT P t T sz bytes] (henc:∀ x,(enc x).length=sz) (hsz:0<sz) (hs:Sat w l)
  [hf:FocS l x T sz (xs.flatMap enc) r] (hps:z42 P t 1 ps=some (T,arr)) (harr:arr.toList=enc y) (h1:∀ u ∈ enc y,u.oneCell'=true) (hb:(xs.length+1)*bytes<=140737488355328) (h63:xs.length+1<=9223372036854775807)
  (h:∀ z w',Sat w' (slc T sz z ((xs++[y]).flatMap enc)::r)->S w'/\(k (z,())).wp P S w' Q) (hS:∀ w',Sat w' l->S w') :
  (Prog.act (Instr.buildSlice t 1 ps) sL (u1 λy=>.act (app t t ty x.v y.v) sL k)).wp P S w Q:=by
 have hl:x.len=xs.length:=(hs.focS x).rd.len henc hsz
 refine z07f hs hps (by rw [<- Array.length_toList,harr,henc]) (by rw [harr];exact h1) (by rw [hl];exact hb) (by rw [hl];exact h63) (λz w' _ hs'=>h z w' ?_) hS
 rw [harr] at hs'
 simpa using hs'
end
section
variable {P:Program} {w:World} {l r:List HP} {Q:Post} {S:World->Prop} {T T':TypeId} {sz:Nat} {x:Sl} {cs:List Value} {a A:Addr} {q:Nat}
theorem zyy {α:Type} {enc:α->List Value} (henc:∀ x,(enc x).length=sz) {xs:List α} {i j:Nat} {y:α} {v:Value} (hi:i<xs.length) (hj:j<sz) (hy:enc y=(enc xs[i]).set j v) :
  (xs.flatMap enc).take (i*sz+j)++[v]++(xs.flatMap enc).drop (i*sz+j+1)=(xs.set i y).flatMap enc:=by
 have hl:=z60 henc xs
 have hle:i*sz+sz<=xs.length*sz:=by
  calc i*sz+sz=(i+1)*sz:=by rw [Nat.add_mul,Nat.one_mul]
   _<=xs.length*sz:=Nat.mul_le_mul_right _ hi
 rw [<- zfu henc y xs i hi,hy]
 have hg:=zft henc xs i hi
 generalize xs.flatMap enc=L at *
 apply List.ext_getElem?
 intro k
 rw [<- hg,List.append_assoc,List.append_assoc]
 by_cases k1:k<i*sz
 ·rw [List.getElem?_append_left (by simp;omega),List.getElem?_append_left (by simp;omega),List.getElem?_take,List.getElem?_take,if_pos (by omega),if_pos k1]
 ·rw [List.getElem?_append_right (l₁:=L.take (i*sz)) (by simp;omega)]
  have e1:(L.take (i*sz)).length=i*sz:=by simp;omega
  rw [e1]
  by_cases k2:k<i*sz+sz
  ·rw [List.getElem?_append_left (l₂:=L.drop (i*sz+sz)) (by simp;omega),List.getElem?_set]
   by_cases k3:k=i*sz+j
   ·subst k3
    rw [if_pos (by omega),if_pos (by simp;omega),List.getElem?_append_right (by simp;omega)]
    have:i*sz+j-(L.take (i*sz+j)).length=0:=by simp;omega
    rw [this];rfl
   ·rw [if_neg (by omega),List.getElem?_take,if_pos (by omega),List.getElem?_drop]
    by_cases k4:k<i*sz+j
    ·rw [List.getElem?_append_left (by simp;omega),List.getElem?_take,if_pos k4];congr 1;omega
    ·rw [List.getElem?_append_right (by simp;omega),List.getElem?_append_right (by simp;omega),List.getElem?_drop]
     congr 1
     simp
     omega
  ·rw [List.getElem?_append_right (l₂:=L.drop (i*sz+sz)) (by simp;omega),List.getElem?_append_right (by simp;omega),List.getElem?_append_right (by simp;omega),List.getElem?_drop,List.getElem?_drop]
   congr 1
   simp
   omega
theorem z07n {α:Type} {enc:α->List Value} {xs:List α} {i j:Nat} {y:α} {v:Value} {k:Prog} (henc:∀ x,(enc x).length=sz) (hs:Sat w l) [hf:FocS l x T sz (xs.flatMap enc) r] [h1:One P T'] (hx:x.a=some a) (hi:i<xs.length) (hj:j<sz)
  (hA:∀ b o,a=⟨b,o,none⟩->A=⟨b,o+(i*sz+j),none⟩) (hv:v.cells=#[v]) (hone:v.oneCell'=true) (hy:enc y=(enc xs[i]).set j v)
  (h:∀ w',Sat w' (slc T sz x ((xs.set i y).flatMap enc)::r)->S w'/\k.wp P S w' Q):(Prog.actU (st T' A v) k).wp P S w Q:=by
 refine zy3 (q:=i*sz+j) (vs:=[v]) hs hx hA h1.ok.2 (by rw [hv]) (by simpa using hone) ?_ ?_
 ·rw [z60 henc]
  calc i*sz+j+1<=(i+1)*sz:=by rw [Nat.add_mul,Nat.one_mul];omega
   _<=xs.length*sz:=Nat.mul_le_mul_right _ hi
 ·intro w' hs'
  have:=zyy henc hi hj hy
  rw [List.length_singleton] at hs'
  rw [this] at hs'
  exact h w' hs'
end
class ByT (P:Program) (t:TypeId):Prop where
 ok:∃ e,P.underlying t=some (.slice e)/\P.underlying e=some (.int .u8)
class StT (P:Program) (t:TypeId):Prop where
 ok:P.underlying t=some .string
def u8s (ns:List Int):List Value:=ns.map λn=>.int .u8 n
section
variable {P:Program} {w:World} {l r:List HP} {Q:Post} {S:World->Prop} {T T' t d:TypeId} {b off:Nat} {A:Addr} {cs:Array Value}
theorem At.str [ht:ByT P t] [hd:StT P d] {ns:List Int} {len cap:Nat} (h:At w A (u8s ns)) (hl:len=ns.length):(convert t d (.slice (some A) len cap)).run P w=.ok (.string (strOfNums ns)) w:=by
 obtain ⟨e,h1,h2⟩:=ht.ok
 obtain ⟨b,o,arr,T,fr,rfl,hb,hc⟩:=h
 refine run_convert_bytes_arg w t e h1 h2 b o len cap ns hl.symm (λi hi=>?_) d hd.ok
 rw [z33 hb,hc i (by simp [u8s];omega)]
 simp [u8s,show i<ns.length by omega]
end
class BP (b:Bool) (p:outParam Prop):Prop where
 ok:b=true↔p
instance (priority:=low) BP.any {b:Bool}:BP b (b=true):=⟨.rfl⟩
instance BP.dec {p:Prop} [Decidable p]:BP (decide p) p:=⟨decide_eq_true_iff⟩
instance BP.or {a b:Bool} {p q:Prop} [h1:BP a p] [h2:BP b q]:BP (a || b) (p\/q):=⟨by rw [Bool.or_eq_true,h1.ok,h2.ok]⟩
instance BP.and {a b:Bool} {p q:Prop} [h1:BP a p] [h2:BP b q]:BP (a && b) (p/\q):=⟨by rw [Bool.and_eq_true,h1.ok,h2.ok]⟩
instance BP.not {a:Bool} {p:Prop} [h1:BP a p]:BP (!a) (¬ p):=⟨by rw [Bool.not_eq_true',<- h1.ok];simp⟩
instance BP.eqI {x y:Int}:BP (x == y) (x=y):=⟨by simp⟩
instance BP.neI {x y:Int}:BP (x != y) (x≠y):=⟨by simp⟩
instance BP.eqB {x y:Bool}:BP (x == y) (x=y):=⟨by simp⟩
instance BP.neB {x y:Bool}:BP (x != y) (x≠y):=⟨by simp⟩
theorem zcy {s t:ByteArray}:ByteArray.toList s=ByteArray.toList t↔s=t:=by
 refine ⟨λh=>?_,λh=>by rw [h]⟩
 have h2:(s.data == t.data)=true:=(beq_toListBytes s t).trans (beq_iff_eq.2 h)
 cases s;cases t
 exact congrArg ByteArray.mk (eq_of_beq h2)
instance BP.eqS {s t:ByteArray}:BP (ByteArray.toList s == ByteArray.toList t) (s=t):=⟨by rw [beq_iff_eq,zcy]⟩
instance BP.nilA {α:Type} {o:Option α}:BP (Option.isNone o) (o=none):=⟨by simp⟩
instance BP.tru:BP true True:=⟨by simp⟩
instance BP.fls:BP false False:=⟨by simp⟩
class IsP (p:Pr) (v:Value) (x:outParam p.D):Prop where
 ok:v=p.mk x
instance IsP.int {k:IntKind} {n:Int}:IsP (.int k) (.int k n) n:=⟨rfl⟩
instance IsP.bool {b:Bool}:IsP .bool (.bool b) b:=⟨rfl⟩
instance IsP.str {s:ByteArray}:IsP .str (.string s) s:=⟨rfl⟩
instance IsP.ptr {o:Option Addr}:IsP .ptr (.pointer o) o:=⟨rfl⟩
instance IsP.adr {a:Addr}:IsP .adr (.pointer (some a)) a:=⟨rfl⟩
instance (priority:=low) IsP.slc {a:Option Addr} {l c:Nat}:IsP .slc (.slice a l c) ⟨a,l,c⟩:=⟨rfl⟩
instance IsP.slv {x:Sl}:IsP .slc (.slice x.a x.len x.cap) x:=⟨rfl⟩
instance IsP.map {o:Option Nat}:IsP .map (.map o) o:=⟨rfl⟩
instance IsP.any {v:Value}:IsP .any v v:=⟨rfl⟩
class IsHL (ps:List Pr) (vs:List Value) (x:outParam (HL ps)):Prop where
 ok:vs=HL.vals ps x
instance IsHL.nil:IsHL [] [] ():=⟨rfl⟩
instance IsHL.cons {p:Pr} {ps:List Pr} {v:Value} {vs:List Value} {x:p.D} {y:HL ps} [h1:IsP p v x] [h2:IsHL ps vs y]:IsHL (p::ps) (v::vs) (x,y) :=
 ⟨by rw [h1.ok,h2.ok]⟩
class IsV (ss:List Sh1) (vs:List Value) (x:outParam (HL (prims ss))):Prop where
 ok:vs=z1b ss x
instance IsV.nil:IsV [] [] ():=⟨rfl⟩
instance IsV.cons {p:Pr} {ss:List Sh1} {v:Value} {vs:List Value} {x:p.D} {y:HL (prims ss)} [h1:IsP p v x] [h2:IsV ss vs y]:IsV (.one p::ss) (v::vs) ((x,y):p.D × HL (prims ss)) :=
 ⟨by rw [h1.ok,h2.ok];rfl⟩
class IsR (s:Sh) (vs:List Value) (x:outParam (HL s.prims)):Prop where
 ok:z90 vs=s.mk x
instance IsR.one {p:Pr} {v:Value} {x:p.D} [h:IsP p v x]:IsR (.one (.one p)) [v] ((x,()):p.D × Unit):=⟨by rw [h.ok];rfl⟩
instance IsR.agg {ps:List Pr} {vs:List Value} {x:HL ps} [h:IsHL ps vs x]:IsR (.one (.agg ps)) [.agg vs.toArray] x:=⟨by rw [h.ok];rfl⟩
instance IsR.nil:IsR (.tup []) [] ():=⟨rfl⟩
instance IsR.tup {s1 s2:Sh1} {l:List Sh1} {v1 v2:Value} {vs:List Value} {x:HL (prims (s1::s2::l))} [h:IsV (s1::s2::l) (v1::v2::vs) x]:IsR (.tup (s1::s2::l)) (v1::v2::vs) x :=
 ⟨by
  show Value.tuple (v1::v2::vs).toArray=.tuple (z1b (s1::s2::l) x).toArray
  rw [<- h.ok]⟩
class AddrIs (a:Addr) (b:outParam Nat) (off:outParam Nat):Prop where
 ok:a=⟨b,off,none⟩
instance AddrIs.at {b off:Nat}:AddrIs ⟨b,off,none⟩ b off:=⟨rfl⟩
instance (priority:=high) AddrIs.add0 {a:Addr} {b off:Nat} [h:AddrIs a b off]:AddrIs (a.add 0) b off:=⟨by rw [h.ok,z23];rfl⟩
instance AddrIs.addn {a:Addr} {b n:Nat} [h:AddrIs a b 0]:AddrIs (a.add n) b n:=⟨by rw [h.ok,z23,Nat.zero_add]⟩
class GetL (l:List Value) (n:Nat) (v:outParam Value):Prop where
 ok:l[n]? = some v
instance GetL.zero {v:Value} {l:List Value}:GetL (v::l) 0 v:=⟨rfl⟩
instance GetL.succ {u v:Value} {l:List Value} {n:Nat} [h:GetL l n v]:GetL (u::l) (n+1) v:=⟨by rw [List.getElem?_cons_succ];exact h.ok⟩
class SetL (l:List Value) (n:Nat) (v:Value) (l':outParam (List Value)):Prop where
 ok:l.set n v=l'/\n<l.length
instance SetL.zero {u v:Value} {l:List Value}:SetL (u::l) 0 v (v::l):=⟨rfl,by simp⟩
instance SetL.succ {u v:Value} {l l':List Value} {n:Nat} [h:SetL l n v l']:SetL (u::l) (n+1) v (u::l'):=⟨by rw [List.set_cons_succ,h.ok.1],by have:=h.ok.2;simp;omega⟩
class LenIs (l:List Value) (n:Nat):Prop where
 ok:l.length=n
instance LenIs.nil:LenIs [] 0:=⟨rfl⟩
instance LenIs.cons {v:Value} {l:List Value} {n:Nat} [h:LenIs l n]:LenIs (v::l) (n+1):=⟨by rw [List.length_cons,h.ok]⟩
class Cells (v:Value) (cs:outParam (List Value)):Prop where
 ok:v.cells=cs.toArray
instance Cells.agg {l:List Value}:Cells (.agg l.toArray) l:=⟨rfl⟩
instance Cells.int {k:IntKind} {n:Int}:Cells (.int k n) [.int k n]:=⟨rfl⟩
instance Cells.bool {b:Bool}:Cells (.bool b) [.bool b]:=⟨rfl⟩
instance Cells.str {s:ByteArray}:Cells (.string s) [.string s]:=⟨rfl⟩
instance Cells.ptr {o:Option Addr}:Cells (.pointer o) [.pointer o]:=⟨rfl⟩
instance Cells.slc {a:Option Addr} {l c:Nat}:Cells (.slice a l c) [.slice a l c]:=⟨rfl⟩
instance Cells.map {o:Option Nat}:Cells (.map o) [.map o]:=⟨rfl⟩
class Ones (vs:List Value):Prop where
 ok:∀ u ∈ vs,u.oneCell'=true
instance Ones.nil:Ones []:=⟨by simp⟩
theorem Ones.mk' {v:Value} {vs:List Value} (h1:v.oneCell'=true) (h:Ones vs):Ones (v::vs):=⟨λu hu=>(List.mem_cons.1 hu).elim (λe=>by rw [e];exact h1) (h.ok u)⟩
instance Ones.int {k:IntKind} {n:Int} {vs:List Value} [h:Ones vs]:Ones (.int k n::vs):=.mk' rfl h
instance Ones.bool {b:Bool} {vs:List Value} [h:Ones vs]:Ones (.bool b::vs):=.mk' rfl h
instance Ones.str {s:ByteArray} {vs:List Value} [h:Ones vs]:Ones (.string s::vs):=.mk' rfl h
instance Ones.ptr {o:Option Addr} {vs:List Value} [h:Ones vs]:Ones (.pointer o::vs):=.mk' rfl h
instance Ones.slc {a:Option Addr} {l c:Nat} {vs:List Value} [h:Ones vs]:Ones (.slice a l c::vs):=.mk' rfl h
instance Ones.map {o:Option Nat} {vs:List Value} [h:Ones vs]:Ones (.map o::vs):=.mk' rfl h
class Fo {κ σ : Type} (l:List HP) (pred : κ -> σ -> HP) (key : κ) (st:outParam σ) (r:outParam (List HP)):Prop where
 perm:l.Perm (pred key st::r)
instance Fo.head {κ σ : Type} {l:List HP} {pred : κ -> σ -> HP} {key : κ} {st : σ}:Fo (pred key st::l) pred key st l:=⟨.refl _⟩
instance (priority:=low) Fo.tail {κ σ : Type} {x:HP} {l r:List HP} {pred : κ -> σ -> HP} {key : κ} {st : σ} [h:Fo l pred key st r]:Fo (x::l) pred key st (x::r) :=
 ⟨(List.Perm.cons x h.perm).trans (.swap _ _ _)⟩
class Sub (l l':List HP):Prop where
 sub:∀ p,z7e l p->z7e l' p
instance (priority:=high) Sub.refl {l:List HP}:Sub l l:=⟨λ_ h=>h⟩
instance Sub.cons {l r l':List HP} {H:HP} [h1:Foc l H r] [h2:Sub r l']:Sub l (H::l'):=⟨λp h=>by
 obtain ⟨p1,p2,a,b,hd,hH,hr⟩:=zam h1.perm h
 exact ⟨p1,p2,a,b,hd,hH,h2.sub _ hr⟩⟩
instance (priority:=low) Sub.drop {x:HP} {l l':List HP} [h:Sub l l']:Sub (x::l) l':=⟨λp hs=>by
 obtain ⟨p1,p2,a,b,hd,hH,hr⟩:=hs
 exact h.sub _ (z9v b hr)⟩
theorem Sat.sub {w:World} {l l':List HP} (hs:Sat w l) [h:Sub l l']:Sat w l':=h.sub _ hs
class FocR (l:List HP) (x:Sl) (sz:outParam Nat) (cs:outParam (List Value)):Prop where
 rd:∀ w,Sat w l->Rd w sz x cs
instance FocR.head {T:TypeId} {x:Sl} {sz:Nat} {cs:List Value} {l:List HP}:FocR (slc T sz x cs::l) x sz cs:=⟨λ_ h=>h.rd⟩
instance (priority:=low) FocR.tail {H:HP} {x:Sl} {sz:Nat} {cs:List Value} {l:List HP} [h:FocR l x sz cs]:FocR (H::l) x sz cs:=⟨λw hs=>h.rd w hs.tail⟩
class Enc1 {α:Type} (enc:α->List Value) (p:Pr) (dec:outParam (α->p.D)):Prop where
 ok:∀ y,enc y=[p.mk (dec y)]
class EncA {α:Type} (enc:α->List Value) (ps:List Pr) (dec:outParam (α->HL ps)):Prop where
 ok:∀ y,enc y=HL.vals ps (dec y)
class EncN {α:Type} (enc:α->List Value) (sz:outParam Nat):Prop where
 len:∀ y,(enc y).length=sz
 pos:0<sz
 one:∀ y,∀ u ∈ enc y,u.oneCell'=true
def z4g (n:Int):List Value:=[.int .i64 n]
def zyu (n:Int):List Value:=[.int .u8 n]
def z1k (s:ByteArray):List Value:=[.string s]
instance:Enc1 z4g (.int .i64) (λn=>n):=⟨λ_=>rfl⟩
instance:Enc1 zyu (.int .u8) (λn=>n):=⟨λ_=>rfl⟩
instance:Enc1 z1k .str (λn=>n):=⟨λ_=>rfl⟩
instance:EncN z4g 1:=⟨λ_=>rfl,by decide,by simp [z4g,Value.oneCell']⟩
instance:EncN zyu 1:=⟨λ_=>rfl,by decide,by simp [zyu,Value.oneCell']⟩
instance:EncN z1k 1:=⟨λ_=>rfl,by decide,by simp [z1k,Value.oneCell']⟩
theorem z00t {x y:Int} (h:x=y:=by omega) (h0 : -9223372036854775808<=x/\x<9223372036854775808:=by omega):IntKind.wrap .i64 x=y:=by rw [w64 h0.1 h0.2,h]
theorem wu8 {x:Int} (h0:0<=x) (h1:x<256):IntKind.wrap .u8 x=x:=by simp [IntKind.wrap,IntKind.bits,IntKind.signed];omega
theorem ziv {x:Int} (h0:0<=x) (h1:x<18446744073709551616):IntKind.wrap .u64 x=x:=by simp [IntKind.wrap,IntKind.bits,IntKind.signed];omega
class AppU {α:Type} (k:α->Prog) (x:α) (p:outParam Prog):Prop where
 ok:k x=p
instance AppU.u0 {p:Prog} {x:Unit}:AppU (u0 p) x p:=⟨rfl⟩
instance AppU.u1 {α:Type} {f:α->Prog} {a:α}:AppU (u1 f) (a,()) (f a):=⟨rfl⟩
instance AppU.u2 {α β:Type} {f:α->β->Prog} {a:α} {b:β}:AppU (u2 f) (a,b,()) (f a b):=⟨rfl⟩
instance AppU.u3 {α β γ:Type} {f:α->β->γ->Prog} {a:α} {b:β} {c:γ}:AppU (u3 f) (a,b,c,()) (f a b c):=⟨rfl⟩
instance AppU.u4 {α β γ δ:Type} {f:α->β->γ->δ->Prog} {a:α} {b:β} {c:γ} {d:δ}:AppU (u4 f) (a,b,c,d,()) (f a b c d):=⟨rfl⟩
instance AppU.u5 {α β γ δ ε:Type} {f:α->β->γ->δ->ε->Prog} {a:α} {b:β} {c:γ} {d:δ} {e:ε}:AppU (u5 f) (a,b,c,d,e,()) (f a b c d e):=⟨rfl⟩
instance AppU.u6 {α β γ δ ε ζ:Type} {f:α->β->γ->δ->ε->ζ->Prog} {a:α} {b:β} {c:γ} {d:δ} {e:ε} {z:ζ}:AppU (u6 f) (a,b,c,d,e,z,()) (f a b c d e z):=⟨rfl⟩
instance AppU.u7 {α β γ δ ε ζ η:Type} {f:α->β->γ->δ->ε->ζ->η->Prog} {a:α} {b:β} {c:γ} {d:δ} {e:ε} {z:ζ} {y:η}:AppU (u7 f) (a,b,c,d,e,z,y,()) (f a b c d e z y):=⟨rfl⟩
instance AppU.u8 {A0 A1 A2 A3 A4 A5 A6 A7:Type} {f:A0->A1->A2->A3->A4->A5->A6->A7->Prog} {a0:A0} {a1:A1} {a2:A2} {a3:A3} {a4:A4} {a5:A5} {a6:A6} {a7:A7}:AppU (u8 f) (a0,a1,a2,a3,a4,a5,a6,a7,()) (f a0 a1 a2 a3 a4 a5 a6 a7):=⟨rfl⟩
instance AppU.u9 {A0 A1 A2 A3 A4 A5 A6 A7 A8:Type} {f:A0->A1->A2->A3->A4->A5->A6->A7->A8->Prog} {a0:A0} {a1:A1} {a2:A2} {a3:A3} {a4:A4} {a5:A5} {a6:A6} {a7:A7} {a8:A8}:AppU (u9 f) (a0,a1,a2,a3,a4,a5,a6,a7,a8,()) (f a0 a1 a2 a3 a4 a5 a6 a7 a8):=⟨rfl⟩
instance AppU.u10 {A0 A1 A2 A3 A4 A5 A6 A7 A8 A9:Type} {f:A0->A1->A2->A3->A4->A5->A6->A7->A8->A9->Prog} {a0:A0} {a1:A1} {a2:A2} {a3:A3} {a4:A4} {a5:A5} {a6:A6} {a7:A7} {a8:A8} {a9:A9}:AppU (u10 f) (a0,a1,a2,a3,a4,a5,a6,a7,a8,a9,()) (f a0 a1 a2 a3 a4 a5 a6 a7 a8 a9):=⟨rfl⟩
instance AppU.u11 {A0 A1 A2 A3 A4 A5 A6 A7 A8 A9 A10:Type} {f:A0->A1->A2->A3->A4->A5->A6->A7->A8->A9->A10->Prog} {a0:A0} {a1:A1} {a2:A2} {a3:A3} {a4:A4} {a5:A5} {a6:A6} {a7:A7} {a8:A8} {a9:A9} {a10:A10}:AppU (u11 f) (a0,a1,a2,a3,a4,a5,a6,a7,a8,a9,a10,()) (f a0 a1 a2 a3 a4 a5 a6 a7 a8 a9 a10):=⟨rfl⟩
instance AppU.u12 {A0 A1 A2 A3 A4 A5 A6 A7 A8 A9 A10 A11:Type} {f:A0->A1->A2->A3->A4->A5->A6->A7->A8->A9->A10->A11->Prog} {a0:A0} {a1:A1} {a2:A2} {a3:A3} {a4:A4} {a5:A5} {a6:A6} {a7:A7} {a8:A8} {a9:A9} {a10:A10} {a11:A11}:AppU (u12 f) (a0,a1,a2,a3,a4,a5,a6,a7,a8,a9,a10,a11,()) (f a0 a1 a2 a3 a4 a5 a6 a7 a8 a9 a10 a11):=⟨rfl⟩
instance AppU.u13 {A0 A1 A2 A3 A4 A5 A6 A7 A8 A9 A10 A11 A12:Type} {f:A0->A1->A2->A3->A4->A5->A6->A7->A8->A9->A10->A11->A12->Prog} {a0:A0} {a1:A1} {a2:A2} {a3:A3} {a4:A4} {a5:A5} {a6:A6} {a7:A7} {a8:A8} {a9:A9} {a10:A10} {a11:A11} {a12:A12}:AppU (u13 f) (a0,a1,a2,a3,a4,a5,a6,a7,a8,a9,a10,a11,a12,()) (f a0 a1 a2 a3 a4 a5 a6 a7 a8 a9 a10 a11 a12):=⟨rfl⟩
instance AppU.u14 {A0 A1 A2 A3 A4 A5 A6 A7 A8 A9 A10 A11 A12 A13:Type} {f:A0->A1->A2->A3->A4->A5->A6->A7->A8->A9->A10->A11->A12->A13->Prog} {a0:A0} {a1:A1} {a2:A2} {a3:A3} {a4:A4} {a5:A5} {a6:A6} {a7:A7} {a8:A8} {a9:A9} {a10:A10} {a11:A11} {a12:A12} {a13:A13}:AppU (u14 f) (a0,a1,a2,a3,a4,a5,a6,a7,a8,a9,a10,a11,a12,a13,()) (f a0 a1 a2 a3 a4 a5 a6 a7 a8 a9 a10 a11 a12 a13):=⟨rfl⟩
instance AppU.u15 {A0 A1 A2 A3 A4 A5 A6 A7 A8 A9 A10 A11 A12 A13 A14:Type} {f:A0->A1->A2->A3->A4->A5->A6->A7->A8->A9->A10->A11->A12->A13->A14->Prog} {a0:A0} {a1:A1} {a2:A2} {a3:A3} {a4:A4} {a5:A5} {a6:A6} {a7:A7} {a8:A8} {a9:A9} {a10:A10} {a11:A11} {a12:A12} {a13:A13} {a14:A14}:AppU (u15 f) (a0,a1,a2,a3,a4,a5,a6,a7,a8,a9,a10,a11,a12,a13,a14,()) (f a0 a1 a2 a3 a4 a5 a6 a7 a8 a9 a10 a11 a12 a13 a14):=⟨rfl⟩
instance AppU.u16 {A0 A1 A2 A3 A4 A5 A6 A7 A8 A9 A10 A11 A12 A13 A14 A15:Type} {f:A0->A1->A2->A3->A4->A5->A6->A7->A8->A9->A10->A11->A12->A13->A14->A15->Prog} {a0:A0} {a1:A1} {a2:A2} {a3:A3} {a4:A4} {a5:A5} {a6:A6} {a7:A7} {a8:A8} {a9:A9} {a10:A10} {a11:A11} {a12:A12} {a13:A13} {a14:A14} {a15:A15}:AppU (u16 f) (a0,a1,a2,a3,a4,a5,a6,a7,a8,a9,a10,a11,a12,a13,a14,a15,()) (f a0 a1 a2 a3 a4 a5 a6 a7 a8 a9 a10 a11 a12 a13 a14 a15):=⟨rfl⟩
class App {α:Type} (k:α->Prog) (x:α) (p:outParam Prog):Prop where
 ok:k x=p
instance (priority:=low) App.any {α:Type} {k:α->Prog} {x:α}:App k x (k x):=⟨rfl⟩
instance App.ofU {α:Type} {k:α->Prog} {x:α} {p:Prog} [h:AppU k x p]:App k x p:=⟨h.ok⟩
section
variable {P:Program} {w:World} {l r:List HP} {Q:Post} {S:World->Prop} {b off:Nat} {T T':TypeId} {g:Prop}
theorem zl {α:Type} {k:α->Prog} {x:α} {p:Prog} [h:AppU k x p] (hp:p.wp P S w Q):(k x).wp P S w Q:=by rw [h.ok];exact hp
theorem zf {c:Bool} {c':Prop} [h:BP c c'] {p q:Prog} (h1:c'->p.wp P S w Q) (h0:¬ c'->q.wp P S w Q):(Prog.ite c p q).wp P S w Q :=
 ⟨λhc=>h1 (h.ok.1 hc),λhc=>h0 λhp=>by rw [h.ok.2 hp] at hc;cases hc⟩
theorem z0u {c:Bool} {c':Prop} [h:BP c c'] {p q:Prog} (h1:p.wp P S w Q) (hc:c':=by first|trivial|assumption|omega|(simp;done)):(Prog.ite c p q).wp P S w Q :=
 z6s (h.ok.2 hc) h1
theorem z03    {c : Bool} {c' : Prop} [h : BP c c'] {p q : Prog} (h1 : q.wp P S w Q) (hc : ¬ c' := by first | trivial | assumption | omega | (simp; done)) : (Prog.ite c p q).wp P S w Q :=
  z3p      (by cases c; · rfl
               · exact absurd (h.ok.1 rfl) hc) h1
theorem z02 {k:Prog} (hs:Sat w l) (h:∀ w',Sat w' l->k.wp P S w' Q):(Prog.tick k).wp P S w Q:=z05n λw' hw=>h w' (hs.heap hw)
theorem z1c {x:Int} {k:Int->Prog} (h:(k x).wp P S w Q) (h0 : -9223372036854775808<=x/\x<9223372036854775808:=by omega):(Prog.lt (.int .i64) (IntKind.wrap .i64 x) k).wp P S w Q:=by
 show (k (IntKind.wrap .i64 x)).wp P S w Q
 rw [w64 h0.1 h0.2];exact h
theorem z2a {k':IntKind} {x y:Int} {k:Int->Prog} (h:(k y).wp P S w Q) (hxy:x=y:=by first|exact rfl|((try simp (disch:=omega) only [w64,wu8,ziv]);omega)):(Prog.lt (.int k') x k).wp P S w Q:=by subst hxy;exact h
theorem zi {a:Addr} {f:Addr->Prog} (h:(f a).wp P S w Q):(Prog.ex [.adr] (c1 λx=>some a=some x) (u1 f)).wp P S w Q:=⟨(a,()),rfl,h⟩
theorem z0n {a:Addr} {f:Addr->Prog} (h:(f a).wp P S w Q):(Prog.ex [.adr] (c1 λx=>g->some a=some x) (u1 f)).wp P S w Q:=⟨(a,()),λ_=>rfl,h⟩
theorem zg {e:Nat} {ss:List Sh1} {vs:List Value} {x:HL (prims ss)} {M:HL (prims ss)->World->Prop} [h:IsV ss vs x] (hm:M x w) :
  (Prog.done e vs).wp P S w (Q.catch e λvs w'=>∃ x,vs=z1b ss x/\M x w'):=⟨λ_=>⟨x,h.ok,hm⟩,λh'=>absurd rfl h'⟩
theorem z5a {e:Nat} {ss:List Sh1} {vs:List Value} {x:HL (prims ss)} {k:HL (prims ss)->Prog} {p:Prog} {Q':Post} [h:IsV ss vs x] [ha:App k x p] (hp:p.wp P S w Q') :
  (Prog.done e vs).wp P S w (Q.catch e λvs w'=>∃ x,vs=z1b ss x/\(k x).wp P S w' Q'):=⟨λ_=>⟨x,h.ok,by rw [ha.ok];exact hp⟩,λh'=>absurd rfl h'⟩
theorem z0z {e:Nat} {ss:List Sh1} {vs:List Value} {x:HL (prims ss)} {n:Nat} {I:Nat->HL (prims ss)->World->Prop} [h:IsV ss vs x] (m:Nat) (hm:I m x w) (hlt:m<n:=by omega) :
  (Prog.done e vs).wp P S w (Q.catch e λvs w'=>∃ x' m,m<n/\vs=z1b ss x'/\I m x' w'):=⟨λ_=>⟨x,m,hlt,h.ok,hm⟩,λh'=>absurd rfl h'⟩
theorem zd {s:Sh} {vs:List Value} {x:HL s.prims} {k:HL s.prims->Prog} {p:Prog} [h:IsR s vs x] [ha:App k x p] {Z:Prop} (hk:p.wp P S w Q) (hS:Z:=by trivial):∃ x,z90 vs=s.mk x/\Z/\(k x).wp P S w Q:=⟨x,h.ok,hS,by rw [ha.ok];exact hk⟩
theorem z07 {a:Addr} {vs:List Value} {fr:Nat × Nat} {v:Value} {p:Pr} {x:p.D} (hs:Sat w l) [ha:AddrIs a b off] [hb:FocB l b (.cells vs.toArray T' fr) r] [hT:One P T] [hg:GetL vs off v] [hp:IsP p v x] :
  (ld T a).run P w=.ok ((Sh.one (.one p)).mk (x,())) w:=by
 have:=zrg (P:=P) (off:=off) (v:=v) hT.ok.1 (hs.focB b).get (by simpa using hg.ok)
 rw [hp.ok] at this
 rw [ha.ok]
 cases p <;> exact this
theorem zb {a:Addr} {vs:List Value} {fr:Nat × Nat} {v:Value} {p:Pr} {x:p.D} {f:p.D->Prog} (hs:Sat w l) [ha:AddrIs a b off] [hb:FocB l b (.cells vs.toArray T' fr) r] [hT:One P T] [hg:GetL vs off v] [hp:IsP p v x]
  (h:(f x).wp P S w Q):(Prog.read g (ld T a) (.one (.one p)) (u1 f)).wp P S w Q :=
 ⟨(x,()),λ_=>z07 (T:=T) hs,h⟩
theorem z0s {a:Addr} {vs:List Value} {fr:Nat × Nat} {v:Value} {p:Pr} {x:p.D} {f:p.D->Prog} (hs:Sat w l) [ha:AddrIs a b off] [hb:FocB l b (.cells vs.toArray T' fr) r] [hT:One P T] [hg:GetL vs off v] [hp:IsP p v x]
  (h:(f x).wp P (λw'=>S w'/\(g->(ld T a).run P w'=.ok ((Sh.one (.one p)).mk (x,())) w')) w Q):(Prog.hold g (ld T a) (.one (.one p)) (u1 f)).wp P S w Q :=
 ⟨(x,()),λ_=>z07 (T:=T) hs,h⟩
theorem z0d {a:Addr} {vs:List Value} {fr:Nat × Nat} {ps:List Pr} {x:HL ps} {n:Nat} (hs:Sat w l) [ha:AddrIs a b 0] [hb:FocB l b (.cells vs.toArray T' fr) r] [hT:Agg P T n] [hx:IsHL ps vs x] [hn:LenIs vs n] :
  (ld T a).run P w=.ok ((Sh.one (.agg ps)).mk x) w:=by
 have hn:=hn.ok
 rw [ha.ok,zrh (P:=P) hT.ok.1 hT.ok.2 (hs.focB b).get (by simp [hn])]
 simp only [Nat.zero_add,<- hn]
 congr 2
 rw [<- hx.ok];simp
theorem zj {a:Addr} {vs:List Value} {fr:Nat × Nat} {ps:List Pr} {x:HL ps} {k:HL ps->Prog} {n:Nat} (hs:Sat w l) [ha:AddrIs a b 0] [hb:FocB l b (.cells vs.toArray T' fr) r] [hT:Agg P T n] [hx:IsHL ps vs x] [hn:LenIs vs n] {p:Prog} [hA:App k x p]
  (h:p.wp P S w Q):(Prog.read g (ld T a) (.one (.agg ps)) k).wp P S w Q :=
 ⟨x,λ_=>z0d (T:=T) hs,by rw [hA.ok];exact h⟩
theorem zht {a:Addr} {vs:List Value} {fr:Nat × Nat} {ps:List Pr} {x:HL ps} {k:HL ps->Prog} {n:Nat} (hs:Sat w l) [ha:AddrIs a b 0] [hb:FocB l b (.cells vs.toArray T' fr) r] [hT:Agg P T n] [hx:IsHL ps vs x] [hn:LenIs vs n] {p:Prog} [hA:App k x p]
  (h:p.wp P (λw'=>S w'/\(g->(ld T a).run P w'=.ok ((Sh.one (.agg ps)).mk x) w')) w Q):(Prog.hold g (ld T a) (.one (.agg ps)) k).wp P S w Q :=
 ⟨x,λ_=>z0d (T:=T) hs,by rw [hA.ok];exact h⟩
theorem z08 {a:Addr} {vs vs':List Value} {v:Value} {k:Prog} (hs:Sat w l) [ha:AddrIs a b off] [hb:FocB l b (.cells vs.toArray T' (0,0)) r] [hT:One P T] [hg:SetL vs off v vs'] [hv:Cells v [v]] [ho:Ones [v]]
  (h:∀ w',Sat w' (pt b (.cells vs'.toArray T')::r)->k.wp P S w' Q) (hS:∀ w',Sat w' (pt b (.cells vs'.toArray T')::r)->S w':=by
   first|exact λ_ _=>trivial|(intro w' hs;repeat' (first|exact trivial|exact z07 hs|exact z0d hs|refine ⟨?_,λ_=>?_⟩))):(Prog.actU (st T a v) k).wp P S w Q:=by
 have hv':v.cells=#[v]:=hv.ok
 have:=zhl (P:=P) (v:=v) (off:=off) hT.ok.2 (hs.focB b).get (by have:=hg.ok.2;simp;omega) (by rw [hv'];rfl) (by rw [hv'];simpa using ho.ok) (z2o _ _)
 rw [hv'] at this
 have hs':=(hs.focB b).set (o':=.cells vs'.toArray T')
 rw [<- hg.ok.1] at *
 have e:putCells vs.toArray off [v]=(vs.set off v).toArray:=by simp [putCells]
 rw [ha.ok]
 rw [show (#[v]:Array Value).toList=[v] from rfl,e] at this
 exact ⟨_,this,hS _ hs',h _ hs'⟩
theorem zv {a:Addr} {vs vs':List Value} {k:Prog} {n:Nat} (hs:Sat w l) [ha:AddrIs a b 0] [hb:FocB l b (.cells vs.toArray T' (0,0)) r] [hT:Agg P T n] [ho:Ones vs'] [hn:LenIs vs n] [hn':LenIs vs' n]
  (h:∀ w',Sat w' (pt b (.cells vs'.toArray T')::r)->k.wp P S w' Q) (hS:∀ w',Sat w' (pt b (.cells vs'.toArray T')::r)->S w':=by
   first|exact λ_ _=>trivial|(intro w' hs;repeat' (first|exact trivial|exact z07 hs|exact z0d hs|refine ⟨?_,λ_=>?_⟩))):(Prog.actU (st T a (.agg vs'.toArray)) k).wp P S w Q:=by
 have hn:=hn.ok
 have hn':=hn'.ok
 have:=zhl (P:=P) (v:=.agg vs'.toArray) (off:=0) hT.ok.2 (hs.focB b).get (by simp [hn]) (by show vs'.toArray.size=n;simpa using hn') (by show ∀ x ∈ vs'.toArray.toList,_;simpa using ho.ok) (z2o _ _)
 have e:putCells vs.toArray 0 (Value.cells (.agg vs'.toArray)).toList=vs'.toArray:=zdl (vs:=vs'.toArray) (by simp [hn,hn'])
 rw [e] at this
 have hs':=(hs.focB b).set (o':=.cells vs'.toArray T')
 rw [ha.ok]
 exact ⟨_,this,hS _ hs',h _ hs'⟩
theorem zt {z:Value} {cs:List Value} {k:Addr->Prog} (hs:Sat w l) [hz:Zer P T z] [hc:Cells z cs]
  (h:∀ b w',Sat w' (pt b (.cells cs.toArray T)::l)->(k ⟨b,0,none⟩).wp P S w' Q) (hS:∀ b w',Sat w' (pt b (.cells cs.toArray T)::l)->S w':=by
   first|exact λ_ _ _=>trivial|(intro b w' hs;repeat' (first|exact trivial|exact z07 hs|exact z0d hs|refine ⟨?_,λ_=>?_⟩))):(Prog.act (new T) sA (u1 k)).wp P S w Q :=
 z05m hs λb w' hs=>by rw [hc.ok] at hs;exact ⟨hS _ _ hs,h _ _ hs⟩
theorem zr {v:Value} {cs:List Value} {k:Addr->Prog} (hs:Sat w l) [hc:Cells v cs]
  (h:∀ b w',Sat w' (pt b (.cells cs.toArray T)::l)->(k ⟨b,0,none⟩).wp P S w' Q) (hS:∀ b w',Sat w' (pt b (.cells cs.toArray T)::l)->S w':=by
   first|exact λ_ _ _=>trivial|(intro b w' hs;repeat' (first|exact trivial|exact z07 hs|exact z0d hs|refine ⟨?_,λ_=>?_⟩))):(Prog.act (Instr.box T v) sA (u1 k)).wp P S w Q:=by
 have hp:=hs.push (o:=.cells v.cells T) (w':={ w with heap:=w.heap.push (.cells v.cells T) }) rfl
 rw [hc.ok] at hp
 refine ⟨(⟨w.heap.size,0,none⟩,()),{ w with heap:=w.heap.push (.cells v.cells T) },by simp only [Instr.box,Sem.run_bind,run_newVar,Result.andThen_ok,Sem.run_pure],?_,?_⟩
 ·rw [hc.ok];exact hS _ _ hp
 ·rw [hc.ok];exact h _ _ hp
theorem z27 {α:Type} {enc:α->List Value} {xs:List α} {sz:Nat} {i i':Int} {x:Sl} {g':Prop} {p:Pr} {dec:α->p.D} {f:p.D->Prog} (hs:Sat w l) [hf:FocR l x sz (xs.flatMap enc)] [hE:EncN enc sz] [hD:Enc1 enc p dec] [hT:One P T]
  (n:Nat) (hn:n<xs.length) (h:(f (dec xs[n])).wp P S w Q) (hi:i=n:=by first|rfl|omega) (hi':i'=i:=by rfl) :
  (Prog.ex [.adr] (c1 λa=>0<=i/\i<((x.len:Nat):Int)/\x.a=some a) (u1 λa=>.read g' (ld T (Addr.add a (Int.toNat i'*sz))) (.one (.one p)) (u1 f))).wp P S w Q:=by
 subst hi hi'
 have hr:=hf.rd w hs
 have hl:x.len=xs.length:=hr.len hE.len hE.pos
 obtain ⟨a,ha,he⟩:=hr.el hE.len (by omega)
 refine ⟨(a,()),⟨by omega,by omega,ha⟩,(dec xs[n],()),λ_=>?_,h⟩
 have:=he n hn
 rw [hD.ok] at this
 have h2:=At.ld1 (P:=P) (T:=T) this rfl
 cases p <;> exact h2
theorem z2v {α:Type} {enc:α->List Value} {xs:List α} {sz m:Nat} {i i':Int} {x:Sl} {g':Prop} {ps:List Pr} {dec:α->HL ps} {k:HL ps->Prog} (hs:Sat w l) [hf:FocR l x sz (xs.flatMap enc)] [hE:EncN enc sz] [hD:EncA enc ps dec] [hT:Agg P T m]
  (n:Nat) (hn:n<xs.length) {p:Prog} [hA:App k (dec xs[n]) p] (h:p.wp P S w Q) (hi:i=n:=by first|rfl|omega) (hi':i'=i:=by rfl) (hm:Nat.beq sz m=true:=by rfl) :
  (Prog.ex [.adr] (c1 λa=>0<=i/\i<((x.len:Nat):Int)/\x.a=some a) (u1 λa=>.read g' (ld T (Addr.add a (Int.toNat i'*sz))) (.one (.agg ps)) k)).wp P S w Q:=by
 have hm:=Nat.eq_of_beq_eq_true hm
 subst hi hi' hm
 have hr:=hf.rd w hs
 have hl:x.len=xs.length:=hr.len hE.len hE.pos
 obtain ⟨a,ha,he⟩:=hr.el hE.len (by omega)
 refine ⟨(a,()),⟨by omega,by omega,ha⟩,dec xs[n],λ_=>?_,by rw [hA.ok];exact h⟩
 have:=he n hn
 have h2:=At.ldA (P:=P) (T:=T) this (hE.len _)
 rw [hD.ok] at h2
 exact h2
theorem z5j {α:Type} {enc:α->List Value} {xs:List α} {t ty el:TypeId} {sz bytes:Nat} {x:Sl} {v:Value} {cs:List Value} {k:Sl->Prog} (hs:Sat w l) [ht:SlT P t el sz bytes] [hf:FocS l x el sz (xs.flatMap enc) r] [hE:EncN enc sz] [hv:Cells v cs]
  (y:α) (h:∀ z w',Sat w' (slc el sz z ((xs++[y]).flatMap enc)::r)->(k z).wp P S w' Q) (hy:cs=enc y:=by rfl) (hb:(xs.length+1)*bytes<=140737488355328/\xs.length+1<=9223372036854775807:=by omega)
  (hS:∀ w',S w':=by exact λ_=>trivial) (hz:(!Nat.beq sz 0 && Nat.ble sz 16777216)=true:=by rfl) :
  (Prog.act (Instr.buildSlice t 1 #[(0,v)]) sL (u1 λy=>.act (app t t ty x.v y.v) sL (u1 k))).wp P S w Q:=by
 have h1:v.cells=(enc y).toArray:=by rw [hv.ok,hy]
 have hlen:=hE.len y
 rw [Bool.and_eq_true,Bool.not_eq_true'] at hz
 exact z07g (r:=r) (sz:=sz) (enc:=enc) (y:=y) hE.len hE.pos hs (bs1 h1 hz.1 hz.2 (by simp [hlen])) (by simp) (hE.one y) hb.1 hb.2 (λz w' hs'=>⟨hS _,h z w' hs'⟩) λw' _=>hS w'
end
class KeyT (P:Program) (kt:TypeId) {K:Type} (ek:K->Value):Prop where
 inj:∀ a b,ek a=ek b->a=b
 same:∀ a,Instr.sameBits 10000 (ek a) (ek a)=true
 check:∀ (b:Bool) (k:K) (w:World),(Instr.checkKey b 10000 kt (ek k)).run P w=.ok () w
 find:∀ (es:List MapEntry) (k:K) (w:World),(∀ e ∈ es,∃ k',e.key=ek k') ->
  (∃ (j:Nat) (e:MapEntry),es[j]? = some e/\e.key=ek k/\(Instr.findKey kt (ek k) es).run P w=.ok (some (j,e.val)) w) \/
  ((∀ e ∈ es,e.key≠ek k)/\(Instr.findKey kt (ek k) es).run P w=.ok none w)
theorem zd3 {K:Type} {ek:K->Value} {kd:TypeDesc} [DecidableEq K] (hn:∀ a b,Instr.sameNow kd (ek a) (ek b)=some (decide (a=b))) (hinj:∀ a b,ek a=ek b->a=b) (k:K) :
  ∀ (es:List MapEntry) (i:Nat),(∀ e ∈ es,∃ k',e.key=ek k') ->
  (∃ (j:Nat) (e:MapEntry),es[j]? = some e/\e.key=ek k/\Instr.findNow kd (ek k) es i=some (some (i+j,e.val)))\/((∀ e ∈ es,e.key≠ek k)/\Instr.findNow kd (ek k) es i=some none)
 | [],i,_=>.inr ⟨by simp,rfl⟩
 | e::es,i,h=>by
  obtain ⟨k',hk'⟩:=h e (List.mem_cons_self ..)
  by_cases hk:k=k'
  ·subst hk
   refine .inl ⟨0,e,rfl,hk',?_⟩
   rw [Instr.findNow,hk',hn,decide_eq_true rfl];rfl
  ·have hstep:Instr.findNow kd (ek k) (e::es) i=Instr.findNow kd (ek k) es (i+1):=by rw [Instr.findNow,hk',hn,decide_eq_false hk]
   rcases zd3 hn hinj k es (i+1) (λe he=>h e (List.mem_cons_of_mem _ he)) with ⟨j,e',h1,h2,h3⟩|⟨h1,h2⟩
   ·exact .inl ⟨j+1,e',h1,h2,by rw [hstep,h3,Nat.add_assoc,Nat.add_comm 1 j]⟩
   ·refine .inr ⟨λe' he'=>?_,by rw [hstep,h2]⟩
    rcases List.mem_cons.1 he' with rfl|he'
    ·rw [hk'];exact λe=>hk (hinj _ _ e).symm
    ·exact h1 e' he'
theorem zey {P:Program} {kt:TypeId} {kd:TypeDesc} (hu:P.underlying kt=some kd) {k:Value} {es:List MapEntry} {r:Option (Nat × Value)} (h:Instr.findNow kd k es 0=some r) (w:World):(Instr.findKey kt k es).run P w=.ok r w:=by
 simp only [Instr.findKey,Sem.run_bind,run_underlying' hu,Result.andThen_ok,h,Sem.run_pure]
theorem KeyT.ofNow {P:Program} {kt:TypeId} {kd:TypeDesc} {K:Type} {ek:K->Value} [DecidableEq K] (hu:P.underlying kt=some kd) (hn:∀ a b,Instr.sameNow kd (ek a) (ek b)=some (decide (a=b))) (hinj:∀ a b,ek a=ek b->a=b)
  (hs:∀ a,Instr.sameBits 10000 (ek a) (ek a)=true) (hc:∀ (b:Bool) (k:K) (w:World),(Instr.checkKey b 10000 kt (ek k)).run P w=.ok () w):KeyT P kt ek where
 inj:=hinj
 same:=hs
 check:=hc
 find es k w h:=by
  rcases zd3 hn hinj k es 0 h with ⟨j,e,h1,h2,h3⟩|⟨h1,h2⟩
  ·exact .inl ⟨j,e,h1,h2,by rw [zey hu h3,Nat.zero_add]⟩
  ·exact .inr ⟨h1,zey hu h2 w⟩
abbrev ekS (s:ByteArray):Value:=.string s
abbrev ekI (n:Int):Value:=.int .i64 n
theorem zj1 (a b:ByteArray):(a == b)=decide (a=b):=by
 by_cases h:a=b
 ·subst h;rw [decide_eq_true rfl];exact beq_self_eq_true a.data
 ·rw [decide_eq_false h]
  cases hb:(a == b) with
  | false=>rfl
  | true =>
   have hb:(a.data == b.data)=true:=hb
   exact absurd (by cases a;cases b;exact congrArg ByteArray.mk (eq_of_beq hb)) h
theorem zza {P:Program} {kt:TypeId} (hu:P.underlying kt=some .string):KeyT P kt ekS :=
 KeyT.ofNow hu (λa b=>by simp only [Instr.sameNow,zj1]) (λa b h=>by cases h;rfl) (λa=>by show (a == a)=true;rw [zj1,decide_eq_true rfl])
  λb k w=>by
   show (Instr.checkKey b (9999+1) kt _).run P w=_
   rw [Instr.checkKey];simp only [Sem.run_bind,run_underlying' hu,Result.andThen_ok];rfl
theorem zm2 {P:Program} {kt:TypeId} (hu:P.underlying kt=some (.int .i64)):KeyT P kt ekI :=
 KeyT.ofNow hu (λa b=>by simp only [Instr.sameNow,if_pos];congr 1) (λa b h=>by cases h;rfl) (λa=>by show ((IntKind.i64 == IntKind.i64) && (a == a))=true;simp)
  λb k w=>by
   show (Instr.checkKey b (9999+1) kt _).run P w=_
   rw [Instr.checkKey];simp only [Sem.run_bind,run_underlying' hu,Result.andThen_ok];rfl
class MapT (P:Program) (T:TypeId) (kt:outParam TypeId) (z:outParam Value):Prop where
 ok:∃ et,P.underlying T=some (.map kt et)/\za4 P et=some z
section
variable {K V:Type}
def MOk (ek:K->Value) (ev:V->Value) (E:Array MapEntry) (c:Nat) (es:List (K × V)):Prop :=
 ∃ xs:List (K × V),xs.Perm es/\(xs.map Prod.fst).Nodup/\E.toList.map (λe=>(e.key,e.val))=xs.map (λx=>(ek x.1,ev x.2)) /\
  E.toList.Pairwise (λa b=>a.born<b.born)/\∀ e ∈ E.toList,e.born<c
def z1f (ek:K->Value) (ev:V->Value) (m:Nat) (es:List (K × V)):HP:=HP.ex λM:Array MapEntry × Nat=>HP.and (MOk ek ev M.1 M.2 es) (pt m (.map M.1 M.2))
variable {ek:K->Value} {ev:V->Value} {m:Nat} {es es':List (K × V)} {P:Program} {w:World} {l r:List HP} {Q:Post} {S:World->Prop} {T kt:TypeId} {z:Value} {g:Prop}
theorem Sat.mapOpen (h:Sat w (z1f ek ev m es::l)):∃ E c,MOk ek ev E c es/\Sat w (pt m (.map E c)::l):=by
 obtain ⟨⟨E,c⟩,h⟩:=h.ex
 exact ⟨E,c,h.and⟩
theorem Sat.mapShut {E:Array MapEntry} {c:Nat} (hm:MOk ek ev E c es) (h:Sat w (pt m (.map E c)::l)):Sat w (z1f ek ev m es::l):=.ex_mk (E,c) (.and_mk hm h)
theorem MOk.perm {E:Array MapEntry} {c:Nat} (h:MOk ek ev E c es) (hp:es.Perm es'):MOk ek ev E c es':=by
 obtain ⟨xs,h1,h2⟩:=h
 exact ⟨xs,h1.trans hp,h2⟩
theorem Sat.mapPerm (h:Sat w (z1f ek ev m es::l)) (hp:es.Perm es'):Sat w (z1f ek ev m es'::l):=by
 obtain ⟨E,c,hm,h⟩:=h.mapOpen
 exact h.mapShut (hm.perm hp)
theorem MOk.nodup {E:Array MapEntry} {c:Nat} (h:MOk ek ev E c es):(es.map Prod.fst).Nodup:=by
 obtain ⟨xs,h1,h2,-⟩:=h
 exact (h1.map _).nodup_iff.1 h2
theorem Sat.mapNodup (h:Sat w (z1f ek ev m es::l)):(es.map Prod.fst).Nodup:=by
 obtain ⟨E,c,hm,-⟩:=h.mapOpen
 exact hm.nodup
theorem MOk.size {E:Array MapEntry} {c:Nat} (h:MOk ek ev E c es):E.size=es.length:=by
 obtain ⟨xs,h1,h2,h3,-⟩:=h
 rw [<- h1.length_eq,<- Array.length_toList]
 simpa using congrArg List.length h3
class FoM (l:List HP) (m:Nat) {K V:outParam Type} (ek:outParam (K->Value)) (ev:outParam (V->Value)) (es:outParam (List (K × V))) (r:outParam (List HP)):Prop where
 perm:l.Perm (z1f ek ev m es::r)
instance FoM.head {K V:Type} {l:List HP} {m:Nat} {ek:K->Value} {ev:V->Value} {es:List (K × V)}:FoM (z1f ek ev m es::l) m ek ev es l:=⟨.refl _⟩
instance (priority:=low) FoM.tail {K V:Type} {x:HP} {l r:List HP} {m:Nat} {ek:K->Value} {ev:V->Value} {es:List (K × V)} [h:FoM l m ek ev es r]:FoM (x::l) m ek ev es (x::r) :=
 ⟨(List.Perm.cons x h.perm).trans (.swap _ _ _)⟩
class IsK {K:Type} (ek:K->Value) (kv:Value) (k:outParam K):Prop where
 ok:kv=ek k
instance IsK.str {s:ByteArray}:IsK ekS (.string s) s:=⟨rfl⟩
instance IsK.int {n:Int}:IsK ekI (.int .i64 n) n:=⟨rfl⟩
theorem z5x {E:Array MapEntry} {c:Nat} (hb:w.heap[m]? = some (.map E c)):(getObj m).run P w=.ok (.map E c) w:=by
 simp [getObj,Sem.run,hb]
theorem z97 {E:Array MapEntry} {c:Nat} (hb:w.heap[m]? = some (.map E c)) (E':Array MapEntry) (c':Nat):(setObj m (.map E' c')).run P w=.ok () (z39 w m (.map E' c')):=by
 have hlt:m<w.heap.size:=(Array.getElem?_eq_some_iff.1 hb).1
 simp [setObj,Sem.run,hb,z39]
theorem MOk.find [hk:KeyT P kt ek] {E:Array MapEntry} {c:Nat} (h:MOk ek ev E c es) (k:K) (w:World) :
  (∃ (j:Nat) (e:MapEntry) (v:V),E.toList[j]? = some e/\e.key=ek k/\e.val=ev v/\(k,v) ∈ es/\(Instr.findKey kt (ek k) E.toList).run P w=.ok (some (j,ev v)) w) \/
  ((∀ v,(k,v) ∉ es)/\(∀ e ∈ E.toList,e.key≠ek k)/\(Instr.findKey kt (ek k) E.toList).run P w=.ok none w):=by
 obtain ⟨xs,h1,h2,h3,-⟩:=h
 have hkeys:∀ e ∈ E.toList,∃ k',e.key=ek k':=λe he=>by
  have:(e.key,e.val) ∈ E.toList.map (λe=>(e.key,e.val)):=List.mem_map.2 ⟨e,he,rfl⟩
  rw [h3] at this
  obtain ⟨x,-,hx⟩:=List.mem_map.1 this
  exact ⟨x.1,(Prod.mk.inj hx).1.symm⟩
 rcases hk.find E.toList k w hkeys with ⟨j,e,hj,he,hr⟩|⟨hn,hr⟩
 ·left
  have hx:(xs.map (λx=>(ek x.1,ev x.2)))[j]? = some (e.key,e.val):=by rw [<- h3,List.getElem?_map,hj];rfl
  rw [List.getElem?_map] at hx
  cases hxj:xs[j]? with
  | none=>rw [hxj] at hx;cases hx
  | some x =>
   rw [hxj] at hx
   obtain ⟨k',v⟩:=x
   simp only [Option.map_some,Option.some.injEq,Prod.mk.injEq] at hx
   rw [he] at hx
   obtain rfl:=hk.inj _ _ hx.1
   exact ⟨j,e,v,hj,he,hx.2.symm,h1.mem_iff.1 (List.mem_of_getElem? hxj),by rw [hr,hx.2]⟩
 ·right
  refine ⟨λv hv=>?_,hn,hr⟩
  have:(ek k,ev v) ∈ xs.map (λx=>(ek x.1,ev x.2)):=List.mem_map.2 ⟨(k,v),h1.mem_iff.2 hv,rfl⟩
  rw [<- h3] at this
  obtain ⟨e,he,hx⟩:=List.mem_map.1 this
  exact hn e he (Prod.mk.inj hx).1
theorem zc8 (ok:Bool) [hT:MapT P T kt z] [hk:KeyT P kt ek] (hs:Sat w (z1f ek ev m es::l)) (k:K) :
  (∃ v,(k,v) ∈ es/\(Instr.lookup T (.map (some m)) (ek k) ok).run P w=.ok (if ok then .tuple #[ev v,.bool true] else ev v) w) \/
  ((∀ v,(k,v) ∉ es)/\(Instr.lookup T (.map (some m)) (ek k) ok).run P w=.ok (if ok then .tuple #[z,.bool false] else z) w):=by
 obtain ⟨et,hu,hz⟩:=hT.ok
 obtain ⟨E,c,hm,hs⟩:=hs.mapOpen
 have hb:=hs.get
 have hzv:(zeroValue et).run P w=.ok z w:=by
  unfold za4 at hz
  cases hi:P.info? et with
  | none=>rw [hi] at hz;cases hz
  | some i=>rw [hi] at hz;simp only at hz;simp [zeroValue,typeInfo,hi,hz]
 rcases hm.find (P:=P) (kt:=kt) k w with ⟨j,e,v,-,-,-,hv,hr⟩|⟨hv,-,hr⟩
 ·refine .inl ⟨v,hv,?_⟩
  simp only [Instr.lookup,Sem.run_bind,run_underlying' hu,Result.andThen_ok,z5x hb,Sem.run_pure,hk.check,hr]
 ·refine .inr ⟨hv,?_⟩
  simp only [Instr.lookup,Sem.run_bind,run_underlying' hu,Result.andThen_ok,z5x hb,Sem.run_pure,hk.check,hr,hzv]
theorem z7q {p:Pr} {f:p.D->Prog} {k:K} {kv:Value} {x0:p.D} {dv:V->p.D} (hs:Sat w l) [hf:FoM l m ek ev es r] [hT:MapT P T kt z] [hk:KeyT P kt ek] [hkv:IsK ek kv k] [hp0:IsP p z x0] [hd:∀ v,IsP p (ev v) (dv v)]
  (h1:∀ v,(k,v) ∈ es->(f (dv v)).wp P S w Q) (h0:(∀ v,(k,v) ∉ es)->(f x0).wp P S w Q) :
  (Prog.read g (Instr.lookup T (.map (some m)) kv false) (.one (.one p)) (u1 f)).wp P S w Q:=by
 rw [hkv.ok]
 rcases zc8 (P:=P) (T:=T) false (hs.perm hf.perm) k with ⟨v,hv,hr⟩|⟨hv,hr⟩
 ·refine ⟨(dv v,()),λ_=>?_,h1 v hv⟩
  rw [(hd v).ok] at hr
  cases p <;> exact hr
 ·refine ⟨(x0,()),λ_=>?_,h0 hv⟩
  rw [hp0.ok] at hr
  cases p <;> exact hr
theorem zy0 {p:Pr} {f:p.D->Bool->Prog} {k:K} {kv:Value} {x0:p.D} {dv:V->p.D} (hs:Sat w l) [hf:FoM l m ek ev es r] [hT:MapT P T kt z] [hk:KeyT P kt ek] [hkv:IsK ek kv k] [hp0:IsP p z x0] [hd:∀ v,IsP p (ev v) (dv v)]
  (h1:∀ v,(k,v) ∈ es->(f (dv v) true).wp P S w Q) (h0:(∀ v,(k,v) ∉ es)->(f x0 false).wp P S w Q) :
  (Prog.read g (Instr.lookup T (.map (some m)) kv true) (.tup [.one p,.one .bool]) (u2 f)).wp P S w Q:=by
 rw [hkv.ok]
 rcases zc8 (P:=P) (T:=T) true (hs.perm hf.perm) k with ⟨v,hv,hr⟩|⟨hv,hr⟩
 ·refine ⟨(dv v,true,()),λ_=>?_,h1 v hv⟩
  rw [(hd v).ok] at hr
  cases p <;> exact hr
 ·refine ⟨(x0,false,()),λ_=>?_,h0 hv⟩
  rw [hp0.ok] at hr
  cases p <;> exact hr
theorem zej {f:Int->Prog} {ty:TypeId} (hs:Sat w l) [hf:FoM l m ek ev es r] [hT:MapT P T kt z] (h:(f (es.length:Nat)).wp P S w Q) :
  (Prog.read g (Builtin.len_ #[T] ty #[.map (some m)]) (sI .i64) (u1 f)).wp P S w Q:=by
 obtain ⟨et,hu,hz⟩:=hT.ok
 obtain ⟨E,c,hm,hs⟩:=(hs.perm hf.perm).mapOpen
 refine ⟨(_,()),λ_=>?_,h⟩
 simp only [Builtin.len_,List.getElem?_toArray,List.getElem?_cons_zero,Sem.run_bind,run_underlying' hu,Result.andThen_ok,z5x hs.get,Sem.run_pure]
 rw [hm.size];rfl
theorem zch {f:Option Nat->Prog} (ek:K->Value) (ev:V->Value) (hs:Sat w l) (h:∀ m w',Sat w' (z1f ek ev m []::l)->(f (some m)).wp P S w' Q) (hS:∀ w',S w':=by exact λ_=>trivial) :
  (Prog.act (Instr.makeMap T none) sM (u1 f)).wp P S w Q:=by
 have hp:=hs.push (o:=.map #[] 0) (w':={ w with heap:=w.heap.push (.map #[] 0) }) rfl
 refine ⟨(some w.heap.size,()),{ w with heap:=w.heap.push (.map #[] 0) },?_,hS _,h _ _ (hp.mapShut ⟨[],.refl _,by simp,rfl,by simp,by simp⟩)⟩
 simp [Instr.makeMap,Sem.run,newObj]
theorem z76 {α:Type} {xs:List α} {j:Nat} (h:j<xs.length):xs.Perm (xs[j]::xs.eraseIdx j):=by
 rw [List.eraseIdx_eq_take_drop_succ]
 have e:xs=xs.take j++xs[j]::xs.drop (j+1):=by rw [<- List.drop_eq_getElem_cons h,List.take_append_drop]
 exact (List.Perm.of_eq e).trans List.perm_middle
theorem map_eraseIdx' {α β:Type} (f:α->β) (xs:List α) (j:Nat):(xs.map f).eraseIdx j=(xs.eraseIdx j).map f:=by
 rw [List.eraseIdx_eq_take_drop_succ,List.eraseIdx_eq_take_drop_succ,List.map_append,List.map_take,List.map_drop]
theorem zjr {xs:List (K × V)} {k:K} {v:V} (hn:(xs.map Prod.fst).Nodup) {j:Nat} (hj:xs[j]? = some (k,v)):xs.Perm ((k,v)::xs.eraseIdx j)/\∀ v',(k,v') ∉ xs.eraseIdx j:=by
 have hlt:j<xs.length:=(List.getElem?_eq_some_iff.1 hj).1
 have hg:xs[j]=(k,v):=by rw [List.getElem?_eq_getElem hlt] at hj;exact Option.some.inj hj
 have hp:xs.Perm ((k,v)::xs.eraseIdx j):=by
  rw [<- hg];exact z76 hlt
 refine ⟨hp,λv' hv'=>?_⟩
 have:=(hp.map Prod.fst).nodup_iff.1 hn
 rw [List.map_cons,List.nodup_cons] at this
 exact this.1 (List.mem_map.2 ⟨(k,v'),hv',rfl⟩)
theorem MOk.modify [hk:KeyT P kt ek] {E:Array MapEntry} {c j:Nat} {e:MapEntry} {k:K} {v v':V} {es0:List (K × V)} (h:MOk ek ev E c es) (hp:es.Perm ((k,v)::es0)) (hj:E.toList[j]? = some e) (he:e.key=ek k) (hv':Value) (hvv:hv'=ev v') :
  MOk ek ev (E.modify j λe=>{ e with key:=ek k,val:=hv' }) c ((k,v')::es0):=by
 subst hvv
 obtain ⟨xs,h1,h2,h3,h4,h5⟩:=h
 have hx:(xs.map (λx=>(ek x.1,ev x.2)))[j]? = some (e.key,e.val):=by rw [<- h3,List.getElem?_map,hj];rfl
 rw [List.getElem?_map] at hx
 cases hxj:xs[j]? with
 | none=>rw [hxj] at hx;cases hx
 | some x =>
  rw [hxj] at hx
  obtain ⟨k1,v1⟩:=x
  simp only [Option.map_some,Option.some.injEq,Prod.mk.injEq] at hx
  rw [he] at hx
  obtain rfl:=hk.inj _ _ hx.1
  obtain ⟨hs1,hs2⟩:=zjr h2 hxj
  have hlt:j<xs.length:=(List.getElem?_eq_some_iff.1 hxj).1
  have hrest:(xs.eraseIdx j).Perm es0:=by
   have hnd:(es.map Prod.fst).Nodup:=(h1.map _).nodup_iff.1 h2
   have hA:=(hs1.symm.trans h1).trans hp
   have hvv:v1=v:=by
    have hin:(k1,v1) ∈ (k1,v)::es0:=hA.mem_iff.1 (List.mem_cons_self ..)
    rcases List.mem_cons.1 hin with h|h
    ·exact (Prod.mk.inj h).2
    ·have:=(hp.map Prod.fst).nodup_iff.1 hnd
     rw [List.map_cons,List.nodup_cons] at this
     exact absurd (List.mem_map.2 ⟨_,h,rfl⟩) this.1
   subst hvv
   exact List.Perm.cons_inv hA
  have hEl:(E.modify j λe=>{ e with key:=ek k1,val:=ev v' }).toList=E.toList.modify j λe=>{ e with key:=ek k1,val:=ev v' }:=Array.toList_modify
  have hset:xs.set j (k1,v')=xs.modify j λ_=>(k1,v'):=by
   apply List.ext_getElem?
   intro i
   rw [List.getElem?_set,List.getElem?_modify]
   by_cases hij:j=i
   ·subst hij;simp [hlt]
   ·simp [hij]
  refine ⟨xs.set j (k1,v'),?_,?_,?_,?_,?_⟩
  ·have hlt2:j<(xs.set j (k1,v')).length:=by simpa using hlt
   refine (z76 hlt2).trans ?_
   rw [List.getElem_set_self,List.eraseIdx_set_eq]
   exact .cons _ hrest
  ·have:(xs.set j (k1,v')).map Prod.fst=xs.map Prod.fst:=by
    apply List.ext_getElem?
    intro i
    rw [List.getElem?_map,List.getElem?_map,List.getElem?_set]
    by_cases hij:j=i
    ·subst hij;rw [if_pos rfl,if_pos hlt,hxj];rfl
    ·rw [if_neg hij]
   rw [this];exact h2
  ·rw [hEl,hset]
   apply List.ext_getElem?
   intro i
   have h3':=congrArg (λl=>l[i]?) h3
   simp only [List.getElem?_map] at h3'
   simp only [List.getElem?_map,List.getElem?_modify]
   by_cases hij:j=i
   ·subst hij;rw [hj,hxj];simp
   ·simp only [hij,if_false]
    cases hE:E.toList[i]? <;> cases hX:xs[i]? <;> rw [hE,hX] at h3' <;> simp_all
  ·rw [hEl]
   rw [List.pairwise_iff_getElem] at h4 ⊢
   intro a b ha hb hab
   rw [List.length_modify] at ha hb
   have:=h4 a b ha hb hab
   simp only [List.getElem_modify]
   split <;> split <;> exact this
  ·rw [hEl]
   intro x hx
   obtain ⟨i,hi,rfl⟩:=List.getElem_of_mem hx
   rw [List.length_modify] at hi
   have:=h5 _ (List.getElem_mem hi)
   simp only [List.getElem_modify]
   split <;> exact this
theorem MOk.push {E:Array MapEntry} {c:Nat} {k:K} {v:V} (h:MOk ek ev E c es) (hk:∀ v,(k,v) ∉ es):MOk ek ev (E.push ⟨ek k,ev v,c⟩) (c+1) ((k,v)::es):=by
 obtain ⟨xs,h1,h2,h3,h4,h5⟩:=h
 refine ⟨xs++[(k,v)],?_,?_,?_,?_,?_⟩
 ·exact (List.perm_append_comm).trans (.cons _ h1)
 ·rw [List.map_append,List.nodup_append]
  refine ⟨h2,by simp,λa ha b hb=>?_⟩
  simp only [List.map_cons,List.map_nil,List.mem_singleton] at hb
  subst hb
  rintro rfl
  obtain ⟨x,hx,hxe⟩:=List.mem_map.1 ha
  obtain ⟨a1,a2⟩:=x
  simp only at hxe
  subst hxe
  exact hk a2 (h1.mem_iff.1 hx)
 ·simp [h3]
 ·rw [Array.toList_push,List.pairwise_append]
  refine ⟨h4,by simp,λa ha b hb=>?_⟩
  simp only [List.mem_singleton] at hb
  subst hb
  exact h5 a ha
 ·intro e he
  rw [Array.toList_push,List.mem_append] at he
  rcases he with he|he
  ·have:=h5 e he;omega
  ·simp only [List.mem_singleton] at he;subst he;exact Nat.lt_succ_self _
theorem MOk.erase [hk:KeyT P kt ek] {E:Array MapEntry} {c j:Nat} {e:MapEntry} {k:K} {v:V} {es0:List (K × V)} (h:MOk ek ev E c es) (hp:es.Perm ((k,v)::es0)) (hj:E.toList[j]? = some e) (he:e.key=ek k) :
  MOk ek ev (E.eraseIdxIfInBounds j) c es0:=by
 obtain ⟨xs,h1,h2,h3,h4,h5⟩:=h
 have hx:(xs.map (λx=>(ek x.1,ev x.2)))[j]? = some (e.key,e.val):=by rw [<- h3,List.getElem?_map,hj];rfl
 rw [List.getElem?_map] at hx
 cases hxj:xs[j]? with
 | none=>rw [hxj] at hx;cases hx
 | some x =>
  rw [hxj] at hx
  obtain ⟨k1,v1⟩:=x
  simp only [Option.map_some,Option.some.injEq,Prod.mk.injEq] at hx
  rw [he] at hx
  obtain rfl:=hk.inj _ _ hx.1
  obtain ⟨hs1,hs2⟩:=zjr h2 hxj
  have hrest:(xs.eraseIdx j).Perm es0:=by
   have hnd:(es.map Prod.fst).Nodup:=(h1.map _).nodup_iff.1 h2
   have hA:=(hs1.symm.trans h1).trans hp
   have hvv:v1=v:=by
    have hin:(k1,v1) ∈ (k1,v)::es0:=hA.mem_iff.1 (List.mem_cons_self ..)
    rcases List.mem_cons.1 hin with h|h
    ·exact (Prod.mk.inj h).2
    ·have:=(hp.map Prod.fst).nodup_iff.1 hnd
     rw [List.map_cons,List.nodup_cons] at this
     exact absurd (List.mem_map.2 ⟨_,h,rfl⟩) this.1
   subst hvv
   exact List.Perm.cons_inv hA
  have hEl:(E.eraseIdxIfInBounds j).toList=E.toList.eraseIdx j:=Array.toList_eraseIdxIfInBounds
  have hsub:(E.toList.eraseIdx j).Sublist E.toList:=List.eraseIdx_sublist ..
  refine ⟨xs.eraseIdx j,hrest,?_,?_,?_,?_⟩
  ·exact ((List.eraseIdx_sublist ..).map _).nodup h2
  ·rw [hEl,<- map_eraseIdx',h3,map_eraseIdx']
  ·rw [hEl];exact h4.sublist hsub
  ·rw [hEl];exact λe he=>h5 e (hsub.mem he)
theorem z00g [hT:MapT P T kt z] [hk:KeyT P kt ek] (hs0:Sat w (z1f ek ev m es::l)) (k:K) (v:V) {es':List (K × V)} (he:(∃ v0,es.Perm ((k,v0)::es'))\/((∀ v,(k,v) ∉ es)/\es'=es)) :
  ∃ w',(Instr.mapUpdate T (.map (some m)) (ek k) (ev v)).run P w=.ok () w'/\Sat w' (z1f ek ev m ((k,v)::es')::l):=by
 obtain ⟨et,hu,hz⟩:=hT.ok
 obtain ⟨E,c,hm,hs⟩:=hs0.mapOpen
 have hb:=hs.get
 clear hs0
 rcases hm.find (P:=P) (kt:=kt) k w with ⟨j,e,v1,hj,hke,-,hv,hr⟩|⟨hv,hne,hr⟩
 ·rcases he with ⟨v0,hp⟩|⟨hn,-⟩
  ·refine ⟨z39 w m (.map (E.modify j λe=>{ e with key:=ek k,val:=ev v }) c),?_,(hs.set).mapShut (hm.modify (P:=P) (kt:=kt) hp hj hke (ev v) rfl)⟩
   have hold:(((E[j]?).map (·.key)).getD (ek k))=ek k:=by
    rw [<- Array.getElem?_toList,hj];simpa using hke
   simp only [Instr.mapUpdate,Sem.run_bind,run_underlying' hu,Result.andThen_ok,z5x hb,hk.check,hr,hold,Instr.keyThatStays,hk.same,if_true,Sem.run_pure,z97 hb]
  ·exact absurd hv (hn _)
 ·rcases he with ⟨v0,hp⟩|⟨-,rfl⟩
  ·exact absurd (hp.mem_iff.2 (List.mem_cons_self ..)) (hv _)
  ·refine ⟨z39 w m (.map (E.push ⟨ek k,ev v,c⟩) (c+1)),?_,(hs.set).mapShut (hm.push hv)⟩
   simp only [Instr.mapUpdate,Sem.run_bind,run_underlying' hu,Result.andThen_ok,z5x hb,hk.check,hr,Sem.run_pure,z97 hb]
theorem zbk {k:K} {kv:Value} {q:Prog} {vv:Value} (hs:Sat w l) [hf:FoM l m ek ev es r] [hT:MapT P T kt z] [hk:KeyT P kt ek] [hkv:IsK ek kv k] (es':List (K × V)) (he:(∃ v0,es.Perm ((k,v0)::es'))\/((∀ v,(k,v) ∉ es)/\es'=es))
  (v:V) (h:∀ w',Sat w' (z1f ek ev m ((k,v)::es')::r)->q.wp P S w' Q) (hv:vv=ev v:=by rfl) (hS:∀ w',S w':=by exact λ_=>trivial):(Prog.actU (Instr.mapUpdate T (.map (some m)) kv vv) q).wp P S w Q:=by
 subst hv
 rw [hkv.ok]
 obtain ⟨w',hr,hs'⟩:=z00g (P:=P) (T:=T) (hs.perm hf.perm) k v he
 exact ⟨w',hr,hS _,h w' hs'⟩
theorem zrv {k:K} {kv:Value} {q:Prog} {ty tk:TypeId} (hs:Sat w l) [hf:FoM l m ek ev es r] [hT:MapT P T kt z] [hk:KeyT P kt ek] [hkv:IsK ek kv k] (es':List (K × V)) (he:(∃ v0,es.Perm ((k,v0)::es'))\/((∀ v,(k,v) ∉ es)/\es'=es))
  (h:∀ w',Sat w' (z1f ek ev m es'::r)->q.wp P S w' Q) (hS:∀ w',S w':=by exact λ_=>trivial):(Prog.act (Builtin.delete_ #[T,tk] ty #[.map (some m),kv]) (.tup []) (u0 q)).wp P S w Q:=by
 rw [hkv.ok]
 obtain ⟨et,hu,hz⟩:=hT.ok
 obtain ⟨E,c,hm,hs⟩:=(hs.perm hf.perm).mapOpen
 have hb:=hs.get
 rcases hm.find (P:=P) (kt:=kt) k w with ⟨j,e,v1,hj,hke,-,hv,hr⟩|⟨hv,hne,hr⟩
 ·rcases he with ⟨v0,hp⟩|⟨hn,-⟩
  ·refine ⟨(),z39 w m (.map (E.eraseIdxIfInBounds j) c),?_,hS _,h _ ((hs.set).mapShut (hm.erase (P:=P) (kt:=kt) hp hj hke))⟩
   simp only [Builtin.delete_,List.getElem?_toArray,List.getElem?_cons_zero,List.getElem?_cons_succ,Sem.run_bind,run_underlying' hu,Result.andThen_ok,z5x hb,hk.check,hr,Sem.run_pure,z97 hb]
  ·exact absurd hv (hn _)
 ·rcases he with ⟨v0,hp⟩|⟨-,rfl⟩
  ·exact absurd (hp.mem_iff.2 (List.mem_cons_self ..)) (hv _)
  ·refine ⟨(),z39 w m (.map E c),?_,hS _,h _ ((hs.set).mapShut hm)⟩
   simp only [Builtin.delete_,List.getElem?_toArray,List.getElem?_cons_zero,List.getElem?_cons_succ,Sem.run_bind,run_underlying' hu,Result.andThen_ok,z5x hb,hk.check,hr,Sem.run_pure,z97 hb]
end
open Go.ChangeMaps (setBlock)
section
variable {K V:Type}
structure ItOk (ek:K->Value) (ev:V->Value) (E:Array MapEntry) (c since c0:Nat) (seen:Array Nat) (es todo:List (K × V)) (last:Option (K × V)):Prop where
 ok:MOk ek ev E c es
 old:∀ x ∈ E.toList,x.born<since
 look:since<=c0
 clk:since<=c
 lst:∀ kv,last=some kv->c0=c/\∃ e ∈ E.toList,∃ s':Array Nat,seen=s'.push e.born/\e.key=ek kv.1/\e.val=ev kv.2
 todo:∃ ys:List (K × V),ys.Perm todo/\(leftOf E seen).toList.map (λe=>(e.key,e.val))=ys.map (λx=>(ek x.1,ev x.2))
structure ItS where
 E:Array MapEntry
 c:Nat
 since:Nat
 c0:Nat
 seen:Array Nat
def itP (ek:K->Value) (ev:V->Value) (it m:Nat) (es todo:List (K × V)) (last:Option (K × V)):HP:=HP.ex λM:ItS=>HP.and (ItOk ek ev M.E M.c M.since M.c0 M.seen es todo last) (HP.star (pt it (.mapIter (some m) M.since M.seen M.c0)) (pt m (.map M.E M.c)))
class FoI (l:List HP) (it:Nat) {K V:outParam Type} (ek:outParam (K->Value)) (ev:outParam (V->Value)) (m:outParam Nat) (es todo:outParam (List (K × V))) (last:outParam (Option (K × V))) (r:outParam (List HP)):Prop where
 perm:l.Perm (itP ek ev it m es todo last::r)
instance FoI.head {K V:Type} {l:List HP} {it m:Nat} {ek:K->Value} {ev:V->Value} {es todo:List (K × V)} {last:Option (K × V)}:FoI (itP ek ev it m es todo last::l) it ek ev m es todo last l:=⟨.refl _⟩
instance (priority:=low) FoI.tail {K V:Type} {x:HP} {l r:List HP} {it m:Nat} {ek:K->Value} {ev:V->Value} {es todo:List (K × V)} {last:Option (K × V)} [h:FoI l it ek ev m es todo last r]:FoI (x::l) it ek ev m es todo last (x::r) :=
 ⟨(List.Perm.cons x h.perm).trans (.swap _ _ _)⟩
variable {ek:K->Value} {ev:V->Value} {m it:Nat} {es es' todo:List (K × V)} {last:Option (K × V)} {P:Program} {w:World} {l r:List HP} {Q:Post} {S:World->Prop} {T kt ty:TypeId} {z:Value} {g:Prop}
theorem Sat.itOpen (h:Sat w (itP ek ev it m es todo last::l)):∃ E c since c0 seen,ItOk ek ev E c since c0 seen es todo last/\Sat w (pt it (.mapIter (some m) since seen c0)::pt m (.map E c)::l):=by
 obtain ⟨⟨E,c,since,c0,seen⟩,h⟩:=h.ex
 obtain ⟨hok,h⟩:=h.and
 exact ⟨E,c,since,c0,seen,hok,h.star⟩
theorem Sat.itShut {E:Array MapEntry} {c since c0:Nat} {seen:Array Nat} (hm:ItOk ek ev E c since c0 seen es todo last) (h:Sat w (pt it (.mapIter (some m) since seen c0)::pt m (.map E c)::l)):Sat w (itP ek ev it m es todo last::l) :=
 .ex_mk ⟨E,c,since,c0,seen⟩ (.and_mk hm (.star_mk h))
theorem Sat.itDone (h:Sat w (itP ek ev it m es todo last::l)):Sat w (z1f ek ev m es::l):=by
 obtain ⟨E,c,since,c0,seen,hok,h⟩:=h.itOpen
 exact Sat.mapShut hok.ok h.tail
theorem zsr (E:Array MapEntry):leftOf E #[]=E:=by
 unfold leftOf
 exact Array.filter_eq_self.2 λx hx=>by simp
theorem zkn {k:Addr->Prog} (hs:Sat w l) [ht:MapT P T kt z] [hf:FoM l m ek ev es r] (h:∀ it w',Sat w' (itP ek ev it m es es none::r)->(k ⟨it,0,none⟩).wp P S w' Q) (hS:∀ w',S w':=by exact λ_=>trivial) :
  (Prog.act (Instr.range T (.map (some m))) sA (u1 k)).wp P S w Q:=by
 obtain ⟨et,hu,-⟩:=ht.ok
 obtain ⟨E,c,hok,hs⟩:=(hs.perm hf.perm).mapOpen
 have hp:=hs.push (o:=.mapIter (some m) c #[] c) (w':=w.alloc (.mapIter (some m) c #[] c)) rfl
 refine ⟨(⟨w.heap.size,0,none⟩,()),_,run_range_map w T kt et m E c hu hs.get,hS _,h _ _ ?_⟩
 refine Sat.itShut ⟨hok,?_,Nat.le_refl _,Nat.le_refl _,(λkv h=>by cases h),?_⟩ hp
 ·obtain ⟨xs,-,-,-,-,h5⟩:=hok
  exact h5
 ·obtain ⟨xs,h1,-,h3,-⟩:=hok
  exact ⟨xs,h1,by rw [zsr];exact h3⟩
theorem zwv {E:Array MapEntry} {seen:Array Nat} {e:MapEntry} (hp:E.toList.Pairwise λa b=>a.born<b.born) (he:e ∈ (leftOf E seen).toList) :
  ((leftOf E seen).toList).Perm (e::(leftOf E (seen.push e.born)).toList):=by
 unfold leftOf at he ⊢
 rw [Array.toList_filter] at he ⊢
 rw [Array.toList_filter]
 generalize E.toList=L at *
 induction L with
 | nil=>cases he
 | cons x L ih =>
  rw [List.pairwise_cons] at hp
  rw [List.filter_cons,List.filter_cons]
  by_cases hx:x=e
  ·subst hx
   have hrest:L.filter (λy=>!(seen.push x.born).contains y.born)=L.filter (λy=>!seen.contains y.born):=List.filter_congr λy hy=>by
    have:=hp.1 y hy
    simp only [Array.contains_push]
    have:(y.born == x.born)=false:=by rw [beq_eq_false_iff_ne];omega
    simp [this]
   have hin:(!seen.contains x.born)=true:=(List.mem_filter.1 he).2
   have hout:(!(seen.push x.born).contains x.born)=false:=by simp
   rw [if_pos hin,if_neg (by rw [hout];simp),hrest]
  ·have heL:e ∈ L:=by
    rcases List.mem_cons.1 (List.mem_filter.1 he).1 with h|h
    ·exact absurd h.symm hx
    ·exact h
   have hb:x.born≠e.born:=by have:=hp.1 e heL;omega
   have ih:=ih hp.2 (List.mem_filter.2 ⟨heL,(List.mem_filter.1 he).2⟩)
   have hsame:(!(seen.push e.born).contains x.born)=!seen.contains x.born:=by
    simp only [Array.contains_push]
    have:(x.born == e.born)=false:=by rw [beq_eq_false_iff_ne];exact hb
    simp [this]
   rw [hsame]
   split
   ·exact (List.Perm.cons x ih).trans (.swap _ _ _)
   ·exact ih
theorem zng {ss:List Sh1} {k1:HL (prims ss)->Prog} {k0:Prog} (hs:Sat w l) [hf:FoI l it ek ev m es todo last r] (dx:K->V->HL (prims ss))
  (h1:∀ k v todo' w',todo.Perm ((k,v)::todo')->Sat w' (itP ek ev it m es todo' (some (k,v))::r)->(k1 (dx k v)).wp P tt w' Q) (h0:todo=[]->k0.wp P tt w Q) (hx:∀ k v,z1b ss (dx k v)=[ek k,ev v]:=by intros;rfl) :
  (Prog.next (Instr.next (.pointer (some ⟨it,0,none⟩)) false ty) ss k1 k0).wp P tt w Q:=by
 obtain ⟨E,c,since,c0,seen,hok,hs⟩:=(hs.perm hf.perm).itOpen
 have hit:=hs.get
 have hm:=hs.tail.get
 obtain ⟨hmok,hold,hlook,hclk,-,ys,hys,hleft⟩:=hok
 rcases run_next_at (P:=P) w ty it m since c0 seen E c hit hm hold hlook with ⟨h,hrun⟩|⟨e,he,w1,hw1,hrun⟩
 ·refine .inr ⟨w,hrun,trivial,h0 ?_⟩
  have h2:ys.length=0:=by
   have:=congrArg List.length hleft
   rw [List.length_map,List.length_map,Array.length_toList,h] at this
   exact this.symm
  exact (hys.symm.trans (by rw [List.length_eq_zero_iff.1 h2])).eq_nil
 ·obtain ⟨xs,hxs,hnd,hkv,hborn,hlt⟩:=hmok
  have hpush:=zwv hborn he
  have hmem:(e.key,e.val) ∈ (leftOf E seen).toList.map λe=>(e.key,e.val):=List.mem_map.2 ⟨e,he,rfl⟩
  have hmap:=hpush.map λe=>(e.key,e.val)
  rw [hleft,List.map_cons] at hmap
  obtain ⟨ys',hys',hmap'⟩:∃ ys':List (K × V),∃ kv:K × V,ys.Perm (kv::ys')/\(e.key,e.val)=(ek kv.1,ev kv.2)/\(leftOf E (seen.push e.born)).toList.map (λe=>(e.key,e.val))=ys'.map λx=>(ek x.1,ev x.2):=by
   rw [hleft] at hmem
   obtain ⟨a,b,hab⟩:=List.append_of_mem he
   have h3:leftOf E seen=⟨a++e::b⟩:=by
    apply Array.toList_inj.1
    exact hab
   have h4:(leftOf E (seen.push e.born)).toList=a++b:=by
    have h5:(leftOf E (seen.push e.born)).toList=(leftOf E seen).toList.filter λy=>!(y.born == e.born):=by
     unfold leftOf
     rw [Array.toList_filter,Array.toList_filter,List.filter_filter]
     refine List.filter_congr λy _=>?_
     simp only [Array.contains_push]
     cases seen.contains y.born <;> cases (y.born == e.born) <;> rfl
    rw [h5,hab,List.filter_append,List.filter_cons_of_neg (by simp)]
    have hpw:(a++e::b).Pairwise λa b=>a.born<b.born:=by
     rw [<- hab]
     unfold leftOf
     rw [Array.toList_filter]
     exact hborn.filter _
    rw [List.pairwise_append,List.pairwise_cons] at hpw
    congr 1
    ·exact List.filter_eq_self.2 λy hy=>by
      have:=hpw.2.2 y hy e (List.mem_cons_self ..)
      have:(y.born == e.born)=false:=by rw [beq_eq_false_iff_ne];omega
      rw [this];rfl
    ·exact List.filter_eq_self.2 λy hy=>by
      have:=hpw.2.1.1 y hy
      have:(y.born == e.born)=false:=by rw [beq_eq_false_iff_ne];omega
      rw [this];rfl
   rw [hab,List.map_append,List.map_cons] at hleft
   have hl:a.length<ys.length:=by
    have:=congrArg List.length hleft
    simp at this;omega
   have e1:=List.take_append_drop a.length ys
   have e2:ys.drop a.length=ys[a.length]::ys.drop (a.length+1):=List.drop_eq_getElem_cons hl
   have h6:(a.map λe=>(e.key,e.val))++((e.key,e.val)::b.map λe=>(e.key,e.val))=(ys.take a.length).map (λx=>(ek x.1,ev x.2))++((ek ys[a.length].1,ev ys[a.length].2)::(ys.drop (a.length+1)).map λx=>(ek x.1,ev x.2)):=by
    rw [hleft]
    conv=>lhs;rw [<- e1,e2]
    rw [List.map_append,List.map_cons]
   have h7:=List.append_inj h6 (by simp;omega)
   rw [List.cons.injEq] at h7
   refine ⟨ys.take a.length++ys.drop (a.length+1),ys[a.length],?_,h7.2.1,?_⟩
   ·conv=>lhs;rw [<- e1,e2]
    exact List.perm_middle
   ·rw [h4,List.map_append,List.map_append,h7.1,h7.2.2]
  obtain ⟨hp,hkve,hl'⟩:=hmap'
  simp only [Prod.mk.injEq] at hkve
  refine .inl ⟨dx hys'.1 hys'.2,setBlock w1 it (.mapIter (some m) since (seen.push e.born) c),?_,trivial,h1 hys'.1 hys'.2 ys' _ (hys.symm.trans hp) ?_⟩
  ·rw [hrun,hkve.1,hkve.2]
   congr 2
   rw [hx]
  ·have hs1:Sat w1 (pt it (.mapIter (some m) since seen c0)::pt m (.map E c)::r):=by
    rcases hw1 with rfl|rfl
    ·exact hs
    ·exact hs.heap ⟨rfl,rfl,rfl⟩
   have hs2:=hs1.set (o':=.mapIter (some m) since (seen.push e.born) c)
   have heE:e ∈ E.toList:=by
    unfold leftOf at he
    rw [Array.toList_filter] at he
    exact (List.mem_filter.1 he).1
   exact Sat.itShut ⟨⟨xs,hxs,hnd,hkv,hborn,hlt⟩,hold,hclk,hclk,(λkv h=>⟨rfl,e,heE,seen,rfl,by obtain rfl:=Option.some.inj h;exact hkve⟩),ys',.refl _,hl'⟩ hs2
theorem zrw {ss:List Sh1} {k:HL (prims ss)->Prog} {kk:K} {v:V} {p:Prog} (hs:Sat w l) [hf:FoI l it ek ev m es todo (some (kk,v)) r] (x:HL (prims ss)) [hA:App k x p] (h:p.wp P S w Q) (hx:z1b ss x=[ek kk,ev v]:=by rfl) (hS:∀ w',S w':=by exact λ_=>trivial) :
  (Prog.act (Instr.entry (.pointer (some ⟨it,0,none⟩))) (.tup ss) k).wp P S w Q:=by
 obtain ⟨E,c,since,c0,seen,hok,hs⟩:=(hs.perm hf.perm).itOpen
 have hit:=hs.get
 have hm:=hs.tail.get
 obtain ⟨hmok,hold,hlook,hclk,hlst,-⟩:=hok
 obtain ⟨rfl,e,he,s',rfl,h1,h2⟩:=hlst _ rfl
 obtain ⟨xs,-,-,-,hborn,-⟩:=hmok
 have hnd:(E.toList.map (·.born)).Nodup:=by
  rw [List.Nodup,List.pairwise_map]
  exact hborn.imp λ{a b} h=>by omega
 have hrun:=run_entry_at (P:=P) w it m since s' E c0 e hit hm he hnd
 refine ⟨x,w,?_,hS _,by rw [hA.ok];exact h⟩
 rw [hrun,h1,h2]
 show Result.ok (Value.tuple #[ek kk,ev v]) w=Result.ok (Value.tuple (z1b ss x).toArray) w
 rw [hx]
end
class ByE (P:Program) (t:TypeId) (e:outParam TypeId):Prop where
 ok:P.underlying t=some (.slice e)/\P.underlying e=some (.int .u8)/\sizeOf? P e=some 1
def zk (b:UInt8):List Value:=[.int .u8 b.toNat]
instance:Enc1 zk (.int .u8) (λb=>(b.toNat:Int)):=⟨λ_=>rfl⟩
instance:EncN zk 1:=⟨λ_=>rfl,by decide,by simp [zk,Value.oneCell']⟩
theorem zac (bs:List UInt8):bs.flatMap zk=bs.map λb=>Value.int .u8 b.toNat:=by
 induction bs with
 | nil=>rfl
 | cons n r ih=>rw [List.flatMap_cons,ih];rfl
theorem z3n {α:Type} {enc:α->List Value} {sz:Nat} [h:EncN enc sz] (xs:List α):(xs.flatMap enc).length=xs.length*sz:=z60 h.len xs
section
variable {P:Program} {w:World} {l r:List HP} {Q:Post} {S:World->Prop} {T ts t e:TypeId} {sz:Nat} {x:Sl} {g:Prop}
theorem Sat.slen {α:Type} {enc:α->List Value} {xs:List α} (hs:Sat w l) (x:Sl) [hf:FocR l x sz (xs.flatMap enc)] [hE:EncN enc sz]:x.len=xs.length:=(hf.rd w hs).len hE.len hE.pos
theorem Sat.slc_cap {cs:List Value} (hs:Sat w (slc T sz x cs::l)):x.len<=x.cap:=by
 obtain ⟨p1,p2,h1,h2,hd,hA,hl⟩:=hs
 rcases hA with ⟨-,h1,h2,-⟩|⟨b,off,arr,fr,ha,hb,hlen,hle,-⟩
 ·omega
 ·exact hle
theorem znh [ht:ByE P t e] [hst:StT P ts] {s:ByteArray} {k:Sl->Prog} (hs:Sat w l) (h:∀ x w',Sat w' (slc e 1 x (s.data.toList.flatMap zk)::l)->(k x).wp P S w' Q) (hS:∀ w',S w':=by exact λ_=>trivial) :
  (Prog.act (convert ts t (.string s)) sL (u1 k)).wp P S w Q:=by
 obtain ⟨h1,h2,-⟩:=ht.ok
 have hrun:=Lib.run_convert_string_bytes (P:=P) w ts t e s hst.ok h1 h2
 refine ⟨(⟨some ⟨w.heap.size,0,none⟩,s.size,grownCap w s.size 0 e⟩,()),_,hrun,hS _,h _ _ ?_⟩
 have hge:=grownCap_ge w s.size 0 e
 have hpush:(Lib.bytesWorld w e s).heap=w.heap.push (.cells (Lib.bytesCells w e s) e ((Lib.bytesCells w e s).size,(Lib.bytesCells w e s).size+1)):=by
  apply Array.ext_getElem?
  intro i
  rw [Array.getElem?_push]
  by_cases hi:i=w.heap.size
  ·rw [hi,if_pos rfl];exact Lib.bytesWorld_at_new w e s
  ·rw [if_neg hi]
   rcases Nat.lt_or_ge i w.heap.size with h'|h'
   ·exact Lib.bytesWorld_at_old w e s i h'
   ·rw [Array.getElem?_eq_none (by rw [Lib.bytesWorld_size];omega),Array.getElem?_eq_none h']
 have hp:=hs.push hpush rfl rfl
 refine hp.imp λp hp=>.inr ⟨w.heap.size,0,_,_,rfl,hp,?_,hge,?_,λi hi=>?_,λi h1 h2 h3=>?_⟩
 ·rw [z3n];rfl
 ·simp [Lib.bytesCells];show s.data.size+_>=_;have:s.size=s.data.size:=rfl;omega
 ·rw [z3n] at hi
  have hi:i<s.data.toList.length:=by omega
  rw [Nat.zero_add,zac]
  have hi2:i<s.data.size:=by simpa using hi
  have hi3:¬ s.size<=i:=by have:s.size=s.data.size:=rfl;omega
  simp [Lib.bytesCells,Array.getElem?_append,hi2,hi3]
 ·have:(Lib.bytesCells w e s).size=s.size+(grownCap w s.size 0 e-s.size):=by simp [Lib.bytesCells]
  dsimp only at h2 h3
  omega
theorem z055 [ht:ByE P t e] [hst:StT P ts] {bs:List UInt8} (hs:Sat w l) [hf:FocR l x 1 (bs.flatMap zk)]:(convert t ts (.slice x.a x.len x.cap)).run P w=.ok (.string ⟨bs.toArray⟩) w:=by
 obtain ⟨h1,h2,-⟩:=ht.ok
 have hl:=hs.slen x (xs:=bs) (enc:=zk)
 obtain ⟨hlen,h0⟩:=hf.rd w hs
 obtain ⟨a,n,c⟩:=x
 simp only at hl h0 ⊢
 subst hl
 by_cases hz:bs=[]
 ·subst hz
  rw [run_convert_bytes_string w t ts e a _ c h1 h2 hst.ok]
  cases a <;> simp [Conv.bytesToString,loadCells,loadCellsFrom]
  all_goals rfl
 ·rcases h0 with h0|⟨b,off,arr,T',fr,rfl,hb,hc⟩
  ·exact absurd (List.length_eq_zero_iff.1 h0) hz
  ·exact run_convert_bytes_back w t ts e _ c bs h1 h2 hst.ok λj hj=>by
    rw [z23,z33 hb,hc j (by rw [z3n];omega),zac]
    simp [hj]
theorem zy1 [ht:ByE P t e] [hst:StT P ts] {bs:List UInt8} {k:ByteArray->Prog} (hs:Sat w l) [hf:FocR l x 1 (bs.flatMap zk)] (h:(k ⟨bs.toArray⟩).wp P S w Q) :
  (Prog.read g (convert t ts (.slice x.a x.len x.cap)) sS (u1 k)).wp P S w Q:=⟨(_,()),λ_=>z055 hs,h⟩
theorem z9i {α:Type} {enc:α->List Value} {n:Nat} {ps:Array (Nat × Value)} {el:TypeId} {bytes:Nat} {cs:Array Value} {k:Sl->Prog} (hs:Sat w l) [ht:SlT P t el sz bytes] [hE:EncN enc sz] (xs:List α) (hc:z42 P t n ps=some (el,cs))
  (h:∀ b w',Sat w' (slc el sz ⟨some ⟨b,0,none⟩,n,n⟩ (xs.flatMap enc)::l)->(k ⟨some ⟨b,0,none⟩,n,n⟩).wp P S w' Q) (hx:xs.flatMap enc=cs.toList:=by rfl) (hn:xs.length=n:=by rfl) (hS:∀ w',S w':=by exact λ_=>trivial) :
  (Prog.act (Instr.buildSlice t n ps) sL (u1 k)).wp P S w Q:=by
 have hp:=hs.push (o:=.cells cs el) (w':={ w with heap:=w.heap.push (.cells cs el) }) rfl
 refine ⟨(⟨some ⟨w.heap.size,0,none⟩,n,n⟩,()),_,zhk hc,hS _,h _ _ ?_⟩
 rw [hx]
 exact hp.slc_of (by rw [<- Array.length_toList,<- hx,z3n,hn])
theorem bs0 {bytes:Nat} {el:TypeId} [ht:SlT P t el sz bytes]:z42 P t 0 #[]=some (el,#[]):=by
 obtain ⟨i,z,hi,h2,h3,h4,h5⟩:=ht.parts
 unfold z42
 simp [ht.ok.1,hi,Instr.fill]
theorem za3 {α:Type} {enc:α->List Value} {v:Value} {el:TypeId} {bytes:Nat} {cs:List Value} {k:Sl->Prog} (hs:Sat w l) [ht:SlT P t el sz bytes] [hE:EncN enc sz] [hv:Cells v cs] (y:α)
  (h:∀ x w',Sat w' (slc el sz x ([y].flatMap enc)::l)->(k x).wp P S w' Q) (hy:cs=enc y:=by rfl) (hS:∀ w',S w':=by exact λ_=>trivial) (hz:(!Nat.beq sz 0 && Nat.ble sz 16777216)=true:=by rfl) :
  (Prog.act (Instr.buildSlice t 1 #[(0,v)]) sL (u1 k)).wp P S w Q:=by
 have h1:v.cells=(enc y).toArray:=by rw [hv.ok,hy]
 rw [Bool.and_eq_true,Bool.not_eq_true'] at hz
 have hlen:=hE.len y
 exact z9i hs [y] (bs1 h1 hz.1 hz.2 (by simp [hlen])) (λb w'=>h _ w') (by simp) rfl hS
theorem wp_app' {α:Type} {enc:α->List Value} {xs ys:List α} {tx ty el el':TypeId} {bytes sz' bytes':Nat} {x y:Sl} {k:Sl->Prog} (hs:Sat w l) [ht:SlT P t el sz bytes] [htx:SlT P tx el' sz' bytes'] [hf:FocS l x el sz (xs.flatMap enc) r] [hy:FocR l y sz (ys.flatMap enc)] [hE:EncN enc sz]
  (h:∀ z w',Sat w' (slc el sz z ((xs++ys).flatMap enc)::r)->(k z).wp P S w' Q) (hb:(xs.length+ys.length)*bytes<=140737488355328/\xs.length+ys.length<=9223372036854775807:=by omega) (hS:∀ w',S w':=by exact λ_=>trivial) :
  (Prog.act (app t tx ty (.slice x.a x.len x.cap) (.slice y.a y.len y.cap)) sL (u1 k)).wp P S w Q:=by
 have h1:x.len=xs.length:=(hs.focS x).rd.len hE.len hE.pos
 have h2:=hs.slen y (xs:=ys) (enc:=enc)
 refine ztg hs (hy.rd w hs) (λu hu=>?_) (by rw [h1,h2];exact hb.1) (by rw [h1,h2];exact hb.2) λz w' _ hs'=>⟨hS _,h z w' ?_⟩
 ·obtain ⟨a,-,hu⟩:=List.mem_flatMap.1 hu
  exact hE.one a u hu
 ·rw [List.flatMap_append];exact hs'
theorem Sat.slc_cut {cs:List Value} {n:Nat} (hs:Sat w (slc T sz x cs::l)) (hn:n<=x.len):Sat w (slc T sz ⟨x.a,n,n⟩ (cs.take (n*sz))::l):=by
 refine hs.imp λp hp=>?_
 rcases hp with ⟨h1,h2,h3,rfl⟩|⟨b,off,arr,fr,ha,hb,hlen,hle,hsz,hc,hf⟩
 ·exact .inl ⟨h1,by dsimp only;omega,by dsimp only;omega,by simp⟩
 ·have hnc:n*sz<=x.cap*sz:=Nat.mul_le_mul_right _ (by omega)
  have hnl:n*sz<=x.len*sz:=Nat.mul_le_mul_right _ hn
  refine .inr ⟨b,off,arr,fr,ha,hb,?_,Nat.le_refl _,by dsimp only;omega,λi hi=>?_,λi h1 h2=>hf i h1 (by dsimp only at h2;omega)⟩
  ·rw [List.length_take,hlen];dsimp only;omega
  ·rw [List.length_take] at hi
   rw [hc i (by omega),List.getElem?_take,if_pos (by omega)]
theorem z7o {α:Type} {enc:α->List Value} [hE:EncN enc sz]:∀ (xs:List α) (n:Nat),(xs.flatMap enc).take (n*sz)=(xs.take n).flatMap enc
 | [],n=>by simp
 | x::xs,0=>by simp
 | x::xs,n+1=>by
  rw [List.take_succ_cons,List.flatMap_cons,List.flatMap_cons,Nat.add_mul,Nat.one_mul,Nat.add_comm,List.take_append,hE.len,List.take_of_length_le (by rw [hE.len];omega),Nat.add_sub_cancel_left,z7o xs n]
theorem Rd.pre {α:Type} {enc:α->List Value} [hE:EncN enc sz] {xs:List α} (h:Rd w sz x (xs.flatMap enc)) {n c:Nat} (hn:n<=xs.length):Rd w sz ⟨x.a,n,c⟩ ((xs.take n).flatMap enc):=by
 obtain ⟨hlen,h0⟩:=h
 refine ⟨by rw [z3n,List.length_take,Nat.min_eq_left hn],?_⟩
 rcases h0 with h0|⟨b,off,arr,T',fr,ha,hb,hc⟩
 ·rw [z3n,h0] at hlen
  have:=hE.pos
  have h1:xs.length=0:=by
   rcases Nat.mul_eq_zero.1 (hlen.trans (Nat.zero_mul _)) with h|h
   ·exact h
   ·omega
  exact .inl (by show n=0;omega)
 ·refine .inr ⟨b,off,arr,T',fr,ha,hb,λi hi=>?_⟩
  rw [<- z7o,List.length_take] at hi
  rw [hc i (by omega),<- z7o,List.getElem?_take,if_pos (by omega)]
theorem FocR.pre {α:Type} {enc:α->List Value} [hE:EncN enc sz] {xs:List α} [hf:FocR l x sz (xs.flatMap enc)] {n c:Nat} (hn:n<=xs.length):FocR l ⟨x.a,n,c⟩ sz ((xs.take n).flatMap enc):=⟨λw hs=>(hf.rd w hs).pre hn⟩
theorem z07k {α:Type} {enc:α->List Value} {xs:List α} {i i':Int} {k:Prog} {v:Value} (hs:Sat w l) [hf:FocS l x T sz (xs.flatMap enc) r] [hE:EncN enc sz] [hT:One P t] (n:Nat) (hn:n<xs.length) (y:α)
  (h:∀ w',Sat w' (slc T sz x ((xs.set n y).flatMap enc)::r)->k.wp P S w' Q) (hi:i=n:=by first|rfl|omega) (hi':i'=i:=by rfl) (hy:v.cells.toList=enc y:=by rfl) (hsz:Nat.beq sz 1=true:=by rfl) (hS:∀ w',S w':=by exact λ_=>trivial) :
  (Prog.ex [.adr] (c1 λa=>0<=i/\i<((x.len:Nat):Int)/\x.a=some a) (u1 λa=>.actU (st t (Addr.add a (Int.toNat i'*sz)) v) k)).wp P S w Q:=by
 have hz:=Nat.eq_of_beq_eq_true hsz
 subst hz hi hi'
 have hr:=(hs.focS x).rd
 have hl:x.len=xs.length:=hr.len hE.len hE.pos
 obtain ⟨a,ha,he⟩:=hr.el hE.len (by omega)
 refine ⟨(a,()),⟨by omega,by omega,ha⟩,?_⟩
 exact zy2 (xs:=xs) (i:=n) (y:=y) hE.len hs ha hn (λb o e=>by subst e;rw [z23,Int.toNat_natCast]) hT.ok.2 hy (hE.one y) λw' hs'=>⟨hS _,h w' hs'⟩
class EncF {α:Type} (enc:α->List Value) (j:Nat) (p:Pr) (dec:outParam (α->p.D)):Prop where
 ok:∀ y,(enc y)[j]? = some (p.mk (dec y))
theorem zec {α:Type} {enc:α->List Value} {xs:List α} {j n:Nat} {p:Pr} {dec:α->p.D} (hs:Sat w l) [hf:FocR l x sz (xs.flatMap enc)] [hE:EncN enc sz] [hD:EncF enc j p dec] [hT:One P T] (hn:n<xs.length) :
  ∃ a,x.a=some a/\x.len=xs.length/\(ld T (Addr.add (Addr.add a (n*sz)) j)).run P w=.ok ((Sh.one (.one p)).mk (dec xs[n],())) w:=by
 have hr:=hf.rd w hs
 have hl:x.len=xs.length:=hr.len hE.len hE.pos
 obtain ⟨a,ha,he⟩:=hr.el hE.len (by omega)
 refine ⟨a,ha,hl,?_⟩
 have h2:=At.fld (P:=P) (T:=T) (he n hn) (hD.ok xs[n])
 cases p <;> exact h2
theorem zdx {α:Type} {enc:α->List Value} {xs:List α} {i i':Int} {j:Nat} {g':Prop} {p:Pr} {dec:α->p.D} {f:p.D->Prog} (hs:Sat w l) [hf:FocR l x sz (xs.flatMap enc)] [hE:EncN enc sz] [hD:EncF enc j p dec] [hT:One P T]
  (n:Nat) (hn:n<xs.length) (h:(f (dec xs[n])).wp P S w Q) (hi:i=n:=by first|rfl|omega) (hi':i'=i:=by rfl) :
  (Prog.ex [.adr] (c1 λa=>0<=i/\i<((x.len:Nat):Int)/\x.a=some a) (u1 λa=>.read g' (ld T (Addr.add (Addr.add a (Int.toNat i'*sz)) j)) (.one (.one p)) (u1 f))).wp P S w Q:=by
 subst hi hi'
 obtain ⟨a,ha,hl,hr⟩:=zec (P:=P) (T:=T) (j:=j) (enc:=enc) (p:=p) (dec:=dec) (x:=x) hs hn
 exact ⟨(a,()),⟨by omega,by omega,ha⟩,(dec xs[n],()),λ_=>by rw [Int.toNat_natCast];exact hr,h⟩
theorem z05j {α:Type} {enc:α->List Value} {xs:List α} {i i':Int} {j:Nat} {g g':Prop} {p:Pr} {dec:α->p.D} {f:p.D->Prog} (hs:Sat w l) [hf:FocR l x sz (xs.flatMap enc)] [hE:EncN enc sz] [hD:EncF enc j p dec] [hT:One P T]
  (n:Nat) (hn:n<xs.length) (h:(f (dec xs[n])).wp P S w Q) (hi:i=n:=by first|rfl|omega) (hi':i'=i:=by rfl) :
  (Prog.ex [.adr] (c1 λa=>g->0<=i/\i<((x.len:Nat):Int)/\x.a=some a) (u1 λa=>.read g' (ld T (Addr.add (Addr.add a (Int.toNat i'*sz)) j)) (.one (.one p)) (u1 f))).wp P S w Q:=by
 subst hi hi'
 obtain ⟨a,ha,hl,hr⟩:=zec (P:=P) (T:=T) (j:=j) (enc:=enc) (p:=p) (dec:=dec) (x:=x) hs hn
 exact ⟨(a,()),λ_=>⟨by omega,by omega,ha⟩,(dec xs[n],()),λ_=>by rw [Int.toNat_natCast];exact hr,h⟩
theorem z05k {α:Type} {enc:α->List Value} {xs:List α} {i i':Int} {j:Nat} {k:Prog} {v:Value} (hs:Sat w l) [hf:FocS l x T sz (xs.flatMap enc) r] [hE:EncN enc sz] [hT:One P t] (n:Nat) (hn:n<xs.length) (y:α)
  (h:∀ w',Sat w' (slc T sz x ((xs.set n y).flatMap enc)::r)->k.wp P S w' Q) (hi:i=n:=by first|rfl|omega) (hi':i'=i:=by rfl) (hy:enc y=(enc xs[n]).set j v:=by rfl) [hv:Cells v [v]] [ho:Ones [v]] (hj:j<sz:=by decide) (hS:∀ w',S w':=by exact λ_=>trivial) :
  (Prog.ex [.adr] (c1 λa=>0<=i/\i<((x.len:Nat):Int)/\x.a=some a) (u1 λa=>.actU (st t (Addr.add (Addr.add a (Int.toNat i'*sz)) j) v) k)).wp P S w Q:=by
 subst hi hi'
 have hr:=(hs.focS x).rd
 have hl:x.len=xs.length:=hr.len hE.len hE.pos
 obtain ⟨a,ha,he⟩:=hr.el hE.len (by omega)
 refine ⟨(a,()),⟨by omega,by omega,ha⟩,?_⟩
 exact z07n (xs:=xs) (i:=n) (j:=j) (y:=y) hE.len hs ha hn hj (λb o e=>by subst e;rw [z23,z23,Int.toNat_natCast,Nat.add_assoc]) hv.ok (by have:=ho.ok v (List.mem_singleton.2 rfl);exact this) hy λw' hs'=>⟨hS _,h w' hs'⟩
end
section
variable {w:World} {l r:List HP}
theorem Sat.all_cons' {a:HP} {L:List HP} (hs:Sat w (HP.all (a::L)::l)):Sat w (a::HP.all L::l):=by
 refine Sat.star (A:=a) (B:=HP.all L) (hs.imp λp h=>?_)
 obtain ⟨p1,p2,h1,h2,hd,hA,hl⟩:=h
 exact ⟨p1,p2,h1,h2,hd,hA,hl⟩
theorem Sat.all_perm' {L L':List HP} (hp:L.Perm L') (hs:Sat w (HP.all L::l)):Sat w (HP.all L'::l):=hs.imp λp h=>zam hp h
theorem Sat.all_mem {α:Type} {f:α->HP} {xs:List α} {x:α} (hx:x ∈ xs) (hs:Sat w (HP.all (xs.map f)::l)):∃ L,Sat w (f x::HP.all L::l):=by
 obtain ⟨s,u,rfl⟩:=List.append_of_mem hx
 exact ⟨(s++u).map f,(hs.all_perm' (L':=f x::(s++u).map f) ((List.perm_middle (l₁:=s) (l₂:=u) (a:=x)).map f)).all_cons'⟩
end
theorem z04c {W w':World} {l:List HP} (hs:Sat w' (whole W::l)) (may:MemPlace->Prop):W.keptBut w' may:=by
 obtain ⟨h,ho,hu,hz⟩:=hs.of_whole
 refine ⟨ho,hu,λi hi=>?_⟩
 have hg:W.heap[i]? = some W.heap[i]:=by simp [hi]
 have hg':=h i _ hg
 rw [hg,hg']
 cases W.heap[i] with
 | cells c t fr=>exact ⟨rfl,rfl,rfl,λ_ _=>rfl⟩
 | map es c=>exact .inr ⟨rfl,rfl⟩
 | _=>rfl
section
open Go.ChangeShapes
variable {H:Type} {enc:TypeId × Value->H} {P:Program}
theorem z0ad {f:Func} {s:ChangeSpec} {apart fresh handsOn again:Bool} {W W':World} {args:Array Value} {v:Value} {ds gs:List (DataW H)} {before pa pv:List MemPlace} {l:List HP}
  (hW:DataW.Whole enc P f.params.toList s.vars apart W args.toList ds gs before) (hs:Sat W' (whole W::l))
  (hres:∀ (b:Nat) (sp:Nat->Bool) (hd:Bool),DataW.TrodAll enc P W' b sp hd f.resultTypes.toList (v.resultList f.resultTypes.size) (s.fn H (ds++gs)).results [])
  (hargs:∀ sp:Nat->Bool,(∀ p ∈ before,sp p.block=true)->DataW.TrodAll enc P W' 0 sp true f.params.toList args.toList (s.fn H (ds++gs)).args pa)
  (hvars:∀ sp:Nat->Bool,(∀ p ∈ before,sp p.block=true)->DataW.TrodVars enc P W' sp s.vars (s.fn H (ds++gs)).vars pv)
  (hps:before=pa++pv)
  (hok:∀ (j:Nat) (t:TypeId) (r:Value),f.resultTypes[j]? = some t->(v.resultList f.resultTypes.size)[j]? = some r->Value.okWide P W' .any 0 t r) :
  s.post enc P f apart fresh handsOn again W args v W':=by
 have hlt:=hW.lt
 have hz:=hs.of_whole.2.2.2
 have hkeep:=z04c hs
 refine ⟨ds,gs,before,[],pa,pv,hW,hres _ _ _,hargs _ λp hp=>decide_eq_true (hlt p hp),hvars _ λp hp=>decide_eq_true (hlt p hp),World.keptBut_mono (λp hp=>⟨hp,.inr (by rw [hps] at hp;exact List.mem_append.1 hp)⟩) (hkeep (· ∈ before)),λ_=>?_⟩
 obtain ⟨_,_,_,_,_,hfz,hnd⟩:=hW
 refine ⟨hok,_,_,([]++pa)++pv,⟨[]++pa,pv,trodAll_append (hargs _ λ_ _=>rfl) (hres _ _ _),hvars _ λ_ _=>rfl,rfl,λb off hp=>?_,λha=>?_⟩,λp hp _=>?_⟩
 ·have hmem:MemPlace.cell b off ∈ before:=by rw [hps];simpa using hp
  rw [hz _ (hlt _ hmem)]
  exact hfz b off hmem
 ·have:=hnd ha
  rw [hps] at this
  simpa using this
 ·rw [hps];simpa using hp
end
theorem z6l {α β:Type} {f g:α->Option β}:∀ {l:List α} {ys:List β},l.mapM f=some ys->(∀ a y,a ∈ l->y ∈ ys->f a=some y->g a=some y)->l.mapM g=some ys
 | [],ys,h,_=>by simpa using h
 | a::r,ys,h,hk=>by
  rw [List.mapM_cons] at h ⊢
  cases ha:f a with
  | none=>rw [ha] at h;cases h
  | some y =>
   rw [ha] at h
   cases hr:r.mapM f with
   | none=>rw [hr] at h;cases h
   | some zs =>
    rw [hr] at h
    obtain rfl:y::zs=ys:=by simpa using h
    rw [hk a y (List.mem_cons_self ..) (List.mem_cons_self ..) ha,z6l hr λb z hb hz hf=>hk b z (List.mem_cons_of_mem _ hb) (List.mem_cons_of_mem _ hz) hf]
    rfl
section
variable {H:Type} {enc:TypeId × Value->H} {P:Program} {W W':World} {base:Nat} {sp:Nat->Bool} {L:List TypeId}
theorem zw3 (hb:∀ (b:Nat) (o:Obj),W.heap[b]? = some o->W'.heap[b]? = some o) {a:Addr} {v:Value} (h:W.cell? a=some v):W'.cell? a=some v:=by
 unfold World.cell? at h ⊢
 cases ho:W.heap[a.block]? with
 | none=>rw [ho] at h;cases h
 | some o=>rw [ho] at h;rw [hb _ _ ho];exact h
theorem zs2 (hb:∀ (b:Nat) (o:Obj),W.heap[b]? = some o->W'.heap[b]? = some o) {a:Addr} {n:Nat} {cs:List Value} (h:W.cells? base a n=some cs):W'.cells? base a n=some cs:=by
 unfold World.cells? at h ⊢
 split at h
 ·rename_i hc
  rw [if_pos hc]
  exact z6l h λi v _ _ hv=>zw3 hb hv
 ·cases h
def zqa (P:Program) (L:List TypeId):Bool:=L.all λt=>match P.underlying t with
 | some (.pointer e)=>L.any (Nat.beq e)
 | some (.slice e)=>L.any (Nat.beq e) && Nat.blt 0 (P.cellsOf e)
 | some (.array _ e)=>L.any (Nat.beq e)
 | some (.struct fs)=>fs.toList.all λf=>L.any (Nat.beq f.type)
 | some (.map _ e)=>L.any (Nat.beq e)
 | _=>true
theorem zma {L:List TypeId} {e:TypeId} (h:L.any (Nat.beq e)=true):e ∈ L:=by
 obtain ⟨x,hx,he⟩:=List.any_eq_true.1 h
 rwa [Nat.eq_of_beq_eq_true he]
theorem zkk (hz:zqa P L=true) (hb:∀ (b:Nat) (o:Obj),W.heap[b]? = some o->W'.heap[b]? = some o):∀ (fuel:Nat) (t:TypeId) (cs:List Value) (x:DataW H × List MemPlace),t ∈ L ->
  DataW.trod enc P W base (λ_=>true) true fuel t cs=some x->(∀ p ∈ x.2,sp p.block=true)->DataW.trod enc P W' base sp true fuel t cs=some x
 | 0,t,cs,x,ht,h,hp=>by simp [DataW.trod] at h
 | fuel+1,t,cs,x,ht,h,hp=>by
  have ih:=zkk hz hb fuel
  have hk:=List.all_eq_true.1 hz t ht
  unfold DataW.trod at h ⊢
  have here:∀ {e:TypeId} {a:Addr} {n:Nat} {y:DataW H × List MemPlace},e ∈ L->(W.cells? base a n).bind (DataW.trod enc P W base (λ_=>true) true fuel e)=some y->(∀ p ∈ y.2,sp p.block=true) ->
    (W'.cells? base a n).bind (DataW.trod enc P W' base sp true fuel e)=some y:=λ{e a n y} he h hp=>by
   cases hc:W.cells? base a n with
   | none=>rw [hc] at h;cases h
   | some cs=>rw [hc] at h;rw [zs2 hb hc];exact ih e cs y he h hp
  split at h
  all_goals first|exact h|skip
  case h_6 =>
   rename_i e a hu
   rw [hu] at hk
   have he:e ∈ L:=zma hk
   cases hc:(W.cells? base a (P.cellsOf e)).bind (DataW.trod enc P W base (λ_=>true) true fuel e) with
   | none=>rw [hc] at h;cases h
   | some y =>
    rw [hc] at h
    obtain rfl:=Option.some.inj h
    rw [here he hc λp h=>hp p (List.mem_append_right _ h)]
    rfl
  case h_8 =>
   rename_i e a len cap hu
   rw [hu] at hk
   have hk:(L.any (Nat.beq e) && Nat.blt 0 (P.cellsOf e))=true:=hk
   rw [Bool.and_eq_true] at hk
   have he:e ∈ L:=zma hk.1
   dsimp only at h ⊢
   split at h
   ·rename_i hc
    rw [if_pos rfl] at h
    cases h1:(List.range len).mapM (λi=>(W.cells? base (a.add (i*P.cellsOf e)) (P.cellsOf e)).bind (DataW.trod enc P W base (λ_=>true) true fuel e)) with
    | none=>rw [h1] at h;cases h
    | some elems =>
     rw [h1] at h
     simp only [Option.bind_some] at h
     cases h2:(List.range (cap-len)).mapM (λj=>(W.cells? base (a.add ((len+j)*P.cellsOf e)) (P.cellsOf e)).bind (DataW.trod enc P W base (λ_=>true) true fuel e)) with
     | none=>rw [h2] at h;cases h
     | some rest =>
      rw [h2] at h
      obtain rfl:=Option.some.inj h
      have hin:∀ y,y ∈ elems++rest->∀ p ∈ y.2,sp p.block=true:=λy hy p hpy=>hp p (List.mem_append_right _ (List.mem_flatMap.2 ⟨y,hy,hpy⟩))
      rw [z6l h1 λi y _ hy hf=>here he hf (hin y (List.mem_append_left _ hy))]
      simp only [Option.bind_some]
      have hs:(if sp a.block=true then (List.range (cap-len)).mapM (λj=>(W'.cells? base (a.add ((len+j)*P.cellsOf e)) (P.cellsOf e)).bind (DataW.trod enc P W' base sp true fuel e)) else some [])=some rest:=by
       split
       ·exact z6l h2 λi y _ hy hf=>here he hf (hin y (List.mem_append_right _ hy))
       ·rename_i hsp
        cases hr:rest with
        | nil=>rfl
        | cons y r =>
         exfalso
         have hpos:0<P.cellsOf e:=Nat.le_of_ble_eq_true hk.2
         refine hsp (hp (.cell a.block (a.off+0)) (List.mem_append_left _ ?_))
         unfold MemPlace.row
         refine List.mem_map.2 ⟨0,List.mem_range.2 ?_,rfl⟩
         rw [hr]
         exact Nat.mul_pos (by rw [List.length_cons];omega) hpos
      rw [hs,if_pos hc]
      rfl
   ·cases h
  case h_9 =>
   rename_i fs hu
   rw [hu] at hk
   have hk:=List.all_eq_true.1 hk
   split at h
   ·rename_i hc
    rw [if_pos hc]
    obtain ⟨xs,h1,rfl⟩:=Option.map_eq_some_iff.1 h
    rw [z6l h1 λf y hf' hy hf=>ih _ _ y (zma (hk f hf')) hf λp hpy=>hp p (List.mem_flatMap.2 ⟨y,hy,hpy⟩)]
    rfl
   ·cases h
  case h_10 =>
   rename_i n e hu
   rw [hu] at hk
   split at h
   ·rename_i hc
    rw [if_pos hc]
    obtain ⟨xs,h1,rfl⟩:=Option.map_eq_some_iff.1 h
    rw [z6l h1 λf y _ hy hf=>ih _ _ y (zma hk) hf λp hpy=>hp p (List.mem_flatMap.2 ⟨y,hy,hpy⟩)]
    rfl
   ·cases h
  case h_14 =>
   rename_i b hu
   rw [hu] at hk
   cases ho:W.heap[b]? with
   | none=>rw [ho] at h;cases h
   | some o =>
    rw [hb _ _ ho]
    rw [ho] at h
    cases o with
    | map es clock =>
     dsimp only at h ⊢
     split at h
     ·rename_i hc
      rw [if_pos hc]
      obtain ⟨entries,h1,h⟩:=Option.bind_eq_some_iff.1 h
      split at h
      ·rename_i hr
       obtain rfl:=Option.some.inj h
       rw [z6l h1 λf y _ hy hf=>?_]
       ·simp only [Option.bind_some]
        rw [if_pos hr]
       ·obtain ⟨key,hkey,hf⟩:=Option.bind_eq_some_iff.1 hf
        rw [hkey]
        simp only [Option.bind_some]
        split at hf
        ·rename_i hfm
         rw [if_pos hfm]
         obtain ⟨z,hz',rfl⟩:=Option.map_eq_some_iff.1 hf
         rw [ih _ _ z (zma hk) hz' λp hpz=>hp p (List.mem_cons_of_mem _ (List.mem_flatMap.2 ⟨_,hy,hpz⟩))]
         rfl
        ·cases hf
      ·cases h
     ·cases h
    | _=>cases h
theorem znb (hz:zqa P L=true) (hb:∀ (b:Nat) (o:Obj),W.heap[b]? = some o->W'.heap[b]? = some o):∀ (ts:List TypeId) (vs:List Value) (ds:List (DataW H)) (ps:List MemPlace),(∀ t ∈ ts,t ∈ L) ->
  DataW.TrodAll enc P W base (λ_=>true) true ts vs ds ps->(∀ p ∈ ps,sp p.block=true)->DataW.TrodAll enc P W' base sp true ts vs ds ps
 | [],[],[],ps,_,h,_=>h
 | t::ts,v::vs,d::ds,ps,hL,⟨p,q,⟨fuel,h1⟩,h2,he⟩,hp=>by
  subst he
  exact ⟨p,q,⟨fuel,zkk hz hb fuel t _ (d,p) (hL t (List.mem_cons_self ..)) h1 λx hx=>hp x (List.mem_append_left _ hx)⟩,znb hz hb ts vs ds q (λt ht=>hL t (List.mem_cons_of_mem _ ht)) h2 λx hx=>hp x (List.mem_append_right _ hx),rfl⟩
 | [],[],_::_,_,_,h,_=>h.elim
 | [],_::_,_,_,_,h,_=>h.elim
 | _::_,[],_,_,_,h,_=>h.elim
 | _::_,_::_,[],_,_,h,_=>h.elim
end
open Go.ChangeShapes Go.WideShapes Go.RowKit
section
variable {H:Type} {enc:TypeId × Value->H} {P:Program} {w:World} {base:Nat} {sp:Nat->Bool} {held:Bool}
theorem z04x {W W':World} (hb:∀ (b:Nat) (o:Obj),W.heap[b]? = some o->W'.heap[b]? = some o) {sz:Nat} {x:Sl} {cs:List Value} (h:Rd W sz x cs):Rd W' sz x cs :=
 ⟨h.1,h.2.imp id λ⟨b,off,arr,T,fr,ha,h1,h2⟩=>⟨b,off,arr,T,fr,ha,hb _ _ h1,h2⟩⟩
end
open Go.ChangeShapes Go.WideShapes Go.RowKit Go.Deep
section
variable {H:Type} {enc:TypeId × Value->H} {P:Program} {w:World} {base:Nat} {spare:Nat->Bool} {held:Bool}
theorem z009 {a:Addr} {cs:List Value} {len cap sz:Nat} (hlen:cs.length=len*sz) (hpos:0<sz) (hcell:∀ i,i<cs.length->w.cell? (a.add i)=cs[i]?):Rd w sz ⟨some a,len,cap⟩ cs:=by
 refine ⟨hlen,?_⟩
 by_cases h0:len=0
 ·exact .inl h0
 ·right
  have hpos2:0<cs.length:=by rw [hlen];exact Nat.mul_pos (by omega) hpos
  have hc0:=hcell 0 hpos2
  obtain ⟨b,off,spot⟩:=a
  have e0:(Addr.mk b off spot).add 0=⟨b,off,spot⟩:=rfl
  rw [e0,List.getElem?_eq_getElem hpos2] at hc0
  unfold World.cell? at hc0
  dsimp only at hc0
  cases hb:w.heap[b]? with
  | none=>rw [hb] at hc0;cases hc0
  | some o =>
   rw [hb] at hc0
   cases o with
   | cells arr T fr =>
    dsimp only at hc0
    cases spot with
    | some x=>simp at hc0
    | none =>
     refine ⟨b,off,arr,T,fr,rfl,hb,λi hi=>?_⟩
     have hci:=hcell i hi
     rw [z23,z33 hb] at hci
     rw [hci]
   | _=>cases hc0
end
open Go.ChangeShapes Go.WideShapes Go.RowKit Go.Deep
section
variable {H:Type} {enc:TypeId × Value->H} {P:Program} {w:World} {base:Nat} {spare:Nat->Bool} {held:Bool}
theorem zxu {α:Type} {encA:α->List Value} {good:α->Prop} {C:Nat} {t e:TypeId} {fuel:Nat} {v:Value} {y:DataW H × List MemPlace} (ht:P.underlying t=some (.slice e)) (hC:P.cellsOf e=C) (hpos:0<C)
  (hread:∀ (n:Nat) (cs:List Value) (y:DataW H × List MemPlace),cs.length=C->DataW.trod enc P w base spare held n e cs=some y->∃ o:α,cs=encA o/\good o)
  (hd:DataW.trod enc P w base spare held fuel t [v]=some y) :
  ∃ (x:Sl) (xs:List α),v=x.v/\x.len<=x.cap/\x.len=xs.length/\x.cap<=maxLen/\(∀ o ∈ xs,good o)/\Rd w C x (xs.flatMap encA):=by
 rcases DataW.trod_slice ht hd with ⟨hcs,-⟩|⟨a,len,cap,elems,rest,n,_,hcs,-,hb,hl,hm,hlen,hel,-,-⟩
 ·obtain rfl:v=.slice none 0 0:=by simpa using hcs
  exact ⟨⟨none,0,0⟩,[],rfl,Nat.le_refl _,rfl,Nat.zero_le _,(λo ho=>by cases ho),(Nat.zero_mul _).symm,.inl rfl⟩
 ·obtain rfl:v=.slice (some a) len cap:=by simpa using hcs
  have each:∀ i,i<len->∃ o:α,good o/\(encA o).length=C/\∀ j,j<C->w.cell? (a.add (i*C+j))=(encA o)[j]? := by
   intro i hi
   have h1:=hel i hi
   rw [List.getElem?_eq_getElem (by omega),Option.bind_eq_some_iff] at h1
   obtain ⟨cs',hc,ht'⟩:=h1
   rw [hC] at hc
   obtain ⟨_,hcl,hat⟩:=World.cells?_some hc
   obtain ⟨o,ho,hg⟩:=hread n cs' _ hcl ht'
   refine ⟨o,hg,by rw [<- ho];exact hcl,λj hj=>?_⟩
   rw [<- Go.Deep.add_add,hat j hj,ho]
  have hall:∀ k,k<=len->∃ xs:List α,xs.length=k/\(∀ o ∈ xs,good o)/\(xs.flatMap encA).length=k*C/\∀ i,i<k*C->w.cell? (a.add i)=(xs.flatMap encA)[i]? := by
   intro k
   induction k with
   | zero=>exact λ_=>⟨[],rfl,(λo ho=>by cases ho),by simp,λi hi=>by omega⟩
   | succ k ih =>
    intro hk
    obtain ⟨xs,h1,h2,h3,h4⟩:=ih (by omega)
    obtain ⟨o,ho,hol,hc⟩:=each k (by omega)
    refine ⟨xs++[o],by simp [h1],λu hu=>?_,by simp [h3,hol,Nat.succ_mul],λi hi=>?_⟩
    ·rcases List.mem_append.1 hu with hu|hu
     ·exact h2 u hu
     ·rw [List.mem_singleton.1 hu];exact ho
    ·rw [List.flatMap_append,List.flatMap_singleton]
     by_cases hik:i<k*C
     ·rw [List.getElem?_append_left (by omega),h4 i hik]
     ·rw [List.getElem?_append_right (by omega),h3]
      rw [Nat.succ_mul] at hi
      have:=hc (i-k*C) (by omega)
      rw [show k*C+(i-k*C)=i by omega] at this
      exact this
  obtain ⟨xs,h1,h2,h3,h4⟩:=hall len (Nat.le_refl _)
  exact ⟨⟨some a,len,cap⟩,xs,rfl,hl,h1.symm,hm,h2,z009 h3 hpos λi hi=>h4 i (by rw [<- h3];exact hi)⟩
end
end Go.Dec
namespace Go.T
abbrev a53:Go.TypeId:=0
abbrev a14:Go.TypeId:=2
abbrev a13:Go.TypeId:=3
abbrev a3:Go.TypeId:=4
abbrev a52:Go.TypeId:=5
abbrev a49:Go.TypeId:=9
abbrev a46:Go.TypeId:=24
abbrev a33:Go.TypeId:=26
abbrev a26:Go.TypeId:=28
abbrev a1:Go.TypeId:=29
abbrev a37:Go.TypeId:=36
abbrev a51:Go.TypeId:=38
abbrev a50:Go.TypeId:=40
abbrev a2:Go.TypeId:=52
abbrev a36:Go.TypeId:=77
abbrev a0:Go.TypeId:=82
abbrev a42:Go.TypeId:=92
abbrev a44:Go.TypeId:=108
abbrev a45:Go.TypeId:=112
abbrev a35:Go.TypeId:=115
abbrev a23:Go.TypeId:=139
abbrev a8:Go.TypeId:=141
abbrev a30:Go.TypeId:=142
abbrev a24:Go.TypeId:=145
abbrev a19:Go.TypeId:=148
abbrev a39:Go.TypeId:=204
abbrev a31:Go.TypeId:=214
abbrev a25:Go.TypeId:=219
abbrev a29:Go.TypeId:=220
abbrev a34:Go.TypeId:=222
abbrev a4:Go.TypeId:=228
abbrev a43:Go.TypeId:=236
abbrev a54:Go.TypeId:=242
abbrev a41:Go.TypeId:=264
abbrev a47:Go.TypeId:=266
abbrev a9:Go.TypeId:=273
abbrev a27:Go.TypeId:=277
abbrev a28:Go.TypeId:=288
abbrev a48:Go.TypeId:=290
abbrev a32:Go.TypeId:=291
abbrev a40:Go.TypeId:=295
abbrev a17:Go.TypeId:=298
abbrev a18:Go.TypeId:=300
abbrev a21:Go.TypeId:=302
abbrev a22:Go.TypeId:=303
abbrev a16:Go.TypeId:=305
abbrev a7:Go.TypeId:=311
abbrev a20:Go.TypeId:=359
abbrev a6:Go.TypeId:=361
abbrev a5:Go.TypeId:=364
abbrev a10:Go.TypeId:=370
abbrev a15:Go.TypeId:=376
abbrev a12:Go.TypeId:=414
abbrev a38:Go.TypeId:=415
abbrev a11:Go.TypeId:=417
end Go.T
namespace Go.F
abbrev a153:Go.FuncId:=4
abbrev a156:Go.FuncId:=11
abbrev a37:Go.FuncId:=12
abbrev a73:Go.FuncId:=13
abbrev a159:Go.FuncId:=14
abbrev a155:Go.FuncId:=16
abbrev a157:Go.FuncId:=17
abbrev a154:Go.FuncId:=18
abbrev a158:Go.FuncId:=34
abbrev a68:Go.FuncId:=36
abbrev a71:Go.FuncId:=37
abbrev a67:Go.FuncId:=38
abbrev a66:Go.FuncId:=39
abbrev a70:Go.FuncId:=40
abbrev a69:Go.FuncId:=41
abbrev a72:Go.FuncId:=42
abbrev a77:Go.FuncId:=63
abbrev a3:Go.FuncId:=64
abbrev a82:Go.FuncId:=65
abbrev a80:Go.FuncId:=66
abbrev a4:Go.FuncId:=67
abbrev a164:Go.FuncId:=68
abbrev a165:Go.FuncId:=69
abbrev a167:Go.FuncId:=70
abbrev a166:Go.FuncId:=71
abbrev a170:Go.FuncId:=73
abbrev a182:Go.FuncId:=74
abbrev a171:Go.FuncId:=78
abbrev a178:Go.FuncId:=79
abbrev a173:Go.FuncId:=80
abbrev a78:Go.FuncId:=84
abbrev a79:Go.FuncId:=86
abbrev a5:Go.FuncId:=87
abbrev a95:Go.FuncId:=89
abbrev a7:Go.FuncId:=90
abbrev a6:Go.FuncId:=91
abbrev a128:Go.FuncId:=119
abbrev a31:Go.FuncId:=120
abbrev a89:Go.FuncId:=121
abbrev a90:Go.FuncId:=122
abbrev a30:Go.FuncId:=123
abbrev a85:Go.FuncId:=124
abbrev a109:Go.FuncId:=125
abbrev a88:Go.FuncId:=126
abbrev a113:Go.FuncId:=127
abbrev a83:Go.FuncId:=128
abbrev a56:Go.FuncId:=129
abbrev a97:Go.FuncId:=130
abbrev a111:Go.FuncId:=131
abbrev a12:Go.FuncId:=132
abbrev a11:Go.FuncId:=133
abbrev a162:Go.FuncId:=134
abbrev a0:Go.FuncId:=135
abbrev a180:Go.FuncId:=136
abbrev a186:Go.FuncId:=137
abbrev a184:Go.FuncId:=138
abbrev a183:Go.FuncId:=139
abbrev a86:Go.FuncId:=142
abbrev a91:Go.FuncId:=144
abbrev a8:Go.FuncId:=146
abbrev a102:Go.FuncId:=153
abbrev a9:Go.FuncId:=154
abbrev a175:Go.FuncId:=156
abbrev a174:Go.FuncId:=157
abbrev a75:Go.FuncId:=166
abbrev a129:Go.FuncId:=169
abbrev a133:Go.FuncId:=170
abbrev a27:Go.FuncId:=171
abbrev a119:Go.FuncId:=172
abbrev a112:Go.FuncId:=173
abbrev a122:Go.FuncId:=174
abbrev a125:Go.FuncId:=175
abbrev a118:Go.FuncId:=176
abbrev a33:Go.FuncId:=177
abbrev a29:Go.FuncId:=178
abbrev a35:Go.FuncId:=179
abbrev a34:Go.FuncId:=180
abbrev a38:Go.FuncId:=181
abbrev a14:Go.FuncId:=182
abbrev a54:Go.FuncId:=183
abbrev a87:Go.FuncId:=184
abbrev a41:Go.FuncId:=185
abbrev a177:Go.FuncId:=186
abbrev a81:Go.FuncId:=187
abbrev a13:Go.FuncId:=188
abbrev a18:Go.FuncId:=189
abbrev a53:Go.FuncId:=190
abbrev a58:Go.FuncId:=191
abbrev a19:Go.FuncId:=192
abbrev a62:Go.FuncId:=193
abbrev a151:Go.FuncId:=194
abbrev a114:Go.FuncId:=195
abbrev a127:Go.FuncId:=196
abbrev a134:Go.FuncId:=197
abbrev a115:Go.FuncId:=198
abbrev a96:Go.FuncId:=199
abbrev a59:Go.FuncId:=200
abbrev a61:Go.FuncId:=201
abbrev a65:Go.FuncId:=202
abbrev a99:Go.FuncId:=203
abbrev a98:Go.FuncId:=204
abbrev a137:Go.FuncId:=205
abbrev a138:Go.FuncId:=206
abbrev a163:Go.FuncId:=207
abbrev a160:Go.FuncId:=208
abbrev a161:Go.FuncId:=209
abbrev a84:Go.FuncId:=210
abbrev a110:Go.FuncId:=211
abbrev a116:Go.FuncId:=212
abbrev a92:Go.FuncId:=213
abbrev a24:Go.FuncId:=219
abbrev a32:Go.FuncId:=220
abbrev a10:Go.FuncId:=224
abbrev a185:Go.FuncId:=225
abbrev a168:Go.FuncId:=226
abbrev a76:Go.FuncId:=239
abbrev a28:Go.FuncId:=241
abbrev a117:Go.FuncId:=242
abbrev a121:Go.FuncId:=243
abbrev a135:Go.FuncId:=244
abbrev a39:Go.FuncId:=245
abbrev a131:Go.FuncId:=246
abbrev a126:Go.FuncId:=247
abbrev a93:Go.FuncId:=248
abbrev a136:Go.FuncId:=249
abbrev a124:Go.FuncId:=250
abbrev a25:Go.FuncId:=251
abbrev a179:Go.FuncId:=253
abbrev a17:Go.FuncId:=258
abbrev a21:Go.FuncId:=259
abbrev a16:Go.FuncId:=260
abbrev a57:Go.FuncId:=261
abbrev a46:Go.FuncId:=262
abbrev a130:Go.FuncId:=263
abbrev a104:Go.FuncId:=264
abbrev a64:Go.FuncId:=265
abbrev a139:Go.FuncId:=266
abbrev a60:Go.FuncId:=267
abbrev a1:Go.FuncId:=268
abbrev a103:Go.FuncId:=269
abbrev a101:Go.FuncId:=270
abbrev a106:Go.FuncId:=271
abbrev a150:Go.FuncId:=273
abbrev a123:Go.FuncId:=274
abbrev a120:Go.FuncId:=275
abbrev a42:Go.FuncId:=278
abbrev a181:Go.FuncId:=279
abbrev a94:Go.FuncId:=280
abbrev a36:Go.FuncId:=281
abbrev a26:Go.FuncId:=282
abbrev a74:Go.FuncId:=292
abbrev a152:Go.FuncId:=293
abbrev a140:Go.FuncId:=294
abbrev a45:Go.FuncId:=295
abbrev a43:Go.FuncId:=296
abbrev a172:Go.FuncId:=297
abbrev a50:Go.FuncId:=298
abbrev a107:Go.FuncId:=299
abbrev a105:Go.FuncId:=300
abbrev a132:Go.FuncId:=301
abbrev a48:Go.FuncId:=302
abbrev a176:Go.FuncId:=303
abbrev a15:Go.FuncId:=304
abbrev a23:Go.FuncId:=306
abbrev a22:Go.FuncId:=307
abbrev a20:Go.FuncId:=308
abbrev a63:Go.FuncId:=309
abbrev a49:Go.FuncId:=310
abbrev a47:Go.FuncId:=311
abbrev a148:Go.FuncId:=312
abbrev a2:Go.FuncId:=313
abbrev a108:Go.FuncId:=314
abbrev a169:Go.FuncId:=317
abbrev a44:Go.FuncId:=319
abbrev a100:Go.FuncId:=320
abbrev a52:Go.FuncId:=325
abbrev a40:Go.FuncId:=327
abbrev a51:Go.FuncId:=328
abbrev a144:Go.FuncId:=329
abbrev a143:Go.FuncId:=330
abbrev a141:Go.FuncId:=331
abbrev a142:Go.FuncId:=332
abbrev a149:Go.FuncId:=333
abbrev a145:Go.FuncId:=334
abbrev a147:Go.FuncId:=335
abbrev a146:Go.FuncId:=336
abbrev a55:Go.FuncId:=342
end Go.F
namespace Go.Dec
noncomputable abbrev P:Program:=Go.Proofs.Tryz.prog
def zih:List FuncId:=[2,3,4,5,6,7,8,9,10,11,12,13,14,15,16,17,18,19,20,21,22,23,24,25,26,27,28,29,30,31,32,33,34,35,36,37,38,39,40,41,42,43,44,45,46,47,48,49,50,51,52,53,54,55,56,57,58,59,60,61,62,63,64,65,66,67,68,69,70,71,72,73,74,75,76,77,78,79,80,81,82,83,84,85,86,87,88,89,90,91,92,93,94,95,96,97,98,99,100,101,102,103,104,105,106,107,108,109,110,111,112,113,114,115,116,117,118,119,120,121,122,123,124,125,126,127,128,129,130,131,132,133,134,135,136,137,138,139,140,141,142,143,144,145,146,147,148,149,150,151,152,153,154,155,156,157,158,159,160,161,162,163,164,165,166,167,168,169,170,171,172,173,174,175,176,177,178,179,180,181,182,183,184,185,186,187,188,189,190,191,192,193,194,195,196,197,198,199,200,201,202,203,204,205,206,207,208,209,210,211,212,213,214,215,216,217,218,219,220,221,222,223,224,225,226,227,228,229,230,231,232,233,234,235,236,237,238,239,240,241,242,243,244,245,246,247,248,249,250,251,252,253,254,255,256,257,258,259,260,261,262,263,264,265,266,267,268,269,270,271,273,274,275,276,277,278,279,280,281,282,283,284,285,286,287,288,289,290,291,292,293,294,295,296,297,298,299,300,301,302,303,304,305,306,307,308,309,310,311,312,313,314,315,316,317,318,319,320,321,322,323,324,325,326,327,328,329,330,331,332,333,334,335,336,337,338,339,340,341,342,343,344,345,346,347,348,349,350,351,352,353,354,355,356,357,358,359,360,361,362,363,364,365,366,367,368,369,370,371,372,373,374,375,376,377,378,379,380,381,382,383,384,385,386,387,388]
theorem zzs:zih.all (z4n P)=true:=by kernel_rfl
theorem zii:∀ f ∈ zih,z4n P f=true:=List.all_eq_true.1 zzs
theorem mix:P.follows .mixedOrders=true:=by kernel_rfl
end Go.Dec
