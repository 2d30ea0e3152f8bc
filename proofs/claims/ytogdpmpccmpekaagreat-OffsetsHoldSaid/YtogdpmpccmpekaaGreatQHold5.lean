/- What the claim of this folder leans on: our own texts, joined, without what it does not use. -/
import Derived.Test.YtogdpmpccmpekaaGreatQHold4
set_option linter.unusedVariables false
set_option linter.unusedSimpArgs false
namespace Go.Dec
structure ViewA where
 next:Int
 op:List TxnA
 fa:List TxnA
abbrev evX (t:TxnA):Value:=.agg #[.int .i64 t.pid,.int .i64 t.epoch,.int .i64 t.first,.int .i64 t.last]
def opF (A:ViewA) (pid:Int):Option TxnA:=A.op.find? λt=>decide (t.pid=pid)
def faF (A:ViewA) (pid epoch:Int):Option TxnA:=A.fa.find? λt=>decide (t.pid=pid/\t.epoch=epoch)
def z2m (A:ViewA):Int:=match A.op with
 | []=>A.next
 | t::_=>t.first
structure okT (t:TxnA) (next:Int):Prop where
 pid:1<=t.pid/\t.pid<=1048576
 epoch:0<=t.epoch/\t.epoch<=32767
 first:0<=t.first/\t.first<next
structure okV (A:ViewA):Prop where
 next:0<=A.next/\A.next<=1099511627777
 many:A.op.length<=1024/\A.fa.length<=4096
 op:∀ t ∈ A.op,okT t A.next/\t.last = -1
 fa:∀ t ∈ A.fa,okT t A.next/\t.first<t.last/\t.last<A.next
 byFirst:A.op.Pairwise λa b=>a.first<b.first
 byLast:A.fa.Pairwise λa b=>a.last<b.last
 pids:(A.op.map (·.pid)).Nodup
 keys:(A.fa.map λt=>(t.pid,t.epoch)).Nodup
 apart:∀ t ∈ A.op,∀ u ∈ A.fa,¬ (t.pid=u.pid/\t.epoch=u.epoch)
def opK (A:ViewA):List (Int × TxnA):=A.op.map λt=>(t.pid,t)
def faK (A:ViewA):List ((Int × Int) × TxnA):=A.fa.map λt=>((t.pid,t.epoch),t)
def vw (v:Nat) (A:ViewA):HP:=HP.ex λM:Nat × Nat=>HP.and (okV A) (HP.star (pt v (.cells #[.int .i64 A.next,.map (some M.1),.map (some M.2)] T.a16))
 (HP.star (z1e ekI evX M.1 (opK A)) (z1e ekK evX M.2 (faK A))))
section
variable {w:World} {l r r1 r2 r3 l':List HP} {v:Nat} {A:ViewA}
theorem z8r (hs:Sat w (vw v A::l)):∃ m1 m2:Nat,okV A/\Sat w (pt v (.cells #[.int .i64 A.next,.map (some m1),.map (some m2)] T.a16)::z1e ekI evX m1 (opK A)::z1e ekK evX m2 (faK A)::l):=by
 obtain ⟨⟨m1,m2⟩,hs⟩:=hs.ex
 obtain ⟨hok,hs⟩:=hs.and
 have hs:=hs.star
 have hs:=(hs.pick [1]).star
 exact ⟨m1,m2,hok,hs.pick [2,0,0]⟩
theorem z4c (m1 m2:Nat) (hok:okV A) (hs:Sat w l) {es1:List (Int × TxnA)} {es2:List ((Int × Int) × TxnA)} [h1:FocB l v (.cells [.int .i64 A.next,.map (some m1),.map (some m2)].toArray T.a16) r1] [h2:FoM r1 m1 ekI evX es1 r2] [h3:FoM r2 m2 ekK evX es2 r3] [h4:Sub r3 l']
  (hp1:es1.Perm (opK A):=by exact .refl _) (hp2:es2.Perm (faK A):=by exact .refl _):Sat w (vw v A::l'):=by
 have hs:=hs.perm (h1.perm.trans (.cons _ (h2.perm.trans (.cons _ h3.perm))))
 have hs:=((hs.pick [1]).mapPerm hp1)
 have hs:=((hs.pick [2]).mapPerm hp2)
 have hs:Sat w (vw v A::r3):=by
  refine .ex_mk (m1,m2) (.and_mk hok (.star_mk ?_))
  refine (Sat.star_mk (hs.pick [1,0])).pick [1]
 exact hs.sub
theorem z6d {pid:Int} {t:TxnA} (h:opF A pid=some t):t ∈ A.op/\t.pid=pid:=⟨List.mem_of_find?_eq_some h,by simpa using List.find?_some h⟩
theorem zmd {pid:Int} (h:opF A pid=none):∀ t ∈ A.op,t.pid≠pid:=λt ht=>by simpa using List.find?_eq_none.1 h t ht
theorem z9z {pid epoch:Int} {t:TxnA} (h:faF A pid epoch=some t):t ∈ A.fa/\t.pid=pid/\t.epoch=epoch:=⟨List.mem_of_find?_eq_some h,by simpa using List.find?_some h⟩
theorem z8b {pid epoch:Int} (h:faF A pid epoch=none):∀ t ∈ A.fa,¬ (t.pid=pid/\t.epoch=epoch):=λt ht=>by simpa using List.find?_eq_none.1 h t ht
theorem zmc (A:ViewA) (pid:Int):(∃ t,opF A pid=some t/\(pid,t) ∈ opK A)\/(opF A pid=none/\∀ t,(pid,t) ∉ opK A):=by
 cases h:opF A pid with
 | some t=>exact .inl ⟨t,rfl,List.mem_map.2 ⟨t,(z6d h).1,by rw [(z6d h).2]⟩⟩
 | none=>exact .inr ⟨rfl,λt ht=>by
   obtain ⟨u,hu,e⟩:=List.mem_map.1 ht
   simp only [Prod.mk.injEq] at e
   exact zmd h u hu e.1⟩
theorem zll (A:ViewA) (pid epoch:Int):(∃ t,faF A pid epoch=some t/\((pid,epoch),t) ∈ faK A)\/(faF A pid epoch=none/\∀ t,((pid,epoch),t) ∉ faK A):=by
 cases h:faF A pid epoch with
 | some t=>exact .inl ⟨t,rfl,List.mem_map.2 ⟨t,(z9z h).1,by rw [(z9z h).2.1,(z9z h).2.2]⟩⟩
 | none=>exact .inr ⟨rfl,λt ht=>by
   obtain ⟨u,hu,e⟩:=List.mem_map.1 ht
   simp only [Prod.mk.injEq] at e
   exact z8b h u hu e.1⟩
theorem z07n (hs:Sat w l):Ret P F.a53 #[] w λvs w'=>∃ v,vs=[.pointer (some ⟨v,0,none⟩)]/\Sat w' (vw v ⟨0,[],[]⟩::l) :=
 zkc <| by
  unfold zqf
  refine zcn ekI evX hs λm1 w' hs=>?_
  refine zcn ekK evX hs λm2 w' hs=>?_
  refine zq hs λv w' hs=>?_
  refine ⟨rfl,v,rfl,?_⟩
  exact z4c m1 m2 (A:=⟨0,[],[]⟩) ⟨by show (0:Int)<=0/\(0:Int)<=_;omega,by simp,by simp,by simp,by simp,by simp,by simp,by simp,by simp⟩ hs
end
theorem zhd {f:TxnA->Int}:∀ {a b:List TxnA},a.Perm b->(a.Pairwise λx y=>f x<=f y)->(b.Pairwise λx y=>f x<f y)->a=b
 | a,[],hp,_,_=>hp.eq_nil
 | [],y::b,hp,_,_=>absurd hp.symm.eq_nil (by simp)
 | x::a,y::b,hp,ha,hb=>by
  rw [List.pairwise_cons] at ha hb
  have hxy:x=y:=by
   have hx:x ∈ y::b:=hp.mem_iff.1 (List.mem_cons_self ..)
   have hy:y ∈ x::a:=hp.mem_iff.2 (List.mem_cons_self ..)
   rcases List.mem_cons.1 hx with h|h
   ·exact h
   ·rcases List.mem_cons.1 hy with h2|h2
    ·exact h2.symm
    ·have h3:=hb.1 x h
     have h4:=ha.1 y h2
     omega
  subst hxy
  rw [zhd (List.Perm.cons_inv hp) ha.2 hb.2]
theorem zxh {A:ViewA} (hok:okV A) {n:Int} (h1:n<=A.next) (h2:∀ t ∈ A.op,n<=t.first) (h3:n=A.next\/∃ t ∈ A.op,n=t.first):n=z2m A:=by
 unfold z2m
 cases hop:A.op with
 | nil =>
  rcases h3 with h|⟨t,ht,-⟩
  ·exact h
  ·rw [hop] at ht;cases ht
 | cons u us =>
  dsimp only
  have hu:u ∈ A.op:=by rw [hop];exact List.mem_cons_self ..
  have h4:=h2 u hu
  have h5:=(hok.op u hu).1.first
  rcases h3 with h|⟨t,ht,rfl⟩
  ·omega
  ·have hb:=hok.byFirst
   rw [hop] at hb ht
   rcases List.mem_cons.1 ht with rfl|ht
   ·rfl
   ·have:=(List.pairwise_cons.1 hb).1 t ht;omega
def zao (o:Option TxnA):Int × Int × Int × Int × Bool × Unit:=((o.getD ⟨0,0,0,0⟩).pid,(o.getD ⟨0,0,0,0⟩).epoch,(o.getD ⟨0,0,0,0⟩).first,(o.getD ⟨0,0,0,0⟩).last,o.isSome,())
section
variable {w:World} {l r r1 r2 r3 l':List HP} {v:Nat} {A:ViewA}
theorem zdf [hf:Fo l vw v A r] (hs:Sat w l):Ret P F.a59 #[.pointer (some ⟨v,0,none⟩)] w λvs w'=>vs=[.int .i64 (z2m A)]/\Sat w' (vw v A::r) :=
 zum _ <| by
  delta z00s A8 AA AI AJ AR Aa Ab Ac Ad Ai Ak B2 BB
  obtain ⟨m1,m2,hok,hs⟩:=z8r (hs.perm hf.perm)
  refine zu ?_ (by simp)
  refine zj ?_
  refine z8 hs ?_
  refine wp_lt ?_
  refine zj ?_
  refine z8 hs ?_
  refine zdv hs λit w' hs=>?_
  refine zl (λx w'=>x=(z2m A,())/\Sat w' (vw v A::r)) ?_ (by rintro _ w' ⟨rfl,hs⟩;refine zk ?_;refine wp_lt ?_;exact ⟨rfl,rfl,hs⟩)
  refine z03 (λk x w=>∃ (n:Int) (todo:List (Int × TxnA)) (last:Option (Int × TxnA)),x=(n,())/\todo.length=k/\(∀ y ∈ todo,y ∈ opK A)/\n<=A.next/\(∀ t ∈ A.op,(t.pid,t) ∈ todo\/n<=t.first)/\(n=A.next\/∃ t ∈ A.op,n=t.first) /\
   Sat w (itP ekI evX it m1 (opK A) todo last::pt v (.cells #[.int .i64 A.next,.map (some m1),.map (some m2)] T.a16)::z1e ekK evX m2 (faK A)::r)) (opK A).length
   ⟨A.next,opK A,none,rfl,rfl,λy hy=>hy,Int.le_refl _,λt ht=>.inl (List.mem_map.2 ⟨t,ht,rfl⟩),.inl rfl,hs⟩ ?_
  clear hs
  rintro k _ w ⟨n,todo,last,rfl,hk,hsub,h1,h2,h3,hs⟩
  refine zk ?_
  refine zg5 hs (λk t=>(k,t.pid,t.epoch,t.first,t.last,())) (λkk t todo' w' hp hs=>?_) λh0=>?_
  ·refine z2q kk t.pid t.epoch t.first t.last ?_
   refine zil hs (kk,t.pid,t.epoch,t.first,t.last,()) ?_
   refine z2q kk t.pid t.epoch t.first t.last ?_
   refine zn hs λc w' hs=>?_
   refine zm hs λw' hs=>?_
   refine z8 hs ?_
   refine wp_lt ?_
   have hmem:(kk,t) ∈ opK A:=hsub _ (hp.mem_iff.2 (List.mem_cons_self ..))
   obtain ⟨u,hu,e⟩:=List.mem_map.1 hmem
   simp only [Prod.mk.injEq] at e
   obtain ⟨rfl,rfl⟩:=e
   refine z0l todo'.length ?_ (by rw [<- hk,hp.length_eq,List.length_cons];omega)
   refine ⟨_,todo',some (u.pid,u),rfl,rfl,λy hy=>hsub y (hp.mem_iff.2 (List.mem_cons_of_mem _ hy)),by split <;> omega,λt ht=>?_,?_,hs.sub⟩
   ·rcases h2 t ht with h|h
    ·rcases List.mem_cons.1 (hp.mem_iff.1 h) with e|h
     ·simp only [Prod.mk.injEq] at e
      right
      rw [e.2];split <;> omega
     ·exact .inl h
    ·right;split <;> omega
   ·split
    ·exact .inr ⟨u,hu,rfl⟩
    ·exact h3
  ·refine zo (zf ?_)
   subst h0
   have e:=zxh hok h1 (λt ht=>(h2 t ht).resolve_left (by simp)) h3
   rw [e]
   exact ⟨rfl,z4c m1 m2 hok hs.itDone⟩
theorem zrg (t:TxnA) (hs:Sat w l):Ret P F.a62 #[.agg (z1b t).toArray] w λvs w'=>vs=[.agg (z1b t).toArray]/\Sat w' l :=
 zup t.pid t.epoch t.first t.last <| by
  delta z097 AI AJ Ab Ad As BB BO
  refine zq hs λa0 w' hs=>?_
  refine zn hs λa1 w' hs=>?_
  refine z8 hs ?_
  refine z8 hs ?_
  refine z8 hs ?_
  refine z8 hs ?_
  refine zm hs λw' hs=>?_
  refine zg hs ?_
  exact ⟨rfl,rfl,hs.tail.tail⟩
instance {t:TxnA}:IsR (sG [.int .i64,.int .i64,.int .i64,.int .i64]) [.agg (z1b t).toArray] (t.pid,t.epoch,t.first,t.last,()):=⟨rfl⟩
theorem z04e [hf:Fo l vw v A r] (hs:Sat w l):Ret P F.a57 #[.pointer (some ⟨v,0,none⟩)] w λvs w'=>∃ z:Sl,vs=[z.v]/\Sat w' (slc T.a15 4 z (A.op.flatMap z1b)::vw v A::r) :=
 zhk _ <| by
  delta zuk A8 AI AJ AN Aa Ac Ad Am Ap B2 BB BO BR
  obtain ⟨m1,m2,hok,hs⟩:=z8r (hs.perm hf.perm)
  have hmany:=hok.many
  refine zu ?_ (by simp)
  refine zj ?_
  refine z8 hs ?_
  refine zdv hs λit w' hs=>?_
  refine zl (λx w'=>∃ (z:Sl) (ys:List TxnA),x=(z,())/\ys.Perm A.op/\Sat w' (slc T.a15 4 z (ys.flatMap z1b)::vw v A::r)) ?_ ?_
  ·refine z03 (λk x w=>∃ (z:Sl) (ys:List TxnA) (todo:List (Int × TxnA)) (last:Option (Int × TxnA)),x=(z,())/\todo.length=k/\(ys++todo.map Prod.snd).Perm A.op /\
    Sat w (slc T.a15 4 z (ys.flatMap z1b)::itP ekI evX it m1 (opK A) todo last::pt v (.cells #[.int .i64 A.next,.map (some m1),.map (some m2)] T.a16)::z1e ekK evX m2 (faK A)::r)) (opK A).length
    ⟨⟨none,0,0⟩,[],opK A,none,rfl,rfl,by rw [List.nil_append,opK,List.map_map];exact .of_eq (List.map_id _),hs.slc_nil⟩ ?_
   clear hs
   rintro k _ w ⟨z,ys,todo,last,rfl,hk,hperm,hs⟩
   have hlen:=hperm.length_eq
   rw [List.length_append,List.length_map] at hlen
   refine zk ?_
   refine zg5 hs (λk t=>(k,t.pid,t.epoch,t.first,t.last,())) (λkk t todo' w' hp hs=>?_) λh0=>?_
   ·refine z2q kk t.pid t.epoch t.first t.last ?_
    refine zil hs (kk,t.pid,t.epoch,t.first,t.last,()) ?_
    refine z2q kk t.pid t.epoch t.first t.last ?_
    refine zn hs λc w' hs=>?_
    refine zm hs λw' hs=>?_
    refine zg hs ?_
    refine zb (zrg t hs) λ_ _ hs=>?_
    obtain ⟨rfl,hs⟩:=hs
    refine zd ?_
    refine z3w hs (xs:=ys) (enc:=z1b) t (λz w' hs=>?_)
    refine z0l todo'.length ?_ (by rw [<- hk,hp.length_eq,List.length_cons];omega)
    refine ⟨z,ys++[t],todo',some (kk,t),rfl,rfl,?_,hs.sub⟩
    rw [List.append_assoc,List.singleton_append]
    exact ((List.Perm.append_left ys (hp.map Prod.snd)).symm).trans hperm
   ·refine zo (zf ⟨z,ys,rfl,?_,?_⟩)
    ·subst h0
     rw [List.map_nil,List.append_nil] at hperm
     exact hperm
    ·have hs:=(hs.pick [1]).itDone
     have hs:Sat w (vw v A::slc T.a15 4 z (ys.flatMap z1b)::r):=z4c m1 m2 hok hs
     exact hs.pick [1]
  clear hs
  rintro _ w ⟨z,ys,rfl,hperm,hs⟩
  refine zk ?_
  have hlen:=hperm.length_eq
  refine zb (z05h byFirst z ys (by omega) hs) λ_ w' h=>?_
  obtain ⟨rfl,ys',hp',hsort,hs⟩:=h
  refine zd ?_
  rw [zhd (f:=TxnA.first) (hp'.trans hperm) hsort hok.byFirst] at hs
  exact ⟨rfl,z,rfl,hs⟩
end
abbrev lkS:List Sh1:=[.agg [.int .i64,.int .i64,.int .i64,.int .i64],.one .bool]
def z3n (A:ViewA) (b:BatM):Int:=if z04 b then 3 else if b.base>=z2m A then 0 else if b.kind=1/\(faF A b.pid b.epoch).isSome=true/\b.base>=((faF A b.pid b.epoch).getD ⟨0,0,0,0⟩).first then 2 else 1
def zi3 (A:ViewA) (b:BatM):Int:=if (faF A b.pid b.epoch).isSome=true then 20 else if (opF A b.pid).isSome=true/\¬ (((opF A b.pid).getD ⟨0,0,0,0⟩).pid=b.pid/\((opF A b.pid).getD ⟨0,0,0,0⟩).epoch=b.epoch) then 22 else
 if b.kind=1/\(opF A b.pid).isSome=false/\A.op.length>=1024 then 5 else if b.kind=3/\(opF A b.pid).isSome=true/\A.fa.length>=4096 then 5 else 0
def z5h (A:ViewA) (b:BatM):Int:=if z07 b≠0 then z07 b else if b.base<A.next then 8 else if b.kind≠0 then zi3 A b else 0
section
variable {w:World} {l r r1 r2 r3 l':List HP} {v:Nat} {A:ViewA} {b:BatM}
theorem z04d (b:BatM) [hf:Fo l vw v A r] (hs:Sat w l):Ret P F.a54 #[.pointer (some ⟨v,0,none⟩),.agg (zp b).toArray] w λvs w'=>vs=[.int .i64 (z3n A b)]/\Sat w' (vw v A::r) :=
 zui _ b.base b.pid b.epoch b.seq b.kind b.time b.x <| by
  delta z092 A8 AC AI AJ AL AM Aa Ab Ac Ad Ae Aj Ak Al Ar As Au Aw Ay BB BJ BK BL Bb Bc
  refine zq (hs.perm hf.perm) λa0 w' hs=>?_
  refine zu ?_ (by simp)
  have ho:=zll A b.pid b.epoch
  refine zl (λx w'=>∃ c:Nat,x=(⟨c,0,none⟩,(faF A b.pid b.epoch).isSome,())/\Sat w' (pt c (.cells #[.int .i64 ((faF A b.pid b.epoch).getD ⟨0,0,0,0⟩).pid,.int .i64 ((faF A b.pid b.epoch).getD ⟨0,0,0,0⟩).epoch,.int .i64 ((faF A b.pid b.epoch).getD ⟨0,0,0,0⟩).first,.int .i64 ((faF A b.pid b.epoch).getD ⟨0,0,0,0⟩).last] T.a18) ::
   pt a0 (.cells #[.int .i64 b.base,.int .i64 b.pid,.int .i64 b.epoch,.int .i64 b.seq,.int .i64 b.kind,.int .i64 b.time,.slice b.x.a b.x.len b.x.cap] T.a0)::vw v A::r)) ?_ ?_
  ·obtain ⟨m1,m2,hok,hs⟩:=z8r (hs.pick [1])
   refine zv hs λw' hs=>?_
   refine zj ?_
   refine z14 hs ?_
   refine z14 hs ?_
   refine z14 hs ?_
   refine zcm hs (faF A b.pid b.epoch) ho zao ?_
   refine z2q _ _ _ _ _ ?_
   refine zn hs (λc w' hs=>?_) (λc w' hs=>⟨⟨⟨⟨trivial,λ_=>z08 hs⟩,λ_=>z08 hs⟩,λ_=>z08 hs⟩,λ_=>z93 (ss:=lkS) hs ho zao⟩)
   refine ze ?_
   refine zm hs λw' hs=>?_
   refine wp_lt ?_
   refine ze ?_
   refine zf ⟨c,rfl,?_⟩
   have hs:Sat w' (vw v A::pt c (.cells #[.int .i64 ((faF A b.pid b.epoch).getD ⟨0,0,0,0⟩).pid,.int .i64 ((faF A b.pid b.epoch).getD ⟨0,0,0,0⟩).epoch,.int .i64 ((faF A b.pid b.epoch).getD ⟨0,0,0,0⟩).first,.int .i64 ((faF A b.pid b.epoch).getD ⟨0,0,0,0⟩).last] T.a18) ::
    pt a0 (.cells #[.int .i64 b.base,.int .i64 b.pid,.int .i64 b.epoch,.int .i64 b.seq,.int .i64 b.kind,.int .i64 b.time,.slice b.x.a b.x.len b.x.cap] T.a0)::r):=z4c m1 m2 hok hs
   exact hs.pick [1,1]
  clear hs
  rintro _ w ⟨c,rfl,hs⟩
  refine zk ?_
  refine zg hs ?_
  refine zb (zqc b hs) λ_ _ hs=>?_
  obtain ⟨rfl,hs⟩:=hs
  refine zd ?_
  refine wp_lt ?_
  unfold z3n
  refine zh (λh=>?_) λh=>?_
  ·rw [if_pos h];exact ⟨rfl,rfl,hs.tail.tail⟩
  rw [if_neg h]
  refine zv hs λw' hs=>?_
  refine z14 hs ?_
  refine zb (zdf (v:=v) hs) λ_ w' hs=>?_
  obtain ⟨rfl,hs⟩:=hs
  refine zd ?_ ⟨trivial,λ_=>z08 hs⟩
  refine wp_lt ?_
  refine ze ?_
  refine zh (λh2=>?_) λh2=>?_
  ·rw [if_pos h2];exact ⟨rfl,rfl,hs.sub⟩
  rw [if_neg h2]
  refine z8 hs ?_
  refine z8 hs ?_
  refine z8 hs ?_
  refine wp_lt ?_
  refine zh (λh3=>?_) λh3=>?_
  ·rw [if_pos ⟨h3.1.1,h3.1.2,h3.2⟩];exact ⟨rfl,rfl,hs.sub⟩
  ·rw [if_neg (λh4=>h3 ⟨⟨h4.1,h4.2.1⟩,h4.2.2⟩)];exact ⟨rfl,rfl,hs.sub⟩
theorem z07m (b:BatM) [hf:Fo l vw v A r] (hs:Sat w l):Ret P F.a61 #[.pointer (some ⟨v,0,none⟩),.agg (zp b).toArray] w λvs w'=>vs=[.int .i64 (zi3 A b)]/\Sat w' (vw v A::r) :=
 zuo _ b.base b.pid b.epoch b.seq b.kind b.time b.x <| by
  delta z096 A8 AF AI AJ AM Aa Ab Ad Ae Aj Ak Ar As Au Av Ax Ay B4 BB BJ BK BL BT Bb;unfold zi3
  have ho:=zll A b.pid b.epoch
  have ho2:=zmc A b.pid
  obtain ⟨m1,m2,hok,hs⟩:=z8r (hs.perm hf.perm)
  refine zq hs λa0 w' hs=>?_
  refine z8 hs ?_
  refine z8 hs ?_
  refine zn hs λa3 w' hs=>?_
  refine zm hs λw' hs=>?_
  refine zl (λx w'=>x=((faF A b.pid b.epoch).isSome,())/\Sat w' (pt a3 (.cells #[.int .i64 b.pid,.int .i64 b.epoch] T.a17)::pt a0 (.cells #[.int .i64 b.base,.int .i64 b.pid,.int .i64 b.epoch,.int .i64 b.seq,.int .i64 b.kind,.int .i64 b.time,.slice b.x.a b.x.len b.x.cap] T.a0) ::
   pt v (.cells #[.int .i64 A.next,.map (some m1),.map (some m2)] T.a16)::z1e ekI evX m1 (opK A)::z1e ekK evX m2 (faK A)::r)) ?_ ?_
  ·refine zv hs λw' hs=>?_
   refine zj ?_
   refine z14 hs ?_
   refine zhj hs ?_
   refine zcm hs (faF A b.pid b.epoch) ho zao ?_
   refine z2q _ _ _ _ _ ?_
   refine zn hs (λc w' hs=>?_) (λc w' hs=>⟨⟨⟨trivial,λ_=>z08 hs⟩,λ_=>z0f hs⟩,λ_=>z93 (ss:=lkS) hs ho zao⟩)
   refine ze ?_
   refine zm hs λw' hs=>?_
   refine wp_lt ?_
   refine ze ?_
   exact zf ⟨rfl,hs.sub⟩
  clear hs
  rintro _ w ⟨rfl,hs⟩
  refine zk ?_
  refine zl (λx w'=>∃ c:Nat,x=(⟨c,0,none⟩,(opF A b.pid).isSome,())/\Sat w' (pt c (.cells #[.int .i64 ((opF A b.pid).getD ⟨0,0,0,0⟩).pid,.int .i64 ((opF A b.pid).getD ⟨0,0,0,0⟩).epoch,.int .i64 ((opF A b.pid).getD ⟨0,0,0,0⟩).first,.int .i64 ((opF A b.pid).getD ⟨0,0,0,0⟩).last] T.a18) ::
   pt a3 (.cells #[.int .i64 b.pid,.int .i64 b.epoch] T.a17)::pt a0 (.cells #[.int .i64 b.base,.int .i64 b.pid,.int .i64 b.epoch,.int .i64 b.seq,.int .i64 b.kind,.int .i64 b.time,.slice b.x.a b.x.len b.x.cap] T.a0) ::
   pt v (.cells #[.int .i64 A.next,.map (some m1),.map (some m2)] T.a16)::z1e ekI evX m1 (opK A)::z1e ekK evX m2 (faK A)::r)) ?_ ?_
  ·refine zv hs λw' hs=>?_
   refine zj ?_
   refine z14 hs ?_
   refine z14 hs ?_
   refine zcm hs (opF A b.pid) ho2 zao ?_
   refine z2q _ _ _ _ _ ?_
   refine zn hs (λc w' hs=>?_) (λc w' hs=>⟨⟨⟨trivial,λ_=>z08 hs⟩,λ_=>z08 hs⟩,λ_=>z93 (ss:=lkS) hs ho2 zao⟩)
   refine ze ?_
   refine zm hs λw' hs=>?_
   refine wp_lt ?_
   refine ze ?_
   exact zf ⟨c,rfl,hs.sub⟩
  clear hs
  rintro _ w ⟨c,rfl,hs⟩
  refine zk ?_
  have hfin:∀ {w'},Sat w' (pt c (.cells #[.int .i64 ((opF A b.pid).getD ⟨0,0,0,0⟩).pid,.int .i64 ((opF A b.pid).getD ⟨0,0,0,0⟩).epoch,.int .i64 ((opF A b.pid).getD ⟨0,0,0,0⟩).first,.int .i64 ((opF A b.pid).getD ⟨0,0,0,0⟩).last] T.a18) ::
   pt a3 (.cells #[.int .i64 b.pid,.int .i64 b.epoch] T.a17)::pt a0 (.cells #[.int .i64 b.base,.int .i64 b.pid,.int .i64 b.epoch,.int .i64 b.seq,.int .i64 b.kind,.int .i64 b.time,.slice b.x.a b.x.len b.x.cap] T.a0) ::
   pt v (.cells #[.int .i64 A.next,.map (some m1),.map (some m2)] T.a16)::z1e ekI evX m1 (opK A)::z1e ekK evX m2 (faK A)::r)->Sat w' (vw v A::r):=λhs=>z4c m1 m2 hok hs
  refine wp_lt ?_
  refine zh (λh1=>?_) λh1=>?_
  ·rw [if_pos h1];exact ⟨rfl,rfl,hfin hs⟩
  rw [if_neg h1]
  refine zae hs (((opF A b.pid).getD ⟨0,0,0,0⟩).pid,((opF A b.pid).getD ⟨0,0,0,0⟩).epoch,()) ?_
  refine zg hs ?_
  refine wp_lt ?_
  refine zh (λh2=>?_) λh2=>?_
  ·rw [if_pos]
   ·exact ⟨rfl,rfl,hfin hs⟩
   ·exact ⟨h2.1,λh=>h2.2 h⟩
  rw [if_neg (λh=>h2 ⟨h.1,λh'=>h.2 h'⟩)]
  refine z8 hs ?_
  refine z0j ?_
  refine z8 hs ?_
  refine ze9 hs ?_
  refine wp_lt ?_
  have e1:(opK A).length=A.op.length:=by simp [opK]
  have e2:(faK A).length=A.fa.length:=by simp [faK]
  rw [e1]
  refine zh (λh3=>?_) λh3=>?_
  ·rw [if_pos]
   ·exact ⟨rfl,rfl,hfin hs⟩
   ·exact ⟨h3.1.1,by simpa using h3.1.2,by omega⟩
  rw [if_neg (λh=>h3 ⟨⟨h.1,by simp [h.2.1]⟩,by omega⟩)]
  refine z8 hs ?_
  refine z0j ?_
  refine z8 hs ?_
  refine ze9 hs ?_
  refine wp_lt ?_
  rw [e2]
  refine zh (λh4=>?_) λh4=>?_
  ·rw [if_pos]
   ·exact ⟨rfl,rfl,hfin hs⟩
   ·exact ⟨h4.1.1,h4.1.2,by omega⟩
  ·rw [if_neg (λh=>h4 ⟨⟨h.1,h.2.1⟩,by omega⟩)]
   exact ⟨rfl,rfl,hfin hs⟩
theorem zwf (b:BatM) [hf:Fo l vw v A r] [hb:FocR r b.x 4 (b.rs.flatMap z01)] (hs:Sat w l):Ret P F.a55 #[.pointer (some ⟨v,0,none⟩),.agg (zp b).toArray] w λvs w'=>vs=[.int .i64 (z5h A b)]/\Sat w' (vw v A::r) :=
 zuj _ b.base b.pid b.epoch b.seq b.kind b.time b.x <| by
  delta z093 AC AL AM Aa Ab Ac Ad Ae Ai Aj Ak Al As Au Ay;unfold z5h
  refine zq (hs.perm hf.perm) λa0 w' hs=>?_
  refine zu ?_ (by simp)
  refine zg hs ?_
  refine zb (z9u b hs) λ_ _ hs=>?_
  obtain ⟨rfl,hs⟩:=hs
  refine zd ?_
  refine wp_lt ?_
  refine zh (λh=>?_) λh=>?_
  ·rw [if_pos h]
   refine wp_lt ?_
   exact ⟨rfl,rfl,hs.tail⟩
  rw [if_neg h]
  refine zv hs λw' hs=>?_
  refine z8 hs ?_
  obtain ⟨m1,m2,hok,hs⟩:=z8r (hs.pick [1])
  refine zj ?_
  refine z8 hs ?_
  refine wp_lt ?_
  refine ze ?_
  have hs:Sat w' (vw v A::pt a0 (.cells #[.int .i64 b.base,.int .i64 b.pid,.int .i64 b.epoch,.int .i64 b.seq,.int .i64 b.kind,.int .i64 b.time,.slice b.x.a b.x.len b.x.cap] T.a0)::r):=z4c m1 m2 hok hs
  refine zh (λh2=>?_) λh2=>?_
  ·rw [if_pos h2];exact ⟨rfl,rfl,hs.sub⟩
  rw [if_neg h2]
  refine z8 hs ?_
  refine wp_lt ?_
  refine zh (λh3=>?_) λh3=>?_
  ·rw [if_pos h3]
   refine zg hs ?_
   refine zb (z07m (v:=v) b hs) λ_ _ hs=>?_
   obtain ⟨rfl,hs⟩:=hs
   refine zd ?_
   refine wp_lt ?_
   exact ⟨rfl,rfl,hs.sub⟩
  ·rw [if_neg h3];exact ⟨rfl,rfl,hs.sub⟩
end
def z35 (p:Int) (l:List TxnA):List TxnA:=l.filter λt=>!decide (t.pid=p)
def z1u (A:ViewA) (b:BatM):ViewA :=
 if b.kind=1/\(opF A b.pid).isSome=false then { A with next:=b.base+zt b,op:=A.op++[⟨b.pid,b.epoch,b.base,-1⟩] }
 else if z04 b=true/\(opF A b.pid).isSome=true then
  if b.kind=3 then ⟨b.base+zt b,z35 b.pid A.op,A.fa++[{ (opF A b.pid).getD ⟨0,0,0,0⟩ with last:=b.base }]⟩ else ⟨b.base+zt b,z35 b.pid A.op,A.fa⟩
 else { A with next:=b.base+zt b }
def zaw (A:ViewA) (b:BatM):Int × ViewA:=if z5h A b≠0 then (z5h A b,A) else (0,z1u A b)
theorem z5d {A:ViewA} {b:BatM} (h:z5h A b=0):z07 b=0/\A.next<=b.base/\(b.kind≠0->zi3 A b=0):=by
 unfold z5h at h
 by_cases h1:z07 b≠0
 ·rw [if_pos h1] at h;exact absurd h h1
 rw [if_neg h1] at h
 by_cases h2:b.base<A.next
 ·rw [if_pos h2] at h;cases h
 rw [if_neg h2] at h
 refine ⟨Decidable.not_not.1 h1,by omega,λh3=>?_⟩
 rwa [if_pos h3] at h
theorem z6c {A:ViewA} {b:BatM} (h:zi3 A b=0):faF A b.pid b.epoch=none/\(∀ t,opF A b.pid=some t->t.epoch=b.epoch)/\(b.kind=1->opF A b.pid=none->A.op.length<1024)/\(b.kind=3->∀ t,opF A b.pid=some t->A.fa.length<4096):=by
 unfold zi3 at h
 by_cases h1:(faF A b.pid b.epoch).isSome=true
 ·rw [if_pos h1] at h;cases h
 rw [if_neg h1] at h
 have hn:faF A b.pid b.epoch=none:=by
  cases hc:faF A b.pid b.epoch with
  | none=>rfl
  | some t=>rw [hc] at h1;exact absurd rfl h1
 split at h
 ·cases h
 rename_i h2
 split at h
 ·cases h
 rename_i h3
 split at h
 ·cases h
 rename_i h4
 refine ⟨hn,λt ht=>?_,λhk ho=>?_,λhk t ht=>?_⟩
 ·have h5:((opF A b.pid).getD ⟨0,0,0,0⟩).pid=b.pid/\((opF A b.pid).getD ⟨0,0,0,0⟩).epoch=b.epoch:=Decidable.not_not.1 λh6=>h2 ⟨by rw [ht];rfl,h6⟩
  rw [ht] at h5
  exact h5.2
 ·apply Nat.lt_of_not_le
  intro h5
  exact h3 ⟨hk,by rw [ho];rfl,h5⟩
 ·apply Nat.lt_of_not_le
  intro h5
  exact h4 ⟨hk,by rw [ht];rfl,h5⟩
theorem z8k {t:TxnA} {n m:Int} (h:okT t n) (hnm:n<=m):okT t m:=⟨h.pid,h.epoch,h.first.1,Int.lt_of_lt_of_le h.first.2 hnm⟩
theorem zgg {t:TxnA}:∀ {l:List TxnA},(l.map (·.pid)).Nodup->t ∈ l->l.Perm (t::z35 t.pid l)
 | u::l,hnd,ht=>by
  rw [List.map_cons,List.nodup_cons] at hnd
  have hrest:∀ {p:Int},p ∉ l.map (·.pid)->z35 p l=l:=λ{p} hp=>List.filter_eq_self.2 λx hx=>by
   have:x.pid≠p:=λe=>hp (List.mem_map.2 ⟨x,hx,e⟩)
   simpa using this
  rcases List.mem_cons.1 ht with rfl|ht
  ·have:z35 t.pid (t::l)=l:=by
    show (t::l).filter _=l
    rw [List.filter_cons_of_neg (by simp)]
    exact hrest hnd.1
   rw [this]
  ·have hne:u.pid≠t.pid:=λe=>hnd.1 (List.mem_map.2 ⟨t,ht,e.symm⟩)
   have:z35 t.pid (u::l)=u::z35 t.pid l:=by
    show (u::l).filter _=_
    rw [List.filter_cons_of_pos (by simpa using hne)];rfl
   rw [this]
   exact ((zgg hnd.2 ht).cons u).trans (.swap _ _ _)
theorem zm8 {A:ViewA} {b:BatM} (hok:okV A) (h:z5h A b=0):okV (z1u A b):=by
 obtain ⟨hv,hbase,hmay⟩:=z5d h
 obtain ⟨s1,s2,hnum,hfit,s3⟩:=z16 b hv
 obtain ⟨hk,hb,hp,he,hse,ht⟩:=hnum
 have hnx:=hok.next
 unfold z1u
 split
 ·rename_i h1
  obtain ⟨hk1,ho⟩:=h1
  obtain ⟨m1,m2,m3,m4⟩:=z6c (hmay (by omega))
  have ho:opF A b.pid=none:=by
   cases hc:opF A b.pid with
   | none=>rfl
   | some t=>rw [hc] at ho;cases ho
  have hpid:1<=b.pid:=by
   have:=hfit.1
   apply Decidable.byContradiction
   intro h5
   exact this ⟨by omega,.inl (by omega)⟩
  have hlt:=m3 hk1 ho
  refine ⟨by show 0<=b.base+zt b/\b.base+zt b<=_;omega,by show (A.op++[_]).length<=1024/\_;rw [List.length_append];exact ⟨by simp;omega,hok.many.2⟩,λt ht=>?_,λt ht=>?_,?_,hok.byLast,?_,hok.keys,λt ht u hu=>?_⟩
  ·rcases List.mem_append.1 ht with ht|ht
   ·exact ⟨z8k (hok.op t ht).1 (by show A.next<=b.base+zt b;omega),(hok.op t ht).2⟩
   ·rw [List.mem_singleton.1 ht]
    exact ⟨⟨⟨hpid,hp.2⟩,he,hb.1,by show b.base<b.base+zt b;omega⟩,rfl⟩
  ·obtain ⟨h1,h2,h3⟩:=hok.fa t ht
   exact ⟨z8k h1 (by show A.next<=b.base+zt b;omega),h2,by show t.last<b.base+zt b;omega⟩
  ·show (A.op++[_]).Pairwise _
   rw [List.pairwise_append]
   refine ⟨hok.byFirst,by simp,λt ht u hu=>?_⟩
   rw [List.mem_singleton.1 hu]
   have:=(hok.op t ht).1.first
   show t.first<b.base
   omega
  ·show ((A.op++[_]).map _).Nodup
   rw [List.map_append,List.nodup_append]
   refine ⟨hok.pids,by simp,λp hp q hq=>?_⟩
   obtain ⟨t,ht,rfl⟩:=List.mem_map.1 hp
   rw [List.map_singleton,List.mem_singleton] at hq
   rw [hq]
   exact zmd ho t ht
  ·rcases List.mem_append.1 ht with ht|ht
   ·exact hok.apart t ht u hu
   ·rw [List.mem_singleton.1 ht]
    intro h5
    exact z8b m1 u hu ⟨h5.1.symm,h5.2.symm⟩
 ·split
  ·rename_i h1 h2
   obtain ⟨hm,ho⟩:=h2
   obtain ⟨t,ho⟩:∃ t,opF A b.pid=some t:=Option.isSome_iff_exists.1 ho
   have hk0:b.kind≠0:=by
    unfold z04 at hm
    simp only [Bool.or_eq_true,decide_eq_true_eq] at hm
    omega
   obtain ⟨m1,m2,m3,m4⟩:=z6c (hmay hk0)
   obtain ⟨htm,htp⟩:=z6d ho
   have hte:=m2 t ho
   have hdrop:∀ u ∈ z35 b.pid A.op,u ∈ A.op/\u.pid≠b.pid:=λu hu=>by
    obtain ⟨h5,h6⟩:=List.mem_filter.1 hu
    exact ⟨h5,by simpa using h6⟩
   have hsub:(z35 b.pid A.op).Sublist A.op:=List.filter_sublist
   have hop:∀ u ∈ z35 b.pid A.op,okT u (b.base+zt b)/\u.last = -1:=λu hu=>⟨z8k (hok.op u (hdrop u hu).1).1 (by omega),(hok.op u (hdrop u hu).1).2⟩
   have hfa:∀ u ∈ A.fa,okT u (b.base+zt b)/\u.first<u.last/\u.last<b.base+zt b:=λu hu=>by
    obtain ⟨h5,h6,h7⟩:=hok.fa u hu
    exact ⟨z8k h5 (by omega),h6,by omega⟩
   have hlen:(z35 b.pid A.op).length<=1024:=Nat.le_trans hsub.length_le hok.many.1
   split
   ·rename_i hk3
    rw [ho]
    have htf:=(hok.op t htm).1
    refine ⟨by show 0<=b.base+zt b/\b.base+zt b<=_;omega,⟨hlen,by show (A.fa++[_]).length<=_;rw [List.length_append];have:=m4 hk3 t ho;simp;omega⟩,hop,λu hu=>?_,hok.byFirst.sublist hsub,?_,hok.pids.sublist (hsub.map _),?_,λu hu x hx=>?_⟩
    ·rcases List.mem_append.1 hu with hu|hu
     ·exact hfa u hu
     ·rw [List.mem_singleton.1 hu]
      have:=htf.first
      exact ⟨⟨htf.pid,htf.epoch,this.1,by show t.first<b.base+zt b;omega⟩,by show t.first<b.base;omega,by show b.base<b.base+zt b;omega⟩
    ·show (A.fa++[_]).Pairwise _
     rw [List.pairwise_append]
     refine ⟨hok.byLast,by simp,λu hu x hx=>?_⟩
     rw [List.mem_singleton.1 hx]
     have:=(hok.fa u hu).2.2
     show u.last<b.base
     omega
    ·show ((A.fa++[_]).map _).Nodup
     rw [List.map_append,List.nodup_append]
     refine ⟨hok.keys,by simp,λp hp q hq=>?_⟩
     obtain ⟨u,hu,rfl⟩:=List.mem_map.1 hp
     rw [List.map_singleton,List.mem_singleton] at hq
     rw [hq]
     intro h5
     simp only [Prod.mk.injEq] at h5
     exact z8b m1 u hu ⟨h5.1.trans htp,h5.2.trans hte⟩
    ·rcases List.mem_append.1 hx with hx|hx
     ·exact hok.apart u (hdrop u hu).1 x hx
     ·rw [List.mem_singleton.1 hx]
      intro h5
      exact (hdrop u hu).2 (h5.1.trans htp)
   ·exact ⟨by show 0<=b.base+zt b/\b.base+zt b<=_;omega,⟨hlen,hok.many.2⟩,hop,hfa,hok.byFirst.sublist hsub,hok.byLast,hok.pids.sublist (hsub.map _),hok.keys,λu hu x hx=>hok.apart u (hdrop u hu).1 x hx⟩
  ·refine ⟨by show 0<=b.base+zt b/\b.base+zt b<=_;omega,hok.many,λt ht=>⟨z8k (hok.op t ht).1 (by show A.next<=b.base+zt b;omega),(hok.op t ht).2⟩,λt ht=>?_,hok.byFirst,hok.byLast,hok.pids,hok.keys,hok.apart⟩
   obtain ⟨h1,h2,h3⟩:=hok.fa t ht
   exact ⟨z8k h1 (by show A.next<=b.base+zt b;omega),h2,by show t.last<b.base+zt b;omega⟩
section
variable {w:World} {l r r1 r2 r3 l':List HP} {v:Nat} {A:ViewA} {b:BatM}
theorem z04f (b:BatM) [hf:Fo l vw v A r] [hb:FocR r b.x 4 (b.rs.flatMap z01)] (hs:Sat w l):Ret P F.a60 #[.pointer (some ⟨v,0,none⟩),.agg (zp b).toArray] w λvs w'=>vs=[.int .i64 (zaw A b).1]/\Sat w' (vw v (zaw A b).2::r) :=
 zun _ b.base b.pid b.epoch b.seq b.kind b.time b.x <| by
  delta z095 A8 AC AI AJ AK AL AM Aa Ab Ac Ad Ae Ai Aj Ak Al An Ar As Aw Ay Az B2 B7 BB BJ BK BL BO Bb Br;unfold zaw
  refine zq (hs.perm hf.perm) λa0 w' hs=>?_
  refine zg hs ?_
  refine zb (zwf (v:=v) b hs) λ_ _ hs=>?_
  obtain ⟨rfl,hs⟩:=hs
  refine zd ?_
  refine wp_lt ?_
  refine zh (λh=>?_) λh=>?_
  ·rw [if_pos h]
   refine wp_lt ?_
   exact ⟨rfl,rfl,hs.sub⟩
  rw [if_neg h]
  have hc:z5h A b=0:=Decidable.not_not.1 h
  obtain ⟨hv,hbase,hmay⟩:=z5d hc
  refine zg hs ?_
  refine zb (z9r b hs) λ_ _ hs=>?_
  obtain ⟨rfl,hs⟩:=hs
  refine zd ?_
  have hnx:z1d b=b.base+zt b:=by unfold z1d;rw [if_neg (by rw [hv];simp)]
  rw [hnx]
  obtain ⟨m1,m2,hok,hs⟩:=z8r hs
  have hok':=zm8 hok hc
  have ho:=zmc A b.pid
  refine zj ?_
  refine z02 hs λw' hs=>?_
  refine zl (λx w'=>∃ c:Nat,x=(⟨c,0,none⟩,(opF A b.pid).isSome,())/\Sat w' (pt c (.cells #[.int .i64 ((opF A b.pid).getD ⟨0,0,0,0⟩).pid,.int .i64 ((opF A b.pid).getD ⟨0,0,0,0⟩).epoch,.int .i64 ((opF A b.pid).getD ⟨0,0,0,0⟩).first,.int .i64 ((opF A b.pid).getD ⟨0,0,0,0⟩).last] T.a18) ::
   pt a0 (.cells #[.int .i64 b.base,.int .i64 b.pid,.int .i64 b.epoch,.int .i64 b.seq,.int .i64 b.kind,.int .i64 b.time,.slice b.x.a b.x.len b.x.cap] T.a0) ::
   pt v (.cells #[.int .i64 (b.base+zt b),.map (some m1),.map (some m2)] T.a16)::z1e ekI evX m1 (opK A)::z1e ekK evX m2 (faK A)::r)) ?_ ?_
  ·refine zv hs λw' hs=>?_
   refine zj ?_
   refine z14 hs ?_
   refine z14 hs ?_
   refine zcm hs (opF A b.pid) ho zao ?_
   refine z2q _ _ _ _ _ ?_
   refine zn hs (λc w' hs=>?_) (λc w' hs=>⟨⟨⟨trivial,λ_=>z08 hs⟩,λ_=>z08 hs⟩,λ_=>z93 (ss:=lkS) hs ho zao⟩)
   refine ze ?_
   refine zm hs λw' hs=>?_
   refine wp_lt ?_
   refine ze ?_
   exact zf ⟨c,rfl,hs.sub⟩
  clear hs
  rintro _ w ⟨c,rfl,hs⟩
  refine zk ?_
  refine z8 hs ?_
  refine wp_lt ?_
  refine zl (λ_ w'=>Sat w' (vw v (z1u A b)::r)) ?_ (by rintro _ w' hs;refine zk ?_;exact ⟨rfl,rfl,hs⟩)
  refine zh (λh1=>?_) λh1=>?_
  ·have h1:b.kind=1/\(opF A b.pid).isSome=false:=⟨h1.1,by simpa using h1.2⟩
   have htk:z1u A b={ A with next:=b.base+zt b,op:=A.op++[⟨b.pid,b.epoch,b.base,-1⟩] }:=by unfold z1u;rw [if_pos h1]
   rw [htk] at hok' ⊢
   refine zv hs λw' hs=>?_
   refine zj ?_
   refine z8 hs ?_
   refine z8 hs ?_
   refine z8 hs ?_
   refine z8 hs ?_
   refine z8 hs ?_
   have hno:∀ u,(b.pid,u) ∉ opK A:=by
    rcases ho with ⟨t,ht,-⟩|⟨-,hno⟩
    ·rw [ht] at h1;cases h1.2
    ·exact hno
   refine zbp hs (opK A) (.inr ⟨hno,rfl⟩) (⟨b.pid,b.epoch,b.base,-1⟩:TxnA) λw' hs=>?_
   refine ze ?_
   refine zf ?_
   exact z4c m1 m2 (A:={ A with next:=b.base+zt b,op:=A.op++[⟨b.pid,b.epoch,b.base,-1⟩] }) hok' hs (by
    show List.Perm _ ((A.op++[_]).map _)
    rw [List.map_append]
    exact List.perm_append_comm (l₁:=[(b.pid,(⟨b.pid,b.epoch,b.base,-1⟩:TxnA))]))
  have h1:¬ (b.kind=1/\(opF A b.pid).isSome=false):=λh=>h1 ⟨h.1,by simpa using h.2⟩
  refine zg hs ?_
  refine zb (zqc b hs) λ_ _ hs=>?_
  obtain ⟨rfl,hs⟩:=hs
  refine zd ?_
  refine wp_lt ?_
  refine zl (λ_ w'=>Sat w' (vw v (z1u A b)::r)) ?_ (by rintro _ w' hs;refine zk ?_;exact zf hs)
  refine zh (λh2=>?_) λh2=>?_
  rotate_left
  ·have htk:z1u A b={ A with next:=b.base+zt b }:=by unfold z1u;rw [if_neg h1,if_neg (λh=>h2 h)]
   rw [htk] at hok' ⊢
   refine zf ?_
   exact z4c m1 m2 (A:={ A with next:=b.base+zt b }) hok' hs
  have h2:z04 b=true/\(opF A b.pid).isSome=true:=h2
  obtain ⟨t,hot⟩:∃ t,opF A b.pid=some t:=Option.isSome_iff_exists.1 h2.2
  obtain ⟨htm,htp⟩:=z6d hot
  have hdel:(opK A).Perm ((b.pid,t)::(z35 b.pid A.op).map λt=>(t.pid,t)):=by
   have:=(zgg hok.pids htm).map λt:TxnA=>(t.pid,t)
   rw [List.map_cons,htp] at this
   exact this
  rw [hot] at hs
  have hs:Sat _ (pt c (.cells #[.int .i64 t.pid,.int .i64 t.epoch,.int .i64 t.first,.int .i64 t.last] T.a18)::_):=hs
  refine zv hs λw' hs=>?_
  refine zj ?_
  refine z8 hs ?_
  refine z8 hs ?_
  refine zrn hs ((z35 b.pid A.op).map λt=>(t.pid,t)) (.inl ⟨t,hdel⟩) λw' hs=>?_
  refine ze ?_
  refine z8 hs ?_
  refine zl (λ_ w'=>Sat w' (vw v (z1u A b)::r)) ?_ (by rintro _ w' hs;refine zk ?_;exact zf hs)
  refine zh (λh3=>?_) λh3=>?_
  ·have htk:z1u A b=⟨b.base+zt b,z35 b.pid A.op,A.fa++[(⟨t.pid,t.epoch,t.first,b.base⟩:TxnA)]⟩:=by unfold z1u;rw [if_neg h1,if_pos h2,if_pos h3,hot];rfl
   rw [htk] at hok' ⊢
   obtain ⟨n1,n2,-,-⟩:=z6c (hmay (by omega))
   have hte:=n2 t hot
   refine z8 hs ?_
   refine z02 hs λw' hs=>?_
   refine zv hs λw' hs=>?_
   refine zj ?_
   refine z8 hs ?_
   refine zae hs (t.pid,t.epoch,()) ?_
   refine zg hs ?_
   have hno:∀ u,((t.pid,t.epoch),u) ∉ faK A:=λu hu=>by
    obtain ⟨y,hy,e⟩:=List.mem_map.1 hu
    simp only [Prod.mk.injEq] at e
    exact z8b n1 y hy ⟨e.1.1.trans htp,e.1.2.trans hte⟩
   refine zbp hs (faK A) (.inr ⟨hno,rfl⟩) (⟨t.pid,t.epoch,t.first,b.base⟩:TxnA) λw' hs=>?_
   refine ze ?_
   refine zf ?_
   have hp2:(((t.pid,t.epoch),(⟨t.pid,t.epoch,t.first,b.base⟩:TxnA))::faK A).Perm (faK ⟨b.base+zt b,z35 b.pid A.op,A.fa++[(⟨t.pid,t.epoch,t.first,b.base⟩:TxnA)]⟩):=by
    show List.Perm _ ((A.fa++[_]).map _)
    rw [List.map_append]
    exact List.perm_append_comm (l₁:=[((t.pid,t.epoch),(⟨t.pid,t.epoch,t.first,b.base⟩:TxnA))])
   have hs:=hs.mapPerm hp2
   exact z4c m1 m2 (A:=⟨b.base+zt b,z35 b.pid A.op,A.fa++[(⟨t.pid,t.epoch,t.first,b.base⟩:TxnA)]⟩) hok' hs
  ·have htk:z1u A b=⟨b.base+zt b,z35 b.pid A.op,A.fa⟩:=by unfold z1u;rw [if_neg h1,if_pos h2,if_neg h3]
   rw [htk] at hok' ⊢
   refine zf ?_
   exact z4c m1 m2 (A:=⟨b.base+zt b,z35 b.pid A.op,A.fa⟩) hok' hs
end
structure EntA where
 offset:Int
 place:Int
 before:Int
structure IdxA where
 offset:Int
 place:Int
 late:Int
 gap:Int
 l:List EntA
def zdd (gap:Int):IdxA:=⟨-1,-1,-1,gap,[]⟩
def zc8 (o p t:Int):Prop:=(0<=o/\o<=1099511627776)/\(0<=p/\p<=4194304)/\(0<=t/\t<=1099511627776)
instance (o p t:Int):Decidable (zc8 o p t):=by unfold zc8;infer_instance
def zzd (x:IdxA) (p:Int):Bool:=match x.l.getLast? with
 | none=>true
 | some e=>decide (p-e.place>=x.gap)
def z4r (x:IdxA) (o p:Int):List EntA:=if zzd x p then x.l++[⟨o,p,x.late⟩] else x.l
def zaq (x:IdxA) (o p t:Int):Int × IdxA:=if ¬ zc8 o p t then (2,x) else if o<=x.offset\/p<=x.place then (21,x) else (0,⟨o,p,max x.late t,x.gap,z4r x o p⟩)
def zc2:IdxA->Int->List BatM->IdxA
 | x,_,[]=>x
 | x,q,b::bs=>zc2 (zaq x b.base q (z3e b)).2 (q+(frL b).length) bs
def SegA.idx (gap:Int) (s:SegA):IdxA:=zc2 (zdd gap) (shL s.base s.fin).length s.bs
def z3c (l:List EntA) (o:Int):Option EntA:=(l.filter λe=>decide (e.offset<=o)).getLast?
theorem zde:∀ (bs:List BatM) (x:IdxA) (q:Int) (b:BatM),zc2 x q (bs++[b])=(zaq (zc2 x q bs) b.base (q+(bs.flatMap frL).length) (z3e b)).2
 | [],x,q,b=>by simp [zc2]
 | a::bs,x,q,b=>by
  show zc2 (zaq x a.base q (z3e a)).2 (q+(frL a).length) (bs++[b])=_
  rw [zde bs]
  rw [show q+((frL a).length:Int)+((bs.flatMap frL).length:Nat)=q+(((a::bs).flatMap frL).length:Nat) by rw [List.flatMap_cons,List.length_append];omega]
  rfl
theorem zmy:∀ {rs:List RecM} {x:Int},x<=z61 x rs/\∀ r ∈ rs,r.time<=z61 x rs
 | [],x=>⟨Int.le_refl _,λ_ h=>by cases h⟩
 | r::rs,x=>by
  have h:=zmy (rs:=rs) (x:=max x r.time)
  have e:z61 x (r::rs)=z61 (max x r.time) rs:=rfl
  rw [e]
  refine ⟨by omega,λy hy=>?_⟩
  rcases List.mem_cons.1 hy with rfl|hy
  ·omega
  ·exact h.2 y hy
theorem zk6:∀ {rs:List RecM} {x m:Int},x<=m->(∀ r ∈ rs,r.time<=m)->z61 x rs<=m
 | [],x,m,h,_=>h
 | r::rs,x,m,h,hr=>by
  have e:z61 x (r::rs)=z61 (max x r.time) rs:=rfl
  rw [e]
  have:=hr r (List.mem_cons_self ..)
  exact zk6 (by omega) λy hy=>hr y (List.mem_cons_of_mem _ hy)
theorem zz5 {b:BatM} (h:z07 b=0):0<=z3e b/\z3e b<=1099511627776:=by
 obtain ⟨-,-,⟨-,-,-,-,-,htm⟩,-,-⟩:=z16 b h
 obtain ⟨-,hrs⟩:=z1q h
 unfold z3e
 split
 ·exact htm
 ·rename_i hne
  obtain ⟨r,hr⟩:=List.exists_mem_of_ne_nil _ hne
  have h1:=(zmy (rs:=b.rs) (x := -1)).2 r hr
  have h2:=(z3j (hrs r hr)).2.2.1
  refine ⟨by omega,zk6 (by omega) λr hr=>(z3j (hrs r hr)).2.2.1.2⟩
theorem zfq:∀ {bs:List BatM} {x:Int},x<=z1g x bs/\∀ b ∈ bs,z3e b<=z1g x bs
 | [],x=>⟨Int.le_refl _,λ_ h=>by cases h⟩
 | r::rs,x=>by
  have h:=zfq (bs:=rs) (x:=max x (z3e r))
  have e:z1g x (r::rs)=z1g (max x (z3e r)) rs:=rfl
  rw [e]
  refine ⟨by omega,λy hy=>?_⟩
  rcases List.mem_cons.1 hy with rfl|hy
  ·omega
  ·exact h.2 y hy
theorem zje:∀ {bs:List BatM} {x m:Int},x<=m->(∀ b ∈ bs,z3e b<=m)->z1g x bs<=m
 | [],x,m,h,_=>h
 | r::rs,x,m,h,hr=>by
  have e:z1g x (r::rs)=z1g (max x (z3e r)) rs:=rfl
  rw [e]
  have:=hr r (List.mem_cons_self ..)
  exact zje (by omega) λy hy=>hr y (List.mem_cons_of_mem _ hy)
theorem zse {x:Int} (bs:List BatM) (i:Nat):z1g x (bs.take i)<=z1g x bs :=
 zje zfq.1 λb hb=>zfq.2 b (List.mem_of_mem_take hb)
structure IdxOk (gap q:Int) (bs:List BatM) (x:IdxA):Prop where
 gap:x.gap=gap
 late:x.late=z1g (-1) bs
 offset:x.offset=match bs.getLast? with|none => -1|some b=>b.base
 place:x.place<q+(bs.flatMap frL).length
 lplace:∀ e ∈ x.l,e.place<=x.place
 ent:∀ e ∈ x.l,∃ i,∃ hi:i<bs.length,e=⟨bs[i].base,q+((bs.take i).flatMap frL).length,z1g (-1) (bs.take i)⟩
 first:∀ b,bs.head? = some b->x.l.head? = some ⟨b.base,q,-1⟩
 offs:x.l.Pairwise λa b=>a.offset<b.offset
 befs:x.l.Pairwise λa b=>a.before<=b.before
theorem zan {n:Int} {bs:List BatM} {b:BatM} (h:z1w n (bs++[b])) (h0:0<=n):z07 b=0/\n<=b.base/\(∀ c,bs.getLast? = some c->c.base<b.base)/\z1w n bs/\z0n bs<=b.base:=by
 induction bs generalizing n with
 | nil=>exact ⟨h.1,h.2.2.1,by simp,trivial,by have:=h.2.2.1;show (0:Int)<=_;omega⟩
 | cons a bs ih =>
  obtain ⟨h1,h2,h3,h4⟩:=h
  obtain ⟨s1,-,⟨-,hba,-⟩,-,s2⟩:=z16 a h1
  obtain ⟨i1,i2,i3,i4,i5⟩:=ih h4 (by omega)
  refine ⟨i1,by omega,λc hc=>?_,⟨h1,h2,h3,i4⟩,?_⟩
  ·cases bs with
   | nil=>simp at hc;subst hc;omega
   | cons d ds=>exact i3 c (by simpa using hc)
  ·cases bs with
   | nil=>show a.base+zt a<=_;omega
   | cons d ds=>exact i5
theorem zlu (gap:Int):∀ (m:Nat) {n q:Int} {bs:List BatM},bs.length=m->0<=n->0<=q->z1w n bs->q+(bs.flatMap frL).length<=4194304->IdxOk gap q bs (zc2 (zdd gap) q bs)
 | 0,n,q,bs,hm,_,hq,_,_=>by
  have:bs=[]:=List.length_eq_zero_iff.1 hm
  subst this
  exact ⟨rfl,rfl,rfl,by show (-1:Int)<_;simp;omega,(λ_ h=>by cases h),(λ_ h=>by cases h),(λ_ h=>by cases h),.nil,.nil⟩
 | m+1,n,q,bs,hm,hn,hq,hb,hl=>by
  have hne:bs≠[]:=by rintro rfl;cases hm
  obtain ⟨bs,b,rfl⟩:∃ cs b,bs=cs++[b]:=⟨bs.dropLast,bs.getLast hne,(List.dropLast_concat_getLast hne).symm⟩
  rw [List.length_append] at hm
  obtain ⟨hv,hnb,hlb,hb',-⟩:=zan hb hn
  have hfl:=z6r hv
  have hfl2:((bs++[b]).flatMap frL).length=(bs.flatMap frL).length+(frL b).length:=by simp
  have ih:=zlu gap m (by simpa using hm) hn hq hb' (by omega)
  have hlt:=zz5 hv
  obtain ⟨-,-,⟨-,hba,-⟩,-,-⟩:=z16 b hv
  rw [zde]
  generalize hx:zc2 (zdd gap) q bs=x at ih
  have hoff:x.offset<b.base:=by
   rw [ih.offset]
   cases hc:bs.getLast? with
   | none=>show (-1:Int)<_;omega
   | some c=>exact hlb c hc
  unfold zaq
  rw [if_neg (by intro h;apply h;exact ⟨by omega,by omega,by omega⟩),if_neg (by have:=ih.place;omega)]
  have hw:∀ (i:Nat) (hi:i<bs.length),(bs++[b])[i]'(by rw [List.length_append];omega)=bs[i]/\(bs++[b]).take i=bs.take i:=λi hi=>⟨List.getElem_append_left hi,by rw [List.take_append_of_le_length (by omega)]⟩
  have hmem:∀ e ∈ z4r x b.base (q+(bs.flatMap frL).length),e ∈ x.l\/e=⟨b.base,q+(bs.flatMap frL).length,x.late⟩:=λe he=>by
   unfold z4r at he
   split at he
   ·rcases List.mem_append.1 he with he|he
    ·exact .inl he
    ·exact .inr (by simpa using he)
   ·exact .inl he
  have hent:∀ e ∈ x.l,e.offset<b.base/\e.before<=x.late:=λe he=>by
   obtain ⟨i,hi,rfl⟩:=ih.ent e he
   refine ⟨?_,by rw [ih.late];exact zse bs i⟩
   have hlast:∀ {n:Int} {bs:List BatM},z1w n bs->0<=n->∀ (i:Nat) (hi:i<bs.length),bs[i].base<z0n bs:=by
    intro n bs hbs hn i hi
    have h1:z1w n (bs.take i++[bs[i]]):=by
     have:=hbs.take (i+1)
     rwa [List.take_succ_eq_append_getElem hi] at this
    have h2:=zan h1 hn
    have h3:∀ {n:Int} {ds cs:List BatM},z1w n (ds++cs)->0<=n->z0n ds<=z0n (ds++cs):=by
     intro n ds cs h hn
     induction cs generalizing ds with
     | nil=>rw [List.append_nil];exact Int.le_refl _
     | cons c cs ih =>
      have h':z1w n ((ds++[c])++cs):=by rwa [List.append_assoc]
      have i1:=ih h'
      rw [List.append_assoc] at i1
      have h4:z1w n (ds++[c]):=by
       have:=h'.take (ds++[c]).length
       rwa [List.take_left] at this
      have h5:=zan h4 hn
      obtain ⟨s1,-,-,-,-⟩:=z16 c h5.1
      have e:z0n (ds++[c])=c.base+zt c:=z5l ds c
      have i1:z0n (ds++[c])<=z0n (ds++(c::cs)):=i1
      have:=h5.2.2.2.2
      omega
    have h6:=h3 (ds:=bs.take i++[bs[i]]) (cs:=bs.drop (i+1)) (by rw [<- List.take_succ_eq_append_getElem hi,List.take_append_drop];exact hbs) hn
    rw [<- List.take_succ_eq_append_getElem hi,List.take_append_drop,List.take_succ_eq_append_getElem hi,z5l] at h6
    obtain ⟨s1,-,-,-,-⟩:=z16 _ h2.1
    omega
   have h7:=hlast hb' hn i hi
   have h8:=(zan hb hn).2.2.2.2
   show bs[i].base<b.base
   omega
  refine ⟨ih.gap,?_,by rw [z1x],?_,?_,?_,?_,?_,?_⟩
  ·rw [zgt,<- ih.late]
  ·show q+((bs.flatMap frL).length:Int)<_
   omega
  ·intro e he
   show e.place<=q+((bs.flatMap frL).length:Int)
   rcases hmem e he with he|rfl
   ·have:=ih.lplace e he
    have:=ih.place
    omega
   ·exact Int.le_refl _
  ·intro e he
   rcases hmem e he with he|rfl
   ·obtain ⟨i,hi,rfl⟩:=ih.ent e he
    obtain ⟨h1,h2⟩:=hw i hi
    exact ⟨i,by rw [List.length_append];omega,by rw [h1,h2]⟩
   ·refine ⟨bs.length,by simp,?_⟩
    rw [List.getElem_append_right (Nat.le_refl _),List.take_left,ih.late]
    simp
  ·intro a ha
   show (z4r x b.base (q+(bs.flatMap frL).length)).head? = _
   cases bs with
   | nil =>
    simp at ha
    subst ha
    subst hx
    show some (⟨b.base,q+((([]:List BatM).flatMap frL).length:Int),-1⟩:EntA)=_
    congr 2
    simp
   | cons c cs =>
    have h1:=ih.first a (by simpa using ha)
    unfold z4r
    split
    ·rw [List.head?_append,h1];rfl
    ·exact h1
  ·show (z4r x b.base _).Pairwise _
   unfold z4r
   split
   ·refine List.pairwise_append.2 ⟨ih.offs,by simp,λa ha c hc=>?_⟩
    simp at hc
    subst hc
    exact (hent a ha).1
   ·exact ih.offs
  ·show (z4r x b.base _).Pairwise _
   unfold z4r
   split
   ·refine List.pairwise_append.2 ⟨ih.befs,by simp,λa ha c hc=>?_⟩
    simp at hc
    subst hc
    exact (hent a ha).2
   ·exact ih.befs
theorem zs7 {α:Type} {p:α->Bool} {l:List α} {i:Nat} (hi:i<=l.length) (h1:∀ x ∈ l.take i,p x=true) (h2:∀ x ∈ l.drop i,p x=false):l.filter p=l.take i:=by
 rw [<- List.take_append_drop i l,List.filter_append,List.filter_eq_self.2 h1,List.filter_eq_nil_iff.2 λx hx=>by rw [h2 x hx];simp,List.append_nil]
 rw [List.take_append_drop]
theorem zha {α:Type} {p:α->Bool} {l:List α} {i:Nat} (hi:i<=l.length) (hm:l.Pairwise λa b=>p b=true->p a=true) (h1:∀ (h:i-1<l.length),0<i->p l[i-1]=true) (h2:∀ h:i<l.length,p l[i]=false):l.filter p=l.take i:=by
 have hm':∀ (a b:Nat) (hb:b<l.length) (h:a<b),p l[b]=true->p (l[a]'(by omega))=true:=λa b hb h=>List.pairwise_iff_getElem.1 hm a b (by omega) hb h
 refine zs7 hi (λx hx=>?_) λx hx=>?_
 ·obtain ⟨j,hj,rfl⟩:=List.mem_iff_getElem.1 hx
  rw [List.length_take] at hj
  rw [List.getElem_take]
  by_cases hji:j=i-1
  ·subst hji;exact h1 (by omega) (by omega)
  ·exact hm' j (i-1) (by omega) (by omega) (h1 (by omega) (by omega))
 ·obtain ⟨j,hj,rfl⟩:=List.mem_iff_getElem.1 hx
  rw [List.length_drop] at hj
  rw [List.getElem_drop]
  cases hp:p (l[i+j]'(by omega)) with
  | false=>rfl
  | true =>
   have h3:=h2 (by omega)
   by_cases hj0:j=0
   ·subst hj0;simp only [Nat.add_zero] at hp;rw [hp] at h3;cases h3
   ·have:=hm' i (i+j) (by omega) (by omega) hp
    rw [this] at h3;cases h3
theorem zxm {α:Type} {l:List α} {i:Nat} (hi:i<=l.length):(l.take i).getLast? = if i=0 then none else l[i-1]? := by
 cases i with
 | zero=>simp
 | succ i =>
  rw [if_neg (by omega),List.take_succ_eq_append_getElem (by omega),z1x]
  simp
theorem zna {α:Type} {p:α->Bool} {l:List α} {e:α} (h:(l.filter p).getLast? = some e):∃ a c,l=a++e::c/\p e=true/\∀ x ∈ c,p x=false:=by
 induction l with
 | nil=>simp at h
 | cons y r ih =>
  rw [List.filter_cons] at h
  by_cases hr:(r.filter p)=[]
  ·split at h
   ·rw [hr] at h
    simp at h
    subst h
    exact ⟨[],r,rfl,by assumption,λx hx=>by simpa using List.filter_eq_nil_iff.1 hr x hx⟩
   ·rw [hr] at h;simp at h
  ·have h':(r.filter p).getLast? = some e:=by
    split at h
    ·cases hq:r.filter p with
     | nil=>exact absurd hq hr
     | cons z zs=>rw [hq] at h;simpa using h
    ·exact h
   obtain ⟨a,c,rfl,h1,h2⟩:=ih h'
   exact ⟨y::a,c,rfl,h1,h2⟩
theorem zvs {a b:ByteArray} (h:a.data.toList=b.data.toList):a=b:=by
 cases a;cases b;exact congrArg ByteArray.mk (Array.ext' h)
theorem zb3:∀ x:List UInt8,Op.bytesLess x x=false
 | []=>rfl
 | a::x=>by rw [Op.bytesLess,zb3 x];simp
theorem zgv:∀ {x y z:List UInt8},Op.bytesLess x y=true->Op.bytesLess y z=true->Op.bytesLess x z=true
 | [],_,[],_,h=>by cases ‹List UInt8› <;> simp [Op.bytesLess] at h
 | [],_,_::_,_,_=>rfl
 | _::_,[],_,h,_=>by simp [Op.bytesLess] at h
 | _::_,_::_,[],_,h=>by simp [Op.bytesLess] at h
 | a::x,b::y,c::z,h1,h2=>by
  simp only [Op.bytesLess,Bool.or_eq_true,decide_eq_true_eq,Bool.and_eq_true,beq_iff_eq] at h1 h2 ⊢
  rcases h1 with h1|⟨rfl,h1⟩
  ·rcases h2 with h2|⟨rfl,h2⟩
   ·exact .inl (UInt8.lt_trans h1 h2)
   ·exact .inl h1
  ·rcases h2 with h2|⟨rfl,h2⟩
   ·exact .inl h2
   ·exact .inr ⟨rfl,zgv h1 h2⟩
theorem zgu:∀ (x y:List UInt8),Op.bytesLess x y=true\/x=y\/Op.bytesLess y x=true
 | [],[]=>.inr (.inl rfl)
 | [],_::_=>.inl rfl
 | _::_,[]=>.inr (.inr rfl)
 | a::x,b::y=>by
  simp only [Op.bytesLess,Bool.or_eq_true,decide_eq_true_eq,Bool.and_eq_true,beq_iff_eq,List.cons.injEq]
  rcases Nat.lt_trichotomy a.toNat b.toNat with h|h|h
  ·exact .inl (.inl (UInt8.lt_iff_toNat_lt.2 h))
  ·have:=UInt8.toNat_inj.1 h
   subst this
   rcases zgu x y with h|rfl|h
   ·exact .inl (.inr ⟨rfl,h⟩)
   ·exact .inr (.inl ⟨rfl,rfl⟩)
   ·exact .inr (.inr (.inr ⟨rfl,h⟩))
  ·exact .inr (.inr (.inl (UInt8.lt_iff_toNat_lt.2 h)))
def ltS (a b:ByteArray):Bool:=Op.bytesLess (ByteArray.toList a) (ByteArray.toList b)
theorem z80 (a:ByteArray):ltS a a=false:=zb3 _
theorem z7m {a b c:ByteArray} (h1:ltS a b=true) (h2:ltS b c=true):ltS a c=true:=zgv h1 h2
theorem zjg (a b:ByteArray):ltS a b=true\/a=b\/ltS b a=true:=by
 rcases zgu (ByteArray.toList a) (ByteArray.toList b) with h|h|h
 ·exact .inl h
 ·exact .inr (.inl (zd0.1 h))
 ·exact .inr (.inr h)
theorem zwm {a b:ByteArray} (h:ltS a b=true):ltS b a=false:=by
 cases hb:ltS b a with
 | false=>rfl
 | true=>have:=z7m h hb;rw [z80] at this;cases this
structure FileA where
 name:ByteArray
 b:List UInt8
 kept:Nat
structure DiskA where
 room:Nat
 left:Int
 gone:Bool
 fs:List FileA
def used (fs:List FileA):Nat:=(fs.map λf=>f.b.length).sum
def DiskA.free (A:DiskA):Nat:=A.room-used A.fs
def okC (c:UInt8):Bool:=(97<=c.toNat && c.toNat<=122) || (48<=c.toNat && c.toNat<=57) || c.toNat == 46 || c.toNat == 45
def z5k (s:ByteArray):Bool:=s.data.toList.all okC && (1<=s.size && s.size<=24)
def z24 (fs:List FileA) (n:ByteArray):Bool:=fs.any λf=>decide (f.name=n)
def z34 (A:DiskA):DiskA:=if A.left>0 then { A with left:=A.left-1,gone:=decide (A.left-1=0) } else A
def z1y (n:ByteArray) (g:FileA->FileA) (f:FileA):FileA:=if f.name=n then g f else f
def z4h (x:FileA):List FileA->List FileA
 | []=>[x]
 | f::r=>if ltS x.name f.name then x::f::r else f::z4h x r
def z5v (n:ByteArray) (fs:List FileA):List FileA:=fs.filter λf=>!decide (f.name=n)
def z0a (A:DiskA) (n:ByteArray) (bs:List UInt8):Int × DiskA :=
 if A.gone then (9,A) else if z5k n=false then (2,A) else if bs.length>A.free\/(z24 A.fs n=false/\A.fs.length>=128) then (5,A) else
  (0,z34 { A with fs:=if z24 A.fs n then A.fs.map (z1y n λf=>{ f with b:=f.b++bs }) else z4h ⟨n,bs,0⟩ A.fs })
def zbs (ns:List ByteArray) (n:ByteArray):Bool:=ns.isEmpty || ns.any λm=>decide (m=n)
def z4d (ns:List ByteArray) (f:FileA):FileA:=if zbs ns f.name then { f with kept:=f.b.length } else f
def z20 (A:DiskA) (ns:List ByteArray):Int × DiskA :=
 if A.gone then (9,A) else if ns.all (z24 A.fs)=false then (3,A) else (0,z34 { A with fs:=A.fs.map (z4d ns) })
def zz7 (fs:List FileA) (n:ByteArray):Nat:=match fs.find? λf=>decide (f.name=n) with
 | some f=>f.b.length
 | none=>0
def cutA' (A:DiskA) (n:ByteArray) (k:Int):Int × DiskA :=
 if A.gone then (9,A) else if z24 A.fs n=false then (3,A) else if k<0\/k>zz7 A.fs n then (2,A) else
  (0,z34 { A with fs:=A.fs.map (z1y n λf=>{ f with b:=f.b.take k.toNat,kept:=min f.kept k.toNat }) })
def z27 (A:DiskA) (n:ByteArray):Int × DiskA :=
 if A.gone then (9,A) else if z24 A.fs n=false then (3,A) else (0,z34 { A with fs:=z5v n A.fs })
structure okA (A:DiskA):Prop where
 room:A.room<=4194304
 used:used A.fs<=4194304
 many:A.fs.length<=128
 left : -1<=A.left/\A.left<=9223372036854775807
 sorted:A.fs.Pairwise λa b=>ltS a.name b.name=true
 kept:∀ f ∈ A.fs,f.kept<=f.b.length
 names:∀ f ∈ A.fs,f.name.size<=24
theorem z23 (f:FileA) (fs:List FileA):used (f::fs)=f.b.length+used fs:=by simp [used]
theorem z44 {a b:List FileA} (h:a.Perm b):used a=used b:=(h.map _).sum_nat
theorem z8q:∀ {fs:List FileA} {f:FileA},f ∈ fs->f.b.length<=used fs
 | g::r,f,h=>by
  rw [z23]
  rcases List.mem_cons.1 h with rfl|h
  ·omega
  ·have:=z8q h;omega
theorem z3g {fs:List FileA} (h:fs.Pairwise λa b=>ltS a.name b.name=true):(fs.map (·.name)).Nodup:=by
 rw [List.Nodup,List.pairwise_map]
 exact h.imp λ{a b} hab e=>by rw [e,z80] at hab;cases hab
theorem z65 {fs:List FileA} {n:ByteArray}:z24 fs n=true↔∃ f ∈ fs,f.name=n:=by simp [z24]
theorem z67 {fs:List FileA} {n:ByteArray}:z24 fs n=false↔∀ f ∈ fs,f.name≠n:=by simp [z24]
instance:KeyT P T.a54 ekS:=zz2 (by kernel_rfl)
instance:MapT P T.a22 T.a54 (.pointer none):=⟨T.a29,by kernel_rfl,by kernel_rfl⟩
abbrev evF (b:Nat):Value:=.pointer (some ⟨b,0,none⟩)
structure FileM where
 at_:Nat
 x:Sl
 f:FileA
def z3y (t:FileM):HP:=HP.star (pt t.at_ (.cells #[t.x.v,.int .i64 t.f.kept] T.a9)) (slc T.a58 1 t.x (t.f.b.flatMap zi))
def dk (d:Nat) (A:DiskA):HP:=HP.ex λm:Nat=>HP.ex λFS:List FileM=>HP.and ((FS.map (·.f)).Perm A.fs/\okA A)
 (HP.star (pt d (.cells #[.int .i64 A.left,.bool A.gone,.int .i64 A.room,.int .i64 (used A.fs),.map (some m)] T.a8))
  (HP.star (z1e ekS evF m (FS.map λt=>(t.f.name,t.at_))) (HP.all (FS.map z3y))))
section
variable {w:World} {l r:List HP}
theorem Sat.all_nil (hs:Sat w l):Sat w (HP.all []::l) :=
 ⟨⟨λ_=>none,World.env' w⟩,World.ph w,⟨(λ_ _ h=>by cases h),rfl⟩,PH.sub_refl _,(λ_=>Or.inl rfl),trivial,hs⟩
theorem Sat.all_cons {a:HP} {L:List HP} (hs:Sat w (HP.all (a::L)::l)):Sat w (a::HP.all L::l):=by
 refine Sat.star (A:=a) (B:=HP.all L) (hs.imp λp h=>?_)
 obtain ⟨p1,p2,h1,h2,hd,hA,hl⟩:=h
 exact ⟨p1,p2,h1,h2,hd,hA,hl⟩
theorem Sat.all_put {a:HP} {L:List HP} (hs:Sat w (a::HP.all L::l)):Sat w (HP.all (a::L)::l):=by
 refine (Sat.star_mk (A:=a) (B:=HP.all L) hs).imp λp h=>?_
 obtain ⟨p1,p2,h1,h2,hd,hA,hl⟩:=h
 exact ⟨p1,p2,h1,h2,hd,hA,hl⟩
theorem Sat.all_perm {L L':List HP} (hp:L.Perm L') (hs:Sat w (HP.all L::l)):Sat w (HP.all L'::l):=hs.imp λp h=>zav hp h
theorem z2c {d:Nat} {A:DiskA} (hs:Sat w (dk d A::l)):∃ (m:Nat) (FS:List FileM),(FS.map FileM.f).Perm A.fs/\okA A /\
  Sat w (pt d (.cells #[.int .i64 A.left,.bool A.gone,.int .i64 A.room,.int .i64 (used A.fs),.map (some m)] T.a8)::z1e ekS evF m (FS.map λt=>(t.f.name,t.at_))::HP.all (FS.map z3y)::l):=by
 obtain ⟨m,hs⟩:=hs.ex
 obtain ⟨FS,hs⟩:=hs.ex
 obtain ⟨⟨h1,h2⟩,hs⟩:=hs.and
 have hs:=hs.star
 have hs:=(hs.pick [1]).star
 exact ⟨m,FS,h1,h2,hs.pick [2,0,0]⟩
theorem zq1 {d:Nat} {A:DiskA} {m:Nat} {FS:List FileM} (hp:(FS.map FileM.f).Perm A.fs) (hok:okA A)
  (hs:Sat w (pt d (.cells #[.int .i64 A.left,.bool A.gone,.int .i64 A.room,.int .i64 (used A.fs:Nat),.map (some m)] T.a8)::z1e ekS evF m (FS.map λt=>(t.f.name,t.at_))::HP.all (FS.map z3y)::l)):Sat w (dk d A::l):=by
 refine .ex_mk m (.ex_mk FS (.and_mk ⟨hp,hok⟩ (.star_mk ?_)))
 refine (Sat.star_mk (hs.pick [1,1])).pick [1]
theorem z2g {d:Nat} {A:DiskA} (m:Nat) {FS:List FileM} {r1 r2 r3 l':List HP} {u:Int} (hp:(FS.map FileM.f).Perm A.fs) (hok:okA A) (hs:Sat w l)
  [h1:FocB l d (.cells [.int .i64 A.left,.bool A.gone,.int .i64 A.room,.int .i64 u,.map (some m)].toArray T.a8) r1] [h2:FoM r1 m ekS evF (FS.map λt=>(t.f.name,t.at_)) r2] [h3:Foc r2 (HP.all (FS.map z3y)) r3] [h4:Sub r3 l']
  (hu:u=(used A.fs:Nat):=by rfl):Sat w (dk d A::l'):=by
 subst hu
 have h5:Sat w (dk d A::r3):=zq1 hp hok (hs.perm (h1.perm.trans (.cons _ (h2.perm.trans (.cons _ h3.perm)))))
 exact h5.sub
theorem z7j {FS:List FileM} {t:FileM} (hs:Sat w l) [h:Foc l (HP.all (FS.map z3y)) r] (ht:t ∈ FS):∃ FS',FS.Perm (t::FS') /\
  Sat w (pt t.at_ (.cells #[t.x.v,.int .i64 t.f.kept] T.a9)::slc T.a58 1 t.x (t.f.b.flatMap zi)::HP.all (FS'.map z3y)::r):=by
 obtain ⟨s,u,rfl⟩:=List.append_of_mem ht
 have hp:(s++t::u).Perm (t::(s++u)):=List.perm_middle
 exact ⟨s++u,hp,(((hs.perm h.perm).all_perm (hp.map z3y)).all_cons).star⟩
theorem z6q {FS:List FileM} (t:FileM) {r1 r2 r3:List HP} (hs:Sat w l) [h1:FocB l t.at_ (.cells [.slice t.x.a t.x.len t.x.cap,.int .i64 t.f.kept].toArray T.a9) r1] [h2:FocS r1 t.x T.a58 1 (t.f.b.flatMap zi) r2] [h3:Foc r2 (HP.all (FS.map z3y)) r3] :
  Sat w (HP.all ((t::FS).map z3y)::r3) :=
 Sat.all_put (Sat.star_mk (A:=pt t.at_ (.cells #[t.x.v,.int .i64 t.f.kept] T.a9)) (B:=slc T.a58 1 t.x (t.f.b.flatMap zi)) (hs.perm (h1.perm.trans (.cons _ (h2.perm.trans (.cons _ h3.perm))))))
end
section
variable {w:World} {l r:List HP} {d:Nat} {A:DiskA}
theorem zws (n:Nat) (hn:n<=4194304) (hs:Sat w l):Ret P F.a36 #[.int .i64 n] w λvs w'=>∃ d,vs=[.pointer (some ⟨d,0,none⟩),.int .i64 0]/\Sat w' (dk d ⟨n,-1,false,[]⟩::l) :=
 zu2 n <| by
  delta z08m A8 Ac Ad Ak Al As
  refine zu ?_
  refine zcn ekS evF hs λm w' hs=>?_
  refine zq hs λd w' hs=>?_
  refine ⟨rfl,d,rfl,?_⟩
  exact zq1 (FS:=[]) (.refl _) ⟨hn,by simp [used],by simp,by simp,by simp,by simp,by simp⟩ ((hs.all_nil).pick [1,1,0])
theorem zqs (c:UInt8):((!(decide ((c.toNat:Int)>=97) && decide ((c.toNat:Int)<=122)) && !(decide ((c.toNat:Int)>=48) && decide ((c.toNat:Int)<=57)) && (c.toNat:Int) != 46 && (c.toNat:Int) != 45)=true↔okC c=false):=by
 simp [okC];omega
theorem z06v (s:ByteArray) (hs:Sat w l):Ret P F.a35 #[.string s] w λvs w'=>vs=[.bool (z5k s)]/\Sat w' l :=
 zu1 s <| by
  delta z08l AK AR AT Ac Ad Ag Ak Ao Ap Ay Bd
  refine zh (λh=>?_) λh=>?_
  ·refine ⟨rfl,?_,hs⟩
   have:z5k s=false:=by simp [z5k];omega
   rw [this]
  refine zbq hs λx w' hs=>?_
  have hl:=hs.slen x
  have hsz:s.data.toList.length=s.size:=by simp
  refine zl (λ_ w'=>s.data.toList.all okC=true/\Sat w' l) ?_ ?_
  ·refine z03 (λn v w=>∃ i:Nat,v=((i:Int),())/\i<=s.data.toList.length/\s.data.toList.length-i=n/\(s.data.toList.take i).all okC=true/\Sat w (slc T.a58 1 x (s.data.toList.flatMap zi)::l)) s.data.toList.length ⟨0,rfl,by omega,rfl,rfl,hs⟩ ?_
   clear hs
   rintro n _ w ⟨i,rfl,hi,hn,hall,hs⟩
   refine zk ?_
   refine zh (λhc=>?_) λhc=>?_
   ·have hil:i<s.data.toList.length:=by omega
    refine z1z hs i hil ?_
    refine wp_lt (wp_lt (wp_lt ?_))
    have htk:(s.data.toList.take (i+1)).all okC=okC s.data.toList[i]:=by
     rw [List.take_add_one,List.getElem?_eq_getElem hil,List.all_append,hall];simp
    refine zdu (λh3=>?_) λh3=>?_
    ·have h3:=(zqs _).1 h3
     refine zo (zo ?_)
     refine ⟨rfl,?_,hs.tail⟩
     have:z5k s=false:=by
      have:s.data.toList.all okC=false:=by
       rw [<- List.take_append_drop (i+1) s.data.toList,List.all_append,htk,h3];rfl
      simp only [z5k,this,Bool.false_and]
     rw [this]
    ·have h3:okC s.data.toList[i]=true:=by
      cases hk:okC s.data.toList[i] with
      | true=>rfl
      | false=>have:=(zqs _).2 hk;rw [this] at h3;cases h3
     refine z1k (us':=[.int .i64 ((i+1:Nat):Int)]) (by (try simp (disch:=omega) only [w64]);first|rfl|(congr;omega)) ?_
     refine z0l (s.data.toList.length-(i+1)) ?_
     exact ⟨i+1,rfl,by omega,rfl,by rw [htk,h3],hs⟩
   ·refine zo (zf ⟨?_,hs.tail⟩)
    rwa [List.take_of_length_le (by omega)] at hall
  ·rintro _ w' ⟨hall,hs⟩
   refine zk ?_
   refine ⟨rfl,?_,hs⟩
   have:z5k s=true:=by simp only [z5k,hall,Bool.true_and,Bool.and_eq_true,decide_eq_true_eq];omega
   rw [this]
theorem z0ad [hf:Fo l dk d A r] (hs:Sat w l):Ret P F.a34 #[.pointer (some ⟨d,0,none⟩)] w λvs w'=>vs=[.int .i64 (if A.gone then 9 else 0)]/\Sat w' (dk d A::r) :=
 zu0 _ <| by
  delta z08k Aa Ad Ak Au Bz
  obtain ⟨m,FS,hp,hok,hs⟩:=z2c (hs.perm hf.perm)
  refine wp_lt (zu ?_ (by simp))
  (repeat (first|with_reducible (first|refine zk ?_|refine zj ?_|refine z0j ?_|refine z8 hs ?_|refine zg hs ?_|refine ze ?_|refine zv hs λ_ hs=>?_|refine zn hs λ_ _ hs=>?_|refine zq hs λ_ _ hs=>?_|refine z02 hs λ_ hs=>?_|refine zm hs λ_ hs=>?_)|(apply wp_must;(focus first|trivial|omega|assumption))|refine z1a ?_|refine wp_lt ?_))
  refine zh (λh=>?_) λh=>?_
  ·exact ⟨rfl,by rw [if_pos h],z2g m hp hok hs⟩
  ·exact ⟨rfl,by rw [if_neg h],z2g m hp hok hs⟩
theorem z05i {m:Nat} {n room u:Int} (hn:n<=9223372036854775807 /\ -1<=n) [hf:FocB l d (.cells #[.int .i64 n,.bool false,.int .i64 room,.int .i64 u,.map (some m)] T.a8) r] (hs:Sat w l) :
  Ret P F.a37 #[.pointer (some (Addr.add ⟨d,0,none⟩ 0))] w λvs w'=>vs=[] /\
   Sat w' (pt d (.cells #[.int .i64 (if n>0 then n-1 else n),.bool (if n>0 then decide (n-1=0) else false),.int .i64 room,.int .i64 u,.map (some m)] T.a8)::r) :=
 zu3 _ <| by
  delta z08n AK Aa Ab Ac Ad Ak An Ao
  have hs:=hs.focB d
  (repeat (first|with_reducible (first|refine zk ?_|refine zj ?_|refine z0j ?_|refine z8 hs ?_|refine zg hs ?_|refine ze ?_|refine zv hs λ_ hs=>?_|refine zn hs λ_ _ hs=>?_|refine zq hs λ_ _ hs=>?_|refine z02 hs λ_ hs=>?_|refine zm hs λ_ hs=>?_)|(apply wp_must;(focus first|trivial|omega|assumption))|refine z1a ?_|refine wp_lt ?_))
  refine zl (λ_ w'=>Sat w' (pt d (.cells #[.int .i64 (if n>0 then n-1 else n),.bool (if n>0 then decide (n-1=0) else false),.int .i64 room,.int .i64 u,.map (some m)] T.a8)::r)) ?_ ?_
  ·refine zh (λh=>?_) λh=>?_
   ·(repeat (first|with_reducible (first|refine zk ?_|refine zj ?_|refine z0j ?_|refine z8 hs ?_|refine zg hs ?_|refine ze ?_|refine zv hs λ_ hs=>?_|refine zn hs λ_ _ hs=>?_|refine zq hs λ_ _ hs=>?_|refine z02 hs λ_ hs=>?_|refine zm hs λ_ hs=>?_)|(apply wp_must;(focus first|trivial|omega|assumption))|refine z1a ?_|refine wp_lt ?_))
    refine zf ?_
    rw [if_pos h,if_pos h]
    rw [w64 (x:=n-1) (by omega) (by omega)] at hs
    exact hs
   ·refine zf ?_
    rw [if_neg h,if_neg h];exact hs
  ·rintro _ w' hs
   refine zk ?_
   exact ⟨rfl,rfl,hs⟩
theorem zyg (A:DiskA) (h:A.gone=false):z34 A=⟨A.room,if A.left>0 then A.left-1 else A.left,if A.left>0 then decide (A.left-1=0) else false,A.fs⟩:=by
 unfold z34
 split
 ·rfl
 ·rw [<- h]
theorem z06i [hf:Fo l dk d A r] (hs:Sat w l):Ret P F.a25 #[.pointer (some ⟨d,0,none⟩)] w λvs w'=>vs=[.int .i64 (A.free:Nat)]/\Sat w' (dk d A::r) :=
 zts _ <| by
  delta z08c Aa Ab Ac Ad Ae Ai Aj Ak Ao
  obtain ⟨m,FS,hp,hok,hs⟩:=z2c (hs.perm hf.perm)
  refine zu ?_ (by simp)
  have h1:=hok.room
  have h2:=hok.used
  refine zv hs λw' hs=>?_
  refine zj ?_
  refine z8 hs ?_
  refine zj ?_
  refine z8 hs ?_
  refine z86 (y:=(A.free:Nat)) ?_ ?_
  ·have e:IntKind.wrap .i64 ((A.room:Int)-(used A.fs:Nat))=(A.room:Int)-(used A.fs:Nat):=z00n
   rw [e]
   unfold DiskA.free
   split <;> omega
  exact ze ⟨rfl,rfl,z2g m hp hok hs⟩
theorem z06k [hf:Fo l dk d A r] (hs:Sat w l):Ret P F.a26 #[.pointer (some ⟨d,0,none⟩)] w λvs w'=>vs=[.bool A.gone]/\Sat w' (dk d A::r) :=
 ztt _ <| by
  delta z08d AF Ad Ay By
  obtain ⟨m,FS,hp,hok,hs⟩:=z2c (hs.perm hf.perm)
  (repeat (first|with_reducible (first|refine zk ?_|refine zj ?_|refine z0j ?_|refine z8 hs ?_|refine zg hs ?_|refine ze ?_|refine zv hs λ_ hs=>?_|refine zn hs λ_ _ hs=>?_|refine zq hs λ_ _ hs=>?_|refine z02 hs λ_ hs=>?_|refine zm hs λ_ hs=>?_)|(apply wp_must;(focus first|trivial|omega|assumption))|refine z1a ?_|refine wp_lt ?_))
  exact ⟨rfl,by simp,z2g m hp hok hs⟩
end
theorem zak {fs:List FileA} {n:ByteArray} (hs:(fs.map (·.name)).Nodup) {f:FileA} (hf:f ∈ fs) (hn:f.name=n):fs.find? (λf=>decide (f.name=n))=some f:=by
 subst hn
 induction fs with
 | nil=>cases hf
 | cons g r ih =>
  rw [List.map_cons,List.nodup_cons] at hs
  rcases List.mem_cons.1 hf with rfl|hf
  ·rw [List.find?_cons_of_pos (by simp)]
  ·rw [List.find?_cons_of_neg (by simp;exact λe=>hs.1 (List.mem_map.2 ⟨f,hf,e.symm⟩))]
   exact ih hs.2 hf
theorem zd7 {fs:List FileA} {n:ByteArray} (h:∀ f ∈ fs,f.name≠n):fs.find? (λf=>decide (f.name=n))=none:=List.find?_eq_none.2 λf hf=>by simpa using h f hf
theorem z04m {fs:List FileA} {n:ByteArray} (hs:(fs.map (·.name)).Nodup) {f:FileA} (hf:f ∈ fs) (hn:f.name=n):zz7 fs n=f.b.length:=by rw [zz7,zak hs hf hn]
section
variable {w:World} {l r:List HP} {d:Nat} {A:DiskA}
theorem z9j {FS:List FileM} (hp:(FS.map FileM.f).Perm A.fs) {n:ByteArray} {b:Nat} (h:(n,b) ∈ FS.map λt=>(t.f.name,t.at_)):∃ t ∈ FS,t.at_=b/\t.f.name=n/\t.f ∈ A.fs:=by
 obtain ⟨t,ht,he⟩:=List.mem_map.1 h
 simp only [Prod.mk.injEq] at he
 exact ⟨t,ht,he.2,he.1,hp.mem_iff.1 (List.mem_map.2 ⟨t,ht,rfl⟩)⟩
theorem z81 {FS:List FileM} (hp:(FS.map FileM.f).Perm A.fs) {n:ByteArray} (h:∀ b,(n,b) ∉ FS.map λt=>(t.f.name,t.at_)):∀ f ∈ A.fs,f.name≠n:=λf hf e=>by
 obtain ⟨t,ht,rfl⟩:=List.mem_map.1 (hp.mem_iff.2 hf)
 exact h t.at_ (List.mem_map.2 ⟨t,ht,by rw [e]⟩)
theorem apart {FS FS':List FileM} {t:FileM} (hp:(FS.map FileM.f).Perm A.fs) (hok:okA A) (h:FS.Perm (t::FS')) :
  A.fs.Perm (t.f::FS'.map FileM.f)/\(∀ f ∈ FS'.map FileM.f,f.name≠t.f.name)/\t.f ∈ A.fs:=by
 have h1:A.fs.Perm (t.f::FS'.map FileM.f):=hp.symm.trans (h.map FileM.f)
 have h2:((t.f::FS'.map FileM.f).map (·.name)).Nodup:=(h1.map _).nodup_iff.1 (z3g hok.sorted)
 rw [List.map_cons,List.nodup_cons] at h2
 exact ⟨h1,λf hf e=>h2.1 (List.mem_map.2 ⟨f,hf,e⟩),h1.mem_iff.2 (List.mem_cons_self ..)⟩
theorem z03p (x:Sl) (bs:List UInt8) (hb:bs.length<=100000000) [hf:FocR l x 1 (bs.flatMap zi)] (hs:Sat w l):Ret P F.a0 #[x.v] w λvs w'=>∃ z:Sl,vs=[z.v]/\Sat w' (slc T.a58 1 z (bs.flatMap zi)::l) :=
 zkb x <| by
  delta zf0 Ac Ad Ap
  refine zh (λh=>?_) λh=>?_
  ·have:bs=[]:=by
    obtain ⟨hlen,h0|⟨b,off,arr,T',fr,ha,-⟩⟩:=hf.rd w hs
    ·rw [z2x,h0] at hlen;exact List.length_eq_zero_iff.1 (by omega)
    ·rw [h] at ha;cases ha
   subst this
   exact ⟨rfl,⟨none,0,0⟩,rfl,hs.slc_nil⟩
  ·refine z9v hs ([]:List UInt8) (enc:=zi) bs0 λb w' hs=>?_
   refine wp_app' hs (xs:=([]:List UInt8)) (ys:=bs) (enc:=zi) (λz w' hs=>?_) (by simp;omega)
   exact ⟨rfl,z,rfl,hs⟩
theorem zh5 (n:ByteArray) [hf:Fo l dk d A r] (hs:Sat w l):Ret P F.a28 #[.pointer (some ⟨d,0,none⟩),.string n] w λvs w' =>
  (∃ f ∈ A.fs,f.name=n/\∃ z:Sl,vs=[z.v,.int .i64 0]/\Sat w' (slc T.a58 1 z (f.b.flatMap zi)::dk d A::r))\/((∀ f ∈ A.fs,f.name≠n)/\vs=[.slice none 0 0,.int .i64 3]/\Sat w' (dk d A::r)) :=
 ztu _ n <| by
  delta z08e Aa Ac Ad Af Ak Aq B2 B3
  obtain ⟨m,FS,hp,hok,hs⟩:=z2c (hs.perm hf.perm)
  refine zu ?_ (by simp)
  (repeat (first|with_reducible (first|refine zk ?_|refine zj ?_|refine z0j ?_|refine z8 hs ?_|refine zg hs ?_|refine ze ?_|refine zv hs λ_ hs=>?_|refine zn hs λ_ _ hs=>?_|refine zq hs λ_ _ hs=>?_|refine z02 hs λ_ hs=>?_|refine zm hs λ_ hs=>?_)|(apply wp_must;(focus first|trivial|omega|assumption))|refine z1a ?_|refine wp_lt ?_))
  refine z7t hs (λb hb=>?_) λhb=>?_
  ·obtain ⟨t,ht,rfl,rfl,hA⟩:=z9j hp hb
   obtain ⟨FS',hpm,hs⟩:=z7j hs ht
   refine zu ?_ (by simp)
   (repeat (first|with_reducible (first|refine zk ?_|refine zj ?_|refine z0j ?_|refine z8 hs ?_|refine zg hs ?_|refine ze ?_|refine zv hs λ_ hs=>?_|refine zn hs λ_ _ hs=>?_|refine zq hs λ_ _ hs=>?_|refine z02 hs λ_ hs=>?_|refine zm hs λ_ hs=>?_)|(apply wp_must;(focus first|trivial|omega|assumption))|refine z1a ?_|refine wp_lt ?_))
   have hlen:t.f.b.length<=4194304:=Nat.le_trans (z8q hA) hok.used
   refine zb (z03p t.x t.f.b (by omega) hs) λ_ _ hs=>?_
   obtain ⟨z,rfl,hs⟩:=hs
   refine zd ?_
   (repeat (first|with_reducible (first|refine zk ?_|refine zj ?_|refine z0j ?_|refine z8 hs ?_|refine zg hs ?_|refine ze ?_|refine zv hs λ_ hs=>?_|refine zn hs λ_ _ hs=>?_|refine zq hs λ_ _ hs=>?_|refine z02 hs λ_ hs=>?_|refine zm hs λ_ hs=>?_)|(apply wp_must;(focus first|trivial|omega|assumption))|refine z1a ?_|refine wp_lt ?_))
   refine ⟨rfl,.inl ⟨t.f,hA,rfl,z,rfl,?_⟩⟩
   have hs:=(z6q t hs).all_perm (hpm.symm.map z3y)
   have hs:=z2g (d:=d) (A:=A) (l':=slc T.a58 1 z (t.f.b.flatMap zi)::r) m hp hok hs
   exact hs.sub
  ·refine z0p ?_ (by rfl)
   exact ⟨rfl,.inr ⟨z81 hp hb,rfl,z2g m hp hok hs⟩⟩
def z9n (fs:List FileA) (n:ByteArray):Nat × Nat:=match fs.find? λf=>decide (f.name=n) with
 | some f=>(f.b.length,f.kept)
 | none=>(0,0)
theorem z0ak (n:ByteArray) [hf:Fo l dk d A r] (hs:Sat w l):Ret P F.a32 #[.pointer (some ⟨d,0,none⟩),.string n] w λvs w' =>
  ∃ x:Sl,vs=[.agg [x.v,.int .i64 (z9n A.fs n).2].toArray]/\x.len=(z9n A.fs n).1/\Sat w' (dk d A::r) :=
 zty _ n <| by
  delta z08i AF AI AJ Aa Ac Ad Ak B2 B3 B4 B5 B6
  obtain ⟨m,FS,hp,hok,hs⟩:=z2c (hs.perm hf.perm)
  (repeat (first|with_reducible (first|refine zk ?_|refine zj ?_|refine z0j ?_|refine z8 hs ?_|refine zg hs ?_|refine ze ?_|refine zv hs λ_ hs=>?_|refine zn hs λ_ _ hs=>?_|refine zq hs λ_ _ hs=>?_|refine z02 hs λ_ hs=>?_|refine zm hs λ_ hs=>?_)|(apply wp_must;(focus first|trivial|omega|assumption))|refine z1a ?_|refine wp_lt ?_))
  refine z7t hs (λb hb=>?_) λhb=>?_
  ·obtain ⟨t,ht,rfl,rfl,hA⟩:=z9j hp hb
   refine zu ?_ (by simp)
   (repeat (first|with_reducible (first|refine zk ?_|refine zj ?_|refine z0j ?_|refine z8 hs ?_|refine zg hs ?_|refine ze ?_|refine zv hs λ_ hs=>?_|refine zn hs λ_ _ hs=>?_|refine zq hs λ_ _ hs=>?_|refine z02 hs λ_ hs=>?_|refine zm hs λ_ hs=>?_)|(apply wp_must;(focus first|trivial|omega|assumption))|refine z1a ?_|refine wp_lt ?_))
   refine z7t hs (λb2 hb2=>?_) λhb2=>absurd hb (hb2 _)
   obtain ⟨t2,ht2,rfl,hn2,hA2⟩:=z9j hp hb2
   obtain ⟨FS',hpm,hs⟩:=z7j hs ht2
   (repeat (first|with_reducible (first|refine zk ?_|refine zj ?_|refine z0j ?_|refine z8 hs ?_|refine zg hs ?_|refine ze ?_|refine zv hs λ_ hs=>?_|refine zn hs λ_ _ hs=>?_|refine zq hs λ_ _ hs=>?_|refine z02 hs λ_ hs=>?_|refine zm hs λ_ hs=>?_)|(apply wp_must;(focus first|trivial|omega|assumption))|refine z1a ?_|refine wp_lt ?_))
   refine ⟨rfl,t2.x,?_,?_,?_⟩
   ·rw [z9n,zak (z3g hok.sorted) hA2 hn2]
   ·rw [z9n,zak (z3g hok.sorted) hA2 hn2];exact hs.slen t2.x
   ·have hs:=(z6q t2 hs).all_perm (hpm.symm.map z3y)
    exact z2g m hp hok hs
  ·refine z0p ?_ (by simp)
   (repeat (first|with_reducible (first|refine zk ?_|refine zj ?_|refine z0j ?_|refine z8 hs ?_|refine zg hs ?_|refine ze ?_|refine zv hs λ_ hs=>?_|refine zn hs λ_ _ hs=>?_|refine zq hs λ_ _ hs=>?_|refine z02 hs λ_ hs=>?_|refine zm hs λ_ hs=>?_)|(apply wp_must;(focus first|trivial|omega|assumption))|refine z1a ?_|refine wp_lt ?_))
   refine ⟨rfl,⟨none,0,0⟩,?_,?_,z2g m hp hok hs⟩
   ·rw [z9n,zd7 (z81 hp hb)];rfl
   ·rw [z9n,zd7 (z81 hp hb)]
theorem z07f (n:ByteArray) [hf:Fo l dk d A r] (hs:Sat w l):Ret P F.a30 #[.pointer (some ⟨d,0,none⟩),.string n] w λvs w'=>vs=[.int .i64 (z9n A.fs n).1]/\Sat w' (dk d A::r) :=
 ztw _ n <| by
  delta z08g Ad Ag Ai Ak Al
  refine zb (z0ak n hs) λ_ _ hs=>?_
  obtain ⟨x,rfl,hx,hs⟩:=hs
  refine zd ?_
  rw [hx]
  (repeat (first|with_reducible (first|refine zk ?_|refine zj ?_|refine z0j ?_|refine z8 hs ?_|refine zg hs ?_|refine ze ?_|refine zv hs λ_ hs=>?_|refine zn hs λ_ _ hs=>?_|refine zq hs λ_ _ hs=>?_|refine z02 hs λ_ hs=>?_|refine zm hs λ_ hs=>?_)|(apply wp_must;(focus first|trivial|omega|assumption))|refine z1a ?_|refine wp_lt ?_))
  exact ⟨rfl,rfl,hs⟩
end
theorem zs3 {fs fs':List FileA} {f:FileA} (hp:fs.Perm (f::fs')) (hne:∀ g ∈ fs',g.name≠f.name):(z5v f.name fs).Perm fs':=by
 have h1:=hp.filter λg=>!decide (g.name=f.name)
 rw [List.filter_cons_of_neg (by simp)] at h1
 have h2:fs'.filter (λg=>!decide (g.name=f.name))=fs':=List.filter_eq_self.2 λg hg=>by simpa using hne g hg
 rw [h2] at h1
 exact h1
theorem zs2 {fs:List FileA} {n:ByteArray} (h:∀ f ∈ fs,f.name≠n):z5v n fs=fs:=List.filter_eq_self.2 λg hg=>by simpa using h g hg
theorem z78 {fs fs':List FileA} {f:FileA} {g:FileA->FileA} (hp:fs.Perm (f::fs')) (hne:∀ g ∈ fs',g.name≠f.name):(fs.map (z1y f.name g)).Perm (g f::fs'):=by
 have h1:=hp.map (z1y f.name g)
 rw [List.map_cons] at h1
 have h2:fs'.map (z1y f.name g)=fs':=by
  conv=>rhs;rw [<- List.map_id fs']
  exact List.map_congr_left λx hx=>by rw [z1y,if_neg (hne x hx)];rfl
 rw [h2,z1y,if_pos rfl] at h1
 exact h1
theorem z9b {n:ByteArray} {g:FileA->FileA} (hg:∀ f,(g f).name=f.name) (f:FileA):(z1y n g f).name=f.name:=by
 unfold z1y;split
 ·exact hg f
 ·rfl
theorem zce {fs:List FileA} {g:FileA->FileA} (hg:∀ f,(g f).name=f.name) (h:fs.Pairwise λa b=>ltS a.name b.name=true):(fs.map g).Pairwise λa b=>ltS a.name b.name=true:=by
 rw [List.pairwise_map]
 exact h.imp λ{a b} hab=>by rw [hg,hg];exact hab
theorem zmu {fs:List FileA} (n:ByteArray) (h:fs.Pairwise λa b=>ltS a.name b.name=true):(z5v n fs).Pairwise λa b=>ltS a.name b.name=true:=h.filter _
theorem zji {fs:List FileA} {n:ByteArray} {f:FileA}:f ∈ z5v n fs↔f ∈ fs/\f.name≠n:=by simp [z5v,List.mem_filter]
theorem z6a (x:FileA):∀ fs:List FileA,(z4h x fs).Perm (x::fs)
 | []=>.refl _
 | f::r=>by
  rw [z4h];split
  ·exact .refl _
  ·exact (List.Perm.cons f (z6a x r)).trans (.swap _ _ _)
theorem zfs {x f:FileA} {fs:List FileA}:f ∈ z4h x fs↔f=x\/f ∈ fs:=by rw [(z6a x fs).mem_iff,List.mem_cons]
theorem zeu (x:FileA):∀ {fs:List FileA},(∀ f ∈ fs,f.name≠x.name)->(fs.Pairwise λa b=>ltS a.name b.name=true)->(z4h x fs).Pairwise λa b=>ltS a.name b.name=true
 | [],_,_=>by simp [z4h]
 | f::r,hne,h=>by
  rw [List.pairwise_cons] at h
  rw [z4h];split
  ·rename_i hlt
   rw [List.pairwise_cons]
   refine ⟨λg hg=>?_,by rw [List.pairwise_cons];exact h⟩
   rcases List.mem_cons.1 hg with rfl|hg
   ·exact hlt
   ·exact z7m hlt (h.1 g hg)
  ·rename_i hlt
   rw [List.pairwise_cons]
   refine ⟨λg hg=>?_,zeu x (λg hg=>hne g (List.mem_cons_of_mem _ hg)) h.2⟩
   rcases zfs.1 hg with rfl|hg
   ·rcases zjg f.name g.name with h1|h1|h1
    ·exact h1
    ·exact absurd h1 (hne f (List.mem_cons_self ..))
    ·exact absurd h1 hlt
   ·exact h.1 g hg
theorem zfv {A:DiskA} (h:okA A):okA (z34 A):=by
 unfold z34
 split
 ·exact ⟨h.room,h.used,h.many,by have:=h.left;show -1<=A.left-1/\A.left-1<=_;omega,h.sorted,h.kept,h.names⟩
 ·exact h
theorem z8a (A:DiskA):(z34 A).fs=A.fs:=by unfold z34;split <;> rfl
theorem zgf (A:DiskA):(z34 A).room=A.room:=by unfold z34;split <;> rfl
section
variable {w:World} {l r:List HP} {d:Nat} {A:DiskA}
theorem zcf {m:Nat} {FS:List FileM} {fs':List FileA} {room left u:Int} {r1 r2 r3 l':List HP} (hg:A.gone=false) (hok':okA { A with fs:=fs' }) (hp:(FS.map FileM.f).Perm fs') (hs:Sat w l)
  [h1:FocB l d (.cells [.int .i64 left,.bool false,.int .i64 room,.int .i64 u,.map (some m)].toArray T.a8) r1] [h2:FoM r1 m ekS evF (FS.map λt=>(t.f.name,t.at_)) r2] [h3:Foc r2 (HP.all (FS.map z3y)) r3] [h4:Sub r3 l']
  (hu:u=(used fs':Nat):=by rfl) (hl:left=A.left:=by rfl) (hr:room=A.room:=by rfl) :
  Ret P F.a37 #[.pointer (some (Addr.add ⟨d,0,none⟩ 0))] w λvs w'=>vs=[]/\Sat w' (dk d (z34 { A with fs:=fs' })::l'):=by
 subst hu hl hr
 have hl:=hok'.left
 refine Calls.mono (z05i (d:=d) (m:=m) ⟨hl.2,hl.1⟩ hs) λe w' ⟨vs,he,hv,hs⟩=>⟨vs,he,hv,?_⟩
 have hd:=zyg { A with fs:=fs' } hg
 rw [hd]
 have hok2:=zfv hok'
 rw [hd] at hok2
 exact z2g m (A:=⟨A.room,if A.left>0 then A.left-1 else A.left,if A.left>0 then decide (A.left-1=0) else false,fs'⟩) hp hok2 hs
theorem z06a (n:ByteArray) (m:Nat) {FS:List FileM} (hp:(FS.map FileM.f).Perm A.fs) (hok:okA A)
  (hs:Sat w (pt d (.cells #[.int .i64 A.left,.bool A.gone,.int .i64 A.room,.int .i64 (used A.fs),.map (some m)] T.a8)::z1e ekS evF m (FS.map λt=>(t.f.name,t.at_))::HP.all (FS.map z3y)::r)) :
  Ret P F.a33 #[.pointer (some ⟨d,0,none⟩),.string n] w λvs w'=>vs=[]/\∃ FS':List FileM,(FS'.map FileM.f).Perm (z5v n A.fs)/\(∀ t ∈ FS',t ∈ FS/\t.f.name≠n)/\(∀ t ∈ FS,t.f.name≠n->t ∈ FS') /\
   Sat w' (pt d (.cells #[.int .i64 A.left,.bool A.gone,.int .i64 A.room,.int .i64 (used (z5v n A.fs)),.map (some m)] T.a8)::z1e ekS evF m (FS'.map λt=>(t.f.name,t.at_))::HP.all (FS'.map z3y)::r) :=
 ztz _ n <| by
  delta z08j AK Aa Ab Ac Ad Ae Af Ag Aj Ak An Ao B2 B3 B7
  (repeat (first|with_reducible (first|refine zk ?_|refine zj ?_|refine z0j ?_|refine z8 hs ?_|refine zg hs ?_|refine ze ?_|refine zv hs λ_ hs=>?_|refine zn hs λ_ _ hs=>?_|refine zq hs λ_ _ hs=>?_|refine z02 hs λ_ hs=>?_|refine zm hs λ_ hs=>?_)|(apply wp_must;(focus first|trivial|omega|assumption))|refine z1a ?_|refine wp_lt ?_))
  refine z7t hs (λb hb=>?_) λhb=>?_
  ·obtain ⟨t,ht,rfl,rfl,hA⟩:=z9j hp hb
   obtain ⟨FS',hpm,hs⟩:=z7j hs ht
   obtain ⟨h1,h2,-⟩:=apart hp hok hpm
   have hd:=zs3 h1 h2
   have hu:used A.fs=t.f.b.length+used (z5v t.f.name A.fs):=by rw [z44 h1,z23,z44 hd]
   have h3:=hok.used
   refine z4m ?_
   refine z0p ?_ (by simp)
   refine zv hs λw' hs=>?_
   refine zj ?_
   refine z8 hs ?_
   refine zj ?_
   refine z8 hs ?_
   rw [hs.slen t.x (xs:=t.f.b) (enc:=zi),z00n (y:=(used (z5v t.f.name A.fs):Nat))]
   (repeat (first|with_reducible (first|refine zk ?_|refine zj ?_|refine z0j ?_|refine z8 hs ?_|refine zg hs ?_|refine ze ?_|refine zv hs λ_ hs=>?_|refine zn hs λ_ _ hs=>?_|refine zq hs λ_ _ hs=>?_|refine z02 hs λ_ hs=>?_|refine zm hs λ_ hs=>?_)|(apply wp_must;(focus first|trivial|omega|assumption))|refine z1a ?_|refine wp_lt ?_))
   refine zrn hs (FS'.map λt=>(t.f.name,t.at_)) (.inl ⟨t.at_,hpm.map _⟩) λw' hs=>?_
   refine z59 ?_
   refine ⟨rfl,rfl,FS',hd.symm,λt' ht'=>⟨hpm.mem_iff.2 (List.mem_cons_of_mem _ ht'),h2 _ (List.mem_map.2 ⟨t',ht',rfl⟩)⟩,λt' ht' hne=>?_,hs.sub⟩
   rcases List.mem_cons.1 (hpm.mem_iff.1 ht') with rfl|h
   ·exact absurd rfl hne
   ·exact h
  ·have hn:=z81 hp hb
   refine z4m ?_
   refine zu ?_ (by simp)
   refine z59 ?_
   rw [zs2 hn]
   exact ⟨rfl,rfl,FS,hp,λt ht=>⟨ht,hn _ (hp.mem_iff.1 (List.mem_map.2 ⟨t,ht,rfl⟩))⟩,λt ht _=>ht,hs⟩
theorem zzg {A:DiskA} (h:okA A) (n:ByteArray):okA { A with fs:=z5v n A.fs }:=by
 have hle:used (z5v n A.fs)<=used A.fs:=by
  have:∀ fs:List FileA,used (z5v n fs)<=used fs:=λfs=>by
   induction fs with
   | nil=>exact Nat.le_refl _
   | cons f r ih =>
    unfold z5v at *
    rw [z23,List.filter_cons]
    split
    ·rw [z23];omega
    ·omega
  exact this _
 exact ⟨h.room,Nat.le_trans hle h.used,Nat.le_trans (List.length_filter_le _ _) h.many,h.left,zmu n h.sorted,λf hf=>h.kept f (zji.1 hf).1,λf hf=>h.names f (zji.1 hf).1⟩
theorem zgy {k:Prog} {Q:List Value->World->Prop} (hs:Sat w l) [hf:Fo l dk d A r] (h1:A.gone=true->∀ w',Sat w' (dk d A::r)->Q [.int .i64 9] w') (h0:A.gone=false->∀ w',Sat w' (dk d A::r)->k.wp P tt w' λe vs w=>e=0/\Q vs w) :
  (Prog.call F.a34 [.pointer (some ⟨d,0,none⟩)] (sI .i64) (u1 λ(n0:Int)=>.lt (.int .i64) (n0) λ(n1:Int)=>.ite (n1 != 0) (.lt (.int .i64) (n1) λ(n2:Int)=>.done 0 [.int .i64 n2]) k)).wp P tt w λe vs w=>e=0/\Q vs w:=by
 refine zb (z0ad hs) λ_ _ hs=>?_
 obtain ⟨rfl,hs⟩:=hs
 refine zd ?_
 refine wp_lt ?_
 by_cases hg:A.gone=true
 ·rw [if_pos hg]
  refine z0p ?_ (by decide)
  exact wp_lt ⟨rfl,h1 hg _ hs⟩
 ·rw [if_neg hg]
  refine zu ?_ (by decide)
  exact h0 (by simpa using hg) _ hs
theorem zcc (n:ByteArray) [hf:Fo l dk d A r] (hs:Sat w l):Ret P F.a29 #[.pointer (some ⟨d,0,none⟩),.string n] w λvs w'=>vs=[.int .i64 (z27 A n).1]/\Sat w' (dk d (z27 A n).2::r) :=
 ztv _ n <| by
  delta z08f AC AP Aa Ac Ad Ai Ak Al Am B2 B3;unfold z27
  refine zgy hs (λhg w' hs=>?_) λhg w' hs=>?_
  ·rw [if_pos hg];exact ⟨rfl,hs⟩
  rw [if_neg (by rw [hg];simp)]
  obtain ⟨m,FS,hp,hok,hs⟩:=z2c hs
  (repeat (first|with_reducible (first|refine zk ?_|refine zj ?_|refine z0j ?_|refine z8 hs ?_|refine zg hs ?_|refine ze ?_|refine zv hs λ_ hs=>?_|refine zn hs λ_ _ hs=>?_|refine zq hs λ_ _ hs=>?_|refine z02 hs λ_ hs=>?_|refine zm hs λ_ hs=>?_)|(apply wp_must;(focus first|trivial|omega|assumption))|refine z1a ?_|refine wp_lt ?_))
  refine z7t hs (λb hb=>?_) λhb=>?_
  ·obtain ⟨t,ht,rfl,rfl,hA⟩:=z9j hp hb
   refine zu ?_ (by simp)
   rw [if_neg (by rw [z65.2 ⟨_,hA,rfl⟩];simp)]
   refine zb (z06a t.f.name m hp hok hs) λ_ _ hs=>?_
   obtain ⟨rfl,FS',hp',-,-,hs⟩:=hs
   refine zd ?_
   (repeat (first|with_reducible (first|refine zk ?_|refine zj ?_|refine z0j ?_|refine z8 hs ?_|refine zg hs ?_|refine ze ?_|refine zv hs λ_ hs=>?_|refine zn hs λ_ _ hs=>?_|refine zq hs λ_ _ hs=>?_|refine z02 hs λ_ hs=>?_|refine zm hs λ_ hs=>?_)|(apply wp_must;(focus first|trivial|omega|assumption))|refine z1a ?_|refine wp_lt ?_))
   rw [hg] at hs
   refine zb (zcf (l':=r) hg (zzg hok t.f.name) hp' hs) λ_ _ hs=>?_
   obtain ⟨rfl,hs⟩:=hs
   refine zd ?_
   (repeat (first|with_reducible (first|refine zk ?_|refine zj ?_|refine z0j ?_|refine z8 hs ?_|refine zg hs ?_|refine ze ?_|refine zv hs λ_ hs=>?_|refine zn hs λ_ _ hs=>?_|refine zq hs λ_ _ hs=>?_|refine z02 hs λ_ hs=>?_|refine zm hs λ_ hs=>?_)|(apply wp_must;(focus first|trivial|omega|assumption))|refine z1a ?_|refine wp_lt ?_))
   exact ⟨rfl,rfl,hs⟩
  ·refine z0p ?_ (by rfl)
   rw [if_pos (z67.2 (z81 hp hb))]
   exact ⟨rfl,rfl,z2g m hp hok hs⟩
theorem zcj {fs fs':List FileA} {f:FileA} {g:FileA->FileA} (hp:fs.Perm (f::fs')) (hne:∀ g ∈ fs',g.name≠f.name):used (fs.map (z1y f.name g))=(g f).b.length+used fs':=by
 rw [z44 (z78 hp hne),z23]
theorem z0a5 (n:ByteArray) (k:Int) [hf:Fo l dk d A r] (hs:Sat w l):Ret P F.a24 #[.pointer (some ⟨d,0,none⟩),.string n,.int .i64 k] w λvs w'=>vs=[.int .i64 (cutA' A n k).1]/\Sat w' (dk d (cutA' A n k).2::r) :=
 ztr _ n k <| by
  delta z08b AC AF AG AP Aa Ab Ac Ad Ae Af Ag Ai Aj Ak Al Am An Ao Au B2 B3;unfold cutA'
  refine zgy hs (λhg w' hs=>?_) λhg w' hs=>?_
  ·rw [if_pos hg];exact ⟨rfl,hs⟩
  rw [if_neg (by rw [hg];simp)]
  obtain ⟨m,FS,hp,hok,hs⟩:=z2c hs
  (repeat (first|with_reducible (first|refine zk ?_|refine zj ?_|refine z0j ?_|refine z8 hs ?_|refine zg hs ?_|refine ze ?_|refine zv hs λ_ hs=>?_|refine zn hs λ_ _ hs=>?_|refine zq hs λ_ _ hs=>?_|refine z02 hs λ_ hs=>?_|refine zm hs λ_ hs=>?_)|(apply wp_must;(focus first|trivial|omega|assumption))|refine z1a ?_|refine wp_lt ?_))
  refine z7t hs (λb hb=>?_) λhb=>?_
  ·obtain ⟨t,ht,rfl,rfl,hA⟩:=z9j hp hb
   refine wp_lt ?_
   refine zu ?_ (by simp)
   rw [if_neg (by rw [z65.2 ⟨_,hA,rfl⟩];simp),z04m (z3g hok.sorted) hA rfl]
   obtain ⟨FS',hpm,hs⟩:=z7j hs ht
   obtain ⟨h1,h2,-⟩:=apart hp hok hpm
   have hlen:=hs.slen t.x (xs:=t.f.b) (enc:=zi)
   have hcap:=(hs.focS t.x).slc_cap
   (repeat (first|with_reducible (first|refine zk ?_|refine zj ?_|refine z0j ?_|refine z8 hs ?_|refine zg hs ?_|refine ze ?_|refine zv hs λ_ hs=>?_|refine zn hs λ_ _ hs=>?_|refine zq hs λ_ _ hs=>?_|refine z02 hs λ_ hs=>?_|refine zm hs λ_ hs=>?_)|(apply wp_must;(focus first|trivial|omega|assumption))|refine z1a ?_|refine wp_lt ?_))
   refine zh (λh=>?_) λh=>?_
   ·rw [if_pos (by omega)]
    have hs:=(z6q t hs).all_perm (hpm.symm.map z3y)
    exact ⟨rfl,rfl,z2g m hp hok hs⟩
   ·rw [if_neg (by omega)]
    obtain ⟨k,rfl⟩:∃ j:Nat,k=j:=⟨k.toNat,by omega⟩
    rw [Int.toNat_natCast]
    have hk:k<=t.f.b.length:=by omega
    have hu0:used A.fs=t.f.b.length+used (FS'.map FileM.f):=by rw [z44 h1,z23]
    have hu1:=zcj (g:=λf=>{ f with b:=f.b.take k,kept:=min f.kept k }) h1 h2
    have hu2:used (A.fs.map (z1y t.f.name λf=>{ f with b:=f.b.take k,kept:=min f.kept k }))=k+used (FS'.map FileM.f):=by
     rw [hu1];show (t.f.b.take k).length+_=_;rw [List.length_take,Nat.min_eq_left hk]
    have hou:=hok.used
    refine zv hs λw' hs=>?_
    refine zj ?_
    refine z8 hs ?_
    refine zj ?_
    refine z8 hs ?_
    have e1:IntKind.wrap .i64 ((used A.fs:Nat)-IntKind.wrap .i64 (((t.x.len:Nat):Int)-(k:Int)))=(used (A.fs.map (z1y t.f.name λf=>{ f with b:=f.b.take k,kept:=min f.kept k })):Nat):=by
     rw [w64 (x:=((t.x.len:Nat):Int)-(k:Int)) (by omega) (by omega),w64 (by omega) (by omega)];omega
    rw [e1]
    (repeat (first|with_reducible (first|refine zk ?_|refine zj ?_|refine z0j ?_|refine z8 hs ?_|refine zg hs ?_|refine ze ?_|refine zv hs λ_ hs=>?_|refine zn hs λ_ _ hs=>?_|refine zq hs λ_ _ hs=>?_|refine z02 hs λ_ hs=>?_|refine zm hs λ_ hs=>?_)|(apply wp_must;(focus first|trivial|omega|assumption))|refine z1a ?_|refine wp_lt ?_))
    have hs:=(hs.focS t.x).slc_cut (n:=k) (by omega)
    rw [z7q] at hs
    have e2:(if (k:Int)<((t.f.kept:Nat):Int) then (k:Int) else ((t.f.kept:Nat):Int))=((min t.f.kept k:Nat):Int):=by split <;> omega
    rw [e2] at hs
    have hs:=z6q (FS:=FS') ⟨t.at_,⟨t.x.a,k,k⟩,⟨t.f.name,t.f.b.take k,min t.f.kept k⟩⟩ hs
    have hp':(((⟨t.at_,⟨t.x.a,k,k⟩,⟨t.f.name,t.f.b.take k,min t.f.kept k⟩⟩:FileM)::FS').map FileM.f).Perm (A.fs.map (z1y t.f.name λf=>{ f with b:=f.b.take k,kept:=min f.kept k })) :=
     (z78 (g:=λf=>{ f with b:=f.b.take k,kept:=min f.kept k }) h1 h2).symm
    have hok':okA { A with fs:=A.fs.map (z1y t.f.name λf=>{ f with b:=f.b.take k,kept:=min f.kept k }) }:=by
     refine ⟨hok.room,by show used (A.fs.map _)<=_;omega,by show (A.fs.map _).length<=_;rw [List.length_map];exact hok.many,hok.left,zce (z9b λ_=>rfl) hok.sorted,λf hf=>?_,λf hf=>?_⟩
     rotate_left
     ·obtain ⟨g,hg,rfl⟩:=List.mem_map.1 hf
      rw [z9b (by intro _;rfl)];exact hok.names g hg
     obtain ⟨g,hg,rfl⟩:=List.mem_map.1 hf
     have:=hok.kept g hg
     unfold z1y
     split
     ·show min g.kept k<=(g.b.take k).length;rw [List.length_take];omega
     ·exact this
    have hs:Sat _ (z1e ekS evF m (((⟨t.at_,⟨t.x.a,k,k⟩,⟨t.f.name,t.f.b.take k,min t.f.kept k⟩⟩:FileM)::FS').map λt=>(t.f.name,t.at_))::_):=(hs.pick [2]).mapPerm (hpm.map λt=>(t.f.name,t.at_))
    rw [hg] at hs
    refine zb (zcf (l':=r) hg hok' hp' hs) λ_ _ hs=>?_
    obtain ⟨rfl,hs⟩:=hs
    refine zd ?_
    (repeat (first|with_reducible (first|refine zk ?_|refine zj ?_|refine z0j ?_|refine z8 hs ?_|refine zg hs ?_|refine ze ?_|refine zv hs λ_ hs=>?_|refine zn hs λ_ _ hs=>?_|refine zq hs λ_ _ hs=>?_|refine z02 hs λ_ hs=>?_|refine zm hs λ_ hs=>?_)|(apply wp_must;(focus first|trivial|omega|assumption))|refine z1a ?_|refine wp_lt ?_))
    exact ⟨rfl,rfl,hs⟩
  ·refine wp_lt ?_
   refine z0p ?_ (by rfl)
   rw [if_pos (z67.2 (z81 hp hb))]
   exact ⟨rfl,rfl,z2g m hp hok hs⟩
end
section
variable {w:World} {l r:List HP} {d:Nat} {A:DiskA}
theorem zsl {s:ByteArray} (h:z5k s=true):s.size<=24:=by
 simp only [z5k,Bool.and_eq_true,decide_eq_true_eq] at h;exact h.2.2
end
def z68 (n:Nat):UInt8:=if n<10 then UInt8.ofNat (48+n) else UInt8.ofNat (87+n)
def z69 (c:UInt8):Option Nat:=if 48<=c.toNat/\c.toNat<=57 then some (c.toNat-48) else if 97<=c.toNat/\c.toNat<=102 then some (c.toNat-87) else none
theorem z06m {n:Nat} (h:n<16):z69 (z68 n)=some n:=by
 unfold z68 z69
 split
 ·rw [UInt8.toNat_ofNat',if_pos (by omega)]
  congr 1;omega
 ·rw [UInt8.toNat_ofNat',if_neg (by omega),if_pos (by omega)]
  congr 1;omega
theorem z06l {c:UInt8} {n:Nat} (h:z69 c=some n):z68 n=c/\n<16:=by
 unfold z69 at h
 unfold z68
 split at h
 ·simp only [Option.some.injEq] at h
  subst h
  rw [if_pos (by omega)]
  exact ⟨UInt8.toNat_inj.1 (by rw [UInt8.toNat_ofNat'];omega),by omega⟩
 ·split at h
  ·simp only [Option.some.injEq] at h
   subst h
   rw [if_neg (by omega)]
   exact ⟨UInt8.toNat_inj.1 (by rw [UInt8.toNat_ofNat'];omega),by omega⟩
  ·cases h
def z30:Nat->Nat->List UInt8
 | 0,_=>[]
 | k+1,n=>z30 k (n / 16)++[z68 (n % 16)]
def z40 (x:Nat):List UInt8->Option Nat
 | []=>some x
 | c::r=>match z69 c with
  | none=>none
  | some d=>z40 (16*x+d) r
theorem z7e:∀ (k n:Nat),(z30 k n).length=k
 | 0,_=>rfl
 | k+1,n=>by unfold z30;rw [List.length_append,z7e k];rfl
theorem zfm (x:Nat) (a b:List UInt8):z40 x (a++b)=(z40 x a).bind λy=>z40 y b:=by
 induction a generalizing x with
 | nil=>rfl
 | cons c r ih =>
  rw [List.cons_append]
  cases hd:z69 c with
  | none=>simp only [z40,hd];rfl
  | some d=>simp only [z40,hd];exact ih _
theorem zgq:∀ (k n x:Nat),z40 x (z30 k n)=some (x*16 ^ k+n % 16 ^ k)
 | 0,n,x=>by simp [z30,z40,Nat.mod_one]
 | k+1,n,x=>by
  unfold z30
  rw [zfm,zgq k]
  show z40 _ [z68 (n % 16)]=_
  unfold z40
  rw [z06m (Nat.mod_lt _ (by omega))]
  show some _=some _
  congr 1
  have h1:n % 16 ^ (k+1)=16*(n / 16 % 16 ^ k)+n % 16:=by
   rw [Nat.pow_succ,Nat.mul_comm (16 ^ k) 16,Nat.mod_mul];omega
  have h2:x*16 ^ (k+1)=16*(x*16 ^ k):=by rw [Nat.pow_succ];ac_rfl
  omega
def z06:List UInt8:=[46,108,111,103]
def z8g:List UInt8:=[46,110,101,119]
def zw (pre:ByteArray) (base:Int) (x:List UInt8):ByteArray:=⟨(bl pre++(45::(z30 11 base.toNat++x))).toArray⟩
def z1f (pre n:ByteArray) (x:List UInt8):Option Nat :=
 if (bl n).length=(bl pre).length+1+11+x.length/\(bl n).drop ((bl pre).length+1+11)=x then z40 0 (((bl n).drop ((bl pre).length+1)).take 11) else none
def z1m (pre:ByteArray):ByteArray:=⟨(bl pre++[45]).toArray⟩
def zlz (pre n:ByteArray) (x:List UInt8):Option Nat:=if (bl (z1m pre)).isPrefixOf (bl n) then z1f pre n x else none
theorem z88 (pre:ByteArray) (base:Int) (x:List UInt8):bl (zw pre base x)=bl pre++(45::(z30 11 base.toNat++x)):=zgc _
theorem zpy (pre:ByteArray):bl (z1m pre)=bl pre++[45]:=zgc _
theorem z6f (pre:ByteArray) (base:Int) (x:List UInt8):(bl (z1m pre)).isPrefixOf (bl (zw pre base x))=true:=by
 rw [z88,zpy,List.isPrefixOf_iff_prefix]
 exact ⟨z30 11 base.toNat++x,by simp⟩
theorem zeg (pre:ByteArray) {base:Int} (h:0<=base/\base<17592186044416) (x:List UInt8):z1f pre (zw pre base x) x=some base.toNat:=by
 have hl:=z7e 11 base.toNat
 have e1:(bl (zw pre base x)).drop ((bl pre).length+1)=z30 11 base.toNat++x:=by
  rw [z88,<- List.drop_drop,List.drop_left]
  rfl
 have e2:(bl (zw pre base x)).drop ((bl pre).length+1+11)=x:=by
  rw [<- List.drop_drop,e1]
  exact List.drop_left' hl
 unfold z1f
 rw [e1,e2,if_pos ⟨by rw [z88];simp [hl];omega,rfl⟩,List.take_left' hl,zgq,Nat.zero_mul,Nat.zero_add,Nat.mod_eq_of_lt (by omega)]
theorem ziu {pre n:ByteArray} {x y:List UInt8} {v:Nat} (h:z1f pre n x=some v) (hxy:x≠y):z1f pre n y=none:=by
 unfold z1f at h ⊢
 split at h
 ·rename_i h1
  rw [if_neg]
  rintro ⟨h2,h3⟩
  exact hxy (h1.2.symm.trans h3)
 ·cases h
theorem zc6 (pre:ByteArray) {base:Int} (h:0<=base/\base<17592186044416) (x:List UInt8):zlz pre (zw pre base x) x=some base.toNat:=by
 unfold zlz
 rw [if_pos (z6f _ _ _),zeg pre h]
theorem zz9 {pre n:ByteArray} {x y:List UInt8} {v:Nat} (h:zlz pre n x=some v) (hxy:x≠y):zlz pre n y=none:=by
 unfold zlz at h ⊢
 split at h
 ·rename_i hp;rw [if_pos hp];exact ziu h hxy
 ·cases h
theorem zwr {pre:ByteArray} {a b:Int} {x y:List UInt8} (ha:0<=a/\a<17592186044416) (hb:0<=b/\b<17592186044416) (h:zw pre a x=zw pre b y):a=b/\x=y:=by
 have h1:=zc6 pre ha x
 rw [h] at h1
 by_cases hxy:x=y
 ·subst hxy
  rw [zc6 pre hb] at h1
  simp only [Option.some.injEq] at h1
  exact ⟨by omega,rfl⟩
 ·rw [zz9 (zc6 pre hb y) (λe=>hxy e.symm)] at h1
  cases h1
def z5n (pre:ByteArray):Bool:=decide (1<=pre.size/\pre.size<=8) && (bl pre).all λc=>(97<=c.toNat && c.toNat<=122) || (48<=c.toNat && c.toNat<=57)
theorem zfr:∀ (a x y:List UInt8),Op.bytesLess (a++x) (a++y)=Op.bytesLess x y
 | [],x,y=>rfl
 | c::a,x,y=>by
  rw [List.cons_append,List.cons_append,Op.bytesLess,zfr a]
  simp
theorem zdi:∀ (a b x y:List UInt8),a.length=b.length->(Op.bytesLess (a++x) (b++y)=true↔Op.bytesLess a b=true\/(a=b/\Op.bytesLess x y=true))
 | [],[],x,y,_=>by simp [Op.bytesLess]
 | c::a,d::b,x,y,h=>by
  rw [List.cons_append,List.cons_append,Op.bytesLess,Op.bytesLess]
  have ih:=zdi a b x y (by simpa using h)
  simp only [Bool.or_eq_true,decide_eq_true_eq,Bool.and_eq_true,beq_iff_eq,List.cons.injEq]
  rw [ih]
  constructor
  ·rintro (h|⟨h,h2|⟨h2,h3⟩⟩)
   ·exact .inl (.inl h)
   ·exact .inl (.inr ⟨h,h2⟩)
   ·exact .inr ⟨⟨h,h2⟩,h3⟩
  ·rintro ((h|⟨h,h2⟩)|⟨⟨h,h2⟩,h3⟩)
   ·exact .inl h
   ·exact .inr ⟨h,.inl h2⟩
   ·exact .inr ⟨h,.inr ⟨h2,h3⟩⟩
theorem z04b {a b:Nat} (ha:a<16) (hb:b<16):(z68 a<z68 b)↔a<b:=by
 rw [UInt8.lt_iff_toNat_lt]
 unfold z68
 split <;> split <;> rw [UInt8.toNat_ofNat',UInt8.toNat_ofNat'] <;> omega
theorem zjc:∀ (k a b:Nat),a<16 ^ k->b<16 ^ k->(Op.bytesLess (z30 k a) (z30 k b)=true↔a<b)
 | 0,a,b,ha,hb=>by simp at ha hb;subst ha hb;simp [z30,Op.bytesLess]
 | k+1,a,b,ha,hb=>by
  have h1:a / 16<16 ^ k:=by rw [Nat.pow_succ] at ha;omega
  have h2:b / 16<16 ^ k:=by rw [Nat.pow_succ] at hb;omega
  unfold z30
  rw [zdi _ _ _ _ (by rw [z7e,z7e]),zjc k _ _ h1 h2]
  have h3:Op.bytesLess [z68 (a % 16)] [z68 (b % 16)]=true↔a % 16<b % 16:=by
   simp only [Op.bytesLess,Bool.or_eq_true,decide_eq_true_eq,Bool.and_eq_true,Bool.false_eq_true,and_false,or_false]
   exact z04b (Nat.mod_lt _ (by omega)) (Nat.mod_lt _ (by omega))
  rw [h3]
  have h4:z30 k (a / 16)=z30 k (b / 16)->a / 16=b / 16:=λh=>by
   have e1:=zgq k (a / 16) 0
   rw [h,zgq] at e1
   simp only [Option.some.injEq] at e1
   rw [Nat.mod_eq_of_lt h1,Nat.mod_eq_of_lt h2] at e1
   omega
  constructor
  ·rintro (h|⟨h,h5⟩)
   ·omega
   ·have:=h4 h;omega
  ·intro h
   by_cases h5:a / 16=b / 16
   ·right;exact ⟨by rw [h5],by omega⟩
   ·left;omega
theorem zwn (pre:ByteArray) {a b:Int} (ha:0<=a/\a<17592186044416) (hb:0<=b/\b<17592186044416) (x:List UInt8):ltS (zw pre a x) (zw pre b x)=true↔a<b:=by
 have e:∀ s:ByteArray,ByteArray.toList s=bl s:=λs=>by rw [ByteArray.toList_eq]
 unfold ltS
 rw [e,e,z88,z88,zfr]
 have e2:∀ y z:List UInt8,Op.bytesLess (45::y) (45::z)=Op.bytesLess y z:=zfr [45]
 rw [e2,zdi _ _ _ _ (by rw [z7e,z7e]),zjc 11 _ _ (by omega) (by omega),zb3]
 constructor
 ·rintro (h|⟨-,h⟩)
  ·omega
  ·cases h
 ·intro h;left;omega
end Go.Dec
namespace Go.Proofs.YtogdpmpccmpekaaGreat
open Go.RowKit Go.Maps Go.Sort Go.Proofs
set_option maxRecDepth 100000 in
set_option maxHeartbeats 1000000 in
theorem zz3 {H:Type} (F:Fence) (n:Nat) (h10:F.fn 226) (hro:F.round=none) (hn:1<=n) (l Bm b nn:Nat) (D0:DataW H) {R:Value->Option (DataW H × List MemPlace)} (J Jx:List (List UInt8)->World->Prop)
  (hY:∀ pre x W,J pre W->pre.length<Maps.size D0->YieldAt F (n-1) Tryz.prog l #[encStr x] W λe W'=>(e=.returned (.bool true)/\J (pre++[x]) W'/\KeepsWalks W W')\/(e=.returned (.bool false)/\Jx (pre++[x]) W'))
  (W:World) (hJ:AbidesFrom W.heap.size J) (hm:W.cell? ⟨Bm,0,none⟩=some (.map (some b))) (hown:W.ownsMap Tryz.prog 9 R b nn D0) (h0:J [] W) :
  CallsIn F n Tryz.prog 226 #[.func (.yield l) #[] #[],.pointer (some ⟨Bm,0,none⟩)] W λe W'=>(∃ v,e=.returned v)/\((∃ ss:List (List UInt8),ss.Perm (strKeys D0)/\J ss W')\/(∃ pre,True/\Jx pre W')):=by
 refine callsIn_of_wp Tryz.func226 rfl h10 ?_ hro
 simp only [Tryz.ntmps226,List.size_toArray,List.length_cons,List.length_nil,Nat.reduceAdd,Nat.reduceSub,Array.replicate_succ,Array.replicate_zero,List.push_toArray,List.append_toArray,List.nil_append,List.cons_append]
 gi_wp2_with (first
  | (gi_at_range;refine wpListIn_range_own _ rfl _ 133 rfl 9 208 (string_keyed Tryz.underlying9) Tryz.underlying133 _ b nn _ rfl hown ?_;intro w0 hrg0 hg0 hs0)
  | gi_in)
 go_frame
 gi_loopw [3] (λ_ wr=>∃ (left:Lit->Bool) (cnt:Nat) (ss:List (List UInt8)),wr.ranges Tryz.prog 9 R b W.heap.size nn D0 left cnt/\ss.length+cnt<=Maps.size D0/\Collected D0 left ss/\J ss wr)
  (λ_ wr=>wr.rangeLeft b W.heap.size)
 case atStart =>
  exact ⟨_,_,[],hrg0,by simp,Collected.start D0,hJ [] W w0 none h0 hg0 (λr e=>by cases e)⟩
 case round =>
  obtain ⟨left,cnt,ss,hrg,hcs,hC,hJs⟩:=hrel
  gi_wp2_with (first
   | (gi_at_next;refine wpListIn_next_ranges _ rfl _ rfl 9 (string_keyed Tryz.underlying9) R encStr id (λkey kl hk=>by obtain ⟨x,hx,_⟩:=Maps.keyOf_str Tryz.underlying9 hk;exact ⟨x,hx⟩) (λv _ _=>⟨v,rfl⟩) b W.heap.size nn _ _ _ rfl hrg ?_ ?_)
   | gi_in)
  ·intro hc0 hl0
   gi_wp2
   go_end0
   exact ⟨⟨_,rfl⟩,.inl ⟨ss,hC.perm hown (string_keyed Tryz.underlying9) Tryz.underlying9 hl0,hJs⟩⟩
  ·intro x c kl yd yp w2 cnt2 hkey hlk hv hat hrg2 hlt hg2 hs2 hen
   obtain ⟨x',ex,rfl,_⟩:=Maps.keyOf_str Tryz.underlying9 hkey
   obtain rfl:x=x':=encStr_inj ex
   have hJ2:J ss w2:=hJ ss wr w2 (some W.heap.size) hJs hg2 (λr e=>by cases e;exact ⟨Nat.le_refl _,hrg.iter_walk⟩)
   obtain ⟨fn,tmps,assign,body,hy,hR⟩:=hY ss x w2 hJ2 (by omega)
   clear hs2
   gi_wp2
   refine hR.mono ?_
   rintro e W3 (⟨rfl,hJ3,hk3⟩|⟨rfl,hJx3⟩)
   ·gi_wp2
    have hrg3:=hrg2.of_walks hk3
    go_roundw
    case rel=>exact ⟨_,cnt2,ss++[x],hrg3,by simp;omega,hC.step hlk hat,hJ3⟩
    case measure=>rw [hrg3.left_eq,hrg.left_eq];exact hlt
   ·gi_wp2
    refine bodyPost_ret (results_none rfl _ _ _) rfl ?_
    exact ⟨⟨_,rfl⟩,.inr ⟨ss++[x],trivial,hJx3⟩⟩
theorem z04j (mb:Option Nat) (w:World) :
  Calls Tryz.prog 158 #[.map mb] w λe w'=>e=.returned (.func (.func 226) #[] #[.pointer (some ⟨w.heap.size,0,none⟩)])/\w'=w.alloc (.cells #[.map mb] 133):=by
 refine Calls.mono (Dec.zf63_calls mb (w:=w) (R:=λvs w'=>vs=[.func (.func 226) #[] #[.pointer (some ⟨w.heap.size,0,none⟩)]]/\w'=w.alloc (.cells #[.map mb] 133)) ?_) λe w' ⟨vs,he,hv,hw⟩=>⟨by rw [he,hv];rfl,hw⟩
 unfold Dec.zf63
 refine ⟨(⟨w.heap.size,0,none⟩,()),w.alloc (.cells #[.map mb] 133),?_,trivial,?_⟩
 ·simp only [Instr.box,Sem.run_bind,Dec.run_newVar,Result.andThen_ok,Sem.run_pure];rfl
 ·exact ⟨rfl,rfl,rfl⟩
def preF (p s:ByteArray):Bool:=p.toList.isPrefixOf s.toList
theorem z077 (s p:ByteArray):(decide (((ByteArray.size s:Nat):Int)>=((ByteArray.size p:Nat):Int)) && ByteArray.toList (ByteArray.extract s 0 (Int.toNat (((ByteArray.size p:Nat):Int)))) == ByteArray.toList p)=preF p s:=by
 unfold preF
 rw [Int.toNat_natCast,ByteArray.toList_eq,ByteArray.toList_eq,ByteArray.toList_eq]
 have e1:(ByteArray.extract s 0 p.size).data.toList=s.data.toList.take p.size:=by simp [ByteArray.data_extract]
 have e2:p.size=p.data.toList.length:=by simp
 rw [e1,Bool.eq_iff_iff,Bool.and_eq_true,decide_eq_true_eq,beq_iff_eq,List.isPrefixOf_iff_prefix]
 constructor
 ·rintro ⟨-,h⟩
  rw [<- h];exact List.take_prefix _ _
 ·intro h
  have hl:=h.length_le
  refine ⟨?_,?_⟩
  ·have:s.size=s.data.toList.length:=by simp
   omega
  ·rw [e2];exact (List.prefix_iff_eq_take.1 h).symm
theorem zzx (s p:ByteArray) (w:World):Calls Tryz.prog 159 #[.string s,.string p] w λe w'=>e=.returned (.bool (preF p s))/\w'=w:=by
 refine Calls.mono (Dec.zf155_calls s p (w:=w) (R:=λvs w'=>vs=[.bool (preF p s)]/\w'=w) ?_) λe w' ⟨vs,he,hv,hw⟩=>⟨by rw [he,hv];rfl,hw⟩
 unfold Dec.zf155
 refine Dec.wp_callS (preF p s,()) (Dec.zf50_calls s p (R:=λvs w'=>vs=[.bool (preF p s)]/\w'=w) ?_) rfl λw' hw=>⟨trivial,?_⟩
 ·unfold Dec.zf50
  refine Dec.wp_must (λh=>?_) (Dec.wp_lt ⟨rfl,by rw [z077],rfl⟩)
  have h:=of_decide_eq_true h
  omega
 ·exact Dec.wp_lt ⟨rfl,rfl,hw⟩
end Go.Proofs.YtogdpmpccmpekaaGreat
namespace Go.Proofs.YtogdpmpccmpekaaGreat
open Go.RowKit Go.Maps Go.Sort Go.Proofs Go.Shelf
attribute [local go_sem] Oper.semAt_some
def z5b (p:ByteArray) (ss:List (List UInt8)):List (List UInt8):=ss.filter λx=>preF p ⟨x.toArray⟩
theorem z051 (p:ByteArray) (pre:List (List UInt8)) {x:List UInt8} (h:preF p ⟨x.toArray⟩=true):z5b p (pre++[x])=z5b p pre++[x]:=by simp [z5b,h]
theorem zzt (p:ByteArray) (pre:List (List UInt8)) {x:List UInt8} (h:¬ preF p ⟨x.toArray⟩=true):z5b p (pre++[x])=z5b p pre:=by simp [z5b,h]
theorem z0a9:(Tryz.prog.info? 9).map (λi=>(i.zero,i.size,i.bytes))=some (some (.string ByteArray.empty),1,16):=by kernel_rfl
set_option maxRecDepth 100000 in
set_option maxHeartbeats 2000000 in
theorem zzc      {H : Type} (n : Nat) (hn : 3 ≤ n) (d b nn : Nat) (p : ByteArray) (w : World) (D0 : DataW H) {R : Value → Option (DataW H × List MemPlace)} (hown : w.ownsMap Tryz.prog 9 R b nn D0) (hd : d < w.heap.size)
    (hc : w.cell? ⟨d, 4, none⟩ = some (.map (some b))) (hmax : Maps.size D0 ≤ 1000) (fin : Value → World → Prop)
    (hsort : ∀ (D : Nat) (ss : List (List UInt8)) (v : Value) (W : World), w.heap.size + 2 ≤ D → ss.Perm (strKeys D0) → Boxed W (w.heap.size + 1) 77 v → W.ownsRow (w.heap.size + 1) 9 1 v (z5b  p ss).length ((z5b  p ss).map encStr) → Below w.heap.size w W →
      W.heap[D]? = some (.deferred (some [])) → CallsIn Fence.wide (n - 1) Tryz.prog 160 #[v] W fun e W' => e = .returned (.tuple #[]) ∧ W'.cell? ⟨w.heap.size + 1, 0, none⟩ = some v ∧ W'.heap[D]? = some (.deferred (some [])) ∧ fin v (W'.putObj D (.deferred none))) :
    CallsIn Fence.wide n Tryz.prog 107 #[.pointer (some ⟨d, 0, none⟩), .string p] w fun e W' => ∃ v, e = .returned v ∧ fin v W' := by
  have h1 : 1 ≤ n := by omega
  obtain ⟨i0, hi, hz0, hz1, hz2⟩ := info_parts z0a9 
  have hbl := hown.lt
  have hc2 : ((w.alloc (.cells #[.string p] 9)).alloc (.cells #[.slice none 0 0] 77)).cell? ⟨d, 4, none⟩ = some (.map (some b)) := by
    rw [World.cell?_alloc_past _ _ _ (by simp; omega), World.cell?_alloc_past _ _ _ hd]; exact hc
  refine callsIn_of_wp_marks Tryz.func107 rfl trivial ?_ rfl
  simp only [Tryz.ntmps107, List.size_toArray, List.length_cons, List.length_nil, Nat.reduceAdd, Nat.reduceSub, Array.replicate_succ, Array.replicate_zero, List.push_toArray, List.append_toArray, List.nil_append, List.cons_append]
  gi_wp2_with (refine ⟨trivial, ?_⟩; gi_at_call 158; refine (callsIn_wide.2 (z04j    _ _)).mono ?_; rintro e w' ⟨rfl, rfl⟩)
  have bP := Boxed.new w 9 (.string p)
  have bO := Boxed.new (w.alloc (.cells #[.string p] 9)) 77 (.slice none 0 0)
  have bM := Boxed.new ((w.alloc (.cells #[.string p] 9)).alloc (.cells #[.slice none 0 0] 77)) 133 (.map (some b))
  rw [World.size_alloc] at bO bM
  rw [World.size_alloc] at bM
  have hB0 : Below w.heap.size w (((w.alloc (.cells #[.string p] 9)).alloc (.cells #[.slice none 0 0] 77)).alloc (.cells #[.map (some b)] 133)) := (((Below.refl _ w).alloc (Nat.le_refl _) _).alloc (by simp) _).alloc (by simp; omega) _
  have hown0 : (((w.alloc (.cells #[.string p] 9)).alloc (.cells #[.slice none 0 0] 77)).alloc (.cells #[.map (some b)] 133)).ownsMap Tryz.prog 9 R b nn D0 := by
    obtain ⟨es, clock, hb, Ft, hs, hD⟩ := hown
    exact ⟨es, clock, (hB0.block b hbl).trans hb, Ft, hs, hD⟩
  have hseq : SeqStops Fence.wide (n - 1) Tryz.prog 226 #[.pointer (some ⟨w.heap.size + 1 + 1, 0, none⟩)] encStr (fun ss => ss.Perm (strKeys D0)) (fun _ => True) (Maps.size D0) (((w.alloc (.cells #[.string p] 9)).alloc (.cells #[.slice none 0 0] 77)).alloc (.cells #[.map (some b)] 133)) := fun l J Jx W hW hJ hJx hY h0 => by
    have hown' : W.ownsMap Tryz.prog 9 R b nn D0 := by
      obtain ⟨es, clock, hb, Ft, hs, hD⟩ := hown0
      exact ⟨es, clock, (hW.block b (by simp; omega)).trans hb, Ft, hs, hD⟩
    exact zz3      Fence.wide (n - 1) trivial rfl (by omega) l (w.heap.size + 1 + 1) b nn D0 J Jx hY W hJ ((hW.cell (p := ⟨w.heap.size + 1 + 1, 0, none⟩) (by simp)).trans bM.cell) hown' h0
  refine wpIn_rangeFunc_ownG rfl h1 (gf := 226) (lb := #[.pointer (some ⟨w.heap.size + 1 + 1, 0, none⟩)]) rfl trivial (enters_of Tryz.func226 (by kernel_rfl) rfl)
    (encs := fun x => #[encStr x]) (Kp := KeepsWalks) (S := fun ss => ss.Perm (strKeys D0)) (Sp := fun _ => True) (N := Maps.size D0) hseq walksK_t (fun W l o o' _ h _ hw => KeepsWalks.putObj _ h hw) (Below.refl _ _) (fun _ => rfl)
    (fun pre W => ((∃ v, Boxed W (w.heap.size + 1) 77 v ∧ W.ownsRow (w.heap.size + 1) 9 1 v (z5b  p pre).length ((z5b  p pre).map encStr) ∧ True) ∧ Boxed W w.heap.size 9 (.string p)) ∧ Below w.heap.size w W)
    (fun _ _ _ => False)
    (OwnFrom.and (OwnFrom.and (Own.from (holdsRow_own (w.heap.size + 1) (w.heap.size + 1) 77 9 1 (fun pre => (z5b  p pre).length) (fun pre => (z5b  p pre).map encStr) (fun _ _ => True)) _) (Own.from (boxed_own w.heap.size 9 (fun _ => .string p)) _)) (ownFrom_below (Nat.le_refl _) (by simp; omega)))
    (fun _ _ _ _ _ hs _ _ => hs)
    ⟨⟨⟨_, bO.alloc _, World.ownsRow_nil _ _ _ _, trivial⟩, (bP.alloc _).alloc _⟩, hB0⟩
    (fun x => { tmps := #[Value.pointer (some { block := d, off := 0 }), Value.string p, undef,
                Value.pointer (some { block := w.heap.size, off := 0 }), Value.slice none 0 0,
                Value.pointer (some { block := w.heap.size + 1, off := 0 }), encStr x,
                Value.pointer (some { block := d, off := 0 }), Value.bool false,
                Value.pointer (some { block := d, off := 0 }), Value.pointer (some { block := d, off := 0 }),
                Value.pointer (some { block := d, off := 4 }), Value.map (some b), .func (.func 226) #[] #[.pointer (some ⟨w.heap.size + 1 + 1, 0, none⟩)], encStr x, undef, undef, undef, undef, undef,
                undef, undef, undef, undef, undef], defers := [] }) ?assign ?body ?done ?stop
  case assign =>
    intro l x W K hK
    gi_wp2
    exact hK
  case body =>
    rintro l pre x W ⟨⟨⟨v, hv, hrow, -⟩, hbp⟩, hB⟩ hlt
    have hcv := hv.cell
    have hcp := hbp.cell
    have hpl : (z5b  p pre).length ≤ pre.length := List.length_filter_le _ _
    have hml : 1000 ≤ maxLen := by decide
    have hvl := hv.lt
    gi_wp2_with (first
      | (refine ⟨trivial, fun _ => by omega, ?_⟩; gi_at_call 159; refine (CallsIn.inRound l (callsIn_wide.2 (zzx      ⟨x.toArray⟩ p W))).mono ?_; rintro e w' ⟨rfl, he⟩; have he := he.symm; subst he)
      | (gi_at_builtin; refine wpListIn_append_own _ rfl _ _ 77 rfl (w.heap.size + 1) 9 i0 (.string ByteArray.empty) 1 16 Tryz.underlying77 hi hz0 hz1 hz2 rfl (by decide) _ _ _ rfl (hrow.alloc _) ⟨W.heap.size, 0, none⟩ 1 1 [encStr x] rfl rfl (cell_one_new _ _ _) (by simp [Value.oneCell', encStr]) (by omega) (by omega) (by simp; omega) ?_; intro v' w1 hown' hgrow _; obtain ⟨g', cap', rfl⟩ := ownsRow_succ hown'; obtain ⟨hv1, hv2, hr2, hk2, hb2⟩ := hv.appended (by decide) hrow (by omega) (by omega) hown' hgrow; have hc1 := hv1.cell; have hf1 := hv1.frozen))
    · have hx : preF p ⟨x.toArray⟩ = true := by assumption
      exact ⟨hk2.from _, hk2.walks, ⟨⟨⟨_, hv2, by rw [z051    p pre hx]; simpa using hr2, trivial⟩, (hb2.block w.heap.size (by omega)).trans hbp⟩, hB.trans (hb2.mono (by omega))⟩⟩
    · have hx : ¬ preF p ⟨x.toArray⟩ = true := by rename_i hx; rw [hx]; simp
      exact ⟨KeepsFrom.refl _ _, (KeepsOthers.refl _).walks, ⟨⟨⟨v, hv, by rw [zzt      p pre hx]; exact hrow, trivial⟩, hbp⟩, hB⟩⟩
  case done =>
    rintro D ys W hD hS ⟨⟨⟨v, hv, hrow, -⟩, hbp⟩, hB⟩ hK
    have hcv := hv.cell
    have hvl := hv.lt
    have hD2 : w.heap.size + 2 ≤ D := by simp at hD; omega
    gi_wp2_with (refine ⟨trivial, ?_⟩; gi_at_call 160; refine (hsort D ys v W hD2 hS hv hrow hB hK).mono ?_; rintro e w' ⟨rfl, hc1, hK1, hfin⟩)
    refine ⟨by simp, .inl ⟨_, _, rfl, run_takeDeferred hK1, ?_⟩⟩
    exact ⟨_, results_tmp rfl _ _ _, v, rfl, hfin⟩
  case stop =>
    rintro D c pre W _ _ h _
    exact h.elim
end Go.Proofs.YtogdpmpccmpekaaGreat
namespace Go.Dec
open Go.Shelf Go.Proofs
def z0au:Ren:=⟨fun|190=>160|125=>153|258=>228|128=>224|129=>225|302=>275|303=>276|304=>277|305=>278|306=>279|307=>280|308=>281|309=>282|310=>283|333=>312|329=>270|330=>271|334=>313|335=>314|336=>315|344=>340|n=>n,fun|31=>77|9=>9|3=>3|46=>255|0=>0|51=>335|53=>158|4=>4|183=>328|182=>327|131=>235|5=>5|218=>383|222=>386|228=>416|229=>417|n=>n,λn=>n⟩
theorem z015:Lays.n190 P z0au where
 mixed:=by kernel_rfl
 f125:=Tryz.func153.trans (congrArg some (by kernel_rfl))
 f128:=Tryz.func224.trans (congrArg some (by kernel_rfl))
 f129:=Tryz.func225.trans (congrArg some (by kernel_rfl))
 f190:=Tryz.func160.trans (congrArg some (by kernel_rfl))
 f258:=Tryz.func228.trans (congrArg some (by kernel_rfl))
 f302:=Tryz.func275.trans (congrArg some (by kernel_rfl))
 f303:=Tryz.func276.trans (congrArg some (by kernel_rfl))
 f304:=Tryz.func277.trans (congrArg some (by kernel_rfl))
 f305:=Tryz.func278.trans (congrArg some (by kernel_rfl))
 f306:=Tryz.func279.trans (congrArg some (by kernel_rfl))
 f307:=Tryz.func280.trans (congrArg some (by kernel_rfl))
 f308:=Tryz.func281.trans (congrArg some (by kernel_rfl))
 f309:=Tryz.func282.trans (congrArg some (by kernel_rfl))
 f310:=Tryz.func283.trans (congrArg some (by kernel_rfl))
 f329:=Tryz.func270.trans (congrArg some (by kernel_rfl))
 f330:=Tryz.func271.trans (congrArg some (by kernel_rfl))
 f333:=Tryz.func312.trans (congrArg some (by kernel_rfl))
 f334:=Tryz.func313.trans (congrArg some (by kernel_rfl))
 f335:=Tryz.func314.trans (congrArg some (by kernel_rfl))
 f336:=Tryz.func315.trans (congrArg some (by kernel_rfl))
 f344:=Tryz.func340.trans (congrArg some (by kernel_rfl))
 t0:=Tryz.underlying0
 a0:=Tryz.isAgg0
 z0:=Tryz.sizeOf0
 v0:=Tryz.zeroValue0
 t3:=Tryz.underlying3
 a3:=Tryz.isAgg3
 z3:=Tryz.sizeOf3
 v3:=Tryz.zeroValue3
 t4:=Tryz.underlying4
 a4:=Tryz.isAgg4
 z4:=Tryz.sizeOf4
 v4:=Tryz.zeroValue4
 t5:=Tryz.underlying5
 a5:=Tryz.isAgg5
 z5:=Tryz.sizeOf5
 v5:=Tryz.zeroValue5
 t9:=Tryz.underlying9
 a9:=Tryz.isAgg9
 z9:=Tryz.sizeOf9
 v9:=Tryz.zeroValue9
 t31:=Tryz.underlying77
 a31:=Tryz.isAgg77
 z31:=Tryz.sizeOf77
 v31:=Tryz.zeroValue77
 t46:=Tryz.underlying255
 a46:=Tryz.isAgg255
 z46:=Tryz.sizeOf255
 v46:=Tryz.zeroValue255
 t51:=Tryz.underlying335
 a51:=Tryz.isAgg335
 z51:=Tryz.sizeOf335
 v51:=Tryz.zeroValue335
 t53:=Tryz.underlying158
 a53:=Tryz.isAgg158
 z53:=Tryz.sizeOf158
 v53:=Tryz.zeroValue158
 t131:=Tryz.underlying235
 a131:=Tryz.isAgg235
 z131:=Tryz.sizeOf235
 v131:=Tryz.zeroValue235
 t182:=Tryz.underlying327
 a182:=Tryz.isAgg327
 z182:=Tryz.sizeOf327
 v182:=Tryz.zeroValue327
 t183:=Tryz.underlying328
 a183:=Tryz.isAgg328
 z183:=Tryz.sizeOf328
 v183:=Tryz.zeroValue328
 t218:=Tryz.underlying383
 a218:=Tryz.isAgg383
 z218:=Tryz.sizeOf383
 v218:=Tryz.zeroValue383
 t222:=Tryz.underlying386
 a222:=Tryz.isAgg386
 z222:=Tryz.sizeOf386
 v222:=Tryz.zeroValue386
 t228:=Tryz.underlying416
 a228:=Tryz.isAgg416
 z228:=Tryz.sizeOf416
 v228:=Tryz.zeroValue416
 t229:=Tryz.underlying417
 a229:=Tryz.isAgg417
 z229:=Tryz.sizeOf417
 v229:=Tryz.zeroValue417
theorem zqh:∀ x y:List UInt8,Op.bytesLess x y=true↔x<y
 | [],[]=>by simp [Op.bytesLess]
 | [],y::ys=>by simp [Op.bytesLess]
 | x::xs,[]=>by simp [Op.bytesLess]
 | x::xs,y::ys=>by
  rw [Op.bytesLess,List.cons_lt_cons_iff,<- zqh xs ys]
  simp
def toK (s:ByteArray):List UInt8:=s.data.toList
def ofK (x:List UInt8):ByteArray:=⟨x.toArray⟩
theorem z070 (s:ByteArray):ofK (toK s)=s:=by unfold ofK toK;simp
theorem zly (s:ByteArray):ByteArray.toList s=toK s:=ByteArray.toList_eq s
theorem z03w (s:ByteArray):encStr (toK s)=.string s:=by unfold encStr toK;simp
section
variable {w:World} {l:List HP}
theorem z009 {w':World} {os:Array Obj} (h:Sat w l) (he:w'.heap=w.heap++os) (h2:w'.os=w.os) (h3:w'.output=w.output):Sat w' l:=by
 refine z8m ⟨λb o hb=>?_,?_⟩ h
 ·have hb:w.heap[b]? = some o:=hb
  show w'.heap[b]? = some o
  rw [he,Array.getElem?_append_left (Array.getElem?_eq_some_iff.1 hb).1]
  exact hb
 ·show World.env' w=World.env' w'
  unfold World.env';rw [h2,h3]
theorem zkd (x:Sl) (xs:List ByteArray) (h63:xs.length<4611686018427387904) (hs:Sat w (slc T.a54 1 x (xs.flatMap z2h)::l)) :
  Ret P F.a148 #[x.v] w λvs w'=>vs=[]/\∃ ys:List ByteArray,ys.Perm xs/\ys.Pairwise (λa b=>Op.bytesLess (ByteArray.toList b) (ByteArray.toList a)=false)/\Sat w' (slc T.a54 1 x (ys.flatMap z2h)::l):=by
 have hl:x.len=xs.length:=hs.rd.len (enc:=z2h) (λ_=>rfl) (by decide)
 obtain ⟨xa,xl,xc⟩:=x
 simp only at hl
 subst hl
 by_cases h0:xs.length=0
 ·have e:xs=[]:=List.length_eq_zero_iff.1 h0
  subst e
  refine Calls.mono (Any.slices_Sort_string_none z015 xa xc w) λe w' h=>?_
  obtain ⟨he,hw⟩:=h
  subst hw
  exact ⟨[],he,rfl,[],.refl _,.nil,hs⟩
 have hnd:=hs
 obtain ⟨p1,p2,h1,h2,hd,hA,hl⟩:=hnd
 rcases hA with ⟨ha,hl0,hc0,-⟩|⟨b,off,arr,fr,ha,hb,hlen,hle,hsz,hcs,hf⟩
 ·exact absurd hl0 h0
 have ha:xa=some ⟨b,off,none⟩:=ha
 subst ha
 have hle:xs.length<=xc:=hle
 have hsz:off+xc*1<=arr.size:=hsz
 have hP:Sat w (pt b (.cells arr T.a54 fr)::l):=⟨p1,p2,h1,h2,hd,hb,hl⟩
 have z2t:=hP.get
 have hblt:b<w.heap.size:=(Array.getElem?_eq_some_iff.1 z2t).1
 have henc:∀ (zs:List ByteArray) (i:Nat),(zs.flatMap z2h)[i]? = (zs[i]?).map λs=>.string s:=λzs i=>by
  have:zs.flatMap z2h=zs.map λs=>Value.string s:=by
   induction zs with
   | nil=>rfl
   | cons z zs ih=>rw [List.flatMap_cons,List.map_cons,ih];rfl
  rw [this,List.getElem?_map]
 have hH:Go.Sort.Holds encStr w b off (xs.map toK).toArray:=λj hj=>by
  have hj:j<xs.length:=by simpa using hj
  have h3:=hcs j (by rw [hlen];show j<xs.length*1;omega)
  rw [henc,List.getElem?_eq_getElem hj] at h3
  have h4:((xs.map toK).toArray)[j]! = toK xs[j]:=by
   rw [getElem!_pos _ j (by simpa using hj)];simp
  refine ⟨?_,?_⟩
  ·rw [h4,z03w]
   unfold World.cell?
   rw [z2t]
   exact h3
  ·rw [zam,z2t]
   have:=hf (off+j) (by omega) (by show off+j<off+xc*1;omega)
   simp only [zlr]
   rw [Bool.and_eq_false_iff]
   by_cases hq:fr.1<=off+j
   ·right;exact decide_eq_false λh=>this ⟨hq,h⟩
   ·left;exact decide_eq_false hq
 have hll:(xs.map toK).length=xs.length:=List.length_map ..
 have hc:=Any.slices_Sort_string z015 b off xc (xs.map toK) w hH hblt (by rw [hll];exact h63)
 rw [hll] at hc
 refine Calls.mono hc λe w' h=>?_
 obtain ⟨he,n,os,hw⟩:=h
 generalize hmq:(xs.map toK).mergeSort (λx y=>decide (x<=y))=ms at hw
 have hperm:ms.Perm (xs.map toK):=by rw [<- hmq];exact List.mergeSort_perm _ _
 have hpw:ms.Pairwise λx y=>decide (x<=y)=true:=by
  rw [<- hmq]
  refine List.pairwise_mergeSort (λa b c h1 h2=>?_) (λa b=>?_) _
  ·simp only [decide_eq_true_eq] at *;exact List.le_trans h1 h2
  ·simp only [Bool.or_eq_true,decide_eq_true_eq];exact List.le_total a b
 have hml:ms.length=xs.length:=by rw [hperm.length_eq,hll]
 have hofK:(xs.map toK).map ofK=xs:=by
  rw [List.map_map]
  conv=>rhs;rw [<- List.map_id xs]
  exact List.map_congr_left λs _=>z070 s
 refine ⟨[],he,rfl,ms.map ofK,?_,?_,?_⟩
 ·have:=hperm.map ofK
  rwa [hofK] at this
 ·rw [List.pairwise_map]
  refine hpw.imp λ{a c} h=>?_
  have h:a<=c:=of_decide_eq_true h
  rw [zly,zly]
  have e:∀ z,toK (ofK z)=z:=λz=>by unfold toK ofK;simp
  rw [e,e]
  cases hq:Op.bytesLess c a with
  | false=>rfl
  | true=>exact absurd h (List.not_le.2 ((zqh c a).1 hq))
 ·have hset:=hP.set (o':=.cells (Go.Sort.putCells encStr off ms.toArray arr) T.a54 fr)
  have hheap:w'.heap=(z33 w b (.cells (Go.Sort.putCells encStr off ms.toArray arr) T.a54 fr)).heap++os:=by
   rw [hw]
   show (w.heap.modify b (Go.Sort.onCells _))++os=w.heap.setIfInBounds b _++os
   congr 1
   apply Array.ext_getElem?
   intro i
   rw [Array.getElem?_modify,Array.getElem?_setIfInBounds]
   by_cases hib:b=i
   ·subst hib
    rw [if_pos rfl,if_pos rfl,z2t,if_pos hblt]
    rfl
   ·rw [if_neg hib,if_neg hib]
  have hs2:=z009 hset hheap (by rw [hw];rfl) (by rw [hw];rfl)
  refine hs2.imp λq hq=>.inr ⟨b,off,_,fr,rfl,hq,?_,hle,?_,λi hi=>?_,hf⟩
  ·show ((ms.map ofK).flatMap z2h).length=xs.length*1
   have:∀ zs:List ByteArray,(zs.flatMap z2h).length=zs.length:=λzs=>by
    induction zs with
    | nil=>rfl
    | cons z zs ih=>rw [List.flatMap_cons,List.length_append,ih];simp [z2h];omega
   rw [this,List.length_map,hml];omega
  ·show off+xc*1<=(Go.Sort.putCells encStr off ms.toArray arr).size
   unfold Go.Sort.putCells
   rw [Array.size_mapIdx];exact hsz
  ·have him:i<ms.length:=by
    have:∀ zs:List ByteArray,(zs.flatMap z2h).length=zs.length:=λzs=>by
     induction zs with
     | nil=>rfl
     | cons z zs ih=>rw [List.flatMap_cons,List.length_append,ih];simp [z2h];omega
    rw [this,List.length_map] at hi;exact hi
   rw [henc,List.getElem?_map,List.getElem?_eq_getElem him]
   unfold Go.Sort.putCells
   rw [Array.getElem?_mapIdx]
   have ha2:off+i<arr.size:=by omega
   rw [Array.getElem?_eq_getElem ha2]
   simp only [Option.map_some]
   rw [if_pos ⟨by omega,by rw [List.size_toArray];omega⟩]
   congr 1
   rw [Nat.add_sub_cancel_left,getElem!_pos _ i (by simpa using him)]
   simp [encStr,ofK]
end
open Go.Proofs Go.Proofs.YtogdpmpccmpekaaGreat
def z12 (p:ByteArray) (fs:List FileA):List ByteArray:=(fs.map (·.name)).filter (preF p)
def ze3 (W:World) (X:Nat->Bool):PH:=⟨λb=>if X b then W.heap[b]? else none,World.env' W⟩
section
variable {w W:World} {l:List HP} {X:Nat->Bool}
theorem z008 (hs:Sat w l) (hB:RowKit.Below w.heap.size w W):z7g l (ze3 W λb=>decide (b<w.heap.size)):=by
 refine z8m ⟨λb o h=>?_,?_⟩ hs
 ·have h:w.heap[b]? = some o:=h
  have hlt:b<w.heap.size:=(Array.getElem?_eq_some_iff.1 h).1
  show (if decide (b<w.heap.size)=true then W.heap[b]? else none)=some o
  rw [if_pos (decide_eq_true hlt),hB.block b hlt,h]
 ·show World.env' w=World.env' W
  unfold World.env'
  rw [hB.os,hB.output]
theorem zfy {b:Nat} {o:Obj} (hs:z7g l (ze3 W X)) (hX:X b=false) (hb:W.heap[b]? = some o):z7g (pt b o::l) (ze3 W λc=>X c || decide (c=b)):=by
 refine ⟨⟨λc=>if c=b then some o else none,World.env' W⟩,ze3 W X,⟨λc u h=>?_,rfl⟩,⟨λc u h=>?_,rfl⟩,λc=>?_,by simp [pt],hs⟩
 ·simp only at h
  split at h
  ·rename_i hc;subst hc
   obtain rfl:=Option.some.inj h
   show (if (X c || decide (c=c))=true then W.heap[c]? else none)=some o
   rw [if_pos (by simp),hb]
  ·cases h
 ·have h:(if X c=true then W.heap[c]? else none)=some u:=h
  split at h
  ·rename_i hc
   show (if (X c || decide (c=b))=true then W.heap[c]? else none)=some u
   rw [if_pos (by rw [hc];rfl),h]
  ·cases h
 ·by_cases hc:c=b
  ·subst hc;right
   show (if X c=true then W.heap[c]? else none)=none
   rw [if_neg (by rw [hX];simp)]
  ·left;simp [hc]
theorem zjw (hs:z7g l (ze3 W X)):Sat W l:=by
 refine z8m (p:=ze3 W X) ⟨λb o h=>?_,rfl⟩ hs
 have h:(if X b=true then W.heap[b]? else none)=some o:=h
 split at h
 ·exact h
 ·cases h
end
theorem zct:∀ {a b:List ByteArray},a.Perm b->(a.Pairwise λx y=>ltS y x=false)->(b.Pairwise λx y=>ltS x y=true)->a=b
 | a,[],hp,_,_=>hp.eq_nil
 | [],y::b,hp,_,_=>absurd hp.symm.eq_nil (by simp)
 | x::a,y::b,hp,ha,hb=>by
  rw [List.pairwise_cons] at ha hb
  have hxy:x=y:=by
   by_cases h:x=y
   ·exact h
   ·have hx:x ∈ b:=(List.mem_cons.1 (hp.mem_iff.1 (List.mem_cons_self ..))).resolve_left h
    have hy:y ∈ a:=(List.mem_cons.1 (hp.mem_iff.2 (List.mem_cons_self ..))).resolve_left (λe=>h e.symm)
    have h1:=hb.1 x hx
    rw [ha.1 y hy] at h1;cases h1
  subst hxy
  rw [zct (List.Perm.cons_inv hp) ha.2 hb.2]
def z4j (x:List UInt8):ByteArray:=⟨x.toArray⟩
theorem zwb (xs:List ByteArray):xs.flatMap z2h=xs.map Value.string:=by
 induction xs with
 | nil=>rfl
 | cons x r ih=>rw [List.flatMap_cons,ih];rfl
theorem zi9 {fs:List FileA} (h:fs.Pairwise λa b=>ltS a.name b.name=true) (p:ByteArray):(z12 p fs).Pairwise λx y=>ltS x y=true:=by
 unfold z12
 refine List.Pairwise.filter _ ?_
 rw [List.pairwise_map];exact h
theorem z04u {w:World} {m:Nat} {es:List (ByteArray × Nat)} {l:List HP} (hs:Sat w (z1e ekS evF m es::l)) (hlen:es.length<=1000) (hn:∀ x ∈ es,x.1.size<=24) :
  ∃ D0:DataW Unit,w.ownsMap Tryz.prog 9 (λ_=>some (.lit (.bool true),[])) m 1000 D0/\Maps.size D0<=1000/\((strKeys D0).map z4j).Perm (es.map Prod.fst):=by
 obtain ⟨E,c,hm,hs⟩:=hs.mapOpen
 have hsz:=hm.size
 obtain ⟨xs,h1,h2,h3,h4,h5⟩:=hm
 have hE:E.size<=1000:=by omega
 have hml:1000<=maxLen:=by decide
 have hkeys:∀ e ∈ E.toList,∃ x ∈ xs,e.key=.string x.1:=λe he=>by
  have:(e.key,e.val) ∈ E.toList.map (λe=>(e.key,e.val)):=List.mem_map.2 ⟨e,he,rfl⟩
  rw [h3] at this
  obtain ⟨x,hx,hxe⟩:=List.mem_map.1 this
  exact ⟨x,hx,(Prod.mk.inj hxe).1.symm⟩
 have hrd:∀ e ∈ E.toList,∀ s,e.key=.string s->WideElems.rd (H:=Unit) Tryz.prog 9 (λ_=>some (.lit (.bool true),[])) e=some (.string s.data.toList,.lit (.bool true)):=λe he s hk=>by
  obtain ⟨x,hx,hxe⟩:=hkeys e he
  rw [hk] at hxe
  obtain rfl:s=x.1:=by cases hxe;rfl
  have h24:=hn x (h1.mem_iff.1 hx)
  have:keyOf Tryz.prog 9 (.string x.1)=some (.string x.1.data.toList):=WideMaps.keyOf_string_mk (by kernel_rfl) (by omega)
  unfold WideElems.rd
  rw [hk,this];rfl
 refine ⟨.map ((E.toList.map (WideElems.rg Tryz.prog 9 λ_=>some (.lit (.bool true),[]))).foldr DataW.insert []),⟨E,c,hs.get,⟨by omega,⟨h5,?_,?_⟩,λe he=>?_⟩,hE,rfl⟩,?_,?_⟩
 ·rw [List.Nodup,List.pairwise_map]
  exact h4.imp λh=>Nat.ne_of_lt h
 ·have hk:E.toList.map (·.key)=xs.map λx=>Value.string x.1:=by
   have:=congrArg (List.map Prod.fst) h3
   rw [List.map_map,List.map_map] at this
   exact this
  rw [hk,List.Nodup,List.pairwise_map]
  rw [List.Nodup,List.pairwise_map] at h2
  exact h2.imp λh e=>h (Value.string.inj e)
 ·obtain ⟨x,hx,hxe⟩:=hkeys e he
  exact ⟨_,hrd e he x.1 hxe⟩
 ·show ((E.toList.map _).foldr DataW.insert []).length<=1000
  rw [length_sorted,List.length_map,Array.length_toList];exact hE
 ·have hp:=(WideShapes.sorted_perm (E.toList.map (WideElems.rg (H:=Unit) Tryz.prog 9 λ_=>some (.lit (.bool true),[])))).map (λp:Lit × DataW Unit=>z4j (Go.strOf p.1))
  have e1:(strKeys (DataW.map ((E.toList.map (WideElems.rg (H:=Unit) Tryz.prog 9 λ_=>some (.lit (.bool true),[]))).foldr DataW.insert []))).map z4j=((E.toList.map (WideElems.rg (H:=Unit) Tryz.prog 9 λ_=>some (.lit (.bool true),[]))).foldr DataW.insert []).map (λp:Lit × DataW Unit=>z4j (Go.strOf p.1)):=by
   simp only [strKeys,List.map_map];rfl
  rw [e1]
  refine hp.trans ?_
  rw [List.map_map]
  have e2:E.toList.map ((λp:Lit × DataW Unit=>z4j (Go.strOf p.1))∘WideElems.rg Tryz.prog 9 λ_=>some (.lit (.bool true),[]))=xs.map Prod.fst:=by
   have h6:E.toList.map (λe=>match e.key with | .string s=>s|_=>⟨#[]⟩)=xs.map Prod.fst:=by
    have:=congrArg (List.map λx:Value × Value=>match x.1 with | .string s=>s|_=>⟨#[]⟩) h3
    rw [List.map_map,List.map_map] at this
    exact this
   rw [<- h6]
   refine List.map_congr_left λe he=>?_
   obtain ⟨x,hx,hxe⟩:=hkeys e he
   show z4j (Go.strOf (WideElems.rg (H:=Unit) Tryz.prog 9 (λ_=>some (.lit (.bool true),[])) e).1)=_
   rw [WideElems.rg_of (hrd e he x.1 hxe),hxe]
   show z4j x.1.data.toList=x.1
   exact zvs rfl
  rw [e2]
  exact h1.map _
section
variable {w:World} {l r:List HP} {d:Nat} {A:DiskA}
theorem zqo (p:ByteArray) [hf:Fo l dk d A r] (hs:Sat w l):Ret P F.a27 #[.pointer (some ⟨d,0,none⟩),.string p] w λvs w'=>∃ x:Sl,vs=[x.v]/\Sat w' (slc T.a54 1 x ((z12 p A.fs).flatMap z2h)::dk d A::r):=by
 have hs0:=hs.perm hf.perm
 obtain ⟨m,FS,hp,hok,hs1⟩:=z2c hs0
 have hkv:(FS.map λt=>(t.f.name,t.at_)).map Prod.fst=(FS.map FileM.f).map (·.name):=by rw [List.map_map,List.map_map];rfl
 have hlen:(FS.map λt=>(t.f.name,t.at_)).length<=1000:=by
  have:=hp.length_eq;have:=hok.many;simp at *;omega
 obtain ⟨D0,hown,hsz,hkeys⟩:=z04u (hs1.pick [1]) hlen λx hx=>by
  obtain ⟨t,ht,rfl⟩:=List.mem_map.1 hx
  exact hok.names _ (hp.mem_iff.1 (List.mem_map.2 ⟨t,ht,rfl⟩))
 rw [hkv] at hkeys
 have hkeys:=hkeys.trans (hp.map (·.name))
 have hb:=hs1.get
 have hd:d<w.heap.size:=(Array.getElem?_eq_some_iff.1 hb).1
 have hc:w.cell? ⟨d,4,none⟩=some (.map (some m)):=by rw [z37 hb];rfl
 have hfin:=callsIn_wide.1 (zzc (n:=3) (Nat.le_refl _) d m 1000 p w D0 hown hd hc hsz (λv W=>∃ x:Sl,v=x.v/\Sat W (slc T.a54 1 x ((z12 p A.fs).flatMap z2h)::dk d A::r)) ?_)
 ·exact Calls.mono hfin λe w' ⟨v,he,x,hv,hs⟩=>⟨[x.v],by rw [he,hv];rfl,x,rfl,hs⟩
 intro D ss v W hD hS hbox hrow hB hK
 have hsR:=z008 hs0 hB
 have hsR:=zfy hsR (b:=w.heap.size+1) (by simp) hbox
 have hDB:D≠w.heap.size+1:=by omega
 have hsR:=zfy hsR (b:=D) (by simp;omega) hK
 have hpS:((z5b p ss).map z4j).Perm (z12 p A.fs):=by
  have h1:=((hS.map z4j).trans hkeys).filter (preF p)
  rw [List.filter_map] at h1
  exact h1
 have hflat:((z5b p ss).map z4j).flatMap z2h=(z5b p ss).map encStr:=by
  rw [zwb,List.map_map];rfl
 have hlen2:((z5b p ss).map z4j).length<576460752303423488:=by
  rw [hpS.length_eq]
  have h1:(z12 p A.fs).length<=A.fs.length:=by unfold z12;exact Nat.le_trans (List.length_filter_le _ _) (by simp)
  have:=hok.many
  omega
 obtain ⟨x,rfl,hsx⟩:∃ x:Sl,v=x.v/\Sat W (slc T.a54 1 x (((z5b p ss).map z4j).flatMap z2h)::pt D (.deferred (some []))::pt (w.heap.size+1) (.cells #[v] 77)::dk d A::r):=by
  rw [hflat]
  obtain ⟨hxl,h|⟨g,cap,cur,rfl,hg,hgb,hcap,-,hcur,htk⟩⟩:=hrow
  ·obtain ⟨rfl,hn0⟩:=h
   have:z5b p ss=[]:=List.length_eq_zero_iff.1 hn0
   rw [this]
   exact ⟨⟨none,0,0⟩,rfl,(zjw hsR).slc_nil⟩
  ·have hgB:g≠w.heap.size+1:=λe=>by
    subst e
    have hbox:W.heap[w.heap.size+1]? = some (.cells #[_] 77 (0,0)):=hbox
    rw [hbox] at hgb
    cases hgb
   have hgD:g≠D:=λe=>by subst e;rw [hK] at hgb;cases hgb
   have hsR:=zjw (zfy hsR (b:=g) (by simp;omega) hgb)
   refine ⟨⟨some ⟨g,0,none⟩,(z5b p ss).length,cap⟩,rfl,hsR.imp λq hq=>.inr ⟨g,0,cur,(0,0),rfl,hq,by simp,hcap,by simp [hcur],λi hi=>?_,z2p _ _⟩⟩
   rw [<- htk,List.length_take] at hi
   rw [<- htk,Nat.zero_add,List.getElem?_take,if_pos (by omega)]
   simp
 refine callsIn_wide.2 (Calls.mono (zkd x _ (Nat.lt_trans hlen2 (by omega)) hsx) ?_)
 rintro e w' ⟨vs,rfl,rfl,ys,hys,hso,hs'⟩
 have hB1:=(hs'.pick [2]).get
 have hD1:=(hs'.pick [1]).get
 refine ⟨rfl,by rw [z37 hB1];rfl,hD1,x,rfl,?_⟩
 have hset:Sat (z33 w' D (.deferred none)) _:=(hs'.pick [1]).set (o':=.deferred none)
 rw [zct (hys.trans hpS) hso (zi9 hok.sorted p)] at hset
 exact hset.sub
end
def zfe (x:Sl):List Value:=[x.v]
instance:Enc1 zfe .slc (λx=>x):=⟨λ_=>rfl⟩
instance:EncN zfe 1:=⟨λ_=>rfl,by decide,by simp [zfe,Value.oneCell']⟩
def zah (l:List HP):List Sl->List (List UInt8)->Prop
 | [],[]=>True
 | x::xs,b::bs=>(∀ w,Sat w l->Rd w 1 x (b.flatMap zi))/\zah l xs bs
 | _,_=>False
theorem zah.length {l:List HP}:∀ {xs:List Sl} {bs:List (List UInt8)},zah l xs bs->xs.length=bs.length
 | [],[],_=>rfl
 | _::_,_::_,h=>by rw [List.length_cons,List.length_cons,h.2.length]
theorem zah.get {l:List HP}:∀ {xs:List Sl} {bs:List (List UInt8)} (h:zah l xs bs) (i:Nat) (h1:i<xs.length) (h2:i<bs.length),∀ w,Sat w l->Rd w 1 xs[i] (bs[i].flatMap zi)
 | _::_,_::_,h,0,_,_=>h.1
 | _::_,_::_,h,i+1,h1,h2=>h.2.get i (by simpa using h1) (by simpa using h2)
theorem z3t {bs:List (List UInt8)} {i:Nat} (hi:i<bs.length):(bs.take (i+1)).flatten=(bs.take i).flatten++bs[i]:=by
 rw [List.take_add_one,List.getElem?_eq_getElem hi,List.flatten_append];simp
section
variable {w:World} {l r r0:List HP} {d:Nat} {A:DiskA}
theorem zh0 (hok:okA A) {n:ByteArray} (hn:z5k n=true) {bs:List UInt8} (hb:bs.length<=A.free) (hm:¬ (z24 A.fs n=false/\A.fs.length>=128)) :
  okA { A with fs:=if z24 A.fs n then A.fs.map (z1y n λf=>{ f with b:=f.b++bs }) else z4h ⟨n,bs,0⟩ A.fs }:=by
 have hr:=hok.room
 have hu:=hok.used
 unfold DiskA.free at hb
 by_cases h:z24 A.fs n=true
 ·rw [if_pos h]
  obtain ⟨f,hf,rfl⟩:=z65.1 h
  obtain ⟨s,u,hsu⟩:=List.append_of_mem hf
  have hpm:A.fs.Perm (f::(s++u)):=by rw [hsu];exact List.perm_middle
  have hnd:=(hpm.map (·.name)).nodup_iff.1 (z3g hok.sorted)
  rw [List.map_cons,List.nodup_cons] at hnd
  have hne:∀ g ∈ s++u,g.name≠f.name:=λg hg e=>hnd.1 (List.mem_map.2 ⟨g,hg,e⟩)
  have h1:=zcj (g:=λf=>{ f with b:=f.b++bs }) hpm hne
  have h2:used A.fs=f.b.length+used (s++u):=by rw [z44 hpm,z23]
  refine ⟨hok.room,?_,by show (A.fs.map _).length<=_;rw [List.length_map];exact hok.many,hok.left,zce (z9b λ_=>rfl) hok.sorted,λg hg=>?_,λg hg=>?_⟩
  ·show used (A.fs.map _)<=_
   rw [h1]
   show (f.b++bs).length+_<=_
   rw [List.length_append];omega
  ·obtain ⟨g,hg',rfl⟩:=List.mem_map.1 hg
   have:=hok.kept g hg'
   unfold z1y
   split
   ·show g.kept<=(g.b++bs).length;rw [List.length_append];omega
   ·exact this
  ·obtain ⟨g,hg',rfl⟩:=List.mem_map.1 hg
   rw [z9b (by intro _;rfl)];exact hok.names g hg'
 ·have h:z24 A.fs n=false:=by simpa using h
  rw [if_neg (by rw [h];simp)]
  have hne:=z67.1 h
  have hp:=z6a ⟨n,bs,0⟩ A.fs
  refine ⟨hok.room,?_,?_,hok.left,zeu _ hne hok.sorted,λg hg=>?_,λg hg=>?_⟩
  ·show used (z4h _ _)<=_
   rw [z44 hp,z23];show bs.length+_<=_;omega
  ·show (z4h _ _).length<=_
   rw [hp.length_eq,List.length_cons]
   have:=hok.many
   have:A.fs.length≠128:=λe=>hm ⟨h,by omega⟩
   omega
  ·rcases zfs.1 hg with rfl|hg
   ·exact Nat.zero_le _
   ·exact hok.kept g hg
  ·rcases zfs.1 hg with rfl|hg
   ·exact zsl hn
   ·exact hok.names g hg
theorem zlv (x:FileA) (g:FileA->FileA) (hg:(g x).name=x.name):∀ {fs:List FileA},(∀ f ∈ fs,f.name≠x.name)->(z4h x fs).map (z1y x.name g)=z4h (g x) fs
 | [],_=>by simp [z4h,z1y]
 | f::r,h=>by
  have hf:z1y x.name g f=f:=by rw [z1y,if_neg (h f (List.mem_cons_self ..))]
  have hr:r.map (z1y x.name g)=r:=by
   conv=>rhs;rw [<- List.map_id r]
   exact List.map_congr_left λy hy=>by rw [z1y,if_neg (h y (List.mem_cons_of_mem _ hy))];rfl
  rw [z4h,z4h,hg]
  split
  ·rw [List.map_cons,List.map_cons,hf,hr,z1y,if_pos rfl]
  ·rw [List.map_cons,hf,zlv x g hg λy hy=>h y (List.mem_cons_of_mem _ hy)]
theorem zl3 (n:ByteArray) (ps:Sl) (xs:List Sl) (bs:List (List UInt8)) [hps:FocR r ps 1 (xs.flatMap zfe)] (hbs:zah r xs bs) (hlen:bs.length<=1000) (hsum:∀ b ∈ bs,b.length<=100000000) [hf:Fo l dk d A r] (hs:Sat w l) :
  Ret P F.a23 #[.pointer (some ⟨d,0,none⟩),.string n,ps.v] w λvs w'=>vs=[.int .i64 (z0a A n bs.flatten).1]/\Sat w' (dk d (z0a A n bs.flatten).2::r) :=
 ztq _ n ps <| by
  delta z08a A8 AA AB AC AK AP AR Aa Ab Ac Ad Af Ag Ai Ak Al Am An Ao Ap As Aw Ay B2 Br;unfold z0a
  have hxl:=hbs.length
  have hok0:okA A:=by obtain ⟨m,FS,hp,hok,hs⟩:=z2c (hs.perm hf.perm);exact hok
  have hfr:A.free<=4194304:=by have:=hok0.room;unfold DiskA.free;omega
  refine zgy hs (λhg w' hs=>?_) λhg w' hs=>?_
  ·rw [if_pos hg];exact ⟨rfl,hs⟩
  rw [if_neg (by rw [hg];simp)]
  have hpl:=hs.slen ps (xs:=xs) (enc:=zfe)
  refine zb (z06v n hs) λ_ _ hs=>?_
  obtain ⟨rfl,hs⟩:=hs
  refine zd ?_
  refine zh (λh=>?_) λh=>?_
  ·have h:z5k n=false:=by simpa using h
   rw [if_pos h];exact ⟨rfl,rfl,hs⟩
  have hn:z5k n=true:=by simpa using h
  rw [if_neg (by rw [hn];simp)]
  refine zl (λv w'=>bs.flatten.length<=A.free/\v=(((bs.flatten.length:Nat):Int),())/\Sat w' (dk d A::r)) ?_ ?_
  ·refine z03 (λk v w=>∃ i:Nat,v=((((bs.take i).flatten.length:Nat):Int),(i:Int),())/\i<=xs.length/\xs.length-i=k/\(bs.take i).flatten.length<=A.free/\Sat w (dk d A::r)) xs.length ⟨0,rfl,by omega,rfl,by simp,hs⟩ ?_
   clear hs
   rintro k _ w ⟨i,rfl,hi,hk,hsm,hs⟩
   refine zk ?_
   refine zh (λhc=>?_) λhc=>?_
   ·have hil:i<xs.length:=by omega
    have hib:i<bs.length:=by omega
    refine z1z hs i hil ?_
    have hrl:xs[i].len=bs[i].length:=(hbs.get i hil hib _ hs.tail).len (enc:=zi) (λ_=>rfl) (by decide)
    have hbi:=hsum _ (List.getElem_mem hib)
    refine zb (z06i hs) λ_ _ hs=>?_
    obtain ⟨rfl,hs⟩:=hs
    refine zd ?_
    have ew:IntKind.wrap .i64 ((A.free:Int)-((bs.take i).flatten.length:Nat))=(A.free:Int)-((bs.take i).flatten.length:Nat):=z00n
    rw [ew]
    refine zh (λh3=>?_) λh3=>?_
    ·refine zo (zo ?_)
     rw [if_pos]
     ·exact ⟨rfl,rfl,hs⟩
     ·left
      have h4:(bs.take (i+1)).flatten.length<=bs.flatten.length:=by
       have:=congrArg (λl:List (List UInt8)=>l.flatten.length) (List.take_append_drop (i+1) bs)
       simp only [List.flatten_append,List.length_append] at this
       omega
      rw [z3t hib,List.length_append] at h4
      omega
    ·refine z1t (y:=(((bs.take (i+1)).flatten.length:Nat):Int)) ?_ ?_
     ·refine z1k (us':=[.int .i64 (((bs.take (i+1)).flatten.length:Nat):Int),.int .i64 ((i+1:Nat):Int)]) (by (try simp (disch:=omega) only [w64]);first|rfl|(congr;omega)) ?_
      refine z0l (xs.length-(i+1)) ?_
      refine ⟨i+1,rfl,by omega,rfl,?_,hs⟩
      rw [z3t hib,List.length_append];omega
     ·rw [z3t hib,List.length_append,w64 (by omega) (by omega)];omega
   ·refine zo (zf ?_)
    rw [List.take_of_length_le (by omega)] at hsm ⊢
    exact ⟨hsm,rfl,hs⟩
  clear hs
  rintro _ w ⟨hfit,rfl,hs⟩
  refine zk ?_
  obtain ⟨m,FS,hp,hok,hs⟩:=z2c hs
  have hou:=hok.used
  have hor:=hok.room
  have hfit':=hfit
  unfold DiskA.free at hfit'
  (repeat (first|with_reducible (first|refine zk ?_|refine zj ?_|refine z0j ?_|refine z8 hs ?_|refine zg hs ?_|refine ze ?_|refine zv hs λ_ hs=>?_|refine zn hs λ_ _ hs=>?_|refine zq hs λ_ _ hs=>?_|refine z02 hs λ_ hs=>?_|refine zm hs λ_ hs=>?_)|(apply wp_must;(focus first|trivial|omega|assumption))|refine z1a ?_|refine wp_lt ?_))
  have hnot:∀ (g:Bool),z24 A.fs n=g->¬ (g=false/\A.fs.length>=128)->(if bs.flatten.length>A.free\/(z24 A.fs n=false/\A.fs.length>=128) then ((5:Int),A) else
    (0,z34 { A with fs:=if z24 A.fs n then A.fs.map (z1y n λf=>{ f with b:=f.b++bs.flatten }) else z4h ⟨n,bs.flatten,0⟩ A.fs })) =
    (0,z34 { A with fs:=if z24 A.fs n then A.fs.map (z1y n λf=>{ f with b:=f.b++bs.flatten }) else z4h ⟨n,bs.flatten,0⟩ A.fs }):=λg hg h=>by
   rw [if_neg]
   rintro (h1|⟨h1,h2⟩)
   ·omega
   ·exact h ⟨by rw [<- hg,h1],h2⟩
  refine zxv hs (λb hb=>?_) λhb=>?_
  all_goals refine wp_lt ?_
  all_goals refine zl (λv w'=>∃ (t:FileM) (FS':List FileM) (fs1:List FileA),v=(some ⟨t.at_,0,none⟩,())/\t.f.name=n/\fs1.Perm (t.f::FS'.map FileM.f)/\(∀ g ∈ FS'.map FileM.f,g.name≠t.f.name)/\used fs1=used A.fs/\¬ (z24 A.fs n=false/\A.fs.length>=128) /\
    fs1.map (z1y n λf=>{ f with b:=f.b++bs.flatten })=(if z24 A.fs n then A.fs.map (z1y n λf=>{ f with b:=f.b++bs.flatten }) else z4h ⟨n,bs.flatten,0⟩ A.fs) /\
    Sat w' (pt t.at_ (.cells #[t.x.v,.int .i64 t.f.kept] T.a9)::slc T.a58 1 t.x (t.f.b.flatMap zi)::HP.all (FS'.map z3y)::pt d (.cells #[.int .i64 A.left,.bool A.gone,.int .i64 A.room,.int .i64 (used A.fs),.map (some m)] T.a8)::z1e ekS evF m ((t::FS').map λt=>(t.f.name,t.at_))::r)) ?_ ?_
  ·obtain ⟨t,ht,rfl,rfl,hA⟩:=z9j hp hb
   have hhas:z24 A.fs t.f.name=true:=z65.2 ⟨_,hA,rfl⟩
   refine zu ?_ (by simp)
   obtain ⟨FS',hpm,hs⟩:=z7j hs ht
   obtain ⟨h1,h2,-⟩:=apart hp hok hpm
   refine zf ?_
   refine ⟨t,FS',A.fs,rfl,rfl,h1,h2,rfl,by rw [hhas];simp,by rw [if_pos hhas],?_⟩
   have hs:=(hs.pick [4]).mapPerm (hpm.map λt=>(t.f.name,t.at_))
   exact hs.sub
  rotate_left
  ·have hno:=z81 hp hb
   have hhas:=z67.2 hno
   refine z0p ?_ (by simp)
   (repeat (first|with_reducible (first|refine zk ?_|refine zj ?_|refine z0j ?_|refine z8 hs ?_|refine zg hs ?_|refine ze ?_|refine zv hs λ_ hs=>?_|refine zn hs λ_ _ hs=>?_|refine zq hs λ_ _ hs=>?_|refine z02 hs λ_ hs=>?_|refine zm hs λ_ hs=>?_)|(apply wp_must;(focus first|trivial|omega|assumption))|refine z1a ?_|refine wp_lt ?_))
   refine ze9 hs ?_
   have hml:(FS.map λt=>(t.f.name,t.at_)).length=A.fs.length:=by rw [List.length_map,<- hp.length_eq,List.length_map]
   rw [hml]
   refine zh (λh3=>?_) λh3=>?_
   ·refine zo ?_
    rw [if_pos (.inr ⟨hhas,by omega⟩)]
    exact ⟨rfl,rfl,z2g m hp hok hs⟩
   refine zq hs λa w' hs=>?_
   (repeat (first|with_reducible (first|refine zk ?_|refine zj ?_|refine z0j ?_|refine z8 hs ?_|refine zg hs ?_|refine ze ?_|refine zv hs λ_ hs=>?_|refine zn hs λ_ _ hs=>?_|refine zq hs λ_ _ hs=>?_|refine z02 hs λ_ hs=>?_|refine zm hs λ_ hs=>?_)|(apply wp_must;(focus first|trivial|omega|assumption))|refine z1a ?_|refine wp_lt ?_))
   refine zbp hs (FS.map λt=>(t.f.name,t.at_)) (.inr ⟨hb,rfl⟩) a λw' hs=>?_
   refine zf ?_
   refine ⟨⟨a,⟨none,0,0⟩,⟨n,[],0⟩⟩,FS,z4h ⟨n,[],0⟩ A.fs,rfl,rfl,(z6a _ _).trans (.cons _ hp.symm),λg hg=>hno g (hp.mem_iff.1 hg),?_,by omega,?_,?_⟩
   ·rw [z44 (z6a _ _),z23];exact Nat.zero_add _
   ·rw [if_neg (by rw [hhas];simp)]
    exact zlv ⟨n,[],0⟩ (λf=>{ f with b:=f.b++bs.flatten }) rfl hno
   ·exact (hs.slc_nil (T:=T.a58) (sz:=1)).pick [2,0,2,1,0]
  all_goals clear hs
  all_goals rintro _ w ⟨t,FS',fs1,rfl,htn,h1,h2,hus,hno,hfin,hs⟩
  all_goals refine zk ?_
  all_goals rw [hnot _ rfl hno,<- hfin]
  all_goals subst htn
  all_goals refine zl (λ_ w'=>∃ x1:Sl,Sat w' (pt t.at_ (.cells #[x1.v,.int .i64 t.f.kept] T.a9)::slc T.a58 1 x1 ((t.f.b++bs.flatten).flatMap zi)::HP.all (FS'.map z3y)::pt d (.cells #[.int .i64 A.left,.bool A.gone,.int .i64 A.room,.int .i64 (used A.fs),.map (some m)] T.a8)::z1e ekS evF m ((t::FS').map λt=>(t.f.name,t.at_))::r)) ?_ ?_
  ·refine z03 (λk v w=>∃ (i:Nat) (x1:Sl),v=((i:Int),())/\i<=xs.length/\xs.length-i=k/\Sat w (pt t.at_ (.cells #[x1.v,.int .i64 t.f.kept] T.a9)::slc T.a58 1 x1 ((t.f.b++(bs.take i).flatten).flatMap zi)::HP.all (FS'.map z3y)::pt d (.cells #[.int .i64 A.left,.bool A.gone,.int .i64 A.room,.int .i64 (used A.fs),.map (some m)] T.a8)::z1e ekS evF m ((t::FS').map λt=>(t.f.name,t.at_))::r)) xs.length ⟨0,t.x,rfl,by omega,rfl,by simpa using hs⟩ ?_
   clear hs
   rintro k _ w ⟨i,x1,rfl,hi,hk,hs⟩
   refine zk ?_
   refine zh (λhc=>?_) λhc=>?_
   ·have hil:i<xs.length:=by omega
    have hib:i<bs.length:=by omega
    refine z1z hs i hil ?_
    have hrd:FocR r xs[i] 1 (bs[i].flatMap zi):=⟨hbs.get i hil hib⟩
    have hbi:=hsum _ (List.getElem_mem hib)
    have hsm:(bs.take i).flatten.length<=bs.flatten.length:=by
     have:=congrArg (λl:List (List UInt8)=>l.flatten.length) (List.take_append_drop i bs)
     simp only [List.flatten_append,List.length_append] at this
     omega
    have htb:t.f.b.length<=used fs1:=z8q (h1.mem_iff.2 (List.mem_cons_self ..))
    (repeat (first|with_reducible (first|refine zk ?_|refine zj ?_|refine z0j ?_|refine z8 hs ?_|refine zg hs ?_|refine ze ?_|refine zv hs λ_ hs=>?_|refine zn hs λ_ _ hs=>?_|refine zq hs λ_ _ hs=>?_|refine z02 hs λ_ hs=>?_|refine zm hs λ_ hs=>?_)|(apply wp_must;(focus first|trivial|omega|assumption))|refine z1a ?_|refine wp_lt ?_))
    refine wp_app' hs (xs:=t.f.b++(bs.take i).flatten) (ys:=bs[i]) (enc:=zi) (λz w' hs=>?_) (by rw [List.length_append];omega)
    (repeat (first|with_reducible (first|refine zk ?_|refine zj ?_|refine z0j ?_|refine z8 hs ?_|refine zg hs ?_|refine ze ?_|refine zv hs λ_ hs=>?_|refine zn hs λ_ _ hs=>?_|refine zq hs λ_ _ hs=>?_|refine z02 hs λ_ hs=>?_|refine zm hs λ_ hs=>?_)|(apply wp_must;(focus first|trivial|omega|assumption))|refine z1a ?_|refine wp_lt ?_))
    refine z1k (us':=[.int .i64 ((i+1:Nat):Int)]) (by (try simp (disch:=omega) only [w64]);first|rfl|(congr;omega)) ?_
    refine z0l (xs.length-(i+1)) ?_
    refine ⟨i+1,z,rfl,by omega,rfl,?_⟩
    rw [z3t hib,<- List.append_assoc]
    exact hs.sub
   ·refine zo (zf ⟨x1,?_⟩)
    rwa [List.take_of_length_le (l:=bs) (by omega)] at hs
  rotate_left
  ·refine z03 (λk v w=>∃ (i:Nat) (x1:Sl),v=((i:Int),())/\i<=xs.length/\xs.length-i=k/\Sat w (pt t.at_ (.cells #[x1.v,.int .i64 t.f.kept] T.a9)::slc T.a58 1 x1 ((t.f.b++(bs.take i).flatten).flatMap zi)::HP.all (FS'.map z3y)::pt d (.cells #[.int .i64 A.left,.bool A.gone,.int .i64 A.room,.int .i64 (used A.fs),.map (some m)] T.a8)::z1e ekS evF m ((t::FS').map λt=>(t.f.name,t.at_))::r)) xs.length ⟨0,t.x,rfl,by omega,rfl,by simpa using hs⟩ ?_
   clear hs
   rintro k _ w ⟨i,x1,rfl,hi,hk,hs⟩
   refine zk ?_
   refine zh (λhc=>?_) λhc=>?_
   ·have hil:i<xs.length:=by omega
    have hib:i<bs.length:=by omega
    refine z1z hs i hil ?_
    have hrd:FocR r xs[i] 1 (bs[i].flatMap zi):=⟨hbs.get i hil hib⟩
    have hbi:=hsum _ (List.getElem_mem hib)
    have hsm:(bs.take i).flatten.length<=bs.flatten.length:=by
     have:=congrArg (λl:List (List UInt8)=>l.flatten.length) (List.take_append_drop i bs)
     simp only [List.flatten_append,List.length_append] at this
     omega
    have htb:t.f.b.length<=used fs1:=z8q (h1.mem_iff.2 (List.mem_cons_self ..))
    (repeat (first|with_reducible (first|refine zk ?_|refine zj ?_|refine z0j ?_|refine z8 hs ?_|refine zg hs ?_|refine ze ?_|refine zv hs λ_ hs=>?_|refine zn hs λ_ _ hs=>?_|refine zq hs λ_ _ hs=>?_|refine z02 hs λ_ hs=>?_|refine zm hs λ_ hs=>?_)|(apply wp_must;(focus first|trivial|omega|assumption))|refine z1a ?_|refine wp_lt ?_))
    refine wp_app' hs (xs:=t.f.b++(bs.take i).flatten) (ys:=bs[i]) (enc:=zi) (λz w' hs=>?_) (by rw [List.length_append];omega)
    (repeat (first|with_reducible (first|refine zk ?_|refine zj ?_|refine z0j ?_|refine z8 hs ?_|refine zg hs ?_|refine ze ?_|refine zv hs λ_ hs=>?_|refine zn hs λ_ _ hs=>?_|refine zq hs λ_ _ hs=>?_|refine z02 hs λ_ hs=>?_|refine zm hs λ_ hs=>?_)|(apply wp_must;(focus first|trivial|omega|assumption))|refine z1a ?_|refine wp_lt ?_))
    refine z1k (us':=[.int .i64 ((i+1:Nat):Int)]) (by (try simp (disch:=omega) only [w64]);first|rfl|(congr;omega)) ?_
    refine z0l (xs.length-(i+1)) ?_
    refine ⟨i+1,z,rfl,by omega,rfl,?_⟩
    rw [z3t hib,<- List.append_assoc]
    exact hs.sub
   ·refine zo (zf ⟨x1,?_⟩)
    rwa [List.take_of_length_le (l:=bs) (by omega)] at hs
  all_goals clear hs
  all_goals rintro _ w ⟨x1,hs⟩
  all_goals refine zk ?_
  all_goals have hu3:=zcj (g:=λf=>{ f with b:=f.b++bs.flatten }) h1 h2
  all_goals have hu4:used fs1=t.f.b.length+used (FS'.map FileM.f):=by rw [z44 h1,z23]
  all_goals have hu5:used (fs1.map (z1y t.f.name λf=>{ f with b:=f.b++bs.flatten }))=used A.fs+bs.flatten.length:=by (rw [hu3];show (t.f.b++bs.flatten).length+_=_;rw [List.length_append];omega)
  all_goals have ew:IntKind.wrap .i64 (((used A.fs:Nat):Int)+((bs.flatten.length:Nat):Int))=((used (fs1.map (z1y t.f.name λf=>{ f with b:=f.b++bs.flatten })):Nat):Int):=by rw [hu5,w64 (by omega) (by omega)];omega
  all_goals refine zj ?_
  all_goals refine z8 hs ?_
  all_goals rw [ew]
  all_goals (repeat (first|with_reducible (first|refine zk ?_|refine zj ?_|refine z0j ?_|refine z8 hs ?_|refine zg hs ?_|refine ze ?_|refine zv hs λ_ hs=>?_|refine zn hs λ_ _ hs=>?_|refine zq hs λ_ _ hs=>?_|refine z02 hs λ_ hs=>?_|refine zm hs λ_ hs=>?_)|(apply wp_must;(focus first|trivial|omega|assumption))|refine z1a ?_|refine wp_lt ?_))
  all_goals have hs:=z6q (FS:=FS') ⟨t.at_,x1,{ t.f with b:=t.f.b++bs.flatten }⟩ hs
  all_goals have hp':(((⟨t.at_,x1,{ t.f with b:=t.f.b++bs.flatten }⟩:FileM)::FS').map FileM.f).Perm (fs1.map (z1y t.f.name λf=>{ f with b:=f.b++bs.flatten })):=(z78 (g:=λf=>{ f with b:=f.b++bs.flatten }) h1 h2).symm
  all_goals have hok':=zh0 hok hn hfit hno
  all_goals rw [<- hfin] at hok'
  all_goals have hs:Sat _ (z1e ekS evF m (((⟨t.at_,x1,{ t.f with b:=t.f.b++bs.flatten }⟩:FileM)::FS').map λt=>(t.f.name,t.at_))::_):=hs.pick [2]
  all_goals rw [hg] at hs
  all_goals refine zb (zcf (l':=r) hg hok' hp' hs) λ_ _ hs=>?_
  all_goals obtain ⟨rfl,hs⟩:=hs
  all_goals refine zd ?_
  all_goals exact ⟨rfl,rfl,hs⟩
end
theorem zci {fs:List FileA} {g:FileA->FileA} (hb:∀ f,(g f).b=f.b):used (fs.map g)=used fs:=by
 unfold used
 rw [List.map_map]
 congr 1
 exact List.map_congr_left λf _=>by show (g f).b.length=_;rw [hb]
theorem zqr {A:DiskA} (hok:okA A) {g:FileA->FileA} (hn:∀ f,(g f).name=f.name) (hb:∀ f,(g f).b=f.b) (hk:∀ f,f.kept<=f.b.length->(g f).kept<=f.b.length):okA { A with fs:=A.fs.map g }:=by
 refine ⟨hok.room,by show used (A.fs.map g)<=_;rw [zci hb];exact hok.used,by show (A.fs.map g).length<=_;rw [List.length_map];exact hok.many,hok.left,zce hn hok.sorted,λf hf=>?_,λf hf=>?_⟩
 ·obtain ⟨f,hf',rfl⟩:=List.mem_map.1 hf
  rw [hb];exact hk f (hok.kept f hf')
 ·obtain ⟨f,hf',rfl⟩:=List.mem_map.1 hf
  rw [hn];exact hok.names f hf'
def z9c (f:FileA):FileA:={ f with kept:=f.b.length }
def z2z (ns:List ByteArray) (f:FileA):FileA:=if ns.any (λm=>decide (m=f.name)) then z9c f else f
theorem zc7 (ns:List ByteArray) (f:FileA):(z2z ns f).name=f.name:=by unfold z2z;split <;> rfl
theorem zi2 (ns:List ByteArray) (f:FileA):(z2z ns f).b=f.b:=by unfold z2z;split <;> rfl
theorem zsh (ns:List ByteArray) (f:FileA) (h:f.kept<=f.b.length):(z2z ns f).kept<=f.b.length:=by
 unfold z2z;split
 ·exact Nat.le_refl _
 ·exact h
theorem zwo:z2z []=id:=by funext f;simp [z2z]
theorem zsi (ns:List ByteArray) (n:ByteArray) (f:FileA):z1y n z9c (z2z ns f)=z2z (ns++[n]) f:=by
 unfold z1y
 rw [zc7]
 unfold z2z
 rw [List.any_append]
 by_cases h1:f.name=n
 ·rw [if_pos h1]
  have:(ns.any (λm=>decide (m=f.name)) || [n].any (λm=>decide (m=f.name)))=true:=by simp [h1]
  rw [if_pos this]
  split <;> rfl
 ·rw [if_neg h1]
  have:(ns.any (λm=>decide (m=f.name)) || [n].any (λm=>decide (m=f.name)))=ns.any (λm=>decide (m=f.name)):=by simp [Ne.symm h1]
  rw [this]
theorem zzu (s:ByteArray):Go.Proofs.YtogdpmpccmpekaaGreat.preF (ByteArray.mk #[]) s=true:=by
 unfold Go.Proofs.YtogdpmpccmpekaaGreat.preF
 rw [show (ByteArray.mk #[]).toList=[] from by rw [ByteArray.toList_eq]]
 rfl
theorem zc9 (fs:List FileA):z12 (ByteArray.mk #[]) fs=fs.map (·.name):=List.filter_eq_self.2 λs _=>zzu s
theorem zzb (fs:List FileA):fs.map (z2z (fs.map (·.name)))=fs.map (z4d []):=by
 refine List.map_congr_left λf hf=>?_
 unfold z2z z4d
 rw [if_pos (show ((fs.map (·.name)).any λm=>decide (m=f.name))=true by simp;exact ⟨f,hf,rfl⟩),if_pos (show zbs [] f.name=true from rfl)]
 rfl
theorem zwp {ns:List ByteArray} (h:ns≠[]) (fs:List FileA):fs.map (z2z ns)=fs.map (z4d ns):=by
 refine List.map_congr_left λf hf=>?_
 have e:zbs ns f.name=ns.any (λm=>decide (m=f.name)):=by
  unfold zbs
  cases ns with
  | nil=>exact absurd rfl h
  | cons _ _=>rfl
 unfold z2z z4d
 rw [e];rfl
theorem zyr {fs:List FileA} {g:FileA->FileA} (hn:∀ f,(g f).name=f.name) (n:ByteArray):z24 (fs.map g) n=z24 fs n:=by
 unfold z24
 rw [List.any_map]
 congr 1
 funext f
 show decide ((g f).name=n)=_
 rw [hn]
section
variable {w:World} {l r r0:List HP} {d:Nat} {A:DiskA}
theorem z07i (nx:Sl) (ns:List ByteArray) [hns:FocR r nx 1 (ns.flatMap z2h)] (hlen:ns.length<=100000) [hf:Fo l dk d A r] (hs:Sat w l) :
  Ret P F.a31 #[.pointer (some ⟨d,0,none⟩),nx.v] w λvs w'=>vs=[.int .i64 (z20 A ns).1]/\Sat w' (dk d (z20 A ns).2::r) :=
 ztx _ nx <| by
  delta z08h AC AK AN AP AR Aa Ac Ad Af Ag Ai Ak Al Am An Ao Aq B2 B3 Be Bf;unfold z20
  refine zgy hs (λhg w' hs=>?_) λhg w' hs=>?_
  ·rw [if_pos hg];exact ⟨rfl,hs⟩
  rw [if_neg (by rw [hg];simp)]
  have hpl:=hs.slen nx (xs:=ns) (enc:=z2h)
  have hok0:okA A:=by obtain ⟨m,FS,hp,hok,hs⟩:=z2c hs;exact hok
  refine zl (λv w'=>ns.all (z24 A.fs)=true/\Sat w' (dk d A::r)) ?_ ?_
  ·refine z03 (λk v w=>∃ i:Nat,v=((i:Int),())/\i<=ns.length/\ns.length-i=k/\(ns.take i).all (z24 A.fs)=true/\Sat w (dk d A::r)) ns.length ⟨0,rfl,by omega,rfl,rfl,hs⟩ ?_
   clear hs
   rintro k _ w ⟨i,rfl,hi,hk,hall,hs⟩
   refine zk ?_
   refine zh (λhc=>?_) λhc=>?_
   ·have hil:i<ns.length:=by omega
    refine z1z hs i hil ?_
    have htk:(ns.take (i+1)).all (z24 A.fs)=z24 A.fs ns[i]:=by
     rw [List.take_add_one,List.getElem?_eq_getElem hil,List.all_append,hall];simp
    obtain ⟨m,FS,hp,hok,hs⟩:=z2c hs
    (repeat (first|with_reducible (first|refine zk ?_|refine zj ?_|refine z0j ?_|refine z8 hs ?_|refine zg hs ?_|refine ze ?_|refine zv hs λ_ hs=>?_|refine zn hs λ_ _ hs=>?_|refine zq hs λ_ _ hs=>?_|refine z02 hs λ_ hs=>?_|refine zm hs λ_ hs=>?_)|(apply wp_must;(focus first|trivial|omega|assumption))|refine z1a ?_|refine wp_lt ?_))
    refine z7t hs (λb hb=>?_) λhb=>?_
    ·obtain ⟨t,ht,rfl,hnm,hA⟩:=z9j hp hb
     refine zu ?_ (by simp)
     refine z1k (us':=[.int .i64 ((i+1:Nat):Int)]) (by (try simp (disch:=omega) only [w64]);first|rfl|(congr;omega)) ?_
     refine z0l (ns.length-(i+1)) ?_
     exact ⟨i+1,rfl,by omega,rfl,by rw [htk];exact z65.2 ⟨_,hA,hnm⟩,z2g m hp hok hs⟩
    ·refine z0p ?_ (by rfl)
     refine zo (zo ?_)
     have:ns.all (z24 A.fs)=false:=by
      rw [<- List.take_append_drop (i+1) ns,List.all_append,htk,z67.2 (z81 hp hb)];rfl
     rw [if_pos this]
     exact ⟨rfl,rfl,z2g m hp hok hs⟩
   ·refine zo (zf ⟨?_,hs⟩)
    rwa [List.take_of_length_le (by omega)] at hall
  clear hs
  rintro _ w ⟨hall,hs⟩
  refine zk ?_
  rw [if_neg (by rw [hall];simp)]
  refine zl (λv w'=>∃ (nx1:Sl) (ns1:List ByteArray) (r1:List HP),v=(nx1,())/\ns1.length<=100000/\ns1.all (z24 A.fs)=true/\A.fs.map (z2z ns1)=A.fs.map (z4d ns)/\(∃ h:FocR (slc T.a54 1 nx1 (ns1.flatMap z2h)::r) nx1 1 (ns1.flatMap z2h),True) /\
    (Sat w' (dk d A::r1))/\(r1=r/\(∃ _h:FocR r nx1 1 (ns1.flatMap z2h),True)\/r1=slc T.a54 1 nx1 (ns1.flatMap z2h)::r)) ?_ ?_
  ·refine zh (λh=>?_) λh=>?_
   ·have hnil:ns=[]:=List.length_eq_zero_iff.1 (by omega)
    subst hnil
    refine zb (zqo (ByteArray.mk #[]) hs) λ_ _ hs=>?_
    obtain ⟨x,rfl,hs⟩:=hs
    refine zd ?_
    refine zf ?_
    refine ⟨x,z12 (ByteArray.mk #[]) A.fs,_,rfl,?_,?_,?_,⟨inferInstance,trivial⟩,(hs.pick [1]),.inr rfl⟩
    ·rw [zc9,List.length_map];have:=hok0.many;omega
    ·rw [zc9,List.all_map,List.all_eq_true]
     exact λf hf=>z65.2 ⟨f,hf,rfl⟩
    ·rw [zc9];exact zzb A.fs
   ·refine zf ?_
    refine ⟨nx,ns,r,rfl,hlen,hall,zwp (λe=>by subst e;simp at hpl;omega) A.fs,⟨inferInstance,trivial⟩,hs,.inl ⟨rfl,hns,trivial⟩⟩
  clear hs
  rintro _ w ⟨nx1,ns1,r1,rfl,hlen1,hall1,hmark,-,hs,hr1⟩
  refine zk ?_
  have hR1:FocR r1 nx1 1 (ns1.flatMap z2h):=by
   rcases hr1 with ⟨rfl,h,-⟩|rfl
   ·exact h
   ·infer_instance
  have hsub:∀ {H:HP} {w:World},Sat w (H::r1)->Sat w (H::r):=λ{H w} h=>by
   rcases hr1 with ⟨rfl,-⟩|rfl
   ·exact h
   ·exact h.sub
  have hpl1:=hs.slen nx1 (xs:=ns1) (enc:=z2h)
  refine zl (λv w'=>Sat w' (dk d { A with fs:=A.fs.map (z2z ns1) }::r1)) ?_ ?_
  ·refine z03 (λk v w=>∃ i:Nat,v=((i:Int),())/\i<=ns1.length/\ns1.length-i=k/\Sat w (dk d { A with fs:=A.fs.map (z2z (ns1.take i)) }::r1)) ns1.length ⟨0,rfl,by omega,rfl,by rw [List.take_zero,zwo,List.map_id];exact hs⟩ ?_
   clear hs
   rintro k _ w ⟨i,rfl,hi,hk,hs⟩
   refine zk ?_
   refine zh (λhc=>?_) λhc=>?_
   ·have hil:i<ns1.length:=by omega
    refine z1z hs i hil ?_
    obtain ⟨m,FS,hp,hok,hs⟩:=z2c hs
    (repeat (first|with_reducible (first|refine zk ?_|refine zj ?_|refine z0j ?_|refine z8 hs ?_|refine zg hs ?_|refine ze ?_|refine zv hs λ_ hs=>?_|refine zn hs λ_ _ hs=>?_|refine zq hs λ_ _ hs=>?_|refine z02 hs λ_ hs=>?_|refine zm hs λ_ hs=>?_)|(apply wp_must;(focus first|trivial|omega|assumption))|refine z1a ?_|refine wp_lt ?_))
    refine z7t hs (λb hb=>?_) λhb=>?_
    ·obtain ⟨t,ht,rfl,hnm,hA⟩:=z9j hp hb
     obtain ⟨FS',hpm,hs⟩:=z7j hs ht
     obtain ⟨h1,h2,-⟩:=apart hp hok hpm
     (repeat (first|with_reducible (first|refine zk ?_|refine zj ?_|refine z0j ?_|refine z8 hs ?_|refine zg hs ?_|refine ze ?_|refine zv hs λ_ hs=>?_|refine zn hs λ_ _ hs=>?_|refine zq hs λ_ _ hs=>?_|refine z02 hs λ_ hs=>?_|refine zm hs λ_ hs=>?_)|(apply wp_must;(focus first|trivial|omega|assumption))|refine z1a ?_|refine wp_lt ?_))
     rw [hs.slen t.x (xs:=t.f.b) (enc:=zi)] at hs
     have hs:=z6q (FS:=FS') ⟨t.at_,t.x,z9c t.f⟩ hs
     have hs:Sat _ (z1e ekS evF m (((⟨t.at_,t.x,z9c t.f⟩:FileM)::FS').map λt=>(t.f.name,t.at_))::_):=(hs.pick [2]).mapPerm (hpm.map λt=>(t.f.name,t.at_))
     have hstep:(A.fs.map (z2z (ns1.take i))).map (z1y t.f.name z9c)=A.fs.map (z2z (ns1.take (i+1))):=by
      rw [List.map_map,List.take_add_one,List.getElem?_eq_getElem hil]
      refine List.map_congr_left λf _=>?_
      show z1y t.f.name z9c (z2z _ f)=_
      rw [zsi,hnm];rfl
     have hp':(((⟨t.at_,t.x,z9c t.f⟩:FileM)::FS').map FileM.f).Perm (A.fs.map (z2z (ns1.take (i+1)))):=by
      rw [<- hstep]
      exact (z78 (g:=z9c) h1 h2).symm
     refine z1k (us':=[.int .i64 ((i+1:Nat):Int)]) (by (try simp (disch:=omega) only [w64]);first|rfl|(congr;omega)) ?_
     refine z0l (ns1.length-(i+1)) ?_
     refine ⟨i+1,rfl,by omega,rfl,?_⟩
     exact z2g m (A:={ A with fs:=A.fs.map (z2z (ns1.take (i+1))) }) hp' (zqr hok0 (zc7 _) (zi2 _) (zsh _)) hs (by rw [zci (zi2 _),zci (zi2 _)])
    ·exfalso
     have h3:=z67.2 (z81 hp hb)
     have h4:z24 A.fs ns1[i]=true:=List.all_eq_true.1 hall1 _ (List.getElem_mem hil)
     rw [zyr (zc7 _),h4] at h3
     cases h3
   ·refine zo (zf ?_)
    rwa [List.take_of_length_le (by omega)] at hs
  clear hs
  rintro _ w hs
  refine zk ?_
  rw [hmark] at hs
  obtain ⟨m,FS,hp,hok,hs⟩:=z2c (hsub hs)
  have hs:Sat w (pt d (.cells #[.int .i64 A.left,.bool A.gone,.int .i64 A.room,.int .i64 (used (A.fs.map (z4d ns))),.map (some m)] T.a8)::_):=hs
  (repeat (first|with_reducible (first|refine zk ?_|refine zj ?_|refine z0j ?_|refine z8 hs ?_|refine zg hs ?_|refine ze ?_|refine zv hs λ_ hs=>?_|refine zn hs λ_ _ hs=>?_|refine zq hs λ_ _ hs=>?_|refine z02 hs λ_ hs=>?_|refine zm hs λ_ hs=>?_)|(apply wp_must;(focus first|trivial|omega|assumption))|refine z1a ?_|refine wp_lt ?_))
  rw [hg] at hs
  refine zb (zcf (l':=r) (A:=A) hg hok hp hs) λ_ _ hs=>?_
  obtain ⟨rfl,hs⟩:=hs
  refine zd ?_
  exact ⟨rfl,rfl,hs⟩
end
theorem z00l {a b:List FileA} (h:a.Sublist b):used a<=used b:=by
 induction h with
 | slnil=>exact Nat.le_refl _
 | cons x _ ih=>rw [z23];omega
 | cons_cons x _ ih=>rw [z23,z23];omega
def z0r (fs:List FileA) (n:ByteArray):Option (List UInt8 × Nat):=(fs.find? λf=>decide (f.name=n)).map λf=>(f.b,f.kept)
theorem zw6 (n:ByteArray):z0r [] n=none:=rfl
theorem z3x (f:FileA) (fs:List FileA) (n:ByteArray):z0r (f::fs) n=if f.name=n then some (f.b,f.kept) else z0r fs n:=by
 unfold z0r
 rw [List.find?_cons]
 by_cases h:f.name=n
 ·simp [h]
 ·simp [h]
theorem zbz {fs:List FileA} {n:ByteArray}:z0r fs n=none↔∀ f ∈ fs,f.name≠n:=by
 unfold z0r
 rw [Option.map_eq_none_iff,List.find?_eq_none]
 simp
theorem zd3 {fs:List FileA} {f:FileA} (hn:(fs.map (·.name)).Nodup) (h:f ∈ fs):z0r fs f.name=some (f.b,f.kept):=by
 unfold z0r
 rw [zak hn h rfl]
 rfl
theorem zs6 {fs:List FileA} {n:ByteArray} {p:List UInt8 × Nat} (h:z0r fs n=some p):(⟨n,p.1,p.2⟩:FileA) ∈ fs:=by
 unfold z0r at h
 rw [Option.map_eq_some_iff] at h
 obtain ⟨f,hf,rfl⟩:=h
 have h1:=List.mem_of_find?_eq_some hf
 have h2:=List.find?_some hf
 have h2:f.name=n:=by simpa using h2
 subst h2
 exact h1
theorem z7x {fs:List FileA} {n:ByteArray}:z24 fs n=(z0r fs n).isSome:=by
 unfold z24 z0r
 rw [Option.isSome_map,Bool.eq_iff_iff,List.any_eq_true,List.find?_isSome]
theorem zj4 (n:ByteArray) (g:FileA->FileA) (hg:∀ f,(g f).name=f.name) (m:ByteArray):∀ fs:List FileA,
  z0r (fs.map (z1y n g)) m=if m=n then (z0r fs n).map λp=>((g ⟨n,p.1,p.2⟩).b,(g ⟨n,p.1,p.2⟩).kept) else z0r fs m
 | []=>by simp [zw6]
 | f::fs=>by
  rw [List.map_cons,z3x,zj4 n g hg m fs,z3x,z3x,z9b hg]
  by_cases h1:m=n
  ·subst h1
   rw [if_pos rfl,if_pos rfl]
   by_cases h2:f.name=m
   ·rw [if_pos h2,if_pos h2]
    subst h2
    unfold z1y
    rw [if_pos rfl]
    rfl
   ·rw [if_neg h2,if_neg h2]
  ·rw [if_neg h1,if_neg h1]
   by_cases h2:f.name=m
   ·rw [if_pos h2,if_pos h2]
    unfold z1y
    rw [if_neg (by rw [h2];exact h1)]
   ·rw [if_neg h2,if_neg h2]
theorem zj3 (x:FileA) (m:ByteArray):∀ {fs:List FileA},(∀ f ∈ fs,f.name≠x.name)->z0r (z4h x fs) m=if m=x.name then some (x.b,x.kept) else z0r fs m
 | [],_=>by
  show z0r [x] m=_
  rw [z3x]
  by_cases h:m=x.name
  ·rw [if_pos h.symm,if_pos h]
  ·rw [if_neg h,if_neg λe=>h e.symm]
 | f::fs,h=>by
  have hf:=h f (List.mem_cons_self ..)
  have ih:=zj3 x m (fs:=fs) λg hg=>h g (List.mem_cons_of_mem _ hg)
  unfold z4h
  split
  ·rw [z3x]
   by_cases h:m=x.name
   ·rw [if_pos h.symm,if_pos h]
   ·rw [if_neg h,if_neg λe=>h e.symm]
  ·rw [z3x,ih,z3x]
   by_cases h:m=x.name
   ·subst h;simp [hf]
   ·rw [if_neg h,if_neg h]
theorem zgk (ns:List ByteArray) (m:ByteArray):∀ fs:List FileA,z0r (fs.map (z4d ns)) m=(z0r fs m).map λp=>if zbs ns m then (p.1,p.1.length) else p
 | []=>rfl
 | f::fs=>by
  have hn:(z4d ns f).name=f.name:=by unfold z4d;split <;> rfl
  rw [List.map_cons,z3x,zgk ns m fs,z3x,hn]
  by_cases h:f.name=m
  ·subst h
   rw [if_pos rfl,if_pos rfl]
   unfold z4d
   split
   ·rename_i h;simp [h]
   ·rename_i h;simp [h]
  ·rw [if_neg h,if_neg h]
theorem zg8 {A:DiskA} {n:ByteArray} {bs:List UInt8} (h:(z0a A n bs).1≠0):(z0a A n bs).2=A:=by
 unfold z0a at h ⊢
 split
 ·rfl
 ·split
  ·rfl
  ·split
   ·rfl
   ·rename_i h1 h2 h3
    rw [if_neg h1,if_neg h2,if_neg h3] at h
    exact absurd rfl h
theorem ziq {A:DiskA} {n:ByteArray} {bs:List UInt8} (hok:okA A) (h:(z0a A n bs).1=0):A.gone=false/\z5k n=true/\bs.length<=A.free/\okA (z0a A n bs).2 /\
  (z0a A n bs).2.room=A.room/\used (z0a A n bs).2.fs=used A.fs+bs.length /\
  ∀ m,z0r (z0a A n bs).2.fs m=if m=n then some (((z0r A.fs n).map Prod.fst).getD []++bs,((z0r A.fs n).map Prod.snd).getD 0) else z0r A.fs m:=by
 unfold z0a at h ⊢
 split at h
 ·cases h
 rename_i h1
 split at h
 ·cases h
 rename_i h2
 split at h
 ·cases h
 rename_i h3
 rw [if_neg h1,if_neg h2,if_neg h3]
 have hn:z5k n=true:=by simpa using h2
 have h4:=zh0 hok hn (bs:=bs) (by omega) (λhh=>h3 (.inr hh))
 refine ⟨by simpa using h1,hn,by omega,zfv h4,by rw [zgf],?_,λm=>?_⟩
 ·rw [z8a]
  show used (if z24 A.fs n=true then _ else _)=_
  have hnd:=z3g hok.sorted
  split
  ·rename_i hh
   obtain ⟨f,hf,rfl⟩:=z65.1 hh
   obtain ⟨s,u,hsu⟩:=List.append_of_mem hf
   have hp:A.fs.Perm (f::(s++u)):=by rw [hsu];exact List.perm_middle
   have hne:∀ g ∈ s++u,g.name≠f.name:=λg hg e=>by
    have h5:=(hp.map (·.name)).nodup_iff.1 hnd
    rw [List.map_cons,List.nodup_cons] at h5
    exact h5.1 (List.mem_map.2 ⟨g,hg,e⟩)
   rw [zcj hp hne,z44 hp,z23,List.length_append]
   omega
  ·rw [z44 (z6a _ _),z23]
   show bs.length+_=_
   omega
 ·rw [z8a]
  show z0r (if z24 A.fs n=true then _ else _) m=_
  split
  ·rename_i hh
   rw [zj4 n (λf=>{ f with b:=f.b++bs }) (λf=>rfl)]
   by_cases hm:m=n
   ·rw [if_pos hm,if_pos hm]
    rw [z7x] at hh
    obtain ⟨p,hp⟩:=Option.isSome_iff_exists.1 hh
    rw [hp]
    rfl
   ·rw [if_neg hm,if_neg hm]
  ·rename_i hh
   have hh:z24 A.fs n=false:=by simpa using hh
   rw [zj3 _ _ (z67.1 hh)]
   by_cases hm:m=n
   ·rw [if_pos hm,if_pos hm,zbz.2 (z67.1 hh)]
    rfl
   ·rw [if_neg hm,if_neg hm]
theorem zg2 {A:DiskA} {n:ByteArray}:((z20 A [n]).1=0/\A.gone=false/\(z0r A.fs n).isSome=true/\(z20 A [n]).2=z34 { A with fs:=A.fs.map (z4d [n]) })\/((z20 A [n]).1=9/\A.gone=true/\(z20 A [n]).2=A)\/((z20 A [n]).1=3/\A.gone=false/\z0r A.fs n=none/\(z20 A [n]).2=A):=by
 unfold z20
 split
 ·exact .inr (.inl ⟨rfl,by assumption,rfl⟩)
 ·rename_i h
  have hg:A.gone=false:=by simpa using h
  split
  ·rename_i h2
   refine .inr (.inr ⟨rfl,hg,?_,rfl⟩)
   simp only [List.all_cons,List.all_nil,Bool.and_true] at h2
   rw [z7x] at h2
   cases hq:z0r A.fs n with
   | none=>rfl
   | some q=>rw [hq] at h2;cases h2
  ·rename_i h2
   refine .inl ⟨rfl,hg,?_,rfl⟩
   simp only [List.all_cons,List.all_nil,Bool.and_true] at h2
   rw [z7x] at h2
   cases hq:z0r A.fs n with
   | none=>rw [hq] at h2;exact absurd rfl h2
   | some q=>rfl
theorem zzh {A:DiskA} (hok:okA A) (ns:List ByteArray):okA { A with fs:=A.fs.map (z4d ns) } :=
 zqr hok (λf=>by unfold z4d;split <;> rfl) (λf=>by unfold z4d;split <;> rfl) (λf h=>by unfold z4d;split;exact Nat.le_refl _;exact h)
theorem zvq (n m:ByteArray):zbs [n] m=decide (n=m):=by
 unfold zbs
 simp
theorem z05k {A:DiskA} {n:ByteArray} (hok:okA A) (h:(z20 A [n]).1=0):A.gone=false/\okA (z20 A [n]).2/\(z20 A [n]).2.room=A.room/\used (z20 A [n]).2.fs=used A.fs/\(z20 A [n]).2.fs.length=A.fs.length /\
  ∀ m,z0r (z20 A [n]).2.fs m=(z0r A.fs m).map λp=>if n=m then (p.1,p.1.length) else p:=by
 rcases zg2 (A:=A) (n:=n) with ⟨h1,h2,h3,h4⟩|⟨h1,-,-⟩|⟨h1,-,-,-⟩
 ·rw [h4]
  refine ⟨h2,zfv (zzh hok _),by rw [zgf],?_,?_,λm=>?_⟩
  ·rw [z8a]
   exact zci λf=>by unfold z4d;split <;> rfl
  ·rw [z8a]
   exact List.length_map ..
  ·rw [z8a]
   show z0r (A.fs.map (z4d [n])) m=_
   rw [zgk]
   congr 1
   funext p
   rw [zvq]
   by_cases hm:n=m <;> simp [hm]
 ·rw [h1] at h;cases h
 ·rw [h1] at h;cases h
def z4x (e:EntA):List Value:=[.int .i64 e.offset,.int .i64 e.place,.int .i64 e.before]
instance:EncA z4x [.int .i64,.int .i64,.int .i64] (λe=>(e.offset,e.place,e.before,())):=⟨λ_=>rfl⟩
instance:EncN z4x 3:=⟨λ_=>rfl,by decide,by simp [z4x,Value.oneCell']⟩
instance:EncF z4x 0 (.int .i64) (λe=>e.offset):=⟨λ_=>rfl⟩
instance:EncF z4x 1 (.int .i64) (λe=>e.place):=⟨λ_=>rfl⟩
structure okX (X:IdxA):Prop where
 gap:1<=X.gap/\X.gap<=4194304
 place : -1<=X.place/\X.place<=4194304
 ent:∀ e ∈ X.l,0<=e.place/\e.place<=X.place
 len:(X.l.length:Int)<=X.place+1
def z2n (b:Nat) (X:IdxA):HP:=HP.ex λz:Sl=>HP.and (okX X) (HP.star (pt b (.cells #[.int .i64 X.offset,.int .i64 X.place,.int .i64 X.late,.int .i64 X.gap,.slice z.a z.len z.cap] T.a11)) (slc T.a10 3 z (X.l.flatMap z4x)))
section
variable {w:World} {l r:List HP} {b:Nat} {X:IdxA}
theorem zfn (hs:Sat w (z2n b X::l)):∃ z:Sl,okX X/\Sat w (pt b (.cells #[.int .i64 X.offset,.int .i64 X.place,.int .i64 X.late,.int .i64 X.gap,.slice z.a z.len z.cap] T.a11)::slc T.a10 3 z (X.l.flatMap z4x)::l):=by
 obtain ⟨z,hs⟩:=hs.ex
 obtain ⟨h,hs⟩:=hs.and
 exact ⟨z,h,hs.star⟩
theorem z90 (X:IdxA) {z:Sl} (h:okX X) (hs:Sat w (pt b (.cells #[.int .i64 X.offset,.int .i64 X.place,.int .i64 X.late,.int .i64 X.gap,.slice z.a z.len z.cap] T.a11)::slc T.a10 3 z (X.l.flatMap z4x)::l)):Sat w (z2n b X::l) :=
 .ex_mk z (.and_mk h (.star_mk hs))
theorem z0ao {gap:Int} (h:1<=gap/\gap<=4194304):okX (zdd gap):=⟨h,by show -1<=(-1:Int)/\(-1:Int)<=4194304;omega,(λ_ h=>by cases h),by show (0:Int) <= -1+1;omega⟩
theorem z06o (gap:Int) (h:1<=gap/\gap<=4194304) (hs:Sat w l):Ret P F.a49 #[.int .i64 gap] w λvs w'=>∃ b,vs=[.pointer (some ⟨b,0,none⟩),.int .i64 0]/\Sat w' (z2n b (zdd gap)::l) :=
 zug gap <| by
  delta z090 A8 Ac Ad Ak Al As
  refine zu ?_
  refine zq hs λa w' hs=>?_
  refine ⟨rfl,a,rfl,?_⟩
  have h0:Sat w' (slc T.a10 3 ⟨none,0,0⟩ ((zdd gap).l.flatMap z4x)::_):=hs.slc_nil
  exact z90 (zdd gap) (z:=⟨none,0,0⟩) (z0ao h) (h0.pick [1])
theorem z06n (o p t:Int) (hs:Sat w l):Ret P F.a50 #[.int .i64 o,.int .i64 p,.int .i64 t] w λvs w'=>vs=[.bool (decide (zc8 o p t))]/\Sat w' l :=
 zuh o p t <| by
  delta z091 Ad Ay
  refine wp_lt ?_
  refine ⟨rfl,?_,hs⟩
  congr 2
  rw [Bool.eq_iff_iff,decide_eq_true_iff (p:=zc8 o p t)]
  unfold zc8
  simp only [Bool.and_eq_true,decide_eq_true_eq]
  constructor
  ·rintro ⟨⟨⟨⟨⟨h1,h2⟩,h3⟩,h4⟩,h5⟩,h6⟩
   exact ⟨⟨h1,h2⟩,⟨h3,h4⟩,h5,h6⟩
  ·rintro ⟨⟨h1,h2⟩,⟨h3,h4⟩,h5,h6⟩
   exact ⟨⟨⟨⟨⟨h1,h2⟩,h3⟩,h4⟩,h5⟩,h6⟩
theorem zzj {X:IdxA} (h:okX X) {o p t:Int} (hm:zc8 o p t) (h2:¬ (o<=X.offset\/p<=X.place)):okX ⟨o,p,max X.late t,X.gap,z4r X o p⟩:=by
 obtain ⟨h3,h4,h5,h6⟩:=h
 obtain ⟨-,hp,-⟩:=hm
 refine ⟨h3,by show -1<=p/\p<=4194304;omega,λe he=>?_,?_⟩
 ·show 0<=e.place/\e.place<=p
  have he:e ∈ z4r X o p:=he
  unfold z4r at he
  split at he
  ·rcases List.mem_append.1 he with he|he
   ·have:=h5 e he;omega
   ·simp at he;subst he;simp only;omega
  ·have:=h5 e he;omega
 ·show ((z4r X o p).length:Int)<=p+1
  unfold z4r
  split
  ·rw [List.length_append];simp only [List.length_cons,List.length_nil];omega
  ·omega
theorem z06x (o p t:Int) (ho : -9223372036854775808<=o/\o<9223372036854775808) (hp : -9223372036854775808<=p/\p<9223372036854775808) [hf:Fo l z2n b X r] (hs:Sat w l) :
  Ret P F.a47 #[.pointer (some ⟨b,0,none⟩),.int .i64 o,.int .i64 p,.int .i64 t] w λvs w'=>vs=[.int .i64 (zaq X o p t).1]/\Sat w' (z2n b (zaq X o p t).2::r) :=
 zue _ o p t <| by
  delta z08y AF AG AK AN Aa Ab Ac Ad Ae Af Ag Ai Aj Ak An Ao Ap Au Aw Bc Bq
  have hs:=hs.perm hf.perm
  refine wp_lt ?_
  refine zu ?_ (by simp)
  refine zb (z06n o p t hs) λ_ w' hs=>?_
  obtain ⟨rfl,hs⟩:=hs
  refine zd ?_
  refine wp_lt ?_
  unfold zaq
  refine zh (λh=>?_) λh=>?_
  ·have h:¬ zc8 o p t:=by simpa using h
   rw [if_pos h]
   exact ⟨rfl,rfl,hs⟩
  have h:zc8 o p t:=by simpa using h
  rw [if_neg (λhh=>hh h)]
  obtain ⟨z,hok,hs⟩:=zfn hs
  have hl:=hs.slen z (xs:=X.l) (enc:=z4x)
  refine zj ?_
  refine z8 hs ?_
  refine z0j ?_
  refine z8 hs ?_
  refine wp_lt ?_
  refine zh (λh2=>?_) λh2=>?_
  ·rw [if_pos h2]
   exact ⟨rfl,rfl,z90 X hok hs⟩
  rw [if_neg h2]
  have hok2:=zzj hok h h2
  have hlen:=hok.len
  have hpl:=hok.place
  refine zj ?_
  refine z8 hs ?_
  refine wp_lt ?_
  refine zv hs λw' hs=>?_
  refine z0j ?_
  refine z8 hs ?_
  have hgl:∀ (h0:X.l≠[]),X.l.getLast? = some (X.l[X.l.length-1]'(by have:=List.length_pos_iff.2 h0;omega)):=λh0=>by
   have:=List.length_pos_iff.2 h0
   rw [List.getLast?_eq_getElem?,List.getElem?_eq_getElem (by omega)]
  refine zcl (xs:=X.l) (enc:=z4x) hs (match X.l.getLast? with|none=>0|some e=>e.place) (λhg=>?_) ?_
  ·have h0:X.l≠[]:=by
    rintro h0
    rw [h0] at hl
    rw [hl] at hg
    cases hg
   have:=List.length_pos_iff.2 h0
   refine ⟨X.l.length-1,by omega,?_,?_⟩
   ·rw [w64 (by omega) (by omega)];omega
   ·rw [hgl h0]
  refine z0j ?_
  refine z8 hs ?_
  refine ze ?_
  refine zl (λ_ w'=>∃ z':Sl,Sat w' (pt b (.cells #[.int .i64 X.offset,.int .i64 X.place,.int .i64 X.late,.int .i64 X.gap,.slice z'.a z'.len z'.cap] T.a11)::slc T.a10 3 z' ((z4r X o p).flatMap z4x)::r)) ?_ ?_
  ·have hnew:zzd X p=true↔(((z.len:Nat):Int)=0\/IntKind.wrap .i64 (p-match X.l.getLast? with|none=>0|some e=>e.place)>=X.gap):=by
    unfold zzd
    by_cases h0:X.l=[]
    ·rw [h0]
     simp only [List.getLast?_nil,true_iff]
     left
     rw [hl,h0];rfl
    ·rw [hgl h0]
     have hlp:=List.length_pos_iff.2 h0
     have hb:=hok.ent _ (List.getElem_mem (show X.l.length-1<X.l.length by omega))
     simp only [decide_eq_true_eq]
     rw [w64 (by omega) (by omega)]
     omega
   unfold z4r
   refine zh (λh3=>?_) λh3=>?_
   ·rw [if_pos (hnew.2 h3)]
    refine zl (λq w'=>∃ z':Sl,q=(z',())/\Sat w' (slc T.a10 3 z' ((X.l++[(⟨o,p,X.late⟩:EntA)]).flatMap z4x)::pt b (.cells #[.int .i64 X.offset,.int .i64 X.place,.int .i64 X.late,.int .i64 X.gap,.slice z.a z.len z.cap] T.a11)::r)) ?_ ?_
    ·refine zv hs λw' hs=>?_
     refine zj ?_
     refine z14 hs ?_
     refine zj ?_
     refine z8 hs ?_
     refine z7r hs (enc:=z4x) [(⟨o,p,X.late⟩:EntA)] λy w' hs=>⟨(by first|trivial|(repeat (first|exact trivial|exact λ_=>z08 hs|exact λ_=>z0f hs|refine And.intro ?_ ?_))),?_⟩
     refine ze ?_
     refine wp_app' (xs:=X.l) (ys:=[(⟨o,p,X.late⟩:EntA)]) (enc:=z4x) hs (λz' w' hs=>?_) (by simp only [List.length_cons,List.length_nil];omega)
     refine ze ?_
     exact zf ⟨z',rfl,hs.sub⟩
    ·rintro _ w2 ⟨z',rfl,hs⟩
     refine zj ?_
     refine z02 hs λw' hs=>?_
     exact zf ⟨z',hs.sub⟩
   ·rw [if_neg λhh=>h3 (hnew.1 hh)]
    exact zf ⟨z,hs⟩
  rintro _ w2 ⟨z',hs⟩
  refine zj ?_
  refine z8 hs ?_
  refine zj ?_
  have e:(if t>X.late then t else X.late)=max X.late t:=by split <;> omega
  rw [e]
  have hA:(Addr.add ⟨b,0,none⟩ 0)=⟨b,0,none⟩:=rfl
  rw [hA]
  refine z07x hs (by rfl) (by rfl) (by simp [Value.oneCell']) λw' hs=>⟨trivial,?_⟩
  refine ⟨rfl,rfl,?_⟩
  exact z90 ⟨o,p,max X.late t,X.gap,z4r X o p⟩ (z:=z') hok2 hs
theorem z03y (i:Int) (hi:i<X.l.length) [hf:Fo l z2n b X r] (hs:Sat w l) :
  Ret P F.a48 #[.pointer (some ⟨b,0,none⟩),.int .i64 i] w λvs w'=>vs=[.agg (z4x (if i<0 then ⟨0,0,0⟩ else X.l.getD i.toNat ⟨0,0,0⟩)).toArray,.bool (decide (0<=i))]/\Sat w' (z2n b X::r) :=
 zuf _ i <| by
  delta z08z AI AJ Aa Ac Ad Af Ag Bq Bw
  have hs:=hs.perm hf.perm
  refine zn hs λa w' hs=>?_
  refine zh (λh=>?_) λh=>?_
  ·refine zm hs λw' hs=>?_
   refine zg hs ?_
   rw [if_pos h]
   refine ⟨rfl,?_,hs.tail⟩
   rw [decide_eq_false (by omega)]
   rfl
  ·refine zj ?_
   obtain ⟨z,hok,hs⟩:=zfn (hs.pick [1])
   refine z8 hs ?_
   refine z1s hs (xs:=X.l) (enc:=z4x) i.toNat (by omega) ?_
   refine zm hs λw' hs=>?_
   refine zg hs ?_
   rw [if_neg h]
   refine ⟨rfl,?_,z90 X (z:=z) hok hs.sub⟩
   rw [decide_eq_true (by omega),List.getD_eq_getElem?_getD,List.getElem?_eq_getElem (by omega)]
   rfl
theorem zfz (n : Nat) (hn : n < 4611686018427387904) (f : FuncId) (cap : Array Value) (p : Nat → Bool) (hok : (P.funcs[f]?).any (fun fn => fn.body.isSome && fn.name != "runtime.NumGoroutine") = true)
  (hp:∀ (i:Nat) (w:World),i<n->Sat w l->Ret P f (#[.int .i64 (i:Int)]++cap) w λvs w'=>vs=[.bool (p i)]/\Sat w' l) (hs:Sat w l) :
  Ret P F.a159 #[.int .i64 (n:Int),.func (.func f) #[] cap] w λvs w'=>∃ i:Nat,i<=n/\(0<i->p (i-1)=false)/\(i<n->p i=true)/\vs=[.int .i64 (i:Int)]/\Sat w' l :=
 zoy _ _ <| by
  delta z02q AA AB Ac Ad Ai Ak Ao B8 Bp
  refine wp_lt ?_
  refine zl (λq w'=>∃ i:Nat,i<=n/\(0<i->p (i-1)=false)/\(i<n->p i=true)/\q=((i:Int),())/\Sat w' l) ?_ ?_
  rotate_left
  ·rintro _ w' ⟨i,h1,h2,h3,rfl,hs⟩
   refine wp_lt ?_
   exact ⟨rfl,i,h1,h2,h3,rfl,hs⟩
  refine z03 (λm v w=>∃ i j:Nat,v=((i:Int),((j:Int),()))/\i<=j/\j<=n/\j-i=m/\(0<i->p (i-1)=false)/\(j<n->p j=true)/\Sat w l) n ⟨0,n,rfl,by omega,by omega,rfl,(λh=>by omega),(λh=>by omega),hs⟩ ?_
  clear hs
  rintro m _ w ⟨i,j,rfl,hij,hjn,hm,h1,h2,hs⟩
  refine zk ?_
  refine zh (λhc=>?_) λhc=>?_
  rotate_left
  ·have:i=j:=by omega
   subst this
   exact zo (zf ⟨i,hjn,h1,h2,rfl,hs⟩)
  have hc:i<j:=by omega
  have e:IntKind.wrap .i64 (Int.fdiv (IntKind.wrap .u64 (IntKind.wrap .i64 ((i:Int)+j))) 2)=(((i+j) / 2:Nat):Int):=by
   rw [w64 (x:=(i:Int)+j) (by omega) (by omega),zin (by omega) (by omega)]
   have:Int.fdiv ((i:Int)+j) 2=(((i+j) / 2:Nat):Int):=by
    rw [Int.fdiv_eq_ediv_of_nonneg _ (by omega)]
    omega
   rw [this,w64 (by omega) (by omega)]
  refine z1t (y:=(((i+j) / 2:Nat):Int)) ?_ e
  refine zxs hok (p ((i+j) / 2),()) (hp ((i+j) / 2) w (by omega) hs) rfl λw' hs=>⟨trivial,?_⟩
  refine zk ?_
  refine z4m ?_
  refine zh (λh3=>?_) λh3=>?_
  ·have h3:p ((i+j) / 2)=false:=by simpa using h3
   refine z1t (y:=(((i+j) / 2+1:Nat):Int)) ?_ (by rw [w64 (by omega) (by omega)];omega)
   refine z59 ?_
   refine z0l (j-((i+j) / 2+1)) ⟨(i+j) / 2+1,j,rfl,by omega,hjn,rfl,λ_=>by rw [Nat.add_sub_cancel];exact h3,h2,hs⟩
  ·have h3:p ((i+j) / 2)=true:=by simpa using h3
   refine wp_lt ?_
   refine z59 ?_
   refine z0l ((i+j) / 2-i) ⟨i,(i+j) / 2,rfl,by omega,by omega,rfl,h1,λ_=>h3,hs⟩
theorem z043 (i:Nat) (a0 a1:Nat) (o:Int) {r1 r2:List HP} {z:Sl} (hi:i<X.l.length) [h0:FocB l a0 (.cells [.pointer (some ⟨b,0,none⟩)].toArray T.a30) r1] [h1:FocB l a1 (.cells [.int .i64 o].toArray T.a14) r2]
  [h2:FocB l b (.cells [.int .i64 X.offset,.int .i64 X.place,.int .i64 X.late,.int .i64 X.gap,.slice z.a z.len z.cap].toArray T.a11) r] [h3:FocR l z 3 (X.l.flatMap z4x)] (hs:Sat w l) :
  Ret P F.a46 #[.int .i64 (i:Int),.pointer (some ⟨a0,0,none⟩),.pointer (some ⟨a1,0,none⟩)] w λvs w'=>vs=[.bool (decide (X.l[i].offset>o))]/\Sat w' l :=
 zud _ _ _ <| by
  delta z08x Aa Ab Ad Ae Af Ag Aj Ay Bl Bn
  refine zv hs λw' hs=>?_
  refine z8 hs ?_
  refine zj ?_
  refine z8 hs ?_
  refine zxu hs (xs:=X.l) (enc:=z4x) i hi ?_
  refine z8 hs ?_
  refine wp_lt ?_
  refine ze ?_
  exact ⟨rfl,rfl,hs⟩
def orE (o:Option EntA):EntA:=o.getD ⟨0,0,0⟩
theorem zw1 {l:List EntA} {i:Nat} (hi:i<=l.length):(if ((i:Int)-1)<0 then (⟨0,0,0⟩:EntA) else l.getD ((i:Int)-1).toNat ⟨0,0,0⟩)=orE (l.take i).getLast? /\ decide (0<=(i:Int)-1)=(l.take i).getLast?.isSome:=by
 rw [zxm hi]
 by_cases h:i=0
 ·subst h;exact ⟨rfl,rfl⟩
 ·rw [if_neg h,if_neg (by omega),List.getD_eq_getElem?_getD,show ((i:Int)-1).toNat=i-1 by omega,List.getElem?_eq_getElem (by omega)]
  exact ⟨rfl,decide_eq_true (by omega)⟩
theorem z06d (o:Int) (hm:X.l.Pairwise λa b=>a.offset<b.offset) [hf:Fo l z2n b X r] (hs:Sat w l) :
  Ret P F.a45 #[.pointer (some ⟨b,0,none⟩),.int .i64 o] w λvs w'=>vs=[.agg (z4x (orE (z3c X.l o))).toArray,.bool (z3c X.l o).isSome]/\Sat w' (z2n b X::r) :=
 zuc _ o <| by
  delta z08w A8 AC AI AJ AU Aa Ac Ad Ae Af Ag Aj Ak Al Ao As Av Ay Bq Bw
  have hs:=hs.perm hf.perm
  refine zq hs λa0 w' hs=>?_
  refine zq hs λa1 w' hs=>?_
  refine zn hs λa2 w' hs=>?_
  refine z8 hs ?_
  refine zu ?_ (by simp)
  refine zl (λq w'=>q=((z3c X.l o).isSome,())/\Sat w' (pt a2 (.cells [.int .i64 (orE (z3c X.l o)).offset,.int .i64 (orE (z3c X.l o)).place,.int .i64 (orE (z3c X.l o)).before].toArray T.a10)::z2n b X::r)) ?_ ?_
  rotate_left
  ·rintro _ w2 ⟨rfl,hs⟩
   refine zg hs ?_
   exact ⟨rfl,rfl,hs.tail⟩
  obtain ⟨z,hok,hs⟩:=zfn (hs.pick [3])
  have hl:=hs.slen z (xs:=X.l) (enc:=z4x)
  have hlen:=hok.len
  have hpl:=hok.place
  refine zv hs λw' hs=>?_
  refine z14 hs ?_
  refine z8 hs ?_
  refine zj ?_
  refine z8 hs ?_
  rw [hl]
  refine zb (zfz X.l.length (by omega) F.a46 #[.pointer (some ⟨a0,0,none⟩),.pointer (some ⟨a1,0,none⟩)] (λi=>decide ((X.l.getD i ⟨0,0,0⟩).offset>o)) (by kernel_rfl) (λi w hi hs=>?_) hs) λ_ w' hs=>?_
  ·have e:X.l.getD i ⟨0,0,0⟩=X.l[i]:=by rw [List.getD_eq_getElem?_getD,List.getElem?_eq_getElem hi];rfl
   simp only [e]
   exact z043 (X:=X) i a0 a1 o hi hs
  obtain ⟨i,hi,h1,h2,rfl,hs⟩:=hs
  refine zd ?_ (by first|trivial|(repeat (first|exact trivial|exact λ_=>z08 hs|exact λ_=>z0f hs|refine And.intro ?_ ?_)))
  refine ze ?_
  rw [w64 (by omega) (by omega)]
  replace hs:Sat _ (z2n b X::pt a2 (.cells [.int .i64 0,.int .i64 0,.int .i64 0].toArray T.a10)::pt a0 (.cells [.pointer (some ⟨b,0,none⟩)].toArray T.a30)::r):=z90 X (z:=z) hok hs.sub
  refine zb (z03y (b:=b) ((i:Int)-1) (by omega) hs) λ_ w' hs=>?_
  obtain ⟨rfl,hs⟩:=hs
  have hcut:z3c X.l o=(X.l.take i).getLast? := by
   unfold z3c
   rw [zha hi (hm.imp λ{a b} hab=>by simp only [decide_eq_true_eq];omega)]
   ·intro h h0
    have:=h1 h0
    rw [List.getD_eq_getElem?_getD,List.getElem?_eq_getElem h] at this
    have:decide (X.l[i-1].offset>o)=false:=this
    simpa using this
   ·intro h
    have:=h2 h
    rw [List.getD_eq_getElem?_getD,List.getElem?_eq_getElem h] at this
    have:decide (X.l[i].offset>o)=true:=this
    simpa using this
  obtain ⟨c1_,c2_⟩:=zw1 (l:=X.l) hi
  rw [c1_,c2_,<- hcut]
  refine ⟨((orE (z3c X.l o)).offset,(orE (z3c X.l o)).place,(orE (z3c X.l o)).before,(z3c X.l o).isSome,()),rfl,(by first|trivial|(repeat (first|exact trivial|exact λ_=>z08 hs|exact λ_=>z0f hs|refine And.intro ?_ ?_))),zkr _ _ _ _ ?_⟩
  refine zm hs λw' hs=>?_
  refine wp_lt ?_
  refine ze ?_
  exact zf ⟨rfl,hs.sub⟩
end
structure SegM where
 ix:Nat
 s:SegA
structure LogM where
 d:Nat
 pre:ByteArray
 seg:Int
 gap:Int
 z:Sl
 SM:List (Nat × SegM)
structure LogA where
 d:Nat
 pre:ByteArray
 seg:Int
 gap:Int
 l:List SegA
def LogM.l (M:LogM):List SegA:=M.SM.map λt=>t.2.s
def LogM.A (M:LogM):LogA:=⟨M.d,M.pre,M.seg,M.gap,M.l⟩
def z1o (b:Nat):List Value:=[.pointer (some ⟨b,0,none⟩)]
instance:Enc1 z1o .ptr (λb=>some ⟨b,0,none⟩):=⟨λ_=>rfl⟩
instance:EncN z1o 1:=⟨λ_=>rfl,by decide,by simp [z1o,Value.oneCell']⟩
def z0o (gap:Int) (a:Nat) (t:SegM):HP:=HP.star (pt a (.cells #[.pointer (some ⟨t.ix,0,none⟩),.int .i64 t.s.base,.int .i64 t.s.fin,.int .i64 (z0n t.s.bs),.int .i64 (z1g (-1) t.s.bs),.int .i64 (t.s.file.length:Nat)] T.a53)) (z2n t.ix (t.s.idx gap))
structure okM (gap seg:Int) (pre:ByteArray):Prop where
 gap:1<=gap/\gap<=4194304
 seg:64<=seg/\seg<=4194304
 pre:z5n pre=true
def lgQ (lg:Nat) (M:LogM):HP:=HP.and (okM M.gap M.seg M.pre) (HP.star (pt lg (.cells #[.pointer (some ⟨M.d,0,none⟩),.string M.pre,.int .i64 M.seg,.int .i64 M.gap,.slice M.z.a M.z.len M.z.cap] T.a52))
 (HP.star (slc T.a34 1 M.z ((M.SM.map Prod.fst).flatMap z1o)) (HP.all (M.SM.map λt=>z0o M.gap t.1 t.2))))
def lgP (lg:Nat) (A:LogA):HP:=HP.ex λM:LogM=>HP.and (M.A=A) (lgQ lg M)
def zzz:Option Nat->Option Addr
 | none=>none
 | some b=>some ⟨b,0,none⟩
section
variable {w:World} {l r:List HP} {lg:Nat} {M:LogM} {A:LogA} {gap:Int} {a:Nat} {t:SegM}
theorem z4b (hs:Sat w (z0o gap a t::l)):Sat w (pt a (.cells #[.pointer (some ⟨t.ix,0,none⟩),.int .i64 t.s.base,.int .i64 t.s.fin,.int .i64 (z0n t.s.bs),.int .i64 (z1g (-1) t.s.bs),.int .i64 (t.s.file.length:Nat)] T.a53)::z2n t.ix (t.s.idx gap)::l):=hs.star
theorem z2s (t:SegM) (hs:Sat w (pt a (.cells #[.pointer (some ⟨t.ix,0,none⟩),.int .i64 t.s.base,.int .i64 t.s.fin,.int .i64 (z0n t.s.bs),.int .i64 (z1g (-1) t.s.bs),.int .i64 (t.s.file.length:Nat)] T.a53)::z2n t.ix (t.s.idx gap)::l)):Sat w (z0o gap a t::l):=.star_mk hs
theorem z2y (hs:Sat w (lgQ lg M::l)):okM M.gap M.seg M.pre/\Sat w (pt lg (.cells #[.pointer (some ⟨M.d,0,none⟩),.string M.pre,.int .i64 M.seg,.int .i64 M.gap,.slice M.z.a M.z.len M.z.cap] T.a52)::slc T.a34 1 M.z ((M.SM.map Prod.fst).flatMap z1o)::HP.all (M.SM.map λt=>z0o M.gap t.1 t.2)::l):=by
 obtain ⟨h,hs⟩:=hs.and
 have hs:=hs.star
 exact ⟨h,((hs.pick [1]).star).pick [2]⟩
theorem z1n (M:LogM) (h:okM M.gap M.seg M.pre) (hs:Sat w (pt lg (.cells #[.pointer (some ⟨M.d,0,none⟩),.string M.pre,.int .i64 M.seg,.int .i64 M.gap,.slice M.z.a M.z.len M.z.cap] T.a52)::slc T.a34 1 M.z ((M.SM.map Prod.fst).flatMap z1o)::HP.all (M.SM.map λt=>z0o M.gap t.1 t.2)::l)):Sat w (lgQ lg M::l):=by
 refine .and_mk h (.star_mk ?_)
 exact ((hs.pick [1,1]).star_mk).pick [1]
theorem z8d (hs:Sat w (lgP lg A::l)):∃ M:LogM,M.A=A/\Sat w (lgQ lg M::l):=by
 obtain ⟨M,hs⟩:=hs.ex
 obtain ⟨h,hs⟩:=hs.and
 exact ⟨M,h,hs⟩
theorem z4p (M:LogM) (hs:Sat w (lgQ lg M::l)):Sat w (lgP lg M.A::l):=.ex_mk M (.and_mk rfl hs)
theorem zjb:∀ (j n:Nat),z30 (j+1) n=z68 (n / 16 ^ j % 16)::z30 j n
 | 0,n=>by simp [z30]
 | j+1,n=>by
  show z30 (j+1) (n / 16)++[z68 (n % 16)]=_
  rw [zjb j (n / 16)]
  have e:n / 16 / 16 ^ j=n / 16 ^ (j+1):=by rw [Nat.div_div_eq_div_mul,Nat.pow_succ,Nat.mul_comm]
  rw [e]
  rfl
theorem z05d (k:Nat) (c:UInt8):∀ (xs:List UInt8),(List.replicate (k+1) (0:UInt8)++xs).set k c=List.replicate k 0++c::xs:=by
 induction k with
 | zero=>intro xs;rfl
 | succ k ih=>intro xs;rw [List.replicate_succ,List.cons_append,List.set_cons_succ,ih,List.replicate_succ,List.cons_append]
theorem z0a4 (n:Nat) (h:n<18446744073709551616):BitVec.toNat (BitVec.ofInt 64 (n:Int) &&& BitVec.ofInt 64 15)=n % 16:=by
 rw [BitVec.ofInt_natCast,BitVec.toNat_and,BitVec.toNat_ofNat,Nat.mod_eq_of_lt h]
 show n &&& 15=n % 16
 exact Nat.and_two_pow_sub_one_eq_mod n 4
theorem z063 {k:Nat} (h:k<16):bt (ByteArray.mk #[48,49,50,51,52,53,54,55,56,57,97,98,99,100,101,102]) (k:Int)=(((z68 k).toNat:Nat):Int):=by
 have:∀ k:Fin 16,bt (ByteArray.mk #[48,49,50,51,52,53,54,55,56,57,97,98,99,100,101,102]) (k.val:Int)=(((z68 k.val).toNat:Nat):Int):=by decide +kernel
 exact this ⟨k,h⟩
theorem z07w {P:Program} {t el:TypeId} {bytes:Nat} {Q:Post} {S:World->Prop} {k:Sl->Prog} [ht:SlT P t el 1 bytes] [hz:Zer P el (.int .u8 0)] (n:Nat) (hs:Sat w l) (h:∀ x w',Sat w' (slc el 1 x ((List.replicate n (0:UInt8)).flatMap zi)::l)->(k x).wp P S w' Q) (hb:n*bytes<=281474976710656/\n<=9223372036854775807) (hS:∀ w',S w':=by exact λ_=>trivial) :
  (Prog.act (Instr.makeSlice t (.int .i64 (n:Int)) (.int .i64 (n:Int))) sL (u1 k)).wp P S w Q:=by
 obtain ⟨i,z,hi,h2,h3,h4,h5⟩:=ht.parts
 have hz':z=.int .u8 0:=by
  have:=hz.ok
  unfold zaf at this
  rw [hi] at this
  simp only at this
  rw [h4] at this
  exact Option.some.inj this
 have hrun:=run_make (P:=P) w t el i z ht.ok.1 hi h4 .i64 .i64 n n (by omega) (Int.le_refl _) (by rw [h3,<- Int.natCast_mul,Nat.mul_comm];omega) (by omega)
 simp only [Int.toNat_natCast] at hrun
 have hp:=hs.push (o:=.cells (madeCells z.cells (n*i.size)) el) (w':=w.alloc (.cells (madeCells z.cells (n*i.size)) el)) rfl
 refine ⟨(⟨some ⟨w.heap.size,0,none⟩,n,n⟩,()),_,hrun,hS _,h ⟨some ⟨w.heap.size,0,none⟩,n,n⟩ _ ?_⟩
 refine hp.imp λp hp=>.inr ⟨w.heap.size,0,_,_,rfl,hp,by rw [z2x,List.length_replicate],Nat.le_refl _,by rw [size_madeCells,h2];simp,λj hj=>?_,z2p _ _⟩
 rw [z2x,List.length_replicate,Nat.mul_one] at hj
 rw [h2,Nat.mul_one,Nat.zero_add,zal,hz']
 have e1:(madeCells (Value.int .u8 0).cells n)[j]? = some (.int .u8 0):=by
  rw [Array.getElem?_eq_getElem (by rw [size_madeCells];exact hj)]
  simp [madeCells,Value.cells,Nat.mod_one]
 rw [e1,List.getElem?_map,List.getElem?_replicate,if_pos hj]
 rfl
theorem z8f (base:Int) (h:0<=base/\base<17592186044416) (x:ByteArray) (hx:x.size<=100) {d_:Value} {seg gp:Value} {zz:Value} (pre:ByteArray) (hp:pre.size<=100) [hf:FocB l lg (.cells [d_,.string pre,seg,gp,zz].toArray T.a52) r] (hs:Sat w l) :
  Ret P F.a127 #[.pointer (some ⟨lg,0,none⟩),.int .i64 base,.string x] w λvs w'=>vs=[.string (zw pre base (bl x))]/\Sat w' l :=
 zob _ base x <| by
  delta z023 AB AK Aa Ac Ad Ae Ag Ai Aj Ak An Ao Ap Be Bf Bi
  refine z07w 11 hs (λz w' hs=>?_) (by omega)
  refine zl (λ_ w'=>Sat w' (slc T.a58 1 z ((z30 11 base.toNat).flatMap zi)::l)) ?_ ?_
  ·refine z03 (λm v w=>∃ j:Nat,v=(((base.toNat / 16 ^ j:Nat):Int),((10-(j:Int)),()))/\j<=11/\11-j=m/\Sat w (slc T.a58 1 z ((List.replicate (11-j) 0++z30 j base.toNat).flatMap zi)::l)) 11 ⟨0,by rw [Nat.pow_zero,Nat.div_one,Int.toNat_of_nonneg h.1];rfl,by omega,rfl,by simpa [z30] using hs⟩ ?_
   clear hs
   rintro m _ w ⟨j,rfl,hj,hm,hs⟩
   refine zk ?_
   refine zh (λhc=>?_) λhc=>?_
   rotate_left
   ·have:j=11:=by omega
    subst this
    exact zo (zf (by simpa using hs))
   have hj2:j<=10:=by omega
   have hb:base.toNat / 16 ^ j<18446744073709551616:=by
    have:=Nat.div_le_self base.toNat (16 ^ j)
    omega
   have hmod:=Nat.mod_lt (base.toNat / 16 ^ j) (show 0<16 by omega)
   rw [z0a4 _ hb,w64 (by omega) (by omega)]
   refine wp_must (by omega) ?_
   rw [z063 hmod]
   refine z07v hs (xs:=List.replicate (11-j) 0++z30 j base.toNat) (enc:=zi) (10-j) (by rw [List.length_append,List.length_replicate];omega) (z68 (base.toNat / 16 ^ j % 16)) λw' hs=>?_
   refine z1t (y:=((base.toNat / 16 ^ (j+1):Nat):Int)) ?_ ?_
   ·refine z1t (y:=10-((j+1:Nat):Int)) ?_ (by rw [w64 (by omega) (by omega)];omega)
    refine z0l (11-(j+1)) ⟨j+1,rfl,by omega,rfl,?_⟩
    have e:=z05d (10-j) (z68 (base.toNat / 16 ^ j % 16)) (z30 j base.toNat)
    rw [show 10-j+1=11-j by omega] at e
    rw [e,<- zjb] at hs
    rw [show 11-(j+1)=10-j by omega]
    exact hs
   ·rw [z8c _ (by omega)]
    show ((base.toNat / 16 ^ j / 16:Nat):Int)=_
    rw [Nat.div_div_eq_div_mul,<- Nat.pow_succ]
  clear hs
  rintro _ w hs
  refine zk ?_
  refine zv hs λw' hs=>?_
  refine zj ?_
  refine z8 hs ?_
  refine wp_must (by omega) ?_
  refine zn4 (bs:=z30 11 base.toNat) hs ?_
  have h11:=z7e 11 base.toNat
  have s1:(pre++ByteArray.mk #[45]).size=pre.size+1:=ByteArray.size_append ..
  have s2:(ByteArray.mk (z30 11 base.toNat).toArray).size=11:=h11
  refine wp_must (by omega) ?_
  have s3:(pre++ByteArray.mk #[45]++ByteArray.mk (z30 11 base.toNat).toArray).size=pre.size+12:=by rw [ByteArray.size_append,s1,s2]
  refine wp_must (by omega) ?_
  refine wp_lt ?_
  refine ze ?_
  refine ⟨rfl,?_,hs.tail⟩
  congr 2
  apply zgb
  rw [z88]
  unfold bl
  simp only [ByteArray.data_append,Array.toList_append,List.append_assoc]
  rfl
theorem z0ap {a d:Nat} (hd:d<16) (ha:a<576460752303423488):BitVec.toNat (BitVec.ofInt 64 ((a:Int)*16) ||| BitVec.ofInt 64 (d:Int))=16*a+d:=by
 have e:(a:Int)*16=((16*a:Nat):Int):=by omega
 rw [e,BitVec.ofInt_natCast,BitVec.ofInt_natCast,BitVec.toNat_or,BitVec.toNat_ofNat,BitVec.toNat_ofNat,Nat.mod_eq_of_lt (show 16*a<2 ^ 64 by omega),Nat.mod_eq_of_lt (show d<2 ^ 64 by omega)]
 exact (Nat.two_pow_add_eq_or_of_lt (i:=4) hd a).symm
theorem zhy:∀ {r:List UInt8} {x v k:Nat},z40 x r=some v->x<16 ^ k->v<16 ^ (k+r.length)
 | [],x,v,k,h,hx=>by simp [z40] at h;subst h;simpa using hx
 | c::r,x,v,k,h,hx=>by
  unfold z40 at h
  cases hd:z69 c with
  | none=>rw [hd] at h;cases h
  | some d =>
   rw [hd] at h
   have hd:=(z06l hd).2
   have:=zhy (k:=k+1) h (by rw [Nat.pow_succ];omega)
   rw [List.length_cons,show k+(r.length+1)=k+1+r.length by omega]
   exact this
theorem zbx (s:ByteArray) (i j:Nat):bl (s.extract i j)=((bl s).drop i).take (j-i):=by
 unfold bl
 rw [ByteArray.data_extract,Array.toList_extract,List.extract_eq_take_drop]
theorem zpv (n x:ByteArray) (hn:n.size<=1000) (hx:x.size<=100) {d_:Value} {seg gp:Value} {zz:Value} (pre:ByteArray) (hp:pre.size<=100) [hf:FocB l lg (.cells [d_,.string pre,seg,gp,zz].toArray T.a52) r] (hs:Sat w l) :
  Ret P F.a122 #[.pointer (some ⟨lg,0,none⟩),.string n,.string x] w λvs w'=>vs=[.int .i64 (((z1f pre n (bl x)).getD 0:Nat):Int),.bool (z1f pre n (bl x)).isSome]/\Sat w' l :=
 zo6 _ n x <| by
  delta z01y AA AB AT Aa Ac Ad Ag Ai Ak Ao Ap Au Ay Bd Be
  refine zj ?_
  refine z8 hs ?_
  have e1:IntKind.wrap .i64 (((ByteArray.size pre:Nat):Int)+1)=((pre.size+1:Nat):Int):=by rw [w64 (by omega) (by omega)];omega
  have e2:IntKind.wrap .i64 (((pre.size+1:Nat):Int)+11)=((pre.size+12:Nat):Int):=by rw [w64 (by omega) (by omega)];omega
  have e3:IntKind.wrap .i64 (((pre.size+12:Nat):Int)+((ByteArray.size x:Nat):Int))=((pre.size+12+x.size:Nat):Int):=by rw [w64 (by omega) (by omega)];omega
  rw [e1]
  refine wp_lt ?_
  rw [e2,e3]
  refine wp_must ?_ ?_
  ·intro h
   have h:((n.size:Nat):Int)=((pre.size+12+x.size:Nat):Int):=by simpa using h
   omega
  have hb:z1f pre n (bl x)=if n.size=pre.size+12+x.size/\(bl n).drop (pre.size+12)=bl x then z40 0 (((bl n).drop (pre.size+1)).take 11) else none:=by
   unfold z1f
   rw [z1i,z1i,z1i]
  refine zh (λh=>?_) λh=>?_
  ·have:z1f pre n (bl x)=none:=by
    rw [hb,if_neg]
    rintro ⟨h1,h2⟩
    rcases h with h|h
    ·apply h;rw [h1]
    ·apply h
     rw [Int.toNat_natCast]
     apply zgb
     rw [zbx,h2,List.take_of_length_le]
     rw [z1i];omega
   rw [this]
   exact ⟨rfl,rfl,hs⟩
  have h1:n.size=pre.size+12+x.size:=by
   have:¬ (((n.size:Nat):Int)≠((pre.size+12+x.size:Nat):Int)):=λhh=>h (.inl hh)
   omega
  have h2:(bl n).drop (pre.size+12)=bl x:=by
   have h3:ByteArray.extract n (pre.size+12) n.size=x:=by
    apply Decidable.byContradiction
    intro hh
    exact h (.inr (by rw [Int.toNat_natCast];exact hh))
   rw [<- h3,zbx,List.take_of_length_le]
   rw [List.length_drop,z1i];omega
  rw [if_pos ⟨h1,h2⟩] at hb
  refine wp_must (by omega) ?_
  rw [Int.toNat_natCast,Int.toNat_natCast]
  have h4:(ByteArray.extract n (pre.size+1) (pre.size+12)).data.toList=((bl n).drop (pre.size+1)).take 11:=by
   have:=zbx n (pre.size+1) (pre.size+12)
   rw [show pre.size+12-(pre.size+1)=11 by omega] at this
   exact this
  refine zbq hs λy w' hs=>?_
  rw [h4] at hs
  generalize hcs:((bl n).drop (pre.size+1)).take 11=cs at *
  have hcl:cs.length=11:=by rw [<- hcs,List.length_take,List.length_drop,z1i];omega
  have hl:=hs.slen y (xs:=cs) (enc:=zi)
  rw [hb]
  refine zl (λq w'=>∃ v:Nat,z40 0 cs=some v/\q=((v:Int),())/\Sat w' l) ?_ ?_
  rotate_left
  ·rintro _ w2 ⟨v,hv,rfl,hs⟩
   refine wp_lt ?_
   rw [hv]
   exact ⟨rfl,rfl,hs⟩
  refine z03 (λm q w=>∃ i v:Nat,q=((v:Int),((i:Int),()))/\i<=11/\11-i=m/\z40 0 (cs.take i)=some v/\Sat w (slc T.a58 1 y (cs.flatMap zi)::l)) 11 ⟨0,0,rfl,by omega,rfl,rfl,hs⟩ ?_
  clear hs
  rintro m _ w ⟨i,v,rfl,hi,hm,hv,hs⟩
  refine zk ?_
  refine zh (λhc=>?_) λhc=>?_
  rotate_left
  ·refine zo (zf ⟨v,?_,rfl,hs.tail⟩)
   rwa [List.take_of_length_le (by omega)] at hv
  have hil:i<cs.length:=by omega
  have hvl:=zhy (k:=0) hv (by omega)
  rw [List.length_take] at hvl
  have hvl2:v<1152921504606846976 / 16:=by
   have h5:16 ^ (0+min i cs.length)<=16 ^ 10:=Nat.pow_le_pow_right (by omega) (by omega)
   omega
  have hstep:z40 0 (cs.take (i+1))=(z69 cs[i]).map λd=>16*v+d:=by
   rw [List.take_succ_eq_append_getElem hil,zfm,hv]
   show z40 v [cs[i]]=_
   unfold z40
   cases z69 cs[i] <;> rfl
  have hcut:∀ j,z40 0 (cs.take j)=none->z40 0 cs=none:=λj hj=>by
   rw [<- List.take_append_drop j cs,zfm,hj];rfl
  refine z1z hs (xs:=cs) (enc:=zi) i hil ?_
  refine wp_lt ?_
  refine wp_lt ?_
  have hgo:∀ {w:World} (d:Nat),z69 cs[i]=some d->Sat w (slc T.a58 1 y (cs.flatMap zi)::l)->∃ i' v':Nat,((((16*v+d:Nat):Int),(((i+1:Nat):Int),())):Int × Int × Unit)=((v':Int),((i':Int),()))/\i'<=11/\11-i'=11-(i+1)/\z40 0 (cs.take i')=some v'/\Sat w (slc T.a58 1 y (cs.flatMap zi)::l):=λd hd hs =>
   ⟨i+1,16*v+d,rfl,by omega,rfl,by rw [hstep,hd];rfl,hs⟩
  have hcb:=(cs[i]).toNat_lt
  have ei:IntKind.wrap .i64 ((i:Int)+1)=((i+1:Nat):Int):=by rw [w64 (by omega) (by omega)];omega
  refine zl (λq w'=>∃ d:Nat,z69 cs[i]=some d/\q=(((16*v+d:Nat):Int),())/\Sat w' (slc T.a58 1 y (cs.flatMap zi)::l)) ?_ ?_
  rotate_left
  ·rintro _ w2 ⟨d,hd,rfl,hs⟩
   rw [ei]
   exact z0l (11-(i+1)) (hgo d hd hs)
  have hor:∀ d:Nat,d<16->IntKind.wrap .i64 (((BitVec.toNat (BitVec.ofInt 64 (IntKind.wrap .i64 ((v:Int)*16)) ||| BitVec.ofInt 64 (d:Int)):Nat):Int))=((16*v+d:Nat):Int):=λd hd=>by
   rw [w64 (x:=(v:Int)*16) (by omega) (by omega),z0ap hd (by omega),w64 (by omega) (by omega)]
  refine zh (λh5=>?_) λh5=>?_
  ·have hd:z69 cs[i]=some ((cs[i]).toNat-48):=by unfold z69;rw [if_pos (by omega)]
   have e5:IntKind.wrap .i64 (IntKind.wrap .u8 ((((cs[i]).toNat:Nat):Int)-48))=(((cs[i]).toNat-48:Nat):Int):=by
    rw [wu8 (by omega) (by omega),w64 (by omega) (by omega)];omega
   rw [e5]
   refine z1t (y:=((16*v+((cs[i]).toNat-48):Nat):Int)) ?_ (hor _ (by omega))
   exact zf ⟨_,hd,rfl,hs⟩
  refine wp_lt ?_
  refine zh (λh6=>?_) λh6=>?_
  ·have hd:z69 cs[i]=some ((cs[i]).toNat-87):=by unfold z69;rw [if_neg (by omega),if_pos (by omega)]
   have e5:IntKind.wrap .i64 (IntKind.wrap .u8 (IntKind.wrap .u8 ((((cs[i]).toNat:Nat):Int)-97)+10))=(((cs[i]).toNat-87:Nat):Int):=by
    rw [wu8 (x:=(((cs[i]).toNat:Nat):Int)-97) (by omega) (by omega),wu8 (by omega) (by omega),w64 (by omega) (by omega)];omega
   rw [e5]
   refine z1t (y:=((16*v+((cs[i]).toNat-87):Nat):Int)) ?_ (hor _ (by omega))
   exact zf ⟨_,hd,rfl,hs⟩
  ·have hd:z69 cs[i]=none:=by unfold z69;rw [if_neg (by omega),if_neg (by omega)]
   have hno:z40 0 cs=none:=hcut (i+1) (by rw [hstep,hd];rfl)
   rw [hno]
   exact zo (zo (zo ⟨rfl,rfl,hs.tail⟩))
theorem zlt (base fin:Int) (hb:0<=base/\base<9223372036854775808) (hf:0<=fin/\fin<9223372036854775808) (hs:Sat w l):Ret P F.a135 #[.int .i64 base,.int .i64 fin] w λvs w'=>∃ z:Sl,vs=[z.v]/\Sat w' (slc T.a58 1 z ((shL base fin).flatMap zi)::l) :=
 zoj base fin <| by
  delta z02b Ad Ap Aq
  refine z7s hs (enc:=zi) [(83:UInt8)] λz1 w' hs=>?_
  refine zb (z3v base hb hs) λ_ w' hs=>?_
  obtain ⟨z2,rfl,hs⟩:=hs
  refine zd ?_
  refine zb (z3v fin hf hs) λ_ w' hs=>?_
  obtain ⟨z3,rfl,hs⟩:=hs
  refine zd ?_
  refine z7s hs (enc:=z0c) [z1,z2,z3] λz4 w' hs=>?_
  have u1_:=z18 base
  have u2_:=z18 fin
  have f1:FocR (slc T.a50 1 z4 ([z1,z2,z3].flatMap z0c)::slc T.a58 1 z3 ((uI fin).flatMap zi)::slc T.a58 1 z2 ((uI base).flatMap zi)::slc T.a58 1 z1 (([83]:List UInt8).flatMap zi)::l) z1 1 (([83]:List UInt8).flatMap zi):=inferInstance
  have f2:FocR (slc T.a50 1 z4 ([z1,z2,z3].flatMap z0c)::slc T.a58 1 z3 ((uI fin).flatMap zi)::slc T.a58 1 z2 ((uI base).flatMap zi)::slc T.a58 1 z1 (([83]:List UInt8).flatMap zi)::l) z2 1 ((uI base).flatMap zi):=inferInstance
  have f3:FocR (slc T.a50 1 z4 ([z1,z2,z3].flatMap z0c)::slc T.a58 1 z3 ((uI fin).flatMap zi)::slc T.a58 1 z2 ((uI base).flatMap zi)::slc T.a58 1 z1 (([83]:List UInt8).flatMap zi)::l) z3 1 ((uI fin).flatMap zi):=inferInstance
  refine zb (zq8 z4 [(z1,[83]),(z2,uI base),(z3,uI fin)] (λp hp=>?_) (by show 3<=1000000;omega) hs) λ_ w' hs=>?_
  ·simp only [List.mem_cons,List.not_mem_nil,or_false] at hp
   rcases hp with rfl|rfl|rfl
   ·exact ⟨f1,by show (1:Nat)<=_;omega⟩
   ·exact ⟨f2,by show (uI base).length<=_;omega⟩
   ·exact ⟨f3,by show (uI fin).length<=_;omega⟩
  obtain ⟨z5,rfl,hs⟩:=hs
  refine zd ?_
  refine ⟨rfl,z5,rfl,?_⟩
  have e:([(z1,[83]),(z2,uI base),(z3,uI fin)]:List (Sl × List UInt8)).flatMap Prod.snd=shB base fin:=by simp [shB]
  rw [e] at hs
  have hs:Sat _ (slc T.a58 1 z5 ((shL base fin).flatMap zi)::_):=hs
  exact hs.sub
theorem zyt (x:Sl) (body:List UInt8) (base:Int) (hb:0<=base/\base<9223372036854775808) [hx:FocR l x 1 (body.flatMap zi)] (hn:body.length<=1000000000) (hs:Sat w l) :
  Ret P F.a136 #[x.v,.int .i64 base] w λvs w'=>∃ v:Int,vs=[.int .i64 v,.bool (z5w base body).isSome]/\(∀ f,z5w base body=some f->v=f)/\Sat w' l :=
 zok x base <| by
  delta z02c AC AQ Ac Ad Ah Ai Ak Al Ao Ay Bh
  refine zb (zm3 x body hn hs) λ_ w' hs=>?_
  obtain ⟨p,rfl,hs⟩:=hs
  refine zd ?_
  refine zb (zhr (p:=p) hs) λ_ _ hs=>?_
  obtain ⟨rfl,hs⟩:=hs
  refine zd ?_
  refine zb (z9t (p:=p) hs) λ_ _ hs=>?_
  obtain ⟨rfl,hs⟩:=hs
  refine zd ?_
  refine zb (z9t (p:=p) hs) λ_ _ hs=>?_
  obtain ⟨rfl,hs⟩:=hs
  refine zd ?_
  refine wp_lt ?_
  refine wp_lt ?_
  refine wp_lt ?_
  refine zb (zli (p:=p) hs) λ_ w' hs=>?_
  obtain ⟨e,rfl,he,hs⟩:=hs
  refine zd ?_
  have eh:z5w base body=if (zx (zx (z10 (some body)).2).2).2=some []/\(z10 (some body)).1=83/\((zx (z10 (some body)).2).1:Int)=base/\base<=1099511627776/\(zx (zx (z10 (some body)).2).2).1<=1099511627776/\((zx (zx (z10 (some body)).2).2).1=0\/base<(zx (zx (z10 (some body)).2).2).1) then some ((zx (zx (z10 (some body)).2).2).1:Int) else none:=rfl
  generalize z5w base body=HS at eh he ⊢
  generalize z10 (some body)=k at eh he ⊢
  generalize zx k.2=m at eh he ⊢
  generalize zx m.2=q at eh he ⊢
  have ew:IntKind.wrap .u64 base=base:=zin (by omega) (by omega)
  rw [ew]
  refine zh (λh=>?_) λh=>?_
  ·have:HS=none:=by
    rw [eh,if_neg]
    rintro ⟨h1,h2,h3,h4,h5,-⟩
    have h6:=he.2 h1
    rcases h with (((h|h)|h)|h)|h
    ·exact h h6
    ·apply h;rw [h2];rfl
    ·exact h h3
    ·omega
    ·omega
   rw [this]
   exact ⟨rfl,0,rfl,(λf hf=>by cases hf),hs⟩
  have h1:q.2=some []:=he.1 (Decidable.byContradiction λhh=>h (.inl (.inl (.inl (.inl hh)))))
  have h2:k.1=83:=by
   have:((k.1:Nat):Int)=83:=Decidable.byContradiction λhh=>h (.inl (.inl (.inl (.inr hh))))
   omega
  have h3:((m.1:Nat):Int)=base:=Decidable.byContradiction λhh=>h (.inl (.inl (.inr hh)))
  have h4:base<=1099511627776:=by
   apply Decidable.byContradiction;intro hh;exact h (.inl (.inr (by omega)))
  have h5:q.1<=1099511627776:=by
   apply Decidable.byContradiction;intro hh;exact h (.inr (by omega))
  rw [w64 (by omega) (by omega)]
  refine wp_lt ?_
  refine wp_lt ?_
  refine ⟨rfl,((q.1:Nat):Int),?_,?_,hs⟩
  ·congr 2
   rw [eh]
   by_cases h6:q.1=0\/base<q.1
   ·rw [if_pos ⟨h1,h2,h3,h4,h5,h6⟩]
    have:(((q.1:Nat):Int) == 0 || decide (((q.1:Nat):Int)>base))=true:=by
     rw [Bool.or_eq_true,beq_iff_eq,decide_eq_true_eq];omega
    rw [this];rfl
   ·rw [if_neg λhh=>h6 hh.2.2.2.2.2]
    have:(((q.1:Nat):Int) == 0 || decide (((q.1:Nat):Int)>base))=false:=by
     rw [Bool.or_eq_false_iff,beq_eq_false_iff_ne,decide_eq_false_iff_not];omega
    rw [this];rfl
  ·intro f hf
   rw [eh] at hf
   split at hf
   ·exact Option.some.inj hf
   ·cases hf
theorem zt3 (x:Int) (rs:List RecM) (i:Nat) (hi:i<rs.length):z61 x (rs.take (i+1))=max (z61 x (rs.take i)) rs[i].time:=by
 rw [List.take_succ_eq_append_getElem hi]
 unfold z61
 rw [List.foldl_append]
 rfl
theorem zz6 (b:BatM) [hb:FocR l b.x 4 (b.rs.flatMap z01)] (hlen:b.rs.length<=1000000000) (hs:Sat w l):Ret P F.a137 #[.agg (zp b).toArray] w λvs w'=>vs=[.int .i64 (z3e b)]/\Sat w' l :=
 zol b.base b.pid b.epoch b.seq b.kind b.time b.x <| by
  delta z02d AA AB AI AJ AM AY AZ Ab Ac Ad Af Ag Ai Ak Ao As
  have hl:=hs.slen b.x (xs:=b.rs) (enc:=z01)
  refine zq hs λa0 w' hs=>?_
  refine z8 hs ?_
  refine zl (λq w'=>q=(z61 (-1) b.rs,())/\Sat w' (pt a0 (.cells (cB b) T.a0)::l)) ?_ ?_
  ·refine z03 (λm v w=>∃ i:Nat,v=(z61 (-1) (b.rs.take i),((i:Int),()))/\i<=b.rs.length/\b.rs.length-i=m/\Sat w (pt a0 (.cells (cB b) T.a0)::l)) b.rs.length ⟨0,rfl,by omega,rfl,hs⟩ ?_
   clear hs
   rintro m _ w ⟨i,rfl,hi,hm,hs⟩
   refine zk ?_
   refine zh (λhc=>?_) λhc=>?_
   rotate_left
   ·refine zo (zf ⟨?_,hs⟩)
    rw [List.take_of_length_le (by omega)]
   have hil:i<b.rs.length:=by omega
   refine z1s hs (xs:=b.rs) (enc:=z01) i hil ?_
   refine zn hs λc w' hs=>?_
   refine zm hs λw' hs=>?_
   refine z8 hs ?_
   refine z1t (y:=z61 (-1) (b.rs.take (i+1))) ?_ (by rw [zt3 _ _ _ hil];split <;> omega)
   rw [wS (i:=i) (by omega)]
   exact z0l (b.rs.length-(i+1)) ⟨i+1,rfl,by omega,rfl,hs.sub⟩
  clear hs
  rintro _ w ⟨rfl,hs⟩
  refine zk ?_
  refine z8 hs ?_
  refine zl (λq w'=>q=(z3e b,())/\Sat w' (pt a0 (.cells (cB b) T.a0)::l)) ?_ ?_
  ·unfold z3e
   refine zh (λh=>?_) λh=>?_
   ·refine z8 hs ?_
    refine wp_lt ?_
    refine zf ⟨?_,hs⟩
    rw [if_pos (List.length_eq_zero_iff.1 (by omega))]
   ·refine zf ⟨?_,hs⟩
    rw [if_neg (by rintro h0;rw [h0] at hl;simp at hl;omega)]
  rintro _ w2 ⟨rfl,hs⟩
  refine wp_lt ?_
  exact ⟨rfl,rfl,hs.tail⟩
theorem z06t (seg gap:Int) (hs:Sat w l):Ret P F.a138 #[.agg #[.int .i64 seg,.int .i64 gap]] w λvs w'=>vs=[.bool (decide ((64<=seg/\seg<=4194304)/\(1<=gap/\gap<=4194304)))]/\Sat w' l :=
 zom seg gap <| by
  delta z02e Ab Ad Ar As Ay Bc
  refine zq hs λa0 w' hs=>?_
  refine z8 hs ?_
  refine z8 hs ?_
  refine z8 hs ?_
  refine z8 hs ?_
  refine wp_lt ?_
  refine ⟨rfl,?_,hs.tail⟩
  congr 2
  rw [Bool.eq_iff_iff,decide_eq_true_iff]
  simp only [Bool.and_eq_true,decide_eq_true_eq]
  omega
theorem zzy (s:ByteArray) (hs:Sat w l):Ret P F.a134 #[.string s] w λvs w'=>vs=[.bool (z5n s)]/\Sat w' l :=
 zoi s <| by
  delta z02a AK AR AT Ac Ad Ag Ak Ao Ap Bd
  unfold z5n
  refine zh (λh=>?_) λh=>?_
  ·rw [decide_eq_false (by omega),Bool.false_and]
   exact ⟨rfl,rfl,hs⟩
  rw [decide_eq_true (by omega),Bool.true_and]
  refine zbq hs λx w' hs=>?_
  have hl:=hs.slen x (xs:=bl s) (enc:=zi)
  have hsz:=z1i s
  refine zl (λ_ w'=>((bl s).all λc=>(97<=c.toNat && c.toNat<=122) || (48<=c.toNat && c.toNat<=57))=true/\Sat w' l) ?_ ?_
  rotate_left
  ·rintro _ w2 ⟨h2,hs⟩
   rw [h2]
   exact ⟨rfl,rfl,hs⟩
  refine z03 (λm v w=>∃ i:Nat,v=((i:Int),())/\i<=(bl s).length/\(bl s).length-i=m/\(((bl s).take i).all λc=>(97<=c.toNat && c.toNat<=122) || (48<=c.toNat && c.toNat<=57))=true/\Sat w (slc T.a58 1 x ((bl s).flatMap zi)::l)) (bl s).length ⟨0,rfl,by omega,rfl,rfl,hs⟩ ?_
  clear hs
  rintro m _ w ⟨i,rfl,hi,hm,hall,hs⟩
  refine zk ?_
  refine zh (λhc=>?_) λhc=>?_
  rotate_left
  ·refine zo (zf ⟨?_,hs.tail⟩)
   rwa [List.take_of_length_le (by omega)] at hall
  have hil:i<(bl s).length:=by omega
  refine z1z hs (xs:=bl s) (enc:=zi) i hil ?_
  refine wp_lt ?_
  have hstep:(((bl s).take (i+1)).all λc=>(97<=c.toNat && c.toNat<=122) || (48<=c.toNat && c.toNat<=57))=((97<=(bl s)[i].toNat && (bl s)[i].toNat<=122) || (48<=(bl s)[i].toNat && (bl s)[i].toNat<=57)):=by
   rw [List.take_succ_eq_append_getElem hil,List.all_append,hall]
   simp
  refine zdu (λh3=>?_) λh3=>?_
  ·refine zo (zo ⟨rfl,?_,hs.tail⟩)
   have hf:((97<=(bl s)[i].toNat && (bl s)[i].toNat<=122) || (48<=(bl s)[i].toNat && (bl s)[i].toNat<=57))=false:=by
    rw [Bool.eq_false_iff]
    intro hh
    simp only [Bool.not_eq_true',Bool.or_eq_false_iff,Bool.and_eq_false_iff,decide_eq_false_iff_not] at h3
    simp only [Bool.or_eq_true,Bool.and_eq_true,decide_eq_true_eq] at hh
    omega
   have:((bl s).all λc=>(97<=c.toNat && c.toNat<=122) || (48<=c.toNat && c.toNat<=57))=false:=by
    rw [<- List.take_append_drop (i+1) (bl s),List.all_append,hstep,hf]
    rfl
   rw [this]
  ·rw [wS (i:=i) (by omega)]
   refine z0l ((bl s).length-(i+1)) ⟨i+1,rfl,by omega,rfl,?_,hs⟩
   rw [hstep]
   simp only [Bool.not_eq_false',Bool.or_eq_true,Bool.and_eq_true,decide_eq_true_eq] at h3
   simp only [Bool.or_eq_true,Bool.and_eq_true,decide_eq_true_eq]
   omega
end
instance (priority:=low) AddrIs.adds {a:Addr} {b off n:Nat} [h:AddrIs a b off]:AddrIs (a.add n) b (off+n):=⟨by rw [h.ok,z2a]⟩
section
variable {P:Program} {w:World} {Q:Post} {S:World->Prop}
theorem zt8 {g:Prop} {o:Option Addr} {f:Addr->Prog} (h:(f ⟨0,0,none⟩).wp P S w Q) (hg:¬ g):(Prog.ex [.adr] (c1 λx=>g->o=some x) (u1 f)).wp P S w Q:=⟨(⟨0,0,none⟩,()),λh=>absurd h hg,h⟩
theorem zt7 {g:Prop} {m:Sem Value} {p:Pr} {f:p.D->Prog} (x:p.D) (hg:¬ g) (h:(f x).wp P S w Q):(Prog.read g m (.one (.one p)) (u1 f)).wp P S w Q:=⟨(x,()),λh=>absurd h hg,h⟩
end
def SegA.add (s:SegA) (bs:List BatM):SegA:=⟨s.base,s.fin,s.bs++bs.map BatM.p⟩
theorem zhp (s:SegA):s.add []=s:=by unfold SegA.add;simp
theorem add_add (s:SegA) (a b:List BatM):(s.add a).add b=s.add (a++b):=by unfold SegA.add;simp
theorem z06h (bs:List BatM):(bs.map BatM.p).flatMap frL=bs.flatMap frL:=by
 rw [List.flatMap_map];rfl
theorem za0 (s:SegA) (bs:List BatM):(s.add bs).file=s.file++bs.flatMap frL:=by
 unfold SegA.file SegA.add
 simp only [List.flatMap_append,z06h,List.append_assoc]
theorem z04c (gap:Int) (s:SegA) (b:BatM):(s.add [b]).idx gap=(zaq (s.idx gap) b.base (s.file.length:Nat) (z3e b)).2:=by
 unfold SegA.idx SegA.add
 show zc2 (zdd gap) _ (s.bs++[b.p])=_
 rw [zde,z49]
 rw [show ((((shL s.base s.fin).length+(s.bs.flatMap frL).length:Nat)):Int)=((shL s.base s.fin).length:Int)+((s.bs.flatMap frL).length:Int) by omega]
 rfl
theorem zb2 {α β:Type} (f:α->β) (l:List α):(l.map f).getLast? = l.getLast?.map f:=by simp
section
variable {w:World} {l r:List HP} {lg:Nat} {M:LogM} {A:LogA} {gap:Int} {a:Nat} {t:SegM}
theorem z055 [hf:Fo l (z0o gap) a t r] (hs:Sat w l):Ret P F.a140 #[.pointer (some ⟨a,0,none⟩)] w λvs w'=>vs=[.int .i64 t.s.reach]/\Sat w' (z0o gap a t::r) :=
 zoo _ <| by
  delta z02g Aa Ab Ad Ae Ai Aj Ak
  have hs:=z4b (hs.perm hf.perm)
  refine zv hs λw' hs=>?_
  refine zj ?_
  refine z8 hs ?_
  refine zj ?_
  refine z8 hs ?_
  refine zj ?_
  refine z8 hs ?_
  refine z1t (y:=t.s.reach) ?_ (by unfold SegA.reach;split <;> split <;> omega)
  refine ze ?_
  exact ⟨rfl,rfl,z2s t hs⟩
theorem zm4 (base fin:Int) (hb:0<=base/\base<9223372036854775808) (hf':0<=fin/\fin<9223372036854775808) [hf:Fo l lgQ lg M r] (hs:Sat w l) :
  Ret P F.a131 #[.pointer (some ⟨lg,0,none⟩),.int .i64 base,.int .i64 fin] w λvs w'=>∃ a ix,vs=[.pointer (some ⟨a,0,none⟩)]/\Sat w' (z0o M.gap a ⟨ix,⟨base,fin,[]⟩⟩::lgQ lg M::r) :=
 zof _ base fin <| by
  delta z027 A8 Aa Ab Ad Ag Ai Ak Al Aq As Bv
  obtain ⟨hok,hs⟩:=z2y (hs.perm hf.perm)
  refine zj ?_
  refine z8 hs ?_
  refine zb (z06o M.gap hok.gap hs) λ_ w' hs=>?_
  obtain ⟨ix,rfl,hs⟩:=hs
  refine zd ?_
  refine wp_lt ?_
  refine zb (zlt base fin hb hf' hs) λ_ w' hs=>?_
  obtain ⟨z,rfl,hs⟩:=hs
  refine zd ?_
  have hl:=hs.slen z (xs:=shL base fin) (enc:=zi)
  refine zq hs λa w' hs=>?_
  refine ⟨rfl,a,ix,rfl,?_⟩
  have hs:Sat w' (pt a (.cells #[.pointer (some ⟨ix,0,none⟩),.int .i64 base,.int .i64 fin,.int .i64 (z0n []),.int .i64 (z1g (-1) []),.int .i64 ((SegA.file ⟨base,fin,[]⟩).length:Nat)] T.a53)::slc T.a58 1 z ((shL base fin).flatMap zi)::z2n ix ((SegA.mk base fin []).idx M.gap)::pt lg (.cells #[.pointer (some ⟨M.d,0,none⟩),.string M.pre,.int .i64 M.seg,.int .i64 M.gap,.slice M.z.a M.z.len M.z.cap] T.a52)::slc T.a34 1 M.z ((M.SM.map Prod.fst).flatMap z1o)::HP.all (M.SM.map λt=>z0o M.gap t.1 t.2)::r):=by
   have e:(SegA.file ⟨base,fin,[]⟩).length=z.len:=by rw [z49,hl];simp
   rw [e]
   exact hs
  have hs:=z1n M hok (hs.pick [3,3,3])
  exact z2s ⟨ix,⟨base,fin,[]⟩⟩ (hs.sub)
theorem zxl (b:BatM) (hv:z07 b=0) [hf:Fo l (z0o gap) a t r] [hb:FocR r b.x 4 (b.rs.flatMap z01)] (hlen:t.s.file.length+(frL b).length<=1000000000) (hs:Sat w l) :
  Ret P F.a141 #[.pointer (some ⟨a,0,none⟩),.agg (zp b).toArray,.int .i64 ((frL b).length:Nat)] w λvs w'=>vs=[]/\Sat w' (z0o gap a ⟨t.ix,t.s.add [b]⟩::r) :=
 zop _ b.base b.pid b.epoch b.seq b.kind b.time b.x _ <| by
  delta z02h AC AH AL AM Aa Ab Ad Ae Ai Aj Ak Al An Ao As
  obtain ⟨h64,-⟩:=z1q hv
  obtain ⟨-,-,⟨-,hba,-⟩,-,-⟩:=z16 b hv
  have hs:=z4b (hs.perm hf.perm)
  refine zq hs λa0 w' hs=>?_
  refine zg hs ?_
  refine zb (zz6 b (by omega) hs) λ_ w' hs=>?_
  obtain ⟨rfl,hs⟩:=hs
  refine zd ?_
  refine wp_lt ?_
  refine zv hs λw' hs=>?_
  refine zj ?_
  refine z8 hs ?_
  refine z8 hs ?_
  refine zj ?_
  refine z8 hs ?_
  refine zb (z06x (b:=t.ix) b.base ((t.s.file.length:Nat):Int) (z3e b) (by omega) (by omega) hs) λ_ w' hs=>?_
  obtain ⟨rfl,hs⟩:=hs
  refine zd ?_
  refine ze ?_
  refine zg hs ?_
  refine zb (z9r b hs) λ_ w' hs=>?_
  obtain ⟨rfl,hs⟩:=hs
  refine zd ?_
  refine zj ?_
  refine z02 hs λw' hs=>?_
  refine zj ?_
  refine z8 hs ?_
  refine zj ?_
  refine z02 hs λw' hs=>?_
  refine zj ?_
  refine z8 hs ?_
  refine zj ?_
  rw [w64 (by omega) (by omega)]
  refine z02 hs λw' hs=>?_
  refine ⟨rfl,rfl,?_⟩
  have e1:z1d b=z0n (t.s.add [b]).bs:=by
   show _=z0n (t.s.bs++[b.p])
   rw [z5l]
   unfold z1d
   rw [if_neg (by rw [hv];simp)]
   rfl
  have e2:(if z3e b>z1g (-1) t.s.bs then z3e b else z1g (-1) t.s.bs)=z1g (-1) (t.s.add [b]).bs:=by
   show _=z1g (-1) (t.s.bs++[b.p])
   rw [zgt]
   show _=max _ (z3e b)
   split <;> omega
  have e3:((t.s.file.length:Nat):Int)+((frL b).length:Nat)=(((t.s.add [b]).file.length:Nat):Int):=by
   rw [za0,List.length_append];simp
  rw [e1,e2,e3,<- z04c] at hs
  have hs:Sat w' (pt a (.cells #[.pointer (some ⟨t.ix,0,none⟩),.int .i64 (t.s.add [b]).base,.int .i64 (t.s.add [b]).fin,.int .i64 (z0n (t.s.add [b]).bs),.int .i64 (z1g (-1) (t.s.add [b]).bs),.int .i64 ((t.s.add [b]).file.length:Nat)] T.a53)::_):=hs
  refine z2s ⟨t.ix,t.s.add [b]⟩ ?_
  exact hs.sub
theorem zgs [hf:Fo l lgQ lg M r] (hlen:M.SM.length<=1000000000) (hs:Sat w l):Ret P F.a126 #[.pointer (some ⟨lg,0,none⟩)] w λvs w'=>vs=[.pointer (zzz (M.SM.getLast?.map Prod.fst))]/\Sat w' (lgQ lg M::r) :=
 zoa _ <| by
  delta z022 AH Aa Ac Ad Ae Af Ag Aj Al Ao
  obtain ⟨hok,hs⟩:=z2y (hs.perm hf.perm)
  have hl:=hs.slen M.z (xs:=M.SM.map Prod.fst) (enc:=z1o)
  rw [List.length_map] at hl
  refine zj ?_
  refine z8 hs ?_
  refine zh (λh=>?_) λh=>?_
  ·have:M.SM=[]:=List.length_eq_zero_iff.1 (by omega)
   rw [this]
   rw [this] at hs
   have hs:=z1n M hok (by rw [this];exact hs)
   exact ⟨rfl,rfl,hs⟩
  have h0:0<M.SM.length:=by omega
  refine zv hs λw' hs=>?_
  refine zj ?_
  refine z8 hs ?_
  refine zj ?_
  refine z8 hs ?_
  rw [w64 (by omega) (by omega)]
  refine z1z hs (xs:=M.SM.map Prod.fst) (enc:=z1o) (M.SM.length-1) (by rw [List.length_map];omega) ?_
  refine ze ?_
  refine ⟨rfl,?_,z1n M hok hs⟩
  have e:M.SM.getLast?.map Prod.fst=some ((M.SM.map Prod.fst)[M.SM.length-1]'(by rw [List.length_map];omega)):=by
   rw [List.getLast?_eq_getElem?,List.getElem?_eq_getElem (by omega)]
   simp
  rw [e]
  rfl
theorem za8 {SM:List (Nat × SegM)} (hs:Sat w (HP.all (SM.map λt=>z0o gap t.1 t.2)::l)) {i:Nat} (hi:i<SM.length) :
  Sat w (z0o gap SM[i].1 SM[i].2::HP.all ((SM.eraseIdx i).map λt=>z0o gap t.1 t.2)::l):=by
 exact ((hs.all_perm ((z7a hi).map _))).all_cons
theorem z7h {SM:List (Nat × SegM)} {i:Nat} (hi:i<SM.length) (hs:Sat w (z0o gap SM[i].1 SM[i].2::HP.all ((SM.eraseIdx i).map λt=>z0o gap t.1 t.2)::l)) :
  Sat w (HP.all (SM.map λt=>z0o gap t.1 t.2)::l):=by
 have h1:Sat w (HP.all ((SM[i]::SM.eraseIdx i).map λt=>z0o gap t.1 t.2)::l):=hs.all_put
 exact h1.all_perm ((z7a hi).symm.map _)
theorem zhv [hf:Fo l lgQ lg M r] (hs:Sat w l):Ret P F.a116 #[.pointer (some ⟨lg,0,none⟩)] w λvs w'=>vs=[.int .i64 (z0t M.l)]/\Sat w' (lgQ lg M::r) :=
 zo0 _ <| by
  delta z01s AF AG AH Aa Ab Ac Ad Af Ag Ai Ak
  obtain ⟨hok,hs⟩:=z2y (hs.perm hf.perm)
  have hl:=hs.slen M.z (xs:=M.SM.map Prod.fst) (enc:=z1o)
  rw [List.length_map] at hl
  refine z0j ?_
  refine z8 hs ?_
  refine zh (λh=>?_) λh=>?_
  ·have h:M.SM=[]:=by
    rcases h with h|h
    ·cases h
    ·exact List.length_eq_zero_iff.1 (by omega)
   have e:z0t M.l=0:=by unfold LogM.l;rw [h];rfl
   rw [e]
   exact ⟨rfl,rfl,z1n M hok hs⟩
  have h0:0<M.SM.length:=by
   apply Nat.pos_of_ne_zero
   intro h1
   exact h (.inr (by omega))
  refine zj ?_
  refine z8 hs ?_
  refine z8s hs (xs:=M.SM.map Prod.fst) (enc:=z1o) 0 (by rw [List.length_map];exact h0) ?_ rfl rfl
  have e0:(M.SM.map Prod.fst)[0]'(by rw [List.length_map];exact h0)=M.SM[0].1:=by simp
  rw [e0]
  refine zj ?_
  have hs:=z4b (za8 (hs.pick [2]) h0)
  refine z8 hs ?_
  refine wp_lt ?_
  have e:z0t M.l=M.SM[0].2.s.base:=by
   obtain ⟨x,xs,hx⟩:=List.exists_cons_of_length_pos h0
   simp only [LogM.l,hx,List.map_cons,z0t,List.getElem_cons_zero]
  rw [e]
  refine ⟨rfl,rfl,?_⟩
  have hs:=z7h h0 (z2s M.SM[0].2 hs)
  exact z1n M hok (hs.pick [1,1])
theorem zbg [hf:Fo l lgQ lg M r] (hlen:M.SM.length<=1000000000) (hs:Sat w l):Ret P F.a117 #[.pointer (some ⟨lg,0,none⟩)] w λvs w'=>vs=[.int .i64 (zy M.l)]/\Sat w' (lgQ lg M::r) :=
 zo1 _ <| by
  delta z01t AC AF AG Ac Ad Ag Ai Ak Al Bh
  obtain ⟨hok,hs⟩:=z2y (hs.perm hf.perm)
  have hl:=hs.slen M.z (xs:=M.SM.map Prod.fst) (enc:=z1o)
  rw [List.length_map] at hl
  refine z0j ?_
  refine z8 hs ?_
  refine zh (λh=>?_) λh=>?_
  ·have h:M.SM=[]:=by
    rcases h with h|h
    ·cases h
    ·exact List.length_eq_zero_iff.1 (by omega)
   have e:zy M.l=0:=by unfold LogM.l;rw [h];rfl
   rw [e]
   exact ⟨rfl,rfl,z1n M hok hs⟩
  have h0:0<M.SM.length:=by
   apply Nat.pos_of_ne_zero
   intro h1
   exact h (.inr (by omega))
  have hs:=z1n M hok hs
  refine zb (zgs (lg:=lg) hlen hs) λ_ w' hs=>?_
  obtain ⟨rfl,hs⟩:=hs
  refine zd ?_
  have e1:M.SM.getLast? = some (M.SM[M.SM.length-1]'(by omega)):=by
   rw [List.getLast?_eq_getElem?,List.getElem?_eq_getElem (by omega)]
  rw [e1]
  obtain ⟨-,hs⟩:=z2y hs
  have hs:=za8 (hs.pick [2]) (show M.SM.length-1<M.SM.length by omega)
  refine zb (z055 (gap:=M.gap) (a:=M.SM[M.SM.length-1].1) hs) λ_ w' hs=>?_
  obtain ⟨rfl,hs⟩:=hs
  refine zd ?_
  refine wp_lt ?_
  have e:zy M.l=(M.SM[M.SM.length-1]'(by omega)).2.s.reach:=by
   unfold LogM.l zy
   rw [zb2,e1]
   rfl
  rw [e]
  have hs:=z7h (show M.SM.length-1<M.SM.length by omega) hs
  exact ⟨rfl,rfl,z1n M hok (hs.pick [1,1])⟩
def z7b (seg:Int) (l:List SegA) (n:Nat):Bool:=match l.getLast? with
 | none=>false
 | some s=>decide (z0n s.bs=0) || decide (((s.file.length+n:Nat):Int)<=seg)
theorem z06f (n:Nat) (hn:n<=1000000000) [hf:Fo l lgQ lg M r] (hlen:M.SM.length<=1000000000) (hfl:∀ s ∈ M.l,s.file.length<=1000000000) (hs:Sat w l):Ret P F.a125 #[.pointer (some ⟨lg,0,none⟩),.int .i64 (n:Int)] w λvs w'=>vs=[.bool (z7b M.seg M.l n)]/\Sat w' (lgQ lg M::r) :=
 zo9 _ _ <| by
  delta z021 AF Ad Ae Aj Al Ao Ay Bc Bh
  refine zb (zgs (lg:=lg) hlen hs) λ_ w' hs=>?_
  obtain ⟨rfl,hs⟩:=hs
  refine zd ?_
  refine zv hs λw' hs=>?_
  by_cases h0:M.SM=[]
  ·have e:z7b M.seg M.l n=false:=by unfold LogM.l z7b;rw [h0];rfl
   rw [e,h0]
   refine zt8 ?_ (λh=>by cases h)
   refine zt7 (0:Int) (λh=>by cases h) ?_
   refine zt8 ?_ (λh=>by cases h.1)
   refine zt7 (0:Int) (λh=>by cases h.1) ?_
   refine zt8 ?_ (λh=>by cases h.1)
   refine zt7 (0:Int) (λh=>by cases h.1) ?_
   refine wp_lt ?_
   refine ze ?_
   exact ⟨rfl,rfl,hs⟩
  have hp:=List.length_pos_iff.2 h0
  have e1:M.SM.getLast? = some (M.SM[M.SM.length-1]'(by omega)):=by
   rw [List.getLast?_eq_getElem?,List.getElem?_eq_getElem (by omega)]
  have e:z7b M.seg M.l n=(decide (z0n (M.SM[M.SM.length-1]'(by omega)).2.s.bs=0) || decide ((((M.SM[M.SM.length-1]'(by omega)).2.s.file.length+n:Nat):Int)<=M.seg)):=by
   unfold LogM.l z7b
   rw [zb2,e1]
   rfl
  have hfl':=hfl _ (List.mem_map.2 ⟨_,List.getElem_mem (show M.SM.length-1<M.SM.length by omega),rfl⟩)
  rw [e,e1]
  obtain ⟨hok,hs⟩:=z2y hs
  have hs:=z4b (za8 (hs.pick [2]) (show M.SM.length-1<M.SM.length by omega))
  refine z0j ?_
  refine z8 hs ?_
  refine z0j ?_
  refine z8 hs ?_
  refine z0j ?_
  refine z8 hs ?_
  rw [w64 (by omega) (by omega)]
  refine wp_lt ?_
  refine ze ?_
  have hs:=z7h (show M.SM.length-1<M.SM.length by omega) (z2s (M.SM[M.SM.length-1]'(by omega)).2 hs)
  refine ⟨rfl,?_,z1n M hok (hs.pick [1,1])⟩
  rfl
theorem z017 (a:Nat) (t:SegM) {r0:List HP} [hf:Fo l lgQ lg M r0] [hf2:Fo r0 (z0o M.gap) a t r] (hlen:M.SM.length<=1000000000) (hs:Sat w l) :
  Ret P F.a129 #[.pointer (some ⟨lg,0,none⟩),.pointer (some ⟨a,0,none⟩)] w λvs w'=>∃ z:Sl,vs=[]/\Sat w' (lgQ lg { M with z:=z,SM:=M.SM++[(a,t)] }::r) :=
 zod _ _ <| by
  delta z025 Aa Ad Af Al An Ap
  obtain ⟨hok,hs⟩:=z2y (hs.perm (hf.perm.trans (.cons _ hf2.perm)))
  have hl:=hs.slen M.z (xs:=M.SM.map Prod.fst) (enc:=z1o)
  refine zj ?_
  refine z8 hs ?_
  refine z3w (xs:=M.SM.map Prod.fst) (enc:=z1o) (y:=a) hs (λz w' hs=>?_) rfl (by rw [List.length_map];omega)
  refine zj ?_
  refine z02 hs λw' hs=>?_
  refine ⟨rfl,z,rfl,?_⟩
  have hs:Sat w' (pt lg (.cells #[.pointer (some ⟨M.d,0,none⟩),.string M.pre,.int .i64 M.seg,.int .i64 M.gap,.slice z.a z.len z.cap] T.a52)::slc T.a34 1 z ((M.SM.map Prod.fst++[a]).flatMap z1o)::HP.all (M.SM.map λt=>z0o M.gap t.1 t.2)::z0o M.gap a t::r):=hs
  have h1:Sat w' (HP.all (((a,t)::M.SM).map λt=>z0o M.gap t.1 t.2)::pt lg (.cells #[.pointer (some ⟨M.d,0,none⟩),.string M.pre,.int .i64 M.seg,.int .i64 M.gap,.slice z.a z.len z.cap] T.a52)::slc T.a34 1 z ((M.SM.map Prod.fst++[a]).flatMap z1o)::r):=(hs.pick [3,2]).all_put
  have h2:=h1.all_perm ((List.perm_append_comm (l₁:=[(a,t)]) (l₂:=M.SM)).map λt=>z0o M.gap t.1 t.2)
  refine z1n { M with z:=z,SM:=M.SM++[(a,t)] } hok ?_
  have e:(M.SM++[(a,t)]).map Prod.fst=M.SM.map Prod.fst++[a]:=by simp
  show Sat w' (pt lg _::slc T.a34 1 z (((M.SM++[(a,t)]).map Prod.fst).flatMap z1o)::HP.all ((M.SM++[(a,t)]).map λt=>z0o M.gap t.1 t.2)::r)
  rw [e]
  exact h2.pick [1,1]
end
theorem z0s.mem:∀ {n:Int} {l:List SegA},z0s n l->∀ s ∈ l,SegOk s/\n<=s.base
 | _,a::l,⟨h1,h2,h3⟩,s,hs=>by
  rcases List.mem_cons.1 hs with rfl|hs
  ·exact ⟨h2,h1⟩
  ·have:=h3.mem s hs
   exact ⟨this.1,by omega⟩
def z0y (pre:ByteArray) (l:List SegA) (D:DiskA):Int × DiskA:=match l.getLast? with
 | none=>(0,D)
 | some s=>z20 D [zw pre s.base z06]
def BatM.to (b:BatM) (n:Int):BatM:=⟨n,b.pid,b.epoch,b.seq,b.kind,b.time,b.x,b.rs⟩
def z05:Int->List BatM->Int × List BatM
 | _,[]=>(0,[])
 | n,b::bs=>if z07 (b.to n)≠0 then (z07 (b.to n),[]) else if (z05 (n+zt b) bs).1≠0 then ((z05 (n+zt b) bs).1,[]) else (0,b.to n::(z05 (n+zt b) bs).2)
def frP (p:Sl × List UInt8):HP:=slc T.a58 1 p.1 (p.2.flatMap zi)
theorem zdm:∀ {bs:List BatM} {n:Int},(z05 n bs).1=0->(z05 n bs).2.length=bs.length/\(∀ b ∈ (z05 n bs).2,z07 b=0/\∃ c ∈ bs,b.x=c.x/\b.rs=c.rs)/\∀ b,(z05 n bs).2.head? = some b->b.base=n
 | [],n,_=>⟨rfl,(λ_ h=>by cases h),(λ_ h=>by cases h)⟩
 | b::bs,n,h=>by
  unfold z05 at h ⊢
  by_cases h1:z07 (b.to n)≠0
  ·rw [if_pos h1] at h;exact absurd h h1
  rw [if_neg h1] at h ⊢
  by_cases h2:(z05 (n+zt b) bs).1≠0
  ·rw [if_pos h2] at h;exact absurd h h2
  rw [if_neg h2]
  obtain ⟨i1,i2,-⟩:=zdm (Decidable.not_not.1 h2)
  refine ⟨by simp [i1],λc hc=>?_,λc hc=>?_⟩
  ·rcases List.mem_cons.1 hc with rfl|hc
   ·exact ⟨Decidable.not_not.1 h1,b,List.mem_cons_self ..,rfl,rfl⟩
   ·obtain ⟨v,d,hd,e⟩:=i2 c hc
    exact ⟨v,d,List.mem_cons_of_mem _ hd,e⟩
  ·simp at hc;subst hc;rfl
theorem zpx:∀ {bs:List BatM},(∀ b ∈ bs,z07 b=0)->(bs.flatMap frL).length<=bs.length*262152
 | [],_=>by simp
 | b::bs,h=>by
  have h1:=z6r (h b (List.mem_cons_self ..))
  have h2:=z7d (h b (List.mem_cons_self ..))
  have h3:=zpx λx hx=>h x (List.mem_cons_of_mem _ hx)
  rw [List.flatMap_cons,List.length_append,List.length_cons]
  omega
section
variable {w:World} {l r:List HP} {lg:Nat} {M:LogM} {D:DiskA} {gap:Int} {a:Nat} {t:SegM}
theorem zg6 {fs:List (Sl × List UInt8)} {p:Sl × List UInt8} (hp:p ∈ fs) [hf:Foc l (HP.all (fs.map frP)) r]:FocR l p.1 1 (p.2.flatMap zi):=⟨λw hs=>by
 obtain ⟨L,hs⟩:=(hs.perm hf.perm).all_mem hp
 exact Sat.rd hs⟩
theorem zmj:∀ {fs gs:List (Sl × List UInt8)},(∀ p ∈ gs,FocR l p.1 1 (p.2.flatMap zi))->zah l (gs.map Prod.fst) (gs.map Prod.snd)
 | _,[],_=>trivial
 | fs,p::gs,h=>⟨(h p (List.mem_cons_self ..)).rd,zmj (fs:=fs) λq hq=>h q (List.mem_cons_of_mem _ hq)⟩
theorem zqk {r1:List HP} [hf:Fo l lgQ lg M r1] [hf2:Fo r1 dk M.d D r] (hlen:M.SM.length<=1000000000) (hok:z0s 0 M.l) (hs:Sat w l) :
  Ret P F.a121 #[.pointer (some ⟨lg,0,none⟩)] w λvs w'=>vs=[.int .i64 (z0y M.pre M.l D).1]/\Sat w' (lgQ lg M::dk M.d (z0y M.pre M.l D).2::r) :=
 zo5 _ <| by
  delta z01x AA AC AD Aa Ab Ac Ad Ae Ai Aj Ak Al Ap Bh Bk
  have hs:=hs.perm (hf.perm.trans (.cons _ hf2.perm))
  refine zu ?_ (by simp)
  refine zb (zgs (lg:=lg) hlen hs) λ_ w' hs=>?_
  obtain ⟨rfl,hs⟩:=hs
  refine zd ?_
  by_cases h0:M.SM=[]
  ·have e:z0y M.pre M.l D=(0,D):=by unfold LogM.l z0y;rw [h0];rfl
   rw [e,h0]
   refine zu ?_ (by simp [zzz])
   exact ⟨rfl,rfl,hs⟩
  have hp:=List.length_pos_iff.2 h0
  have hsz:M.SM.length-1<M.SM.length:=by omega
  have e1:M.SM.getLast? = some (M.SM[M.SM.length-1]'hsz):=by
   rw [List.getLast?_eq_getElem?,List.getElem?_eq_getElem (by omega)]
  have e:z0y M.pre M.l D=z20 D [zw M.pre (M.SM[M.SM.length-1]'hsz).2.s.base z06]:=by
   unfold LogM.l z0y
   rw [zb2,e1]
   rfl
  have hmem:(M.SM[M.SM.length-1]'hsz).2.s ∈ M.l:=List.mem_map.2 ⟨_,List.getElem_mem hsz,rfl⟩
  have hbase:=(hok.mem _ hmem).1.base
  rw [e,e1]
  obtain ⟨hokm,hs⟩:=z2y hs
  have hpre:M.pre.size<=100:=by
   have:=hokm.pre
   unfold z5n at this
   rw [Bool.and_eq_true,decide_eq_true_eq] at this
   omega
  refine z0p ?_ (by simp [zzz])
  have hs:=z4b (za8 (hs.pick [2]) hsz)
  refine zl (λq w'=>q=((z20 D [zw M.pre (M.SM[M.SM.length-1]'hsz).2.s.base z06]).1,())/\Sat w' (lgQ lg M::dk M.d (z20 D [zw M.pre (M.SM[M.SM.length-1]'hsz).2.s.base z06]).2::r)) ?_ ?_
  rotate_left
  ·rintro _ w2 ⟨rfl,hs⟩
   exact ⟨rfl,rfl,hs⟩
  refine zv hs λw' hs=>?_
  refine zj ?_
  refine z14 hs ?_
  refine zj ?_
  refine z8 hs ?_
  refine zb (z8f (lg:=lg) _ (by omega) (ByteArray.mk #[46,108,111,103]) (by decide) M.pre hpre hs) λ_ w' hs=>?_
  obtain ⟨rfl,hs⟩:=hs
  refine zd ?_ (by first|trivial|(repeat (first|exact trivial|exact λ_=>z08 hs|exact λ_=>z0f hs|refine And.intro ?_ ?_)))
  refine z7r hs (enc:=z2h) [zw M.pre (M.SM[M.SM.length-1]'hsz).2.s.base z06] λy w' hs=>⟨(by first|trivial|(repeat (first|exact trivial|exact λ_=>z08 hs|exact λ_=>z0f hs|refine And.intro ?_ ?_))),?_⟩
  refine ze ?_
  refine zb (z07i (d:=M.d) y [zw M.pre (M.SM[M.SM.length-1]'hsz).2.s.base z06] (by show 1<=100000;omega) hs) λ_ w' hs=>?_
  obtain ⟨rfl,hs⟩:=hs
  refine zd ?_
  refine wp_lt ?_
  refine ze ?_
  refine zf ⟨rfl,?_⟩
  replace hs:Sat _ (z0o M.gap _ _::_):=z2s (M.SM[M.SM.length-1]'hsz).2 (hs.pick [2,2])
  have hs:=z7h hsz (hs.pick [0,2])
  exact (z1n M hokm (hs.pick [3,3])).sub
theorem zzp (x:Sl) (bs:List BatM) [hf:Fo l lgQ lg M r] (hlen:M.SM.length<=1000000000) (hbl:bs.length<=100000) (hx:FocR r x 7 (bs.flatMap zp)) (hbs:∀ b ∈ bs,FocR r b.x 4 (b.rs.flatMap z01)) (hs:Sat w l) :
  Ret P F.a128 #[.pointer (some ⟨lg,0,none⟩),x.v] w λvs w' =>
   ((z05 (zy M.l) bs).1≠0/\vs=[.slice none 0 0,.slice none 0 0,.int .i64 (z05 (zy M.l) bs).1]/\Sat w' (lgQ lg M::r)) \/
   ((z05 (zy M.l) bs).1=0/\∃ (z1 z2:Sl) (fs:List (Sl × List UInt8)),vs=[z1.v,z2.v,.int .i64 0]/\fs.map Prod.snd=(z05 (zy M.l) bs).2.map frL /\
    Sat w' (slc T.a0 7 z1 ((z05 (zy M.l) bs).2.flatMap zp)::slc T.a50 1 z2 ((fs.map Prod.fst).flatMap z0c)::HP.all (fs.map frP)::lgQ lg M::r)) :=
 zoc _ x <| by
  delta z024 A9 AC AI AJ AL AM AX Ac Ad Ag Ai Ak Al An Ao Ap Aq
  have hs:=hs.perm hf.perm
  have hl:=hs.slen x (xs:=bs) (enc:=zp)
  refine zb (zbg (lg:=lg) hlen hs) λ_ w' hs=>?_
  obtain ⟨rfl,hs⟩:=hs
  refine zd ?_
  refine wp_lt ?_
  generalize zy M.l=n0
  refine zl (λq w'=>∃ (z1 z2:Sl) (fs:List (Sl × List UInt8)),(z05 n0 bs).1=0/\q=(z1,z2,())/\fs.map Prod.snd=(z05 n0 bs).2.map frL /\
    Sat w' (slc T.a0 7 z1 ((z05 n0 bs).2.flatMap zp)::slc T.a50 1 z2 ((fs.map Prod.fst).flatMap z0c)::HP.all (fs.map frP)::lgQ lg M::r)) ?_ ?_
  rotate_left
  ·rintro _ w2 ⟨z1,z2,fs,h1,rfl,h2,hs⟩
   exact ⟨rfl,.inr ⟨h1,z1,z2,fs,rfl,h2,hs⟩⟩
  have h0:Sat w' (slc T.a0 7 ⟨none,0,0⟩ (([]:List BatM).flatMap zp)::slc T.a50 1 ⟨none,0,0⟩ (((([]:List (Sl × List UInt8))).map Prod.fst).flatMap z0c)::HP.all ((([]:List (Sl × List UInt8))).map frP)::lgQ lg M::r):=(Sat.all_nil hs).slc_nil.slc_nil
  refine z03 (λm v w=>∃ (i:Nat) (n:Int) (done:List BatM) (z1 z2:Sl) (fs:List (Sl × List UInt8)),v=(n,z1,z2,(i:Int),())/\i<=bs.length/\bs.length-i=m/\done.length=i/\fs.length=i /\
   z05 n0 bs=(if (z05 n (bs.drop i)).1≠0 then ((z05 n (bs.drop i)).1,[]) else (0,done++(z05 n (bs.drop i)).2))/\fs.map Prod.snd=done.map frL /\
   Sat w (slc T.a0 7 z1 (done.flatMap zp)::slc T.a50 1 z2 ((fs.map Prod.fst).flatMap z0c)::HP.all (fs.map frP)::lgQ lg M::r)) bs.length
   ⟨0,n0,[],⟨none,0,0⟩,⟨none,0,0⟩,[],rfl,by omega,rfl,rfl,rfl,?_,rfl,h0⟩ ?_
  ·rw [List.drop_zero,List.nil_append]
   by_cases h:(z05 n0 bs).1≠0
   ·rw [if_pos h]
    have:∀ {bs:List BatM} {n:Int},(z05 n bs).1≠0->(z05 n bs).2=[]:=by
     intro bs
     induction bs with
     | nil=>intro n h;exact absurd rfl h
     | cons b bs ih =>
      intro n h
      unfold z05 at h ⊢
      split
      ·rfl
      ·split
       ·rfl
       ·rename_i h1 h2
        rw [if_neg h1,if_neg h2] at h
        exact absurd rfl h
    rw [<- this h]
   ·rw [if_neg h]
    have h:=Decidable.not_not.1 h
    rw [<- h]
  clear hs h0
  rintro m _ w ⟨i,n,done,z1,z2,fs,rfl,hi,hm,hdl,hfl,hpl,hfs,hs⟩
  refine zk ?_
  refine zh (λhc=>?_) λhc=>?_
  rotate_left
  ·have e:bs.drop i=[]:=List.drop_eq_nil_of_le (by omega)
   rw [e] at hpl
   simp only [z05,List.append_nil] at hpl
   have hpl:z05 n0 bs=(0,done):=by rw [hpl];rfl
   refine zo (zf ⟨z1,z2,fs,by rw [hpl],rfl,by rw [hpl];exact hfs,?_⟩)
   rw [hpl]
   exact hs
  have hil:i<bs.length:=by omega
  have hdrop:bs.drop i=bs[i]::bs.drop (i+1):=List.drop_eq_getElem_cons hil
  rw [hdrop] at hpl
  have hR:=hbs bs[i] (List.getElem_mem hil)
  refine z1s hs (xs:=bs) (enc:=zp) i hil ?_
  refine zn hs λa w' hs=>?_
  refine zm hs λw' hs=>?_
  refine z02 hs λw' hs=>?_
  refine zg hs ?_
  have hRt:FocR r (bs[i].to n).x 4 ((bs[i].to n).rs.flatMap z01):=hR
  refine zb (zyi (bs[i].to n) hs) λ_ w' hs=>?_
  have hunf:z05 n (bs[i]::bs.drop (i+1))=if z07 (bs[i].to n)≠0 then (z07 (bs[i].to n),[]) else if (z05 (n+zt bs[i]) (bs.drop (i+1))).1≠0 then ((z05 (n+zt bs[i]) (bs.drop (i+1))).1,[]) else (0,bs[i].to n::(z05 (n+zt bs[i]) (bs.drop (i+1))).2):=rfl
  rcases hs with ⟨hv,rfl,hs⟩|⟨hv,y,rfl,hs⟩
  ·refine zd ?_
   refine wp_lt ?_
   refine z0p ?_ hv
   refine wp_lt ?_
   rw [if_pos hv] at hunf
   have hpl:z05 n0 bs=(z07 (bs[i].to n),[]):=by rw [hpl,hunf,if_pos hv]
   refine zo (zo ⟨rfl,.inl ⟨by rw [hpl];exact hv,by rw [hpl],hs.sub⟩⟩)
  ·refine zd ?_
   refine wp_lt ?_
   refine zu ?_ (by simp)
   rw [if_neg (by rw [hv];simp)] at hunf
   have hbl2:=z7d hv
   have hfrl:=z6r hv
   refine zg hs ?_
   refine z3w (xs:=done) (enc:=zp) (y:=bs[i].to n) hs (λz1' w' hs=>?_) rfl (by omega)
   refine z7s hs (enc:=z0c) [y] λy2 w' hs=>?_
   refine zb (zyp y2 y (z2w (bs[i].to n)) (by omega) hs) λ_ w' hs=>?_
   obtain ⟨y3,rfl,hs⟩:=hs
   refine zd ?_
   refine z3w (xs:=fs.map Prod.fst) (enc:=z0c) (y:=y3) hs (λz2' w' hs=>?_) rfl (by rw [List.length_map];omega)
   refine zg hs ?_
   refine zb (z9r (bs[i].to n) hs) λ_ w' hs=>?_
   obtain ⟨rfl,hs⟩:=hs
   refine zd ?_
   refine wp_lt ?_
   rw [wS (i:=i) (by omega)]
   have en:z1d (bs[i].to n)=n+zt bs[i]:=by
    unfold z1d
    rw [if_neg (by rw [hv];simp)]
    rfl
   rw [en]
   refine z0l (bs.length-(i+1)) ⟨i+1,n+zt bs[i],done++[bs[i].to n],z1',z2',fs++[(y3,frL (bs[i].to n))],rfl,by omega,rfl,by simp [hdl],by simp [hfl],?_,by simp [hfs],?_⟩
   ·rw [hpl,hunf]
    by_cases h2:(z05 (n+zt bs[i]) (bs.drop (i+1))).1≠0
    ·rw [if_pos h2,if_pos h2,if_pos h2]
    ·rw [if_neg h2,if_neg h2,if_neg (by simp),List.append_assoc]
     rfl
   ·have e2:(fs++[(y3,frL (bs[i].to n))]).map Prod.fst=fs.map Prod.fst++[y3]:=by simp
    rw [e2]
    have hs:Sat w' (slc T.a50 1 z2' ((fs.map Prod.fst++[y3]).flatMap z0c)::slc T.a58 1 y3 ((frL (bs[i].to n)).flatMap zi)::slc T.a50 1 y2 (([y]:List Sl).flatMap z0c)::slc T.a0 7 z1' ((done++[bs[i].to n]).flatMap zp)::_):=hs
    have hs:Sat w' (frP (y3,frL (bs[i].to n))::HP.all (fs.map frP)::slc T.a0 7 z1' ((done++[bs[i].to n]).flatMap zp)::slc T.a50 1 z2' ((fs.map Prod.fst++[y3]).flatMap z0c)::lgQ lg M::r):=by
     have h3:Sat w' (slc T.a58 1 y3 ((frL (bs[i].to n)).flatMap zi)::HP.all (fs.map frP)::slc T.a0 7 z1' ((done++[bs[i].to n]).flatMap zp)::slc T.a50 1 z2' ((fs.map Prod.fst++[y3]).flatMap z0c)::lgQ lg M::r):=hs.sub
     exact h3
    have h4:Sat w' (HP.all (((y3,frL (bs[i].to n))::fs).map frP)::_):=hs.all_put
    have h5:=h4.all_perm ((List.perm_append_comm (l₁:=[(y3,frL (bs[i].to n))]) (l₂:=fs)).map frP)
    exact h5.pick [1,1]
end
end Go.Dec
