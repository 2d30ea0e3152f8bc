/- What the claim of this folder leans on: our own texts, joined, without what it does not use. -/
import Derived.Test.YtgpcickgjngglaaGreatRows
import Derived.WalkKit
import Derived.ProofKit
import Derived.OpenShut
import Derived.RowKit3
import Derived.OrdersHeld
import Derived.Scope
import Derived.KernelRfl
import Derived.Laws.Sem
import Derived.Laws.StructEq
import Derived.Deep.AppendSrc
import Derived.Laws.BytesArg
import Derived.Laws.RangeString
import Derived.Maps.RangeRun
import Derived.Lib.ConvBytes
import Derived.Lib.SlBytesConst
import Derived.ChangeSlices
import Derived.ChangeMaps5
import Derived.ChangeSame
import Derived.Deep.Slices
import Derived.Deep.Fields
import Derived.Test.YtgpcickgjngglaaGreatProg
import Derived.Laws.MakeOwn
import Derived.WideKeyRuns
import Derived.DeepKeys3
import Derived.Sort.MapsRangeIn
import Derived.Sort.KeysCollected
import Derived.RangeFuncNested
import Derived.RangeFuncBound
import Derived.RangeFuncCalls
import Derived.RangeFuncLeaves
import Derived.RangeFuncBox
import Derived.OwnWalkIn
import Derived.TacticsInMore
import Derived.RegionIn
import Derived.LoopNIn
import Derived.LoopIn
import Derived.Maps.AppendAt
import Derived.Shelf.Abstract
import Derived.Shelf.Sort.Plain
import Derived.Shelf.Slices.In.SortNone
import Derived.Lib.AppendZerosOnto
import Derived.Lib.Overlaps
import Derived.Test.YtgpcickgjngglaaGreatQLFull1
import Derived.Test.YtgpcickgjngglaaGreatQLFull2
import Derived.Test.YtgpcickgjngglaaGreatQLFull3
import Derived.Test.YtgpcickgjngglaaGreatQLFull4
import Derived.Test.YtgpcickgjngglaaGreatQLFull5
import Derived.Test.YtgpcickgjngglaaGreatQLFull6
set_option linter.unusedVariables false
set_option linter.unusedSimpArgs false
namespace Go.Dec
structure ViewA where
 next:Int
 op:List TxnA
 fa:List TxnA
abbrev evX (t:TxnA):Value:=.agg #[.int .i64 t.pid,.int .i64 t.epoch,.int .i64 t.first,.int .i64 t.last]
def opF (A:ViewA) (pid:Int):Option TxnA:=A.op.find? λt=>decide (t.pid=pid)
def faF (A:ViewA) (pid epoch:Int):Option TxnA:=A.fa.find? λt=>decide (t.pid=pid/\t.epoch=epoch)
def z5c (A:ViewA):Int:=match A.op with
 | []=>A.next
 | t::_=>t.first
structure okT (t:TxnA) (next:Int):Prop where
 pid:1<=t.pid/\t.pid<=1048576
 epoch:0<=t.epoch/\t.epoch<=32767
 first:0<=t.first/\t.first<next
structure okV (A:ViewA):Prop where
 next:0<=A.next/\A.next<=1099511627777
 many:A.op.length<=1024/\A.fa.length<=4096
 op:∀ t ∈ A.op,okT t A.next/\t.last = -1
 fa:∀ t ∈ A.fa,okT t A.next/\t.first<t.last/\t.last<A.next
 byFirst:A.op.Pairwise λa b=>a.first<b.first
 byLast:A.fa.Pairwise λa b=>a.last<b.last
 pids:(A.op.map (·.pid)).Nodup
 keys:(A.fa.map λt=>(t.pid,t.epoch)).Nodup
 apart:∀ t ∈ A.op,∀ u ∈ A.fa,¬ (t.pid=u.pid/\t.epoch=u.epoch)
def opK (A:ViewA):List (Int × TxnA):=A.op.map λt=>(t.pid,t)
def faK (A:ViewA):List ((Int × Int) × TxnA):=A.fa.map λt=>((t.pid,t.epoch),t)
def vw (v:Nat) (A:ViewA):HP:=HP.ex λM:Nat × Nat=>HP.and (okV A) (HP.star (pt v (.cells #[.int .i64 A.next,.map (some M.1),.map (some M.2)] T.a16))
 (HP.star (z1e ekI evX M.1 (opK A)) (z1e ekK evX M.2 (faK A))))
section
variable {w:World} {l r r1 r2 r3 l':List HP} {v:Nat} {A:ViewA}
theorem z9g (hs:Sat w (vw v A::l)):∃ m1 m2:Nat,okV A/\Sat w (pt v (.cells #[.int .i64 A.next,.map (some m1),.map (some m2)] T.a16)::z1e ekI evX m1 (opK A)::z1e ekK evX m2 (faK A)::l):=by
 obtain ⟨⟨m1,m2⟩,hs⟩:=hs.ex
 obtain ⟨hok,hs⟩:=hs.and
 have hs:=hs.star
 have hs:=(hs.pick [1]).star
 exact ⟨m1,m2,hok,hs.pick [2,0,0]⟩
theorem z4z (m1 m2:Nat) (hok:okV A) (hs:Sat w l) {es1:List (Int × TxnA)} {es2:List ((Int × Int) × TxnA)} [h1:FocB l v (.cells [.int .i64 A.next,.map (some m1),.map (some m2)].toArray T.a16) r1] [h2:FoM r1 m1 ekI evX es1 r2] [h3:FoM r2 m2 ekK evX es2 r3] [h4:Sub r3 l']
  (hp1:es1.Perm (opK A):=by exact .refl _) (hp2:es2.Perm (faK A):=by exact .refl _):Sat w (vw v A::l'):=by
 have hs:=hs.perm (h1.perm.trans (.cons _ (h2.perm.trans (.cons _ h3.perm))))
 have hs:=((hs.pick [1]).mapPerm hp1)
 have hs:=((hs.pick [2]).mapPerm hp2)
 have hs:Sat w (vw v A::r3):=by
  refine .ex_mk (m1,m2) (.and_mk hok (.star_mk ?_))
  refine (Sat.star_mk (hs.pick [1,0])).pick [1]
 exact hs.sub
theorem zc3 {pid:Int} {t:TxnA} (h:opF A pid=some t):t ∈ A.op/\t.pid=pid:=⟨List.mem_of_find?_eq_some h,by simpa using List.find?_some h⟩
theorem zm7 {pid:Int} (h:opF A pid=none):∀ t ∈ A.op,t.pid≠pid:=λt ht=>by simpa using List.find?_eq_none.1 h t ht
theorem zfm {pid epoch:Int} {t:TxnA} (h:faF A pid epoch=some t):t ∈ A.fa/\t.pid=pid/\t.epoch=epoch:=⟨List.mem_of_find?_eq_some h,by simpa using List.find?_some h⟩
theorem zbq {pid epoch:Int} (h:faF A pid epoch=none):∀ t ∈ A.fa,¬ (t.pid=pid/\t.epoch=epoch):=λt ht=>by simpa using List.find?_eq_none.1 h t ht
theorem zm6 (A:ViewA) (pid:Int):(∃ t,opF A pid=some t/\(pid,t) ∈ opK A)\/(opF A pid=none/\∀ t,(pid,t) ∉ opK A):=by
 cases h:opF A pid with
 | some t=>exact .inl ⟨t,rfl,List.mem_map.2 ⟨t,(zc3 h).1,by rw [(zc3 h).2]⟩⟩
 | none=>exact .inr ⟨rfl,λt ht=>by
   obtain ⟨u,hu,e⟩:=List.mem_map.1 ht
   simp only [Prod.mk.injEq] at e
   exact zm7 h u hu e.1⟩
theorem zle (A:ViewA) (pid epoch:Int):(∃ t,faF A pid epoch=some t/\((pid,epoch),t) ∈ faK A)\/(faF A pid epoch=none/\∀ t,((pid,epoch),t) ∉ faK A):=by
 cases h:faF A pid epoch with
 | some t=>exact .inl ⟨t,rfl,List.mem_map.2 ⟨t,(zfm h).1,by rw [(zfm h).2.1,(zfm h).2.2]⟩⟩
 | none=>exact .inr ⟨rfl,λt ht=>by
   obtain ⟨u,hu,e⟩:=List.mem_map.1 ht
   simp only [Prod.mk.injEq] at e
   exact zbq h u hu e.1⟩
theorem z07i (hs:Sat w l):Ret P F.a58 #[] w λvs w'=>∃ v,vs=[.pointer (some ⟨v,0,none⟩)]/\Sat w' (vw v ⟨0,[],[]⟩::l) :=
 zke <| by
  unfold zqr
  refine zcg ekI evX hs λm1 w' hs=>?_
  refine zcg ekK evX hs λm2 w' hs=>?_
  refine zr hs λv w' hs=>?_
  refine ⟨rfl,v,rfl,?_⟩
  exact z4z m1 m2 (A:=⟨0,[],[]⟩) ⟨by show (0:Int)<=0/\(0:Int)<=_;omega,by simp,by simp,by simp,by simp,by simp,by simp,by simp,by simp⟩ hs
end
theorem zxl {A:ViewA} (hok:okV A) {n:Int} (h1:n<=A.next) (h2:∀ t ∈ A.op,n<=t.first) (h3:n=A.next\/∃ t ∈ A.op,n=t.first):n=z5c A:=by
 unfold z5c
 cases hop:A.op with
 | nil =>
  rcases h3 with h|⟨t,ht,-⟩
  ·exact h
  ·rw [hop] at ht;cases ht
 | cons u us =>
  dsimp only
  have hu:u ∈ A.op:=by rw [hop];exact List.mem_cons_self ..
  have h4:=h2 u hu
  have h5:=(hok.op u hu).1.first
  rcases h3 with h|⟨t,ht,rfl⟩
  ·omega
  ·have hb:=hok.byFirst
   rw [hop] at hb ht
   rcases List.mem_cons.1 ht with rfl|ht
   ·rfl
   ·have:=(List.pairwise_cons.1 hb).1 t ht;omega
def zac (o:Option TxnA):Int × Int × Int × Int × Bool × Unit:=((o.getD ⟨0,0,0,0⟩).pid,(o.getD ⟨0,0,0,0⟩).epoch,(o.getD ⟨0,0,0,0⟩).first,(o.getD ⟨0,0,0,0⟩).last,o.isSome,())
section
variable {w:World} {l r r1 r2 r3 l':List HP} {v:Nat} {A:ViewA}
theorem zjf [hf:Fo l vw v A r] (hs:Sat w l):Ret P F.a65 #[.pointer (some ⟨v,0,none⟩)] w λvs w'=>vs=[.int .i64 (z5c A)]/\Sat w' (vw v A::r) :=
 zv2 _ <| by
  delta z00w AB AQ AU Aa Ab Ac Ae Af Ag Ai Ar B7 Bz
  obtain ⟨m1,m2,hok,hs⟩:=z9g (hs.perm hf.perm)
  refine z03 ?_ (by simp)
  refine zh ?_
  refine zb hs ?_
  refine wp_lt ?_
  refine zh ?_
  refine zb hs ?_
  refine zkc hs λit w' hs=>?_
  refine zl (λx w'=>x=(z5c A,())/\Sat w' (vw v A::r)) ?_ (by rintro _ w' ⟨rfl,hs⟩;refine zk ?_;refine wp_lt ?_;exact ⟨rfl,rfl,hs⟩)
  refine z0b (λk x w=>∃ (n:Int) (todo:List (Int × TxnA)) (last:Option (Int × TxnA)),x=(n,())/\todo.length=k/\(∀ y ∈ todo,y ∈ opK A)/\n<=A.next/\(∀ t ∈ A.op,(t.pid,t) ∈ todo\/n<=t.first)/\(n=A.next\/∃ t ∈ A.op,n=t.first) /\
   Sat w (itP ekI evX it m1 (opK A) todo last::pt v (.cells #[.int .i64 A.next,.map (some m1),.map (some m2)] T.a16)::z1e ekK evX m2 (faK A)::r)) (opK A).length
   ⟨A.next,opK A,none,rfl,rfl,λy hy=>hy,Int.le_refl _,λt ht=>.inl (List.mem_map.2 ⟨t,ht,rfl⟩),.inl rfl,hs⟩ ?_
  clear hs
  rintro k _ w ⟨n,todo,last,rfl,hk,hsub,h1,h2,h3,hs⟩
  refine zk ?_
  refine zn7 hs (λk t=>(k,t.pid,t.epoch,t.first,t.last,())) (λkk t todo' w' hp hs=>?_) λh0=>?_
  ·refine z7z kk t.pid t.epoch t.first t.last ?_
   refine zrz hs (kk,t.pid,t.epoch,t.first,t.last,()) ?_
   refine z7z kk t.pid t.epoch t.first t.last ?_
   refine zt hs λc w' hs=>?_
   refine zu hs λw' hs=>?_
   refine zb hs ?_
   refine wp_lt ?_
   have hmem:(kk,t) ∈ opK A:=hsub _ (hp.mem_iff.2 (List.mem_cons_self ..))
   obtain ⟨u,hu,e⟩:=List.mem_map.1 hmem
   simp only [Prod.mk.injEq] at e
   obtain ⟨rfl,rfl⟩:=e
   refine z0x todo'.length ?_ (by rw [<- hk,hp.length_eq,List.length_cons];omega)
   refine ⟨_,todo',some (u.pid,u),rfl,rfl,λy hy=>hsub y (hp.mem_iff.2 (List.mem_cons_of_mem _ hy)),by split <;> omega,λt ht=>?_,?_,hs.sub⟩
   ·rcases h2 t ht with h|h
    ·rcases List.mem_cons.1 (hp.mem_iff.1 h) with e|h
     ·simp only [Prod.mk.injEq] at e
      right
      rw [e.2];split <;> omega
     ·exact .inl h
    ·right;split <;> omega
   ·split
    ·exact .inr ⟨u,hu,rfl⟩
    ·exact h3
  ·refine zn (zg ?_)
   subst h0
   have e:=zxl hok h1 (λt ht=>(h2 t ht).resolve_left (by simp)) h3
   rw [e]
   exact ⟨rfl,z4z m1 m2 hok hs.itDone⟩
theorem z05m (t:TxnA) (hs:Sat w l):Ret P F.a70 #[.agg (z2p t).toArray] w λvs w'=>vs=[.agg (z2p t).toArray]/\Sat w' l :=
 zv5 t.pid t.epoch t.first t.last <| by
  delta z095 Ab Ac Ai Am Ar BB Bz
  refine zr hs λa0 w' hs=>?_
  refine zt hs λa1 w' hs=>?_
  refine zb hs ?_
  refine zb hs ?_
  refine zb hs ?_
  refine zb hs ?_
  refine zu hs λw' hs=>?_
  refine zi hs ?_
  exact ⟨rfl,rfl,hs.tail.tail⟩
instance {t:TxnA}:IsR (sG [.int .i64,.int .i64,.int .i64,.int .i64]) [.agg (z2p t).toArray] (t.pid,t.epoch,t.first,t.last,()):=⟨rfl⟩
end
abbrev lkS:List Sh1:=[.agg [.int .i64,.int .i64,.int .i64,.int .i64],.one .bool]
def z5p (A:ViewA) (b:BatM):Int:=if z0a b then 3 else if b.base>=z5c A then 0 else if b.kind=1/\(faF A b.pid b.epoch).isSome=true/\b.base>=((faF A b.pid b.epoch).getD ⟨0,0,0,0⟩).first then 2 else 1
def zi6 (A:ViewA) (b:BatM):Int:=if (faF A b.pid b.epoch).isSome=true then 20 else if (opF A b.pid).isSome=true/\¬ (((opF A b.pid).getD ⟨0,0,0,0⟩).pid=b.pid/\((opF A b.pid).getD ⟨0,0,0,0⟩).epoch=b.epoch) then 22 else
 if b.kind=1/\(opF A b.pid).isSome=false/\A.op.length>=1024 then 5 else if b.kind=3/\(opF A b.pid).isSome=true/\A.fa.length>=4096 then 5 else 0
def z50 (A:ViewA) (b:BatM):Int:=if zx b≠0 then zx b else if b.base<A.next then 8 else if b.kind≠0 then zi6 A b else 0
section
variable {w:World} {l r r1 r2 r3 l':List HP} {v:Nat} {A:ViewA} {b:BatM}
theorem z04i (b:BatM) [hf:Fo l vw v A r] (hs:Sat w l):Ret P F.a60 #[.pointer (some ⟨v,0,none⟩),.agg (z00 b).toArray] w λvs w'=>vs=[.int .i64 (z5p A b)]/\Sat w' (vw v A::r) :=
 zuy _ b.base b.pid b.epoch b.seq b.kind b.time b.x <| by
  delta z090 AB AD AH AQ AS AT Aa Ab Ac Ag Ai Al Am Ar As Aw Ay Az Bb Bc Bh Bw Bx By Bz
  refine zr (hs.perm hf.perm) λa0 w' hs=>?_
  refine z03 ?_ (by simp)
  have ho:=zle A b.pid b.epoch
  refine zl (λx w'=>∃ c:Nat,x=(⟨c,0,none⟩,(faF A b.pid b.epoch).isSome,())/\Sat w' (pt c (.cells #[.int .i64 ((faF A b.pid b.epoch).getD ⟨0,0,0,0⟩).pid,.int .i64 ((faF A b.pid b.epoch).getD ⟨0,0,0,0⟩).epoch,.int .i64 ((faF A b.pid b.epoch).getD ⟨0,0,0,0⟩).first,.int .i64 ((faF A b.pid b.epoch).getD ⟨0,0,0,0⟩).last] T.a18) ::
   pt a0 (.cells #[.int .i64 b.base,.int .i64 b.pid,.int .i64 b.epoch,.int .i64 b.seq,.int .i64 b.kind,.int .i64 b.time,.slice b.x.a b.x.len b.x.cap] T.a0)::vw v A::r)) ?_ ?_
  ·obtain ⟨m1,m2,hok,hs⟩:=z9g (hs.pick [1])
   refine z01 hs λw' hs=>?_
   refine zh ?_
   refine z0s hs ?_
   refine z0s hs ?_
   refine z0s hs ?_
   refine zcf hs (faF A b.pid b.epoch) ho zac ?_
   refine z7z _ _ _ _ _ ?_
   refine zt hs (λc w' hs=>?_) (λc w' hs=>⟨⟨⟨⟨trivial,λ_=>z07 hs⟩,λ_=>z07 hs⟩,λ_=>z07 hs⟩,λ_=>z8q (ss:=lkS) hs ho zac⟩)
   refine ze ?_
   refine zu hs λw' hs=>?_
   refine wp_lt ?_
   refine ze ?_
   refine zg ⟨c,rfl,?_⟩
   have hs:Sat w' (vw v A::pt c (.cells #[.int .i64 ((faF A b.pid b.epoch).getD ⟨0,0,0,0⟩).pid,.int .i64 ((faF A b.pid b.epoch).getD ⟨0,0,0,0⟩).epoch,.int .i64 ((faF A b.pid b.epoch).getD ⟨0,0,0,0⟩).first,.int .i64 ((faF A b.pid b.epoch).getD ⟨0,0,0,0⟩).last] T.a18) ::
    pt a0 (.cells #[.int .i64 b.base,.int .i64 b.pid,.int .i64 b.epoch,.int .i64 b.seq,.int .i64 b.kind,.int .i64 b.time,.slice b.x.a b.x.len b.x.cap] T.a0)::r):=z4z m1 m2 hok hs
   exact hs.pick [1,1]
  clear hs
  rintro _ w ⟨c,rfl,hs⟩
  refine zk ?_
  refine zi hs ?_
  refine z8 (zqo b hs) λ_ _ hs=>?_
  obtain ⟨rfl,hs⟩:=hs
  refine zd ?_
  refine wp_lt ?_
  unfold z5p
  refine zf (λh=>?_) λh=>?_
  ·rw [if_pos h];exact ⟨rfl,rfl,hs.tail.tail⟩
  rw [if_neg h]
  refine z01 hs λw' hs=>?_
  refine z0s hs ?_
  refine z8 (zjf (v:=v) hs) λ_ w' hs=>?_
  obtain ⟨rfl,hs⟩:=hs
  refine zd ?_ ⟨trivial,λ_=>z07 hs⟩
  refine wp_lt ?_
  refine ze ?_
  refine zf (λh2=>?_) λh2=>?_
  ·rw [if_pos h2];exact ⟨rfl,rfl,hs.sub⟩
  rw [if_neg h2]
  refine zb hs ?_
  refine zb hs ?_
  refine zb hs ?_
  refine wp_lt ?_
  refine zf (λh3=>?_) λh3=>?_
  ·rw [if_pos ⟨h3.1.1,h3.1.2,h3.2⟩];exact ⟨rfl,rfl,hs.sub⟩
  ·rw [if_neg (λh4=>h3 ⟨⟨h4.1,h4.2.1⟩,h4.2.2⟩)];exact ⟨rfl,rfl,hs.sub⟩
theorem z07h (b:BatM) [hf:Fo l vw v A r] (hs:Sat w l):Ret P F.a68 #[.pointer (some ⟨v,0,none⟩),.agg (z00 b).toArray] w λvs w'=>vs=[.int .i64 (zi6 A b)]/\Sat w' (vw v A::r) :=
 zv4 _ b.base b.pid b.epoch b.seq b.kind b.time b.x <| by
  delta z094 AB AD AH AQ AS AT Aa Ab Ac Ai Am Ar Ax Ay BF BG BH Bb Bh Bl Bw Bx By Bz;unfold zi6
  have ho:=zle A b.pid b.epoch
  have ho2:=zm6 A b.pid
  obtain ⟨m1,m2,hok,hs⟩:=z9g (hs.perm hf.perm)
  refine zr hs λa0 w' hs=>?_
  refine zb hs ?_
  refine zb hs ?_
  refine zt hs λa3 w' hs=>?_
  refine zu hs λw' hs=>?_
  refine zl (λx w'=>x=((faF A b.pid b.epoch).isSome,())/\Sat w' (pt a3 (.cells #[.int .i64 b.pid,.int .i64 b.epoch] T.a17)::pt a0 (.cells #[.int .i64 b.base,.int .i64 b.pid,.int .i64 b.epoch,.int .i64 b.seq,.int .i64 b.kind,.int .i64 b.time,.slice b.x.a b.x.len b.x.cap] T.a0) ::
   pt v (.cells #[.int .i64 A.next,.map (some m1),.map (some m2)] T.a16)::z1e ekI evX m1 (opK A)::z1e ekK evX m2 (faK A)::r)) ?_ ?_
  ·refine z01 hs λw' hs=>?_
   refine zh ?_
   refine z0s hs ?_
   refine zhl hs ?_
   refine zcf hs (faF A b.pid b.epoch) ho zac ?_
   refine z7z _ _ _ _ _ ?_
   refine zt hs (λc w' hs=>?_) (λc w' hs=>⟨⟨⟨trivial,λ_=>z07 hs⟩,λ_=>z0c hs⟩,λ_=>z8q (ss:=lkS) hs ho zac⟩)
   refine ze ?_
   refine zu hs λw' hs=>?_
   refine wp_lt ?_
   refine ze ?_
   exact zg ⟨rfl,hs.sub⟩
  clear hs
  rintro _ w ⟨rfl,hs⟩
  refine zk ?_
  refine zl (λx w'=>∃ c:Nat,x=(⟨c,0,none⟩,(opF A b.pid).isSome,())/\Sat w' (pt c (.cells #[.int .i64 ((opF A b.pid).getD ⟨0,0,0,0⟩).pid,.int .i64 ((opF A b.pid).getD ⟨0,0,0,0⟩).epoch,.int .i64 ((opF A b.pid).getD ⟨0,0,0,0⟩).first,.int .i64 ((opF A b.pid).getD ⟨0,0,0,0⟩).last] T.a18) ::
   pt a3 (.cells #[.int .i64 b.pid,.int .i64 b.epoch] T.a17)::pt a0 (.cells #[.int .i64 b.base,.int .i64 b.pid,.int .i64 b.epoch,.int .i64 b.seq,.int .i64 b.kind,.int .i64 b.time,.slice b.x.a b.x.len b.x.cap] T.a0) ::
   pt v (.cells #[.int .i64 A.next,.map (some m1),.map (some m2)] T.a16)::z1e ekI evX m1 (opK A)::z1e ekK evX m2 (faK A)::r)) ?_ ?_
  ·refine z01 hs λw' hs=>?_
   refine zh ?_
   refine z0s hs ?_
   refine z0s hs ?_
   refine zcf hs (opF A b.pid) ho2 zac ?_
   refine z7z _ _ _ _ _ ?_
   refine zt hs (λc w' hs=>?_) (λc w' hs=>⟨⟨⟨trivial,λ_=>z07 hs⟩,λ_=>z07 hs⟩,λ_=>z8q (ss:=lkS) hs ho2 zac⟩)
   refine ze ?_
   refine zu hs λw' hs=>?_
   refine wp_lt ?_
   refine ze ?_
   exact zg ⟨c,rfl,hs.sub⟩
  clear hs
  rintro _ w ⟨c,rfl,hs⟩
  refine zk ?_
  have hfin:∀ {w'},Sat w' (pt c (.cells #[.int .i64 ((opF A b.pid).getD ⟨0,0,0,0⟩).pid,.int .i64 ((opF A b.pid).getD ⟨0,0,0,0⟩).epoch,.int .i64 ((opF A b.pid).getD ⟨0,0,0,0⟩).first,.int .i64 ((opF A b.pid).getD ⟨0,0,0,0⟩).last] T.a18) ::
   pt a3 (.cells #[.int .i64 b.pid,.int .i64 b.epoch] T.a17)::pt a0 (.cells #[.int .i64 b.base,.int .i64 b.pid,.int .i64 b.epoch,.int .i64 b.seq,.int .i64 b.kind,.int .i64 b.time,.slice b.x.a b.x.len b.x.cap] T.a0) ::
   pt v (.cells #[.int .i64 A.next,.map (some m1),.map (some m2)] T.a16)::z1e ekI evX m1 (opK A)::z1e ekK evX m2 (faK A)::r)->Sat w' (vw v A::r):=λhs=>z4z m1 m2 hok hs
  refine wp_lt ?_
  refine zf (λh1=>?_) λh1=>?_
  ·rw [if_pos h1];exact ⟨rfl,rfl,hfin hs⟩
  rw [if_neg h1]
  refine zn6 hs (((opF A b.pid).getD ⟨0,0,0,0⟩).pid,((opF A b.pid).getD ⟨0,0,0,0⟩).epoch,()) ?_
  refine zi hs ?_
  refine wp_lt ?_
  refine zf (λh2=>?_) λh2=>?_
  ·rw [if_pos]
   ·exact ⟨rfl,rfl,hfin hs⟩
   ·exact ⟨h2.1,λh=>h2.2 h⟩
  rw [if_neg (λh=>h2 ⟨h.1,λh'=>h.2 h'⟩)]
  refine zb hs ?_
  refine z0n ?_
  refine zb hs ?_
  refine zed hs ?_
  refine wp_lt ?_
  have e1:(opK A).length=A.op.length:=by simp [opK]
  have e2:(faK A).length=A.fa.length:=by simp [faK]
  rw [e1]
  refine zf (λh3=>?_) λh3=>?_
  ·rw [if_pos]
   ·exact ⟨rfl,rfl,hfin hs⟩
   ·exact ⟨h3.1.1,by simpa using h3.1.2,by omega⟩
  rw [if_neg (λh=>h3 ⟨⟨h.1,by simp [h.2.1]⟩,by omega⟩)]
  refine zb hs ?_
  refine z0n ?_
  refine zb hs ?_
  refine zed hs ?_
  refine wp_lt ?_
  rw [e2]
  refine zf (λh4=>?_) λh4=>?_
  ·rw [if_pos]
   ·exact ⟨rfl,rfl,hfin hs⟩
   ·exact ⟨h4.1.1,h4.1.2,by omega⟩
  ·rw [if_neg (λh=>h4 ⟨⟨h.1,h.2.1⟩,by omega⟩)]
   exact ⟨rfl,rfl,hfin hs⟩
theorem zwk (b:BatM) [hf:Fo l vw v A r] [hb:FocR r b.x 4 (b.rs.flatMap zv)] (hs:Sat w l):Ret P F.a61 #[.pointer (some ⟨v,0,none⟩),.agg (z00 b).toArray] w λvs w'=>vs=[.int .i64 (z50 A b)]/\Sat w' (vw v A::r) :=
 zuz _ b.base b.pid b.epoch b.seq b.kind b.time b.x <| by
  delta z091 AD AH AQ AT Aa Ae Ag Ai Al Am Ar Ay Az Bb Bc;unfold z50
  refine zr (hs.perm hf.perm) λa0 w' hs=>?_
  refine z03 ?_ (by simp)
  refine zi hs ?_
  refine z8 (z9f b hs) λ_ _ hs=>?_
  obtain ⟨rfl,hs⟩:=hs
  refine zd ?_
  refine wp_lt ?_
  refine zf (λh=>?_) λh=>?_
  ·rw [if_pos h]
   refine wp_lt ?_
   exact ⟨rfl,rfl,hs.tail⟩
  rw [if_neg h]
  refine z01 hs λw' hs=>?_
  refine zb hs ?_
  obtain ⟨m1,m2,hok,hs⟩:=z9g (hs.pick [1])
  refine zh ?_
  refine zb hs ?_
  refine wp_lt ?_
  refine ze ?_
  have hs:Sat w' (vw v A::pt a0 (.cells #[.int .i64 b.base,.int .i64 b.pid,.int .i64 b.epoch,.int .i64 b.seq,.int .i64 b.kind,.int .i64 b.time,.slice b.x.a b.x.len b.x.cap] T.a0)::r):=z4z m1 m2 hok hs
  refine zf (λh2=>?_) λh2=>?_
  ·rw [if_pos h2];exact ⟨rfl,rfl,hs.sub⟩
  rw [if_neg h2]
  refine zb hs ?_
  refine wp_lt ?_
  refine zf (λh3=>?_) λh3=>?_
  ·rw [if_pos h3]
   refine zi hs ?_
   refine z8 (z07h (v:=v) b hs) λ_ _ hs=>?_
   obtain ⟨rfl,hs⟩:=hs
   refine zd ?_
   refine wp_lt ?_
   exact ⟨rfl,rfl,hs.sub⟩
  ·rw [if_neg h3];exact ⟨rfl,rfl,hs.sub⟩
end
def z49 (p:Int) (l:List TxnA):List TxnA:=l.filter λt=>!decide (t.pid=p)
def z3k (A:ViewA) (b:BatM):ViewA :=
 if b.kind=1/\(opF A b.pid).isSome=false then { A with next:=b.base+zp b,op:=A.op++[⟨b.pid,b.epoch,b.base,-1⟩] }
 else if z0a b=true/\(opF A b.pid).isSome=true then
  if b.kind=3 then ⟨b.base+zp b,z49 b.pid A.op,A.fa++[{ (opF A b.pid).getD ⟨0,0,0,0⟩ with last:=b.base }]⟩ else ⟨b.base+zp b,z49 b.pid A.op,A.fa⟩
 else { A with next:=b.base+zp b }
def z7x (A:ViewA) (b:BatM):Int × ViewA:=if z50 A b≠0 then (z50 A b,A) else (0,z3k A b)
theorem z8n {A:ViewA} {b:BatM} (h:z50 A b=0):zx b=0/\A.next<=b.base/\(b.kind≠0->zi6 A b=0):=by
 unfold z50 at h
 by_cases h1:zx b≠0
 ·rw [if_pos h1] at h;exact absurd h h1
 rw [if_neg h1] at h
 by_cases h2:b.base<A.next
 ·rw [if_pos h2] at h;cases h
 rw [if_neg h2] at h
 refine ⟨Decidable.not_not.1 h1,by omega,λh3=>?_⟩
 rwa [if_pos h3] at h
theorem zg1 {A:ViewA} {b:BatM} (h:zi6 A b=0):faF A b.pid b.epoch=none/\(∀ t,opF A b.pid=some t->t.epoch=b.epoch)/\(b.kind=1->opF A b.pid=none->A.op.length<1024)/\(b.kind=3->∀ t,opF A b.pid=some t->A.fa.length<4096):=by
 unfold zi6 at h
 by_cases h1:(faF A b.pid b.epoch).isSome=true
 ·rw [if_pos h1] at h;cases h
 rw [if_neg h1] at h
 have hn:faF A b.pid b.epoch=none:=by
  cases hc:faF A b.pid b.epoch with
  | none=>rfl
  | some t=>rw [hc] at h1;exact absurd rfl h1
 split at h
 ·cases h
 rename_i h2
 split at h
 ·cases h
 rename_i h3
 split at h
 ·cases h
 rename_i h4
 refine ⟨hn,λt ht=>?_,λhk ho=>?_,λhk t ht=>?_⟩
 ·have h5:((opF A b.pid).getD ⟨0,0,0,0⟩).pid=b.pid/\((opF A b.pid).getD ⟨0,0,0,0⟩).epoch=b.epoch:=Decidable.not_not.1 λh6=>h2 ⟨by rw [ht];rfl,h6⟩
  rw [ht] at h5
  exact h5.2
 ·apply Nat.lt_of_not_le
  intro h5
  exact h3 ⟨hk,by rw [ho];rfl,h5⟩
 ·apply Nat.lt_of_not_le
  intro h5
  exact h4 ⟨hk,by rw [ht];rfl,h5⟩
theorem z89 {t:TxnA} {n m:Int} (h:okT t n) (hnm:n<=m):okT t m:=⟨h.pid,h.epoch,h.first.1,Int.lt_of_lt_of_le h.first.2 hnm⟩
theorem zgl {t:TxnA}:∀ {l:List TxnA},(l.map (·.pid)).Nodup->t ∈ l->l.Perm (t::z49 t.pid l)
 | u::l,hnd,ht=>by
  rw [List.map_cons,List.nodup_cons] at hnd
  have hrest:∀ {p:Int},p ∉ l.map (·.pid)->z49 p l=l:=λ{p} hp=>List.filter_eq_self.2 λx hx=>by
   have:x.pid≠p:=λe=>hp (List.mem_map.2 ⟨x,hx,e⟩)
   simpa using this
  rcases List.mem_cons.1 ht with rfl|ht
  ·have:z49 t.pid (t::l)=l:=by
    show (t::l).filter _=l
    rw [List.filter_cons_of_neg (by simp)]
    exact hrest hnd.1
   rw [this]
  ·have hne:u.pid≠t.pid:=λe=>hnd.1 (List.mem_map.2 ⟨t,ht,e.symm⟩)
   have:z49 t.pid (u::l)=u::z49 t.pid l:=by
    show (u::l).filter _=_
    rw [List.filter_cons_of_pos (by simpa using hne)];rfl
   rw [this]
   exact ((zgl hnd.2 ht).cons u).trans (.swap _ _ _)
theorem zzo {A:ViewA} {b:BatM} (hok:okV A) (h:z50 A b=0):okV (z3k A b):=by
 obtain ⟨hv,hbase,hmay⟩:=z8n h
 obtain ⟨s1,s2,hnum,hfit,s3⟩:=z15 b hv
 obtain ⟨hk,hb,hp,he,hse,ht⟩:=hnum
 have hnx:=hok.next
 unfold z3k
 split
 ·rename_i h1
  obtain ⟨hk1,ho⟩:=h1
  obtain ⟨m1,m2,m3,m4⟩:=zg1 (hmay (by omega))
  have ho:opF A b.pid=none:=by
   cases hc:opF A b.pid with
   | none=>rfl
   | some t=>rw [hc] at ho;cases ho
  have hpid:1<=b.pid:=by
   have:=hfit.1
   apply Decidable.byContradiction
   intro h5
   exact this ⟨by omega,.inl (by omega)⟩
  have hlt:=m3 hk1 ho
  refine ⟨by show 0<=b.base+zp b/\b.base+zp b<=_;omega,by show (A.op++[_]).length<=1024/\_;rw [List.length_append];exact ⟨by simp;omega,hok.many.2⟩,λt ht=>?_,λt ht=>?_,?_,hok.byLast,?_,hok.keys,λt ht u hu=>?_⟩
  ·rcases List.mem_append.1 ht with ht|ht
   ·exact ⟨z89 (hok.op t ht).1 (by show A.next<=b.base+zp b;omega),(hok.op t ht).2⟩
   ·rw [List.mem_singleton.1 ht]
    exact ⟨⟨⟨hpid,hp.2⟩,he,hb.1,by show b.base<b.base+zp b;omega⟩,rfl⟩
  ·obtain ⟨h1,h2,h3⟩:=hok.fa t ht
   exact ⟨z89 h1 (by show A.next<=b.base+zp b;omega),h2,by show t.last<b.base+zp b;omega⟩
  ·show (A.op++[_]).Pairwise _
   rw [List.pairwise_append]
   refine ⟨hok.byFirst,by simp,λt ht u hu=>?_⟩
   rw [List.mem_singleton.1 hu]
   have:=(hok.op t ht).1.first
   show t.first<b.base
   omega
  ·show ((A.op++[_]).map _).Nodup
   rw [List.map_append,List.nodup_append]
   refine ⟨hok.pids,by simp,λp hp q hq=>?_⟩
   obtain ⟨t,ht,rfl⟩:=List.mem_map.1 hp
   rw [List.map_singleton,List.mem_singleton] at hq
   rw [hq]
   exact zm7 ho t ht
  ·rcases List.mem_append.1 ht with ht|ht
   ·exact hok.apart t ht u hu
   ·rw [List.mem_singleton.1 ht]
    intro h5
    exact zbq m1 u hu ⟨h5.1.symm,h5.2.symm⟩
 ·split
  ·rename_i h1 h2
   obtain ⟨hm,ho⟩:=h2
   obtain ⟨t,ho⟩:∃ t,opF A b.pid=some t:=Option.isSome_iff_exists.1 ho
   have hk0:b.kind≠0:=by
    unfold z0a at hm
    simp only [Bool.or_eq_true,decide_eq_true_eq] at hm
    omega
   obtain ⟨m1,m2,m3,m4⟩:=zg1 (hmay hk0)
   obtain ⟨htm,htp⟩:=zc3 ho
   have hte:=m2 t ho
   have hdrop:∀ u ∈ z49 b.pid A.op,u ∈ A.op/\u.pid≠b.pid:=λu hu=>by
    obtain ⟨h5,h6⟩:=List.mem_filter.1 hu
    exact ⟨h5,by simpa using h6⟩
   have hsub:(z49 b.pid A.op).Sublist A.op:=List.filter_sublist
   have hop:∀ u ∈ z49 b.pid A.op,okT u (b.base+zp b)/\u.last = -1:=λu hu=>⟨z89 (hok.op u (hdrop u hu).1).1 (by omega),(hok.op u (hdrop u hu).1).2⟩
   have hfa:∀ u ∈ A.fa,okT u (b.base+zp b)/\u.first<u.last/\u.last<b.base+zp b:=λu hu=>by
    obtain ⟨h5,h6,h7⟩:=hok.fa u hu
    exact ⟨z89 h5 (by omega),h6,by omega⟩
   have hlen:(z49 b.pid A.op).length<=1024:=Nat.le_trans hsub.length_le hok.many.1
   split
   ·rename_i hk3
    rw [ho]
    have htf:=(hok.op t htm).1
    refine ⟨by show 0<=b.base+zp b/\b.base+zp b<=_;omega,⟨hlen,by show (A.fa++[_]).length<=_;rw [List.length_append];have:=m4 hk3 t ho;simp;omega⟩,hop,λu hu=>?_,hok.byFirst.sublist hsub,?_,hok.pids.sublist (hsub.map _),?_,λu hu x hx=>?_⟩
    ·rcases List.mem_append.1 hu with hu|hu
     ·exact hfa u hu
     ·rw [List.mem_singleton.1 hu]
      have:=htf.first
      exact ⟨⟨htf.pid,htf.epoch,this.1,by show t.first<b.base+zp b;omega⟩,by show t.first<b.base;omega,by show b.base<b.base+zp b;omega⟩
    ·show (A.fa++[_]).Pairwise _
     rw [List.pairwise_append]
     refine ⟨hok.byLast,by simp,λu hu x hx=>?_⟩
     rw [List.mem_singleton.1 hx]
     have:=(hok.fa u hu).2.2
     show u.last<b.base
     omega
    ·show ((A.fa++[_]).map _).Nodup
     rw [List.map_append,List.nodup_append]
     refine ⟨hok.keys,by simp,λp hp q hq=>?_⟩
     obtain ⟨u,hu,rfl⟩:=List.mem_map.1 hp
     rw [List.map_singleton,List.mem_singleton] at hq
     rw [hq]
     intro h5
     simp only [Prod.mk.injEq] at h5
     exact zbq m1 u hu ⟨h5.1.trans htp,h5.2.trans hte⟩
    ·rcases List.mem_append.1 hx with hx|hx
     ·exact hok.apart u (hdrop u hu).1 x hx
     ·rw [List.mem_singleton.1 hx]
      intro h5
      exact (hdrop u hu).2 (h5.1.trans htp)
   ·exact ⟨by show 0<=b.base+zp b/\b.base+zp b<=_;omega,⟨hlen,hok.many.2⟩,hop,hfa,hok.byFirst.sublist hsub,hok.byLast,hok.pids.sublist (hsub.map _),hok.keys,λu hu x hx=>hok.apart u (hdrop u hu).1 x hx⟩
  ·refine ⟨by show 0<=b.base+zp b/\b.base+zp b<=_;omega,hok.many,λt ht=>⟨z89 (hok.op t ht).1 (by show A.next<=b.base+zp b;omega),(hok.op t ht).2⟩,λt ht=>?_,hok.byFirst,hok.byLast,hok.pids,hok.keys,hok.apart⟩
   obtain ⟨h1,h2,h3⟩:=hok.fa t ht
   exact ⟨z89 h1 (by show A.next<=b.base+zp b;omega),h2,by show t.last<b.base+zp b;omega⟩
section
variable {w:World} {l r r1 r2 r3 l':List HP} {v:Nat} {A:ViewA} {b:BatM}
theorem z04j (b:BatM) [hf:Fo l vw v A r] [hb:FocR r b.x 4 (b.rs.flatMap zv)] (hs:Sat w l):Ret P F.a66 #[.pointer (some ⟨v,0,none⟩),.agg (z00 b).toArray] w λvs w'=>vs=[.int .i64 (z7x A b).1]/\Sat w' (vw v (z7x A b).2::r) :=
 zv3 _ b.base b.pid b.epoch b.seq b.kind b.time b.x <| by
  delta z093 AB AC AD AH AI AQ AS Aa Ab Ac Ae Ag Ai Al Am Ar Aw Ay Az B7 B9 BA BB Bb Bc Bg Bh Bw Bx By Bz;unfold z7x
  refine zr (hs.perm hf.perm) λa0 w' hs=>?_
  refine zi hs ?_
  refine z8 (zwk (v:=v) b hs) λ_ _ hs=>?_
  obtain ⟨rfl,hs⟩:=hs
  refine zd ?_
  refine wp_lt ?_
  refine zf (λh=>?_) λh=>?_
  ·rw [if_pos h]
   refine wp_lt ?_
   exact ⟨rfl,rfl,hs.sub⟩
  rw [if_neg h]
  have hc:z50 A b=0:=Decidable.not_not.1 h
  obtain ⟨hv,hbase,hmay⟩:=z8n hc
  refine zi hs ?_
  refine z8 (z9d b hs) λ_ _ hs=>?_
  obtain ⟨rfl,hs⟩:=hs
  refine zd ?_
  have hnx:z1q b=b.base+zp b:=by unfold z1q;rw [if_neg (by rw [hv];simp)]
  rw [hnx]
  obtain ⟨m1,m2,hok,hs⟩:=z9g hs
  have hok':=zzo hok hc
  have ho:=zm6 A b.pid
  refine zh ?_
  refine z08 hs λw' hs=>?_
  refine zl (λx w'=>∃ c:Nat,x=(⟨c,0,none⟩,(opF A b.pid).isSome,())/\Sat w' (pt c (.cells #[.int .i64 ((opF A b.pid).getD ⟨0,0,0,0⟩).pid,.int .i64 ((opF A b.pid).getD ⟨0,0,0,0⟩).epoch,.int .i64 ((opF A b.pid).getD ⟨0,0,0,0⟩).first,.int .i64 ((opF A b.pid).getD ⟨0,0,0,0⟩).last] T.a18) ::
   pt a0 (.cells #[.int .i64 b.base,.int .i64 b.pid,.int .i64 b.epoch,.int .i64 b.seq,.int .i64 b.kind,.int .i64 b.time,.slice b.x.a b.x.len b.x.cap] T.a0) ::
   pt v (.cells #[.int .i64 (b.base+zp b),.map (some m1),.map (some m2)] T.a16)::z1e ekI evX m1 (opK A)::z1e ekK evX m2 (faK A)::r)) ?_ ?_
  ·refine z01 hs λw' hs=>?_
   refine zh ?_
   refine z0s hs ?_
   refine z0s hs ?_
   refine zcf hs (opF A b.pid) ho zac ?_
   refine z7z _ _ _ _ _ ?_
   refine zt hs (λc w' hs=>?_) (λc w' hs=>⟨⟨⟨trivial,λ_=>z07 hs⟩,λ_=>z07 hs⟩,λ_=>z8q (ss:=lkS) hs ho zac⟩)
   refine ze ?_
   refine zu hs λw' hs=>?_
   refine wp_lt ?_
   refine ze ?_
   exact zg ⟨c,rfl,hs.sub⟩
  clear hs
  rintro _ w ⟨c,rfl,hs⟩
  refine zk ?_
  refine zb hs ?_
  refine wp_lt ?_
  refine zl (λ_ w'=>Sat w' (vw v (z3k A b)::r)) ?_ (by rintro _ w' hs;refine zk ?_;exact ⟨rfl,rfl,hs⟩)
  refine zf (λh1=>?_) λh1=>?_
  ·have h1:b.kind=1/\(opF A b.pid).isSome=false:=⟨h1.1,by simpa using h1.2⟩
   have htk:z3k A b={ A with next:=b.base+zp b,op:=A.op++[⟨b.pid,b.epoch,b.base,-1⟩] }:=by unfold z3k;rw [if_pos h1]
   rw [htk] at hok' ⊢
   refine z01 hs λw' hs=>?_
   refine zh ?_
   refine zb hs ?_
   refine zb hs ?_
   refine zb hs ?_
   refine zb hs ?_
   refine zb hs ?_
   have hno:∀ u,(b.pid,u) ∉ opK A:=by
    rcases ho with ⟨t,ht,-⟩|⟨-,hno⟩
    ·rw [ht] at h1;cases h1.2
    ·exact hno
   refine zbk hs (opK A) (.inr ⟨hno,rfl⟩) (⟨b.pid,b.epoch,b.base,-1⟩:TxnA) λw' hs=>?_
   refine ze ?_
   refine zg ?_
   exact z4z m1 m2 (A:={ A with next:=b.base+zp b,op:=A.op++[⟨b.pid,b.epoch,b.base,-1⟩] }) hok' hs (by
    show List.Perm _ ((A.op++[_]).map _)
    rw [List.map_append]
    exact List.perm_append_comm (l₁:=[(b.pid,(⟨b.pid,b.epoch,b.base,-1⟩:TxnA))]))
  have h1:¬ (b.kind=1/\(opF A b.pid).isSome=false):=λh=>h1 ⟨h.1,by simpa using h.2⟩
  refine zi hs ?_
  refine z8 (zqo b hs) λ_ _ hs=>?_
  obtain ⟨rfl,hs⟩:=hs
  refine zd ?_
  refine wp_lt ?_
  refine zl (λ_ w'=>Sat w' (vw v (z3k A b)::r)) ?_ (by rintro _ w' hs;refine zk ?_;exact zg hs)
  refine zf (λh2=>?_) λh2=>?_
  rotate_left
  ·have htk:z3k A b={ A with next:=b.base+zp b }:=by unfold z3k;rw [if_neg h1,if_neg (λh=>h2 h)]
   rw [htk] at hok' ⊢
   refine zg ?_
   exact z4z m1 m2 (A:={ A with next:=b.base+zp b }) hok' hs
  have h2:z0a b=true/\(opF A b.pid).isSome=true:=h2
  obtain ⟨t,hot⟩:∃ t,opF A b.pid=some t:=Option.isSome_iff_exists.1 h2.2
  obtain ⟨htm,htp⟩:=zc3 hot
  have hdel:(opK A).Perm ((b.pid,t)::(z49 b.pid A.op).map λt=>(t.pid,t)):=by
   have:=(zgl hok.pids htm).map λt:TxnA=>(t.pid,t)
   rw [List.map_cons,htp] at this
   exact this
  rw [hot] at hs
  have hs:Sat _ (pt c (.cells #[.int .i64 t.pid,.int .i64 t.epoch,.int .i64 t.first,.int .i64 t.last] T.a18)::_):=hs
  refine z01 hs λw' hs=>?_
  refine zh ?_
  refine zb hs ?_
  refine zb hs ?_
  refine zry hs ((z49 b.pid A.op).map λt=>(t.pid,t)) (.inl ⟨t,hdel⟩) λw' hs=>?_
  refine ze ?_
  refine zb hs ?_
  refine zl (λ_ w'=>Sat w' (vw v (z3k A b)::r)) ?_ (by rintro _ w' hs;refine zk ?_;exact zg hs)
  refine zf (λh3=>?_) λh3=>?_
  ·have htk:z3k A b=⟨b.base+zp b,z49 b.pid A.op,A.fa++[(⟨t.pid,t.epoch,t.first,b.base⟩:TxnA)]⟩:=by unfold z3k;rw [if_neg h1,if_pos h2,if_pos h3,hot];rfl
   rw [htk] at hok' ⊢
   obtain ⟨n1,n2,-,-⟩:=zg1 (hmay (by omega))
   have hte:=n2 t hot
   refine zb hs ?_
   refine z08 hs λw' hs=>?_
   refine z01 hs λw' hs=>?_
   refine zh ?_
   refine zb hs ?_
   refine zn6 hs (t.pid,t.epoch,()) ?_
   refine zi hs ?_
   have hno:∀ u,((t.pid,t.epoch),u) ∉ faK A:=λu hu=>by
    obtain ⟨y,hy,e⟩:=List.mem_map.1 hu
    simp only [Prod.mk.injEq] at e
    exact zbq n1 y hy ⟨e.1.1.trans htp,e.1.2.trans hte⟩
   refine zbk hs (faK A) (.inr ⟨hno,rfl⟩) (⟨t.pid,t.epoch,t.first,b.base⟩:TxnA) λw' hs=>?_
   refine ze ?_
   refine zg ?_
   have hp2:(((t.pid,t.epoch),(⟨t.pid,t.epoch,t.first,b.base⟩:TxnA))::faK A).Perm (faK ⟨b.base+zp b,z49 b.pid A.op,A.fa++[(⟨t.pid,t.epoch,t.first,b.base⟩:TxnA)]⟩):=by
    show List.Perm _ ((A.fa++[_]).map _)
    rw [List.map_append]
    exact List.perm_append_comm (l₁:=[((t.pid,t.epoch),(⟨t.pid,t.epoch,t.first,b.base⟩:TxnA))])
   have hs:=hs.mapPerm hp2
   exact z4z m1 m2 (A:=⟨b.base+zp b,z49 b.pid A.op,A.fa++[(⟨t.pid,t.epoch,t.first,b.base⟩:TxnA)]⟩) hok' hs
  ·have htk:z3k A b=⟨b.base+zp b,z49 b.pid A.op,A.fa⟩:=by unfold z3k;rw [if_neg h1,if_pos h2,if_neg h3]
   rw [htk] at hok' ⊢
   refine zg ?_
   exact z4z m1 m2 (A:=⟨b.base+zp b,z49 b.pid A.op,A.fa⟩) hok' hs
end
theorem Ret.mono {P:Program} {f:FuncId} {args:Array Value} {w:World} {R R':List Value->World->Prop} (h:Ret P f args w R) (hi:∀ vs w',R vs w'->R' vs w'):Ret P f args w R' :=
 Calls.mono h λe w' ⟨vs,he,hv⟩=>⟨vs,he,hi _ _ hv⟩
def stR (R:RdM):Lf:=if R.e=0 then some (z4x R) else none
theorem z7v {R:RdM} (h:R.e=0):stR R=some (z4x R):=if_pos h
theorem z70 {R:RdM} (h:R.e≠0):stR R=none:=if_neg h
theorem z00h {R:RdM}:(stR R).isSome=decide (R.e=0):=by
 unfold stR;split <;> simp [*]
theorem zea {R:RdM}:(R.uint).1=(z0o (stR R)).1/\stR R.uint.2=(z0o (stR R)).2:=by
 by_cases h:R.e=0
 ·rw [z7v h]
  cases hn:z3x 0 (R.bs.drop R.at_) with
  | none =>
   have e1:R.uint=(0,⟨R.bs,R.at_,6⟩):=by unfold RdM.uint;rw [if_neg (by rw [h];simp)];simp only [hn]
   have e2:z0o (some (z4x R))=(0,none):=by unfold z0o z4x;simp only [hn]
   rw [e1,e2]
   exact ⟨rfl,if_neg (show ¬ (6:Int)=0 by decide)⟩
  | some q =>
   have e1:R.uint=(q.1,⟨R.bs,R.at_+q.2,R.e⟩):=by unfold RdM.uint;rw [if_neg (by rw [h];simp)];simp only [hn]
   have e2:z0o (some (z4x R))=(q.1,some ((z4x R).drop q.2)):=by unfold z0o z4x;simp only [hn]
   rw [e1,e2]
   refine ⟨rfl,?_⟩
   show (if R.e=0 then some (R.bs.drop (R.at_+q.2)) else none)=some ((R.bs.drop R.at_).drop q.2)
   rw [if_pos h,List.drop_drop]
 ·rw [zn4 h]
  show 0=(z0o (stR R)).1/\stR R=(z0o (stR R)).2
  rw [z70 h]
  exact ⟨rfl,rfl⟩
theorem zk3 {R:RdM} {lo hi:Int}:(R.within lo hi).1=(z1o lo hi (stR R)).1/\stR (R.within lo hi).2=(z1o lo hi (stR R)).2:=by
 obtain ⟨h1,h2⟩:=zea (R:=R)
 unfold RdM.within z1o
 rw [<- h1,<- h2]
 by_cases h:R.uint.2.e=0
 ·rw [if_neg (by rw [h];simp),z7v h]
  simp only
  by_cases hc:zag R.uint.1<lo\/zag R.uint.1>hi
  ·rw [if_pos hc,if_pos hc]
   exact ⟨rfl,if_neg (show ¬ (8:Int)=0 by decide)⟩
  ·rw [if_neg hc,if_neg hc]
   exact ⟨rfl,z7v h⟩
 ·rw [if_pos h]
  show 0=_/\stR R.uint.2=_
  rw [z70 h]
  exact ⟨rfl,rfl⟩
def rdS (T':TypeId) (p:Nat) (s:Lf):HP:=HP.ex λR:RdM=>HP.and (stR R=s) (rdP T' p R)
section
variable {w:World} {l r:List HP} {p:Nat} {s:Lf} {T':TypeId}
theorem z79 (hs:Sat w (rdS T' p s::l)):∃ R:RdM,stR R=s/\Sat w (rdP T' p R::l):=by
 obtain ⟨R,hs⟩:=hs.ex
 obtain ⟨h,hs⟩:=hs.and
 exact ⟨R,h,hs⟩
theorem z2f {R:RdM} (h:stR R=s) (hs:Sat w (rdP T' p R::l)):Sat w (rdS T' p s::l):=.ex_mk R (.and_mk h hs)
theorem zwy (x:Sl) (bs:List UInt8) [hx:FocR l x 1 (bs.flatMap zj)] (hn:bs.length<=1000000000) (hs:Sat w l) :
  Ret P F.a201 #[x.v] w λvs w'=>∃ p:Nat,vs=[.pointer (some ⟨p,0,none⟩)]/\Sat w' (rdS T.a55 p (some bs)::l) :=
 (zni x bs hn hs).mono λ_ _ h=>by
  obtain ⟨p,rfl,hs⟩:=h
  exact ⟨p,rfl,z2f (R:=⟨bs,0,0⟩) rfl hs⟩
theorem zij [hf:Fo l (rdS T.a55) p s r] (hs:Sat w l):Ret P F.a208 #[.pointer (some ⟨p,0,none⟩)] w λvs w'=>vs=[.int .u64 ((z0o s).1:Int)]/\Sat w' (rdS T.a55 p (z0o s).2::r):=by
 obtain ⟨R,rfl,hs⟩:=z79 (hs.perm hf.perm)
 refine (zri (p:=p) hs).mono λ_ _ h=>?_
 obtain ⟨rfl,hs⟩:=h
 exact ⟨by rw [zea.1],z2f zea.2 hs⟩
theorem zxu (lo hi:Int) [hf:Fo l (rdS T.a55) p s r] (hs:Sat w l):Ret P F.a209 #[.pointer (some ⟨p,0,none⟩),.int .i64 lo,.int .i64 hi] w λvs w'=>vs=[.int .i64 (z1o lo hi s).1]/\Sat w' (rdS T.a55 p (z1o lo hi s).2::r):=by
 obtain ⟨R,rfl,hs⟩:=z79 (hs.perm hf.perm)
 refine (zxe (p:=p) lo hi hs).mono λ_ _ h=>?_
 obtain ⟨rfl,hs⟩:=h
 exact ⟨by rw [zk3.1],z2f zk3.2 hs⟩
theorem zwa [hf:Fo l (rdS T.a55) p s r] (hs:Sat w l):Ret P F.a204 #[.pointer (some ⟨p,0,none⟩)] w λvs w'=>∃ e:Int,vs=[.int .i64 e]/\(e=0↔s.isSome=true)/\Sat w' (rdS T.a55 p s::r):=by
 obtain ⟨R,rfl,hs⟩:=z79 (hs.perm hf.perm)
 refine (z076 (p:=p) hs).mono λ_ _ h=>?_
 obtain ⟨rfl,hs⟩:=h
 exact ⟨R.e,rfl,by rw [z00h,decide_eq_true_iff],z2f rfl hs⟩
theorem zw9 [hf:Fo l (rdS T.a55) p s r] (hs:Sat w l):Ret P F.a203 #[.pointer (some ⟨p,0,none⟩)] w λvs w'=>∃ e:Int,vs=[.int .i64 e]/\(e=0↔s=some [])/\Sat w' r:=by
 obtain ⟨R,rfl,hs⟩:=z79 (hs.perm hf.perm)
 have hb:=(z6l hs).1
 refine (z075 (p:=p) hs).mono λ_ _ h=>?_
 obtain ⟨rfl,hs⟩:=h
 refine ⟨_,rfl,?_,hs.tail⟩
 rw [zsc hb]
 unfold stR
 by_cases h:R.e=0 <;> simp [h]
end
section
variable {w:World} {l r:List HP} {p:Nat} {s:Lf}
theorem z05n (b:Bool) (hs:Sat w l):Ret P F.a198 #[.bool b] w λvs w'=>∃ z:Sl,vs=[z.v]/\Sat w' (slc T.a53 1 z ([z8i b].flatMap zj)::l) :=
 zpn b <| by
  delta z03b AP Ag Ai
  refine zf (λh=>?_) λh=>?_
  ·subst h
   refine za1 hs (enc:=zj) (1:UInt8) λz w' hs=>?_
   exact ⟨rfl,z,rfl,hs⟩
  ·have h:b=false:=by simpa using h
   subst h
   refine za1 hs (enc:=zj) (0:UInt8) λz w' hs=>?_
   exact ⟨rfl,z,rfl,hs⟩
theorem zid (n:Nat) {x:Sl} {bs:List UInt8} {e:Int} {at_:Nat} (hn:at_+n<=bs.length) (hb:bs.length<=1000000000) (hcap:x.len<=x.cap) [hf:FocB l p (.cells [.slice x.a x.len x.cap,.int .i64 at_,.int .i64 e].toArray T.a55) r] [hr:FocR r x 1 (bs.flatMap zj)] (hs:Sat w l) :
  Ret P F.a215 #[.pointer (some ⟨p,0,none⟩),.int .i64 n] w λvs w'=>vs=[.slice (z0v x.a 1 at_ x.cap) n (x.cap-at_)]/\Sat w' (pt p (.cells #[.slice x.a x.len x.cap,.int .i64 (at_+n:Nat),.int .i64 e] T.a55)::r) :=
 zq4 _ n <| by
  delta z03s AD AH AI AJ AQ Aa Ah Ai Ar
  have hs:=hs.perm hf.perm
  have hl:=hs.slen x (xs:=bs) (enc:=zj)
  refine zh ?_
  refine zb hs ?_
  refine zh ?_
  have e2:IntKind.wrap .i64 ((at_:Int)+n)=((at_+n:Nat):Int):=by rw [w64 (by omega) (by omega)];omega
  rw [e2]
  refine z08 hs λw' hs=>?_
  refine z01 hs λw' hs=>?_
  refine zh ?_
  refine zb hs ?_
  refine zh ?_
  refine zb hs ?_
  refine zh ?_
  refine zb hs ?_
  have e3:IntKind.wrap .i64 (((at_+n:Nat):Int)-n)=(at_:Int):=by rw [w64 (by omega) (by omega)];omega
  rw [e3]
  refine wp_must (by omega) ?_
  refine ze ?_
  refine ⟨rfl,?_,hs⟩
  simp only [Int.toNat_natCast,Nat.add_sub_cancel_left]
end
theorem bvi (s:BitVec 32):BitVec.ofInt 32 ((s.toNat:Nat):Int)=s:=by rw [BitVec.ofInt_natCast,BitVec.ofNat_toNat,BitVec.setWidth_eq]
theorem wbv (s:BitVec 32):IntKind.wrap .u32 ((s.toNat:Nat):Int)=((s.toNat:Nat):Int):=by rw [zkp,Nat.mod_eq_of_lt s.isLt]
theorem zx1 (s:BitVec 32):BitVec.ofInt 32 4294967295 ^^^ BitVec.ofInt 32 ((s.toNat:Nat):Int) = ~~~ s:=by
 rw [bvi]
 have:BitVec.ofInt 32 4294967295=BitVec.allOnes 32:=by decide +kernel
 rw [this,BitVec.allOnes_xor]
theorem z09w (s:BitVec 32):BitVec.ofInt 32 (Int.fdiv ((s.toNat:Nat):Int) 2)=s >>> 1:=by
 rw [z81 _ (by decide),BitVec.ofInt_natCast]
 apply BitVec.eq_of_toNat_eq
 have:=s.isLt
 rw [BitVec.toNat_ofNat,BitVec.toNat_ushiftRight,Nat.shiftRight_eq_div_pow]
 show s.toNat / 2 % 2 ^ 32=s.toNat / 2 ^ 1
 omega
theorem z06t (s:BitVec 32):BitVec.ofInt 32 (IntKind.wrap .u32 (0-((s.toNat:Nat):Int)))=0#32-s:=by
 apply BitVec.eq_of_toNat_eq
 have:=s.isLt
 have e:IntKind.wrap .u32 (0-((s.toNat:Nat):Int))=(((4294967296-s.toNat) % 4294967296:Nat):Int):=by
  simp [IntKind.wrap,IntKind.bits,IntKind.signed];omega
 rw [e,BitVec.ofInt_natCast,BitVec.toNat_ofNat,BitVec.toNat_sub]
 simp
theorem z05j (s:BitVec 32):IntKind.wrap .u32 (((BitVec.toNat (BitVec.ofInt 32 (Int.fdiv ((s.toNat:Nat):Int) 2) ^^^ BitVec.ofInt 32 (IntKind.wrap .u32 (((BitVec.toNat (BitVec.ofInt 32 3988292384 &&& BitVec.ofInt 32 (IntKind.wrap .u32 (0-IntKind.wrap .u32 (((BitVec.toNat (BitVec.ofInt 32 ((s.toNat:Nat):Int) &&& BitVec.ofInt 32 1):Nat):Int))))):Nat):Int)))):Nat):Int))=(((zyi s).toNat:Nat):Int):=by
 rw [wbv,wbv,wbv,bvi,bvi,z06t,z09w]
 rfl
theorem z00t (s:BitVec 32) (c:UInt8):IntKind.wrap .u32 (((BitVec.toNat (BitVec.ofInt 32 ((s.toNat:Nat):Int) ^^^ BitVec.ofInt 32 (IntKind.wrap .u32 ((c.toNat:Nat):Int))):Nat):Int))=(((s ^^^ BitVec.ofNat 32 c.toNat).toNat:Nat):Int):=by
 have:=c.toNat_lt
 rw [wbv,bvi,zkp,Nat.mod_eq_of_lt (by omega),BitVec.ofInt_natCast]
section
variable {w:World} {l r:List HP} {Q:Post} {S:World->Prop}
theorem zw1 (s:BitVec 32) (bs:List UInt8) (i:Nat) (hi:i<bs.length):z61 s (bs.take (i+1))=zs9 (z61 s (bs.take i)) bs[i]:=by
 unfold z61
 rw [List.take_add_one,List.getElem?_eq_getElem hi,Option.toList_some,List.foldl_append];rfl
theorem z04b (m:BitVec 32) (x:Sl) (ps:List (Sl × List UInt8)) [hx:FocR l x 1 ((ps.map Prod.fst).flatMap z0g)] (hps:∀ p ∈ ps,FocR l p.1 1 (p.2.flatMap zj)/\p.2.length<=1000000000) (hpl:ps.length<=1000000) (hs:Sat w l) :
  Ret P F.a44 #[.int .u32 ((m.toNat:Nat):Int),x.v] w λvs w'=>vs=[.int .u32 (((zt0 m (ps.flatMap Prod.snd)).toNat:Nat):Int)]/\Sat w' l :=
 zul _ x <| by
  delta z08n AJ Aa Ag Ah Ai Ao BN BO BZ Ca Cb
  have hl:=hs.slen x (xs:=ps.map Prod.fst) (enc:=z0g)
  rw [List.length_map] at hl
  rw [zx1,wbv]
  refine wp_lt ?_
  refine zl (λu w'=>u=((((z61 (~~~ m) (ps.flatMap Prod.snd)).toNat:Nat):Int),())/\Sat w' l) ?_ ?_
  rotate_left
  ·rintro _ w' ⟨rfl,hs⟩
   refine zk ?_
   rw [zx1,wbv]
   refine wp_lt ?_
   exact ⟨rfl,rfl,hs⟩
  refine z0b (λk u w=>∃ i:Nat,u=((((z61 (~~~ m) ((ps.take i).flatMap Prod.snd)).toNat:Nat):Int),(i:Int),())/\i<=ps.length/\ps.length-i=k/\Sat w l) ps.length ⟨0,rfl,by omega,rfl,hs⟩ ?_
  clear hs
  rintro k _ w ⟨i,rfl,hi,hk,hs⟩
  refine zk ?_
  refine zf (λhc=>?_) λhc=>?_
  rotate_left
  ·refine zn (zg ⟨?_,hs⟩)
   rw [List.take_of_length_le (by omega)]
  have hil:i<ps.length:=by omega
  obtain ⟨hF,hpl2⟩:=hps _ (List.getElem_mem hil)
  have hpi:=hs.slen ps[i].1 (xs:=ps[i].2) (enc:=zj)
  refine zl (λu w'=>u=((((z61 (~~~ m) ((ps.take (i+1)).flatMap Prod.snd)).toNat:Nat):Int),())/\Sat w' l) ?_ ?_
  rotate_left
  ·rintro _ w' ⟨rfl,hs⟩
   refine zk ?_
   refine z25 (us':=[.int .u32 (((z61 (~~~ m) ((ps.take (i+1)).flatMap Prod.snd)).toNat:Nat):Int),.int .i64 ((i+1:Nat):Int)]) (by (try simp (disch:=omega) only [w64]);first|rfl|(congr;omega)) ?_
   refine z0x (ps.length-(i+1)) ?_
   exact ⟨i+1,rfl,by omega,rfl,hs⟩
  refine z26 hs (xs:=ps.map Prod.fst) (enc:=z0g) i (by rw [List.length_map];exact hil) ?_
  rw [List.getElem_map]
  have hto:z61 (~~~ m) ((ps.take (i+1)).flatMap Prod.snd)=z61 (z61 (~~~ m) ((ps.take i).flatMap Prod.snd)) ps[i].2:=by
   rw [List.take_add_one,List.getElem?_eq_getElem hil,Option.toList_some,List.flatMap_append,List.flatMap_singleton]
   unfold z61
   rw [List.foldl_append]
  rw [hto]
  generalize z61 (~~~ m) ((ps.take i).flatMap Prod.snd)=s0
  generalize ps[i]=q at *
  refine zl (λu w'=>u=((((z61 s0 q.2).toNat:Nat):Int),())/\Sat w' l) ?_ (by rintro _ w' ⟨rfl,hs⟩;refine zk ?_;exact zg ⟨rfl,hs⟩)
  refine z0b (λk u w=>∃ j:Nat,u=((((z61 s0 (q.2.take j)).toNat:Nat):Int),(j:Int),())/\j<=q.2.length/\q.2.length-j=k/\Sat w l) q.2.length ⟨0,rfl,by omega,rfl,hs⟩ ?_
  clear hs
  rintro k _ w ⟨j,rfl,hj,hk,hs⟩
  refine zk ?_
  refine zf (λhc=>?_) λhc=>?_
  rotate_left
  ·refine zn (zg ⟨?_,hs⟩)
   rw [List.take_of_length_le (by omega)]
  have hjl:j<q.2.length:=by omega
  refine zl (λu w'=>u=((((z61 s0 (q.2.take (j+1))).toNat:Nat):Int),())/\Sat w' l) ?_ ?_
  rotate_left
  ·rintro _ w' ⟨rfl,hs⟩
   refine zk ?_
   refine z25 (us':=[.int .u32 (((z61 s0 (q.2.take (j+1))).toNat:Nat):Int),.int .i64 ((j+1:Nat):Int)]) (by (try simp (disch:=omega) only [w64]);first|rfl|(congr;omega)) ?_
   refine z0x (q.2.length-(j+1)) ?_
   exact ⟨j+1,rfl,by omega,rfl,hs⟩
  refine z26 hs (xs:=q.2) (enc:=zj) j hjl ?_
  refine wp_lt ?_
  rw [z00t]
  refine wp_lt ?_
  rw [zw1 s0 q.2 j hjl]
  generalize z61 s0 (q.2.take j)=s1
  show Prog.wp P _ _ _ _
  refine zl (λu w'=>u=((((zs9 s1 q.2[j]).toNat:Nat):Int),())/\Sat w' l) ?_ (by rintro _ w' ⟨rfl,hs⟩;refine zk ?_;exact zg ⟨rfl,hs⟩)
  unfold zs9
  generalize s1 ^^^ BitVec.ofNat 32 q.2[j].toNat=s2
  refine z0b (λk u w=>∃ i:Nat,u=((((zsa i s2).toNat:Nat):Int),(i:Int),())/\i<=8/\8-i=k/\Sat w l) 8 ⟨0,rfl,by omega,rfl,hs⟩ ?_
  clear hs
  rintro k _ w ⟨i,rfl,hi,hk,hs⟩
  refine zk ?_
  refine zf (λhc=>?_) λhc=>?_
  rotate_left
  ·obtain rfl:i=8:=by omega
   exact zn (zg ⟨rfl,hs⟩)
  rw [z05j]
  refine wp_lt ?_
  refine z25 (us':=[.int .u32 (((zyi (zsa i s2)).toNat:Nat):Int),.int .i64 ((i+1:Nat):Int)]) (by (try simp (disch:=omega) only [w64]);first|rfl|(congr;omega)) ?_
  refine z0x (8-(i+1)) ?_
  exact ⟨i+1,rfl,by omega,rfl,hs⟩
theorem z06g (x:Sl) (ps:List (Sl × List UInt8)) [hx:FocR l x 1 ((ps.map Prod.fst).flatMap z0g)] (hps:∀ p ∈ ps,FocR l p.1 1 (p.2.flatMap zj)/\p.2.length<=1000000000) (hpl:ps.length<=1000000) (hs:Sat w l) :
  Ret P F.a47 #[x.v] w λvs w'=>vs=[.int .u32 ((z9x (ps.flatMap Prod.snd):Nat):Int)]/\Sat w' l :=
 zuo x <| by
  delta z08q Ai BY BZ
  refine z8 (z04b 0#32 x ps hps hpl hs) λ_ _ hs=>?_
  obtain ⟨rfl,hs⟩:=hs
  refine zd ?_
  refine wp_lt ?_
  exact ⟨rfl,rfl,hs⟩
theorem zhx (x y:Sl) (bs:List UInt8) [hx:FocR l x 1 ([y].flatMap z0g)] [hy:FocR l y 1 (bs.flatMap zj)] (hn:bs.length<=1000000000) (hs:Sat w l) :
  Ret P F.a47 #[x.v] w λvs w'=>vs=[.int .u32 ((z9x bs:Nat):Int)]/\Sat w' l:=by
 have:=@z06g w l x [(y,bs)] hx (by intro p hp;rw [List.mem_singleton.1 hp];exact ⟨hy,hn⟩) (by simp) hs
 simpa using this
theorem zqh (n:Nat) (hn:n<4294967296) (hs:Sat w l):Ret P F.a48 #[.int .u32 (n:Int)] w λvs w'=>∃ z:Sl,vs=[z.v]/\Sat w' (slc T.a53 1 z ((z3t n).flatMap zj)::l) :=
 zup n <| by
  delta z08r AP Ai
  have e0:IntKind.wrap .u8 (n:Int)=(((UInt8.ofNat n).toNat:Nat):Int):=by rw [zdt];simp
  have e1:IntKind.wrap .u8 (Int.fdiv (n:Int) 256)=(((UInt8.ofNat (n / 256)).toNat:Nat):Int):=by rw [z81 n (by decide),zdt];simp
  have e2:IntKind.wrap .u8 (Int.fdiv (n:Int) 65536)=(((UInt8.ofNat (n / 65536)).toNat:Nat):Int):=by rw [z81 n (by decide),zdt];simp
  have e3:IntKind.wrap .u8 (Int.fdiv (n:Int) 16777216)=(((UInt8.ofNat (n / 16777216)).toNat:Nat):Int):=by rw [z81 n (by decide),zdt];simp
  rw [e0,e1,e2,e3]
  refine z9i hs (enc:=zj) (z3t n) (cs:=((z3t n).flatMap zj).toArray) (by kernel_rfl) (λb w' hs=>?_) (by simp)
  exact ⟨rfl,_,rfl,hs⟩
theorem zzq {a b c d:Nat} (ha:a<256) (hb:b<256) (hc:c<256) (hd:d<256) :
  IntKind.wrap .u32 (((BitVec.toNat (BitVec.ofInt 32 (IntKind.wrap .u32 (((BitVec.toNat (BitVec.ofInt 32 (IntKind.wrap .u32 (((BitVec.toNat (BitVec.ofInt 32 (IntKind.wrap .u32 (a:Int)) ||| BitVec.ofInt 32 (IntKind.wrap .u32 (IntKind.wrap .u32 (b:Int)*256))):Nat):Int))) ||| BitVec.ofInt 32 (IntKind.wrap .u32 (IntKind.wrap .u32 (c:Int)*65536))):Nat):Int))) ||| BitVec.ofInt 32 (IntKind.wrap .u32 (IntKind.wrap .u32 (d:Int)*16777216))):Nat):Int))=((a+256*b+65536*c+16777216*d:Nat):Int):=by
 have wm:∀ {m:Nat},m<4294967296->IntKind.wrap .u32 (m:Int)=(m:Int):=λ{m} h=>by rw [zkp,Nat.mod_eq_of_lt h]
 have or2:∀ {x y i:Nat},x<2 ^ i->y*2 ^ i+x<4294967296->BitVec.toNat (BitVec.ofInt 32 (x:Int) ||| BitVec.ofInt 32 ((y*2 ^ i:Nat):Int))=x+y*2 ^ i:=λ{x y i} h1 h2=>by
  rw [BitVec.ofInt_natCast,BitVec.ofInt_natCast,BitVec.toNat_or,BitVec.toNat_ofNat,BitVec.toNat_ofNat,Nat.mod_eq_of_lt (show x<2 ^ 32 by omega),Nat.mod_eq_of_lt (show y*2 ^ i<2 ^ 32 by omega),Nat.or_comm,Nat.mul_comm,<- Nat.two_pow_add_eq_or_of_lt h1,Nat.add_comm]
 have m1:((b:Nat):Int)*256=((b*2 ^ 8:Nat):Int):=rfl
 have m2:((c:Nat):Int)*65536=((c*2 ^ 16:Nat):Int):=rfl
 have m3:((d:Nat):Int)*16777216=((d*2 ^ 24:Nat):Int):=rfl
 rw [wm (show a<_ by omega),wm (show b<_ by omega),wm (show c<_ by omega),wm (show d<_ by omega),m1,m2,m3,wm (show b*2 ^ 8<_ by omega),wm (show c*2 ^ 16<_ by omega),wm (show d*2 ^ 24<_ by omega),
  or2 (by omega) (by omega),wm (show a+b*2 ^ 8<_ by omega),or2 (by omega) (by omega),wm (show a+b*2 ^ 8+c*2 ^ 16<_ by omega),or2 (by omega) (by omega),wm (by omega)]
 congr 1
 omega
theorem zzk {bs:List UInt8} (h:4<=bs.length):z0l bs=bs[0].toNat+256*bs[1].toNat+65536*bs[2].toNat+16777216*bs[3].toNat:=by
 match bs,h with
 | a::b::c::d::r,_=>rfl
theorem z8d {α:Type} {enc:α->List Value} {xs:List α} {sz m:Nat} {ii:Int} {x:Sl} {T:TypeId} {g':Prop} {p:Pr} {dec:α->p.D} {f:p.D->Prog} (hs:Sat w l) [hf:FocR l x sz (xs.flatMap enc)] [hE:EncN enc sz] [hD:Enc1 enc p dec] [hT:One P T]
  (n:Nat) (hn:n<xs.length) (h:(f (dec xs[n])).wp P S w Q) (hm:m=n*sz:=by rfl) (hi:ii=n:=by rfl) :
  (Prog.ex [.adr] (c1 λa=>(0:Int)<=ii/\ii<((x.len:Nat):Int)/\x.a=some a) (u1 λa=>.read g' (ld T (Addr.add a m)) (.one (.one p)) (u1 f))).wp P S w Q:=by
 subst hm hi
 have hr:=hf.rd w hs
 have hl:x.len=xs.length:=hr.len hE.len hE.pos
 obtain ⟨a,ha,he⟩:=hr.el hE.len (by omega)
 refine ⟨(a,()),⟨by omega,by omega,ha⟩,(dec xs[n],()),λ_=>?_,h⟩
 have:=he n hn
 rw [hD.ok] at this
 have h2:=At.ld1 (P:=P) (T:=T) this rfl
 cases p <;> exact h2
theorem zd3 (x:Sl) (bs:List UInt8) [hx:FocR l x 1 (bs.flatMap zj)] (hn:4<=bs.length) (hs:Sat w l):Ret P F.a49 #[x.v] w λvs w'=>vs=[.int .u32 ((z0l bs:Nat):Int)]/\Sat w' l :=
 zuq x <| by
  delta z08s AD AH Ai Ao BN BZ
  refine z01 hs λw' hs=>?_
  refine z8d hs (xs:=bs) (enc:=zj) 0 (by omega) ?_
  refine z8d hs (xs:=bs) (enc:=zj) 1 (by omega) ?_
  refine z8d hs (xs:=bs) (enc:=zj) 2 (by omega) ?_
  refine z8d hs (xs:=bs) (enc:=zj) 3 (by omega) ?_
  rw [zzq (by have:=bs[0].toNat_lt;omega) (by have:=bs[1].toNat_lt;omega) (by have:=bs[2].toNat_lt;omega) (by have:=bs[3].toNat_lt;omega),<- zzk hn]
  refine wp_lt ?_
  refine ze ?_
  exact ⟨rfl,rfl,hs⟩
theorem zqk (x:Sl) (ps:List (Sl × List UInt8)) [hx:FocR l x 1 ((ps.map Prod.fst).flatMap z0g)] (hps:∀ p ∈ ps,FocR l p.1 1 (p.2.flatMap zj)/\p.2.length<=1000000000) (hpl:ps.length<=1000000) (hs:Sat w l) :
  Ret P F.a46 #[x.v] w λvs w'=>∃ z:Sl,vs=[z.v]/\Sat w' (slc T.a53 1 z ((z2m (ps.flatMap Prod.snd)).flatMap zj)::l) :=
 zun x <| by
  delta z08p AJ AK AL AP AV Aa Ae Af Ag Ah Ai Ao BY Be
  have hl:=hs.slen x (xs:=ps.map Prod.fst) (enc:=z0g)
  rw [List.length_map] at hl
  have hstep:∀ i (hi:i<ps.length),(ps.take (i+1)).flatMap Prod.snd=(ps.take i).flatMap Prod.snd++ps[i].2:=λi hi=>by
   rw [List.take_add_one,List.getElem?_eq_getElem hi,Option.toList_some,List.flatMap_append,List.flatMap_singleton]
  have hmany:∀ i,((ps.take i).flatMap Prod.snd).length<=(ps.flatMap Prod.snd).length:=λi=>by
   have:ps.flatMap Prod.snd=(ps.take i).flatMap Prod.snd++(ps.drop i).flatMap Prod.snd:=by rw [<- List.flatMap_append,List.take_append_drop]
   rw [this,List.length_append]
   omega
  refine zl (λu w'=>u=((((ps.flatMap Prod.snd).length:Nat):Int),())/\(ps.flatMap Prod.snd).length<=262144/\Sat w' l) ?_ ?_
  ·refine z0b (λk u w=>∃ i:Nat,u=(((((ps.take i).flatMap Prod.snd).length:Nat):Int),(i:Int),())/\i<=ps.length/\ps.length-i=k/\((ps.take i).flatMap Prod.snd).length<=262144/\Sat w l) ps.length ⟨0,rfl,by omega,rfl,by simp,hs⟩ ?_
   clear hs
   rintro k _ w ⟨i,rfl,hi,hk,hsm,hs⟩
   refine zk ?_
   refine zf (λhc=>?_) λhc=>?_
   rotate_left
   ·rw [List.take_of_length_le (by omega)] at hsm ⊢
    exact zn (zg ⟨rfl,hsm,hs⟩)
   have hil:i<ps.length:=by omega
   refine z26 hs (xs:=ps.map Prod.fst) (enc:=z0g) i (by rw [List.length_map];exact hil) ?_
   rw [List.getElem_map]
   obtain ⟨hF,hpb⟩:=hps _ (List.getElem_mem hil)
   have hpi:=hs.slen ps[i].1 (xs:=ps[i].2) (enc:=zj)
   have h1:=hmany (i+1)
   have h2:=congrArg List.length (hstep i hil)
   rw [List.length_append] at h2
   have e:IntKind.wrap .i64 (((((ps.take i).flatMap Prod.snd).length:Nat):Int)+((ps[i].1.len:Nat):Int))=((((ps.take (i+1)).flatMap Prod.snd).length:Nat):Int):=by rw [w64 (by omega) (by omega)];omega
   refine z8l e ?_
   refine zf (λhbig=>?_) λhbig=>?_
   ·refine zn (zn ⟨rfl,⟨none,0,0⟩,rfl,?_⟩)
    have:z2m (ps.flatMap Prod.snd)=[]:=by unfold z2m;rw [if_pos (by omega)]
    rw [this]
    exact hs.slc_nil
   refine z25 (us':=[.int .i64 ((((ps.take (i+1)).flatMap Prod.snd).length:Nat):Int),.int .i64 ((i+1:Nat):Int)]) (by (try simp (disch:=omega) only [w64]);first|rfl|(congr;omega)) ?_
   refine z0x (ps.length-(i+1)) ?_
   exact ⟨i+1,rfl,by omega,rfl,by omega,hs⟩
  clear hs
  rintro _ w ⟨rfl,hsm,hs⟩
  refine zk ?_
  have e8:IntKind.wrap .i64 ((((ps.flatMap Prod.snd).length:Nat):Int)+8)=(((ps.flatMap Prod.snd).length+8:Nat):Int):=by rw [w64 (by omega) (by omega)];omega
  rw [e8,zkp,Nat.mod_eq_of_lt (by omega)]
  refine zrx ((ps.flatMap Prod.snd).length+8) hs λz w' hs=>?_
  refine z8 (zqh (ps.flatMap Prod.snd).length (by omega) hs) λ_ _ hs=>?_
  obtain ⟨y,rfl,hs⟩:=hs
  refine zd ?_
  have hs:=hs.pick [1,0]
  refine wp_app' (xs:=[]) (ys:=z3t (ps.flatMap Prod.snd).length) (enc:=zj) hs (λz w' hs=>?_) (by simp [z6c])
  rw [List.nil_append] at hs
  have hs:Sat w' (slc T.a53 1 z ((z3t (ps.flatMap Prod.snd).length).flatMap zj)::l):=hs.sub
  refine zl (λu w'=>∃ z:Sl,u=(z,())/\Sat w' (slc T.a53 1 z ((z3c (ps.flatMap Prod.snd)).flatMap zj)::l)) ?_ ?_
  ·refine z0b (λk u w=>∃ (i:Nat) (z:Sl),u=(z,(i:Int),())/\i<=ps.length/\ps.length-i=k/\Sat w (slc T.a53 1 z ((z3t (ps.flatMap Prod.snd).length++(ps.take i).flatMap Prod.snd).flatMap zj)::l)) ps.length ⟨0,z,rfl,by omega,rfl,?_⟩ ?_
   ·simpa using hs
   clear hs
   rintro k _ w ⟨i,z,rfl,hi,hk,hs⟩
   refine zk ?_
   refine zf (λhc=>?_) λhc=>?_
   rotate_left
   ·refine zn (zg ⟨z,rfl,?_⟩)
    rw [List.take_of_length_le (by omega)] at hs
    exact hs
   have hil:i<ps.length:=by omega
   refine z26 hs (xs:=ps.map Prod.fst) (enc:=z0g) i (by rw [List.length_map];exact hil) ?_
   rw [List.getElem_map]
   have hF:=(hps _ (List.getElem_mem hil)).1
   have h1:=hmany (i+1)
   rw [hstep i hil,List.length_append] at h1
   refine wp_app' (xs:=z3t (ps.flatMap Prod.snd).length++(ps.take i).flatMap Prod.snd) (ys:=ps[i].2) (enc:=zj) hs (λz w' hs=>?_) (by rw [List.length_append,z6c];omega)
   rw [List.append_assoc,<- hstep i hil] at hs
   refine z25 (us':=[z.v,.int .i64 ((i+1:Nat):Int)]) (by (try simp (disch:=omega) only [w64]);first|rfl|(congr;omega)) ?_
   refine z0x (ps.length-(i+1)) ?_
   exact ⟨i+1,z,rfl,by omega,rfl,hs⟩
  clear hs
  rintro _ w ⟨z,rfl,hs⟩
  refine zk ?_
  have hhl:(z3c (ps.flatMap Prod.snd)).length=(ps.flatMap Prod.snd).length+4:=by unfold z3c;rw [List.length_append,z6c];omega
  have hsl:=zro (z3c (ps.flatMap Prod.snd))
  refine za1 hs (enc:=z0g) z λy w' hs=>?_
  refine z8 (zhx y z (z3c (ps.flatMap Prod.snd)) (by omega) hs) λ_ _ hs=>?_
  obtain ⟨rfl,hs⟩:=hs
  refine zd ?_
  refine z8 (zqh (z9x (z3c (ps.flatMap Prod.snd))) hsl hs) λ_ _ hs=>?_
  obtain ⟨u,rfl,hs⟩:=hs
  refine zd ?_
  have hs:=hs.pick [2,0,0]
  refine wp_app' (xs:=z3c (ps.flatMap Prod.snd)) (ys:=z3t (z9x (z3c (ps.flatMap Prod.snd)))) (enc:=zj) hs (λz w' hs=>?_) (by rw [z6c];omega)
  have e:z2m (ps.flatMap Prod.snd)=z3c (ps.flatMap Prod.snd)++z3t (z9x (z3c (ps.flatMap Prod.snd))):=by unfold z2m;rw [if_neg (by omega)]
  rw [<- e] at hs
  exact ⟨rfl,z,rfl,hs.sub⟩
theorem zyw (x y:Sl) (bs:List UInt8) [hx:FocR l x 1 ([y].flatMap z0g)] [hy:FocR l y 1 (bs.flatMap zj)] (hn:bs.length<=1000000000) (hs:Sat w l) :
  Ret P F.a46 #[x.v] w λvs w'=>∃ z:Sl,vs=[z.v]/\Sat w' (slc T.a53 1 z ((z2m bs).flatMap zj)::l):=by
 have:=@zqk w l x [(y,bs)] hx (by intro p hp;rw [List.mem_singleton.1 hp];exact ⟨hy,hn⟩) (by simp) hs
 simpa using this
theorem zbr (x:Sl) (bs:List UInt8) [hx:FocR l x 1 (bs.flatMap zj)] (hcap:x.len<=x.cap) (hn:bs.length<=1000000000) (hs:Sat w l) :
  Ret P F.a43 #[x.v] w λvs w'=>∃ z:Sl,vs=[z.v,.int .i64 ((((z11 bs).getD ([],0)).2:Nat):Int),.bool (z11 bs).isSome]/\Sat w' (slc T.a53 1 z (((z11 bs).getD ([],0)).1.flatMap zj)::l) :=
 zuk x <| by
  delta z08m AD AH AP AV Aa Ae Ag Ah Ai Ao Ax BY BZ
  have hl:=hs.slen x (xs:=bs) (enc:=zj)
  have hno:∀ {w':World},z11 bs=none->Sat w' l->∃ z:Sl,[.slice none 0 0,.int .i64 0,.bool false]=[z.v,.int .i64 ((((z11 bs).getD ([],0)).2:Nat):Int),.bool (z11 bs).isSome]/\Sat w' (slc T.a53 1 z (((z11 bs).getD ([],0)).1.flatMap zj)::l):=λ{w'} h hs=>by
   rw [h];exact ⟨⟨none,0,0⟩,rfl,hs.slc_nil⟩
  refine zf (λh=>?_) λh=>?_
  ·exact ⟨rfl,hno (by unfold z11;rw [if_pos (.inl (by omega))]) hs⟩
  refine z8 (zd3 x bs (by omega) hs) λ_ _ hs=>?_
  obtain ⟨rfl,hs⟩:=hs
  refine zd ?_
  have hf:=(zfr bs (by omega)).2
  refine wp_lt ?_
  have e1:IntKind.wrap .i64 ((z0l bs:Nat):Int)=((z0l bs:Nat):Int):=by rw [w64 (by omega) (by omega)]
  have e2:IntKind.wrap .i64 (((x.len:Nat):Int)-8)=((bs.length-8:Nat):Int):=by rw [w64 (by omega) (by omega)];omega
  have e3:IntKind.wrap .i64 (((z0l bs:Nat):Int)+4)=((z0l bs+4:Nat):Int):=by rw [w64 (by omega) (by omega)];omega
  rw [e1,e2,e3]
  refine zf (λh2=>?_) λh2=>?_
  ·exact ⟨rfl,hno (by unfold z11;rw [if_pos (by omega)]) hs⟩
  refine wp_lt ?_
  rw [Int.toNat_natCast]
  have hle:z0l bs+8<=bs.length:=by omega
  have hF1:FocR l ⟨z0v x.a 1 (z0l bs+4) x.cap,x.len-(z0l bs+4),x.cap-(z0l bs+4)⟩ 1 ((bs.drop (z0l bs+4)).flatMap zj):=FocR.post hcap
  have hF2:FocR l ⟨x.a,z0l bs+4,x.cap⟩ 1 ((bs.take (z0l bs+4)).flatMap zj):=FocR.pre (by omega)
  have htl:(bs.take (z0l bs+4)).length<=1000000000:=by rw [List.length_take];omega
  have hdl:4<=(bs.drop (z0l bs+4)).length:=by rw [List.length_drop];omega
  refine zl (λu w'=>u=(decide (z0l (bs.drop (z0l bs+4))≠z9x (bs.take (z0l bs+4))),())/\Sat w' l) ?_ ?_
  ·have hbeq:∀ a b:Nat,(((a:Int) != (b:Int)):Bool)=decide (a≠b):=λa b=>by
    rw [Bool.eq_iff_iff];simp;omega
   refine z01 hs λw' hs=>?_
   refine wp_must ⟨by omega,show ((z0l bs+4:Nat):Int)<=((x.len:Nat):Int) by omega⟩ ?_
   refine wp_must ⟨by omega,show ((z0l bs+4:Nat):Int)<=((x.cap:Nat):Int) by omega⟩ ?_
   refine zeb ?_ ?_
   ·refine z8 (zd3 ⟨z0v x.a 1 (z0l bs+4) x.cap,x.len-(z0l bs+4),x.cap-(z0l bs+4)⟩ (bs.drop (z0l bs+4)) hdl hs) λ_ _ hs=>?_
    obtain ⟨rfl,hs⟩:=hs
    refine zd ?_
    refine za1 hs (enc:=z0g) ⟨x.a,z0l bs+4,x.cap⟩ λy w' hs=>?_
    refine z8 (zhx y ⟨x.a,z0l bs+4,x.cap⟩ (bs.take (z0l bs+4)) htl hs) λ_ _ hs=>?_
    obtain ⟨rfl,hs⟩:=hs
    refine zd ?_
    refine ze ?_
    exact zg ⟨by rw [hbeq],hs.tail⟩
   ·refine za1 hs (enc:=z0g) ⟨x.a,z0l bs+4,x.cap⟩ λy w' hs=>?_
    refine z8 (zd3 ⟨z0v x.a 1 (z0l bs+4) x.cap,x.len-(z0l bs+4),x.cap-(z0l bs+4)⟩ (bs.drop (z0l bs+4)) hdl hs) λ_ _ hs=>?_
    obtain ⟨rfl,hs⟩:=hs
    refine zd ?_
    refine z8 (zhx y ⟨x.a,z0l bs+4,x.cap⟩ (bs.take (z0l bs+4)) htl hs) λ_ _ hs=>?_
    obtain ⟨rfl,hs⟩:=hs
    refine zd ?_
    refine ze ?_
    exact zg ⟨by rw [hbeq],hs.tail⟩
  clear hs
  rintro _ w ⟨rfl,hs⟩
  refine zk ?_
  refine zf (λh3=>?_) λh3=>?_
  ·exact ⟨rfl,hno (by unfold z11;rw [if_neg (by omega),if_neg h3]) hs⟩
  have h3:z0l (bs.drop (z0l bs+4))=z9x (bs.take (z0l bs+4)):=Decidable.not_not.1 h3
  have hsome:z11 bs=some ((bs.drop 4).take (z0l bs),z0l bs+8):=by unfold z11;rw [if_neg (by omega),if_pos h3]
  rw [hsome]
  refine wp_must ⟨by omega,by omega,show ((z0l bs+4:Nat):Int)<=((x.cap:Nat):Int) by omega⟩ ?_
  have hF3:FocR l ⟨z0v x.a 1 4 x.cap,x.len-4,x.cap-4⟩ 1 ((bs.drop 4).flatMap zj):=FocR.post hcap
  have hF4:FocR l ⟨z0v x.a 1 4 x.cap,z0l bs+4-4,x.cap-4⟩ 1 (((bs.drop 4).take (z0l bs+4-4)).flatMap zj):=FocR.pre (x:=⟨z0v x.a 1 4 x.cap,x.len-4,x.cap-4⟩) (by rw [List.length_drop];omega)
  refine z8 (zl2 ⟨z0v x.a 1 4 x.cap,z0l bs+4-4,x.cap-4⟩ ((bs.drop 4).take (z0l bs+4-4)) (by rw [List.length_take];omega) hs) λ_ _ hs=>?_
  obtain ⟨z,rfl,hs⟩:=hs
  refine zd ?_
  refine z29 (y:=((z0l bs+8:Nat):Int)) ?_ (by rw [w64 (by omega) (by omega)];omega)
  exact ⟨rfl,z,rfl,hs⟩
def zki (bs:List UInt8):Option (List UInt8):=match z11 bs with
 | some (body,n)=>if n=bs.length then some body else none
 | none=>none
end
section
variable {w:World} {l r:List HP} {p:Nat} {s:Lf}
theorem zrm {R:RdM} (hb:R.at_<=R.bs.length) (he:R.e=0) (h:R.bs.length-R.at_=0):stR R=some []:=by
 rw [z7v he]
 unfold z4x
 rw [List.drop_eq_nil_of_le (by omega)]
theorem zmx {R:RdM} (he:R.e=0) (h:R.at_<R.bs.length):stR R=some (R.bs[R.at_]::R.bs.drop (R.at_+1)):=by
 rw [z7v he]
 unfold z4x
 rw [List.drop_eq_getElem_cons h]
theorem zfq {x:Sl} {bs:List UInt8} {n k:Nat} (hcap:x.len<=x.cap) (hk:n+k<=bs.length) [hf:FocR l x 1 (bs.flatMap zj)]:FocR l ⟨z0v x.a 1 n x.cap,k,x.cap-n⟩ 1 (((bs.drop n).take k).flatMap zj):=by
 have h:FocR l ⟨z0v x.a 1 n x.cap,x.len-n,x.cap-n⟩ 1 ((bs.drop n).flatMap zj):=FocR.post hcap
 exact FocR.pre (x:=⟨z0v x.a 1 n x.cap,x.len-n,x.cap-n⟩) (by rw [List.length_drop];omega)
theorem zhs [hf:Fo l (rdS T.a55) p s r] (hs:Sat w l):Ret P F.a202 #[.pointer (some ⟨p,0,none⟩)] w λvs w'=>vs=[.int .i64 ((z10 s).1:Int)]/\Sat w' (rdS T.a55 p (z10 s).2::r) :=
 zpr _ <| by
  delta z03f AQ AV Aa Ae Ag Ah Ai Al Ao Aw Az BJ BN Bi
  obtain ⟨R,rfl,hs⟩:=z79 (hs.perm hf.perm)
  have hb:=z6l hs
  refine z8 (zd5 (p:=p) hs) λ_ _ hs=>?_
  obtain ⟨rfl,hs⟩:=hs
  refine zd ?_
  refine zf (λh=>?_) λh=>?_
  ·have h:R.e≠0:=by simpa using h
   rw [z70 h]
   exact ⟨rfl,rfl,z2f (z70 h) hs⟩
  have h:R.e=0:=by simpa using h
  refine zh ?_
  refine z8 (zdb (p:=p) hs) λ_ _ hs=>?_
  obtain ⟨rfl,hs⟩:=hs
  refine zd ?_
  refine zf (λh2=>?_) λh2=>?_
  ·refine zh ?_
   refine z8 (z7i (p:=p) 6 hs) λ_ _ hs=>?_
   obtain ⟨rfl,hs⟩:=hs
   refine zd ?_
   rw [zrm hb.1 h (by omega)]
   exact ⟨rfl,rfl,z2f (if_neg (by show ¬ (if R.e=0 then (6:Int) else R.e)=0;rw [if_pos h];decide)) hs⟩
  have hlt:R.at_<R.bs.length:=by omega
  rw [zmx h hlt]
  obtain ⟨x,-,hs⟩:=z2b hs
  have hl:=hs.slen x (xs:=R.bs) (enc:=zj)
  have hcap:x.len<=x.cap:=(hs.pick [1]).slc_cap
  refine zh ?_
  refine z8 (zid (p:=p) 1 (x:=x) (bs:=R.bs) (at_:=R.at_) (e:=R.e) (by omega) hb.2 hcap hs) λ_ w' hs=>?_
  obtain ⟨rfl,hs⟩:=hs
  refine zd ?_
  refine z8d (hf:=zfq hcap (by omega)) hs (xs:=(R.bs.drop R.at_).take 1) (enc:=zj) 0 (by rw [List.length_take,List.length_drop];omega) ?_ rfl rfl
  have hg:((R.bs.drop R.at_).take 1)[0]'(by rw [List.length_take,List.length_drop];omega)=R.bs[R.at_]:=by simp
  rw [hg]
  have hc:=(R.bs[R.at_]).toNat_lt
  refine z29 (y:=((R.bs[R.at_]).toNat:Int)) ?_ (by rw [w64 (by omega) (by omega)])
  refine ⟨rfl,rfl,z2f (R:=⟨R.bs,R.at_+1,R.e⟩) ?_ (z19 ⟨R.bs,R.at_+1,R.e⟩ ⟨by show R.at_+1<=R.bs.length;omega,hb.2⟩ hs)⟩
  rw [z7v (R:=⟨R.bs,R.at_+1,R.e⟩) h]
  rfl
end
section
variable {w:World} {l r:List HP} {p:Nat} {s:Lf}
theorem z07m {P:Program} {t tx ty el:TypeId} {bytes:Nat} {xs:List UInt8} {t0:ByteArray} {x:Sl} {k:Sl->Prog} {Q:Post} {S:World->Prop} (hs:Sat w l) [ht:SlT P t el 1 bytes] [hst:StT P tx] [hf:FocS l x el 1 (xs.flatMap zj) r]
  (h:∀ z w',Sat w' (slc el 1 z ((xs++bl t0).flatMap zj)::r)->(k z).wp P S w' Q) (hb:(xs.length+t0.size)*bytes<=140737488355328/\xs.length+t0.size<=9223372036854775807) (hS:∀ w',S w':=by exact λ_=>trivial) :
  (Prog.act (app t tx ty (.slice x.a x.len x.cap) (.string t0)) sL (u1 k)).wp P S w Q:=by
 have h1:x.len=xs.length:=(hs.focS x).rd.len (enc:=zj) (λ_=>rfl) (by decide)
 obtain ⟨i,z,hi,h2,rfl,hz,hzs⟩:=ht.parts
 have hsrc:Src P i.size tx (.string t0) t0.size (byteCells t0) w:=by rw [h2];exact Src.ofString w hst.ok t0
 have hs':=hs.focS x
 rw [<- h2] at hs'
 obtain ⟨z,w',hrun,hlen,hs',_⟩:=zkx (ty:=ty) ht.ok.1 hi hz hzs hs' hsrc (by rw [h1];exact hb.1) (by rw [h1];exact hb.2)
 refine ⟨(z,()),w',hrun,hS _,h z w' ?_⟩
 rw [h2] at hs'
 rw [List.flatMap_append,zaa (bl t0)]
 exact hs'
theorem zs0 (t:ByteArray) (ht:t.size<=1000000000) (hs:Sat w l):Ret P F.a211 #[.string t] w λvs w'=>∃ z:Sl,vs=[z.v]/\Sat w' (slc T.a53 1 z ((uI (t.size:Nat)++bl t).flatMap zj)::l) :=
 zq0 t <| by
  delta z03o AP AV Ai
  refine z8 (z5e ((t.size:Nat):Int) (by omega) hs) λ_ w' hs=>?_
  obtain ⟨x,rfl,hs⟩:=hs
  refine zd ?_
  have hl:=hs.slen x
  have hul:=z20 ((t.size:Nat):Int)
  refine z07m (t0:=t) (xs:=uI (t.size:Nat)) hs (λz w' hs=>?_) (by omega)
  exact ⟨rfl,z,rfl,hs⟩
theorem z04a [hf:Fo l (rdS T.a55) p s r] (hs:Sat w l):Ret P F.a205 #[.pointer (some ⟨p,0,none⟩)] w λvs w'=>vs=[.bool (z4k s).1]/\Sat w' (rdS T.a55 p (z4k s).2::r) :=
 zpu _ <| by
  delta z03i AD AH AQ AV Aa Ag Ai Al Ao As Aw Ay Az B3 BJ BN Bi Bl
  obtain ⟨R,rfl,hs⟩:=z79 (hs.perm hf.perm)
  have hb:=z6l hs
  refine z8 (zd5 (p:=p) hs) λ_ _ hs=>?_
  obtain ⟨rfl,hs⟩:=hs
  refine zd ?_
  refine zf (λh=>?_) λh=>?_
  ·have h:R.e≠0:=by simpa using h
   rw [z70 h]
   exact ⟨rfl,rfl,z2f (z70 h) hs⟩
  have h:R.e=0:=by simpa using h
  refine z01 hs λw' hs=>?_
  refine zh ?_
  refine z8 (zdb (p:=p) hs) λ_ _ hs=>?_
  obtain ⟨rfl,hs⟩:=hs
  refine zd ?_
  obtain ⟨x,-,hs⟩:=z2b hs
  have hl:=hs.slen x (xs:=R.bs) (enc:=zj)
  have hcap:x.len<=x.cap:=(hs.pick [1]).slc_cap
  refine z0n ?_
  refine zb hs ?_
  refine z0n ?_
  refine zb hs ?_
  by_cases h2:R.bs.length-R.at_=0
  ·refine zil hs (xs:=R.bs) (enc:=zj) (0:Int) (λhg=>absurd hg (by rw [h2];simp)) ?_
   refine ze ?_
   refine z0t ?_ (by rw [h2];exact .inl rfl)
   refine zh ?_
   have hs:=z19 R hb hs
   refine z8 (z7i (p:=p) 6 hs) λ_ _ hs=>?_
   obtain ⟨rfl,hs⟩:=hs
   refine zd ?_
   rw [zrm hb.1 h h2]
   exact ⟨rfl,rfl,z2f (if_neg (by show ¬ (if R.e=0 then (6:Int) else R.e)=0;rw [if_pos h];decide)) hs⟩
  ·have hlt:R.at_<R.bs.length:=by omega
   refine zil hs (xs:=R.bs) (enc:=zj) (((R.bs[R.at_]).toNat:Nat):Int) (λ_=>⟨R.at_,hlt,rfl,rfl⟩) ?_
   refine ze ?_
   rw [zmx h hlt]
   have hc:=(R.bs[R.at_]).toNat_lt
   unfold z4k
   simp only
   refine zf (λh3=>?_) λh3=>?_
   ·rw [if_neg (by omega)]
    refine zh ?_
    have hs:=z19 R hb hs
    refine z8 (z7i (p:=p) 6 hs) λ_ _ hs=>?_
    obtain ⟨rfl,hs⟩:=hs
    refine zd ?_
    exact ⟨rfl,rfl,z2f (if_neg (by show ¬ (if R.e=0 then (6:Int) else R.e)=0;rw [if_pos h];decide)) hs⟩
   ·rw [if_pos (by omega)]
    refine zh ?_
    refine z8 (zid (p:=p) 1 (x:=x) (bs:=R.bs) (at_:=R.at_) (e:=R.e) (by omega) hb.2 hcap hs) λ_ w' hs=>?_
    obtain ⟨rfl,hs⟩:=hs
    refine zd ?_
    refine z8d (hf:=zfq hcap (by omega)) hs (xs:=(R.bs.drop R.at_).take 1) (enc:=zj) 0 (by rw [List.length_take,List.length_drop];omega) ?_ rfl rfl
    have hg:((R.bs.drop R.at_).take 1)[0]'(by rw [List.length_take,List.length_drop];omega)=R.bs[R.at_]:=by simp
    rw [hg]
    refine wp_lt ?_
    have e:((((R.bs[R.at_]).toNat:Nat):Int) == 1)=decide ((R.bs[R.at_]).toNat=1):=by
     rw [Bool.eq_iff_iff];simp;omega
    rw [e]
    refine ⟨rfl,rfl,z2f (R:=⟨R.bs,R.at_+1,R.e⟩) ?_ (z19 ⟨R.bs,R.at_+1,R.e⟩ ⟨by show R.at_+1<=R.bs.length;omega,hb.2⟩ hs)⟩
    rw [z7v (R:=⟨R.bs,R.at_+1,R.e⟩) h]
    rfl
theorem zrt (most:Nat) (hm:most<=1000000000) [hf:Fo l (rdS T.a55) p s r] (hs:Sat w l):Ret P F.a207 #[.pointer (some ⟨p,0,none⟩),.int .i64 (most:Nat)] w λvs w'=>vs=[.string (z1m most s).1]/\Sat w' (rdS T.a55 p (z1m most s).2::r) :=
 zpw _ _ <| by
  delta z03k AC AI AQ AT AV AW Aa Ae Ag Ah Ai Al Ar Aw Ay Az BJ Bi Bu Bv
  obtain ⟨R,rfl,hs⟩:=z79 (hs.perm hf.perm)
  have hb:=z6l hs
  refine z8 (zd5 (p:=p) hs) λ_ _ hs=>?_
  obtain ⟨rfl,hs⟩:=hs
  refine zd ?_
  refine zf (λh=>?_) λh=>?_
  ·have h:R.e≠0:=by simpa using h
   rw [z70 h]
   exact ⟨rfl,rfl,z2f (z70 h) hs⟩
  have h:R.e=0:=by simpa using h
  refine zh ?_
  obtain ⟨x,-,hs⟩:=z2b hs
  refine zb hs ?_
  refine wp_lt ?_
  refine zh ?_
  have hs:=z19 R hb hs
  refine z8 (zrb (p:=p) h hs) λ_ _ hs=>?_
  obtain ⟨rfl,hs⟩:=hs
  refine zd ?_
  refine wp_lt ?_
  refine zh ?_
  have hst:=zea (R:=R)
  have hbs:=zru R
  generalize hU:R.uint=U at *
  obtain ⟨v,R'⟩:=U
  have hs:Sat _ (rdP T.a55 p R'::r):=hs
  have hbs:R'.bs=R.bs:=hbs
  have hb':=z6l hs
  obtain ⟨y,-,hs⟩:=z2b hs
  have hl:=hs.slen y (xs:=R'.bs) (enc:=zj)
  have hcap:y.len<=y.cap:=(hs.pick [1]).slc_cap
  refine zb hs ?_
  refine wp_lt ?_
  have hend':∀ {w':World} {e:Int} {y:Sl},e≠0->Sat w' (pt p (.cells #[.slice y.a y.len y.cap,.int .i64 R'.at_,.int .i64 e] T.a55)::slc T.a53 1 y (R'.bs.flatMap zj)::r) ->
    (z1m most (stR R)).2=none->(z1m most (stR R)).1=⟨#[]⟩ ->
    (Prog.ex [.adr] (c1 λa27=>some ((⟨p,0,none⟩:Addr))=some a27) (u1 λa28=>.actU (st T.a13 (Addr.add (Addr.add a28 0) 1) (.int .i64 (R.at_:Int))) <| .done 0 [.string (ByteArray.mk #[])])).wp P (λ_=>True) w' λe vs w'=>e=0/\vs=[.string (z1m most (stR R)).1]/\Sat w' (rdS T.a55 p (z1m most (stR R)).2::r):=by
   intro w' e y he hs h1 h2
   refine zh ?_
   refine z08 hs λw' hs=>?_
   rw [h1,h2]
   refine ⟨rfl,rfl,z2f (R:=⟨R'.bs,R.at_,e⟩) (z70 he) (z19 ⟨R'.bs,R.at_,e⟩ ⟨by rw [hbs];exact hb.1,hb'.2⟩ hs)⟩
  refine z42 ?_
  refine zf (λhe=>?_) λhe=>?_
  ·have he:R'.e≠0:=by simpa using he
   refine z56 ?_
   have h1:(z0o (stR R)).2=none:=by rw [<- hst.2];exact z70 he
   refine hend' he hs (by unfold z1m;rw [h1]) (by unfold z1m;rw [h1])
  ·have he:R'.e=0:=by simpa using he
   have h1:(z0o (stR R)).2=some (z4x R'):=by rw [<- hst.2];exact z7v he
   have hv:=z7l h1
   have h0:(z0o (stR R)).1=v:=hst.1.symm
   have hlen:(z4x R').length=R'.bs.length-R'.at_:=zmg
   have ew:IntKind.wrap .u64 (if 0>((most:Nat):Int) then 0 else ((most:Nat):Int))=((most:Nat):Int):=by
    rw [if_neg (by omega),zin (by omega) (by omega)]
   rw [ew]
   refine wp_lt ?_
   refine z42 ?_
   refine zf (λh3=>?_) λh3=>?_
   ·refine zh ?_
    have hs:=z19 R' hb' hs
    refine z8 (z7i (p:=p) 7 hs) λ_ _ hs=>?_
    obtain ⟨rfl,hs⟩:=hs
    refine zd ?_
    refine z56 ?_
    refine z56 ?_
    obtain ⟨y2,-,hs⟩:=z2b hs
    refine hend' (e:=(R'.fail 7).e) ?_ hs ?_ ?_
    ·show (if R'.e=0 then (7:Int) else R'.e)≠0
     rw [if_pos he];decide
    ·unfold z1m;rw [h1];simp only;rw [h0,if_neg (by omega)]
    ·unfold z1m;rw [h1];simp only;rw [h0,if_neg (by omega)]
   ·refine zh ?_
    have hs:=z19 R' hb' hs
    refine z8 (zdb (p:=p) hs) λ_ _ hs=>?_
    obtain ⟨rfl,hs⟩:=hs
    refine zd ?_
    have eu:IntKind.wrap .u64 ((R'.bs.length-R'.at_:Nat):Int)=((R'.bs.length-R'.at_:Nat):Int):=zin (by omega) (by omega)
    rw [eu]
    refine wp_lt ?_
    refine zf (λh4=>?_) λh4=>?_
    ·refine zh ?_
     refine z8 (z7i (p:=p) 6 hs) λ_ _ hs=>?_
     obtain ⟨rfl,hs⟩:=hs
     refine zd ?_
     refine z56 ?_
     refine z56 ?_
     obtain ⟨y2,-,hs⟩:=z2b hs
     refine hend' (e:=(R'.fail 6).e) ?_ hs ?_ ?_
     ·show (if R'.e=0 then (6:Int) else R'.e)≠0
      rw [if_pos he];decide
     ·unfold z1m;rw [h1];simp only;rw [h0,if_neg (by omega)]
     ·unfold z1m;rw [h1];simp only;rw [h0,if_neg (by omega)]
    ·refine zh ?_
     rw [w64 (by omega) (by omega)]
     obtain ⟨y2,-,hs⟩:=z2b hs
     have hcap2:y2.len<=y2.cap:=(hs.pick [1]).slc_cap
     refine z8 (zid (p:=p) v (x:=y2) (bs:=R'.bs) (at_:=R'.at_) (e:=R'.e) (by omega) hb'.2 hcap2 hs) λ_ w' hs=>?_
     obtain ⟨rfl,hs⟩:=hs
     refine zd ?_
     refine zxy (hf:=zfq hcap2 (by omega)) (bs:=(R'.bs.drop R'.at_).take v) hs ?_
     refine wp_lt ?_
     have e1:z1m most (stR R)=(⟨((z4x R').take v).toArray⟩,some ((z4x R').drop v)):=by
      unfold z1m;rw [h1];simp only;rw [h0,if_pos ⟨by omega,by omega⟩]
     rw [e1]
     refine zn (zn ⟨rfl,rfl,z2f (R:=⟨R'.bs,R'.at_+v,R'.e⟩) ?_ (z19 ⟨R'.bs,R'.at_+v,R'.e⟩ ⟨by show R'.at_+v<=R'.bs.length;omega,hb'.2⟩ hs)⟩)
     rw [z7v (R:=⟨R'.bs,R'.at_+v,R'.e⟩) he]
     unfold z4x
     rw [List.drop_drop]
end
section
variable {w:World} {l r:List HP} {p:Nat} {s:Lf}
theorem za0 (most:Int) (hm:0<=most/\most<9223372036854775807) [hf:Fo l (rdS T.a55) p s r] (hs:Sat w l):Ret P F.a115 #[.pointer (some ⟨p,0,none⟩),.int .i64 most] w λvs w'=>vs=[.int .i64 (z05 most s).1]/\Sat w' (rdS T.a55 p (z05 most s).2::r) :=
 zo9 _ most <| by
  delta z01x Aa Ae Ag Ah Ai Al Bu Bv;unfold z05
  refine z8 (zij (p:=p) hs) λ_ _ hs=>?_
  obtain ⟨rfl,hs⟩:=hs
  refine zd ?_
  refine wp_lt ?_
  have e:IntKind.wrap .u64 most=most:=by rw [z8e];omega
  rw [e]
  refine zf (λh=>?_) λh=>?_
  ·refine z29 (y:=most+1) ?_ (by rw [w64 (by omega) (by omega)])
   rw [if_pos h]
   exact ⟨rfl,rfl,hs⟩
  ·refine z29 (y:=((z0o s).1:Int)) ?_ (by rw [w64 (by omega) (by omega)])
   rw [if_neg h]
   exact ⟨rfl,rfl,hs⟩
theorem zq6 (a b:ByteArray) (ha:a.size<=1000000000) (hs:Sat w l):Ret P F.a108 #[.string a,.string b] w λvs w'=>vs=[.int .i64 (z0p (bl a) (bl b):Nat)]/\Sat w' l :=
 zo2 a b <| by
  delta z01q AC AD AH AU Aa Ae Ag Ah Ai
  refine z29 (y:=((min a.size b.size:Nat):Int)) ?_ (by split <;> omega)
  refine zl (λ_ w'=>(bl a).take (min a.size b.size)=(bl b).take (min a.size b.size)/\Sat w' l) ?_ ?_
  rotate_left
  ·rintro _ w' ⟨ht,hs⟩
   refine zk ?_
   refine wp_lt ?_
   refine ⟨rfl,?_,hs⟩
   rw [zcp (i:=min a.size b.size) (by rw [z1d];omega) (by rw [z1d];omega) ht (by rw [z1d,z1d];omega)]
  refine z0b (λk v w=>∃ i:Nat,v=((i:Int),())/\i<=min a.size b.size/\min a.size b.size-i=k/\(bl a).take i=(bl b).take i/\Sat w l) (min a.size b.size) ⟨0,rfl,by omega,rfl,rfl,hs⟩ ?_
  clear hs
  rintro k _ w ⟨i,rfl,hi,hk,ht,hs⟩
  refine zk ?_
  refine zf (λhc=>?_) λhc=>?_
  rotate_left
  ·refine zn (zg ⟨?_,hs⟩)
   have:i=min a.size b.size:=by omega
   rwa [this] at ht
  have h1:i<(bl a).length:=by rw [z1d];omega
  have h2:i<(bl b).length:=by rw [z1d];omega
  refine wp_lt ?_
  refine z01 hs λw' hs=>?_
  refine wp_must (by omega) ?_
  refine wp_must (by omega) ?_
  refine ze ?_
  have hb:∀ (c:ByteArray) (h:i<(bl c).length),bt c (i:Int)=(((bl c)[i]).toNat:Int):=λc h=>by
   unfold bt
   rw [Int.toNat_natCast,List.getD_eq_getElem?_getD,List.getElem?_eq_getElem h];rfl
  rw [hb a h1,hb b h2]
  refine zf (λhd=>?_) λhd=>?_
  ·refine wp_lt ?_
   refine zn (zn ⟨rfl,?_,hs⟩)
   have hne:(bl a)[i]≠(bl b)[i]:=λe=>by rw [e] at hd;simp at hd
   rw [zcp (i:=i) (by omega) (by omega) ht (.inr (.inr (by rw [List.getElem?_eq_getElem h1,List.getElem?_eq_getElem h2];simpa using hne)))]
  ·have he:(bl a)[i]=(bl b)[i]:=by
    apply UInt8.toNat_inj.1
    have:(((bl a)[i]).toNat:Int)=(((bl b)[i]).toNat:Int):=by simpa using hd
    omega
   refine z25 (us':=[.int .i64 ((i+1:Nat):Int)]) (by (try simp (disch:=omega) only [w64]);first|rfl|(congr;omega)) ?_
   refine z0x (min a.size b.size-(i+1)) ?_
   exact ⟨i+1,rfl,by omega,rfl,by rw [List.take_succ_eq_append_getElem h1,List.take_succ_eq_append_getElem h2,ht,he],hs⟩
end
theorem zti {lo hi:Int} (h:lo<=0/\0<=hi) (s:Lf):lo<=(z1o lo hi s).1/\(z1o lo hi s).1<=hi:=by
 unfold z1o
 split
 ·exact h
 ·split
  ·exact h
  ·simp only;omega
theorem zgb {most:Int} (h:0<=most) (s:Lf):0<=(z05 most s).1/\(z05 most s).1<=most+1:=by
 unfold z05
 simp only
 split <;> omega
theorem z00l (most:Nat) (s:Lf):(z1m most s).1.size<=most:=by
 unfold z1m
 split
 ·show 0<=most;omega
 ·split
  ·rename_i h
   show (List.take _ _).length<=most
   rw [List.length_take];omega
  ·show 0<=most;omega
section
variable {w:World} {l r:List HP} {p:Nat} {s:Lf}
theorem z057 (time:Int) (ht:0<=time/\time<=1099511627776) (ahead:ByteArray) (ha:ahead.size<=100000) [hf:Fo l (rdS T.a55) p s r] (hs:Sat w l) :
  Ret P F.a113 #[.pointer (some ⟨p,0,none⟩),.int .i64 time,.string ahead] w λvs w'=>∃ x:RecM,vs=[.agg (zv x).toArray,.bool (z3j time ahead s).1.isSome]/\(∀ y,(z3j time ahead s).1=some y->x=y)/\x.key.size<=2100/\Sat w' (rdS T.a55 p (z3j time ahead s).2::r) :=
 zo7 _ _ _ <| by
  delta z01v AC AD AG AH AI AN AO AW AY Aa Ab Ac Ae Ag Ah Ai Al Aw Ax Ay Az Bq
  refine zt hs λa0 w' hs=>?_
  have hbd:=zti (lo := -1099511627776) (hi:=1099511627776) (by decide) s
  refine z8 (zxu (p:=p) (-1099511627776) 1099511627776 hs) λ_ _ hs=>?_
  obtain ⟨rfl,hs⟩:=hs
  refine zd ?_
  refine wp_lt ?_
  refine z8 (z04a (p:=p) hs) λ_ _ hs=>?_
  obtain ⟨rfl,hs⟩:=hs
  refine zd ?_
  refine zt hs λa4 w' hs=>?_
  rw [w64 (by omega) (by omega)]
  refine zu hs λw' hs=>?_
  refine z8 (za0 (p:=p) 1024 (by omega) hs) λ_ _ hs=>?_
  obtain ⟨rfl,hs⟩:=hs
  refine zd ?_
  refine wp_lt ?_
  refine z8 (zrt (p:=p) 1024 (by omega) hs) λ_ _ hs=>?_
  obtain ⟨rfl,hs⟩:=hs
  refine zd ?_
  refine wp_lt ?_
  have hR:z3j time ahead s=if (z05 1024 (z4k (z1o (-1099511627776) 1099511627776 s).2).2).1>ahead.size then (none,(z1m 1024 (z05 1024 (z4k (z1o (-1099511627776) 1099511627776 s).2).2).2).2) else
   let a:=z1o (-1099511627776) 1099511627776 s
   let b:=z4k a.2
   let c:=z05 1024 b.2
   let d:=z1m 1024 c.2
   let e:=if b.1 then (⟨#[]⟩,d.2) else z1m 1024 d.2
   if e.2.isSome=true/\(z0p (bl ahead) (bl (z58 ahead c.1 d.1)):Int)=c.1 then (some ⟨z58 ahead c.1 d.1,e.1,b.1,time+a.1⟩,e.2) else (none,e.2):=rfl
  simp only at hR
  have hcb:=zgb (most:=1024) (by decide) (z4k (z1o (-1099511627776) 1099511627776 s).2).2
  have hdb:=z00l 1024 (z05 1024 (z4k (z1o (-1099511627776) 1099511627776 s).2).2).2
  generalize z3j time ahead s=RR at *
  generalize z1o (-1099511627776) 1099511627776 s=a at *
  generalize z4k a.2=b at *
  generalize z05 1024 b.2=c at *
  generalize z1m 1024 c.2=d at *
  refine zf (λh=>?_) λh=>?_
  ·rw [if_pos h] at hR
   subst hR
   refine zi hs ?_
   refine zu hs λw' hs=>?_
   refine zi hs ?_
   exact ⟨rfl,⟨⟨#[]⟩,⟨#[]⟩,b.1,time+a.1⟩,rfl,(λy hy=>by cases hy),by show 0<=2100;omega,hs.sub⟩
  rw [if_neg h] at hR
  refine wp_must (by omega) ?_
  have hks:(ByteArray.extract ahead 0 (Int.toNat c.1)).size<=1025:=by
   rw [ByteArray.size_extract];omega
  refine wp_must (by omega) ?_
  refine z08 hs λw' hs=>?_
  have ek:ByteArray.extract ahead 0 (Int.toNat c.1)++d.1=z58 ahead c.1 d.1:=rfl
  rw [ek] at hs
  refine zb hs ?_
  have hkey:(z58 ahead c.1 d.1).size<=2100:=by
   unfold z58
   rw [ByteArray.size_append]
   omega
  refine zl (λ_ w'=>Sat w' (pt a4 (.cells #[.string (z58 ahead c.1 d.1),.string (if b.1=true then ((⟨#[]⟩:ByteArray),d.2) else z1m 1024 d.2).1,.bool b.1,.int .i64 (time+a.1)] T.a2)::rdS T.a55 p (if b.1=true then ((⟨#[]⟩:ByteArray),d.2) else z1m 1024 d.2).2::pt a0 (.cells #[.string ⟨#[]⟩,.string ⟨#[]⟩,.bool false,.int .i64 0] T.a2)::r)) ?_ ?_
  ·refine zf (λh2=>?_) λh2=>?_
   ·have h2:b.1=false:=by simpa using h2
    refine z8 (zrt (p:=p) 1024 (by omega) hs) λ_ _ hs=>?_
    obtain ⟨rfl,hs⟩:=hs
    refine zd ?_
    refine z08 hs λw' hs=>?_
    refine zg ?_
    rw [if_neg (by rw [h2];simp)]
    exact hs.sub
   ·have h2:b.1=true:=by simpa using h2
    refine zg ?_
    rw [if_pos h2]
    dsimp only
    exact hs.sub
  rintro _ w1 hs
  generalize (if b.1=true then ((⟨#[]⟩:ByteArray),d.2) else z1m 1024 d.2)=e at *
  refine zl (λq w'=>q=(RR.1.isSome,())/\Sat w' (pt a0 (.cells #[.string (z58 ahead c.1 d.1),.string e.1,.bool b.1,.int .i64 (time+a.1)] T.a2)::rdS T.a55 p e.2::r)) ?_ ?_
  ·refine z01 hs λw' hs=>?_
   refine zhl hs ?_
   refine z8 (zwa (p:=p) hs) λ_ _ hs=>?_
   obtain ⟨er,rfl,her,hs⟩:=hs
   refine zd ?_ (by first|trivial|(repeat (first|exact trivial|exact λ_=>z07 hs|exact λ_=>z0c hs|refine And.intro ?_ ?_)))
   refine zb hs ?_
   refine zf (λh2=>?_) λh2=>?_
   ·have h2:e.2.isSome=true:=her.1 (by simpa using h2)
    refine z8 (zq6 ahead (z58 ahead c.1 d.1) (by omega) hs) λ_ _ hs=>?_
    obtain ⟨rfl,hs⟩:=hs
    refine zd ?_ (by first|trivial|(repeat (first|exact trivial|exact λ_=>z07 hs|exact λ_=>z0c hs|refine And.intro ?_ ?_)))
    refine ze ?_
    refine zu hs λw' hs=>?_
    refine wp_lt ?_
    refine ze ?_
    refine zg ⟨?_,hs.sub⟩
    have e3:(((z0p (bl ahead) (bl (z58 ahead c.1 d.1)):Nat):Int) == c.1)=RR.1.isSome:=by
     rw [hR]
     by_cases h3:((z0p (bl ahead) (bl (z58 ahead c.1 d.1)):Nat):Int)=c.1
     ·rw [if_pos ⟨h2,h3⟩];simpa using h3
     ·rw [if_neg λh=>h3 h.2];simpa using h3
    rw [e3]
   ·have h2:¬ e.2.isSome=true:=λh=>h2 (by simpa using her.2 h)
    refine ze ?_
    refine zu hs λw' hs=>?_
    refine ze ?_
    refine zg ⟨?_,hs.sub⟩
    rw [hR,if_neg λh=>h2 h.1]
    rfl
  rintro _ w1 ⟨rfl,hs⟩
  refine zi hs ?_
  refine ⟨rfl,⟨z58 ahead c.1 d.1,e.1,b.1,time+a.1⟩,rfl,λy hy=>?_,hkey,?_⟩
  ·rw [hR] at hy
   split at hy
   ·simpa using hy
   ·cases hy
  ·have e4:RR.2=e.2:=by rw [hR];split <;> rfl
   rw [e4]
   exact hs.sub
end
def ztq:BatM:=⟨0,0,0,0,0,0,z88,[]⟩
abbrev zeroC:Array Value:=#[.int .i64 0,.int .i64 0,.int .i64 0,.int .i64 0,.int .i64 0,.int .i64 0,.slice none 0 0]
theorem zxw {P:Program} {p:Prog} {S:World->Prop} {w:World} {Q0 Q:Post} (h:p.wp P S w Q0) (h0:∀ e vs w,Q0 e vs w->e=0) (hQ:∀ vs w,Q0 0 vs w->Q 0 vs w):p.wp P S w Q :=
 Prog.wp_mono p (λe vs w h=>by have:=h0 e vs w h;subst this;exact hQ vs w h) h
theorem ztd (time:Int) (n:Nat) (ahead:ByteArray) (s:Lf):z4s time (n+1) ahead s=match (z3j time ahead s).1 with
  | none=>none
  | some x=>(z4s time n x.key (z3j time ahead s).2).map λq=>(x::q.1,q.2):=rfl
def BatM.at (b:BatM) (z:Sl):BatM:={ b with x:=z }
section
variable {w:World} {l r:List HP} {p:Nat} {s:Lf}
theorem zlc (x:Sl) (raw:List UInt8) [hx:FocR l x 1 (raw.flatMap zj)] (hn:raw.length<=1000000000) (hs:Sat w l) :
  Ret P F.a101 #[x.v] w λvs w'=>(∃ b z,z69 raw=some b/\vs=[.agg (z00 (b.at z)).toArray,.int .i64 0]/\Sat w' (slc T.a2 4 z (b.rs.flatMap zv)::l)) \/
   (z69 raw=none/\vs=[.agg (z00 ztq).toArray,.int .i64 6]/\Sat w' l) :=
 znv _ <| by
  delta z01j AC AE AI AJ AN AO AP AW Aa Ab Ac Ae Ag Ah Ai Al Ar As Au Aw Ax Ay Az Bb Bc Bn
  refine zt hs λa0 w' hs=>?_
  refine zt hs λa1 w' hs=>?_
  refine zu hs λw' hs=>?_
  refine z8 (zwy x raw hn hs) λ_ w' hs=>?_
  obtain ⟨p,rfl,hs⟩:=hs
  refine zd ?_
  refine z8 (zhs (p:=p) hs) λ_ _ hs=>?_
  obtain ⟨rfl,hs⟩:=hs
  refine zd ?_
  have hfail:∀ {w':World},Sat w' (pt a1 (.cells zeroC T.a0)::pt a0 (.cells zeroC T.a0)::l)->z69 raw=none ->
    (Prog.read True (ld T.a0 ⟨a1,0,none⟩) (sG [.int .i64,.int .i64,.int .i64,.int .i64,.int .i64,.int .i64,.slc]) (u7 λn4 n5 n6 n7 n8 n9 l10 =>
     .actU (st T.a0 ⟨a0,0,none⟩ (.agg #[.int .i64 n4,.int .i64 n5,.int .i64 n6,.int .i64 n7,.int .i64 n8,.int .i64 n9,l10.v])) <|
     .read True (ld T.a0 ⟨a0,0,none⟩) (sG [.int .i64,.int .i64,.int .i64,.int .i64,.int .i64,.int .i64,.slc]) (u7 λn11 n12 n13 n14 n15 n16 l17 =>
     .done 0 [.agg #[.int .i64 n11,.int .i64 n12,.int .i64 n13,.int .i64 n14,.int .i64 n15,.int .i64 n16,l17.v],.int .i64 6]))).wp P (λ_=>True) w' λe vs w=>e=0/\((∃ b z,z69 raw=some b/\vs=[.agg (z00 (b.at z)).toArray,.int .i64 0]/\Sat w (slc T.a2 4 z (b.rs.flatMap zv)::l)) \/
      (z69 raw=none/\vs=[.agg (z00 ztq).toArray,.int .i64 6]/\Sat w l)):=by
   intro w' hs hd
   have hs:Sat w' (pt a1 (.cells [.int .i64 0,.int .i64 0,.int .i64 0,.int .i64 0,.int .i64 0,.int .i64 0,.slice none 0 0].toArray T.a0)::pt a0 (.cells [.int .i64 0,.int .i64 0,.int .i64 0,.int .i64 0,.int .i64 0,.int .i64 0,.slice none 0 0].toArray T.a0)::l):=hs
   refine zi hs ?_
   refine zu hs λw' hs=>?_
   refine zi hs ?_
   exact ⟨rfl,.inr ⟨hd,rfl,hs.sub⟩⟩
  replace hs:Sat _ (rdS T.a55 p (z10 (some raw)).2::pt a1 (.cells zeroC T.a0)::pt a0 (.cells zeroC T.a0)::l):=hs.sub
  refine zf (λh=>?_) λh=>?_
  ·refine hfail hs.sub ?_
   unfold z69
   rw [if_pos (by omega)]
  have hdec:z69 raw=zl3 (hdS (z10 (some raw)).2):=by
   unfold z69
   rw [if_neg (by omega)]
  generalize z69 raw=DD at *
  generalize (z10 (some raw)).2=s at *
  have hH:hdS s=⟨z10 s,z05 1099511627776 (z10 s).2,z05 1048576 (z05 1099511627776 (z10 s).2).2,
   if (z05 1048576 (z05 1099511627776 (z10 s).2).2).1>0 then z05 32767 (z05 1048576 (z05 1099511627776 (z10 s).2).2).2 else (0,(z05 1048576 (z05 1099511627776 (z10 s).2).2).2),
   if (z05 1048576 (z05 1099511627776 (z10 s).2).2).1>0/\z3e (z10 s).1=false then z05 2147483647 (if (z05 1048576 (z05 1099511627776 (z10 s).2).2).1>0 then z05 32767 (z05 1048576 (z05 1099511627776 (z10 s).2).2).2 else (0,(z05 1048576 (z05 1099511627776 (z10 s).2).2).2)).2 else (0,(if (z05 1048576 (z05 1099511627776 (z10 s).2).2).1>0 then z05 32767 (z05 1048576 (z05 1099511627776 (z10 s).2).2).2 else (0,(z05 1048576 (z05 1099511627776 (z10 s).2).2).2)).2),
   z05 1099511627776 (if (z05 1048576 (z05 1099511627776 (z10 s).2).2).1>0/\z3e (z10 s).1=false then z05 2147483647 (if (z05 1048576 (z05 1099511627776 (z10 s).2).2).1>0 then z05 32767 (z05 1048576 (z05 1099511627776 (z10 s).2).2).2 else (0,(z05 1048576 (z05 1099511627776 (z10 s).2).2).2)).2 else (0,(if (z05 1048576 (z05 1099511627776 (z10 s).2).2).1>0 then z05 32767 (z05 1048576 (z05 1099511627776 (z10 s).2).2).2 else (0,(z05 1048576 (z05 1099511627776 (z10 s).2).2).2)).2)).2⟩:=rfl
  refine z8 (zhs (p:=p) hs) λ_ _ hs=>?_
  obtain ⟨rfl,hs⟩:=hs
  refine zd ?_
  generalize z10 s=k at *
  refine z8 (za0 (p:=p) 1099511627776 (by omega) hs) λ_ _ hs=>?_
  obtain ⟨rfl,hs⟩:=hs
  refine zd ?_
  generalize z05 1099511627776 k.2=ba at *
  refine z8 (za0 (p:=p) 1048576 (by omega) hs) λ_ _ hs=>?_
  obtain ⟨rfl,hs⟩:=hs
  refine zd ?_
  generalize z05 1048576 ba.2=pi at *
  refine zt hs λa2 w' hs=>?_
  refine zu hs λw' hs=>?_
  refine zb hs ?_
  generalize hep:(if pi.1>0 then z05 32767 pi.2 else (0,pi.2))=ep at *
  generalize hsq:(if pi.1>0/\z3e k.1=false then z05 2147483647 ep.2 else (0,ep.2))=sq at *
  refine zl (λ_ w'=>Sat w' (pt a2 (.cells [.int .i64 ba.1,.int .i64 pi.1,.int .i64 ep.1,.int .i64 sq.1,.int .i64 k.1,.int .i64 0,.slice none 0 0].toArray T.a0)::rdS T.a55 p sq.2::pt a1 (.cells zeroC T.a0)::pt a0 (.cells zeroC T.a0)::l)) ?_ ?_
  ·refine zf (λh=>?_) λh=>?_
   ·rw [if_pos h] at hep
    refine z8 (za0 (p:=p) 32767 (by omega) hs) λ_ _ hs=>?_
    obtain ⟨rfl,hs⟩:=hs
    refine zd ?_
    rw [hep] at hs ⊢
    refine z08 hs λw' hs=>?_
    refine zi hs ?_
    refine z8 (z6x ⟨ba.1,pi.1,ep.1,0,k.1,0,z88,[]⟩ hs) λ_ w' hs=>?_
    obtain ⟨rfl,hs⟩:=hs
    refine zd ?_
    have em:z0a ⟨ba.1,pi.1,ep.1,0,k.1,0,z88,[]⟩=z3e k.1:=rfl
    rw [em]
    refine z42 ?_
    refine zf (λh2=>?_) λh2=>?_
    ·have h2:z3e k.1=false:=by simpa using h2
     rw [if_pos ⟨h,h2⟩] at hsq
     refine z8 (za0 (p:=p) 2147483647 (by omega) hs) λ_ _ hs=>?_
     obtain ⟨rfl,hs⟩:=hs
     refine zd ?_
     rw [hsq] at hs ⊢
     refine z08 hs λw' hs=>?_
     refine z56 ?_
     refine zg ?_
     exact hs.sub
    ·have h2:z3e k.1≠false:=by simpa using h2
     rw [if_neg λh=>h2 h.2] at hsq
     refine z56 ?_
     refine zg ?_
     rw [<- hsq]
     exact hs.sub
   ·rw [if_neg h] at hep
    rw [if_neg λh2=>h h2.1] at hsq
    refine zg ?_
    rw [<- hsq,<- hep]
    exact hs.sub
  rintro _ w1 hs
  refine z8 (za0 (p:=p) 1099511627776 (by omega) hs) λ_ _ hs=>?_
  obtain ⟨rfl,hs⟩:=hs
  refine zd ?_
  have htb:=zgb (most:=1099511627776) (by decide) sq.2
  generalize z05 1099511627776 sq.2=tm at *
  refine z08 hs λw' hs=>?_
  refine z8 (zwa (p:=p) hs) λ_ _ hs=>?_
  obtain ⟨er,rfl,her,hs⟩:=hs
  refine zd ?_
  refine zb hs ?_
  rw [hH] at hdec
  generalize hHH:(⟨k,ba,pi,ep,sq,tm⟩:HdS)=H at *
  have e1:H.tm=tm:=by rw [<- hHH]
  have e2:H.k=k:=by rw [<- hHH]
  unfold zl3 at hdec
  rw [e1,e2] at hdec
  refine zf (λh=>?_) λh=>?_
  ·refine hfail hs.sub ?_
   rw [hdec,if_pos]
   rcases h with h|h
   ·left
    cases hi:tm.2.isSome with
    | false=>rfl
    | true=>exact absurd (her.2 hi) h
   ·right;omega
  have htm:tm.1<=1099511627776:=by
   apply Decidable.byContradiction
   intro hh
   exact h (.inr (by omega))
  have her0:tm.2.isSome=true:=her.1 (Decidable.byContradiction λhh=>h (.inl hh))
  rw [if_neg (by rw [her0];rintro (h|h);cases h;omega)] at hdec
  refine zi hs ?_
  refine z8 (z6x ⟨ba.1,pi.1,ep.1,sq.1,k.1,tm.1,z88,[]⟩ hs) λ_ w' hs=>?_
  obtain ⟨rfl,hs⟩:=hs
  refine zd ?_
  have em:z0a ⟨ba.1,pi.1,ep.1,sq.1,k.1,tm.1,z88,[]⟩=z3e k.1:=rfl
  rw [em]
  refine zl (λ_ w'=>∃ (rs:List RecM) (z:Sl) (s1:Lf),DD=(if s1=some []/\zx (H.b rs)=0 then some (H.b rs) else none)/\Sat w' (slc T.a2 4 z (rs.flatMap zv)::pt a2 (.cells [.int .i64 ba.1,.int .i64 pi.1,.int .i64 ep.1,.int .i64 sq.1,.int .i64 k.1,.int .i64 tm.1,.slice z.a z.len z.cap].toArray T.a0)::rdS T.a55 p s1::pt a1 (.cells zeroC T.a0)::pt a0 (.cells zeroC T.a0)::l)) ?_ ?_
  ·refine zf (λh2=>?_) λh2=>?_
   rotate_left
   ·have h2:z3e k.1=true:=by simpa using h2
    rw [if_pos h2] at hdec
    refine zg ⟨[],⟨none,0,0⟩,tm.2,hdec,?_⟩
    have hs:Sat _ (slc T.a2 4 ⟨none,0,0⟩ (([]:List RecM).flatMap zv)::_):=hs.slc_nil
    exact hs.sub
   have h2:z3e k.1=false:=by simpa using h2
   rw [if_neg (by rw [h2];simp)] at hdec
   refine z8 (za0 (p:=p) 64 (by omega) hs) λ_ _ hs=>?_
   obtain ⟨rfl,hs⟩:=hs
   refine zd ?_
   have hnb:=zgb (most:=64) (by decide) tm.2
   generalize z05 64 tm.2=n at *
   refine wp_lt ?_
   refine zf (λh3=>?_) λh3=>?_
   ·rw [if_pos h3] at hdec
    have hf:=hfail hs.sub hdec
    exact zxw hf (λ_ _ _ h=>h.1) λvs w h=>z8f (by decide) h
   rw [if_neg h3] at hdec
   refine zl (λ_ w'=>∃ (rs:List RecM) (z:Sl) (s1:Lf),z4s tm.1 n.1.toNat ⟨#[]⟩ n.2=some (rs,s1)/\Sat w' (slc T.a2 4 z (rs.flatMap zv)::pt a2 (.cells [.int .i64 ba.1,.int .i64 pi.1,.int .i64 ep.1,.int .i64 sq.1,.int .i64 k.1,.int .i64 tm.1,.slice z.a z.len z.cap].toArray T.a0)::rdS T.a55 p s1::pt a1 (.cells zeroC T.a0)::pt a0 (.cells zeroC T.a0)::l)) ?_ ?_
   rotate_left
   ·rintro _ w1 ⟨rs,z,s1,hrs,hs⟩
    rw [hrs] at hdec
    exact zg ⟨rs,z,s1,hdec,hs⟩
   refine z0b (λm v w=>∃ (i:Nat) (done:List RecM) (ahead:ByteArray) (z:Sl) (s1:Lf),v=(ahead,((i:Int),()))/\i<=n.1.toNat/\n.1.toNat-i=m/\done.length=i/\ahead.size<=2100 /\
    z4s tm.1 n.1.toNat ⟨#[]⟩ n.2=(z4s tm.1 (n.1.toNat-i) ahead s1).map (λq=>(done++q.1,q.2))/\Sat w (slc T.a2 4 z (done.flatMap zv)::pt a2 (.cells [.int .i64 ba.1,.int .i64 pi.1,.int .i64 ep.1,.int .i64 sq.1,.int .i64 k.1,.int .i64 tm.1,.slice z.a z.len z.cap].toArray T.a0)::rdS T.a55 p s1::pt a1 (.cells zeroC T.a0)::pt a0 (.cells zeroC T.a0)::l)) n.1.toNat
    ⟨0,[],⟨#[]⟩,⟨none,0,0⟩,n.2,rfl,by omega,rfl,rfl,(by show 0<=2100;omega),?_,(show Sat _ (slc T.a2 4 ⟨none,0,0⟩ (([]:List RecM).flatMap zv)::_) from hs.slc_nil).sub⟩ ?_
   ·cases z4s tm.1 n.1.toNat ⟨#[]⟩ n.2 <;> simp
   clear hs
   rintro m _ w ⟨i,done,ahead,z,s1,rfl,hi,hm,hdl,hah,hrec,hs⟩
   refine zf (λhc=>?_) λhc=>?_
   rotate_left
   ·refine zn (zg ⟨done,z,s1,?_,hs⟩)
    have hc:¬ ((i:Int)<n.1):=hc
    rw [hrec,show n.1.toNat-i=0 by omega]
    simp [z4s]
   have hc:(i:Int)<n.1:=hc
   refine zb hs ?_
   refine z8 (z057 (p:=p) tm.1 ⟨htb.1,htm⟩ ahead (by omega) hs) λ_ w' hs=>?_
   obtain ⟨y,rfl,hy,hyk,hs⟩:=hs
   refine ⟨(y.key,y.value,y.gone,y.time,(z3j tm.1 ahead s1).1.isSome,()),rfl,trivial,z7z _ _ _ _ _ ?_⟩
   refine zt hs λa3 w' hs=>?_
   refine zu hs λw' hs=>?_
   refine wp_lt ?_
   have hsucc:n.1.toNat-i=(n.1.toNat-(i+1))+1:=by omega
   rw [hsucc] at hrec
   rw [ztd] at hrec
   refine zf (λh4=>?_) λh4=>?_
   ·have h4:(z3j tm.1 ahead s1).1=none:=by simpa using h4
    rw [h4] at hrec
    have hrec:z4s tm.1 n.1.toNat ⟨#[]⟩ n.2=none:=hrec
    rw [hrec] at hdec
    have hf:=hfail hs.sub hdec
    exact zxw hf (λ_ _ _ h=>h.1) λvs w h=>z8f (by decide) (z8f (by decide) (z8f (by decide) h))
   have h4:(z3j tm.1 ahead s1).1.isSome=true:=by
    cases hq:(z3j tm.1 ahead s1).1 with
    | none=>rw [hq] at h4;exact absurd (by simp) h4
    | some q=>rfl
   obtain ⟨y',hy'⟩:=Option.isSome_iff_exists.1 h4
   obtain rfl:=hy y' hy'
   rw [hy'] at hrec
   refine zb hs ?_
   refine zi hs ?_
   refine z5f (xs:=done) (enc:=zv) (y:=y) hs (λz' w' hs=>?_) rfl (by omega)
   refine z08 hs λw' hs=>?_
   refine zb hs ?_
   refine wp_lt ?_
   have e5:IntKind.wrap .i64 ((i:Int)+1)=((i+1:Nat):Int):=by rw [w64 (by omega) (by omega)];omega
   rw [e5]
   refine z0x (n.1.toNat-(i+1)) ?_
   refine ⟨i+1,done++[y],y.key,z',(z3j tm.1 ahead s1).2,rfl,by omega,rfl,by simp [hdl],hyk,?_,hs.sub⟩
   rw [hrec,Option.map_map]
   congr 1
   funext q
   simp
  rintro _ w1 ⟨rs,z,s1,hDD,hs⟩
  have hb:H.b rs=⟨ba.1,pi.1,ep.1,sq.1,k.1,tm.1,z88,rs⟩:=by rw [<- hHH];rfl
  have hv0:zx (H.b rs)=zx ⟨ba.1,pi.1,ep.1,sq.1,k.1,tm.1,z,rs⟩:=by rw [hb];rfl
  refine zl (λq w'=>q=(DD.isNone,())/\Sat w' (slc T.a2 4 z (rs.flatMap zv)::pt a2 (.cells [.int .i64 ba.1,.int .i64 pi.1,.int .i64 ep.1,.int .i64 sq.1,.int .i64 k.1,.int .i64 tm.1,.slice z.a z.len z.cap].toArray T.a0)::pt a1 (.cells zeroC T.a0)::pt a0 (.cells zeroC T.a0)::l)) ?_ ?_
  ·refine z8 (zw9 (p:=p) hs) λ_ w' hs=>?_
   obtain ⟨e,rfl,he,hs⟩:=hs
   refine zd ?_
   refine zi hs ?_
   refine zf (λh5=>?_) λh5=>?_
   ·refine zg ⟨?_,hs.sub⟩
    rw [hDD,if_neg λhh=>h5 (he.2 hh.1)]
    rfl
   ·have h5:s1=some []:=he.1 (Decidable.not_not.1 h5)
    refine z8 (z9f ⟨ba.1,pi.1,ep.1,sq.1,k.1,tm.1,z,rs⟩ hs) λ_ w' hs=>?_
    obtain ⟨rfl,hs⟩:=hs
    refine zd ?_
    refine zg ⟨?_,hs.sub⟩
    rw [hDD,<- hv0]
    by_cases h6:zx (H.b rs)=0
    ·rw [if_pos ⟨h5,h6⟩,h6];rfl
    ·rw [if_neg λhh=>h6 hh.2]
     simpa using h6
  rintro _ w1 ⟨rfl,hs⟩
  refine zf (λh6=>?_) λh6=>?_
  ·exact hfail hs.sub (by simpa using h6)
  ·rw [hDD] at h6
   split at h6
   rotate_left
   ·exact absurd rfl h6
   rename_i h7
   rw [if_pos h7] at hDD
   refine zi hs ?_
   have hs:Sat w1 (slc T.a2 4 z (rs.flatMap zv)::pt a2 (.cells [.int .i64 ba.1,.int .i64 pi.1,.int .i64 ep.1,.int .i64 sq.1,.int .i64 k.1,.int .i64 tm.1,.slice z.a z.len z.cap].toArray T.a0)::pt a1 (.cells zeroC T.a0)::pt a0 (.cells [.int .i64 0,.int .i64 0,.int .i64 0,.int .i64 0,.int .i64 0,.int .i64 0,.slice none 0 0].toArray T.a0)::l):=hs
   refine zu hs λw' hs=>?_
   refine zi hs ?_
   refine ⟨rfl,.inl ⟨H.b rs,z,hDD,?_,?_⟩⟩
   ·rw [hb];rfl
   ·rw [hb];exact hs.sub
end
section
variable {w:World} {l r:List HP} {Q:Post} {S:World->Prop}
theorem z60 {P:Program} {t:TypeId} {sz:Nat} {α:Type} {enc:α->List Value} {n:Nat} {ps:Array (Nat × Value)} {el:TypeId} {bytes:Nat} {k:Sl->Prog} (hs:Sat w l) [ht:SlT P t el sz bytes] [hE:EncN enc sz] (xs:List α)
  (h:∀ x w',Sat w' (slc el sz x (xs.flatMap enc)::l)->S w'/\(k x).wp P S w' Q) (hc:z40 P t n ps=some (el,(xs.flatMap enc).toArray):=by kernel_rfl) (hn:xs.length=n:=by rfl) :
  (Prog.act (Instr.buildSlice t n ps) sL (u1 k)).wp P S w Q:=by
 have hp:=hs.push (o:=.cells (xs.flatMap enc).toArray el) (w':={ w with heap:=w.heap.push (.cells (xs.flatMap enc).toArray el) }) rfl
 have hsz:(xs.flatMap enc).toArray.size=n*sz:=by rw [List.size_toArray,z3m,hn]
 have h1:Sat { w with heap:=w.heap.push (.cells (xs.flatMap enc).toArray el) } (slc el sz ⟨some ⟨w.heap.size,0,none⟩,n,n⟩ (xs.flatMap enc)::l):=by
  have:=hp.slc_of (sz:=sz) hsz
  rwa [List.toList_toArray] at this
 have h2:=h ⟨some ⟨w.heap.size,0,none⟩,n,n⟩ _ h1
 exact ⟨(⟨some ⟨w.heap.size,0,none⟩,n,n⟩,()),_,zhc hc,h2.1,h2.2⟩
theorem z05o {P:Program} {α:Type} {enc:α->List Value} {xs ys:List α} {t tx ty el el':TypeId} {sz bytes sz' bytes':Nat} {x y:Sl} {k:Sl->Prog} (hs:Sat w l) [ht:SlT P t el sz bytes] [htx:SlT P tx el' sz' bytes'] [hf:FocS l x el sz (xs.flatMap enc) r] [hy:FocR l y sz (ys.flatMap enc)] [hE:EncN enc sz]
  (h:∀ z w',Sat w' (slc el sz z ((xs++ys).flatMap enc)::r)->S w'/\(k z).wp P S w' Q) (hb:(xs.length+ys.length)*bytes<=140737488355328/\xs.length+ys.length<=9223372036854775807:=by omega) :
  (Prog.act (app t tx ty (.slice x.a x.len x.cap) (.slice y.a y.len y.cap)) sL (u1 k)).wp P S w Q:=by
 have h1:x.len=xs.length:=(hs.focS x).rd.len hE.len hE.pos
 have h2:=hs.slen y (xs:=ys) (enc:=enc)
 refine ztj hs (hy.rd w hs) (λu hu=>?_) (by rw [h1,h2];exact hb.1) (by rw [h1,h2];exact hb.2) λz w' _ hs'=>h z w' ?_
 ·obtain ⟨a,-,hu⟩:=List.mem_flatMap.1 hu
  exact hE.one a u hu
 ·rw [List.flatMap_append];exact hs'
end
abbrev cB (b:BatM):Array Value:=#[.int .i64 b.base,.int .i64 b.pid,.int .i64 b.epoch,.int .i64 b.seq,.int .i64 b.kind,.int .i64 b.time,.slice b.x.a b.x.len b.x.cap]
abbrev cR (r:RecM):Array Value:=#[.string r.key,.string r.value,.bool r.gone,.int .i64 r.time]
theorem zha (time:Int):∀ (rs:List RecM) (ahead:ByteArray) (r:RecM),z2l time ahead (rs++[r])=z2l time ahead rs++z6m time (match rs.getLast? with|none=>ahead|some x=>x.key) r
 | [],ahead,r=>by simp [z2l]
 | a::rs,ahead,r=>by
  show z6m time ahead a++z2l time a.key (rs++[r])=z6m time ahead a++z2l time a.key rs++_
  rw [zha time rs a.key r,List.append_assoc]
  congr 3
  cases rs with
  | nil=>rfl
  | cons b bs=>rfl
theorem z058 {b:BatM} (hv:zx b=0) (i:Nat):(z2l b.time ⟨#[]⟩ (b.rs.take i)).length<=133696:=by
 obtain ⟨h64,hrs⟩:=z2c hv
 have h1:=zdk (time:=b.time) (n:=2048) (rs:=b.rs.take i) (ahead:=⟨#[]⟩) λr hr=>by
  obtain ⟨h1,h2,-⟩:=z5j (hrs r (List.mem_of_mem_take hr))
  omega
 have h2:(b.rs.take i).length<=64:=by rw [List.length_take];omega
 have:(b.rs.take i).length*(41+2048)<=64*(41+2048):=Nat.mul_le_mul_right _ h2
 omega
def hdL (b:BatM):List UInt8:=1::UInt8.ofNat b.kind.toNat::(uI b.base++uI b.pid)
def z85 (b:BatM):List UInt8:=if b.pid>0 then uI b.epoch++(if z0a b then [] else uI b.seq) else []
theorem zq9 (b:BatM):z2o b=(hdL b++z85 b++uI b.time)++if z0a b then [] else uI b.rs.length++z2l b.time ⟨#[]⟩ b.rs:=by
 unfold z2o hdL z85
 simp only [List.cons_append,List.append_assoc]
section
variable {w:World} {l r:List HP}
set_option maxHeartbeats 1000000 in
theorem zyq (b:BatM) [hb:FocR l b.x 4 (b.rs.flatMap zv)] (hs:Sat w l) :
  Ret P F.a102 #[.agg (z00 b).toArray] w λvs w'=>(zx b≠0/\vs=[.slice none 0 0,.int .i64 (zx b)]/\Sat w' l)\/(zx b=0/\∃ z:Sl,vs=[z.v,.int .i64 0]/\Sat w' (slc T.a53 1 z ((z2o b).flatMap zj)::l)) :=
 znw b.base b.pid b.epoch b.seq b.kind b.time b.x <| by
  delta z01k AD AE AF AH AJ AK AM AN AP AS AV AW Aa Ab Ac Ae Ag Ah Ai Am Ao Ar Aw Az Bb Bc Bq
  have hlx:=hs.slen b.x (xs:=b.rs) (enc:=zv)
  refine zr hs λa0 w' hs=>?_
  refine zi hs ?_
  refine z8 (z9f b hs) λ_ w' hs=>?_
  obtain ⟨rfl,hs⟩:=hs
  refine zd ?_
  refine wp_lt ?_
  refine zf (λh=>?_) λh=>?_
  ·refine wp_lt ?_
   exact ⟨rfl,.inl ⟨h,rfl,hs.tail⟩⟩
  have hv:zx b=0:=Decidable.not_not.1 h
  obtain ⟨-,-,⟨hk,hba,hpi,hep,hsq,htm⟩,hfit,-⟩:=z15 b hv
  obtain ⟨h64,hrs⟩:=z2c hv
  refine zl (λq w'=>∃ z:Sl,q=(z,())/\Sat w' (slc T.a53 1 z ((hdL b).flatMap zj)::pt a0 (.cells (cB b) T.a0)::l)) ?_ ?_
  ·have ek:IntKind.wrap .u8 b.kind=(((UInt8.ofNat b.kind.toNat).toNat:Nat):Int):=by
    rw [wu8 (by omega) (by omega),UInt8.toNat_ofNat'];omega
   have hul1:=z20 b.base
   have hul2:=z20 b.pid
   refine z01 hs λw' hs=>?_
   refine z0s hs ?_
   refine z0s hs ?_
   refine z0s hs ?_
   have fin:∀ {w':World} {z1 z2 z3:Sl},Sat w' (slc T.a53 1 z1 (([1,UInt8.ofNat b.kind.toNat]:List UInt8).flatMap zj)::slc T.a53 1 z2 ((uI b.base).flatMap zj)::slc T.a53 1 z3 ((uI b.pid).flatMap zj)::pt a0 (.cells (cB b) T.a0)::l) ->
     (Prog.act (Instr.buildSlice T.a43 3 #[(0,z1.v),(1,z2.v),(2,z3.v)]) sL (u1 λl17=>.call F.a200 [l17.v] sL (u1 λl18=>.untick <| .done 1 [l18.v]))).wp P (λ_=>True) w' (Post.catch (λe vs w'=>e=0/\((zx b≠0/\vs=[.slice none 0 0,.int .i64 (zx b)]/\Sat w' l)\/(zx b=0/\∃ z:Sl,vs=[z.v,.int .i64 0]/\Sat w' (slc T.a53 1 z ((z2o b).flatMap zj)::l)))) 1 λvs w'=>∃ x,vs=z1a [.one .slc] x/\∃ z:Sl,x=(z,())/\Sat w' (slc T.a53 1 z ((hdL b).flatMap zj)::pt a0 (.cells (cB b) T.a0)::l)):=by
    intro w' z1 z2 z3 hs
    refine z9h hs (enc:=z0g) [z1,z2,z3] λz4 w' hs=>?_
    refine z8 (z00q z4 z1 z2 z3 [1,UInt8.ofNat b.kind.toNat] (uI b.base) (uI b.pid) (by simp only [List.length_cons,List.length_nil];omega) hs) λ_ w' hs=>?_
    obtain ⟨z5,rfl,hs⟩:=hs
    refine zd ?_
    refine ze ?_
    refine zg ⟨z5,rfl,?_⟩
    have e:[1,UInt8.ofNat b.kind.toNat]++(uI b.base++uI b.pid)=hdL b:=by unfold hdL;simp
    rw [e] at hs
    exact hs.sub
   rw [ek]
   refine zeb ?_ ?_
   ·refine z60 hs (enc:=zj) [1,UInt8.ofNat b.kind.toNat] λz1 w' hs=>⟨(by first|trivial|(repeat (first|exact trivial|exact λ_=>z07 hs|exact λ_=>z0c hs|refine And.intro ?_ ?_))),?_⟩
    refine z8 (z5e b.base (by omega) hs) λ_ w' hs=>?_
    obtain ⟨z2,rfl,hs⟩:=hs
    refine zd ?_ (by first|trivial|(repeat (first|exact trivial|exact λ_=>z07 hs|exact λ_=>z0c hs|refine And.intro ?_ ?_)))
    refine z8 (z5e b.pid (by omega) hs) λ_ w' hs=>?_
    obtain ⟨z3,rfl,hs⟩:=hs
    refine zd ?_ (by first|trivial|(repeat (first|exact trivial|exact λ_=>z07 hs|exact λ_=>z0c hs|refine And.intro ?_ ?_)))
    refine ze ?_
    exact fin hs.sub
   ·refine z8 (z5e b.base (by omega) hs) λ_ w' hs=>?_
    obtain ⟨z2,rfl,hs⟩:=hs
    refine zd ?_ (by first|trivial|(repeat (first|exact trivial|exact λ_=>z07 hs|exact λ_=>z0c hs|refine And.intro ?_ ?_)))
    refine zeb ?_ ?_
    ·refine z60 hs (enc:=zj) [1,UInt8.ofNat b.kind.toNat] λz1 w' hs=>⟨(by first|trivial|(repeat (first|exact trivial|exact λ_=>z07 hs|exact λ_=>z0c hs|refine And.intro ?_ ?_))),?_⟩
     refine z8 (z5e b.pid (by omega) hs) λ_ w' hs=>?_
     obtain ⟨z3,rfl,hs⟩:=hs
     refine zd ?_ (by first|trivial|(repeat (first|exact trivial|exact λ_=>z07 hs|exact λ_=>z0c hs|refine And.intro ?_ ?_)))
     refine ze ?_
     exact fin hs.sub
    ·refine z8 (z5e b.pid (by omega) hs) λ_ w' hs=>?_
     obtain ⟨z3,rfl,hs⟩:=hs
     refine zd ?_ (by first|trivial|(repeat (first|exact trivial|exact λ_=>z07 hs|exact λ_=>z0c hs|refine And.intro ?_ ?_)))
     refine z60 hs (enc:=zj) [1,UInt8.ofNat b.kind.toNat] λz1 w' hs=>⟨(by first|trivial|(repeat (first|exact trivial|exact λ_=>z07 hs|exact λ_=>z0c hs|refine And.intro ?_ ?_))),?_⟩
     refine ze ?_
     exact fin hs.sub
  rintro _ w1 ⟨z,rfl,hs⟩
  have hdl:(hdL b).length<=22:=by
   have hul1:=z20 b.base
   have hul2:=z20 b.pid
   unfold hdL
   simp only [List.length_cons,List.length_append]
   omega
  refine zb hs ?_
  refine zl (λq w'=>∃ z:Sl,q=(z,())/\Sat w' (slc T.a53 1 z ((hdL b++z85 b).flatMap zj)::pt a0 (.cells (cB b) T.a0)::l)) ?_ ?_
  ·refine zf (λh2=>?_) λh2=>?_
   rotate_left
   ·refine zg ⟨z,rfl,?_⟩
    have e:z85 b=[]:=by unfold z85;rw [if_neg h2]
    rw [e,List.append_nil]
    exact hs
   have hul:=z20 b.epoch
   refine zb hs ?_
   refine z8 (z5e b.epoch (by omega) hs) λ_ w' hs=>?_
   obtain ⟨z2,rfl,hs⟩:=hs
   refine zd ?_
   refine wp_app' (xs:=hdL b) (ys:=uI b.epoch) (enc:=zj) hs λz3 w' hs=>?_
   refine zi hs ?_
   refine z8 (z6x b hs) λ_ w' hs=>?_
   obtain ⟨rfl,hs⟩:=hs
   refine zd ?_
   refine z42 ?_
   refine zf (λh3=>?_) λh3=>?_
   ·have h3:z0a b=false:=by simpa using h3
    have hul2:=z20 b.seq
    refine zb hs ?_
    refine z8 (z5e b.seq (by omega) hs) λ_ w' hs=>?_
    obtain ⟨z4,rfl,hs⟩:=hs
    refine zd ?_
    refine wp_app' (xs:=hdL b++uI b.epoch) (ys:=uI b.seq) (enc:=zj) hs (λz5 w' hs=>?_) (by rw [List.length_append];omega)
    refine z56 ?_
    refine zg ⟨z5,rfl,?_⟩
    have e:z85 b=uI b.epoch++uI b.seq:=by unfold z85;rw [if_pos h2,h3];rfl
    rw [e,<- List.append_assoc]
    exact hs.sub
   ·have h3:z0a b=true:=by simpa using h3
    refine z56 ?_
    refine zg ⟨z3,rfl,?_⟩
    have e:z85 b=uI b.epoch:=by unfold z85;rw [if_pos h2,h3,if_pos rfl,List.append_nil]
    rw [e]
    exact hs.sub
  rintro _ w2 ⟨z2,rfl,hs⟩
  have hml:(z85 b).length<=20:=by
   have hul1:=z20 b.epoch
   have hul2:=z20 b.seq
   unfold z85
   split
   ·split
    ·simp only [List.length_append,List.length_nil];omega
    ·simp only [List.length_append];omega
   ·simp
  have htl:=z20 b.time
  refine zb hs ?_
  refine z8 (z5e b.time (by omega) hs) λ_ w' hs=>?_
  obtain ⟨z3,rfl,hs⟩:=hs
  refine zd ?_
  refine wp_app' (xs:=hdL b++z85 b) (ys:=uI b.time) (enc:=zj) hs (λz4 w' hs=>?_) (by rw [List.length_append];omega)
  refine zi hs ?_
  refine z8 (z6x b hs) λ_ w' hs=>?_
  obtain ⟨rfl,hs⟩:=hs
  refine zd ?_
  refine zf (λh3=>?_) λh3=>?_
  ·refine ⟨rfl,.inr ⟨hv,z4,rfl,?_⟩⟩
   rw [zq9,h3,if_pos rfl,List.append_nil]
   exact hs.sub
  have h3:z0a b=false:=by simpa using h3
  have hcl:=z20 ((b.rs.length:Nat):Int)
  refine zb hs ?_
  rw [hlx]
  refine z8 (z5e ((b.rs.length:Nat):Int) (by omega) hs) λ_ w' hs=>?_
  obtain ⟨z5,rfl,hs⟩:=hs
  refine zd ?_
  generalize hX:hdL b++z85 b++uI b.time=X at hs
  have hXl:X.length<=60:=by rw [<- hX];simp only [List.length_append];omega
  refine wp_app' (xs:=X) (ys:=uI (b.rs.length:Nat)) (enc:=zj) hs (λz6 w' hs=>?_) (by omega)
  refine zb hs ?_
  generalize hY:X++uI ((b.rs.length:Nat):Int)=Y at hs
  have hYl:Y.length<=80:=by rw [<- hY];simp only [List.length_append];omega
  have hfin:z2o b=Y++z2l b.time ⟨#[]⟩ b.rs:=by
   rw [zq9,hX,h3,if_neg (by simp),<- hY,List.append_assoc]
  refine zl (λq w'=>∃ z:Sl,q=(z,())/\Sat w' (slc T.a53 1 z ((z2o b).flatMap zj)::l)) ?_ ?_
  rotate_left
  ·rintro _ w' ⟨z,rfl,hs⟩
   exact ⟨rfl,.inr ⟨hv,z,rfl,hs⟩⟩
  have hrec:=z058 hv
  refine z0b (λm v w=>∃ (i:Nat) (z:Sl),v=(z,((match (b.rs.take i).getLast? with|none=>(⟨#[]⟩:ByteArray)|some x=>x.key),((i:Int),())))/\i<=b.rs.length/\b.rs.length-i=m/\Sat w (slc T.a53 1 z ((Y++z2l b.time ⟨#[]⟩ (b.rs.take i)).flatMap zj)::pt a0 (.cells (cB b) T.a0)::l)) b.rs.length ⟨0,z6,rfl,by omega,rfl,by
   rw [List.take_zero]
   show Sat _ (slc T.a53 1 z6 ((Y++[]).flatMap zj)::_)
   rw [List.append_nil]
   exact hs.sub⟩ ?_
  clear hs
  rintro m _ w ⟨i,z,rfl,hi,hm,hs⟩
  refine zf (λhc=>?_) λhc=>?_
  rotate_left
  ·refine zn (zg ⟨z,rfl,?_⟩)
   have hc:¬ ((i:Int)<((b.x.len:Nat):Int)):=hc
   have hi2:i=b.rs.length:=by omega
   rw [hi2,List.take_length,<- hfin] at hs
   exact hs.sub
  have hc:((i:Int)<((b.x.len:Nat):Int)):=hc
  have hil:i<b.rs.length:=by omega
  refine z30 hs (xs:=b.rs) (enc:=zv) i hil ?_
  refine zt hs λa1 w' hs=>?_
  refine zu hs λw' hs=>?_
  refine zb hs ?_
  obtain ⟨hr1,hr2,hr3,hr4⟩:=z5j (hrs b.rs[i] (List.getElem_mem hil))
  have hah:∀ x,(match (b.rs.take i).getLast? with|none=>(⟨#[]⟩:ByteArray)|some x=>x.key)=x->x.size<=1024:=by
   intro x hx
   cases hq:(b.rs.take i).getLast? with
   | none=>rw [hq] at hx;subst hx;show 0<=1024;omega
   | some y =>
    rw [hq] at hx
    subst hx
    exact (z5j (hrs y (List.mem_of_mem_take (List.mem_of_getLast? hq)))).1
  have hsn:=zha b.time (b.rs.take i) ⟨#[]⟩ b.rs[i]
  rw [<- List.take_succ_eq_append_getElem hil] at hsn
  have hln:=hrec (i+1)
  rw [hsn,List.length_append] at hln
  have hlast:(match (b.rs.take (i+1)).getLast? with|none=>(⟨#[]⟩:ByteArray)|some x=>x.key)=b.rs[i].key:=by
   rw [List.take_succ_eq_append_getElem hil,z1y]
  generalize (match (b.rs.take i).getLast? with|none=>(⟨#[]⟩:ByteArray)|some x=>x.key)=ahead at *
  have hah:=hah ahead rfl
  refine z8 (zq6 ahead b.rs[i].key (by omega) hs) λ_ w' hs=>?_
  obtain ⟨rfl,hs⟩:=hs
  refine zd ?_
  refine wp_lt ?_
  have hal:=za4 (bl ahead) (bl b.rs[i].key)
  rw [z1d,z1d] at hal
  have hrl:z6m b.time ahead b.rs[i]=(z5w (b.rs[i].time-b.time)++([z8i b.rs[i].gone]++(uI (z0p (bl ahead) (bl b.rs[i].key):Nat)++z76 ahead b.rs[i].key)))++if b.rs[i].gone then [] else uI b.rs[i].value.size++bl b.rs[i].value:=by
   unfold z6m
   simp only [List.append_assoc,List.cons_append,List.nil_append,List.singleton_append]
  generalize hZ:Y++z2l b.time ⟨#[]⟩ (b.rs.take i)=Z at *
  have hZl:Z.length<=200000:=by rw [<- hZ,List.length_append];omega
  have htl1:=zk1 (b.rs[i].time-b.time)
  have htl2:=z20 ((z0p (bl ahead) (bl b.rs[i].key):Nat):Int)
  have htl3:(z76 ahead b.rs[i].key).length<=1034:=by
   unfold z76
   have:=z20 (((b.rs[i].key.size-z0p (bl ahead) (bl b.rs[i].key):Nat)):Int)
   rw [List.length_append,List.length_drop,z1d]
   omega
  refine zl (λq w'=>∃ z:Sl,q=(z,())/\Sat w' (slc T.a53 1 z ((Z++(z5w (b.rs[i].time-b.time)++([z8i b.rs[i].gone]++(uI (z0p (bl ahead) (bl b.rs[i].key):Nat)++z76 ahead b.rs[i].key)))).flatMap zj)::pt a1 (.cells (cR b.rs[i]) T.a2)::pt a0 (.cells (cB b) T.a0)::l)) ?_ ?_
  ·refine z01 hs λw' hs=>?_
   refine zb hs ?_
   refine zb hs ?_
   refine z0s hs ?_
   refine z0s hs ?_
   refine wp_must (by omega) ?_
   rw [w64 (by omega) (by omega)]
   refine z8 (z05v (b.rs[i].time-b.time) (by omega) hs) λ_ w' hs=>?_
   obtain ⟨u1_,rfl,hs⟩:=hs
   refine zd ?_ (by first|trivial|(repeat (first|exact trivial|exact λ_=>z07 hs|exact λ_=>z0c hs|refine And.intro ?_ ?_)))
   refine z8 (z05n b.rs[i].gone hs) λ_ w' hs=>?_
   obtain ⟨u2_,rfl,hs⟩:=hs
   refine zd ?_ (by first|trivial|(repeat (first|exact trivial|exact λ_=>z07 hs|exact λ_=>z0c hs|refine And.intro ?_ ?_)))
   refine z8 (z5e ((z0p (bl ahead) (bl b.rs[i].key):Nat):Int) (by omega) hs) λ_ w' hs=>?_
   obtain ⟨u3_,rfl,hs⟩:=hs
   refine zd ?_ (by first|trivial|(repeat (first|exact trivial|exact λ_=>z07 hs|exact λ_=>z0c hs|refine And.intro ?_ ?_)))
   refine ze ?_
   have ext:(ByteArray.extract b.rs[i].key (z0p (bl ahead) (bl b.rs[i].key)) b.rs[i].key.size).size=b.rs[i].key.size-z0p (bl ahead) (bl b.rs[i].key):=by rw [ByteArray.size_extract];omega
   have exb:bl (ByteArray.extract b.rs[i].key (z0p (bl ahead) (bl b.rs[i].key)) b.rs[i].key.size)=(bl b.rs[i].key).drop (z0p (bl ahead) (bl b.rs[i].key)):=by
    unfold bl
    rw [ByteArray.data_extract,Array.toList_extract,List.extract_eq_take_drop]
    exact List.take_of_length_le (by rw [List.length_drop];exact Nat.le_refl _)
   rw [Int.toNat_natCast]
   refine z8 (zs0 (ByteArray.extract b.rs[i].key (z0p (bl ahead) (bl b.rs[i].key)) b.rs[i].key.size) (by omega) hs) λ_ w' hs=>?_
   obtain ⟨u4_,rfl,hs⟩:=hs
   refine zd ?_
   rw [ext,exb] at hs
   have hs:Sat _ (slc T.a53 1 u4_ ((z76 ahead b.rs[i].key).flatMap zj)::_):=hs
   refine z9h hs (enc:=z0g) [u1_,u2_,u3_,u4_] λu5_ w' hs=>?_
   refine z8 (z00r u5_ u1_ u2_ u3_ u4_ (z5w (b.rs[i].time-b.time)) [z8i b.rs[i].gone] (uI (z0p (bl ahead) (bl b.rs[i].key):Nat)) (z76 ahead b.rs[i].key) (by simp only [List.length_cons,List.length_nil];omega) hs) λ_ w' hs=>?_
   obtain ⟨u6_,rfl,hs⟩:=hs
   refine zd ?_
   refine wp_app' (xs:=Z) (ys:=z5w (b.rs[i].time-b.time)++([z8i b.rs[i].gone]++(uI (z0p (bl ahead) (bl b.rs[i].key):Nat)++z76 ahead b.rs[i].key))) (enc:=zj) hs (λz5 w' hs=>?_) (by simp only [List.length_append,List.length_cons,List.length_nil];omega)
   refine ze ?_
   refine zg ⟨z5,rfl,?_⟩
   exact hs.sub
  rintro _ w3 ⟨z5,rfl,hs⟩
  refine zb hs ?_
  refine zl (λq w'=>∃ z:Sl,q=(z,())/\Sat w' (slc T.a53 1 z ((Z++z6m b.time ahead b.rs[i]).flatMap zj)::pt a1 (.cells (cR b.rs[i]) T.a2)::pt a0 (.cells (cB b) T.a0)::l)) ?_ ?_
  ·refine zf (λh5=>?_) λh5=>?_
   ·have h5:b.rs[i].gone=false:=by simpa using h5
    refine zb hs ?_
    refine z8 (zs0 b.rs[i].value (by omega) hs) λ_ w' hs=>?_
    obtain ⟨u,rfl,hs⟩:=hs
    refine zd ?_
    have hvl:=z20 ((b.rs[i].value.size:Nat):Int)
    have hvs:=z1d b.rs[i].value
    refine wp_app' (xs:=Z++(z5w (b.rs[i].time-b.time)++([z8i b.rs[i].gone]++(uI (z0p (bl ahead) (bl b.rs[i].key):Nat)++z76 ahead b.rs[i].key)))) (ys:=uI (b.rs[i].value.size:Nat)++bl b.rs[i].value) (enc:=zj) hs (λz7 w' hs=>?_) (by simp only [List.length_append,List.length_cons,List.length_nil];omega)
    refine zg ⟨z7,rfl,?_⟩
    rw [hrl,if_neg (by rw [h5];simp),<- List.append_assoc]
    exact hs.sub
   ·have h5:b.rs[i].gone=true:=by simpa using h5
    refine zg ⟨z5,rfl,?_⟩
    rw [hrl,if_pos h5,List.append_nil]
    exact hs.sub
  rintro _ w4 ⟨z7,rfl,hs⟩
  refine zb hs ?_
  refine wp_lt ?_
  have e5:IntKind.wrap .i64 ((i:Int)+1)=((i+1:Nat):Int):=by rw [w64 (by omega) (by omega)];omega
  rw [e5]
  refine z0x (b.rs.length-(i+1)) ?_
  refine ⟨i+1,z7,by rw [hlast],by omega,rfl,?_⟩
  rw [hsn,<- List.append_assoc,hZ]
  exact hs.sub
end
def zkj (b:BatM) (k:Nat):BatM:=⟨b.base+k,b.pid,b.epoch,if b.pid>0 then b.seq+k else b.seq,b.kind,b.time,b.x,b.rs.drop k⟩
def z0u (off:Int) (b:BatM):Option BatM:=if zx b≠0\/off>=z1q b then none else if z0a b=true\/off<=b.base then some b else some (zkj b (off-b.base).toNat)
def rsP (b:BatM):HP:=slc T.a2 4 b.x (b.rs.flatMap zv)
def z1l (bs:List BatM):HP:=HP.all (bs.map rsP)
section
variable {w:World} {l r:List HP}
theorem zrd (b:BatM) [hb:FocR l b.x 4 (b.rs.flatMap zv)] (hlen:b.rs.length<=1000000) (hs:Sat w l):Ret P F.a100 #[.agg (z00 b).toArray] w λvs w'=>∃ z:Sl,vs=[.agg (z00 (b.at z)).toArray]/\Sat w' (slc T.a2 4 z (b.rs.flatMap zv)::l) :=
 znu b.base b.pid b.epoch b.seq b.kind b.time b.x <| by
  delta z01i AI AJ AP Ab Ac Ai Am Bb Bc
  refine zr hs λa0 w' hs=>?_
  refine zt hs λa1 w' hs=>?_
  refine zb hs ?_
  have hs:Sat w' (slc T.a2 4 ⟨none,0,0⟩ (([]:List RecM).flatMap zv)::_):=hs.slc_nil
  refine wp_app' (x:=⟨none,0,0⟩) (xs:=([]:List RecM)) (ys:=b.rs) (enc:=zv) hs (λz w' hs=>?_) (by simp only [List.length_nil];omega)
  rw [List.nil_append] at hs
  refine z08 hs λw' hs=>?_
  refine zi hs ?_
  refine zu hs λw' hs=>?_
  refine zi hs ?_
  refine ⟨rfl,z,rfl,?_⟩
  exact hs.sub
theorem z059 (b:BatM) (k:Nat) (hk:k<=b.rs.length) (hcap:b.x.len<=b.x.cap) (hv:zx b=0) [hb:FocR l b.x 4 (b.rs.flatMap zv)] (hs:Sat w l):Ret P F.a112 #[.agg (z00 b).toArray,.int .i64 (k:Int),.int .i64 (b.x.len:Nat)] w λvs w'=>∃ z:Sl,vs=[.agg (z00 ((zkj b k).at z)).toArray]/\Sat w' (slc T.a2 4 z ((b.rs.drop k).flatMap zv)::l) :=
 zo6 b.base b.pid b.epoch b.seq b.kind b.time b.x _ _ <| by
  delta z01u AC AI AJ AP Aa Ab Ac Ag Ah Ai Am Ar Bb Bc
  have hl:=hs.slen b.x (xs:=b.rs) (enc:=zv)
  obtain ⟨h64,-⟩:=z2c hv
  obtain ⟨-,-,⟨-,hba,hpi,-,hsq,-⟩,-,-⟩:=z15 b hv
  refine zr hs λa0 w' hs=>?_
  refine zt hs λa1 w' hs=>?_
  refine zi hs ?_
  refine zt hs λa9 w' hs=>?_
  refine zu hs λw' hs=>?_
  refine zb hs ?_
  refine wp_must (by omega) ?_
  rw [Int.toNat_natCast,Int.toNat_natCast]
  have hf:FocR (pt a9 (.cells #[.int .i64 b.base,.int .i64 b.pid,.int .i64 b.epoch,.int .i64 b.seq,.int .i64 b.kind,.int .i64 b.time,.slice b.x.a b.x.len b.x.cap] T.a0)::pt a1 (.cells #[.int .i64 0,.int .i64 0,.int .i64 0,.int .i64 0,.int .i64 0,.int .i64 0,.slice none 0 0] T.a0)::pt a0 (.cells #[.int .i64 b.base,.int .i64 b.pid,.int .i64 b.epoch,.int .i64 b.seq,.int .i64 b.kind,.int .i64 b.time,.slice b.x.a b.x.len b.x.cap] T.a0)::l) ⟨z0v b.x.a 4 k b.x.cap,b.x.len-k,b.x.cap-k⟩ 4 ((b.rs.drop k).flatMap zv):=FocR.post hcap
  have hs:Sat w' (slc T.a2 4 ⟨none,0,0⟩ (([]:List RecM).flatMap zv)::_):=hs.slc_nil
  refine wp_app' (x:=⟨none,0,0⟩) (y:=⟨z0v b.x.a 4 k b.x.cap,b.x.len-k,b.x.cap-k⟩) (xs:=([]:List RecM)) (ys:=b.rs.drop k) (enc:=zv) hs (λz w' hs=>?_) (by simp only [List.length_nil,List.length_drop];omega)
  rw [List.nil_append] at hs
  refine z08 hs λw' hs=>?_
  refine zb hs ?_
  rw [w64 (by omega) (by omega)]
  refine z08 hs λw' hs=>?_
  refine zb hs ?_
  refine zl (λ_ w'=>Sat w' (pt a9 (.cells [.int .i64 (b.base+k),.int .i64 b.pid,.int .i64 b.epoch,.int .i64 (if b.pid>0 then b.seq+k else b.seq),.int .i64 b.kind,.int .i64 b.time,.slice z.a z.len z.cap].toArray T.a0)::slc T.a2 4 z ((b.rs.drop k).flatMap zv)::pt a1 (.cells #[.int .i64 0,.int .i64 0,.int .i64 0,.int .i64 0,.int .i64 0,.int .i64 0,.slice none 0 0] T.a0)::l)) ?_ ?_
  ·refine zf (λh=>?_) λh=>?_
   ·refine zb hs ?_
    rw [w64 (by omega) (by omega)]
    refine z08 hs λw' hs=>?_
    refine zg ?_
    rw [if_pos h]
    exact hs.sub
   ·refine zg ?_
    rw [if_neg h]
    exact hs.sub
  clear hs
  rintro _ w2 hs
  refine zi hs ?_
  refine zu hs λw' hs=>?_
  refine zi hs ?_
  refine ⟨rfl,z,rfl,?_⟩
  exact hs.sub
theorem z04d (b:BatM) (off:Int) (ho : -9223372036854775808<=off/\off<9223372036854775808) (hcap:b.x.len<=b.x.cap) [hb:FocR l b.x 4 (b.rs.flatMap zv)] (hs:Sat w l):Ret P F.a104 #[.agg (z00 b).toArray,.int .i64 off] w λvs w' =>
  (z0u off b=none/\vs=[.agg (z00 ztq).toArray,.bool false]/\Sat w' l)\/(∃ (c:BatM) (z:Sl),z0u off b=some c/\vs=[.agg (z00 (c.at z)).toArray,.bool true]/\Sat w' (slc T.a2 4 z (c.rs.flatMap zv)::l)) :=
 zny b.base b.pid b.epoch b.seq b.kind b.time b.x off <| by
  delta z01m AJ AT Aa Ab Ac Ag Ah Ai Am Ao Ar As Aw Ax Ay Az B2 Bb Bc Bn
  have hl:=hs.slen b.x (xs:=b.rs) (enc:=zv)
  refine zr hs λa0 w' hs=>?_
  refine zt hs λa1 w' hs=>?_
  refine zl (λq w'=>q=(decide (zx b≠0\/off>=z1q b),())/\Sat w' (pt a1 (.cells #[.int .i64 0,.int .i64 0,.int .i64 0,.int .i64 0,.int .i64 0,.int .i64 0,.slice none 0 0] T.a0)::pt a0 (.cells (cB b) T.a0)::l)) ?_ ?_
  ·refine zi hs ?_
   refine z8 (z9f b hs) λ_ w' hs=>?_
   obtain ⟨rfl,hs⟩:=hs
   refine zd ?_
   refine zi hs ?_
   refine zf (λh=>?_) λh=>?_
   ·exact zg ⟨by rw [decide_eq_true (.inl h)],hs⟩
   ·refine z8 (z9d b hs) λ_ w' hs=>?_
    obtain ⟨rfl,hs⟩:=hs
    refine zd ?_
    refine wp_lt ?_
    refine zg ⟨?_,hs⟩
    rw [decide_eq_decide.2 (show (zx b≠0\/off>=z1q b)↔off>=z1q b from ⟨λhh=>hh.resolve_left h,.inr⟩)]
  rintro _ w2 ⟨rfl,hs⟩
  refine zf (λh=>?_) λh=>?_
  ·have h:zx b≠0\/off>=z1q b:=by simpa using h
   refine zu hs λw' hs=>?_
   refine zi hs ?_
   refine ⟨rfl,.inl ⟨by unfold z0u;rw [if_pos h],rfl,hs.tail.tail⟩⟩
  have h:¬ (zx b≠0\/off>=z1q b):=by simpa using h
  have hv:zx b=0:=Decidable.byContradiction λhh=>h (.inl hh)
  have hno:off<z1q b:=by
   apply Decidable.byContradiction;intro hh;exact h (.inr (by omega))
  have hnx:z1q b=b.base+zp b:=by unfold z1q;rw [if_neg (by rw [hv];simp)]
  obtain ⟨h64,-⟩:=z2c hv
  obtain ⟨-,-,⟨-,hba,-⟩,-,-⟩:=z15 b hv
  refine zi hs ?_
  refine z8 (z6x b hs) λ_ w' hs=>?_
  obtain ⟨rfl,hs⟩:=hs
  refine zd ?_
  refine zb hs ?_
  refine wp_lt ?_
  refine zf (λh2=>?_) λh2=>?_
  ·refine zi hs ?_
   refine z8 (zrd b (by omega) hs) λ_ w' hs=>?_
   obtain ⟨z,rfl,hs⟩:=hs
   refine ⟨(b.base,b.pid,b.epoch,b.seq,b.kind,b.time,z,()),rfl,trivial,zto _ _ _ _ _ _ _ ?_⟩
   refine zu hs λw' hs=>?_
   refine zi hs ?_
   refine ⟨rfl,.inr ⟨b,z,by unfold z0u;rw [if_neg h,if_pos h2],rfl,hs.sub⟩⟩
  ·have hm:z0a b=false:=by
    cases hm:z0a b with
    | false=>rfl
    | true=>exact absurd (.inl hm) h2
   have hob:¬ off<=b.base:=λhh=>h2 (.inr hh)
   have hsp:zp b=b.rs.length:=by unfold zp;rw [hm];simp
   refine zi hs ?_
   refine zb hs ?_
   refine zb hs ?_
   rw [w64 (by omega) (by omega)]
   have eo:off-b.base=(((off-b.base).toNat:Nat):Int):=by omega
   rw [eo]
   refine z8 (z059 b (off-b.base).toNat (by omega) hcap hv hs) λ_ w' hs=>?_
   obtain ⟨z,rfl,hs⟩:=hs
   refine ⟨(b.base+(off-b.base).toNat,b.pid,b.epoch,(if b.pid>0 then b.seq+(off-b.base).toNat else b.seq),b.kind,b.time,z,()),rfl,trivial,zto _ _ _ _ _ _ _ ?_⟩
   refine zu hs λw' hs=>?_
   refine zi hs ?_
   refine ⟨rfl,.inr ⟨zkj b (off-b.base).toNat,z,by unfold z0u;rw [if_neg h,if_neg h2],rfl,(show Sat w' (slc T.a2 4 z ((b.rs.drop (off-b.base).toNat).flatMap zv)::l) from hs.sub)⟩⟩
end
def z5q (n:Nat):UInt8:=if n<10 then UInt8.ofNat (48+n) else UInt8.ofNat (87+n)
def z6f (c:UInt8):Option Nat:=if 48<=c.toNat/\c.toNat<=57 then some (c.toNat-48) else if 97<=c.toNat/\c.toNat<=102 then some (c.toNat-87) else none
theorem z06j {n:Nat} (h:n<16):z6f (z5q n)=some n:=by
 unfold z5q z6f
 split
 ·rw [UInt8.toNat_ofNat',if_pos (by omega)]
  congr 1;omega
 ·rw [UInt8.toNat_ofNat',if_neg (by omega),if_pos (by omega)]
  congr 1;omega
theorem z06i {c:UInt8} {n:Nat} (h:z6f c=some n):z5q n=c/\n<16:=by
 unfold z6f at h
 unfold z5q
 split at h
 ·simp only [Option.some.injEq] at h
  subst h
  rw [if_pos (by omega)]
  exact ⟨UInt8.toNat_inj.1 (by rw [UInt8.toNat_ofNat'];omega),by omega⟩
 ·split at h
  ·simp only [Option.some.injEq] at h
   subst h
   rw [if_neg (by omega)]
   exact ⟨UInt8.toNat_inj.1 (by rw [UInt8.toNat_ofNat'];omega),by omega⟩
  ·cases h
def z2u:Nat->Nat->List UInt8
 | 0,_=>[]
 | k+1,n=>z2u k (n / 16)++[z5q (n % 16)]
def z3v (x:Nat):List UInt8->Option Nat
 | []=>some x
 | c::r=>match z6f c with
  | none=>none
  | some d=>z3v (16*x+d) r
theorem z6g:∀ (k n:Nat),(z2u k n).length=k
 | 0,_=>rfl
 | k+1,n=>by unfold z2u;rw [List.length_append,z6g k];rfl
theorem zft (x:Nat) (a b:List UInt8):z3v x (a++b)=(z3v x a).bind λy=>z3v y b:=by
 induction a generalizing x with
 | nil=>rfl
 | cons c r ih =>
  rw [List.cons_append]
  cases hd:z6f c with
  | none=>simp only [z3v,hd];rfl
  | some d=>simp only [z3v,hd];exact ih _
theorem zgv:∀ (k n x:Nat),z3v x (z2u k n)=some (x*16 ^ k+n % 16 ^ k)
 | 0,n,x=>by simp [z2u,z3v,Nat.mod_one]
 | k+1,n,x=>by
  unfold z2u
  rw [zft,zgv k]
  show z3v _ [z5q (n % 16)]=_
  unfold z3v
  rw [z06j (Nat.mod_lt _ (by omega))]
  show some _=some _
  congr 1
  have h1:n % 16 ^ (k+1)=16*(n / 16 % 16 ^ k)+n % 16:=by
   rw [Nat.pow_succ,Nat.mul_comm (16 ^ k) 16,Nat.mod_mul];omega
  have h2:x*16 ^ (k+1)=16*(x*16 ^ k):=by rw [Nat.pow_succ];ac_rfl
  omega
def zw:List UInt8:=[46,108,111,103]
def z87:List UInt8:=[46,110,101,119]
def zo (pre:ByteArray) (base:Int) (x:List UInt8):ByteArray:=⟨(bl pre++(45::(z2u 11 base.toNat++x))).toArray⟩
def z1f (pre n:ByteArray) (x:List UInt8):Option Nat :=
 if (bl n).length=(bl pre).length+1+11+x.length/\(bl n).drop ((bl pre).length+1+11)=x then z3v 0 (((bl n).drop ((bl pre).length+1)).take 11) else none
def z16 (pre:ByteArray):ByteArray:=⟨(bl pre++[45]).toArray⟩
def zlx (pre n:ByteArray) (x:List UInt8):Option Nat:=if (bl (z16 pre)).isPrefixOf (bl n) then z1f pre n x else none
theorem z68 (pre:ByteArray) (base:Int) (x:List UInt8):bl (zo pre base x)=bl pre++(45::(z2u 11 base.toNat++x)):=zgh _
theorem zdw (pre:ByteArray):bl (z16 pre)=bl pre++[45]:=zgh _
theorem z4r (pre:ByteArray) (base:Int) (x:List UInt8):(bl (z16 pre)).isPrefixOf (bl (zo pre base x))=true:=by
 rw [z68,zdw,List.isPrefixOf_iff_prefix]
 exact ⟨z2u 11 base.toNat++x,by simp⟩
theorem zem (pre:ByteArray) {base:Int} (h:0<=base/\base<17592186044416) (x:List UInt8):z1f pre (zo pre base x) x=some base.toNat:=by
 have hl:=z6g 11 base.toNat
 have e1:(bl (zo pre base x)).drop ((bl pre).length+1)=z2u 11 base.toNat++x:=by
  rw [z68,<- List.drop_drop,List.drop_left]
  rfl
 have e2:(bl (zo pre base x)).drop ((bl pre).length+1+11)=x:=by
  rw [<- List.drop_drop,e1]
  exact List.drop_left' hl
 unfold z1f
 rw [e1,e2,if_pos ⟨by rw [z68];simp [hl];omega,rfl⟩,List.take_left' hl,zgv,Nat.zero_mul,Nat.zero_add,Nat.mod_eq_of_lt (by omega)]
theorem zir {pre n:ByteArray} {x y:List UInt8} {v:Nat} (h:z1f pre n x=some v) (hxy:x≠y):z1f pre n y=none:=by
 unfold z1f at h ⊢
 split at h
 ·rename_i h1
  rw [if_neg]
  rintro ⟨h2,h3⟩
  exact hxy (h1.2.symm.trans h3)
 ·cases h
theorem zby (pre:ByteArray) {base:Int} (h:0<=base/\base<17592186044416) (x:List UInt8):zlx pre (zo pre base x) x=some base.toNat:=by
 unfold zlx
 rw [if_pos (z4r _ _ _),zem pre h]
theorem zzd {pre n:ByteArray} {x y:List UInt8} {v:Nat} (h:zlx pre n x=some v) (hxy:x≠y):zlx pre n y=none:=by
 unfold zlx at h ⊢
 split at h
 ·rename_i hp;rw [if_pos hp];exact zir h hxy
 ·cases h
theorem zwx {pre:ByteArray} {a b:Int} {x y:List UInt8} (ha:0<=a/\a<17592186044416) (hb:0<=b/\b<17592186044416) (h:zo pre a x=zo pre b y):a=b/\x=y:=by
 have h1:=zby pre ha x
 rw [h] at h1
 by_cases hxy:x=y
 ·subst hxy
  rw [zby pre hb] at h1
  simp only [Option.some.injEq] at h1
  exact ⟨by omega,rfl⟩
 ·rw [zzd (zby pre hb y) (λe=>hxy e.symm)] at h1
  cases h1
def z1w (pre:ByteArray):Bool:=decide (1<=pre.size/\pre.size<=8) && (bl pre).all λc=>(97<=c.toNat && c.toNat<=122) || (48<=c.toNat && c.toNat<=57)
theorem z04g {n:Nat} (h:n<16):okC (z5q n)=true:=by
 unfold z5q okC
 split <;> rw [UInt8.toNat_ofNat'] <;> simp <;> omega
theorem zqn:∀ (k n:Nat),(z2u k n).all okC=true
 | 0,_=>rfl
 | k+1,n=>by
  unfold z2u
  rw [List.all_append,zqn k]
  simp [z04g (Nat.mod_lt n (by omega:(16:Nat)>0))]
theorem znh {pre:ByteArray} (h:z1w pre=true) (base:Int) {x:List UInt8} (hx:x.length=4) (hxo:x.all okC=true):z3i (zo pre base x)=true:=by
 unfold z1w at h
 rw [Bool.and_eq_true,decide_eq_true_eq] at h
 have hall:(bl pre).all okC=true:=by
  rw [List.all_eq_true] at h ⊢
  intro c hc
  have:=h.2 c hc
  unfold okC
  rw [this]
  rfl
 have hsz:(zo pre base x).size=pre.size+16:=by
  rw [<- z1d,z68,<- z1d]
  simp [z6g,hx]
 unfold z3i
 rw [hsz,show (zo pre base x).data.toList=_ from z68 pre base x]
 simp [List.all_append,hall,zqn,hxo]
 exact ⟨by decide,by omega⟩
theorem zym {p q n:ByteArray} (hp:z1w p=true) (hq:z1w q=true) (h1:(bl (z16 p)).isPrefixOf (bl n)=true) (h2:(bl (z16 q)).isPrefixOf (bl n)=true):p=q:=by
 have key:∀ (a b:List UInt8),(∀ c ∈ a,c≠45)->(∀ c ∈ b,c≠45)->∀ s t:List UInt8,a++45::s=b++45::t->a=b:=by
  intro a
  induction a with
  | nil =>
   intro b _ hb s t h
   cases b with
   | nil=>rfl
   | cons c cs=>simp at h;exact absurd h.1.symm (hb c (List.mem_cons_self ..))
  | cons c cs ih =>
   intro b ha hb s t h
   cases b with
   | nil=>simp at h;exact absurd h.1 (ha c (List.mem_cons_self ..))
   | cons d ds =>
    simp at h
    rw [h.1,ih ds (λx hx=>ha x (List.mem_cons_of_mem _ hx)) (λx hx=>hb x (List.mem_cons_of_mem _ hx)) s t h.2]
 have no:∀ {p:ByteArray},z1w p=true->∀ c ∈ bl p,c≠45:=λ{p} hp c hc e=>by
  unfold z1w at hp
  rw [Bool.and_eq_true,List.all_eq_true] at hp
  have:=hp.2 c hc
  subst e
  revert this
  decide
 rw [List.isPrefixOf_iff_prefix,zdw] at h1 h2
 obtain ⟨s,hs⟩:=h1
 obtain ⟨t,ht⟩:=h2
 refine zct (key _ _ (no hp) (no hq) s t ?_)
 rw [<- ht] at hs
 simpa using hs
theorem zfz:∀ (a x y:List UInt8),Op.bytesLess (a++x) (a++y)=Op.bytesLess x y
 | [],x,y=>rfl
 | c::a,x,y=>by
  rw [List.cons_append,List.cons_append,Op.bytesLess,zfz a]
  simp
theorem zdc:∀ (a b x y:List UInt8),a.length=b.length->(Op.bytesLess (a++x) (b++y)=true↔Op.bytesLess a b=true\/(a=b/\Op.bytesLess x y=true))
 | [],[],x,y,_=>by simp [Op.bytesLess]
 | c::a,d::b,x,y,h=>by
  rw [List.cons_append,List.cons_append,Op.bytesLess,Op.bytesLess]
  have ih:=zdc a b x y (by simpa using h)
  simp only [Bool.or_eq_true,decide_eq_true_eq,Bool.and_eq_true,beq_iff_eq,List.cons.injEq]
  rw [ih]
  constructor
  ·rintro (h|⟨h,h2|⟨h2,h3⟩⟩)
   ·exact .inl (.inl h)
   ·exact .inl (.inr ⟨h,h2⟩)
   ·exact .inr ⟨⟨h,h2⟩,h3⟩
  ·rintro ((h|⟨h,h2⟩)|⟨⟨h,h2⟩,h3⟩)
   ·exact .inl h
   ·exact .inr ⟨h,.inl h2⟩
   ·exact .inr ⟨h,.inr ⟨h2,h3⟩⟩
theorem z04f {a b:Nat} (ha:a<16) (hb:b<16):(z5q a<z5q b)↔a<b:=by
 rw [UInt8.lt_iff_toNat_lt]
 unfold z5q
 split <;> split <;> rw [UInt8.toNat_ofNat',UInt8.toNat_ofNat'] <;> omega
theorem zjd:∀ (k a b:Nat),a<16 ^ k->b<16 ^ k->(Op.bytesLess (z2u k a) (z2u k b)=true↔a<b)
 | 0,a,b,ha,hb=>by simp at ha hb;subst ha hb;simp [z2u,Op.bytesLess]
 | k+1,a,b,ha,hb=>by
  have h1:a / 16<16 ^ k:=by rw [Nat.pow_succ] at ha;omega
  have h2:b / 16<16 ^ k:=by rw [Nat.pow_succ] at hb;omega
  unfold z2u
  rw [zdc _ _ _ _ (by rw [z6g,z6g]),zjd k _ _ h1 h2]
  have h3:Op.bytesLess [z5q (a % 16)] [z5q (b % 16)]=true↔a % 16<b % 16:=by
   simp only [Op.bytesLess,Bool.or_eq_true,decide_eq_true_eq,Bool.and_eq_true,Bool.false_eq_true,and_false,or_false]
   exact z04f (Nat.mod_lt _ (by omega)) (Nat.mod_lt _ (by omega))
  rw [h3]
  have h4:z2u k (a / 16)=z2u k (b / 16)->a / 16=b / 16:=λh=>by
   have e1:=zgv k (a / 16) 0
   rw [h,zgv] at e1
   simp only [Option.some.injEq] at e1
   rw [Nat.mod_eq_of_lt h1,Nat.mod_eq_of_lt h2] at e1
   omega
  constructor
  ·rintro (h|⟨h,h5⟩)
   ·omega
   ·have:=h4 h;omega
  ·intro h
   by_cases h5:a / 16=b / 16
   ·right;exact ⟨by rw [h5],by omega⟩
   ·left;omega
theorem zwu (pre:ByteArray) {a b:Int} (ha:0<=a/\a<17592186044416) (hb:0<=b/\b<17592186044416) (x:List UInt8):ltS (zo pre a x) (zo pre b x)=true↔a<b:=by
 have e:∀ s:ByteArray,ByteArray.toList s=bl s:=λs=>by rw [ByteArray.toList_eq]
 unfold ltS
 rw [e,e,z68,z68,zfz]
 have e2:∀ y z:List UInt8,Op.bytesLess (45::y) (45::z)=Op.bytesLess y z:=zfz [45]
 rw [e2,zdc _ _ _ _ (by rw [z6g,z6g]),zjd 11 _ _ (by omega) (by omega),zav]
 constructor
 ·rintro (h|⟨-,h⟩)
  ·omega
  ·cases h
 ·intro h;left;omega
end Go.Dec
namespace Go.Proofs.YtgpcickgjngglaaGreat
open Go.RowKit Go.Maps Go.Sort Go.Proofs
set_option maxRecDepth 100000 in
set_option maxHeartbeats 1000000 in
theorem zz6 {H:Type} (F:Fence) (n:Nat) (h10:F.fn 324) (hro:F.round=none) (hn:1<=n) (l Bm b nn:Nat) (D0:DataW H) {R:Value->Option (DataW H × List MemPlace)} (J Jx:List (List UInt8)->World->Prop)
  (hY:∀ pre x W,J pre W->pre.length<Maps.size D0->YieldAt F (n-1) Tryz.prog l #[encStr x] W λe W'=>(e=.returned (.bool true)/\J (pre++[x]) W'/\KeepsWalks W W')\/(e=.returned (.bool false)/\Jx (pre++[x]) W'))
  (W:World) (hJ:AbidesFrom W.heap.size J) (hm:W.cell? ⟨Bm,0,none⟩=some (.map (some b))) (hown:W.ownsMap Tryz.prog 9 R b nn D0) (h0:J [] W) :
  CallsIn F n Tryz.prog 324 #[.func (.yield l) #[] #[],.pointer (some ⟨Bm,0,none⟩)] W λe W'=>(∃ v,e=.returned v)/\((∃ ss:List (List UInt8),ss.Perm (strKeys D0)/\J ss W')\/(∃ pre,True/\Jx pre W')):=by
 refine callsIn_of_wp Tryz.func324 rfl h10 ?_ hro
 simp only [Tryz.ntmps324,List.size_toArray,List.length_cons,List.length_nil,Nat.reduceAdd,Nat.reduceSub,Array.replicate_succ,Array.replicate_zero,List.push_toArray,List.append_toArray,List.nil_append,List.cons_append]
 gi_wp2_with (first
  | (gi_at_range;refine wpListIn_range_own _ rfl _ 139 rfl 9 277 (string_keyed Tryz.underlying9) Tryz.underlying139 _ b nn _ rfl hown ?_;intro w0 hrg0 hg0 hs0)
  | gi_in)
 go_frame
 gi_loopw [3] (λ_ wr=>∃ (left:Lit->Bool) (cnt:Nat) (ss:List (List UInt8)),wr.ranges Tryz.prog 9 R b W.heap.size nn D0 left cnt/\ss.length+cnt<=Maps.size D0/\Collected D0 left ss/\J ss wr)
  (λ_ wr=>wr.rangeLeft b W.heap.size)
 case atStart =>
  exact ⟨_,_,[],hrg0,by simp,Collected.start D0,hJ [] W w0 none h0 hg0 (λr e=>by cases e)⟩
 case round =>
  obtain ⟨left,cnt,ss,hrg,hcs,hC,hJs⟩:=hrel
  gi_wp2_with (first
   | (gi_at_next;refine wpListIn_next_ranges _ rfl _ rfl 9 (string_keyed Tryz.underlying9) R encStr id (λkey kl hk=>by obtain ⟨x,hx,_⟩:=Maps.keyOf_str Tryz.underlying9 hk;exact ⟨x,hx⟩) (λv _ _=>⟨v,rfl⟩) b W.heap.size nn _ _ _ rfl hrg ?_ ?_)
   | gi_in)
  ·intro hc0 hl0
   gi_wp2
   go_end0
   exact ⟨⟨_,rfl⟩,.inl ⟨ss,hC.perm hown (string_keyed Tryz.underlying9) Tryz.underlying9 hl0,hJs⟩⟩
  ·intro x c kl yd yp w2 cnt2 hkey hlk hv hat hrg2 hlt hg2 hs2 hen
   obtain ⟨x',ex,rfl,_⟩:=Maps.keyOf_str Tryz.underlying9 hkey
   obtain rfl:x=x':=encStr_inj ex
   have hJ2:J ss w2:=hJ ss wr w2 (some W.heap.size) hJs hg2 (λr e=>by cases e;exact ⟨Nat.le_refl _,hrg.iter_walk⟩)
   obtain ⟨fn,tmps,assign,body,hy,hR⟩:=hY ss x w2 hJ2 (by omega)
   clear hs2
   gi_wp2
   refine hR.mono ?_
   rintro e W3 (⟨rfl,hJ3,hk3⟩|⟨rfl,hJx3⟩)
   ·gi_wp2
    have hrg3:=hrg2.of_walks hk3
    go_roundw
    case rel=>exact ⟨_,cnt2,ss++[x],hrg3,by simp;omega,hC.step hlk hat,hJ3⟩
    case measure=>rw [hrg3.left_eq,hrg.left_eq];exact hlt
   ·gi_wp2
    refine bodyPost_ret (results_none rfl _ _ _) rfl ?_
    exact ⟨⟨_,rfl⟩,.inr ⟨ss++[x],trivial,hJx3⟩⟩
theorem z04m (mb:Option Nat) (w:World) :
  Calls Tryz.prog 292 #[.map mb] w λe w'=>e=.returned (.func (.func 324) #[] #[.pointer (some ⟨w.heap.size,0,none⟩)])/\w'=w.alloc (.cells #[.map mb] 139):=by
 refine Calls.mono (Dec.zf85_calls mb (w:=w) (R:=λvs w'=>vs=[.func (.func 324) #[] #[.pointer (some ⟨w.heap.size,0,none⟩)]]/\w'=w.alloc (.cells #[.map mb] 139)) ?_) λe w' ⟨vs,he,hv,hw⟩=>⟨by rw [he,hv];rfl,hw⟩
 unfold Dec.zf85
 refine ⟨(⟨w.heap.size,0,none⟩,()),w.alloc (.cells #[.map mb] 139),?_,trivial,?_⟩
 ·simp only [Instr.box,Sem.run_bind,Dec.run_newVar,Result.andThen_ok,Sem.run_pure];rfl
 ·exact ⟨rfl,rfl,rfl⟩
def preF (p s:ByteArray):Bool:=p.toList.isPrefixOf s.toList
theorem z072 (s p:ByteArray):(decide (((ByteArray.size s:Nat):Int)>=((ByteArray.size p:Nat):Int)) && ByteArray.toList (ByteArray.extract s 0 (Int.toNat (((ByteArray.size p:Nat):Int)))) == ByteArray.toList p)=preF p s:=by
 unfold preF
 rw [Int.toNat_natCast,ByteArray.toList_eq,ByteArray.toList_eq,ByteArray.toList_eq]
 have e1:(ByteArray.extract s 0 p.size).data.toList=s.data.toList.take p.size:=by simp [ByteArray.data_extract]
 have e2:p.size=p.data.toList.length:=by simp
 rw [e1,Bool.eq_iff_iff,Bool.and_eq_true,decide_eq_true_eq,beq_iff_eq,List.isPrefixOf_iff_prefix]
 constructor
 ·rintro ⟨-,h⟩
  rw [<- h];exact List.take_prefix _ _
 ·intro h
  have hl:=h.length_le
  refine ⟨?_,?_⟩
  ·have:s.size=s.data.toList.length:=by simp
   omega
  ·rw [e2];exact (List.prefix_iff_eq_take.1 h).symm
theorem z000 (s p:ByteArray) (w:World):Calls Tryz.prog 293 #[.string s,.string p] w λe w'=>e=.returned (.bool (preF p s))/\w'=w:=by
 refine Calls.mono (Dec.zf189_calls s p (w:=w) (R:=λvs w'=>vs=[.bool (preF p s)]/\w'=w) ?_) λe w' ⟨vs,he,hv,hw⟩=>⟨by rw [he,hv];rfl,hw⟩
 unfold Dec.zf189
 refine Dec.wp_callS (preF p s,()) (Dec.zf57_calls s p (R:=λvs w'=>vs=[.bool (preF p s)]/\w'=w) ?_) rfl λw' hw=>⟨trivial,?_⟩
 ·unfold Dec.zf57
  refine Dec.wp_must (λh=>?_) (Dec.wp_lt ⟨rfl,by rw [z072],rfl⟩)
  have h:=of_decide_eq_true h
  omega
 ·exact Dec.wp_lt ⟨rfl,rfl,hw⟩
end Go.Proofs.YtgpcickgjngglaaGreat
namespace Go.Proofs.YtgpcickgjngglaaGreat
open Go.RowKit Go.Maps Go.Sort Go.Proofs Go.Shelf
attribute [local go_sem] Oper.semAt_some
def z5b (p:ByteArray) (ss:List (List UInt8)):List (List UInt8):=ss.filter λx=>preF p ⟨x.toArray⟩
theorem z04z (p:ByteArray) (pre:List (List UInt8)) {x:List UInt8} (h:preF p ⟨x.toArray⟩=true):z5b p (pre++[x])=z5b p pre++[x]:=by simp [z5b,h]
theorem zzx (p:ByteArray) (pre:List (List UInt8)) {x:List UInt8} (h:¬ preF p ⟨x.toArray⟩=true):z5b p (pre++[x])=z5b p pre:=by simp [z5b,h]
theorem z09x:(Tryz.prog.info? 9).map (λi=>(i.zero,i.size,i.bytes))=some (some (.string ByteArray.empty),1,16):=by kernel_rfl
set_option maxRecDepth 100000 in
set_option maxHeartbeats 2000000 in
theorem zzg      {H : Type} (n : Nat) (hn : 3 ≤ n) (d b nn : Nat) (p : ByteArray) (w : World) (D0 : DataW H) {R : Value → Option (DataW H × List MemPlace)} (hown : w.ownsMap Tryz.prog 9 R b nn D0) (hd : d < w.heap.size)
    (hc : w.cell? ⟨d, 4, none⟩ = some (.map (some b))) (hmax : Maps.size D0 ≤ 1000) (fin : Value → World → Prop)
    (hsort : ∀ (D : Nat) (ss : List (List UInt8)) (v : Value) (W : World), w.heap.size + 2 ≤ D → ss.Perm (strKeys D0) → Boxed W (w.heap.size + 1) 108 v → W.ownsRow (w.heap.size + 1) 9 1 v (z5b  p ss).length ((z5b  p ss).map encStr) → Below w.heap.size w W →
      W.heap[D]? = some (.deferred (some [])) → CallsIn Fence.wide (n - 1) Tryz.prog 294 #[v] W fun e W' => e = .returned (.tuple #[]) ∧ W'.cell? ⟨w.heap.size + 1, 0, none⟩ = some v ∧ W'.heap[D]? = some (.deferred (some [])) ∧ fin v (W'.putObj D (.deferred none))) :
    CallsIn Fence.wide n Tryz.prog 241 #[.pointer (some ⟨d, 0, none⟩), .string p] w fun e W' => ∃ v, e = .returned v ∧ fin v W' := by
  have h1 : 1 ≤ n := by omega
  obtain ⟨i0, hi, hz0, hz1, hz2⟩ := info_parts z09x 
  have hbl := hown.lt
  have hc2 : ((w.alloc (.cells #[.string p] 9)).alloc (.cells #[.slice none 0 0] 108)).cell? ⟨d, 4, none⟩ = some (.map (some b)) := by
    rw [World.cell?_alloc_past _ _ _ (by simp; omega), World.cell?_alloc_past _ _ _ hd]; exact hc
  refine callsIn_of_wp_marks Tryz.func241 rfl trivial ?_ rfl
  simp only [Tryz.ntmps241, List.size_toArray, List.length_cons, List.length_nil, Nat.reduceAdd, Nat.reduceSub, Array.replicate_succ, Array.replicate_zero, List.push_toArray, List.append_toArray, List.nil_append, List.cons_append]
  gi_wp2_with (refine ⟨trivial, ?_⟩; gi_at_call 292; refine (callsIn_wide.2 (z04m    _ _)).mono ?_; rintro e w' ⟨rfl, rfl⟩)
  have bP := Boxed.new w 9 (.string p)
  have bO := Boxed.new (w.alloc (.cells #[.string p] 9)) 108 (.slice none 0 0)
  have bM := Boxed.new ((w.alloc (.cells #[.string p] 9)).alloc (.cells #[.slice none 0 0] 108)) 139 (.map (some b))
  rw [World.size_alloc] at bO bM
  rw [World.size_alloc] at bM
  have hB0 : Below w.heap.size w (((w.alloc (.cells #[.string p] 9)).alloc (.cells #[.slice none 0 0] 108)).alloc (.cells #[.map (some b)] 139)) := (((Below.refl _ w).alloc (Nat.le_refl _) _).alloc (by simp) _).alloc (by simp; omega) _
  have hown0 : (((w.alloc (.cells #[.string p] 9)).alloc (.cells #[.slice none 0 0] 108)).alloc (.cells #[.map (some b)] 139)).ownsMap Tryz.prog 9 R b nn D0 := by
    obtain ⟨es, clock, hb, Ft, hs, hD⟩ := hown
    exact ⟨es, clock, (hB0.block b hbl).trans hb, Ft, hs, hD⟩
  have hseq : SeqStops Fence.wide (n - 1) Tryz.prog 324 #[.pointer (some ⟨w.heap.size + 1 + 1, 0, none⟩)] encStr (fun ss => ss.Perm (strKeys D0)) (fun _ => True) (Maps.size D0) (((w.alloc (.cells #[.string p] 9)).alloc (.cells #[.slice none 0 0] 108)).alloc (.cells #[.map (some b)] 139)) := fun l J Jx W hW hJ hJx hY h0 => by
    have hown' : W.ownsMap Tryz.prog 9 R b nn D0 := by
      obtain ⟨es, clock, hb, Ft, hs, hD⟩ := hown0
      exact ⟨es, clock, (hW.block b (by simp; omega)).trans hb, Ft, hs, hD⟩
    exact zz6      Fence.wide (n - 1) trivial rfl (by omega) l (w.heap.size + 1 + 1) b nn D0 J Jx hY W hJ ((hW.cell (p := ⟨w.heap.size + 1 + 1, 0, none⟩) (by simp)).trans bM.cell) hown' h0
  refine wpIn_rangeFunc_ownG rfl h1 (gf := 324) (lb := #[.pointer (some ⟨w.heap.size + 1 + 1, 0, none⟩)]) rfl trivial (enters_of Tryz.func324 (by kernel_rfl) rfl)
    (encs := fun x => #[encStr x]) (Kp := KeepsWalks) (S := fun ss => ss.Perm (strKeys D0)) (Sp := fun _ => True) (N := Maps.size D0) hseq walksK_t (fun W l o o' _ h _ hw => KeepsWalks.putObj _ h hw) (Below.refl _ _) (fun _ => rfl)
    (fun pre W => ((∃ v, Boxed W (w.heap.size + 1) 108 v ∧ W.ownsRow (w.heap.size + 1) 9 1 v (z5b  p pre).length ((z5b  p pre).map encStr) ∧ True) ∧ Boxed W w.heap.size 9 (.string p)) ∧ Below w.heap.size w W)
    (fun _ _ _ => False)
    (OwnFrom.and (OwnFrom.and (Own.from (holdsRow_own (w.heap.size + 1) (w.heap.size + 1) 108 9 1 (fun pre => (z5b  p pre).length) (fun pre => (z5b  p pre).map encStr) (fun _ _ => True)) _) (Own.from (boxed_own w.heap.size 9 (fun _ => .string p)) _)) (ownFrom_below (Nat.le_refl _) (by simp; omega)))
    (fun _ _ _ _ _ hs _ _ => hs)
    ⟨⟨⟨_, bO.alloc _, World.ownsRow_nil _ _ _ _, trivial⟩, (bP.alloc _).alloc _⟩, hB0⟩
    (fun x => { tmps := #[Value.pointer (some { block := d, off := 0 }), Value.string p, undef,
                Value.pointer (some { block := w.heap.size, off := 0 }), Value.slice none 0 0,
                Value.pointer (some { block := w.heap.size + 1, off := 0 }), encStr x,
                Value.pointer (some { block := d, off := 0 }), Value.bool false,
                Value.pointer (some { block := d, off := 0 }), Value.pointer (some { block := d, off := 0 }),
                Value.pointer (some { block := d, off := 4 }), Value.map (some b), .func (.func 324) #[] #[.pointer (some ⟨w.heap.size + 1 + 1, 0, none⟩)], encStr x, undef, undef, undef, undef, undef,
                undef, undef, undef, undef, undef], defers := [] }) ?assign ?body ?done ?stop
  case assign =>
    intro l x W K hK
    gi_wp2
    exact hK
  case body =>
    rintro l pre x W ⟨⟨⟨v, hv, hrow, -⟩, hbp⟩, hB⟩ hlt
    have hcv := hv.cell
    have hcp := hbp.cell
    have hpl : (z5b  p pre).length ≤ pre.length := List.length_filter_le _ _
    have hml : 1000 ≤ maxLen := by decide
    have hvl := hv.lt
    gi_wp2_with (first
      | (refine ⟨trivial, fun _ => by omega, ?_⟩; gi_at_call 293; refine (CallsIn.inRound l (callsIn_wide.2 (z000     ⟨x.toArray⟩ p W))).mono ?_; rintro e w' ⟨rfl, he⟩; have he := he.symm; subst he)
      | (gi_at_builtin; refine wpListIn_append_own _ rfl _ _ 108 rfl (w.heap.size + 1) 9 i0 (.string ByteArray.empty) 1 16 Tryz.underlying108 hi hz0 hz1 hz2 rfl (by decide) _ _ _ rfl (hrow.alloc _) ⟨W.heap.size, 0, none⟩ 1 1 [encStr x] rfl rfl (cell_one_new _ _ _) (by simp [Value.oneCell', encStr]) (by omega) (by omega) (by simp; omega) ?_; intro v' w1 hown' hgrow _; obtain ⟨g', cap', rfl⟩ := ownsRow_succ hown'; obtain ⟨hv1, hv2, hr2, hk2, hb2⟩ := hv.appended (by decide) hrow (by omega) (by omega) hown' hgrow; have hc1 := hv1.cell; have hf1 := hv1.frozen))
    · have hx : preF p ⟨x.toArray⟩ = true := by assumption
      exact ⟨hk2.from _, hk2.walks, ⟨⟨⟨_, hv2, by rw [z04z    p pre hx]; simpa using hr2, trivial⟩, (hb2.block w.heap.size (by omega)).trans hbp⟩, hB.trans (hb2.mono (by omega))⟩⟩
    · have hx : ¬ preF p ⟨x.toArray⟩ = true := by rename_i hx; rw [hx]; simp
      exact ⟨KeepsFrom.refl _ _, (KeepsOthers.refl _).walks, ⟨⟨⟨v, hv, by rw [zzx      p pre hx]; exact hrow, trivial⟩, hbp⟩, hB⟩⟩
  case done =>
    rintro D ys W hD hS ⟨⟨⟨v, hv, hrow, -⟩, hbp⟩, hB⟩ hK
    have hcv := hv.cell
    have hvl := hv.lt
    have hD2 : w.heap.size + 2 ≤ D := by simp at hD; omega
    gi_wp2_with (refine ⟨trivial, ?_⟩; gi_at_call 294; refine (hsort D ys v W hD2 hS hv hrow hB hK).mono ?_; rintro e w' ⟨rfl, hc1, hK1, hfin⟩)
    refine ⟨by simp, .inl ⟨_, _, rfl, run_takeDeferred hK1, ?_⟩⟩
    exact ⟨_, results_tmp rfl _ _ _, v, rfl, hfin⟩
  case stop =>
    rintro D c pre W _ _ h _
    exact h.elim
end Go.Proofs.YtgpcickgjngglaaGreat
namespace Go.Dec
open Go.Shelf Go.Proofs
def z0ag:Ren:=⟨fun|190=>294|125=>166|258=>326|128=>238|129=>239|302=>352|303=>353|304=>354|305=>355|306=>356|307=>357|308=>358|309=>359|310=>360|333=>370|329=>287|330=>288|334=>371|335=>372|336=>373|344=>384|n=>n,fun|31=>108|9=>9|3=>3|46=>237|0=>0|51=>342|53=>157|4=>4|183=>335|182=>334|131=>249|5=>5|218=>391|222=>394|228=>426|229=>427|n=>n,λn=>n⟩
theorem z015:Lays.n190 P z0ag where
 mixed:=by kernel_rfl
 f125:=Tryz.func166.trans (congrArg some (by kernel_rfl))
 f128:=Tryz.func238.trans (congrArg some (by kernel_rfl))
 f129:=Tryz.func239.trans (congrArg some (by kernel_rfl))
 f190:=Tryz.func294.trans (congrArg some (by kernel_rfl))
 f258:=Tryz.func326.trans (congrArg some (by kernel_rfl))
 f302:=Tryz.func352.trans (congrArg some (by kernel_rfl))
 f303:=Tryz.func353.trans (congrArg some (by kernel_rfl))
 f304:=Tryz.func354.trans (congrArg some (by kernel_rfl))
 f305:=Tryz.func355.trans (congrArg some (by kernel_rfl))
 f306:=Tryz.func356.trans (congrArg some (by kernel_rfl))
 f307:=Tryz.func357.trans (congrArg some (by kernel_rfl))
 f308:=Tryz.func358.trans (congrArg some (by kernel_rfl))
 f309:=Tryz.func359.trans (congrArg some (by kernel_rfl))
 f310:=Tryz.func360.trans (congrArg some (by kernel_rfl))
 f329:=Tryz.func287.trans (congrArg some (by kernel_rfl))
 f330:=Tryz.func288.trans (congrArg some (by kernel_rfl))
 f333:=Tryz.func370.trans (congrArg some (by kernel_rfl))
 f334:=Tryz.func371.trans (congrArg some (by kernel_rfl))
 f335:=Tryz.func372.trans (congrArg some (by kernel_rfl))
 f336:=Tryz.func373.trans (congrArg some (by kernel_rfl))
 f344:=Tryz.func384.trans (congrArg some (by kernel_rfl))
 t0:=Tryz.underlying0
 a0:=Tryz.isAgg0
 z0:=Tryz.sizeOf0
 v0:=Tryz.zeroValue0
 t3:=Tryz.underlying3
 a3:=Tryz.isAgg3
 z3:=Tryz.sizeOf3
 v3:=Tryz.zeroValue3
 t4:=Tryz.underlying4
 a4:=Tryz.isAgg4
 z4:=Tryz.sizeOf4
 v4:=Tryz.zeroValue4
 t5:=Tryz.underlying5
 a5:=Tryz.isAgg5
 z5:=Tryz.sizeOf5
 v5:=Tryz.zeroValue5
 t9:=Tryz.underlying9
 a9:=Tryz.isAgg9
 z9:=Tryz.sizeOf9
 v9:=Tryz.zeroValue9
 t31:=Tryz.underlying108
 a31:=Tryz.isAgg108
 z31:=Tryz.sizeOf108
 v31:=Tryz.zeroValue108
 t46:=Tryz.underlying237
 a46:=Tryz.isAgg237
 z46:=Tryz.sizeOf237
 v46:=Tryz.zeroValue237
 t51:=Tryz.underlying342
 a51:=Tryz.isAgg342
 z51:=Tryz.sizeOf342
 v51:=Tryz.zeroValue342
 t53:=Tryz.underlying157
 a53:=Tryz.isAgg157
 z53:=Tryz.sizeOf157
 v53:=Tryz.zeroValue157
 t131:=Tryz.underlying249
 a131:=Tryz.isAgg249
 z131:=Tryz.sizeOf249
 v131:=Tryz.zeroValue249
 t182:=Tryz.underlying334
 a182:=Tryz.isAgg334
 z182:=Tryz.sizeOf334
 v182:=Tryz.zeroValue334
 t183:=Tryz.underlying335
 a183:=Tryz.isAgg335
 z183:=Tryz.sizeOf335
 v183:=Tryz.zeroValue335
 t218:=Tryz.underlying391
 a218:=Tryz.isAgg391
 z218:=Tryz.sizeOf391
 v218:=Tryz.zeroValue391
 t222:=Tryz.underlying394
 a222:=Tryz.isAgg394
 z222:=Tryz.sizeOf394
 v222:=Tryz.zeroValue394
 t228:=Tryz.underlying426
 a228:=Tryz.isAgg426
 z228:=Tryz.sizeOf426
 v228:=Tryz.zeroValue426
 t229:=Tryz.underlying427
 a229:=Tryz.isAgg427
 z229:=Tryz.sizeOf427
 v229:=Tryz.zeroValue427
theorem zqt:∀ x y:List UInt8,Op.bytesLess x y=true↔x<y
 | [],[]=>by simp [Op.bytesLess]
 | [],y::ys=>by simp [Op.bytesLess]
 | x::xs,[]=>by simp [Op.bytesLess]
 | x::xs,y::ys=>by
  rw [Op.bytesLess,List.cons_lt_cons_iff,<- zqt xs ys]
  simp
def toK (s:ByteArray):List UInt8:=s.data.toList
def ofK (x:List UInt8):ByteArray:=⟨x.toArray⟩
theorem z06v (s:ByteArray):ofK (toK s)=s:=by unfold ofK toK;simp
theorem zlw (s:ByteArray):ByteArray.toList s=toK s:=ByteArray.toList_eq s
theorem z043 (s:ByteArray):encStr (toK s)=.string s:=by unfold encStr toK;simp
section
variable {w:World} {l:List HP}
theorem z00d {w':World} {os:Array Obj} (h:Sat w l) (he:w'.heap=w.heap++os) (h2:w'.os=w.os) (h3:w'.output=w.output):Sat w' l:=by
 refine z9u ⟨λb o hb=>?_,?_⟩ h
 ·have hb:w.heap[b]? = some o:=hb
  show w'.heap[b]? = some o
  rw [he,Array.getElem?_append_left (Array.getElem?_eq_some_iff.1 hb).1]
  exact hb
 ·show World.env' w=World.env' w'
  unfold World.env';rw [h2,h3]
theorem zkf (x:Sl) (xs:List ByteArray) (h63:xs.length<4611686018427387904) (hs:Sat w (slc T.a50 1 x (xs.flatMap z1i)::l)) :
  Ret P F.a149 #[x.v] w λvs w'=>vs=[]/\∃ ys:List ByteArray,ys.Perm xs/\ys.Pairwise (λa b=>Op.bytesLess (ByteArray.toList b) (ByteArray.toList a)=false)/\Sat w' (slc T.a50 1 x (ys.flatMap z1i)::l):=by
 have hl:x.len=xs.length:=hs.rd.len (enc:=z1i) (λ_=>rfl) (by decide)
 obtain ⟨xa,xl,xc⟩:=x
 simp only at hl
 subst hl
 by_cases h0:xs.length=0
 ·have e:xs=[]:=List.length_eq_zero_iff.1 h0
  subst e
  refine Calls.mono (Any.slices_Sort_string_none z015 xa xc w) λe w' h=>?_
  obtain ⟨he,hw⟩:=h
  subst hw
  exact ⟨[],he,rfl,[],.refl _,.nil,hs⟩
 have hnd:=hs
 obtain ⟨p1,p2,h1,h2,hd,hA,hl⟩:=hnd
 rcases hA with ⟨ha,hl0,hc0,-⟩|⟨b,off,arr,fr,ha,hb,hlen,hle,hsz,hcs,hf⟩
 ·exact absurd hl0 h0
 have ha:xa=some ⟨b,off,none⟩:=ha
 subst ha
 have hle:xs.length<=xc:=hle
 have hsz:off+xc*1<=arr.size:=hsz
 have hP:Sat w (pt b (.cells arr T.a50 fr)::l):=⟨p1,p2,h1,h2,hd,hb,hl⟩
 have z5r:=hP.get
 have hblt:b<w.heap.size:=(Array.getElem?_eq_some_iff.1 z5r).1
 have henc:∀ (zs:List ByteArray) (i:Nat),(zs.flatMap z1i)[i]? = (zs[i]?).map λs=>.string s:=λzs i=>by
  have:zs.flatMap z1i=zs.map λs=>Value.string s:=by
   induction zs with
   | nil=>rfl
   | cons z zs ih=>rw [List.flatMap_cons,List.map_cons,ih];rfl
  rw [this,List.getElem?_map]
 have hH:Go.Sort.Holds encStr w b off (xs.map toK).toArray:=λj hj=>by
  have hj:j<xs.length:=by simpa using hj
  have h3:=hcs j (by rw [hlen];show j<xs.length*1;omega)
  rw [henc,List.getElem?_eq_getElem hj] at h3
  have h4:((xs.map toK).toArray)[j]! = toK xs[j]:=by
   rw [getElem!_pos _ j (by simpa using hj)];simp
  refine ⟨?_,?_⟩
  ·rw [h4,z043]
   unfold World.cell?
   rw [z5r]
   exact h3
  ·rw [zd4,z5r]
   have:=hf (off+j) (by omega) (by show off+j<off+xc*1;omega)
   simp only [zsm]
   rw [Bool.and_eq_false_iff]
   by_cases hq:fr.1<=off+j
   ·right;exact decide_eq_false λh=>this ⟨hq,h⟩
   ·left;exact decide_eq_false hq
 have hll:(xs.map toK).length=xs.length:=List.length_map ..
 have hc:=Any.slices_Sort_string z015 b off xc (xs.map toK) w hH hblt (by rw [hll];exact h63)
 rw [hll] at hc
 refine Calls.mono hc λe w' h=>?_
 obtain ⟨he,n,os,hw⟩:=h
 generalize hmq:(xs.map toK).mergeSort (λx y=>decide (x<=y))=ms at hw
 have hperm:ms.Perm (xs.map toK):=by rw [<- hmq];exact List.mergeSort_perm _ _
 have hpw:ms.Pairwise λx y=>decide (x<=y)=true:=by
  rw [<- hmq]
  refine List.pairwise_mergeSort (λa b c h1 h2=>?_) (λa b=>?_) _
  ·simp only [decide_eq_true_eq] at *;exact List.le_trans h1 h2
  ·simp only [Bool.or_eq_true,decide_eq_true_eq];exact List.le_total a b
 have hml:ms.length=xs.length:=by rw [hperm.length_eq,hll]
 have hofK:(xs.map toK).map ofK=xs:=by
  rw [List.map_map]
  conv=>rhs;rw [<- List.map_id xs]
  exact List.map_congr_left λs _=>z06v s
 refine ⟨[],he,rfl,ms.map ofK,?_,?_,?_⟩
 ·have:=hperm.map ofK
  rwa [hofK] at this
 ·rw [List.pairwise_map]
  refine hpw.imp λ{a c} h=>?_
  have h:a<=c:=of_decide_eq_true h
  rw [zlw,zlw]
  have e:∀ z,toK (ofK z)=z:=λz=>by unfold toK ofK;simp
  rw [e,e]
  cases hq:Op.bytesLess c a with
  | false=>rfl
  | true=>exact absurd h (List.not_le.2 ((zqt c a).1 hq))
 ·have hset:=hP.set (o':=.cells (Go.Sort.putCells encStr off ms.toArray arr) T.a50 fr)
  have hheap:w'.heap=(z39 w b (.cells (Go.Sort.putCells encStr off ms.toArray arr) T.a50 fr)).heap++os:=by
   rw [hw]
   show (w.heap.modify b (Go.Sort.onCells _))++os=w.heap.setIfInBounds b _++os
   congr 1
   apply Array.ext_getElem?
   intro i
   rw [Array.getElem?_modify,Array.getElem?_setIfInBounds]
   by_cases hib:b=i
   ·subst hib
    rw [if_pos rfl,if_pos rfl,z5r,if_pos hblt]
    rfl
   ·rw [if_neg hib,if_neg hib]
  have hs2:=z00d hset hheap (by rw [hw];rfl) (by rw [hw];rfl)
  refine hs2.imp λq hq=>.inr ⟨b,off,_,fr,rfl,hq,?_,hle,?_,λi hi=>?_,hf⟩
  ·show ((ms.map ofK).flatMap z1i).length=xs.length*1
   have:∀ zs:List ByteArray,(zs.flatMap z1i).length=zs.length:=λzs=>by
    induction zs with
    | nil=>rfl
    | cons z zs ih=>rw [List.flatMap_cons,List.length_append,ih];simp [z1i];omega
   rw [this,List.length_map,hml];omega
  ·show off+xc*1<=(Go.Sort.putCells encStr off ms.toArray arr).size
   unfold Go.Sort.putCells
   rw [Array.size_mapIdx];exact hsz
  ·have him:i<ms.length:=by
    have:∀ zs:List ByteArray,(zs.flatMap z1i).length=zs.length:=λzs=>by
     induction zs with
     | nil=>rfl
     | cons z zs ih=>rw [List.flatMap_cons,List.length_append,ih];simp [z1i];omega
    rw [this,List.length_map] at hi;exact hi
   rw [henc,List.getElem?_map,List.getElem?_eq_getElem him]
   unfold Go.Sort.putCells
   rw [Array.getElem?_mapIdx]
   have ha2:off+i<arr.size:=by omega
   rw [Array.getElem?_eq_getElem ha2]
   simp only [Option.map_some]
   rw [if_pos ⟨by omega,by rw [List.size_toArray];omega⟩]
   congr 1
   rw [Nat.add_sub_cancel_left,getElem!_pos _ i (by simpa using him)]
   simp [encStr,ofK]
end
open Go.Proofs Go.Proofs.YtgpcickgjngglaaGreat
def z12 (p:ByteArray) (fs:List FileA):List ByteArray:=(fs.map (·.name)).filter (preF p)
def ze4 (W:World) (X:Nat->Bool):PH:=⟨λb=>if X b then W.heap[b]? else none,World.env' W⟩
section
variable {w W:World} {l:List HP} {X:Nat->Bool}
theorem z00c (hs:Sat w l) (hB:RowKit.Below w.heap.size w W):z7a l (ze4 W λb=>decide (b<w.heap.size)):=by
 refine z9u ⟨λb o h=>?_,?_⟩ hs
 ·have h:w.heap[b]? = some o:=h
  have hlt:b<w.heap.size:=(Array.getElem?_eq_some_iff.1 h).1
  show (if decide (b<w.heap.size)=true then W.heap[b]? else none)=some o
  rw [if_pos (decide_eq_true hlt),hB.block b hlt,h]
 ·show World.env' w=World.env' W
  unfold World.env'
  rw [hB.os,hB.output]
theorem zg5 {b:Nat} {o:Obj} (hs:z7a l (ze4 W X)) (hX:X b=false) (hb:W.heap[b]? = some o):z7a (pt b o::l) (ze4 W λc=>X c || decide (c=b)):=by
 refine ⟨⟨λc=>if c=b then some o else none,World.env' W⟩,ze4 W X,⟨λc u h=>?_,rfl⟩,⟨λc u h=>?_,rfl⟩,λc=>?_,by simp [pt],hs⟩
 ·simp only at h
  split at h
  ·rename_i hc;subst hc
   obtain rfl:=Option.some.inj h
   show (if (X c || decide (c=c))=true then W.heap[c]? else none)=some o
   rw [if_pos (by simp),hb]
  ·cases h
 ·have h:(if X c=true then W.heap[c]? else none)=some u:=h
  split at h
  ·rename_i hc
   show (if (X c || decide (c=b))=true then W.heap[c]? else none)=some u
   rw [if_pos (by rw [hc];rfl),h]
  ·cases h
 ·by_cases hc:c=b
  ·subst hc;right
   show (if X c=true then W.heap[c]? else none)=none
   rw [if_neg (by rw [hX];simp)]
  ·left;simp [hc]
theorem zjw (hs:z7a l (ze4 W X)):Sat W l:=by
 refine z9u (p:=ze4 W X) ⟨λb o h=>?_,rfl⟩ hs
 have h:(if X b=true then W.heap[b]? else none)=some o:=h
 split at h
 ·exact h
 ·cases h
end
theorem zcm:∀ {a b:List ByteArray},a.Perm b->(a.Pairwise λx y=>ltS y x=false)->(b.Pairwise λx y=>ltS x y=true)->a=b
 | a,[],hp,_,_=>hp.eq_nil
 | [],y::b,hp,_,_=>absurd hp.symm.eq_nil (by simp)
 | x::a,y::b,hp,ha,hb=>by
  rw [List.pairwise_cons] at ha hb
  have hxy:x=y:=by
   by_cases h:x=y
   ·exact h
   ·have hx:x ∈ b:=(List.mem_cons.1 (hp.mem_iff.1 (List.mem_cons_self ..))).resolve_left h
    have hy:y ∈ a:=(List.mem_cons.1 (hp.mem_iff.2 (List.mem_cons_self ..))).resolve_left (λe=>h e.symm)
    have h1:=hb.1 x hx
    rw [ha.1 y hy] at h1;cases h1
  subst hxy
  rw [zcm (List.Perm.cons_inv hp) ha.2 hb.2]
def z4h (x:List UInt8):ByteArray:=⟨x.toArray⟩
theorem zwf (xs:List ByteArray):xs.flatMap z1i=xs.map Value.string:=by
 induction xs with
 | nil=>rfl
 | cons x r ih=>rw [List.flatMap_cons,ih];rfl
theorem zib {fs:List FileA} (h:fs.Pairwise λa b=>ltS a.name b.name=true) (p:ByteArray):(z12 p fs).Pairwise λx y=>ltS x y=true:=by
 unfold z12
 refine List.Pairwise.filter _ ?_
 rw [List.pairwise_map];exact h
theorem z04v {w:World} {m:Nat} {es:List (ByteArray × Nat)} {l:List HP} (hs:Sat w (z1e ekS evF m es::l)) (hlen:es.length<=1000) (hn:∀ x ∈ es,x.1.size<=24) :
  ∃ D0:DataW Unit,w.ownsMap Tryz.prog 9 (λ_=>some (.lit (.bool true),[])) m 1000 D0/\Maps.size D0<=1000/\((strKeys D0).map z4h).Perm (es.map Prod.fst):=by
 obtain ⟨E,c,hm,hs⟩:=hs.mapOpen
 have hsz:=hm.size
 obtain ⟨xs,h1,h2,h3,h4,h5⟩:=hm
 have hE:E.size<=1000:=by omega
 have hml:1000<=maxLen:=by decide
 have hkeys:∀ e ∈ E.toList,∃ x ∈ xs,e.key=.string x.1:=λe he=>by
  have:(e.key,e.val) ∈ E.toList.map (λe=>(e.key,e.val)):=List.mem_map.2 ⟨e,he,rfl⟩
  rw [h3] at this
  obtain ⟨x,hx,hxe⟩:=List.mem_map.1 this
  exact ⟨x,hx,(Prod.mk.inj hxe).1.symm⟩
 have hrd:∀ e ∈ E.toList,∀ s,e.key=.string s->WideElems.rd (H:=Unit) Tryz.prog 9 (λ_=>some (.lit (.bool true),[])) e=some (.string s.data.toList,.lit (.bool true)):=λe he s hk=>by
  obtain ⟨x,hx,hxe⟩:=hkeys e he
  rw [hk] at hxe
  obtain rfl:s=x.1:=by cases hxe;rfl
  have h24:=hn x (h1.mem_iff.1 hx)
  have:keyOf Tryz.prog 9 (.string x.1)=some (.string x.1.data.toList):=WideMaps.keyOf_string_mk (by kernel_rfl) (by omega)
  unfold WideElems.rd
  rw [hk,this];rfl
 refine ⟨.map ((E.toList.map (WideElems.rg Tryz.prog 9 λ_=>some (.lit (.bool true),[]))).foldr DataW.insert []),⟨E,c,hs.get,⟨by omega,⟨h5,?_,?_⟩,λe he=>?_⟩,hE,rfl⟩,?_,?_⟩
 ·rw [List.Nodup,List.pairwise_map]
  exact h4.imp λh=>Nat.ne_of_lt h
 ·have hk:E.toList.map (·.key)=xs.map λx=>Value.string x.1:=by
   have:=congrArg (List.map Prod.fst) h3
   rw [List.map_map,List.map_map] at this
   exact this
  rw [hk,List.Nodup,List.pairwise_map]
  rw [List.Nodup,List.pairwise_map] at h2
  exact h2.imp λh e=>h (Value.string.inj e)
 ·obtain ⟨x,hx,hxe⟩:=hkeys e he
  exact ⟨_,hrd e he x.1 hxe⟩
 ·show ((E.toList.map _).foldr DataW.insert []).length<=1000
  rw [length_sorted,List.length_map,Array.length_toList];exact hE
 ·have hp:=(WideShapes.sorted_perm (E.toList.map (WideElems.rg (H:=Unit) Tryz.prog 9 λ_=>some (.lit (.bool true),[])))).map (λp:Lit × DataW Unit=>z4h (Go.strOf p.1))
  have e1:(strKeys (DataW.map ((E.toList.map (WideElems.rg (H:=Unit) Tryz.prog 9 λ_=>some (.lit (.bool true),[]))).foldr DataW.insert []))).map z4h=((E.toList.map (WideElems.rg (H:=Unit) Tryz.prog 9 λ_=>some (.lit (.bool true),[]))).foldr DataW.insert []).map (λp:Lit × DataW Unit=>z4h (Go.strOf p.1)):=by
   simp only [strKeys,List.map_map];rfl
  rw [e1]
  refine hp.trans ?_
  rw [List.map_map]
  have e2:E.toList.map ((λp:Lit × DataW Unit=>z4h (Go.strOf p.1))∘WideElems.rg Tryz.prog 9 λ_=>some (.lit (.bool true),[]))=xs.map Prod.fst:=by
   have h6:E.toList.map (λe=>match e.key with | .string s=>s|_=>⟨#[]⟩)=xs.map Prod.fst:=by
    have:=congrArg (List.map λx:Value × Value=>match x.1 with | .string s=>s|_=>⟨#[]⟩) h3
    rw [List.map_map,List.map_map] at this
    exact this
   rw [<- h6]
   refine List.map_congr_left λe he=>?_
   obtain ⟨x,hx,hxe⟩:=hkeys e he
   show z4h (Go.strOf (WideElems.rg (H:=Unit) Tryz.prog 9 (λ_=>some (.lit (.bool true),[])) e).1)=_
   rw [WideElems.rg_of (hrd e he x.1 hxe),hxe]
   show z4h x.1.data.toList=x.1
   exact zvw rfl
  rw [e2]
  exact h1.map _
section
variable {w:World} {l r:List HP} {d:Nat} {A:DiskA}
theorem zr0 (p:ByteArray) [hf:Fo l dk d A r] (hs:Sat w l):Ret P F.a32 #[.pointer (some ⟨d,0,none⟩),.string p] w λvs w'=>∃ x:Sl,vs=[x.v]/\Sat w' (slc T.a50 1 x ((z12 p A.fs).flatMap z1i)::dk d A::r):=by
 have hs0:=hs.perm hf.perm
 obtain ⟨m,FS,hp,hok,hs1⟩:=z2a hs0
 have hkv:(FS.map λt=>(t.f.name,t.at_)).map Prod.fst=(FS.map FileM.f).map (·.name):=by rw [List.map_map,List.map_map];rfl
 have hlen:(FS.map λt=>(t.f.name,t.at_)).length<=1000:=by
  have:=hp.length_eq;have:=hok.many;simp at *;omega
 obtain ⟨D0,hown,hsz,hkeys⟩:=z04v (hs1.pick [1]) hlen λx hx=>by
  obtain ⟨t,ht,rfl⟩:=List.mem_map.1 hx
  exact hok.names _ (hp.mem_iff.1 (List.mem_map.2 ⟨t,ht,rfl⟩))
 rw [hkv] at hkeys
 have hkeys:=hkeys.trans (hp.map (·.name))
 have hb:=hs1.get
 have hd:d<w.heap.size:=(Array.getElem?_eq_some_iff.1 hb).1
 have hc:w.cell? ⟨d,4,none⟩=some (.map (some m)):=by rw [z32 hb];rfl
 have hfin:=callsIn_wide.1 (zzg (n:=3) (Nat.le_refl _) d m 1000 p w D0 hown hd hc hsz (λv W=>∃ x:Sl,v=x.v/\Sat W (slc T.a50 1 x ((z12 p A.fs).flatMap z1i)::dk d A::r)) ?_)
 ·exact Calls.mono hfin λe w' ⟨v,he,x,hv,hs⟩=>⟨[x.v],by rw [he,hv];rfl,x,rfl,hs⟩
 intro D ss v W hD hS hbox hrow hB hK
 have hsR:=z00c hs0 hB
 have hsR:=zg5 hsR (b:=w.heap.size+1) (by simp) hbox
 have hDB:D≠w.heap.size+1:=by omega
 have hsR:=zg5 hsR (b:=D) (by simp;omega) hK
 have hpS:((z5b p ss).map z4h).Perm (z12 p A.fs):=by
  have h1:=((hS.map z4h).trans hkeys).filter (preF p)
  rw [List.filter_map] at h1
  exact h1
 have hflat:((z5b p ss).map z4h).flatMap z1i=(z5b p ss).map encStr:=by
  rw [zwf,List.map_map];rfl
 have hlen2:((z5b p ss).map z4h).length<576460752303423488:=by
  rw [hpS.length_eq]
  have h1:(z12 p A.fs).length<=A.fs.length:=by unfold z12;exact Nat.le_trans (List.length_filter_le _ _) (by simp)
  have:=hok.many
  omega
 obtain ⟨x,rfl,hsx⟩:∃ x:Sl,v=x.v/\Sat W (slc T.a50 1 x (((z5b p ss).map z4h).flatMap z1i)::pt D (.deferred (some []))::pt (w.heap.size+1) (.cells #[v] 108)::dk d A::r):=by
  rw [hflat]
  obtain ⟨hxl,h|⟨g,cap,cur,rfl,hg,hgb,hcap,-,hcur,htk⟩⟩:=hrow
  ·obtain ⟨rfl,hn0⟩:=h
   have:z5b p ss=[]:=List.length_eq_zero_iff.1 hn0
   rw [this]
   exact ⟨⟨none,0,0⟩,rfl,(zjw hsR).slc_nil⟩
  ·have hgB:g≠w.heap.size+1:=λe=>by
    subst e
    have hbox:W.heap[w.heap.size+1]? = some (.cells #[_] 108 (0,0)):=hbox
    rw [hbox] at hgb
    cases hgb
   have hgD:g≠D:=λe=>by subst e;rw [hK] at hgb;cases hgb
   have hsR:=zjw (zg5 hsR (b:=g) (by simp;omega) hgb)
   refine ⟨⟨some ⟨g,0,none⟩,(z5b p ss).length,cap⟩,rfl,hsR.imp λq hq=>.inr ⟨g,0,cur,(0,0),rfl,hq,by simp,hcap,by simp [hcur],λi hi=>?_,z2n _ _⟩⟩
   rw [<- htk,List.length_take] at hi
   rw [<- htk,Nat.zero_add,List.getElem?_take,if_pos (by omega)]
   simp
 refine callsIn_wide.2 (Calls.mono (zkf x _ (Nat.lt_trans hlen2 (by omega)) hsx) ?_)
 rintro e w' ⟨vs,rfl,rfl,ys,hys,hso,hs'⟩
 have hB1:=(hs'.pick [2]).get
 have hD1:=(hs'.pick [1]).get
 refine ⟨rfl,by rw [z32 hB1];rfl,hD1,x,rfl,?_⟩
 have hset:Sat (z39 w' D (.deferred none)) _:=(hs'.pick [1]).set (o':=.deferred none)
 rw [zcm (hys.trans hpS) hso (zib hok.sorted p)] at hset
 exact hset.sub
end
def zfl (x:Sl):List Value:=[x.v]
instance:Enc1 zfl .slc (λx=>x):=⟨λ_=>rfl⟩
instance:EncN zfl 1:=⟨λ_=>rfl,by decide,by simp [zfl,Value.oneCell']⟩
def za3 (l:List HP):List Sl->List (List UInt8)->Prop
 | [],[]=>True
 | x::xs,b::bs=>(∀ w,Sat w l->Rd w 1 x (b.flatMap zj))/\za3 l xs bs
 | _,_=>False
theorem za3.length {l:List HP}:∀ {xs:List Sl} {bs:List (List UInt8)},za3 l xs bs->xs.length=bs.length
 | [],[],_=>rfl
 | _::_,_::_,h=>by rw [List.length_cons,List.length_cons,h.2.length]
theorem za3.get {l:List HP}:∀ {xs:List Sl} {bs:List (List UInt8)} (h:za3 l xs bs) (i:Nat) (h1:i<xs.length) (h2:i<bs.length),∀ w,Sat w l->Rd w 1 xs[i] (bs[i].flatMap zj)
 | _::_,_::_,h,0,_,_=>h.1
 | _::_,_::_,h,i+1,h1,h2=>h.2.get i (by simpa using h1) (by simpa using h2)
theorem z3p {bs:List (List UInt8)} {i:Nat} (hi:i<bs.length):(bs.take (i+1)).flatten=(bs.take i).flatten++bs[i]:=by
 rw [List.take_add_one,List.getElem?_eq_getElem hi,List.flatten_append];simp
section
variable {w:World} {l r r0:List HP} {d:Nat} {A:DiskA}
theorem zh4 (hok:okA A) {n:ByteArray} (hn:z3i n=true) {bs:List UInt8} (hb:bs.length<=A.free) (hm:¬ (z24 A.fs n=false/\A.fs.length>=128)) :
  okA { A with fs:=if z24 A.fs n then A.fs.map (z1u n λf=>{ f with b:=f.b++bs }) else z4e ⟨n,bs,0⟩ A.fs }:=by
 have hr:=hok.room
 have hu:=hok.used
 unfold DiskA.free at hb
 by_cases h:z24 A.fs n=true
 ·rw [if_pos h]
  obtain ⟨f,hf,rfl⟩:=z6d.1 h
  obtain ⟨s,u,hsu⟩:=List.append_of_mem hf
  have hpm:A.fs.Perm (f::(s++u)):=by rw [hsu];exact List.perm_middle
  have hnd:=(hpm.map (·.name)).nodup_iff.1 (z2v hok.sorted)
  rw [List.map_cons,List.nodup_cons] at hnd
  have hne:∀ g ∈ s++u,g.name≠f.name:=λg hg e=>hnd.1 (List.mem_map.2 ⟨g,hg,e⟩)
  have h1:=zcd (g:=λf=>{ f with b:=f.b++bs }) hpm hne
  have h2:used A.fs=f.b.length+used (s++u):=by rw [z3z hpm,z1j]
  refine ⟨hok.room,?_,by show (A.fs.map _).length<=_;rw [List.length_map];exact hok.many,hok.left,z99 (z6o λ_=>rfl) hok.sorted,λg hg=>?_,λg hg=>?_⟩
  ·show used (A.fs.map _)<=_
   rw [h1]
   show (f.b++bs).length+_<=_
   rw [List.length_append];omega
  ·obtain ⟨g,hg',rfl⟩:=List.mem_map.1 hg
   have:=hok.kept g hg'
   unfold z1u
   split
   ·show g.kept<=(g.b++bs).length;rw [List.length_append];omega
   ·exact this
  ·obtain ⟨g,hg',rfl⟩:=List.mem_map.1 hg
   rw [z6o (by intro _;rfl)];exact hok.names g hg'
 ·have h:z24 A.fs n=false:=by simpa using h
  rw [if_neg (by rw [h];simp)]
  have hne:=z6e.1 h
  have hp:=z6h ⟨n,bs,0⟩ A.fs
  refine ⟨hok.room,?_,?_,hok.left,zfc _ hne hok.sorted,λg hg=>?_,λg hg=>?_⟩
  ·show used (z4e _ _)<=_
   rw [z3z hp,z1j];show bs.length+_<=_;omega
  ·show (z4e _ _).length<=_
   rw [hp.length_eq,List.length_cons]
   have:=hok.many
   have:A.fs.length≠128:=λe=>hm ⟨h,by omega⟩
   omega
  ·rcases zg2.1 hg with rfl|hg
   ·exact Nat.zero_le _
   ·exact hok.kept g hg
  ·rcases zg2.1 hg with rfl|hg
   ·exact zt1 hn
   ·exact hok.names g hg
theorem zlp (x:FileA) (g:FileA->FileA) (hg:(g x).name=x.name):∀ {fs:List FileA},(∀ f ∈ fs,f.name≠x.name)->(z4e x fs).map (z1u x.name g)=z4e (g x) fs
 | [],_=>by simp [z4e,z1u]
 | f::r,h=>by
  have hf:z1u x.name g f=f:=by rw [z1u,if_neg (h f (List.mem_cons_self ..))]
  have hr:r.map (z1u x.name g)=r:=by
   conv=>rhs;rw [<- List.map_id r]
   exact List.map_congr_left λy hy=>by rw [z1u,if_neg (h y (List.mem_cons_of_mem _ hy))];rfl
  rw [z4e,z4e,hg]
  split
  ·rw [List.map_cons,List.map_cons,hf,hr,z1u,if_pos rfl]
  ·rw [List.map_cons,hf,zlp x g hg λy hy=>h y (List.mem_cons_of_mem _ hy)]
theorem zky (n:ByteArray) (ps:Sl) (xs:List Sl) (bs:List (List UInt8)) [hps:FocR r ps 1 (xs.flatMap zfl)] (hbs:za3 r xs bs) (hlen:bs.length<=1000) (hsum:∀ b ∈ bs,b.length<=100000000) [hf:Fo l dk d A r] (hs:Sat w l) :
  Ret P F.a28 #[.pointer (some ⟨d,0,none⟩),.string n,ps.v] w λvs w'=>vs=[.int .i64 (z09 A n bs.flatten).1]/\Sat w' (dk d (z09 A n bs.flatten).2::r) :=
 zu5 _ n ps <| by
  delta z087 AB AC AI AJ AP AQ AU Aa Ae Af Ag Ah Ai Al Am An Ao Ar Aw Ay Az B7 B9 BJ Be Bi;unfold z09
  have hxl:=hbs.length
  have hok0:okA A:=by obtain ⟨m,FS,hp,hok,hs⟩:=z2a (hs.perm hf.perm);exact hok
  have hfr:A.free<=4194304:=by have:=hok0.room;unfold DiskA.free;omega
  refine zh1 hs (λhg w' hs=>?_) λhg w' hs=>?_
  ·rw [if_pos hg];exact ⟨rfl,hs⟩
  rw [if_neg (by rw [hg];simp)]
  have hpl:=hs.slen ps (xs:=xs) (enc:=zfl)
  refine z8 (z06s n hs) λ_ _ hs=>?_
  obtain ⟨rfl,hs⟩:=hs
  refine zd ?_
  refine zf (λh=>?_) λh=>?_
  ·have h:z3i n=false:=by simpa using h
   rw [if_pos h];exact ⟨rfl,rfl,hs⟩
  have hn:z3i n=true:=by simpa using h
  rw [if_neg (by rw [hn];simp)]
  refine zl (λv w'=>bs.flatten.length<=A.free/\v=(((bs.flatten.length:Nat):Int),())/\Sat w' (dk d A::r)) ?_ ?_
  ·refine z0b (λk v w=>∃ i:Nat,v=((((bs.take i).flatten.length:Nat):Int),(i:Int),())/\i<=xs.length/\xs.length-i=k/\(bs.take i).flatten.length<=A.free/\Sat w (dk d A::r)) xs.length ⟨0,rfl,by omega,rfl,by simp,hs⟩ ?_
   clear hs
   rintro k _ w ⟨i,rfl,hi,hk,hsm,hs⟩
   refine zk ?_
   refine zf (λhc=>?_) λhc=>?_
   ·have hil:i<xs.length:=by omega
    have hib:i<bs.length:=by omega
    refine z26 hs i hil ?_
    have hrl:xs[i].len=bs[i].length:=(hbs.get i hil hib _ hs.tail).len (enc:=zj) (λ_=>rfl) (by decide)
    have hbi:=hsum _ (List.getElem_mem hib)
    refine z8 (z06f hs) λ_ _ hs=>?_
    obtain ⟨rfl,hs⟩:=hs
    refine zd ?_
    have ew:IntKind.wrap .i64 ((A.free:Int)-((bs.take i).flatten.length:Nat))=(A.free:Int)-((bs.take i).flatten.length:Nat):=z00p
    rw [ew]
    refine zf (λh3=>?_) λh3=>?_
    ·refine zn (zn ?_)
     rw [if_pos]
     ·exact ⟨rfl,rfl,hs⟩
     ·left
      have h4:(bs.take (i+1)).flatten.length<=bs.flatten.length:=by
       have:=congrArg (λl:List (List UInt8)=>l.flatten.length) (List.take_append_drop (i+1) bs)
       simp only [List.flatten_append,List.length_append] at this
       omega
      rw [z3p hib,List.length_append] at h4
      omega
    ·refine z29 (y:=(((bs.take (i+1)).flatten.length:Nat):Int)) ?_ ?_
     ·refine z25 (us':=[.int .i64 (((bs.take (i+1)).flatten.length:Nat):Int),.int .i64 ((i+1:Nat):Int)]) (by (try simp (disch:=omega) only [w64]);first|rfl|(congr;omega)) ?_
      refine z0x (xs.length-(i+1)) ?_
      refine ⟨i+1,rfl,by omega,rfl,?_,hs⟩
      rw [z3p hib,List.length_append];omega
     ·rw [z3p hib,List.length_append,w64 (by omega) (by omega)];omega
   ·refine zn (zg ?_)
    rw [List.take_of_length_le (by omega)] at hsm ⊢
    exact ⟨hsm,rfl,hs⟩
  clear hs
  rintro _ w ⟨hfit,rfl,hs⟩
  refine zk ?_
  obtain ⟨m,FS,hp,hok,hs⟩:=z2a hs
  have hou:=hok.used
  have hor:=hok.room
  have hfit':=hfit
  unfold DiskA.free at hfit'
  (repeat (first|with_reducible (first|refine zk ?_|refine zh ?_|refine z0n ?_|refine zb hs ?_|refine zi hs ?_|refine ze ?_|refine z01 hs λ_ hs=>?_|refine zt hs λ_ _ hs=>?_|refine zr hs λ_ _ hs=>?_|refine z08 hs λ_ hs=>?_|refine zu hs λ_ hs=>?_)|(apply wp_must;(focus first|trivial|omega|assumption))|refine z1b ?_|refine wp_lt ?_))
  have hnot:∀ (g:Bool),z24 A.fs n=g->¬ (g=false/\A.fs.length>=128)->(if bs.flatten.length>A.free\/(z24 A.fs n=false/\A.fs.length>=128) then ((5:Int),A) else
    (0,z2j { A with fs:=if z24 A.fs n then A.fs.map (z1u n λf=>{ f with b:=f.b++bs.flatten }) else z4e ⟨n,bs.flatten,0⟩ A.fs })) =
    (0,z2j { A with fs:=if z24 A.fs n then A.fs.map (z1u n λf=>{ f with b:=f.b++bs.flatten }) else z4e ⟨n,bs.flatten,0⟩ A.fs }):=λg hg h=>by
   rw [if_neg]
   rintro (h1|⟨h1,h2⟩)
   ·omega
   ·exact h ⟨by rw [<- hg,h1],h2⟩
  refine zxx hs (λb hb=>?_) λhb=>?_
  all_goals refine wp_lt ?_
  all_goals refine zl (λv w'=>∃ (t:FileM) (FS':List FileM) (fs1:List FileA),v=(some ⟨t.at_,0,none⟩,())/\t.f.name=n/\fs1.Perm (t.f::FS'.map FileM.f)/\(∀ g ∈ FS'.map FileM.f,g.name≠t.f.name)/\used fs1=used A.fs/\¬ (z24 A.fs n=false/\A.fs.length>=128) /\
    fs1.map (z1u n λf=>{ f with b:=f.b++bs.flatten })=(if z24 A.fs n then A.fs.map (z1u n λf=>{ f with b:=f.b++bs.flatten }) else z4e ⟨n,bs.flatten,0⟩ A.fs) /\
    Sat w' (pt t.at_ (.cells #[t.x.v,.int .i64 t.f.kept] T.a9)::slc T.a53 1 t.x (t.f.b.flatMap zj)::HP.all (FS'.map z3s)::pt d (.cells #[.int .i64 A.left,.bool A.gone,.int .i64 A.room,.int .i64 (used A.fs),.map (some m)] T.a8)::z1e ekS evF m ((t::FS').map λt=>(t.f.name,t.at_))::r)) ?_ ?_
  ·obtain ⟨t,ht,rfl,rfl,hA⟩:=z94 hp hb
   have hhas:z24 A.fs t.f.name=true:=z6d.2 ⟨_,hA,rfl⟩
   refine z03 ?_ (by simp)
   obtain ⟨FS',hpm,hs⟩:=z7e hs ht
   obtain ⟨h1,h2,-⟩:=apart hp hok hpm
   refine zg ?_
   refine ⟨t,FS',A.fs,rfl,rfl,h1,h2,rfl,by rw [hhas];simp,by rw [if_pos hhas],?_⟩
   have hs:=(hs.pick [4]).mapPerm (hpm.map λt=>(t.f.name,t.at_))
   exact hs.sub
  rotate_left
  ·have hno:=z7s hp hb
   have hhas:=z6e.2 hno
   refine z0t ?_ (by simp)
   (repeat (first|with_reducible (first|refine zk ?_|refine zh ?_|refine z0n ?_|refine zb hs ?_|refine zi hs ?_|refine ze ?_|refine z01 hs λ_ hs=>?_|refine zt hs λ_ _ hs=>?_|refine zr hs λ_ _ hs=>?_|refine z08 hs λ_ hs=>?_|refine zu hs λ_ hs=>?_)|(apply wp_must;(focus first|trivial|omega|assumption))|refine z1b ?_|refine wp_lt ?_))
   refine zed hs ?_
   have hml:(FS.map λt=>(t.f.name,t.at_)).length=A.fs.length:=by rw [List.length_map,<- hp.length_eq,List.length_map]
   rw [hml]
   refine zf (λh3=>?_) λh3=>?_
   ·refine zn ?_
    rw [if_pos (.inr ⟨hhas,by omega⟩)]
    exact ⟨rfl,rfl,z2d m hp hok hs⟩
   refine zr hs λa w' hs=>?_
   (repeat (first|with_reducible (first|refine zk ?_|refine zh ?_|refine z0n ?_|refine zb hs ?_|refine zi hs ?_|refine ze ?_|refine z01 hs λ_ hs=>?_|refine zt hs λ_ _ hs=>?_|refine zr hs λ_ _ hs=>?_|refine z08 hs λ_ hs=>?_|refine zu hs λ_ hs=>?_)|(apply wp_must;(focus first|trivial|omega|assumption))|refine z1b ?_|refine wp_lt ?_))
   refine zbk hs (FS.map λt=>(t.f.name,t.at_)) (.inr ⟨hb,rfl⟩) a λw' hs=>?_
   refine zg ?_
   refine ⟨⟨a,⟨none,0,0⟩,⟨n,[],0⟩⟩,FS,z4e ⟨n,[],0⟩ A.fs,rfl,rfl,(z6h _ _).trans (.cons _ hp.symm),λg hg=>hno g (hp.mem_iff.1 hg),?_,by omega,?_,?_⟩
   ·rw [z3z (z6h _ _),z1j];exact Nat.zero_add _
   ·rw [if_neg (by rw [hhas];simp)]
    exact zlp ⟨n,[],0⟩ (λf=>{ f with b:=f.b++bs.flatten }) rfl hno
   ·exact (hs.slc_nil (T:=T.a53) (sz:=1)).pick [2,0,2,1,0]
  all_goals clear hs
  all_goals rintro _ w ⟨t,FS',fs1,rfl,htn,h1,h2,hus,hno,hfin,hs⟩
  all_goals refine zk ?_
  all_goals rw [hnot _ rfl hno,<- hfin]
  all_goals subst htn
  all_goals refine zl (λ_ w'=>∃ x1:Sl,Sat w' (pt t.at_ (.cells #[x1.v,.int .i64 t.f.kept] T.a9)::slc T.a53 1 x1 ((t.f.b++bs.flatten).flatMap zj)::HP.all (FS'.map z3s)::pt d (.cells #[.int .i64 A.left,.bool A.gone,.int .i64 A.room,.int .i64 (used A.fs),.map (some m)] T.a8)::z1e ekS evF m ((t::FS').map λt=>(t.f.name,t.at_))::r)) ?_ ?_
  ·refine z0b (λk v w=>∃ (i:Nat) (x1:Sl),v=((i:Int),())/\i<=xs.length/\xs.length-i=k/\Sat w (pt t.at_ (.cells #[x1.v,.int .i64 t.f.kept] T.a9)::slc T.a53 1 x1 ((t.f.b++(bs.take i).flatten).flatMap zj)::HP.all (FS'.map z3s)::pt d (.cells #[.int .i64 A.left,.bool A.gone,.int .i64 A.room,.int .i64 (used A.fs),.map (some m)] T.a8)::z1e ekS evF m ((t::FS').map λt=>(t.f.name,t.at_))::r)) xs.length ⟨0,t.x,rfl,by omega,rfl,by simpa using hs⟩ ?_
   clear hs
   rintro k _ w ⟨i,x1,rfl,hi,hk,hs⟩
   refine zk ?_
   refine zf (λhc=>?_) λhc=>?_
   ·have hil:i<xs.length:=by omega
    have hib:i<bs.length:=by omega
    refine z26 hs i hil ?_
    have hrd:FocR r xs[i] 1 (bs[i].flatMap zj):=⟨hbs.get i hil hib⟩
    have hbi:=hsum _ (List.getElem_mem hib)
    have hsm:(bs.take i).flatten.length<=bs.flatten.length:=by
     have:=congrArg (λl:List (List UInt8)=>l.flatten.length) (List.take_append_drop i bs)
     simp only [List.flatten_append,List.length_append] at this
     omega
    have htb:t.f.b.length<=used fs1:=z8c (h1.mem_iff.2 (List.mem_cons_self ..))
    (repeat (first|with_reducible (first|refine zk ?_|refine zh ?_|refine z0n ?_|refine zb hs ?_|refine zi hs ?_|refine ze ?_|refine z01 hs λ_ hs=>?_|refine zt hs λ_ _ hs=>?_|refine zr hs λ_ _ hs=>?_|refine z08 hs λ_ hs=>?_|refine zu hs λ_ hs=>?_)|(apply wp_must;(focus first|trivial|omega|assumption))|refine z1b ?_|refine wp_lt ?_))
    refine wp_app' hs (xs:=t.f.b++(bs.take i).flatten) (ys:=bs[i]) (enc:=zj) (λz w' hs=>?_) (by rw [List.length_append];omega)
    (repeat (first|with_reducible (first|refine zk ?_|refine zh ?_|refine z0n ?_|refine zb hs ?_|refine zi hs ?_|refine ze ?_|refine z01 hs λ_ hs=>?_|refine zt hs λ_ _ hs=>?_|refine zr hs λ_ _ hs=>?_|refine z08 hs λ_ hs=>?_|refine zu hs λ_ hs=>?_)|(apply wp_must;(focus first|trivial|omega|assumption))|refine z1b ?_|refine wp_lt ?_))
    refine z25 (us':=[.int .i64 ((i+1:Nat):Int)]) (by (try simp (disch:=omega) only [w64]);first|rfl|(congr;omega)) ?_
    refine z0x (xs.length-(i+1)) ?_
    refine ⟨i+1,z,rfl,by omega,rfl,?_⟩
    rw [z3p hib,<- List.append_assoc]
    exact hs.sub
   ·refine zn (zg ⟨x1,?_⟩)
    rwa [List.take_of_length_le (l:=bs) (by omega)] at hs
  rotate_left
  ·refine z0b (λk v w=>∃ (i:Nat) (x1:Sl),v=((i:Int),())/\i<=xs.length/\xs.length-i=k/\Sat w (pt t.at_ (.cells #[x1.v,.int .i64 t.f.kept] T.a9)::slc T.a53 1 x1 ((t.f.b++(bs.take i).flatten).flatMap zj)::HP.all (FS'.map z3s)::pt d (.cells #[.int .i64 A.left,.bool A.gone,.int .i64 A.room,.int .i64 (used A.fs),.map (some m)] T.a8)::z1e ekS evF m ((t::FS').map λt=>(t.f.name,t.at_))::r)) xs.length ⟨0,t.x,rfl,by omega,rfl,by simpa using hs⟩ ?_
   clear hs
   rintro k _ w ⟨i,x1,rfl,hi,hk,hs⟩
   refine zk ?_
   refine zf (λhc=>?_) λhc=>?_
   ·have hil:i<xs.length:=by omega
    have hib:i<bs.length:=by omega
    refine z26 hs i hil ?_
    have hrd:FocR r xs[i] 1 (bs[i].flatMap zj):=⟨hbs.get i hil hib⟩
    have hbi:=hsum _ (List.getElem_mem hib)
    have hsm:(bs.take i).flatten.length<=bs.flatten.length:=by
     have:=congrArg (λl:List (List UInt8)=>l.flatten.length) (List.take_append_drop i bs)
     simp only [List.flatten_append,List.length_append] at this
     omega
    have htb:t.f.b.length<=used fs1:=z8c (h1.mem_iff.2 (List.mem_cons_self ..))
    (repeat (first|with_reducible (first|refine zk ?_|refine zh ?_|refine z0n ?_|refine zb hs ?_|refine zi hs ?_|refine ze ?_|refine z01 hs λ_ hs=>?_|refine zt hs λ_ _ hs=>?_|refine zr hs λ_ _ hs=>?_|refine z08 hs λ_ hs=>?_|refine zu hs λ_ hs=>?_)|(apply wp_must;(focus first|trivial|omega|assumption))|refine z1b ?_|refine wp_lt ?_))
    refine wp_app' hs (xs:=t.f.b++(bs.take i).flatten) (ys:=bs[i]) (enc:=zj) (λz w' hs=>?_) (by rw [List.length_append];omega)
    (repeat (first|with_reducible (first|refine zk ?_|refine zh ?_|refine z0n ?_|refine zb hs ?_|refine zi hs ?_|refine ze ?_|refine z01 hs λ_ hs=>?_|refine zt hs λ_ _ hs=>?_|refine zr hs λ_ _ hs=>?_|refine z08 hs λ_ hs=>?_|refine zu hs λ_ hs=>?_)|(apply wp_must;(focus first|trivial|omega|assumption))|refine z1b ?_|refine wp_lt ?_))
    refine z25 (us':=[.int .i64 ((i+1:Nat):Int)]) (by (try simp (disch:=omega) only [w64]);first|rfl|(congr;omega)) ?_
    refine z0x (xs.length-(i+1)) ?_
    refine ⟨i+1,z,rfl,by omega,rfl,?_⟩
    rw [z3p hib,<- List.append_assoc]
    exact hs.sub
   ·refine zn (zg ⟨x1,?_⟩)
    rwa [List.take_of_length_le (l:=bs) (by omega)] at hs
  all_goals clear hs
  all_goals rintro _ w ⟨x1,hs⟩
  all_goals refine zk ?_
  all_goals have hu3:=zcd (g:=λf=>{ f with b:=f.b++bs.flatten }) h1 h2
  all_goals have hu4:used fs1=t.f.b.length+used (FS'.map FileM.f):=by rw [z3z h1,z1j]
  all_goals have hu5:used (fs1.map (z1u t.f.name λf=>{ f with b:=f.b++bs.flatten }))=used A.fs+bs.flatten.length:=by (rw [hu3];show (t.f.b++bs.flatten).length+_=_;rw [List.length_append];omega)
  all_goals have ew:IntKind.wrap .i64 (((used A.fs:Nat):Int)+((bs.flatten.length:Nat):Int))=((used (fs1.map (z1u t.f.name λf=>{ f with b:=f.b++bs.flatten })):Nat):Int):=by rw [hu5,w64 (by omega) (by omega)];omega
  all_goals refine zh ?_
  all_goals refine zb hs ?_
  all_goals rw [ew]
  all_goals (repeat (first|with_reducible (first|refine zk ?_|refine zh ?_|refine z0n ?_|refine zb hs ?_|refine zi hs ?_|refine ze ?_|refine z01 hs λ_ hs=>?_|refine zt hs λ_ _ hs=>?_|refine zr hs λ_ _ hs=>?_|refine z08 hs λ_ hs=>?_|refine zu hs λ_ hs=>?_)|(apply wp_must;(focus first|trivial|omega|assumption))|refine z1b ?_|refine wp_lt ?_))
  all_goals have hs:=z6s (FS:=FS') ⟨t.at_,x1,{ t.f with b:=t.f.b++bs.flatten }⟩ hs
  all_goals have hp':(((⟨t.at_,x1,{ t.f with b:=t.f.b++bs.flatten }⟩:FileM)::FS').map FileM.f).Perm (fs1.map (z1u t.f.name λf=>{ f with b:=f.b++bs.flatten })):=(z72 (g:=λf=>{ f with b:=f.b++bs.flatten }) h1 h2).symm
  all_goals have hok':=zh4 hok hn hfit hno
  all_goals rw [<- hfin] at hok'
  all_goals have hs:Sat _ (z1e ekS evF m (((⟨t.at_,x1,{ t.f with b:=t.f.b++bs.flatten }⟩:FileM)::FS').map λt=>(t.f.name,t.at_))::_):=hs.pick [2]
  all_goals rw [hg] at hs
  all_goals refine z8 (zca (l':=r) hg hok' hp' hs) λ_ _ hs=>?_
  all_goals obtain ⟨rfl,hs⟩:=hs
  all_goals refine zd ?_
  all_goals exact ⟨rfl,rfl,hs⟩
end
theorem zcc {fs:List FileA} {g:FileA->FileA} (hb:∀ f,(g f).b=f.b):used (fs.map g)=used fs:=by
 unfold used
 rw [List.map_map]
 congr 1
 exact List.map_congr_left λf _=>by show (g f).b.length=_;rw [hb]
theorem zr3 {A:DiskA} (hok:okA A) {g:FileA->FileA} (hn:∀ f,(g f).name=f.name) (hb:∀ f,(g f).b=f.b) (hk:∀ f,f.kept<=f.b.length->(g f).kept<=f.b.length):okA { A with fs:=A.fs.map g }:=by
 refine ⟨hok.room,by show used (A.fs.map g)<=_;rw [zcc hb];exact hok.used,by show (A.fs.map g).length<=_;rw [List.length_map];exact hok.many,hok.left,z99 hn hok.sorted,λf hf=>?_,λf hf=>?_⟩
 ·obtain ⟨f,hf',rfl⟩:=List.mem_map.1 hf
  rw [hb];exact hk f (hok.kept f hf')
 ·obtain ⟨f,hf',rfl⟩:=List.mem_map.1 hf
  rw [hn];exact hok.names f hf'
def z8v (f:FileA):FileA:={ f with kept:=f.b.length }
def z2x (ns:List ByteArray) (f:FileA):FileA:=if ns.any (λm=>decide (m=f.name)) then z8v f else f
theorem zc0 (ns:List ByteArray) (f:FileA):(z2x ns f).name=f.name:=by unfold z2x;split <;> rfl
theorem zi5 (ns:List ByteArray) (f:FileA):(z2x ns f).b=f.b:=by unfold z2x;split <;> rfl
theorem zsx (ns:List ByteArray) (f:FileA) (h:f.kept<=f.b.length):(z2x ns f).kept<=f.b.length:=by
 unfold z2x;split
 ·exact Nat.le_refl _
 ·exact h
theorem zwv:z2x []=id:=by funext f;simp [z2x]
theorem zsy (ns:List ByteArray) (n:ByteArray) (f:FileA):z1u n z8v (z2x ns f)=z2x (ns++[n]) f:=by
 unfold z1u
 rw [zc0]
 unfold z2x
 rw [List.any_append]
 by_cases h1:f.name=n
 ·rw [if_pos h1]
  have:(ns.any (λm=>decide (m=f.name)) || [n].any (λm=>decide (m=f.name)))=true:=by simp [h1]
  rw [if_pos this]
  split <;> rfl
 ·rw [if_neg h1]
  have:(ns.any (λm=>decide (m=f.name)) || [n].any (λm=>decide (m=f.name)))=ns.any (λm=>decide (m=f.name)):=by simp [Ne.symm h1]
  rw [this]
theorem zzy (s:ByteArray):Go.Proofs.YtgpcickgjngglaaGreat.preF (ByteArray.mk #[]) s=true:=by
 unfold Go.Proofs.YtgpcickgjngglaaGreat.preF
 rw [show (ByteArray.mk #[]).toList=[] from by rw [ByteArray.toList_eq]]
 rfl
theorem zc2 (fs:List FileA):z12 (ByteArray.mk #[]) fs=fs.map (·.name):=List.filter_eq_self.2 λs _=>zzy s
theorem zzf (fs:List FileA):fs.map (z2x (fs.map (·.name)))=fs.map (z4a []):=by
 refine List.map_congr_left λf hf=>?_
 unfold z2x z4a
 rw [if_pos (show ((fs.map (·.name)).any λm=>decide (m=f.name))=true by simp;exact ⟨f,hf,rfl⟩),if_pos (show zbl [] f.name=true from rfl)]
 rfl
theorem zww {ns:List ByteArray} (h:ns≠[]) (fs:List FileA):fs.map (z2x ns)=fs.map (z4a ns):=by
 refine List.map_congr_left λf hf=>?_
 have e:zbl ns f.name=ns.any (λm=>decide (m=f.name)):=by
  unfold zbl
  cases ns with
  | nil=>exact absurd rfl h
  | cons _ _=>rfl
 unfold z2x z4a
 rw [e];rfl
theorem zyx {fs:List FileA} {g:FileA->FileA} (hn:∀ f,(g f).name=f.name) (n:ByteArray):z24 (fs.map g) n=z24 fs n:=by
 unfold z24
 rw [List.any_map]
 congr 1
 funext f
 show decide ((g f).name=n)=_
 rw [hn]
section
variable {w:World} {l r r0:List HP} {d:Nat} {A:DiskA}
theorem z07d (nx:Sl) (ns:List ByteArray) [hns:FocR r nx 1 (ns.flatMap z1i)] (hlen:ns.length<=100000) [hf:Fo l dk d A r] (hs:Sat w l) :
  Ret P F.a36 #[.pointer (some ⟨d,0,none⟩),nx.v] w λvs w'=>vs=[.int .i64 (z1x A ns).1]/\Sat w' (dk d (z1x A ns).2::r) :=
 zuc _ nx <| by
  delta z08e AC AE AI AJ AK AQ AU AV AW Aa Ae Ag Ah Ai Al Ao Az B7 BI BJ Bi;unfold z1x
  refine zh1 hs (λhg w' hs=>?_) λhg w' hs=>?_
  ·rw [if_pos hg];exact ⟨rfl,hs⟩
  rw [if_neg (by rw [hg];simp)]
  have hpl:=hs.slen nx (xs:=ns) (enc:=z1i)
  have hok0:okA A:=by obtain ⟨m,FS,hp,hok,hs⟩:=z2a hs;exact hok
  refine zl (λv w'=>ns.all (z24 A.fs)=true/\Sat w' (dk d A::r)) ?_ ?_
  ·refine z0b (λk v w=>∃ i:Nat,v=((i:Int),())/\i<=ns.length/\ns.length-i=k/\(ns.take i).all (z24 A.fs)=true/\Sat w (dk d A::r)) ns.length ⟨0,rfl,by omega,rfl,rfl,hs⟩ ?_
   clear hs
   rintro k _ w ⟨i,rfl,hi,hk,hall,hs⟩
   refine zk ?_
   refine zf (λhc=>?_) λhc=>?_
   ·have hil:i<ns.length:=by omega
    refine z26 hs i hil ?_
    have htk:(ns.take (i+1)).all (z24 A.fs)=z24 A.fs ns[i]:=by
     rw [List.take_add_one,List.getElem?_eq_getElem hil,List.all_append,hall];simp
    obtain ⟨m,FS,hp,hok,hs⟩:=z2a hs
    (repeat (first|with_reducible (first|refine zk ?_|refine zh ?_|refine z0n ?_|refine zb hs ?_|refine zi hs ?_|refine ze ?_|refine z01 hs λ_ hs=>?_|refine zt hs λ_ _ hs=>?_|refine zr hs λ_ _ hs=>?_|refine z08 hs λ_ hs=>?_|refine zu hs λ_ hs=>?_)|(apply wp_must;(focus first|trivial|omega|assumption))|refine z1b ?_|refine wp_lt ?_))
    refine z7m hs (λb hb=>?_) λhb=>?_
    ·obtain ⟨t,ht,rfl,hnm,hA⟩:=z94 hp hb
     refine z03 ?_ (by simp)
     refine z25 (us':=[.int .i64 ((i+1:Nat):Int)]) (by (try simp (disch:=omega) only [w64]);first|rfl|(congr;omega)) ?_
     refine z0x (ns.length-(i+1)) ?_
     exact ⟨i+1,rfl,by omega,rfl,by rw [htk];exact z6d.2 ⟨_,hA,hnm⟩,z2d m hp hok hs⟩
    ·refine z0t ?_ (by rfl)
     refine zn (zn ?_)
     have:ns.all (z24 A.fs)=false:=by
      rw [<- List.take_append_drop (i+1) ns,List.all_append,htk,z6e.2 (z7s hp hb)];rfl
     rw [if_pos this]
     exact ⟨rfl,rfl,z2d m hp hok hs⟩
   ·refine zn (zg ⟨?_,hs⟩)
    rwa [List.take_of_length_le (by omega)] at hall
  clear hs
  rintro _ w ⟨hall,hs⟩
  refine zk ?_
  rw [if_neg (by rw [hall];simp)]
  refine zl (λv w'=>∃ (nx1:Sl) (ns1:List ByteArray) (r1:List HP),v=(nx1,())/\ns1.length<=100000/\ns1.all (z24 A.fs)=true/\A.fs.map (z2x ns1)=A.fs.map (z4a ns)/\(∃ h:FocR (slc T.a50 1 nx1 (ns1.flatMap z1i)::r) nx1 1 (ns1.flatMap z1i),True) /\
    (Sat w' (dk d A::r1))/\(r1=r/\(∃ _h:FocR r nx1 1 (ns1.flatMap z1i),True)\/r1=slc T.a50 1 nx1 (ns1.flatMap z1i)::r)) ?_ ?_
  ·refine zf (λh=>?_) λh=>?_
   ·have hnil:ns=[]:=List.length_eq_zero_iff.1 (by omega)
    subst hnil
    refine z8 (zr0 (ByteArray.mk #[]) hs) λ_ _ hs=>?_
    obtain ⟨x,rfl,hs⟩:=hs
    refine zd ?_
    refine zg ?_
    refine ⟨x,z12 (ByteArray.mk #[]) A.fs,_,rfl,?_,?_,?_,⟨inferInstance,trivial⟩,(hs.pick [1]),.inr rfl⟩
    ·rw [zc2,List.length_map];have:=hok0.many;omega
    ·rw [zc2,List.all_map,List.all_eq_true]
     exact λf hf=>z6d.2 ⟨f,hf,rfl⟩
    ·rw [zc2];exact zzf A.fs
   ·refine zg ?_
    refine ⟨nx,ns,r,rfl,hlen,hall,zww (λe=>by subst e;simp at hpl;omega) A.fs,⟨inferInstance,trivial⟩,hs,.inl ⟨rfl,hns,trivial⟩⟩
  clear hs
  rintro _ w ⟨nx1,ns1,r1,rfl,hlen1,hall1,hmark,-,hs,hr1⟩
  refine zk ?_
  have hR1:FocR r1 nx1 1 (ns1.flatMap z1i):=by
   rcases hr1 with ⟨rfl,h,-⟩|rfl
   ·exact h
   ·infer_instance
  have hsub:∀ {H:HP} {w:World},Sat w (H::r1)->Sat w (H::r):=λ{H w} h=>by
   rcases hr1 with ⟨rfl,-⟩|rfl
   ·exact h
   ·exact h.sub
  have hpl1:=hs.slen nx1 (xs:=ns1) (enc:=z1i)
  refine zl (λv w'=>Sat w' (dk d { A with fs:=A.fs.map (z2x ns1) }::r1)) ?_ ?_
  ·refine z0b (λk v w=>∃ i:Nat,v=((i:Int),())/\i<=ns1.length/\ns1.length-i=k/\Sat w (dk d { A with fs:=A.fs.map (z2x (ns1.take i)) }::r1)) ns1.length ⟨0,rfl,by omega,rfl,by rw [List.take_zero,zwv,List.map_id];exact hs⟩ ?_
   clear hs
   rintro k _ w ⟨i,rfl,hi,hk,hs⟩
   refine zk ?_
   refine zf (λhc=>?_) λhc=>?_
   ·have hil:i<ns1.length:=by omega
    refine z26 hs i hil ?_
    obtain ⟨m,FS,hp,hok,hs⟩:=z2a hs
    (repeat (first|with_reducible (first|refine zk ?_|refine zh ?_|refine z0n ?_|refine zb hs ?_|refine zi hs ?_|refine ze ?_|refine z01 hs λ_ hs=>?_|refine zt hs λ_ _ hs=>?_|refine zr hs λ_ _ hs=>?_|refine z08 hs λ_ hs=>?_|refine zu hs λ_ hs=>?_)|(apply wp_must;(focus first|trivial|omega|assumption))|refine z1b ?_|refine wp_lt ?_))
    refine z7m hs (λb hb=>?_) λhb=>?_
    ·obtain ⟨t,ht,rfl,hnm,hA⟩:=z94 hp hb
     obtain ⟨FS',hpm,hs⟩:=z7e hs ht
     obtain ⟨h1,h2,-⟩:=apart hp hok hpm
     (repeat (first|with_reducible (first|refine zk ?_|refine zh ?_|refine z0n ?_|refine zb hs ?_|refine zi hs ?_|refine ze ?_|refine z01 hs λ_ hs=>?_|refine zt hs λ_ _ hs=>?_|refine zr hs λ_ _ hs=>?_|refine z08 hs λ_ hs=>?_|refine zu hs λ_ hs=>?_)|(apply wp_must;(focus first|trivial|omega|assumption))|refine z1b ?_|refine wp_lt ?_))
     rw [hs.slen t.x (xs:=t.f.b) (enc:=zj)] at hs
     have hs:=z6s (FS:=FS') ⟨t.at_,t.x,z8v t.f⟩ hs
     have hs:Sat _ (z1e ekS evF m (((⟨t.at_,t.x,z8v t.f⟩:FileM)::FS').map λt=>(t.f.name,t.at_))::_):=(hs.pick [2]).mapPerm (hpm.map λt=>(t.f.name,t.at_))
     have hstep:(A.fs.map (z2x (ns1.take i))).map (z1u t.f.name z8v)=A.fs.map (z2x (ns1.take (i+1))):=by
      rw [List.map_map,List.take_add_one,List.getElem?_eq_getElem hil]
      refine List.map_congr_left λf _=>?_
      show z1u t.f.name z8v (z2x _ f)=_
      rw [zsy,hnm];rfl
     have hp':(((⟨t.at_,t.x,z8v t.f⟩:FileM)::FS').map FileM.f).Perm (A.fs.map (z2x (ns1.take (i+1)))):=by
      rw [<- hstep]
      exact (z72 (g:=z8v) h1 h2).symm
     refine z25 (us':=[.int .i64 ((i+1:Nat):Int)]) (by (try simp (disch:=omega) only [w64]);first|rfl|(congr;omega)) ?_
     refine z0x (ns1.length-(i+1)) ?_
     refine ⟨i+1,rfl,by omega,rfl,?_⟩
     exact z2d m (A:={ A with fs:=A.fs.map (z2x (ns1.take (i+1))) }) hp' (zr3 hok0 (zc0 _) (zi5 _) (zsx _)) hs (by rw [zcc (zi5 _),zcc (zi5 _)])
    ·exfalso
     have h3:=z6e.2 (z7s hp hb)
     have h4:z24 A.fs ns1[i]=true:=List.all_eq_true.1 hall1 _ (List.getElem_mem hil)
     rw [zyx (zc0 _),h4] at h3
     cases h3
   ·refine zn (zg ?_)
    rwa [List.take_of_length_le (by omega)] at hs
  clear hs
  rintro _ w hs
  refine zk ?_
  rw [hmark] at hs
  obtain ⟨m,FS,hp,hok,hs⟩:=z2a (hsub hs)
  have hs:Sat w (pt d (.cells #[.int .i64 A.left,.bool A.gone,.int .i64 A.room,.int .i64 (used (A.fs.map (z4a ns))),.map (some m)] T.a8)::_):=hs
  (repeat (first|with_reducible (first|refine zk ?_|refine zh ?_|refine z0n ?_|refine zb hs ?_|refine zi hs ?_|refine ze ?_|refine z01 hs λ_ hs=>?_|refine zt hs λ_ _ hs=>?_|refine zr hs λ_ _ hs=>?_|refine z08 hs λ_ hs=>?_|refine zu hs λ_ hs=>?_)|(apply wp_must;(focus first|trivial|omega|assumption))|refine z1b ?_|refine wp_lt ?_))
  rw [hg] at hs
  refine z8 (zca (l':=r) (A:=A) hg hok hp hs) λ_ _ hs=>?_
  obtain ⟨rfl,hs⟩:=hs
  refine zd ?_
  exact ⟨rfl,rfl,hs⟩
end
theorem zgc {a b:List FileA} (h:a.Sublist b):used a<=used b:=by
 induction h with
 | slnil=>exact Nat.le_refl _
 | cons x _ ih=>rw [z1j];omega
 | cons_cons x _ ih=>rw [z1j,z1j];omega
theorem z04u {A:DiskA} (hok:okA A) {fs:List FileA} (h:fs.Sublist A.fs):okA { A with fs:=fs } :=
 ⟨hok.room,Nat.le_trans (zgc h) hok.used,Nat.le_trans h.length_le hok.many,hok.left,hok.sorted.sublist h,λf hf=>hok.kept f (h.mem hf),λf hf=>hok.names f (h.mem hf)⟩
def z06 (fs:List FileA) (n:ByteArray):Option (List UInt8 × Nat):=(fs.find? λf=>decide (f.name=n)).map λf=>(f.b,f.kept)
theorem zj3 (n:ByteArray):z06 [] n=none:=rfl
theorem z2k (f:FileA) (fs:List FileA) (n:ByteArray):z06 (f::fs) n=if f.name=n then some (f.b,f.kept) else z06 fs n:=by
 unfold z06
 rw [List.find?_cons]
 by_cases h:f.name=n
 ·simp [h]
 ·simp [h]
theorem z7p {fs:List FileA} {n:ByteArray}:z06 fs n=none↔∀ f ∈ fs,f.name≠n:=by
 unfold z06
 rw [Option.map_eq_none_iff,List.find?_eq_none]
 simp
theorem zcx {fs:List FileA} {f:FileA} (hn:(fs.map (·.name)).Nodup) (h:f ∈ fs):z06 fs f.name=some (f.b,f.kept):=by
 unfold z06
 rw [za8 hn h rfl]
 rfl
theorem zsh {fs:List FileA} {n:ByteArray} {p:List UInt8 × Nat} (h:z06 fs n=some p):(⟨n,p.1,p.2⟩:FileA) ∈ fs:=by
 unfold z06 at h
 rw [Option.map_eq_some_iff] at h
 obtain ⟨f,hf,rfl⟩:=h
 have h1:=List.mem_of_find?_eq_some hf
 have h2:=List.find?_some hf
 have h2:f.name=n:=by simpa using h2
 subst h2
 exact h1
theorem z3u {fs:List FileA} {n:ByteArray}:z24 fs n=(z06 fs n).isSome:=by
 unfold z24 z06
 rw [Option.isSome_map,Bool.eq_iff_iff,List.any_eq_true,List.find?_isSome]
theorem zsv {fs:List FileA} {n:ByteArray} {p:List UInt8 × Nat} (h:z06 fs n=some p):zlt fs n=p.1.length:=by
 unfold z06 at h
 unfold zlt
 cases hf:fs.find? λf=>decide (f.name=n) with
 | none=>rw [hf] at h;cases h
 | some f=>rw [hf] at h;simp only [Option.map_some,Option.some.injEq] at h;subst h;rfl
theorem zcy (n:ByteArray) (g:FileA->FileA) (hg:∀ f,(g f).name=f.name) (m:ByteArray):∀ fs:List FileA,
  z06 (fs.map (z1u n g)) m=if m=n then (z06 fs n).map λp=>((g ⟨n,p.1,p.2⟩).b,(g ⟨n,p.1,p.2⟩).kept) else z06 fs m
 | []=>by simp [zj3]
 | f::fs=>by
  rw [List.map_cons,z2k,zcy n g hg m fs,z2k,z2k,z6o hg]
  by_cases h1:m=n
  ·subst h1
   rw [if_pos rfl,if_pos rfl]
   by_cases h2:f.name=m
   ·rw [if_pos h2,if_pos h2]
    subst h2
    unfold z1u
    rw [if_pos rfl]
    rfl
   ·rw [if_neg h2,if_neg h2]
  ·rw [if_neg h1,if_neg h1]
   by_cases h2:f.name=m
   ·rw [if_pos h2,if_pos h2]
    unfold z1u
    rw [if_neg (by rw [h2];exact h1)]
   ·rw [if_neg h2,if_neg h2]
theorem zj2 (x:FileA) (m:ByteArray):∀ {fs:List FileA},(∀ f ∈ fs,f.name≠x.name)->z06 (z4e x fs) m=if m=x.name then some (x.b,x.kept) else z06 fs m
 | [],_=>by
  show z06 [x] m=_
  rw [z2k]
  by_cases h:m=x.name
  ·rw [if_pos h.symm,if_pos h]
  ·rw [if_neg h,if_neg λe=>h e.symm]
 | f::fs,h=>by
  have hf:=h f (List.mem_cons_self ..)
  have ih:=zj2 x m (fs:=fs) λg hg=>h g (List.mem_cons_of_mem _ hg)
  unfold z4e
  split
  ·rw [z2k]
   by_cases h:m=x.name
   ·rw [if_pos h.symm,if_pos h]
   ·rw [if_neg h,if_neg λe=>h e.symm]
  ·rw [z2k,ih,z2k]
   by_cases h:m=x.name
   ·subst h;simp [hf]
   ·rw [if_neg h,if_neg h]
theorem zgp (n m:ByteArray):∀ fs:List FileA,z06 (z48 n fs) m=if m=n then none else z06 fs m
 | []=>by simp [z48,zj3]
 | f::fs=>by
  have ih:=zgp n m fs
  unfold z48 at ih ⊢
  rw [List.filter_cons]
  by_cases h:f.name=n
  ·rw [if_neg (by simp [h]),ih,z2k]
   by_cases h2:m=n
   ·rw [if_pos h2,if_pos h2]
   ·rw [if_neg h2,if_neg h2,if_neg (by rw [h];exact λe=>h2 e.symm)]
  ·rw [if_pos (by simp [h]),z2k,ih,z2k]
   by_cases h2:m=n
   ·subst h2;simp [h]
   ·rw [if_neg h2,if_neg h2]
theorem zgq (ns:List ByteArray) (m:ByteArray):∀ fs:List FileA,z06 (fs.map (z4a ns)) m=(z06 fs m).map λp=>if zbl ns m then (p.1,p.1.length) else p
 | []=>rfl
 | f::fs=>by
  have hn:(z4a ns f).name=f.name:=by unfold z4a;split <;> rfl
  rw [List.map_cons,z2k,zgq ns m fs,z2k,hn]
  by_cases h:f.name=m
  ·subst h
   rw [if_pos rfl,if_pos rfl]
   unfold z4a
   split
   ·rename_i h;simp [h]
   ·rename_i h;simp [h]
  ·rw [if_neg h,if_neg h]
theorem z92 {A:DiskA} {n:ByteArray} {bs:List UInt8} (h:(z09 A n bs).1≠0):(z09 A n bs).2=A:=by
 unfold z09 at h ⊢
 split
 ·rfl
 ·split
  ·rfl
  ·split
   ·rfl
   ·rename_i h1 h2 h3
    rw [if_neg h1,if_neg h2,if_neg h3] at h
    exact absurd rfl h
theorem za5 {A:DiskA} {n:ByteArray} {bs:List UInt8} (hok:okA A) (h:(z09 A n bs).1=0):A.gone=false/\z3i n=true/\bs.length<=A.free/\okA (z09 A n bs).2 /\
  (z09 A n bs).2.room=A.room/\used (z09 A n bs).2.fs=used A.fs+bs.length /\
  ∀ m,z06 (z09 A n bs).2.fs m=if m=n then some (((z06 A.fs n).map Prod.fst).getD []++bs,((z06 A.fs n).map Prod.snd).getD 0) else z06 A.fs m:=by
 unfold z09 at h ⊢
 split at h
 ·cases h
 rename_i h1
 split at h
 ·cases h
 rename_i h2
 split at h
 ·cases h
 rename_i h3
 rw [if_neg h1,if_neg h2,if_neg h3]
 have hn:z3i n=true:=by simpa using h2
 have h4:=zh4 hok hn (bs:=bs) (by omega) (λhh=>h3 (.inr hh))
 refine ⟨by simpa using h1,hn,by omega,z9r h4,by rw [z93],?_,λm=>?_⟩
 ·rw [z3l]
  show used (if z24 A.fs n=true then _ else _)=_
  have hnd:=z2v hok.sorted
  split
  ·rename_i hh
   obtain ⟨f,hf,rfl⟩:=z6d.1 hh
   obtain ⟨s,u,hsu⟩:=List.append_of_mem hf
   have hp:A.fs.Perm (f::(s++u)):=by rw [hsu];exact List.perm_middle
   have hne:∀ g ∈ s++u,g.name≠f.name:=λg hg e=>by
    have h5:=(hp.map (·.name)).nodup_iff.1 hnd
    rw [List.map_cons,List.nodup_cons] at h5
    exact h5.1 (List.mem_map.2 ⟨g,hg,e⟩)
   rw [zcd hp hne,z3z hp,z1j,List.length_append]
   omega
  ·rw [z3z (z6h _ _),z1j]
   show bs.length+_=_
   omega
 ·rw [z3l]
  show z06 (if z24 A.fs n=true then _ else _) m=_
  split
  ·rename_i hh
   rw [zcy n (λf=>{ f with b:=f.b++bs }) (λf=>rfl)]
   by_cases hm:m=n
   ·rw [if_pos hm,if_pos hm]
    rw [z3u] at hh
    obtain ⟨p,hp⟩:=Option.isSome_iff_exists.1 hh
    rw [hp]
    rfl
   ·rw [if_neg hm,if_neg hm]
  ·rename_i hh
   have hh:z24 A.fs n=false:=by simpa using hh
   rw [zj2 _ _ (z6e.1 hh)]
   by_cases hm:m=n
   ·rw [if_pos hm,if_pos hm,z7p.2 (z6e.1 hh)]
    rfl
   ·rw [if_neg hm,if_neg hm]
theorem zel {A:DiskA} {n:ByteArray} {bs:List UInt8} (hg:A.gone=false) (hn:z3i n=true) (hb:bs.length<=A.free) (hf:z06 A.fs n≠none\/A.fs.length<128):(z09 A n bs).1=0:=by
 unfold z09
 rw [if_neg (by rw [hg];simp),if_neg (by rw [hn];simp),if_neg]
 rintro (h|⟨h1,h2⟩)
 ·omega
 ·rcases hf with hf|hf
  ·rw [z3u] at h1
   cases hq:z06 A.fs n with
   | none=>exact hf hq
   | some q=>rw [hq] at h1;cases h1
  ·omega
theorem zek {A:DiskA} {n:ByteArray} {bs:List UInt8} (hn:z3i n=true):(z09 A n bs).1=0\/((z09 A n bs).1=9/\A.gone=true)\/((z09 A n bs).1=5/\A.gone=false):=by
 unfold z09
 split
 ·exact .inr (.inl ⟨rfl,by assumption⟩)
 ·rename_i h
  rw [if_neg (by rw [hn];simp)]
  split
  ·exact .inr (.inr ⟨rfl,by simpa using h⟩)
  ·exact .inl rfl
theorem zg9 {A:DiskA} {n:ByteArray}:((z1x A [n]).1=0/\A.gone=false/\(z06 A.fs n).isSome=true/\(z1x A [n]).2=z2j { A with fs:=A.fs.map (z4a [n]) })\/((z1x A [n]).1=9/\A.gone=true/\(z1x A [n]).2=A)\/((z1x A [n]).1=3/\A.gone=false/\z06 A.fs n=none/\(z1x A [n]).2=A):=by
 unfold z1x
 split
 ·exact .inr (.inl ⟨rfl,by assumption,rfl⟩)
 ·rename_i h
  have hg:A.gone=false:=by simpa using h
  split
  ·rename_i h2
   refine .inr (.inr ⟨rfl,hg,?_,rfl⟩)
   simp only [List.all_cons,List.all_nil,Bool.and_true] at h2
   rw [z3u] at h2
   cases hq:z06 A.fs n with
   | none=>rfl
   | some q=>rw [hq] at h2;cases h2
  ·rename_i h2
   refine .inl ⟨rfl,hg,?_,rfl⟩
   simp only [List.all_cons,List.all_nil,Bool.and_true] at h2
   rw [z3u] at h2
   cases hq:z06 A.fs n with
   | none=>rw [hq] at h2;exact absurd rfl h2
   | some q=>rfl
theorem zzm {A:DiskA} (hok:okA A) (ns:List ByteArray):okA { A with fs:=A.fs.map (z4a ns) } :=
 zr3 hok (λf=>by unfold z4a;split <;> rfl) (λf=>by unfold z4a;split <;> rfl) (λf h=>by unfold z4a;split;exact Nat.le_refl _;exact h)
theorem zvt (n m:ByteArray):zbl [n] m=decide (n=m):=by
 unfold zbl
 simp
theorem zrp {A:DiskA} {n:ByteArray} (hok:okA A) (h:(z1x A [n]).1=0):A.gone=false/\okA (z1x A [n]).2/\(z1x A [n]).2.room=A.room/\used (z1x A [n]).2.fs=used A.fs/\(z1x A [n]).2.fs.length=A.fs.length /\
  ∀ m,z06 (z1x A [n]).2.fs m=(z06 A.fs m).map λp=>if n=m then (p.1,p.1.length) else p:=by
 rcases zg9 (A:=A) (n:=n) with ⟨h1,h2,h3,h4⟩|⟨h1,-,-⟩|⟨h1,-,-,-⟩
 ·rw [h4]
  refine ⟨h2,z9r (zzm hok _),by rw [z93],?_,?_,λm=>?_⟩
  ·rw [z3l]
   exact zcc λf=>by unfold z4a;split <;> rfl
  ·rw [z3l]
   exact List.length_map ..
  ·rw [z3l]
   show z06 (A.fs.map (z4a [n])) m=_
   rw [zgq]
   congr 1
   funext p
   rw [zvt]
   by_cases hm:n=m <;> simp [hm]
 ·rw [h1] at h;cases h
 ·rw [h1] at h;cases h
theorem z074 {A:DiskA} {n:ByteArray} (hok:okA A) (h:(z18 A n).1=0):A.gone=false/\okA (z18 A n).2/\(z18 A n).2.room=A.room/\used (z18 A n).2.fs<=used A.fs/\(z18 A n).2.fs.length<=A.fs.length/\(z06 A.fs n).isSome=true /\
  ∀ m,z06 (z18 A n).2.fs m=if m=n then none else z06 A.fs m:=by
 unfold z18 at h ⊢
 split at h
 ·cases h
 rename_i h1
 split at h
 ·cases h
 rename_i h2
 rw [if_neg h1,if_neg h2]
 refine ⟨by simpa using h1,z9r (z04u hok (List.filter_sublist ..)),by rw [z93],?_,?_,?_,λm=>?_⟩
 ·rw [z3l];exact zgc (List.filter_sublist ..)
 ·rw [z3l];exact zw6 _ _
 ·rw [<- z3u];simpa using h2
 ·rw [z3l];exact zgp n m A.fs
theorem zxc {A:DiskA} {n:ByteArray} (hf:(z06 A.fs n).isSome=true):((z18 A n).1=0/\A.gone=false)\/((z18 A n).1=9/\A.gone=true/\(z18 A n).2=A):=by
 unfold z18
 split
 ·exact .inr ⟨rfl,by assumption,rfl⟩
 ·rename_i h
  rw [if_neg (by rw [z3u,hf];simp)]
  exact .inl ⟨rfl,by simpa using h⟩
theorem z067 {A:DiskA} {n:ByteArray} {k:Int} (hok:okA A) (h:(cutA' A n k).1=0):A.gone=false/\okA (cutA' A n k).2/\(cutA' A n k).2.room=A.room/\(cutA' A n k).2.fs.length=A.fs.length /\
  ∀ m,z06 (cutA' A n k).2.fs m=if m=n then (z06 A.fs n).map (λp=>(p.1.take k.toNat,min p.2 k.toNat)) else z06 A.fs m:=by
 unfold cutA' at h ⊢
 split at h
 ·cases h
 rename_i h1
 split at h
 ·cases h
 rename_i h2
 split at h
 ·cases h
 rename_i h3
 rw [if_neg h1,if_neg h2,if_neg h3]
 have hnd:=z2v hok.sorted
 have hup:okA { A with fs:=A.fs.map (z1u n λf=>{ f with b:=f.b.take k.toNat,kept:=min f.kept k.toNat }) }:=by
  refine ⟨hok.room,?_,?_,hok.left,z99 (λf=>z6o (g:=λf=>{ f with b:=f.b.take k.toNat,kept:=min f.kept k.toNat }) (λ_=>rfl) f) hok.sorted,λf hf=>?_,λf hf=>?_⟩
  ·refine Nat.le_trans ?_ hok.used
   show used (A.fs.map _)<=used A.fs
   generalize A.fs=fs
   induction fs with
   | nil=>exact Nat.le_refl _
   | cons f fs ih =>
    rw [List.map_cons,z1j,z1j]
    have:(z1u n (λf=>{ f with b:=f.b.take k.toNat,kept:=min f.kept k.toNat }) f).b.length<=f.b.length:=by
     unfold z1u
     split
     ·show (f.b.take _).length<=_;rw [List.length_take];omega
     ·exact Nat.le_refl _
    omega
  ·show (A.fs.map _).length<=_;rw [List.length_map];exact hok.many
  ·obtain ⟨g,hg,rfl⟩:=List.mem_map.1 hf
   have:=hok.kept g hg
   unfold z1u
   split
   ·show min g.kept _<=(g.b.take _).length;rw [List.length_take];omega
   ·exact this
  ·obtain ⟨g,hg,rfl⟩:=List.mem_map.1 hf
   rw [z6o (g:=λf=>{ f with b:=f.b.take k.toNat,kept:=min f.kept k.toNat }) (λ_=>rfl)]
   exact hok.names g hg
 refine ⟨by simpa using h1,z9r hup,by rw [z93],by rw [z3l];exact List.length_map ..,λm=>?_⟩
 rw [z3l]
 show z06 (A.fs.map _) m=_
 rw [zcy n (λf=>{ f with b:=f.b.take k.toNat,kept:=min f.kept k.toNat }) (λf=>rfl)]
theorem zw4 {A:DiskA} {n:ByteArray} {k:Int} {p:List UInt8 × Nat} (hf:z06 A.fs n=some p) (hk:0<=k/\k<=p.1.length):((cutA' A n k).1=0/\A.gone=false)\/((cutA' A n k).1=9/\A.gone=true/\(cutA' A n k).2=A):=by
 unfold cutA'
 split
 ·exact .inr ⟨rfl,by assumption,rfl⟩
 ·rename_i h
  rw [if_neg (by rw [z3u,hf];simp),if_neg (by rw [zsv hf];omega)]
  exact .inl ⟨rfl,by simpa using h⟩
def z4c (e:EntA):List Value:=[.int .i64 e.offset,.int .i64 e.place,.int .i64 e.before]
instance:EncA z4c [.int .i64,.int .i64,.int .i64] (λe=>(e.offset,e.place,e.before,())):=⟨λ_=>rfl⟩
instance:EncN z4c 3:=⟨λ_=>rfl,by decide,by simp [z4c,Value.oneCell']⟩
instance:EncF z4c 0 (.int .i64) (λe=>e.offset):=⟨λ_=>rfl⟩
instance:EncF z4c 1 (.int .i64) (λe=>e.place):=⟨λ_=>rfl⟩
instance:EncF z4c 2 (.int .i64) (λe=>e.before):=⟨λ_=>rfl⟩
structure okX (X:IdxA):Prop where
 gap:1<=X.gap/\X.gap<=4194304
 place : -1<=X.place/\X.place<=4194304
 ent:∀ e ∈ X.l,0<=e.place/\e.place<=X.place
 len:(X.l.length:Int)<=X.place+1
def z2i (b:Nat) (X:IdxA):HP:=HP.ex λz:Sl=>HP.and (okX X) (HP.star (pt b (.cells #[.int .i64 X.offset,.int .i64 X.place,.int .i64 X.late,.int .i64 X.gap,.slice z.a z.len z.cap] T.a11)) (slc T.a10 3 z (X.l.flatMap z4c)))
section
variable {w:World} {l r:List HP} {b:Nat} {X:IdxA}
theorem zfu (hs:Sat w (z2i b X::l)):∃ z:Sl,okX X/\Sat w (pt b (.cells #[.int .i64 X.offset,.int .i64 X.place,.int .i64 X.late,.int .i64 X.gap,.slice z.a z.len z.cap] T.a11)::slc T.a10 3 z (X.l.flatMap z4c)::l):=by
 obtain ⟨z,hs⟩:=hs.ex
 obtain ⟨h,hs⟩:=hs.and
 exact ⟨z,h,hs.star⟩
theorem z8o (X:IdxA) {z:Sl} (h:okX X) (hs:Sat w (pt b (.cells #[.int .i64 X.offset,.int .i64 X.place,.int .i64 X.late,.int .i64 X.gap,.slice z.a z.len z.cap] T.a11)::slc T.a10 3 z (X.l.flatMap z4c)::l)):Sat w (z2i b X::l) :=
 .ex_mk z (.and_mk h (.star_mk hs))
theorem z0ab {gap:Int} (h:1<=gap/\gap<=4194304):okX (zd8 gap):=⟨h,by show -1<=(-1:Int)/\(-1:Int)<=4194304;omega,(λ_ h=>by cases h),by show (0:Int) <= -1+1;omega⟩
theorem z06l (gap:Int) (h:1<=gap/\gap<=4194304) (hs:Sat w l):Ret P F.a54 #[.int .i64 gap] w λvs w'=>∃ b,vs=[.pointer (some ⟨b,0,none⟩),.int .i64 0]/\Sat w' (z2i b (zd8 gap)::l) :=
 zuv gap <| by
  delta z08x AB Aa Ag Ai Al Am
  refine z03 ?_
  refine zr hs λa w' hs=>?_
  refine ⟨rfl,a,rfl,?_⟩
  have h0:Sat w' (slc T.a10 3 ⟨none,0,0⟩ ((zd8 gap).l.flatMap z4c)::_):=hs.slc_nil
  exact z8o (zd8 gap) (z:=⟨none,0,0⟩) (z0ab h) (h0.pick [1])
theorem z06k (o p t:Int) (hs:Sat w l):Ret P F.a55 #[.int .i64 o,.int .i64 p,.int .i64 t] w λvs w'=>vs=[.bool (decide (zc1 o p t))]/\Sat w' l :=
 zuw o p t <| by
  delta z08y Ai Ay
  refine wp_lt ?_
  refine ⟨rfl,?_,hs⟩
  congr 2
  rw [Bool.eq_iff_iff,decide_eq_true_iff (p:=zc1 o p t)]
  unfold zc1
  simp only [Bool.and_eq_true,decide_eq_true_eq]
  constructor
  ·rintro ⟨⟨⟨⟨⟨h1,h2⟩,h3⟩,h4⟩,h5⟩,h6⟩
   exact ⟨⟨h1,h2⟩,⟨h3,h4⟩,h5,h6⟩
  ·rintro ⟨⟨h1,h2⟩,⟨h3,h4⟩,h5,h6⟩
   exact ⟨⟨⟨⟨⟨h1,h2⟩,h3⟩,h4⟩,h5⟩,h6⟩
theorem zzp {X:IdxA} (h:okX X) {o p t:Int} (hm:zc1 o p t) (h2:¬ (o<=X.offset\/p<=X.place)):okX ⟨o,p,max X.late t,X.gap,z4q X o p⟩:=by
 obtain ⟨h3,h4,h5,h6⟩:=h
 obtain ⟨-,hp,-⟩:=hm
 refine ⟨h3,by show -1<=p/\p<=4194304;omega,λe he=>?_,?_⟩
 ·show 0<=e.place/\e.place<=p
  have he:e ∈ z4q X o p:=he
  unfold z4q at he
  split at he
  ·rcases List.mem_append.1 he with he|he
   ·have:=h5 e he;omega
   ·simp at he;subst he;simp only;omega
  ·have:=h5 e he;omega
 ·show ((z4q X o p).length:Int)<=p+1
  unfold z4q
  split
  ·rw [List.length_append];simp only [List.length_cons,List.length_nil];omega
  ·omega
theorem z06u (o p t:Int) (ho : -9223372036854775808<=o/\o<9223372036854775808) (hp : -9223372036854775808<=p/\p<9223372036854775808) [hf:Fo l z2i b X r] (hs:Sat w l) :
  Ret P F.a52 #[.pointer (some ⟨b,0,none⟩),.int .i64 o,.int .i64 p,.int .i64 t] w λvs w'=>vs=[.int .i64 (zaf X o p t).1]/\Sat w' (z2i b (zaf X o p t).2::r) :=
 zut _ o p t <| by
  delta z08v AC AD AH AI AJ AK AP AQ AT Aa Ad Ae Ag Ah Ai Ao Ar As Aw B3 Bl Bs
  have hs:=hs.perm hf.perm
  refine wp_lt ?_
  refine z03 ?_ (by simp)
  refine z8 (z06k o p t hs) λ_ w' hs=>?_
  obtain ⟨rfl,hs⟩:=hs
  refine zd ?_
  refine wp_lt ?_
  unfold zaf
  refine zf (λh=>?_) λh=>?_
  ·have h:¬ zc1 o p t:=by simpa using h
   rw [if_pos h]
   exact ⟨rfl,rfl,hs⟩
  have h:zc1 o p t:=by simpa using h
  rw [if_neg (λhh=>hh h)]
  obtain ⟨z,hok,hs⟩:=zfu hs
  have hl:=hs.slen z (xs:=X.l) (enc:=z4c)
  refine zh ?_
  refine zb hs ?_
  refine z0n ?_
  refine zb hs ?_
  refine wp_lt ?_
  refine zf (λh2=>?_) λh2=>?_
  ·rw [if_pos h2]
   exact ⟨rfl,rfl,z8o X hok hs⟩
  rw [if_neg h2]
  have hok2:=zzp hok h h2
  have hlen:=hok.len
  have hpl:=hok.place
  refine zh ?_
  refine zb hs ?_
  refine wp_lt ?_
  refine z01 hs λw' hs=>?_
  refine z0n ?_
  refine zb hs ?_
  have hgl:∀ (h0:X.l≠[]),X.l.getLast? = some (X.l[X.l.length-1]'(by have:=List.length_pos_iff.2 h0;omega)):=λh0=>by
   have:=List.length_pos_iff.2 h0
   rw [List.getLast?_eq_getElem?,List.getElem?_eq_getElem (by omega)]
  refine z7d (xs:=X.l) (enc:=z4c) hs (match X.l.getLast? with|none=>0|some e=>e.place) (λhg=>?_) ?_
  ·have h0:X.l≠[]:=by
    rintro h0
    rw [h0] at hl
    rw [hl] at hg
    cases hg
   have:=List.length_pos_iff.2 h0
   refine ⟨X.l.length-1,by omega,?_,?_⟩
   ·rw [w64 (by omega) (by omega)];omega
   ·rw [hgl h0]
  refine z0n ?_
  refine zb hs ?_
  refine ze ?_
  refine zl (λ_ w'=>∃ z':Sl,Sat w' (pt b (.cells #[.int .i64 X.offset,.int .i64 X.place,.int .i64 X.late,.int .i64 X.gap,.slice z'.a z'.len z'.cap] T.a11)::slc T.a10 3 z' ((z4q X o p).flatMap z4c)::r)) ?_ ?_
  ·have hnew:zzi X p=true↔(((z.len:Nat):Int)=0\/IntKind.wrap .i64 (p-match X.l.getLast? with|none=>0|some e=>e.place)>=X.gap):=by
    unfold zzi
    by_cases h0:X.l=[]
    ·rw [h0]
     simp only [List.getLast?_nil,true_iff]
     left
     rw [hl,h0];rfl
    ·rw [hgl h0]
     have hlp:=List.length_pos_iff.2 h0
     have hb:=hok.ent _ (List.getElem_mem (show X.l.length-1<X.l.length by omega))
     simp only [decide_eq_true_eq]
     rw [w64 (by omega) (by omega)]
     omega
   unfold z4q
   refine zf (λh3=>?_) λh3=>?_
   ·rw [if_pos (hnew.2 h3)]
    refine zl (λq w'=>∃ z':Sl,q=(z',())/\Sat w' (slc T.a10 3 z' ((X.l++[(⟨o,p,X.late⟩:EntA)]).flatMap z4c)::pt b (.cells #[.int .i64 X.offset,.int .i64 X.place,.int .i64 X.late,.int .i64 X.gap,.slice z.a z.len z.cap] T.a11)::r)) ?_ ?_
    ·refine z01 hs λw' hs=>?_
     refine zh ?_
     refine z0s hs ?_
     refine zh ?_
     refine zb hs ?_
     refine z60 hs (enc:=z4c) [(⟨o,p,X.late⟩:EntA)] λy w' hs=>⟨(by first|trivial|(repeat (first|exact trivial|exact λ_=>z07 hs|exact λ_=>z0c hs|refine And.intro ?_ ?_))),?_⟩
     refine ze ?_
     refine wp_app' (xs:=X.l) (ys:=[(⟨o,p,X.late⟩:EntA)]) (enc:=z4c) hs (λz' w' hs=>?_) (by simp only [List.length_cons,List.length_nil];omega)
     refine ze ?_
     exact zg ⟨z',rfl,hs.sub⟩
    ·rintro _ w2 ⟨z',rfl,hs⟩
     refine zh ?_
     refine z08 hs λw' hs=>?_
     exact zg ⟨z',hs.sub⟩
   ·rw [if_neg λhh=>h3 (hnew.1 hh)]
    exact zg ⟨z,hs⟩
  rintro _ w2 ⟨z',hs⟩
  refine zh ?_
  refine zb hs ?_
  refine zh ?_
  have e:(if t>X.late then t else X.late)=max X.late t:=by split <;> omega
  rw [e]
  have hA:(Addr.add ⟨b,0,none⟩ 0)=⟨b,0,none⟩:=rfl
  rw [hA]
  refine z07r hs (by rfl) (by rfl) (by simp [Value.oneCell']) λw' hs=>⟨trivial,?_⟩
  refine ⟨rfl,rfl,?_⟩
  exact z8o ⟨o,p,max X.late t,X.gap,z4q X o p⟩ (z:=z') hok2 hs
theorem z045 (i:Int) (hi:i<X.l.length) [hf:Fo l z2i b X r] (hs:Sat w l) :
  Ret P F.a53 #[.pointer (some ⟨b,0,none⟩),.int .i64 i] w λvs w'=>vs=[.agg (z4c (if i<0 then ⟨0,0,0⟩ else X.l.getD i.toNat ⟨0,0,0⟩)).toArray,.bool (decide (0<=i))]/\Sat w' (z2i b X::r) :=
 zuu _ i <| by
  delta z08w AJ AQ Ab Ac Ad Ag Ai Ak Ao
  have hs:=hs.perm hf.perm
  refine zt hs λa w' hs=>?_
  refine zf (λh=>?_) λh=>?_
  ·refine zu hs λw' hs=>?_
   refine zi hs ?_
   rw [if_pos h]
   refine ⟨rfl,?_,hs.tail⟩
   rw [decide_eq_false (by omega)]
   rfl
  ·refine zh ?_
   obtain ⟨z,hok,hs⟩:=zfu (hs.pick [1])
   refine zb hs ?_
   refine z30 hs (xs:=X.l) (enc:=z4c) i.toNat (by omega) ?_
   refine zu hs λw' hs=>?_
   refine zi hs ?_
   rw [if_neg h]
   refine ⟨rfl,?_,z8o X (z:=z) hok hs.sub⟩
   rw [decide_eq_true (by omega),List.getD_eq_getElem?_getD,List.getElem?_eq_getElem (by omega)]
   rfl
theorem zg6 (n : Nat) (hn : n < 4611686018427387904) (f : FuncId) (cap : Array Value) (p : Nat → Bool) (hok : (P.funcs[f]?).any (fun fn => fn.body.isSome && fn.name != "runtime.NumGoroutine") = true)
  (hp:∀ (i:Nat) (w:World),i<n->Sat w l->Ret P f (#[.int .i64 (i:Int)]++cap) w λvs w'=>vs=[.bool (p i)]/\Sat w' l) (hs:Sat w l) :
  Ret P F.a180 #[.int .i64 (n:Int),.func (.func f) #[] cap] w λvs w'=>∃ i:Nat,i<=n/\(0<i->p (i-1)=false)/\(i<n->p i=true)/\vs=[.int .i64 (i:Int)]/\Sat w' l :=
 zp7 _ _ <| by
  delta z02v AR Aa Ae Af Ag Ah Ai Be
  refine wp_lt ?_
  refine zl (λq w'=>∃ i:Nat,i<=n/\(0<i->p (i-1)=false)/\(i<n->p i=true)/\q=((i:Int),())/\Sat w' l) ?_ ?_
  rotate_left
  ·rintro _ w' ⟨i,h1,h2,h3,rfl,hs⟩
   refine wp_lt ?_
   exact ⟨rfl,i,h1,h2,h3,rfl,hs⟩
  refine z0b (λm v w=>∃ i j:Nat,v=((i:Int),((j:Int),()))/\i<=j/\j<=n/\j-i=m/\(0<i->p (i-1)=false)/\(j<n->p j=true)/\Sat w l) n ⟨0,n,rfl,by omega,by omega,rfl,(λh=>by omega),(λh=>by omega),hs⟩ ?_
  clear hs
  rintro m _ w ⟨i,j,rfl,hij,hjn,hm,h1,h2,hs⟩
  refine zk ?_
  refine zf (λhc=>?_) λhc=>?_
  rotate_left
  ·have:i=j:=by omega
   subst this
   exact zn (zg ⟨i,hjn,h1,h2,rfl,hs⟩)
  have hc:i<j:=by omega
  have e:IntKind.wrap .i64 (Int.fdiv (IntKind.wrap .u64 (IntKind.wrap .i64 ((i:Int)+j))) 2)=(((i+j) / 2:Nat):Int):=by
   rw [w64 (x:=(i:Int)+j) (by omega) (by omega),zin (by omega) (by omega)]
   have:Int.fdiv ((i:Int)+j) 2=(((i+j) / 2:Nat):Int):=by
    rw [Int.fdiv_eq_ediv_of_nonneg _ (by omega)]
    omega
   rw [this,w64 (by omega) (by omega)]
  refine z29 (y:=(((i+j) / 2:Nat):Int)) ?_ e
  refine zxv hok (p ((i+j) / 2),()) (hp ((i+j) / 2) w (by omega) hs) rfl λw' hs=>⟨trivial,?_⟩
  refine zk ?_
  refine z42 ?_
  refine zf (λh3=>?_) λh3=>?_
  ·have h3:p ((i+j) / 2)=false:=by simpa using h3
   refine z29 (y:=(((i+j) / 2+1:Nat):Int)) ?_ (by rw [w64 (by omega) (by omega)];omega)
   refine z56 ?_
   refine z0x (j-((i+j) / 2+1)) ⟨(i+j) / 2+1,j,rfl,by omega,hjn,rfl,λ_=>by rw [Nat.add_sub_cancel];exact h3,h2,hs⟩
  ·have h3:p ((i+j) / 2)=true:=by simpa using h3
   refine wp_lt ?_
   refine z56 ?_
   refine z0x ((i+j) / 2-i) ⟨i,(i+j) / 2,rfl,by omega,by omega,rfl,h1,λ_=>h3,hs⟩
theorem z049 (i:Nat) (a0 a1:Nat) (o:Int) {r1 r2:List HP} {z:Sl} (hi:i<X.l.length) [h0:FocB l a0 (.cells [.pointer (some ⟨b,0,none⟩)].toArray T.a28) r1] [h1:FocB l a1 (.cells [.int .i64 o].toArray T.a14) r2]
  [h2:FocB l b (.cells [.int .i64 X.offset,.int .i64 X.place,.int .i64 X.late,.int .i64 X.gap,.slice z.a z.len z.cap].toArray T.a11) r] [h3:FocR l z 3 (X.l.flatMap z4c)] (hs:Sat w l) :
  Ret P F.a51 #[.int .i64 (i:Int),.pointer (some ⟨a0,0,none⟩),.pointer (some ⟨a1,0,none⟩)] w λvs w'=>vs=[.bool (decide (X.l[i].offset>o))]/\Sat w' l :=
 zus _ _ _ <| by
  delta z08u AD AH AJ AQ Ai Ao Ar Ay BE BX
  refine z01 hs λw' hs=>?_
  refine zb hs ?_
  refine zh ?_
  refine zb hs ?_
  refine zds hs (xs:=X.l) (enc:=z4c) i hi ?_
  refine zb hs ?_
  refine wp_lt ?_
  refine ze ?_
  exact ⟨rfl,rfl,hs⟩
def orE (o:Option EntA):EntA:=o.getD ⟨0,0,0⟩
theorem zw5 {l:List EntA} {i:Nat} (hi:i<=l.length):(if ((i:Int)-1)<0 then (⟨0,0,0⟩:EntA) else l.getD ((i:Int)-1).toNat ⟨0,0,0⟩)=orE (l.take i).getLast? /\ decide (0<=(i:Int)-1)=(l.take i).getLast?.isSome:=by
 rw [zxq hi]
 by_cases h:i=0
 ·subst h;exact ⟨rfl,rfl⟩
 ·rw [if_neg h,if_neg (by omega),List.getD_eq_getElem?_getD,show ((i:Int)-1).toNat=i-1 by omega,List.getElem?_eq_getElem (by omega)]
  exact ⟨rfl,decide_eq_true (by omega)⟩
theorem z06c (o:Int) (hm:X.l.Pairwise λa b=>a.offset<b.offset) [hf:Fo l z2i b X r] (hs:Sat w l) :
  Ret P F.a50 #[.pointer (some ⟨b,0,none⟩),.int .i64 o] w λvs w'=>vs=[.agg (z4c (orE (z3b X.l o))).toArray,.bool (z3b X.l o).isSome]/\Sat w' (z2i b X::r) :=
 zur _ o <| by
  delta z08t AB AD AH AJ AQ Aa Ab Ac Ad Ag Ah Ai Ak Al Am Ao Ax Ay Az B4
  have hs:=hs.perm hf.perm
  refine zr hs λa0 w' hs=>?_
  refine zr hs λa1 w' hs=>?_
  refine zt hs λa2 w' hs=>?_
  refine zb hs ?_
  refine z03 ?_ (by simp)
  refine zl (λq w'=>q=((z3b X.l o).isSome,())/\Sat w' (pt a2 (.cells [.int .i64 (orE (z3b X.l o)).offset,.int .i64 (orE (z3b X.l o)).place,.int .i64 (orE (z3b X.l o)).before].toArray T.a10)::z2i b X::r)) ?_ ?_
  rotate_left
  ·rintro _ w2 ⟨rfl,hs⟩
   refine zi hs ?_
   exact ⟨rfl,rfl,hs.tail⟩
  obtain ⟨z,hok,hs⟩:=zfu (hs.pick [3])
  have hl:=hs.slen z (xs:=X.l) (enc:=z4c)
  have hlen:=hok.len
  have hpl:=hok.place
  refine z01 hs λw' hs=>?_
  refine z0s hs ?_
  refine zb hs ?_
  refine zh ?_
  refine zb hs ?_
  rw [hl]
  refine z8 (zg6 X.l.length (by omega) F.a51 #[.pointer (some ⟨a0,0,none⟩),.pointer (some ⟨a1,0,none⟩)] (λi=>decide ((X.l.getD i ⟨0,0,0⟩).offset>o)) (by kernel_rfl) (λi w hi hs=>?_) hs) λ_ w' hs=>?_
  ·have e:X.l.getD i ⟨0,0,0⟩=X.l[i]:=by rw [List.getD_eq_getElem?_getD,List.getElem?_eq_getElem hi];rfl
   simp only [e]
   exact z049 (X:=X) i a0 a1 o hi hs
  obtain ⟨i,hi,h1,h2,rfl,hs⟩:=hs
  refine zd ?_ (by first|trivial|(repeat (first|exact trivial|exact λ_=>z07 hs|exact λ_=>z0c hs|refine And.intro ?_ ?_)))
  refine ze ?_
  rw [w64 (by omega) (by omega)]
  replace hs:Sat _ (z2i b X::pt a2 (.cells [.int .i64 0,.int .i64 0,.int .i64 0].toArray T.a10)::pt a0 (.cells [.pointer (some ⟨b,0,none⟩)].toArray T.a28)::r):=z8o X (z:=z) hok hs.sub
  refine z8 (z045 (b:=b) ((i:Int)-1) (by omega) hs) λ_ w' hs=>?_
  obtain ⟨rfl,hs⟩:=hs
  have hcut:z3b X.l o=(X.l.take i).getLast? := by
   unfold z3b
   rw [zhe hi (hm.imp λ{a b} hab=>by simp only [decide_eq_true_eq];omega)]
   ·intro h h0
    have:=h1 h0
    rw [List.getD_eq_getElem?_getD,List.getElem?_eq_getElem h] at this
    have:decide (X.l[i-1].offset>o)=false:=this
    simpa using this
   ·intro h
    have:=h2 h
    rw [List.getD_eq_getElem?_getD,List.getElem?_eq_getElem h] at this
    have:decide (X.l[i].offset>o)=true:=this
    simpa using this
  obtain ⟨c1_,c2_⟩:=zw5 (l:=X.l) hi
  rw [c1_,c2_,<- hcut]
  refine ⟨((orE (z3b X.l o)).offset,(orE (z3b X.l o)).place,(orE (z3b X.l o)).before,(z3b X.l o).isSome,()),rfl,(by first|trivial|(repeat (first|exact trivial|exact λ_=>z07 hs|exact λ_=>z0c hs|refine And.intro ?_ ?_))),z01b _ _ _ _ ?_⟩
  refine zu hs λw' hs=>?_
  refine wp_lt ?_
  refine ze ?_
  exact zg ⟨rfl,hs.sub⟩
end
end Go.Dec
