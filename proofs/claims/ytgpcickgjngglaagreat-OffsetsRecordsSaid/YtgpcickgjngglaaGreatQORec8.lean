/- What the claim of this folder leans on: our own texts, joined, without what it does not use. -/
import Derived.Test.YtgpcickgjngglaaGreatRows
import Derived.WalkKit
import Derived.ProofKit
import Derived.OpenShut
import Derived.RowKit3
import Derived.OrdersHeld
import Derived.Scope
import Derived.KernelRfl
import Derived.Laws.Sem
import Derived.Laws.StructEq
import Derived.Deep.AppendSrc
import Derived.Laws.BytesArg
import Derived.Laws.RangeString
import Derived.Maps.RangeRun
import Derived.Lib.ConvBytes
import Derived.Lib.SlBytesConst
import Derived.ChangeSlices
import Derived.ChangeMaps5
import Derived.ChangeSame
import Derived.Deep.Slices
import Derived.Deep.Fields
import Derived.Test.YtgpcickgjngglaaGreatProg
import Derived.Laws.MakeOwn
import Derived.WideKeyRuns
import Derived.DeepKeys3
import Derived.Sort.MapsRangeIn
import Derived.Sort.KeysCollected
import Derived.RangeFuncNested
import Derived.RangeFuncBound
import Derived.RangeFuncCalls
import Derived.RangeFuncLeaves
import Derived.RangeFuncBox
import Derived.OwnWalkIn
import Derived.TacticsInMore
import Derived.RegionIn
import Derived.LoopNIn
import Derived.LoopIn
import Derived.Maps.AppendAt
import Derived.Shelf.Abstract
import Derived.Shelf.Sort.Plain
import Derived.Shelf.Slices.In.SortNone
import Derived.Test.YtgpcickgjngglaaGreatQORec1
import Derived.Test.YtgpcickgjngglaaGreatQORec2
import Derived.Test.YtgpcickgjngglaaGreatQORec3
import Derived.Test.YtgpcickgjngglaaGreatQORec4
import Derived.Test.YtgpcickgjngglaaGreatQORec5
import Derived.Test.YtgpcickgjngglaaGreatQORec6
import Derived.Test.YtgpcickgjngglaaGreatQORec7
set_option linter.unusedVariables false
set_option linter.unusedSimpArgs false
namespace Go.Dec
def z42 (e:EntA):List Value:=[.int .i64 e.offset,.int .i64 e.place,.int .i64 e.before]
instance:EncA z42 [.int .i64,.int .i64,.int .i64] (λe=>(e.offset,e.place,e.before,())):=⟨λ_=>rfl⟩
instance:EncN z42 3:=⟨λ_=>rfl,by decide,by simp [z42,Value.oneCell']⟩
instance:EncF z42 0 (.int .i64) (λe=>e.offset):=⟨λ_=>rfl⟩
instance:EncF z42 1 (.int .i64) (λe=>e.place):=⟨λ_=>rfl⟩
instance:EncF z42 2 (.int .i64) (λe=>e.before):=⟨λ_=>rfl⟩
structure okX (X:IdxA):Prop where
 gap:1<=X.gap/\X.gap<=4194304
 place : -1<=X.place/\X.place<=4194304
 ent:∀ e ∈ X.l,0<=e.place/\e.place<=X.place
 len:(X.l.length:Int)<=X.place+1
def z2d (b:Nat) (X:IdxA):HP:=HP.ex λz:Sl=>HP.and (okX X) (HP.star (pt b (.cells #[.int .i64 X.offset,.int .i64 X.place,.int .i64 X.late,.int .i64 X.gap,.slice z.a z.len z.cap] T.a11)) (slc T.a10 3 z (X.l.flatMap z42)))
section
variable {w:World} {l r:List HP} {b:Nat} {X:IdxA}
theorem zfm (hs:Sat w (z2d b X::l)):∃ z:Sl,okX X/\Sat w (pt b (.cells #[.int .i64 X.offset,.int .i64 X.place,.int .i64 X.late,.int .i64 X.gap,.slice z.a z.len z.cap] T.a11)::slc T.a10 3 z (X.l.flatMap z42)::l):=by
 obtain ⟨z,hs⟩:=hs.ex
 obtain ⟨h,hs⟩:=hs.and
 exact ⟨z,h,hs.star⟩
theorem z8j (X:IdxA) {z:Sl} (h:okX X) (hs:Sat w (pt b (.cells #[.int .i64 X.offset,.int .i64 X.place,.int .i64 X.late,.int .i64 X.gap,.slice z.a z.len z.cap] T.a11)::slc T.a10 3 z (X.l.flatMap z42)::l)):Sat w (z2d b X::l) :=
 .ex_mk z (.and_mk h (.star_mk hs))
theorem z09f {gap:Int} (h:1<=gap/\gap<=4194304):okX (zd9 gap):=⟨h,by show -1<=(-1:Int)/\(-1:Int)<=4194304;omega,(λ_ h=>by cases h),by show (0:Int) <= -1+1;omega⟩
theorem z05v (gap:Int) (h:1<=gap/\gap<=4194304) (hs:Sat w l):Ret P F.a52 #[.int .i64 gap] w λvs w'=>∃ b,vs=[.pointer (some ⟨b,0,none⟩),.int .i64 0]/\Sat w' (z2d b (zd9 gap)::l) :=
 zuc gap <| by
  delta z084 Aa Ab Ac Ad Ae Af
  refine zy ?_
  refine zp hs λa w' hs=>?_
  refine ⟨rfl,a,rfl,?_⟩
  have h0:Sat w' (slc T.a10 3 ⟨none,0,0⟩ ((zd9 gap).l.flatMap z42)::_):=hs.slc_nil
  exact z8j (zd9 gap) (z:=⟨none,0,0⟩) (z09f h) (h0.pick [1])
theorem z05u (o p t:Int) (hs:Sat w l):Ret P F.a53 #[.int .i64 o,.int .i64 p,.int .i64 t] w λvs w'=>vs=[.bool (decide (zc1 o p t))]/\Sat w' l :=
 zud o p t <| by
  delta z085 Ab Ao
  refine wp_lt ?_
  refine ⟨rfl,?_,hs⟩
  congr 2
  rw [Bool.eq_iff_iff,decide_eq_true_iff (p:=zc1 o p t)]
  unfold zc1
  simp only [Bool.and_eq_true,decide_eq_true_eq]
  constructor
  ·rintro ⟨⟨⟨⟨⟨h1,h2⟩,h3⟩,h4⟩,h5⟩,h6⟩
   exact ⟨⟨h1,h2⟩,⟨h3,h4⟩,h5,h6⟩
  ·rintro ⟨⟨h1,h2⟩,⟨h3,h4⟩,h5,h6⟩
   exact ⟨⟨⟨⟨⟨h1,h2⟩,h3⟩,h4⟩,h5⟩,h6⟩
theorem zyx {X:IdxA} (h:okX X) {o p t:Int} (hm:zc1 o p t) (h2:¬ (o<=X.offset\/p<=X.place)):okX ⟨o,p,max X.late t,X.gap,z4j X o p⟩:=by
 obtain ⟨h3,h4,h5,h6⟩:=h
 obtain ⟨-,hp,-⟩:=hm
 refine ⟨h3,by show -1<=p/\p<=4194304;omega,λe he=>?_,?_⟩
 ·show 0<=e.place/\e.place<=p
  have he:e ∈ z4j X o p:=he
  unfold z4j at he
  split at he
  ·rcases List.mem_append.1 he with he|he
   ·have:=h5 e he;omega
   ·simp at he;subst he;simp only;omega
  ·have:=h5 e he;omega
 ·show ((z4j X o p).length:Int)<=p+1
  unfold z4j
  split
  ·rw [List.length_append];simp only [List.length_cons,List.length_nil];omega
  ·omega
theorem z065 (o p t:Int) (ho : -9223372036854775808<=o/\o<9223372036854775808) (hp : -9223372036854775808<=p/\p<9223372036854775808) [hf:Fo l z2d b X r] (hs:Sat w l) :
  Ret P F.a50 #[.pointer (some ⟨b,0,none⟩),.int .i64 o,.int .i64 p,.int .i64 t] w λvs w'=>vs=[.int .i64 (zac X o p t).1]/\Sat w' (z2d b (zac X o p t).2::r) :=
 zua _ o p t <| by
  delta z082 AB AC AD AE AF AG AM AP AS AX Aa Ab Ac Ag Ah Aj Ap Ax Az B8 Bz
  have hs:=hs.perm hf.perm
  refine wp_lt ?_
  refine zy ?_ (by simp)
  refine z8 (z05u o p t hs) λ_ w' hs=>?_
  obtain ⟨rfl,hs⟩:=hs
  refine zb ?_
  refine wp_lt ?_
  unfold zac
  refine zg (λh=>?_) λh=>?_
  ·have h:¬ zc1 o p t:=by simpa using h
   rw [if_pos h]
   exact ⟨rfl,rfl,hs⟩
  have h:zc1 o p t:=by simpa using h
  rw [if_neg (λhh=>hh h)]
  obtain ⟨z,hok,hs⟩:=zfm hs
  have hl:=hs.slen z (xs:=X.l) (enc:=z42)
  refine zi ?_
  refine za hs ?_
  refine z0j ?_
  refine za hs ?_
  refine wp_lt ?_
  refine zg (λh2=>?_) λh2=>?_
  ·rw [if_pos h2]
   exact ⟨rfl,rfl,z8j X hok hs⟩
  rw [if_neg h2]
  have hok2:=zyx hok h h2
  have hlen:=hok.len
  have hpl:=hok.place
  refine zi ?_
  refine za hs ?_
  refine wp_lt ?_
  refine zw hs λw' hs=>?_
  refine z0j ?_
  refine za hs ?_
  have hgl:∀ (h0:X.l≠[]),X.l.getLast? = some (X.l[X.l.length-1]'(by have:=List.length_pos_iff.2 h0;omega)):=λh0=>by
   have:=List.length_pos_iff.2 h0
   rw [List.getLast?_eq_getElem?,List.getElem?_eq_getElem (by omega)]
  refine zcf (xs:=X.l) (enc:=z42) hs (match X.l.getLast? with|none=>0|some e=>e.place) (λhg=>?_) ?_
  ·have h0:X.l≠[]:=by
    rintro h0
    rw [h0] at hl
    rw [hl] at hg
    cases hg
   have:=List.length_pos_iff.2 h0
   refine ⟨X.l.length-1,by omega,?_,?_⟩
   ·rw [w64 (by omega) (by omega)];omega
   ·rw [hgl h0]
  refine z0j ?_
  refine za hs ?_
  refine zd ?_
  refine zk (λ_ w'=>∃ z':Sl,Sat w' (pt b (.cells #[.int .i64 X.offset,.int .i64 X.place,.int .i64 X.late,.int .i64 X.gap,.slice z'.a z'.len z'.cap] T.a11)::slc T.a10 3 z' ((z4j X o p).flatMap z42)::r)) ?_ ?_
  ·have hnew:zyq X p=true↔(((z.len:Nat):Int)=0\/IntKind.wrap .i64 (p-match X.l.getLast? with|none=>0|some e=>e.place)>=X.gap):=by
    unfold zyq
    by_cases h0:X.l=[]
    ·rw [h0]
     simp only [List.getLast?_nil,true_iff]
     left
     rw [hl,h0];rfl
    ·rw [hgl h0]
     have hlp:=List.length_pos_iff.2 h0
     have hb:=hok.ent _ (List.getElem_mem (show X.l.length-1<X.l.length by omega))
     simp only [decide_eq_true_eq]
     rw [w64 (by omega) (by omega)]
     omega
   unfold z4j
   refine zg (λh3=>?_) λh3=>?_
   ·rw [if_pos (hnew.2 h3)]
    refine zk (λq w'=>∃ z':Sl,q=(z',())/\Sat w' (slc T.a10 3 z' ((X.l++[(⟨o,p,X.late⟩:EntA)]).flatMap z42)::pt b (.cells #[.int .i64 X.offset,.int .i64 X.place,.int .i64 X.late,.int .i64 X.gap,.slice z.a z.len z.cap] T.a11)::r)) ?_ ?_
    ·refine zw hs λw' hs=>?_
     refine zi ?_
     refine z0z hs ?_
     refine zi ?_
     refine za hs ?_
     refine z6r hs (enc:=z42) [(⟨o,p,X.late⟩:EntA)] λy w' hs=>⟨(by first|trivial|(repeat (first|exact trivial|exact λ_=>z05 hs|exact λ_=>z0b hs|refine And.intro ?_ ?_))),?_⟩
     refine zd ?_
     refine wp_app' (xs:=X.l) (ys:=[(⟨o,p,X.late⟩:EntA)]) (enc:=z42) hs (λz' w' hs=>?_) (by simp only [List.length_cons,List.length_nil];omega)
     refine zd ?_
     exact zf ⟨z',rfl,hs.sub⟩
    ·rintro _ w2 ⟨z',rfl,hs⟩
     refine zi ?_
     refine z02 hs λw' hs=>?_
     exact zf ⟨z',hs.sub⟩
   ·rw [if_neg λhh=>h3 (hnew.1 hh)]
    exact zf ⟨z,hs⟩
  rintro _ w2 ⟨z',hs⟩
  refine zi ?_
  refine za hs ?_
  refine zi ?_
  have e:(if t>X.late then t else X.late)=max X.late t:=by split <;> omega
  rw [e]
  have hA:(Addr.add ⟨b,0,none⟩ 0)=⟨b,0,none⟩:=rfl
  rw [hA]
  refine z070 hs (by rfl) (by rfl) (by simp [Value.oneCell']) λw' hs=>⟨trivial,?_⟩
  refine ⟨rfl,rfl,?_⟩
  exact z8j ⟨o,p,max X.late t,X.gap,z4j X o p⟩ (z:=z') hok2 hs
theorem z03d (i:Int) (hi:i<X.l.length) [hf:Fo l z2d b X r] (hs:Sat w l) :
  Ret P F.a51 #[.pointer (some ⟨b,0,none⟩),.int .i64 i] w λvs w'=>vs=[.agg (z42 (if i<0 then ⟨0,0,0⟩ else X.l.getD i.toNat ⟨0,0,0⟩)).toArray,.bool (decide (0<=i))]/\Sat w' (z2d b X::r) :=
 zub _ i <| by
  delta z083 Aa Ab Ag Aj Ar Au Ax B8 BD
  have hs:=hs.perm hf.perm
  refine zm hs λa w' hs=>?_
  refine zg (λh=>?_) λh=>?_
  ·refine zl hs λw' hs=>?_
   refine ze hs ?_
   rw [if_pos h]
   refine ⟨rfl,?_,hs.tail⟩
   rw [decide_eq_false (by omega)]
   rfl
  ·refine zi ?_
   obtain ⟨z,hok,hs⟩:=zfm (hs.pick [1])
   refine za hs ?_
   refine z39 hs (xs:=X.l) (enc:=z42) i.toNat (by omega) ?_
   refine zl hs λw' hs=>?_
   refine ze hs ?_
   rw [if_neg h]
   refine ⟨rfl,?_,z8j X (z:=z) hok hs.sub⟩
   rw [decide_eq_true (by omega),List.getD_eq_getElem?_getD,List.getElem?_eq_getElem (by omega)]
   rfl
theorem zg1 (n : Nat) (hn : n < 4611686018427387904) (f : FuncId) (cap : Array Value) (p : Nat → Bool) (hok : (P.funcs[f]?).any (fun fn => fn.body.isSome && fn.name != "runtime.NumGoroutine") = true)
  (hp:∀ (i:Nat) (w:World),i<n->Sat w l->Ret P f (#[.int .i64 (i:Int)]++cap) w λvs w'=>vs=[.bool (p i)]/\Sat w' l) (hs:Sat w l) :
  Ret P F.a182 #[.int .i64 (n:Int),.func (.func f) #[] cap] w λvs w'=>∃ i:Nat,i<=n/\(0<i->p (i-1)=false)/\(i<n->p i=true)/\vs=[.int .i64 (i:Int)]/\Sat w' l :=
 zos _ _ <| by
  delta z029 AF AI AJ AK AL Aa Ab Ac Ah
  refine wp_lt ?_
  refine zk (λq w'=>∃ i:Nat,i<=n/\(0<i->p (i-1)=false)/\(i<n->p i=true)/\q=((i:Int),())/\Sat w' l) ?_ ?_
  rotate_left
  ·rintro _ w' ⟨i,h1,h2,h3,rfl,hs⟩
   refine wp_lt ?_
   exact ⟨rfl,i,h1,h2,h3,rfl,hs⟩
  refine z09 (λm v w=>∃ i j:Nat,v=((i:Int),((j:Int),()))/\i<=j/\j<=n/\j-i=m/\(0<i->p (i-1)=false)/\(j<n->p j=true)/\Sat w l) n ⟨0,n,rfl,by omega,by omega,rfl,(λh=>by omega),(λh=>by omega),hs⟩ ?_
  clear hs
  rintro m _ w ⟨i,j,rfl,hij,hjn,hm,h1,h2,hs⟩
  refine zj ?_
  refine zg (λhc=>?_) λhc=>?_
  rotate_left
  ·have:i=j:=by omega
   subst this
   exact zn (zf ⟨i,hjn,h1,h2,rfl,hs⟩)
  have hc:i<j:=by omega
  have e:IntKind.wrap .i64 (Int.fdiv (IntKind.wrap .u64 (IntKind.wrap .i64 ((i:Int)+j))) 2)=(((i+j) / 2:Nat):Int):=by
   rw [w64 (x:=(i:Int)+j) (by omega) (by omega),zi8 (by omega) (by omega)]
   have:Int.fdiv ((i:Int)+j) 2=(((i+j) / 2:Nat):Int):=by
    rw [Int.fdiv_eq_ediv_of_nonneg _ (by omega)]
    omega
   rw [this,w64 (by omega) (by omega)]
  refine z1u (y:=(((i+j) / 2:Nat):Int)) ?_ e
  refine zxa hok (p ((i+j) / 2),()) (hp ((i+j) / 2) w (by omega) hs) rfl λw' hs=>⟨trivial,?_⟩
  refine zj ?_
  refine z4b ?_
  refine zg (λh3=>?_) λh3=>?_
  ·have h3:p ((i+j) / 2)=false:=by simpa using h3
   refine z1u (y:=(((i+j) / 2+1:Nat):Int)) ?_ (by rw [w64 (by omega) (by omega)];omega)
   refine z52 ?_
   refine z0w (j-((i+j) / 2+1)) ⟨(i+j) / 2+1,j,rfl,by omega,hjn,rfl,λ_=>by rw [Nat.add_sub_cancel];exact h3,h2,hs⟩
  ·have h3:p ((i+j) / 2)=true:=by simpa using h3
   refine wp_lt ?_
   refine z52 ?_
   refine z0w ((i+j) / 2-i) ⟨i,(i+j) / 2,rfl,by omega,by omega,rfl,h1,λ_=>h3,hs⟩
theorem z03g (i:Nat) (a0 a1:Nat) (o:Int) {r1 r2:List HP} {z:Sl} (hi:i<X.l.length) [h0:FocB l a0 (.cells [.pointer (some ⟨b,0,none⟩)].toArray T.a30) r1] [h1:FocB l a1 (.cells [.int .i64 o].toArray T.a14) r2]
  [h2:FocB l b (.cells [.int .i64 X.offset,.int .i64 X.place,.int .i64 X.late,.int .i64 X.gap,.slice z.a z.len z.cap].toArray T.a11) r] [h3:FocR l z 3 (X.l.flatMap z42)] (hs:Sat w l) :
  Ret P F.a49 #[.int .i64 (i:Int),.pointer (some ⟨a0,0,none⟩),.pointer (some ⟨a1,0,none⟩)] w λvs w'=>vs=[.bool (decide (X.l[i].offset>o))]/\Sat w' l :=
 zu9 _ _ _ <| by
  delta z081 AC AD AG Ab Ag Aj Ao Ax B5 B6
  refine zw hs λw' hs=>?_
  refine za hs ?_
  refine zi ?_
  refine za hs ?_
  refine zxc hs (xs:=X.l) (enc:=z42) i hi ?_
  refine za hs ?_
  refine wp_lt ?_
  refine zd ?_
  exact ⟨rfl,rfl,hs⟩
def orE (o:Option EntA):EntA:=o.getD ⟨0,0,0⟩
theorem zvr {l:List EntA} {i:Nat} (hi:i<=l.length):(if ((i:Int)-1)<0 then (⟨0,0,0⟩:EntA) else l.getD ((i:Int)-1).toNat ⟨0,0,0⟩)=orE (l.take i).getLast? /\ decide (0<=(i:Int)-1)=(l.take i).getLast?.isSome:=by
 rw [zx5 hi]
 by_cases h:i=0
 ·subst h;exact ⟨rfl,rfl⟩
 ·rw [if_neg h,if_neg (by omega),List.getD_eq_getElem?_getD,show ((i:Int)-1).toNat=i-1 by omega,List.getElem?_eq_getElem (by omega)]
  exact ⟨rfl,decide_eq_true (by omega)⟩
theorem z05l (o:Int) (hm:X.l.Pairwise λa b=>a.offset<b.offset) [hf:Fo l z2d b X r] (hs:Sat w l) :
  Ret P F.a48 #[.pointer (some ⟨b,0,none⟩),.int .i64 o] w λvs w'=>vs=[.agg (z42 (orE (z33 X.l o))).toArray,.bool (z33 X.l o).isSome]/\Sat w' (z2d b X::r) :=
 zu8 _ o <| by
  delta z080 AC AF AG Aa Ab Ac Ad Ae Af Ag Ai Aj Ao Ar Au Ax B8 BD Bc Bv
  have hs:=hs.perm hf.perm
  refine zp hs λa0 w' hs=>?_
  refine zp hs λa1 w' hs=>?_
  refine zm hs λa2 w' hs=>?_
  refine za hs ?_
  refine zy ?_ (by simp)
  refine zk (λq w'=>q=((z33 X.l o).isSome,())/\Sat w' (pt a2 (.cells [.int .i64 (orE (z33 X.l o)).offset,.int .i64 (orE (z33 X.l o)).place,.int .i64 (orE (z33 X.l o)).before].toArray T.a10)::z2d b X::r)) ?_ ?_
  rotate_left
  ·rintro _ w2 ⟨rfl,hs⟩
   refine ze hs ?_
   exact ⟨rfl,rfl,hs.tail⟩
  obtain ⟨z,hok,hs⟩:=zfm (hs.pick [3])
  have hl:=hs.slen z (xs:=X.l) (enc:=z42)
  have hlen:=hok.len
  have hpl:=hok.place
  refine zw hs λw' hs=>?_
  refine z0z hs ?_
  refine za hs ?_
  refine zi ?_
  refine za hs ?_
  rw [hl]
  refine z8 (zg1 X.l.length (by omega) F.a49 #[.pointer (some ⟨a0,0,none⟩),.pointer (some ⟨a1,0,none⟩)] (λi=>decide ((X.l.getD i ⟨0,0,0⟩).offset>o)) (by kernel_rfl) (λi w hi hs=>?_) hs) λ_ w' hs=>?_
  ·have e:X.l.getD i ⟨0,0,0⟩=X.l[i]:=by rw [List.getD_eq_getElem?_getD,List.getElem?_eq_getElem hi];rfl
   simp only [e]
   exact z03g (X:=X) i a0 a1 o hi hs
  obtain ⟨i,hi,h1,h2,rfl,hs⟩:=hs
  refine zb ?_ (by first|trivial|(repeat (first|exact trivial|exact λ_=>z05 hs|exact λ_=>z0b hs|refine And.intro ?_ ?_)))
  refine zd ?_
  rw [w64 (by omega) (by omega)]
  replace hs:Sat _ (z2d b X::pt a2 (.cells [.int .i64 0,.int .i64 0,.int .i64 0].toArray T.a10)::pt a0 (.cells [.pointer (some ⟨b,0,none⟩)].toArray T.a30)::r):=z8j X (z:=z) hok hs.sub
  refine z8 (z03d (b:=b) ((i:Int)-1) (by omega) hs) λ_ w' hs=>?_
  obtain ⟨rfl,hs⟩:=hs
  have hcut:z33 X.l o=(X.l.take i).getLast? := by
   unfold z33
   rw [zh6 hi (hm.imp λ{a b} hab=>by simp only [decide_eq_true_eq];omega)]
   ·intro h h0
    have:=h1 h0
    rw [List.getD_eq_getElem?_getD,List.getElem?_eq_getElem h] at this
    have:decide (X.l[i-1].offset>o)=false:=this
    simpa using this
   ·intro h
    have:=h2 h
    rw [List.getD_eq_getElem?_getD,List.getElem?_eq_getElem h] at this
    have:decide (X.l[i].offset>o)=true:=this
    simpa using this
  obtain ⟨c1_,c2_⟩:=zvr (l:=X.l) hi
  rw [c1_,c2_,<- hcut]
  refine ⟨((orE (z33 X.l o)).offset,(orE (z33 X.l o)).place,(orE (z33 X.l o)).before,(z33 X.l o).isSome,()),rfl,(by first|trivial|(repeat (first|exact trivial|exact λ_=>z05 hs|exact λ_=>z0b hs|refine And.intro ?_ ?_))),zhe _ _ _ _ ?_⟩
  refine zl hs λw' hs=>?_
  refine wp_lt ?_
  refine zd ?_
  exact zf ⟨rfl,hs.sub⟩
end
structure SegM where
 ix:Nat
 s:SegA
structure LogM where
 d:Nat
 pre:ByteArray
 seg:Int
 gap:Int
 z:Sl
 SM:List (Nat × SegM)
structure LogA where
 d:Nat
 pre:ByteArray
 seg:Int
 gap:Int
 l:List SegA
def LogM.l (M:LogM):List SegA:=M.SM.map λt=>t.2.s
def LogM.A (M:LogM):LogA:=⟨M.d,M.pre,M.seg,M.gap,M.l⟩
def z1n (b:Nat):List Value:=[.pointer (some ⟨b,0,none⟩)]
instance:Enc1 z1n .ptr (λb=>some ⟨b,0,none⟩):=⟨λ_=>rfl⟩
instance:EncN z1n 1:=⟨λ_=>rfl,by decide,by simp [z1n,Value.oneCell']⟩
def z0m (gap:Int) (a:Nat) (t:SegM):HP:=HP.star (pt a (.cells #[.pointer (some ⟨t.ix,0,none⟩),.int .i64 t.s.base,.int .i64 t.s.fin,.int .i64 (z0d t.s.bs),.int .i64 (z1d (-1) t.s.bs),.int .i64 (t.s.file.length:Nat)] T.a52)) (z2d t.ix (t.s.idx gap))
structure okM (gap seg:Int) (pre:ByteArray):Prop where
 gap:1<=gap/\gap<=4194304
 seg:64<=seg/\seg<=4194304
 pre:z3w pre=true
def lgQ (lg:Nat) (M:LogM):HP:=HP.and (okM M.gap M.seg M.pre) (HP.star (pt lg (.cells #[.pointer (some ⟨M.d,0,none⟩),.string M.pre,.int .i64 M.seg,.int .i64 M.gap,.slice M.z.a M.z.len M.z.cap] T.a51))
 (HP.star (slc T.a34 1 M.z ((M.SM.map Prod.fst).flatMap z1n)) (HP.all (M.SM.map λt=>z0m M.gap t.1 t.2))))
def lgP (lg:Nat) (A:LogA):HP:=HP.ex λM:LogM=>HP.and (M.A=A) (lgQ lg M)
def zzc:Option Nat->Option Addr
 | none=>none
 | some b=>some ⟨b,0,none⟩
section
variable {w:World} {l r:List HP} {lg:Nat} {M:LogM} {A:LogA} {gap:Int} {a:Nat} {t:SegM}
theorem z3x (hs:Sat w (z0m gap a t::l)):Sat w (pt a (.cells #[.pointer (some ⟨t.ix,0,none⟩),.int .i64 t.s.base,.int .i64 t.s.fin,.int .i64 (z0d t.s.bs),.int .i64 (z1d (-1) t.s.bs),.int .i64 (t.s.file.length:Nat)] T.a52)::z2d t.ix (t.s.idx gap)::l):=hs.star
theorem z2o (t:SegM) (hs:Sat w (pt a (.cells #[.pointer (some ⟨t.ix,0,none⟩),.int .i64 t.s.base,.int .i64 t.s.fin,.int .i64 (z0d t.s.bs),.int .i64 (z1d (-1) t.s.bs),.int .i64 (t.s.file.length:Nat)] T.a52)::z2d t.ix (t.s.idx gap)::l)):Sat w (z0m gap a t::l):=.star_mk hs
theorem z2r (hs:Sat w (lgQ lg M::l)):okM M.gap M.seg M.pre/\Sat w (pt lg (.cells #[.pointer (some ⟨M.d,0,none⟩),.string M.pre,.int .i64 M.seg,.int .i64 M.gap,.slice M.z.a M.z.len M.z.cap] T.a51)::slc T.a34 1 M.z ((M.SM.map Prod.fst).flatMap z1n)::HP.all (M.SM.map λt=>z0m M.gap t.1 t.2)::l):=by
 obtain ⟨h,hs⟩:=hs.and
 have hs:=hs.star
 exact ⟨h,((hs.pick [1]).star).pick [2]⟩
theorem z1l (M:LogM) (h:okM M.gap M.seg M.pre) (hs:Sat w (pt lg (.cells #[.pointer (some ⟨M.d,0,none⟩),.string M.pre,.int .i64 M.seg,.int .i64 M.gap,.slice M.z.a M.z.len M.z.cap] T.a51)::slc T.a34 1 M.z ((M.SM.map Prod.fst).flatMap z1n)::HP.all (M.SM.map λt=>z0m M.gap t.1 t.2)::l)):Sat w (lgQ lg M::l):=by
 refine .and_mk h (.star_mk ?_)
 exact ((hs.pick [1,1]).star_mk).pick [1]
theorem z7w (hs:Sat w (lgP lg A::l)):∃ M:LogM,M.A=A/\Sat w (lgQ lg M::l):=by
 obtain ⟨M,hs⟩:=hs.ex
 obtain ⟨h,hs⟩:=hs.and
 exact ⟨M,h,hs⟩
theorem z4g (M:LogM) (hs:Sat w (lgQ lg M::l)):Sat w (lgP lg M.A::l):=.ex_mk M (.and_mk rfl hs)
theorem ziy:∀ (j n:Nat),z2w (j+1) n=z66 (n / 16 ^ j % 16)::z2w j n
 | 0,n=>by simp [z2w]
 | j+1,n=>by
  show z2w (j+1) (n / 16)++[z66 (n % 16)]=_
  rw [ziy j (n / 16)]
  have e:n / 16 / 16 ^ j=n / 16 ^ (j+1):=by rw [Nat.div_div_eq_div_mul,Nat.pow_succ,Nat.mul_comm]
  rw [e]
  rfl
theorem z04o (k:Nat) (c:UInt8):∀ (xs:List UInt8),(List.replicate (k+1) (0:UInt8)++xs).set k c=List.replicate k 0++c::xs:=by
 induction k with
 | zero=>intro xs;rfl
 | succ k ih=>intro xs;rw [List.replicate_succ,List.cons_append,List.set_cons_succ,ih,List.replicate_succ,List.cons_append]
theorem z08z (n:Nat) (h:n<18446744073709551616):BitVec.toNat (BitVec.ofInt 64 (n:Int) &&& BitVec.ofInt 64 15)=n % 16:=by
 rw [BitVec.ofInt_natCast,BitVec.toNat_and,BitVec.toNat_ofNat,Nat.mod_eq_of_lt h]
 show n &&& 15=n % 16
 exact Nat.and_two_pow_sub_one_eq_mod n 4
theorem z05c {k:Nat} (h:k<16):bt (ByteArray.mk #[48,49,50,51,52,53,54,55,56,57,97,98,99,100,101,102]) (k:Int)=(((z66 k).toNat:Nat):Int):=by
 have:∀ k:Fin 16,bt (ByteArray.mk #[48,49,50,51,52,53,54,55,56,57,97,98,99,100,101,102]) (k.val:Int)=(((z66 k.val).toNat:Nat):Int):=by decide +kernel
 exact this ⟨k,h⟩
theorem z06z {P:Program} {t el:TypeId} {bytes:Nat} {Q:Post} {S:World->Prop} {k:Sl->Prog} [ht:SlT P t el 1 bytes] [hz:Zer P el (.int .u8 0)] (n:Nat) (hs:Sat w l) (h:∀ x w',Sat w' (slc el 1 x ((List.replicate n (0:UInt8)).flatMap zh)::l)->(k x).wp P S w' Q) (hb:n*bytes<=281474976710656/\n<=9223372036854775807) (hS:∀ w',S w':=by exact λ_=>trivial) :
  (Prog.act (Instr.makeSlice t (.int .i64 (n:Int)) (.int .i64 (n:Int))) sL (u1 k)).wp P S w Q:=by
 obtain ⟨i,z,hi,h2,h3,h4,h5⟩:=ht.parts
 have hz':z=.int .u8 0:=by
  have:=hz.ok
  unfold za3 at this
  rw [hi] at this
  simp only at this
  rw [h4] at this
  exact Option.some.inj this
 have hrun:=run_make (P:=P) w t el i z ht.ok.1 hi h4 .i64 .i64 n n (by omega) (Int.le_refl _) (by rw [h3,<- Int.natCast_mul,Nat.mul_comm];omega) (by omega)
 simp only [Int.toNat_natCast] at hrun
 have hp:=hs.push (o:=.cells (madeCells z.cells (n*i.size)) el) (w':=w.alloc (.cells (madeCells z.cells (n*i.size)) el)) rfl
 refine ⟨(⟨some ⟨w.heap.size,0,none⟩,n,n⟩,()),_,hrun,hS _,h ⟨some ⟨w.heap.size,0,none⟩,n,n⟩ _ ?_⟩
 refine hp.imp λp hp=>.inr ⟨w.heap.size,0,_,_,rfl,hp,by rw [z3u,List.length_replicate],Nat.le_refl _,by rw [size_madeCells,h2];simp,λj hj=>?_,z2v _ _⟩
 rw [z3u,List.length_replicate,Nat.mul_one] at hj
 rw [h2,Nat.mul_one,Nat.zero_add,za9,hz']
 have e1:(madeCells (Value.int .u8 0).cells n)[j]? = some (.int .u8 0):=by
  rw [Array.getElem?_eq_getElem (by rw [size_madeCells];exact hj)]
  simp [madeCells,Value.cells,Nat.mod_one]
 rw [e1,List.getElem?_map,List.getElem?_replicate,if_pos hj]
 rfl
theorem z7z (base:Int) (h:0<=base/\base<17592186044416) (x:ByteArray) (hx:x.size<=100) {d_:Value} {seg gp:Value} {zz:Value} (pre:ByteArray) (hp:pre.size<=100) [hf:FocB l lg (.cells [d_,.string pre,seg,gp,zz].toArray T.a51) r] (hs:Sat w l) :
  Ret P F.a133 #[.pointer (some ⟨lg,0,none⟩),.int .i64 base,.string x] w λvs w'=>vs=[.string (zo pre base (bl x))]/\Sat w' l :=
 zo6 _ base x <| by
  delta z01n AB AC AE AF AG AJ AP AQ AR Aa Ab Ac Ag Ah Aj B2
  refine z06z 11 hs (λz w' hs=>?_) (by omega)
  refine zk (λ_ w'=>Sat w' (slc T.a57 1 z ((z2w 11 base.toNat).flatMap zh)::l)) ?_ ?_
  ·refine z09 (λm v w=>∃ j:Nat,v=(((base.toNat / 16 ^ j:Nat):Int),((10-(j:Int)),()))/\j<=11/\11-j=m/\Sat w (slc T.a57 1 z ((List.replicate (11-j) 0++z2w j base.toNat).flatMap zh)::l)) 11 ⟨0,by rw [Nat.pow_zero,Nat.div_one,Int.toNat_of_nonneg h.1];rfl,by omega,rfl,by simpa [z2w] using hs⟩ ?_
   clear hs
   rintro m _ w ⟨j,rfl,hj,hm,hs⟩
   refine zj ?_
   refine zg (λhc=>?_) λhc=>?_
   rotate_left
   ·have:j=11:=by omega
    subst this
    exact zn (zf (by simpa using hs))
   have hj2:j<=10:=by omega
   have hb:base.toNat / 16 ^ j<18446744073709551616:=by
    have:=Nat.div_le_self base.toNat (16 ^ j)
    omega
   have hmod:=Nat.mod_lt (base.toNat / 16 ^ j) (show 0<16 by omega)
   rw [z08z _ hb,w64 (by omega) (by omega)]
   refine wp_must (by omega) ?_
   rw [z05c hmod]
   refine z06y hs (xs:=List.replicate (11-j) 0++z2w j base.toNat) (enc:=zh) (10-j) (by rw [List.length_append,List.length_replicate];omega) (z66 (base.toNat / 16 ^ j % 16)) λw' hs=>?_
   refine z1u (y:=((base.toNat / 16 ^ (j+1):Nat):Int)) ?_ ?_
   ·refine z1u (y:=10-((j+1:Nat):Int)) ?_ (by rw [w64 (by omega) (by omega)];omega)
    refine z0w (11-(j+1)) ⟨j+1,rfl,by omega,rfl,?_⟩
    have e:=z04o (10-j) (z66 (base.toNat / 16 ^ j % 16)) (z2w j base.toNat)
    rw [show 10-j+1=11-j by omega] at e
    rw [e,<- ziy] at hs
    rw [show 11-(j+1)=10-j by omega]
    exact hs
   ·rw [z7v _ (by omega)]
    show ((base.toNat / 16 ^ j / 16:Nat):Int)=_
    rw [Nat.div_div_eq_div_mul,<- Nat.pow_succ]
  clear hs
  rintro _ w hs
  refine zj ?_
  refine zw hs λw' hs=>?_
  refine zi ?_
  refine za hs ?_
  refine wp_must (by omega) ?_
  refine zmr (bs:=z2w 11 base.toNat) hs ?_
  have h11:=z73 11 base.toNat
  have s1:(pre++ByteArray.mk #[45]).size=pre.size+1:=ByteArray.size_append ..
  have s2:(ByteArray.mk (z2w 11 base.toNat).toArray).size=11:=h11
  refine wp_must (by omega) ?_
  have s3:(pre++ByteArray.mk #[45]++ByteArray.mk (z2w 11 base.toNat).toArray).size=pre.size+12:=by rw [ByteArray.size_append,s1,s2]
  refine wp_must (by omega) ?_
  refine wp_lt ?_
  refine zd ?_
  refine ⟨rfl,?_,hs.tail⟩
  congr 2
  apply zct
  rw [z7t]
  unfold bl
  simp only [ByteArray.data_append,Array.toList_append,List.append_assoc]
  rfl
theorem z09i {a d:Nat} (hd:d<16) (ha:a<576460752303423488):BitVec.toNat (BitVec.ofInt 64 ((a:Int)*16) ||| BitVec.ofInt 64 (d:Int))=16*a+d:=by
 have e:(a:Int)*16=((16*a:Nat):Int):=by omega
 rw [e,BitVec.ofInt_natCast,BitVec.ofInt_natCast,BitVec.toNat_or,BitVec.toNat_ofNat,BitVec.toNat_ofNat,Nat.mod_eq_of_lt (show 16*a<2 ^ 64 by omega),Nat.mod_eq_of_lt (show d<2 ^ 64 by omega)]
 exact (Nat.two_pow_add_eq_or_of_lt (i:=4) hd a).symm
theorem zho:∀ {r:List UInt8} {x v k:Nat},z3m x r=some v->x<16 ^ k->v<16 ^ (k+r.length)
 | [],x,v,k,h,hx=>by simp [z3m] at h;subst h;simpa using hx
 | c::r,x,v,k,h,hx=>by
  unfold z3m at h
  cases hd:z67 c with
  | none=>rw [hd] at h;cases h
  | some d =>
   rw [hd] at h
   have hd:=(z05s hd).2
   have:=zho (k:=k+1) h (by rw [Nat.pow_succ];omega)
   rw [List.length_cons,show k+(r.length+1)=k+1+r.length by omega]
   exact this
theorem zbn (s:ByteArray) (i j:Nat):bl (s.extract i j)=((bl s).drop i).take (j-i):=by
 unfold bl
 rw [ByteArray.data_extract,Array.toList_extract,List.extract_eq_take_drop]
theorem zpp (n x:ByteArray) (hn:n.size<=1000) (hx:x.size<=100) {d_:Value} {seg gp:Value} {zz:Value} (pre:ByteArray) (hp:pre.size<=100) [hf:FocB l lg (.cells [d_,.string pre,seg,gp,zz].toArray T.a51) r] (hs:Sat w l) :
  Ret P F.a128 #[.pointer (some ⟨lg,0,none⟩),.string n,.string x] w λvs w'=>vs=[.int .i64 (((z1c pre n (bl x)).getD 0:Nat):Int),.bool (z1c pre n (bl x)).isSome]/\Sat w' l :=
 zo1 _ n x <| by
  delta z01i AF AI AJ AP AQ AY AZ Aa Ab Ac Ag Ah Aj Ao Az
  refine zi ?_
  refine za hs ?_
  have e1:IntKind.wrap .i64 (((ByteArray.size pre:Nat):Int)+1)=((pre.size+1:Nat):Int):=by rw [w64 (by omega) (by omega)];omega
  have e2:IntKind.wrap .i64 (((pre.size+1:Nat):Int)+11)=((pre.size+12:Nat):Int):=by rw [w64 (by omega) (by omega)];omega
  have e3:IntKind.wrap .i64 (((pre.size+12:Nat):Int)+((ByteArray.size x:Nat):Int))=((pre.size+12+x.size:Nat):Int):=by rw [w64 (by omega) (by omega)];omega
  rw [e1]
  refine wp_lt ?_
  rw [e2,e3]
  refine wp_must ?_ ?_
  ·intro h
   have h:((n.size:Nat):Int)=((pre.size+12+x.size:Nat):Int):=by simpa using h
   omega
  have hb:z1c pre n (bl x)=if n.size=pre.size+12+x.size/\(bl n).drop (pre.size+12)=bl x then z3m 0 (((bl n).drop (pre.size+1)).take 11) else none:=by
   unfold z1c
   rw [z1f,z1f,z1f]
  refine zg (λh=>?_) λh=>?_
  ·have:z1c pre n (bl x)=none:=by
    rw [hb,if_neg]
    rintro ⟨h1,h2⟩
    rcases h with h|h
    ·apply h;rw [h1]
    ·apply h
     rw [Int.toNat_natCast]
     apply zct
     rw [zbn,h2,List.take_of_length_le]
     rw [z1f];omega
   rw [this]
   exact ⟨rfl,rfl,hs⟩
  have h1:n.size=pre.size+12+x.size:=by
   have:¬ (((n.size:Nat):Int)≠((pre.size+12+x.size:Nat):Int)):=λhh=>h (.inl hh)
   omega
  have h2:(bl n).drop (pre.size+12)=bl x:=by
   have h3:ByteArray.extract n (pre.size+12) n.size=x:=by
    apply Decidable.byContradiction
    intro hh
    exact h (.inr (by rw [Int.toNat_natCast];exact hh))
   rw [<- h3,zbn,List.take_of_length_le]
   rw [List.length_drop,z1f];omega
  rw [if_pos ⟨h1,h2⟩] at hb
  refine wp_must (by omega) ?_
  rw [Int.toNat_natCast,Int.toNat_natCast]
  have h4:(ByteArray.extract n (pre.size+1) (pre.size+12)).data.toList=((bl n).drop (pre.size+1)).take 11:=by
   have:=zbn n (pre.size+1) (pre.size+12)
   rw [show pre.size+12-(pre.size+1)=11 by omega] at this
   exact this
  refine zbj hs λy w' hs=>?_
  rw [h4] at hs
  generalize hcs:((bl n).drop (pre.size+1)).take 11=cs at *
  have hcl:cs.length=11:=by rw [<- hcs,List.length_take,List.length_drop,z1f];omega
  have hl:=hs.slen y (xs:=cs) (enc:=zh)
  rw [hb]
  refine zk (λq w'=>∃ v:Nat,z3m 0 cs=some v/\q=((v:Int),())/\Sat w' l) ?_ ?_
  rotate_left
  ·rintro _ w2 ⟨v,hv,rfl,hs⟩
   refine wp_lt ?_
   rw [hv]
   exact ⟨rfl,rfl,hs⟩
  refine z09 (λm q w=>∃ i v:Nat,q=((v:Int),((i:Int),()))/\i<=11/\11-i=m/\z3m 0 (cs.take i)=some v/\Sat w (slc T.a57 1 y (cs.flatMap zh)::l)) 11 ⟨0,0,rfl,by omega,rfl,rfl,hs⟩ ?_
  clear hs
  rintro m _ w ⟨i,v,rfl,hi,hm,hv,hs⟩
  refine zj ?_
  refine zg (λhc=>?_) λhc=>?_
  rotate_left
  ·refine zn (zf ⟨v,?_,rfl,hs.tail⟩)
   rwa [List.take_of_length_le (by omega)] at hv
  have hil:i<cs.length:=by omega
  have hvl:=zho (k:=0) hv (by omega)
  rw [List.length_take] at hvl
  have hvl2:v<1152921504606846976 / 16:=by
   have h5:16 ^ (0+min i cs.length)<=16 ^ 10:=Nat.pow_le_pow_right (by omega) (by omega)
   omega
  have hstep:z3m 0 (cs.take (i+1))=(z67 cs[i]).map λd=>16*v+d:=by
   rw [List.take_succ_eq_append_getElem hil,zfl,hv]
   show z3m v [cs[i]]=_
   unfold z3m
   cases z67 cs[i] <;> rfl
  have hcut:∀ j,z3m 0 (cs.take j)=none->z3m 0 cs=none:=λj hj=>by
   rw [<- List.take_append_drop j cs,zfl,hj];rfl
  refine z1w hs (xs:=cs) (enc:=zh) i hil ?_
  refine wp_lt ?_
  refine wp_lt ?_
  have hgo:∀ {w:World} (d:Nat),z67 cs[i]=some d->Sat w (slc T.a57 1 y (cs.flatMap zh)::l)->∃ i' v':Nat,((((16*v+d:Nat):Int),(((i+1:Nat):Int),())):Int × Int × Unit)=((v':Int),((i':Int),()))/\i'<=11/\11-i'=11-(i+1)/\z3m 0 (cs.take i')=some v'/\Sat w (slc T.a57 1 y (cs.flatMap zh)::l):=λd hd hs =>
   ⟨i+1,16*v+d,rfl,by omega,rfl,by rw [hstep,hd];rfl,hs⟩
  have hcb:=(cs[i]).toNat_lt
  have ei:IntKind.wrap .i64 ((i:Int)+1)=((i+1:Nat):Int):=by rw [w64 (by omega) (by omega)];omega
  refine zk (λq w'=>∃ d:Nat,z67 cs[i]=some d/\q=(((16*v+d:Nat):Int),())/\Sat w' (slc T.a57 1 y (cs.flatMap zh)::l)) ?_ ?_
  rotate_left
  ·rintro _ w2 ⟨d,hd,rfl,hs⟩
   rw [ei]
   exact z0w (11-(i+1)) (hgo d hd hs)
  have hor:∀ d:Nat,d<16->IntKind.wrap .i64 (((BitVec.toNat (BitVec.ofInt 64 (IntKind.wrap .i64 ((v:Int)*16)) ||| BitVec.ofInt 64 (d:Int)):Nat):Int))=((16*v+d:Nat):Int):=λd hd=>by
   rw [w64 (x:=(v:Int)*16) (by omega) (by omega),z09i hd (by omega),w64 (by omega) (by omega)]
  refine zg (λh5=>?_) λh5=>?_
  ·have hd:z67 cs[i]=some ((cs[i]).toNat-48):=by unfold z67;rw [if_pos (by omega)]
   have e5:IntKind.wrap .i64 (IntKind.wrap .u8 ((((cs[i]).toNat:Nat):Int)-48))=(((cs[i]).toNat-48:Nat):Int):=by
    rw [wu8 (by omega) (by omega),w64 (by omega) (by omega)];omega
   rw [e5]
   refine z1u (y:=((16*v+((cs[i]).toNat-48):Nat):Int)) ?_ (hor _ (by omega))
   exact zf ⟨_,hd,rfl,hs⟩
  refine wp_lt ?_
  refine zg (λh6=>?_) λh6=>?_
  ·have hd:z67 cs[i]=some ((cs[i]).toNat-87):=by unfold z67;rw [if_neg (by omega),if_pos (by omega)]
   have e5:IntKind.wrap .i64 (IntKind.wrap .u8 (IntKind.wrap .u8 ((((cs[i]).toNat:Nat):Int)-97)+10))=(((cs[i]).toNat-87:Nat):Int):=by
    rw [wu8 (x:=(((cs[i]).toNat:Nat):Int)-97) (by omega) (by omega),wu8 (by omega) (by omega),w64 (by omega) (by omega)];omega
   rw [e5]
   refine z1u (y:=((16*v+((cs[i]).toNat-87):Nat):Int)) ?_ (hor _ (by omega))
   exact zf ⟨_,hd,rfl,hs⟩
  ·have hd:z67 cs[i]=none:=by unfold z67;rw [if_neg (by omega),if_neg (by omega)]
   have hno:z3m 0 cs=none:=hcut (i+1) (by rw [hstep,hd];rfl)
   rw [hno]
   exact zn (zn (zn ⟨rfl,rfl,hs.tail⟩))
theorem zlb (base fin:Int) (hb:0<=base/\base<9223372036854775808) (hf:0<=fin/\fin<9223372036854775808) (hs:Sat w l):Ret P F.a141 #[.int .i64 base,.int .i64 fin] w λvs w'=>∃ z:Sl,vs=[z.v]/\Sat w' (slc T.a57 1 z ((shL base fin).flatMap zh)::l) :=
 zoe base fin <| by
  delta z01v AP Ab Ay
  refine z88 hs (enc:=zh) [(83:UInt8)] λz1 w' hs=>?_
  refine z8 (z3j base hb hs) λ_ w' hs=>?_
  obtain ⟨z2,rfl,hs⟩:=hs
  refine zb ?_
  refine z8 (z3j fin hf hs) λ_ w' hs=>?_
  obtain ⟨z3,rfl,hs⟩:=hs
  refine zb ?_
  refine z88 hs (enc:=z0c) [z1,z2,z3] λz4 w' hs=>?_
  have u1_:=z11 base
  have u2_:=z11 fin
  have f1:FocR (slc T.a49 1 z4 ([z1,z2,z3].flatMap z0c)::slc T.a57 1 z3 ((uI fin).flatMap zh)::slc T.a57 1 z2 ((uI base).flatMap zh)::slc T.a57 1 z1 (([83]:List UInt8).flatMap zh)::l) z1 1 (([83]:List UInt8).flatMap zh):=inferInstance
  have f2:FocR (slc T.a49 1 z4 ([z1,z2,z3].flatMap z0c)::slc T.a57 1 z3 ((uI fin).flatMap zh)::slc T.a57 1 z2 ((uI base).flatMap zh)::slc T.a57 1 z1 (([83]:List UInt8).flatMap zh)::l) z2 1 ((uI base).flatMap zh):=inferInstance
  have f3:FocR (slc T.a49 1 z4 ([z1,z2,z3].flatMap z0c)::slc T.a57 1 z3 ((uI fin).flatMap zh)::slc T.a57 1 z2 ((uI base).flatMap zh)::slc T.a57 1 z1 (([83]:List UInt8).flatMap zh)::l) z3 1 ((uI fin).flatMap zh):=inferInstance
  refine z8 (zq0 z4 [(z1,[83]),(z2,uI base),(z3,uI fin)] (λp hp=>?_) (by show 3<=1000000;omega) hs) λ_ w' hs=>?_
  ·simp only [List.mem_cons,List.not_mem_nil,or_false] at hp
   rcases hp with rfl|rfl|rfl
   ·exact ⟨f1,by show (1:Nat)<=_;omega⟩
   ·exact ⟨f2,by show (uI base).length<=_;omega⟩
   ·exact ⟨f3,by show (uI fin).length<=_;omega⟩
  obtain ⟨z5,rfl,hs⟩:=hs
  refine zb ?_
  refine ⟨rfl,z5,rfl,?_⟩
  have e:([(z1,[83]),(z2,uI base),(z3,uI fin)]:List (Sl × List UInt8)).flatMap Prod.snd=shB base fin:=by simp [shB]
  rw [e] at hs
  have hs:Sat _ (slc T.a57 1 z5 ((shL base fin).flatMap zh)::_):=hs
  exact hs.sub
theorem zya (x:Sl) (body:List UInt8) (base:Int) (hb:0<=base/\base<9223372036854775808) [hx:FocR l x 1 (body.flatMap zh)] (hn:body.length<=1000000000) (hs:Sat w l) :
  Ret P F.a142 #[x.v,.int .i64 base] w λvs w'=>∃ v:Int,vs=[.int .i64 v,.bool (z5s base body).isSome]/\(∀ f,z5s base body=some f->v=f)/\Sat w' l :=
 zof x base <| by
  delta z01w AF AU Aa Ab Ac Ad Ah Ai Ao B1 Bj
  refine z8 (zlk x body hn hs) λ_ w' hs=>?_
  obtain ⟨p,rfl,hs⟩:=hs
  refine zb ?_
  refine z8 (zhk (p:=p) hs) λ_ _ hs=>?_
  obtain ⟨rfl,hs⟩:=hs
  refine zb ?_
  refine z8 (z9g (p:=p) hs) λ_ _ hs=>?_
  obtain ⟨rfl,hs⟩:=hs
  refine zb ?_
  refine z8 (z9g (p:=p) hs) λ_ _ hs=>?_
  obtain ⟨rfl,hs⟩:=hs
  refine zb ?_
  refine wp_lt ?_
  refine wp_lt ?_
  refine wp_lt ?_
  refine z8 (zkz (p:=p) hs) λ_ w' hs=>?_
  obtain ⟨e,rfl,he,hs⟩:=hs
  refine zb ?_
  have eh:z5s base body=if (zv (zv (z0u (some body)).2).2).2=some []/\(z0u (some body)).1=83/\((zv (z0u (some body)).2).1:Int)=base/\base<=1099511627776/\(zv (zv (z0u (some body)).2).2).1<=1099511627776/\((zv (zv (z0u (some body)).2).2).1=0\/base<(zv (zv (z0u (some body)).2).2).1) then some ((zv (zv (z0u (some body)).2).2).1:Int) else none:=rfl
  generalize z5s base body=HS at eh he ⊢
  generalize z0u (some body)=k at eh he ⊢
  generalize zv k.2=m at eh he ⊢
  generalize zv m.2=q at eh he ⊢
  have ew:IntKind.wrap .u64 base=base:=zi8 (by omega) (by omega)
  rw [ew]
  refine zg (λh=>?_) λh=>?_
  ·have:HS=none:=by
    rw [eh,if_neg]
    rintro ⟨h1,h2,h3,h4,h5,-⟩
    have h6:=he.2 h1
    rcases h with (((h|h)|h)|h)|h
    ·exact h h6
    ·apply h;rw [h2];rfl
    ·exact h h3
    ·omega
    ·omega
   rw [this]
   exact ⟨rfl,0,rfl,(λf hf=>by cases hf),hs⟩
  have h1:q.2=some []:=he.1 (Decidable.byContradiction λhh=>h (.inl (.inl (.inl (.inl hh)))))
  have h2:k.1=83:=by
   have:((k.1:Nat):Int)=83:=Decidable.byContradiction λhh=>h (.inl (.inl (.inl (.inr hh))))
   omega
  have h3:((m.1:Nat):Int)=base:=Decidable.byContradiction λhh=>h (.inl (.inl (.inr hh)))
  have h4:base<=1099511627776:=by
   apply Decidable.byContradiction;intro hh;exact h (.inl (.inr (by omega)))
  have h5:q.1<=1099511627776:=by
   apply Decidable.byContradiction;intro hh;exact h (.inr (by omega))
  rw [w64 (by omega) (by omega)]
  refine wp_lt ?_
  refine wp_lt ?_
  refine ⟨rfl,((q.1:Nat):Int),?_,?_,hs⟩
  ·congr 2
   rw [eh]
   by_cases h6:q.1=0\/base<q.1
   ·rw [if_pos ⟨h1,h2,h3,h4,h5,h6⟩]
    have:(((q.1:Nat):Int) == 0 || decide (((q.1:Nat):Int)>base))=true:=by
     rw [Bool.or_eq_true,beq_iff_eq,decide_eq_true_eq];omega
    rw [this];rfl
   ·rw [if_neg λhh=>h6 hh.2.2.2.2.2]
    have:(((q.1:Nat):Int) == 0 || decide (((q.1:Nat):Int)>base))=false:=by
     rw [Bool.or_eq_false_iff,beq_eq_false_iff_ne,decide_eq_false_iff_not];omega
    rw [this];rfl
  ·intro f hf
   rw [eh] at hf
   split at hf
   ·exact Option.some.inj hf
   ·cases hf
theorem zsx (x:Int) (rs:List RecM) (i:Nat) (hi:i<rs.length):z5w x (rs.take (i+1))=max (z5w x (rs.take i)) rs[i].time:=by
 rw [List.take_succ_eq_append_getElem hi]
 unfold z5w
 rw [List.foldl_append]
 rfl
theorem zyj (b:BatM) [hb:FocR l b.x 4 (b.rs.flatMap z00)] (hlen:b.rs.length<=1000000000) (hs:Sat w l):Ret P F.a143 #[.agg (zr b).toArray] w λvs w'=>vs=[.int .i64 (z35 b)]/\Sat w' l :=
 zog b.base b.pid b.epoch b.seq b.kind b.time b.x <| by
  delta z01x AD AF AI AJ AW Aa Ab Ac Ae Ag Ah Ar Au Ax Bo Bp
  have hl:=hs.slen b.x (xs:=b.rs) (enc:=z00)
  refine zp hs λa0 w' hs=>?_
  refine za hs ?_
  refine zk (λq w'=>q=(z5w (-1) b.rs,())/\Sat w' (pt a0 (.cells (cB b) T.a0)::l)) ?_ ?_
  ·refine z09 (λm v w=>∃ i:Nat,v=(z5w (-1) (b.rs.take i),((i:Int),()))/\i<=b.rs.length/\b.rs.length-i=m/\Sat w (pt a0 (.cells (cB b) T.a0)::l)) b.rs.length ⟨0,rfl,by omega,rfl,hs⟩ ?_
   clear hs
   rintro m _ w ⟨i,rfl,hi,hm,hs⟩
   refine zj ?_
   refine zg (λhc=>?_) λhc=>?_
   rotate_left
   ·refine zn (zf ⟨?_,hs⟩)
    rw [List.take_of_length_le (by omega)]
   have hil:i<b.rs.length:=by omega
   refine z39 hs (xs:=b.rs) (enc:=z00) i hil ?_
   refine zm hs λc w' hs=>?_
   refine zl hs λw' hs=>?_
   refine za hs ?_
   refine z1u (y:=z5w (-1) (b.rs.take (i+1))) ?_ (by rw [zsx _ _ _ hil];split <;> omega)
   rw [wS (i:=i) (by omega)]
   exact z0w (b.rs.length-(i+1)) ⟨i+1,rfl,by omega,rfl,hs.sub⟩
  clear hs
  rintro _ w ⟨rfl,hs⟩
  refine zj ?_
  refine za hs ?_
  refine zk (λq w'=>q=(z35 b,())/\Sat w' (pt a0 (.cells (cB b) T.a0)::l)) ?_ ?_
  ·unfold z35
   refine zg (λh=>?_) λh=>?_
   ·refine za hs ?_
    refine wp_lt ?_
    refine zf ⟨?_,hs⟩
    rw [if_pos (List.length_eq_zero_iff.1 (by omega))]
   ·refine zf ⟨?_,hs⟩
    rw [if_neg (by rintro h0;rw [h0] at hl;simp at hl;omega)]
  rintro _ w2 ⟨rfl,hs⟩
  refine wp_lt ?_
  exact ⟨rfl,rfl,hs.tail⟩
theorem z060 (seg gap:Int) (hs:Sat w l):Ret P F.a144 #[.agg #[.int .i64 seg,.int .i64 gap]] w λvs w'=>vs=[.bool (decide ((64<=seg/\seg<=4194304)/\(1<=gap/\gap<=4194304)))]/\Sat w' l :=
 zoh seg gap <| by
  delta z01y AD Ab Ae Ao Br Bz
  refine zp hs λa0 w' hs=>?_
  refine za hs ?_
  refine za hs ?_
  refine za hs ?_
  refine za hs ?_
  refine wp_lt ?_
  refine ⟨rfl,?_,hs.tail⟩
  congr 2
  rw [Bool.eq_iff_iff,decide_eq_true_iff]
  simp only [Bool.and_eq_true,decide_eq_true_eq]
  omega
theorem zzb (s:ByteArray) (hs:Sat w l):Ret P F.a140 #[.string s] w λvs w'=>vs=[.bool (z3w s)]/\Sat w' l :=
 zod s <| by
  delta z01u AB AF AO AP AY AZ Aa Ab Ac Ag
  unfold z3w
  refine zg (λh=>?_) λh=>?_
  ·rw [decide_eq_false (by omega),Bool.false_and]
   exact ⟨rfl,rfl,hs⟩
  rw [decide_eq_true (by omega),Bool.true_and]
  refine zbj hs λx w' hs=>?_
  have hl:=hs.slen x (xs:=bl s) (enc:=zh)
  have hsz:=z1f s
  refine zk (λ_ w'=>((bl s).all λc=>(97<=c.toNat && c.toNat<=122) || (48<=c.toNat && c.toNat<=57))=true/\Sat w' l) ?_ ?_
  rotate_left
  ·rintro _ w2 ⟨h2,hs⟩
   rw [h2]
   exact ⟨rfl,rfl,hs⟩
  refine z09 (λm v w=>∃ i:Nat,v=((i:Int),())/\i<=(bl s).length/\(bl s).length-i=m/\(((bl s).take i).all λc=>(97<=c.toNat && c.toNat<=122) || (48<=c.toNat && c.toNat<=57))=true/\Sat w (slc T.a57 1 x ((bl s).flatMap zh)::l)) (bl s).length ⟨0,rfl,by omega,rfl,rfl,hs⟩ ?_
  clear hs
  rintro m _ w ⟨i,rfl,hi,hm,hall,hs⟩
  refine zj ?_
  refine zg (λhc=>?_) λhc=>?_
  rotate_left
  ·refine zn (zf ⟨?_,hs.tail⟩)
   rwa [List.take_of_length_le (by omega)] at hall
  have hil:i<(bl s).length:=by omega
  refine z1w hs (xs:=bl s) (enc:=zh) i hil ?_
  refine wp_lt ?_
  have hstep:(((bl s).take (i+1)).all λc=>(97<=c.toNat && c.toNat<=122) || (48<=c.toNat && c.toNat<=57))=((97<=(bl s)[i].toNat && (bl s)[i].toNat<=122) || (48<=(bl s)[i].toNat && (bl s)[i].toNat<=57)):=by
   rw [List.take_succ_eq_append_getElem hil,List.all_append,hall]
   simp
  refine zdr (λh3=>?_) λh3=>?_
  ·refine zn (zn ⟨rfl,?_,hs.tail⟩)
   have hf:((97<=(bl s)[i].toNat && (bl s)[i].toNat<=122) || (48<=(bl s)[i].toNat && (bl s)[i].toNat<=57))=false:=by
    rw [Bool.eq_false_iff]
    intro hh
    simp only [Bool.not_eq_true',Bool.or_eq_false_iff,Bool.and_eq_false_iff,decide_eq_false_iff_not] at h3
    simp only [Bool.or_eq_true,Bool.and_eq_true,decide_eq_true_eq] at hh
    omega
   have:((bl s).all λc=>(97<=c.toNat && c.toNat<=122) || (48<=c.toNat && c.toNat<=57))=false:=by
    rw [<- List.take_append_drop (i+1) (bl s),List.all_append,hstep,hf]
    rfl
   rw [this]
  ·rw [wS (i:=i) (by omega)]
   refine z0w ((bl s).length-(i+1)) ⟨i+1,rfl,by omega,rfl,?_,hs⟩
   rw [hstep]
   simp only [Bool.not_eq_false',Bool.or_eq_true,Bool.and_eq_true,decide_eq_true_eq] at h3
   simp only [Bool.or_eq_true,Bool.and_eq_true,decide_eq_true_eq]
   omega
end
instance (priority:=low) AddrIs.adds {a:Addr} {b off n:Nat} [h:AddrIs a b off]:AddrIs (a.add n) b (off+n):=⟨by rw [h.ok,z4c]⟩
section
variable {P:Program} {w:World} {Q:Post} {S:World->Prop}
theorem zt2 {g:Prop} {o:Option Addr} {f:Addr->Prog} (h:(f ⟨0,0,none⟩).wp P S w Q) (hg:¬ g):(Prog.ex [.adr] (c1 λx=>g->o=some x) (u1 f)).wp P S w Q:=⟨(⟨0,0,none⟩,()),λh=>absurd h hg,h⟩
theorem zt1 {g:Prop} {m:Sem Value} {p:Pr} {f:p.D->Prog} (x:p.D) (hg:¬ g) (h:(f x).wp P S w Q):(Prog.read g m (.one (.one p)) (u1 f)).wp P S w Q:=⟨(x,()),λh=>absurd h hg,h⟩
end
def SegA.add (s:SegA) (bs:List BatM):SegA:=⟨s.base,s.fin,s.bs++bs.map BatM.p⟩
theorem zhh (s:SegA):s.add []=s:=by unfold SegA.add;simp
theorem zpm (s:SegA) (a b:List BatM):(s.add a).add b=s.add (a++b):=by unfold SegA.add;simp
theorem zl8 (bs:List BatM):(bs.map BatM.p).flatMap frL=bs.flatMap frL:=by
 rw [List.flatMap_map];rfl
theorem z72 (s:SegA) (bs:List BatM):(s.add bs).file=s.file++bs.flatMap frL:=by
 unfold SegA.file SegA.add
 simp only [List.flatMap_append,zl8,List.append_assoc]
theorem z03o (gap:Int) (s:SegA) (b:BatM):(s.add [b]).idx gap=(zac (s.idx gap) b.base (s.file.length:Nat) (z35 b)).2:=by
 unfold SegA.idx SegA.add
 show zbv (zd9 gap) _ (s.bs++[b.p])=_
 rw [zda,z2l]
 rw [show ((((shL s.base s.fin).length+(s.bs.flatMap frL).length:Nat)):Int)=((shL s.base s.fin).length:Int)+((s.bs.flatMap frL).length:Int) by omega]
 rfl
theorem zao {α β:Type} (f:α->β) (l:List α):(l.map f).getLast? = l.getLast?.map f:=by simp
section
variable {w:World} {l r:List HP} {lg:Nat} {M:LogM} {A:LogA} {gap:Int} {a:Nat} {t:SegM}
theorem z04f [hf:Fo l (z0m gap) a t r] (hs:Sat w l):Ret P F.a146 #[.pointer (some ⟨a,0,none⟩)] w λvs w'=>vs=[.int .i64 t.s.reach]/\Sat w' (z0m gap a t::r) :=
 zoj _ <| by
  delta z020 AC AD AG Ab Ac Ah Aj
  have hs:=z3x (hs.perm hf.perm)
  refine zw hs λw' hs=>?_
  refine zi ?_
  refine za hs ?_
  refine zi ?_
  refine za hs ?_
  refine zi ?_
  refine za hs ?_
  refine z1u (y:=t.s.reach) ?_ (by unfold SegA.reach;split <;> split <;> omega)
  refine zd ?_
  exact ⟨rfl,rfl,z2o t hs⟩
theorem zll (base fin:Int) (hb:0<=base/\base<9223372036854775808) (hf':0<=fin/\fin<9223372036854775808) [hf:Fo l lgQ lg M r] (hs:Sat w l) :
  Ret P F.a137 #[.pointer (some ⟨lg,0,none⟩),.int .i64 base,.int .i64 fin] w λvs w'=>∃ a ix,vs=[.pointer (some ⟨a,0,none⟩)]/\Sat w' (z0m M.gap a ⟨ix,⟨base,fin,[]⟩⟩::lgQ lg M::r) :=
 zoa _ base fin <| by
  delta z01r AD Ab Ac Ad Ae Af Ag Ah Aj Ay BC
  obtain ⟨hok,hs⟩:=z2r (hs.perm hf.perm)
  refine zi ?_
  refine za hs ?_
  refine z8 (z05v M.gap hok.gap hs) λ_ w' hs=>?_
  obtain ⟨ix,rfl,hs⟩:=hs
  refine zb ?_
  refine wp_lt ?_
  refine z8 (zlb base fin hb hf' hs) λ_ w' hs=>?_
  obtain ⟨z,rfl,hs⟩:=hs
  refine zb ?_
  have hl:=hs.slen z (xs:=shL base fin) (enc:=zh)
  refine zp hs λa w' hs=>?_
  refine ⟨rfl,a,ix,rfl,?_⟩
  have hs:Sat w' (pt a (.cells #[.pointer (some ⟨ix,0,none⟩),.int .i64 base,.int .i64 fin,.int .i64 (z0d []),.int .i64 (z1d (-1) []),.int .i64 ((SegA.file ⟨base,fin,[]⟩).length:Nat)] T.a52)::slc T.a57 1 z ((shL base fin).flatMap zh)::z2d ix ((SegA.mk base fin []).idx M.gap)::pt lg (.cells #[.pointer (some ⟨M.d,0,none⟩),.string M.pre,.int .i64 M.seg,.int .i64 M.gap,.slice M.z.a M.z.len M.z.cap] T.a51)::slc T.a34 1 M.z ((M.SM.map Prod.fst).flatMap z1n)::HP.all (M.SM.map λt=>z0m M.gap t.1 t.2)::r):=by
   have e:(SegA.file ⟨base,fin,[]⟩).length=z.len:=by rw [z2l,hl];simp
   rw [e]
   exact hs
  have hs:=z1l M hok (hs.pick [3,3,3])
  exact z2o ⟨ix,⟨base,fin,[]⟩⟩ (hs.sub)
theorem zx4 (b:BatM) (hv:z04 b=0) [hf:Fo l (z0m gap) a t r] [hb:FocR r b.x 4 (b.rs.flatMap z00)] (hlen:t.s.file.length+(frL b).length<=1000000000) (hs:Sat w l) :
  Ret P F.a147 #[.pointer (some ⟨a,0,none⟩),.agg (zr b).toArray,.int .i64 ((frL b).length:Nat)] w λvs w'=>vs=[]/\Sat w' (z0m gap a ⟨t.ix,t.s.add [b]⟩::r) :=
 zok _ b.base b.pid b.epoch b.seq b.kind b.time b.x _ <| by
  delta z021 AC AD AE AF AG AW Ab Ac Ad Ae Ah Ai Aj Bn Bw
  obtain ⟨h64,-⟩:=z26 hv
  obtain ⟨-,-,⟨-,hba,-⟩,-,-⟩:=z17 b hv
  have hs:=z3x (hs.perm hf.perm)
  refine zp hs λa0 w' hs=>?_
  refine ze hs ?_
  refine z8 (zyj b (by omega) hs) λ_ w' hs=>?_
  obtain ⟨rfl,hs⟩:=hs
  refine zb ?_
  refine wp_lt ?_
  refine zw hs λw' hs=>?_
  refine zi ?_
  refine za hs ?_
  refine za hs ?_
  refine zi ?_
  refine za hs ?_
  refine z8 (z065 (b:=t.ix) b.base ((t.s.file.length:Nat):Int) (z35 b) (by omega) (by omega) hs) λ_ w' hs=>?_
  obtain ⟨rfl,hs⟩:=hs
  refine zb ?_
  refine zd ?_
  refine ze hs ?_
  refine z8 (z9e b hs) λ_ w' hs=>?_
  obtain ⟨rfl,hs⟩:=hs
  refine zb ?_
  refine zi ?_
  refine z02 hs λw' hs=>?_
  refine zi ?_
  refine za hs ?_
  refine zi ?_
  refine z02 hs λw' hs=>?_
  refine zi ?_
  refine za hs ?_
  refine zi ?_
  rw [w64 (by omega) (by omega)]
  refine z02 hs λw' hs=>?_
  refine ⟨rfl,rfl,?_⟩
  have e1:z1p b=z0d (t.s.add [b]).bs:=by
   show _=z0d (t.s.bs++[b.p])
   rw [z3n]
   unfold z1p
   rw [if_neg (by rw [hv];simp)]
   rfl
  have e2:(if z35 b>z1d (-1) t.s.bs then z35 b else z1d (-1) t.s.bs)=z1d (-1) (t.s.add [b]).bs:=by
   show _=z1d (-1) (t.s.bs++[b.p])
   rw [zgt]
   show _=max _ (z35 b)
   split <;> omega
  have e3:((t.s.file.length:Nat):Int)+((frL b).length:Nat)=(((t.s.add [b]).file.length:Nat):Int):=by
   rw [z72,List.length_append];simp
  rw [e1,e2,e3,<- z03o] at hs
  have hs:Sat w' (pt a (.cells #[.pointer (some ⟨t.ix,0,none⟩),.int .i64 (t.s.add [b]).base,.int .i64 (t.s.add [b]).fin,.int .i64 (z0d (t.s.add [b]).bs),.int .i64 (z1d (-1) (t.s.add [b]).bs),.int .i64 ((t.s.add [b]).file.length:Nat)] T.a52)::_):=hs
  refine z2o ⟨t.ix,t.s.add [b]⟩ ?_
  exact hs.sub
theorem zgs [hf:Fo l lgQ lg M r] (hlen:M.SM.length<=1000000000) (hs:Sat w l):Ret P F.a132 #[.pointer (some ⟨lg,0,none⟩)] w λvs w'=>vs=[.pointer (zzc (M.SM.getLast?.map Prod.fst))]/\Sat w' (lgQ lg M::r) :=
 zo5 _ <| by
  delta z01m AC AF AG Aa Ab Ad Ag Aj Ax Bw
  obtain ⟨hok,hs⟩:=z2r (hs.perm hf.perm)
  have hl:=hs.slen M.z (xs:=M.SM.map Prod.fst) (enc:=z1n)
  rw [List.length_map] at hl
  refine zi ?_
  refine za hs ?_
  refine zg (λh=>?_) λh=>?_
  ·have:M.SM=[]:=List.length_eq_zero_iff.1 (by omega)
   rw [this]
   rw [this] at hs
   have hs:=z1l M hok (by rw [this];exact hs)
   exact ⟨rfl,rfl,hs⟩
  have h0:0<M.SM.length:=by omega
  refine zw hs λw' hs=>?_
  refine zi ?_
  refine za hs ?_
  refine zi ?_
  refine za hs ?_
  rw [w64 (by omega) (by omega)]
  refine z1w hs (xs:=M.SM.map Prod.fst) (enc:=z1n) (M.SM.length-1) (by rw [List.length_map];omega) ?_
  refine zd ?_
  refine ⟨rfl,?_,z1l M hok hs⟩
  have e:M.SM.getLast?.map Prod.fst=some ((M.SM.map Prod.fst)[M.SM.length-1]'(by rw [List.length_map];omega)):=by
   rw [List.getLast?_eq_getElem?,List.getElem?_eq_getElem (by omega)]
   simp
  rw [e]
  rfl
theorem z9v {SM:List (Nat × SegM)} (hs:Sat w (HP.all (SM.map λt=>z0m gap t.1 t.2)::l)) {i:Nat} (hi:i<SM.length) :
  Sat w (z0m gap SM[i].1 SM[i].2::HP.all ((SM.eraseIdx i).map λt=>z0m gap t.1 t.2)::l):=by
 exact ((hs.all_perm ((z6z hi).map _))).all_cons
theorem z76 {SM:List (Nat × SegM)} {i:Nat} (hi:i<SM.length) (hs:Sat w (z0m gap SM[i].1 SM[i].2::HP.all ((SM.eraseIdx i).map λt=>z0m gap t.1 t.2)::l)) :
  Sat w (HP.all (SM.map λt=>z0m gap t.1 t.2)::l):=by
 have h1:Sat w (HP.all ((SM[i]::SM.eraseIdx i).map λt=>z0m gap t.1 t.2)::l):=hs.all_put
 exact h1.all_perm ((z6z hi).symm.map _)
theorem zhm [hf:Fo l lgQ lg M r] (hs:Sat w l):Ret P F.a122 #[.pointer (some ⟨lg,0,none⟩)] w λvs w'=>vs=[.int .i64 (z15 M.l)]/\Sat w' (lgQ lg M::r) :=
 znv _ <| by
  delta z01c AD AX Aa Ab Ac Ag Ah Aj Ap Ax Bw
  obtain ⟨hok,hs⟩:=z2r (hs.perm hf.perm)
  have hl:=hs.slen M.z (xs:=M.SM.map Prod.fst) (enc:=z1n)
  rw [List.length_map] at hl
  refine z0j ?_
  refine za hs ?_
  refine zg (λh=>?_) λh=>?_
  ·have h:M.SM=[]:=by
    rcases h with h|h
    ·cases h
    ·exact List.length_eq_zero_iff.1 (by omega)
   have e:z15 M.l=0:=by unfold LogM.l;rw [h];rfl
   rw [e]
   exact ⟨rfl,rfl,z1l M hok hs⟩
  have h0:0<M.SM.length:=by
   apply Nat.pos_of_ne_zero
   intro h1
   exact h (.inr (by omega))
  refine zi ?_
  refine za hs ?_
  refine z87 hs (xs:=M.SM.map Prod.fst) (enc:=z1n) 0 (by rw [List.length_map];exact h0) ?_ rfl rfl
  have e0:(M.SM.map Prod.fst)[0]'(by rw [List.length_map];exact h0)=M.SM[0].1:=by simp
  rw [e0]
  refine zi ?_
  have hs:=z3x (z9v (hs.pick [2]) h0)
  refine za hs ?_
  refine wp_lt ?_
  have e:z15 M.l=M.SM[0].2.s.base:=by
   obtain ⟨x,xs,hx⟩:=List.exists_cons_of_length_pos h0
   simp only [LogM.l,hx,List.map_cons,z15,List.getElem_cons_zero]
  rw [e]
  refine ⟨rfl,rfl,?_⟩
  have hs:=z76 h0 (z2o M.SM[0].2 hs)
  exact z1l M hok (hs.pick [1,1])
theorem zb7 [hf:Fo l lgQ lg M r] (hlen:M.SM.length<=1000000000) (hs:Sat w l):Ret P F.a123 #[.pointer (some ⟨lg,0,none⟩)] w λvs w'=>vs=[.int .i64 (zt M.l)]/\Sat w' (lgQ lg M::r) :=
 znw _ <| by
  delta z01d AX Aa Ab Ac Ad Ag Ah Ai Ap B1
  obtain ⟨hok,hs⟩:=z2r (hs.perm hf.perm)
  have hl:=hs.slen M.z (xs:=M.SM.map Prod.fst) (enc:=z1n)
  rw [List.length_map] at hl
  refine z0j ?_
  refine za hs ?_
  refine zg (λh=>?_) λh=>?_
  ·have h:M.SM=[]:=by
    rcases h with h|h
    ·cases h
    ·exact List.length_eq_zero_iff.1 (by omega)
   have e:zt M.l=0:=by unfold LogM.l;rw [h];rfl
   rw [e]
   exact ⟨rfl,rfl,z1l M hok hs⟩
  have h0:0<M.SM.length:=by
   apply Nat.pos_of_ne_zero
   intro h1
   exact h (.inr (by omega))
  have hs:=z1l M hok hs
  refine z8 (zgs (lg:=lg) hlen hs) λ_ w' hs=>?_
  obtain ⟨rfl,hs⟩:=hs
  refine zb ?_
  have e1:M.SM.getLast? = some (M.SM[M.SM.length-1]'(by omega)):=by
   rw [List.getLast?_eq_getElem?,List.getElem?_eq_getElem (by omega)]
  rw [e1]
  obtain ⟨-,hs⟩:=z2r hs
  have hs:=z9v (hs.pick [2]) (show M.SM.length-1<M.SM.length by omega)
  refine z8 (z04f (gap:=M.gap) (a:=M.SM[M.SM.length-1].1) hs) λ_ w' hs=>?_
  obtain ⟨rfl,hs⟩:=hs
  refine zb ?_
  refine wp_lt ?_
  have e:zt M.l=(M.SM[M.SM.length-1]'(by omega)).2.s.reach:=by
   unfold LogM.l zt
   rw [zao,e1]
   rfl
  rw [e]
  have hs:=z76 (show M.SM.length-1<M.SM.length by omega) hs
  exact ⟨rfl,rfl,z1l M hok (hs.pick [1,1])⟩
def z70 (seg:Int) (l:List SegA) (n:Nat):Bool:=match l.getLast? with
 | none=>false
 | some s=>decide (z0d s.bs=0) || decide (((s.file.length+n:Nat):Int)<=seg)
theorem z05n (n:Nat) (hn:n<=1000000000) [hf:Fo l lgQ lg M r] (hlen:M.SM.length<=1000000000) (hfl:∀ s ∈ M.l,s.file.length<=1000000000) (hs:Sat w l):Ret P F.a131 #[.pointer (some ⟨lg,0,none⟩),.int .i64 (n:Int)] w λvs w'=>vs=[.bool (z70 M.seg M.l n)]/\Sat w' (lgQ lg M::r) :=
 zo4 _ _ <| by
  delta z01l AC AF AG Ab Ad Ao Ap B1 Bz
  refine z8 (zgs (lg:=lg) hlen hs) λ_ w' hs=>?_
  obtain ⟨rfl,hs⟩:=hs
  refine zb ?_
  refine zw hs λw' hs=>?_
  by_cases h0:M.SM=[]
  ·have e:z70 M.seg M.l n=false:=by unfold LogM.l z70;rw [h0];rfl
   rw [e,h0]
   refine zt2 ?_ (λh=>by cases h)
   refine zt1 (0:Int) (λh=>by cases h) ?_
   refine zt2 ?_ (λh=>by cases h.1)
   refine zt1 (0:Int) (λh=>by cases h.1) ?_
   refine zt2 ?_ (λh=>by cases h.1)
   refine zt1 (0:Int) (λh=>by cases h.1) ?_
   refine wp_lt ?_
   refine zd ?_
   exact ⟨rfl,rfl,hs⟩
  have hp:=List.length_pos_iff.2 h0
  have e1:M.SM.getLast? = some (M.SM[M.SM.length-1]'(by omega)):=by
   rw [List.getLast?_eq_getElem?,List.getElem?_eq_getElem (by omega)]
  have e:z70 M.seg M.l n=(decide (z0d (M.SM[M.SM.length-1]'(by omega)).2.s.bs=0) || decide ((((M.SM[M.SM.length-1]'(by omega)).2.s.file.length+n:Nat):Int)<=M.seg)):=by
   unfold LogM.l z70
   rw [zao,e1]
   rfl
  have hfl':=hfl _ (List.mem_map.2 ⟨_,List.getElem_mem (show M.SM.length-1<M.SM.length by omega),rfl⟩)
  rw [e,e1]
  obtain ⟨hok,hs⟩:=z2r hs
  have hs:=z3x (z9v (hs.pick [2]) (show M.SM.length-1<M.SM.length by omega))
  refine z0j ?_
  refine za hs ?_
  refine z0j ?_
  refine za hs ?_
  refine z0j ?_
  refine za hs ?_
  rw [w64 (by omega) (by omega)]
  refine wp_lt ?_
  refine zd ?_
  have hs:=z76 (show M.SM.length-1<M.SM.length by omega) (z2o (M.SM[M.SM.length-1]'(by omega)).2 hs)
  refine ⟨rfl,?_,z1l M hok (hs.pick [1,1])⟩
  rfl
theorem z00i (a:Nat) (t:SegM) {r0:List HP} [hf:Fo l lgQ lg M r0] [hf2:Fo r0 (z0m M.gap) a t r] (hlen:M.SM.length<=1000000000) (hs:Sat w l) :
  Ret P F.a135 #[.pointer (some ⟨lg,0,none⟩),.pointer (some ⟨a,0,none⟩)] w λvs w'=>∃ z:Sl,vs=[]/\Sat w' (lgQ lg { M with z:=z,SM:=M.SM++[(a,t)] }::r) :=
 zo8 _ _ <| by
  delta z01p AE AP Ab Ad Aj Ax
  obtain ⟨hok,hs⟩:=z2r (hs.perm (hf.perm.trans (.cons _ hf2.perm)))
  have hl:=hs.slen M.z (xs:=M.SM.map Prod.fst) (enc:=z1n)
  refine zi ?_
  refine za hs ?_
  refine z5m (xs:=M.SM.map Prod.fst) (enc:=z1n) (y:=a) hs (λz w' hs=>?_) rfl (by rw [List.length_map];omega)
  refine zi ?_
  refine z02 hs λw' hs=>?_
  refine ⟨rfl,z,rfl,?_⟩
  have hs:Sat w' (pt lg (.cells #[.pointer (some ⟨M.d,0,none⟩),.string M.pre,.int .i64 M.seg,.int .i64 M.gap,.slice z.a z.len z.cap] T.a51)::slc T.a34 1 z ((M.SM.map Prod.fst++[a]).flatMap z1n)::HP.all (M.SM.map λt=>z0m M.gap t.1 t.2)::z0m M.gap a t::r):=hs
  have h1:Sat w' (HP.all (((a,t)::M.SM).map λt=>z0m M.gap t.1 t.2)::pt lg (.cells #[.pointer (some ⟨M.d,0,none⟩),.string M.pre,.int .i64 M.seg,.int .i64 M.gap,.slice z.a z.len z.cap] T.a51)::slc T.a34 1 z ((M.SM.map Prod.fst++[a]).flatMap z1n)::r):=(hs.pick [3,2]).all_put
  have h2:=h1.all_perm ((List.perm_append_comm (l₁:=[(a,t)]) (l₂:=M.SM)).map λt=>z0m M.gap t.1 t.2)
  refine z1l { M with z:=z,SM:=M.SM++[(a,t)] } hok ?_
  have e:(M.SM++[(a,t)]).map Prod.fst=M.SM.map Prod.fst++[a]:=by simp
  show Sat w' (pt lg _::slc T.a34 1 z (((M.SM++[(a,t)]).map Prod.fst).flatMap z1n)::HP.all ((M.SM++[(a,t)]).map λt=>z0m M.gap t.1 t.2)::r)
  rw [e]
  exact h2.pick [1,1]
end
theorem z0a.mem:∀ {n:Int} {l:List SegA},z0a n l->∀ s ∈ l,SegOk s/\n<=s.base
 | _,a::l,⟨h1,h2,h3⟩,s,hs=>by
  rcases List.mem_cons.1 hs with rfl|hs
  ·exact ⟨h2,h1⟩
  ·have:=h3.mem s hs
   exact ⟨this.1,by omega⟩
def z0i (pre:ByteArray) (l:List SegA) (D:DiskA):Int × DiskA:=match l.getLast? with
 | none=>(0,D)
 | some s=>z1r D [zo pre s.base zu]
def BatM.to (b:BatM) (n:Int):BatM:=⟨n,b.pid,b.epoch,b.seq,b.kind,b.time,b.x,b.rs⟩
def zx:Int->List BatM->Int × List BatM
 | _,[]=>(0,[])
 | n,b::bs=>if z04 (b.to n)≠0 then (z04 (b.to n),[]) else if (zx (n+zq b) bs).1≠0 then ((zx (n+zq b) bs).1,[]) else (0,b.to n::(zx (n+zq b) bs).2)
def frP (p:Sl × List UInt8):HP:=slc T.a57 1 p.1 (p.2.flatMap zh)
theorem zdj:∀ {bs:List BatM} {n:Int},(zx n bs).1=0->(zx n bs).2.length=bs.length/\(∀ b ∈ (zx n bs).2,z04 b=0/\∃ c ∈ bs,b.x=c.x/\b.rs=c.rs)/\∀ b,(zx n bs).2.head? = some b->b.base=n
 | [],n,_=>⟨rfl,(λ_ h=>by cases h),(λ_ h=>by cases h)⟩
 | b::bs,n,h=>by
  unfold zx at h ⊢
  by_cases h1:z04 (b.to n)≠0
  ·rw [if_pos h1] at h;exact absurd h h1
  rw [if_neg h1] at h ⊢
  by_cases h2:(zx (n+zq b) bs).1≠0
  ·rw [if_pos h2] at h;exact absurd h h2
  rw [if_neg h2]
  obtain ⟨i1,i2,-⟩:=zdj (Decidable.not_not.1 h2)
  refine ⟨by simp [i1],λc hc=>?_,λc hc=>?_⟩
  ·rcases List.mem_cons.1 hc with rfl|hc
   ·exact ⟨Decidable.not_not.1 h1,b,List.mem_cons_self ..,rfl,rfl⟩
   ·obtain ⟨v,d,hd,e⟩:=i2 c hc
    exact ⟨v,d,List.mem_cons_of_mem _ hd,e⟩
  ·simp at hc;subst hc;rfl
theorem zps:∀ {bs:List BatM},(∀ b ∈ bs,z04 b=0)->(bs.flatMap frL).length<=bs.length*262152
 | [],_=>by simp
 | b::bs,h=>by
  have h1:=z56 (h b (List.mem_cons_self ..))
  have h2:=z5y (h b (List.mem_cons_self ..))
  have h3:=zps λx hx=>h x (List.mem_cons_of_mem _ hx)
  rw [List.flatMap_cons,List.length_append,List.length_cons]
  omega
section
variable {w:World} {l r:List HP} {lg:Nat} {M:LogM} {D:DiskA} {gap:Int} {a:Nat} {t:SegM}
theorem zga {fs:List (Sl × List UInt8)} {p:Sl × List UInt8} (hp:p ∈ fs) [hf:Foc l (HP.all (fs.map frP)) r]:FocR l p.1 1 (p.2.flatMap zh):=⟨λw hs=>by
 obtain ⟨L,hs⟩:=(hs.perm hf.perm).all_mem hp
 exact Sat.rd hs⟩
theorem zm2:∀ {fs gs:List (Sl × List UInt8)},(∀ p ∈ gs,FocR l p.1 1 (p.2.flatMap zh))->za4 l (gs.map Prod.fst) (gs.map Prod.snd)
 | _,[],_=>trivial
 | fs,p::gs,h=>⟨(h p (List.mem_cons_self ..)).rd,zm2 (fs:=fs) λq hq=>h q (List.mem_cons_of_mem _ hq)⟩
theorem zqb {r1:List HP} [hf:Fo l lgQ lg M r1] [hf2:Fo r1 dk M.d D r] (hlen:M.SM.length<=1000000000) (hok:z0a 0 M.l) (hs:Sat w l) :
  Ret P F.a127 #[.pointer (some ⟨lg,0,none⟩)] w λvs w'=>vs=[.int .i64 (z0i M.pre M.l D).1]/\Sat w' (lgQ lg M::dk M.d (z0i M.pre M.l D).2::r) :=
 zo0 _ <| by
  delta z01h AC AD AG AI AP Aa Ab Ac Ad Ah Ai Aj B1 B4 Bu
  have hs:=hs.perm (hf.perm.trans (.cons _ hf2.perm))
  refine zy ?_ (by simp)
  refine z8 (zgs (lg:=lg) hlen hs) λ_ w' hs=>?_
  obtain ⟨rfl,hs⟩:=hs
  refine zb ?_
  by_cases h0:M.SM=[]
  ·have e:z0i M.pre M.l D=(0,D):=by unfold LogM.l z0i;rw [h0];rfl
   rw [e,h0]
   refine zy ?_ (by simp [zzc])
   exact ⟨rfl,rfl,hs⟩
  have hp:=List.length_pos_iff.2 h0
  have hsz:M.SM.length-1<M.SM.length:=by omega
  have e1:M.SM.getLast? = some (M.SM[M.SM.length-1]'hsz):=by
   rw [List.getLast?_eq_getElem?,List.getElem?_eq_getElem (by omega)]
  have e:z0i M.pre M.l D=z1r D [zo M.pre (M.SM[M.SM.length-1]'hsz).2.s.base zu]:=by
   unfold LogM.l z0i
   rw [zao,e1]
   rfl
  have hmem:(M.SM[M.SM.length-1]'hsz).2.s ∈ M.l:=List.mem_map.2 ⟨_,List.getElem_mem hsz,rfl⟩
  have hbase:=(hok.mem _ hmem).1.base
  rw [e,e1]
  obtain ⟨hokm,hs⟩:=z2r hs
  have hpre:M.pre.size<=100:=by
   have:=hokm.pre
   unfold z3w at this
   rw [Bool.and_eq_true,decide_eq_true_eq] at this
   omega
  refine z0o ?_ (by simp [zzc])
  have hs:=z3x (z9v (hs.pick [2]) hsz)
  refine zk (λq w'=>q=((z1r D [zo M.pre (M.SM[M.SM.length-1]'hsz).2.s.base zu]).1,())/\Sat w' (lgQ lg M::dk M.d (z1r D [zo M.pre (M.SM[M.SM.length-1]'hsz).2.s.base zu]).2::r)) ?_ ?_
  rotate_left
  ·rintro _ w2 ⟨rfl,hs⟩
   exact ⟨rfl,rfl,hs⟩
  refine zw hs λw' hs=>?_
  refine zi ?_
  refine z0z hs ?_
  refine zi ?_
  refine za hs ?_
  refine z8 (z7z (lg:=lg) _ (by omega) (ByteArray.mk #[46,108,111,103]) (by decide) M.pre hpre hs) λ_ w' hs=>?_
  obtain ⟨rfl,hs⟩:=hs
  refine zb ?_ (by first|trivial|(repeat (first|exact trivial|exact λ_=>z05 hs|exact λ_=>z0b hs|refine And.intro ?_ ?_)))
  refine z6r hs (enc:=z29) [zo M.pre (M.SM[M.SM.length-1]'hsz).2.s.base zu] λy w' hs=>⟨(by first|trivial|(repeat (first|exact trivial|exact λ_=>z05 hs|exact λ_=>z0b hs|refine And.intro ?_ ?_))),?_⟩
  refine zd ?_
  refine z8 (z06n (d:=M.d) y [zo M.pre (M.SM[M.SM.length-1]'hsz).2.s.base zu] (by show 1<=100000;omega) hs) λ_ w' hs=>?_
  obtain ⟨rfl,hs⟩:=hs
  refine zb ?_
  refine wp_lt ?_
  refine zd ?_
  refine zf ⟨rfl,?_⟩
  replace hs:Sat _ (z0m M.gap _ _::_):=z2o (M.SM[M.SM.length-1]'hsz).2 (hs.pick [2,2])
  have hs:=z76 hsz (hs.pick [0,2])
  exact (z1l M hokm (hs.pick [3,3])).sub
theorem zz2 (x:Sl) (bs:List BatM) [hf:Fo l lgQ lg M r] (hlen:M.SM.length<=1000000000) (hbl:bs.length<=100000) (hx:FocR r x 7 (bs.flatMap zr)) (hbs:∀ b ∈ bs,FocR r b.x 4 (b.rs.flatMap z00)) (hs:Sat w l) :
  Ret P F.a134 #[.pointer (some ⟨lg,0,none⟩),x.v] w λvs w' =>
   ((zx (zt M.l) bs).1≠0/\vs=[.slice none 0 0,.slice none 0 0,.int .i64 (zx (zt M.l) bs).1]/\Sat w' (lgQ lg M::r)) \/
   ((zx (zt M.l) bs).1=0/\∃ (z1 z2:Sl) (fs:List (Sl × List UInt8)),vs=[z1.v,z2.v,.int .i64 0]/\fs.map Prod.snd=(zx (zt M.l) bs).2.map frL /\
    Sat w' (slc T.a0 7 z1 ((zx (zt M.l) bs).2.flatMap zr)::slc T.a49 1 z2 ((fs.map Prod.fst).flatMap z0c)::HP.all (fs.map frP)::lgQ lg M::r)) :=
 zo7 _ x <| by
  delta z01o AE AF AP AV AW Aa Ab Ac Ad Ag Ah Ai Ar Au Ay Bn Bt
  have hs:=hs.perm hf.perm
  have hl:=hs.slen x (xs:=bs) (enc:=zr)
  refine z8 (zb7 (lg:=lg) hlen hs) λ_ w' hs=>?_
  obtain ⟨rfl,hs⟩:=hs
  refine zb ?_
  refine wp_lt ?_
  generalize zt M.l=n0
  refine zk (λq w'=>∃ (z1 z2:Sl) (fs:List (Sl × List UInt8)),(zx n0 bs).1=0/\q=(z1,z2,())/\fs.map Prod.snd=(zx n0 bs).2.map frL /\
    Sat w' (slc T.a0 7 z1 ((zx n0 bs).2.flatMap zr)::slc T.a49 1 z2 ((fs.map Prod.fst).flatMap z0c)::HP.all (fs.map frP)::lgQ lg M::r)) ?_ ?_
  rotate_left
  ·rintro _ w2 ⟨z1,z2,fs,h1,rfl,h2,hs⟩
   exact ⟨rfl,.inr ⟨h1,z1,z2,fs,rfl,h2,hs⟩⟩
  have h0:Sat w' (slc T.a0 7 ⟨none,0,0⟩ (([]:List BatM).flatMap zr)::slc T.a49 1 ⟨none,0,0⟩ (((([]:List (Sl × List UInt8))).map Prod.fst).flatMap z0c)::HP.all ((([]:List (Sl × List UInt8))).map frP)::lgQ lg M::r):=(Sat.all_nil hs).slc_nil.slc_nil
  refine z09 (λm v w=>∃ (i:Nat) (n:Int) (done:List BatM) (z1 z2:Sl) (fs:List (Sl × List UInt8)),v=(n,z1,z2,(i:Int),())/\i<=bs.length/\bs.length-i=m/\done.length=i/\fs.length=i /\
   zx n0 bs=(if (zx n (bs.drop i)).1≠0 then ((zx n (bs.drop i)).1,[]) else (0,done++(zx n (bs.drop i)).2))/\fs.map Prod.snd=done.map frL /\
   Sat w (slc T.a0 7 z1 (done.flatMap zr)::slc T.a49 1 z2 ((fs.map Prod.fst).flatMap z0c)::HP.all (fs.map frP)::lgQ lg M::r)) bs.length
   ⟨0,n0,[],⟨none,0,0⟩,⟨none,0,0⟩,[],rfl,by omega,rfl,rfl,rfl,?_,rfl,h0⟩ ?_
  ·rw [List.drop_zero,List.nil_append]
   by_cases h:(zx n0 bs).1≠0
   ·rw [if_pos h]
    have:∀ {bs:List BatM} {n:Int},(zx n bs).1≠0->(zx n bs).2=[]:=by
     intro bs
     induction bs with
     | nil=>intro n h;exact absurd rfl h
     | cons b bs ih =>
      intro n h
      unfold zx at h ⊢
      split
      ·rfl
      ·split
       ·rfl
       ·rename_i h1 h2
        rw [if_neg h1,if_neg h2] at h
        exact absurd rfl h
    rw [<- this h]
   ·rw [if_neg h]
    have h:=Decidable.not_not.1 h
    rw [<- h]
  clear hs h0
  rintro m _ w ⟨i,n,done,z1,z2,fs,rfl,hi,hm,hdl,hfl,hpl,hfs,hs⟩
  refine zj ?_
  refine zg (λhc=>?_) λhc=>?_
  rotate_left
  ·have e:bs.drop i=[]:=List.drop_eq_nil_of_le (by omega)
   rw [e] at hpl
   simp only [zx,List.append_nil] at hpl
   have hpl:zx n0 bs=(0,done):=by rw [hpl];rfl
   refine zn (zf ⟨z1,z2,fs,by rw [hpl],rfl,by rw [hpl];exact hfs,?_⟩)
   rw [hpl]
   exact hs
  have hil:i<bs.length:=by omega
  have hdrop:bs.drop i=bs[i]::bs.drop (i+1):=List.drop_eq_getElem_cons hil
  rw [hdrop] at hpl
  have hR:=hbs bs[i] (List.getElem_mem hil)
  refine z39 hs (xs:=bs) (enc:=zr) i hil ?_
  refine zm hs λa w' hs=>?_
  refine zl hs λw' hs=>?_
  refine z02 hs λw' hs=>?_
  refine ze hs ?_
  have hRt:FocR r (bs[i].to n).x 4 ((bs[i].to n).rs.flatMap z00):=hR
  refine z8 (zy1 (bs[i].to n) hs) λ_ w' hs=>?_
  have hunf:zx n (bs[i]::bs.drop (i+1))=if z04 (bs[i].to n)≠0 then (z04 (bs[i].to n),[]) else if (zx (n+zq bs[i]) (bs.drop (i+1))).1≠0 then ((zx (n+zq bs[i]) (bs.drop (i+1))).1,[]) else (0,bs[i].to n::(zx (n+zq bs[i]) (bs.drop (i+1))).2):=rfl
  rcases hs with ⟨hv,rfl,hs⟩|⟨hv,y,rfl,hs⟩
  ·refine zb ?_
   refine wp_lt ?_
   refine z0o ?_ hv
   refine wp_lt ?_
   rw [if_pos hv] at hunf
   have hpl:zx n0 bs=(z04 (bs[i].to n),[]):=by rw [hpl,hunf,if_pos hv]
   refine zn (zn ⟨rfl,.inl ⟨by rw [hpl];exact hv,by rw [hpl],hs.sub⟩⟩)
  ·refine zb ?_
   refine wp_lt ?_
   refine zy ?_ (by simp)
   rw [if_neg (by rw [hv];simp)] at hunf
   have hbl2:=z5y hv
   have hfrl:=z56 hv
   refine ze hs ?_
   refine z5m (xs:=done) (enc:=zr) (y:=bs[i].to n) hs (λz1' w' hs=>?_) rfl (by omega)
   refine z88 hs (enc:=z0c) [y] λy2 w' hs=>?_
   refine z8 (zy7 y2 y (z2j (bs[i].to n)) (by omega) hs) λ_ w' hs=>?_
   obtain ⟨y3,rfl,hs⟩:=hs
   refine zb ?_
   refine z5m (xs:=fs.map Prod.fst) (enc:=z0c) (y:=y3) hs (λz2' w' hs=>?_) rfl (by rw [List.length_map];omega)
   refine ze hs ?_
   refine z8 (z9e (bs[i].to n) hs) λ_ w' hs=>?_
   obtain ⟨rfl,hs⟩:=hs
   refine zb ?_
   refine wp_lt ?_
   rw [wS (i:=i) (by omega)]
   have en:z1p (bs[i].to n)=n+zq bs[i]:=by
    unfold z1p
    rw [if_neg (by rw [hv];simp)]
    rfl
   rw [en]
   refine z0w (bs.length-(i+1)) ⟨i+1,n+zq bs[i],done++[bs[i].to n],z1',z2',fs++[(y3,frL (bs[i].to n))],rfl,by omega,rfl,by simp [hdl],by simp [hfl],?_,by simp [hfs],?_⟩
   ·rw [hpl,hunf]
    by_cases h2:(zx (n+zq bs[i]) (bs.drop (i+1))).1≠0
    ·rw [if_pos h2,if_pos h2,if_pos h2]
    ·rw [if_neg h2,if_neg h2,if_neg (by simp),List.append_assoc]
     rfl
   ·have e2:(fs++[(y3,frL (bs[i].to n))]).map Prod.fst=fs.map Prod.fst++[y3]:=by simp
    rw [e2]
    have hs:Sat w' (slc T.a49 1 z2' ((fs.map Prod.fst++[y3]).flatMap z0c)::slc T.a57 1 y3 ((frL (bs[i].to n)).flatMap zh)::slc T.a49 1 y2 (([y]:List Sl).flatMap z0c)::slc T.a0 7 z1' ((done++[bs[i].to n]).flatMap zr)::_):=hs
    have hs:Sat w' (frP (y3,frL (bs[i].to n))::HP.all (fs.map frP)::slc T.a0 7 z1' ((done++[bs[i].to n]).flatMap zr)::slc T.a49 1 z2' ((fs.map Prod.fst++[y3]).flatMap z0c)::lgQ lg M::r):=by
     have h3:Sat w' (slc T.a57 1 y3 ((frL (bs[i].to n)).flatMap zh)::HP.all (fs.map frP)::slc T.a0 7 z1' ((done++[bs[i].to n]).flatMap zr)::slc T.a49 1 z2' ((fs.map Prod.fst++[y3]).flatMap z0c)::lgQ lg M::r):=hs.sub
     exact h3
    have h4:Sat w' (HP.all (((y3,frL (bs[i].to n))::fs).map frP)::_):=hs.all_put
    have h5:=h4.all_perm ((List.perm_append_comm (l₁:=[(y3,frL (bs[i].to n))]) (l₂:=fs)).map frP)
    exact h5.pick [1,1]
end
def z5b (l:List SegA):Int:=match l.getLast? with
 | none=>0
 | some s=>s.base
def z54 (l:List SegA) (bs:List BatM):List SegA:=match l.getLast? with
 | none=>l
 | some s=>l.dropLast++[s.add bs]
def z0v (pre:ByteArray) (seg:Int) (l:List SegA) (D:DiskA) (bs:List BatM):(Int × Int) × List SegA × DiskA :=
 if bs=[] then ((0,3),l,D) else
 if (zx (zt l) bs).1≠0 then ((0,(zx (zt l) bs).1),l,D) else
 if z70 seg l ((zx (zt l) bs).2.flatMap frL).length then
  if (z07 D (zo pre (z5b l) zu) ((zx (zt l) bs).2.flatMap frL)).1≠0 then ((0,(z07 D (zo pre (z5b l) zu) ((zx (zt l) bs).2.flatMap frL)).1),l,(z07 D (zo pre (z5b l) zu) ((zx (zt l) bs).2.flatMap frL)).2)
  else ((zt l,0),z54 l (zx (zt l) bs).2,(z07 D (zo pre (z5b l) zu) ((zx (zt l) bs).2.flatMap frL)).2)
 else
  if (z0i pre l D).1≠0 then ((0,(z0i pre l D).1),l,(z0i pre l D).2) else
  if (z07 (z0i pre l D).2 (zo pre (zt l) zu) (shL (zt l) 0++(zx (zt l) bs).2.flatMap frL)).1≠0 then ((0,(z07 (z0i pre l D).2 (zo pre (zt l) zu) (shL (zt l) 0++(zx (zt l) bs).2.flatMap frL)).1),l,(z07 (z0i pre l D).2 (zo pre (zt l) zu) (shL (zt l) 0++(zx (zt l) bs).2.flatMap frL)).2)
  else ((zt l,0),l++[(⟨zt l,0,[]⟩:SegA).add (zx (zt l) bs).2],(z07 (z0i pre l D).2 (zo pre (zt l) zu) (shL (zt l) 0++(zx (zt l) bs).2.flatMap frL)).2)
def LogA.set (A:LogA) (l:List SegA):LogA:=⟨A.d,A.pre,A.seg,A.gap,l⟩
theorem z0a.next:∀ {n:Int} {l:List SegA},0<=n->z0a n l->0<=zt l/\zt l<=1099511627777
 | _,[],_,_=>⟨by decide,by decide⟩
 | n,[s],hn,⟨h1,h2,_⟩=>by
  have:=z5h h2
  have:=h2.base
  show 0<=s.reach/\s.reach<=_
  omega
 | n,s::t::l,hn,⟨h1,h2,h3⟩=>by
  have:=h2.base
  have:=z0a.next (by omega) h3
  exact this
instance:EncF zr 0 (.int .i64) (λb=>b.base):=⟨λ_=>rfl⟩
section
variable {w:World} {l r:List HP} {lg:Nat} {M:LogM} {A:LogA} {D:DiskA} {gap:Int} {a:Nat} {t:SegM}
theorem zck {SM0:List (Nat × SegM)} (h:M.SM=SM0++[(a,t)]) (hs:Sat w (lgQ lg M::l)):okM M.gap M.seg M.pre /\
  Sat w (z0m M.gap a t::pt lg (.cells #[.pointer (some ⟨M.d,0,none⟩),.string M.pre,.int .i64 M.seg,.int .i64 M.gap,.slice M.z.a M.z.len M.z.cap] T.a51)::slc T.a34 1 M.z ((SM0.map Prod.fst++[a]).flatMap z1n)::HP.all (SM0.map λt=>z0m M.gap t.1 t.2)::l):=by
 obtain ⟨hok,hs⟩:=z2r hs
 rw [h] at hs
 have h1:=(hs.pick [2]).all_perm ((List.perm_append_comm (l₁:=SM0) (l₂:=[(a,t)])).map λt=>z0m M.gap t.1 t.2)
 have h2:Sat w (z0m M.gap a t::HP.all (SM0.map λt=>z0m M.gap t.1 t.2)::_):=h1.all_cons
 rw [List.map_append] at h2
 exact ⟨hok,h2.pick [0,1,1]⟩
theorem zb6 (M:LogM) {SM0:List (Nat × SegM)} (hok:okM M.gap M.seg M.pre) (hs:Sat w (z0m M.gap a t::pt lg (.cells #[.pointer (some ⟨M.d,0,none⟩),.string M.pre,.int .i64 M.seg,.int .i64 M.gap,.slice M.z.a M.z.len M.z.cap] T.a51)::slc T.a34 1 M.z ((SM0.map Prod.fst++[a]).flatMap z1n)::HP.all (SM0.map λt=>z0m M.gap t.1 t.2)::l)) :
  Sat w (lgQ lg { M with SM:=SM0++[(a,t)] }::l):=by
 have h1:Sat w (HP.all (((a,t)::SM0).map λt=>z0m M.gap t.1 t.2)::_):=(hs.pick [0,2]).all_put
 have h2:=h1.all_perm ((List.perm_append_comm (l₁:=[(a,t)]) (l₂:=SM0)).map λt=>z0m M.gap t.1 t.2)
 refine z1l { M with SM:=SM0++[(a,t)] } hok ?_
 show Sat w (pt lg _::slc T.a34 1 M.z (((SM0++[(a,t)]).map Prod.fst).flatMap z1n)::HP.all ((SM0++[(a,t)]).map λt=>z0m M.gap t.1 t.2)::l)
 rw [List.map_append]
 exact h2.pick [1,1]
theorem z3d {α:Type} {l:List α} (h:l≠[]):∃ (l0:List α) (x:α),l=l0++[x]:=⟨l.dropLast,l.getLast h,(List.dropLast_concat_getLast h).symm⟩
theorem zm1 {fs:List (Sl × List UInt8)} (h:∀ p ∈ fs,FocR l p.1 1 (p.2.flatMap zh)):za4 l (fs.map Prod.fst) (fs.map Prod.snd):=zm2 (fs:=fs) h
theorem okM.size {g s:Int} {p:ByteArray} (h:okM g s p):p.size<=100:=by
 have:=h.pre
 unfold z3w at this
 rw [Bool.and_eq_true,decide_eq_true_eq] at this
 omega
set_option maxHeartbeats 1000000 in
theorem zw7 (x:Sl) (bs:List BatM) {r1:List HP} [hf:Fo l lgP lg A r1] [hf2:Fo r1 dk A.d D r] (hlen:A.l.length<=1000000) (hok:z0a 0 A.l) (hfl:∀ s ∈ A.l,s.file.length<=500000000) (hbl:bs.length<=900)
  (hx:FocR r x 7 (bs.flatMap zr)) (hbs:∀ b ∈ bs,FocR r b.x 4 (b.rs.flatMap z00)) (hs:Sat w l) :
  Ret P F.a121 #[.pointer (some ⟨lg,0,none⟩),x.v] w λvs w'=>vs=[.int .i64 (z0v A.pre A.seg A.l D bs).1.1,.int .i64 (z0v A.pre A.seg A.l D bs).1.2] /\
   Sat w' (lgP lg (A.set (z0v A.pre A.seg A.l D bs).2.1)::dk A.d (z0v A.pre A.seg A.l D bs).2.2::r) :=
 zez _ x <| by
  delta ztb AB AC AD AF AG AI AJ AM AO AP AV AW Aa Ab Ac Ad Ag Ah Ai Aj Am Ar Au Ax Ay B1 B4 Bn Bu By
  have hs:=hs.perm (hf.perm.trans (.cons _ hf2.perm))
  clear hf hf2
  obtain ⟨M,rfl,hs⟩:=z7w hs
  have hlxs:=hs.slen x (xs:=bs) (enc:=zr)
  have hMl:M.A.l=M.l:=rfl
  have hMpre:M.A.pre=M.pre:=rfl
  have hMseg:M.A.seg=M.seg:=rfl
  have hMd:M.A.d=M.d:=rfl
  rw [hMl] at hlen hok hfl ⊢
  rw [hMpre,hMseg,hMd]
  rw [hMd] at hs
  have hll:M.l.length=M.SM.length:=List.length_map ..
  have hnx:=hok.next (Int.le_refl 0)
  have hsame:∀ {w:World} {D':DiskA},Sat w (lgQ lg M::dk M.d D'::r)->Sat w (lgP lg (M.A.set M.l)::dk M.d D'::r):=λhs=>z4g M hs
  unfold z0v
  refine zy ?_ (by simp)
  refine zg (λh=>?_) λh=>?_
  ·have:bs=[]:=List.length_eq_zero_iff.1 (by omega)
   rw [if_pos this]
   exact ⟨rfl,rfl,hsame hs⟩
  rw [if_neg (by rintro rfl;simp at hlxs;omega)]
  have hx':FocR (dk M.d D::r) x 7 (bs.flatMap zr):=inferInstance
  refine z8 (zz2 (lg:=lg) x bs (by omega) (by omega) inferInstance (λb hb=>by have:=hbs b hb;infer_instance) hs) λ_ w' hs=>?_
  have hplo:=zdj (bs:=bs) (n:=zt M.l)
  rcases hs with ⟨he,rfl,hs⟩|⟨he,z1,z2,fs,rfl,hfs,hs⟩
  ·refine zb ?_
   refine wp_lt ?_
   refine z0o ?_ he
   refine wp_lt ?_
   rw [if_pos he]
   exact ⟨rfl,rfl,hsame hs⟩
  refine zb ?_
  refine wp_lt ?_
  refine zy ?_ (by simp)
  rw [if_neg (by rw [he];simp)]
  obtain ⟨hp1,hp2,hp3⟩:=hplo he
  have hbl0:0<bs.length:=by
   apply Nat.pos_of_ne_zero
   intro h0
   rw [h0] at hlxs
   omega
  generalize hn0:zt M.l=n0 at *
  generalize hPL:zx n0 bs=PL at *
  obtain ⟨e0,q⟩:=PL
  have he:e0=0:=he
  subst he
  dsimp only at hp1 hp2 hp3 hfs hs ⊢
  have hsum:=zps λb hb=>(hp2 b hb).1
  have hfsl:fs.length=q.length:=by have:=congrArg List.length hfs;simpa using this
  have hfl1:=hs.slen z2 (xs:=fs.map Prod.fst) (enc:=z0c)
  rw [List.length_map] at hfl1
  have hfget:∀ (i:Nat) (h:i<fs.length),fs[i].2=frL (q[i]'(by omega)):=λi h=>by
   have:=List.getElem_of_eq hfs (i:=i) (by rw [List.length_map];exact h)
   simpa using this
  have hfsum:∀ i,((q.take i).flatMap frL).length<=(q.flatMap frL).length:=λi=>by
   have:(q.flatMap frL)=(q.take i).flatMap frL++(q.drop i).flatMap frL:=by rw [<- List.flatMap_append,List.take_append_drop]
   rw [this,List.length_append];omega
  refine zk (λv w'=>v=(((q.flatMap frL).length:Int),())/\Sat w' (slc T.a0 7 z1 (q.flatMap zr)::slc T.a49 1 z2 ((fs.map Prod.fst).flatMap z0c)::HP.all (fs.map frP)::lgQ lg M::dk M.d D::r)) ?_ ?_
  ·refine z09 (λm v w=>∃ i:Nat,v=((((q.take i).flatMap frL).length:Int),((i:Int),()))/\i<=q.length/\q.length-i=m/\Sat w (slc T.a0 7 z1 (q.flatMap zr)::slc T.a49 1 z2 ((fs.map Prod.fst).flatMap z0c)::HP.all (fs.map frP)::lgQ lg M::dk M.d D::r)) q.length ⟨0,rfl,by omega,rfl,hs⟩ ?_
   clear hs
   rintro m _ w ⟨i,rfl,hi,hm,hs⟩
   refine zj ?_
   refine zg (λhc=>?_) λhc=>?_
   rotate_left
   ·refine zn (zf ⟨?_,hs⟩)
    rw [List.take_of_length_le (by omega)]
   have hil:i<q.length:=by omega
   have hil2:i<fs.length:=by omega
   refine z1w hs (xs:=fs.map Prod.fst) (enc:=z0c) i (by rw [List.length_map];omega) ?_
   have e1:(fs.map Prod.fst)[i]'(by rw [List.length_map];omega)=fs[i].1:=by simp
   rw [e1]
   have hR:FocR (HP.all (fs.map frP)::lgQ lg M::dk M.d D::r) fs[i].1 1 (fs[i].2.flatMap zh):=zga (List.getElem_mem hil2)
   have hl2:=hs.slen fs[i].1 (xs:=fs[i].2) (enc:=zh)
   rw [hfget i hil2] at hl2
   have hfi:((q.take (i+1)).flatMap frL).length=((q.take i).flatMap frL).length+(frL q[i]).length:=by
    rw [List.take_succ_eq_append_getElem hil,List.flatMap_append,List.length_append];simp
   have:=hfsum (i+1)
   rw [hl2,w64 (by omega) (by omega)]
   refine wp_lt ?_
   rw [wS (i:=i) (by omega)]
   have ec:(((q.take i).flatMap frL).length:Int)+((frL q[i]).length:Nat)=(((q.take (i+1)).flatMap frL).length:Int):=by rw [hfi];omega
   rw [ec]
   exact z0w (q.length-(i+1)) ⟨i+1,rfl,by omega,rfl,hs⟩
  clear hs
  rintro _ w ⟨rfl,hs⟩
  refine zj ?_
  refine z8 (zgs (lg:=lg) (by omega) hs) λ_ w' hs=>?_
  obtain ⟨rfl,hs⟩:=hs
  refine zb ?_
  refine z8 (z05n (lg:=lg) (q.flatMap frL).length (by omega) (by omega) (λs hs'=>by have:=hfl s hs';omega) hs) λ_ w' hs=>?_
  obtain ⟨rfl,hs⟩:=hs
  refine zb ?_
  generalize hF:q.flatMap frL=Fr at *
  have hbsl:fs.map Prod.snd=q.map frL:=hfs
  have hflat:(fs.map Prod.snd).flatten=Fr:=by rw [hfs,<- hF,List.flatMap]
  have hlbound:∀ p ∈ fs,p.2.length<=262152:=λp hp=>by
   obtain ⟨i,hi,rfl⟩:=List.mem_iff_getElem.1 hp
   rw [hfget i hi]
   have:=z56 (hp2 _ (List.getElem_mem (show i<q.length by omega))).1
   have:=z5y (hp2 _ (List.getElem_mem (show i<q.length by omega))).1
   omega
  refine zk (λv w'=>∃ (M1:LogM) (SM0:List (Nat × SegM)) (a:Nat) (t:SegM) (D1:DiskA),v=(some ⟨a,0,none⟩,())/\M1.SM=SM0++[(a,t)]/\t.s.file.length<=600000000 /\
    (if z70 M.seg M.l Fr.length then
     if (z07 D (zo M.pre (z5b M.l) zu) Fr).1≠0 then ((0,(z07 D (zo M.pre (z5b M.l) zu) Fr).1),M.l,(z07 D (zo M.pre (z5b M.l) zu) Fr).2)
     else ((n0,(0:Int)),z54 M.l q,(z07 D (zo M.pre (z5b M.l) zu) Fr).2)
    else
     if (z0i M.pre M.l D).1≠0 then ((0,(z0i M.pre M.l D).1),M.l,(z0i M.pre M.l D).2) else
     if (z07 (z0i M.pre M.l D).2 (zo M.pre n0 zu) (shL n0 0++Fr)).1≠0 then ((0,(z07 (z0i M.pre M.l D).2 (zo M.pre n0 zu) (shL n0 0++Fr)).1),M.l,(z07 (z0i M.pre M.l D).2 (zo M.pre n0 zu) (shL n0 0++Fr)).2)
     else ((n0,0),M.l++[(⟨n0,0,[]⟩:SegA).add q],(z07 (z0i M.pre M.l D).2 (zo M.pre n0 zu) (shL n0 0++Fr)).2))=((n0,0),(SM0.map λt=>t.2.s)++[t.s.add q],D1) /\
    (M1.d=M.d/\M1.pre=M.pre/\M1.seg=M.seg/\M1.gap=M.gap) /\
    Sat w' (lgQ lg M1::dk M.d D1::slc T.a0 7 z1 (q.flatMap zr)::slc T.a49 1 z2 ((fs.map Prod.fst).flatMap z0c)::HP.all (fs.map frP)::r)) ?_ ?_
  ·refine zg (λhr=>?_) λhr=>?_
   ·
    have hr:z70 M.seg M.l Fr.length=false:=by simpa using hr
    rw [if_neg (by rw [hr];simp)]
    have hs:Sat w' (lgQ lg M::slc T.a0 7 z1 (q.flatMap zr)::slc T.a49 1 z2 ((fs.map Prod.fst).flatMap z0c)::HP.all (fs.map frP)::dk M.d D::r):=hs
    refine z8 (zqb (lg:=lg) (D:=D) (by omega) hok hs) λ_ w' hs=>?_
    obtain ⟨rfl,hs⟩:=hs
    refine zb ?_
    refine wp_lt ?_
    refine zg (λh2=>?_) λh2=>?_
    ·refine wp_lt ?_
     rw [if_pos h2]
     refine zn ⟨rfl,rfl,hsame hs.sub⟩
    rw [if_neg h2]
    generalize (z0i M.pre M.l D).2=D1 at *
    refine z8 (zb7 (lg:=lg) (by omega) hs) λ_ w' hs=>?_
    obtain ⟨rfl,hs⟩:=hs
    refine zb ?_
    rw [hn0]
    refine z8 (zll (lg:=lg) n0 0 (by omega) (by omega) hs) λ_ w' hs=>?_
    obtain ⟨a,ix,rfl,hs⟩:=hs
    refine zb ?_
    have hshl:=zi2 n0 0
    refine zk (λv w'=>v=((z07 D1 (zo M.pre n0 zu) (shL n0 0++Fr)).1,())/\Sat w' (z0m M.gap a ⟨ix,⟨n0,0,[]⟩⟩::lgQ lg M::dk M.d (z07 D1 (zo M.pre n0 zu) (shL n0 0++Fr)).2::slc T.a0 7 z1 (q.flatMap zr)::slc T.a49 1 z2 ((fs.map Prod.fst).flatMap z0c)::HP.all (fs.map frP)::r)) ?_ ?_
    ·obtain ⟨hokm,hs⟩:=z2r (hs.pick [1])
     have hs:=z3x (hs.pick [3])
     refine zw hs λw' hs=>?_
     refine zi ?_
     refine z0z hs ?_
     refine zi ?_
     refine za hs ?_
     refine zi ?_
     refine z0z hs ?_
     refine z8 (z7z (lg:=lg) n0 (by omega) (ByteArray.mk #[46,108,111,103]) (by decide) M.pre hokm.size hs) λ_ w' hs=>?_
     obtain ⟨rfl,hs⟩:=hs
     refine zb ?_ (by first|trivial|(repeat (first|exact trivial|exact λ_=>z05 hs|exact λ_=>z0b hs|refine And.intro ?_ ?_)))
     refine z8 (zlb n0 0 (by omega) (by omega) hs) λ_ w' hs=>?_
     obtain ⟨y,rfl,hs⟩:=hs
     refine zb ?_ (by first|trivial|(repeat (first|exact trivial|exact λ_=>z05 hs|exact λ_=>z0b hs|refine And.intro ?_ ?_)))
     refine z6r hs (enc:=z0c) [y] λy2 w' hs=>⟨(by first|trivial|(repeat (first|exact trivial|exact λ_=>z05 hs|exact λ_=>z0b hs|refine And.intro ?_ ?_))),?_⟩
     refine z04x (xs:=[y]) (ys:=fs.map Prod.fst) (enc:=z0c) hs (λy3 w' hs=>⟨(by first|trivial|(repeat (first|exact trivial|exact λ_=>z05 hs|exact λ_=>z0b hs|refine And.intro ?_ ?_))),?_⟩) (by rw [List.length_map];simp only [List.length_cons,List.length_nil];omega)
     refine zd ?_
     have hs:Sat w' (dk M.d D1::slc T.a49 1 y3 (([y]++fs.map Prod.fst).flatMap z0c)::slc T.a57 1 y ((shL n0 0).flatMap zh)::HP.all (fs.map frP)::pt a (.cells #[.pointer (some ⟨ix,0,none⟩),.int .i64 n0,.int .i64 0,.int .i64 (z0d []),.int .i64 (z1d (-1) []),.int .i64 ((SegA.file ⟨n0,0,[]⟩).length:Nat)] T.a52)::z2d ix ((SegA.mk n0 0 []).idx M.gap)::pt lg (.cells #[.pointer (some ⟨M.d,0,none⟩),.string M.pre,.int .i64 M.seg,.int .i64 M.gap,.slice M.z.a M.z.len M.z.cap] T.a51)::slc T.a34 1 M.z ((M.SM.map Prod.fst).flatMap z1n)::HP.all (M.SM.map λt=>z0m M.gap t.1 t.2)::slc T.a0 7 z1 (q.flatMap zr)::slc T.a49 1 z2 ((fs.map Prod.fst).flatMap z0c)::r):=hs.sub
     have hall:∀ p ∈ ((y,shL n0 0)::fs),FocR (slc T.a49 1 y3 (([y]++fs.map Prod.fst).flatMap z0c)::slc T.a57 1 y ((shL n0 0).flatMap zh)::HP.all (fs.map frP)::pt a (.cells #[.pointer (some ⟨ix,0,none⟩),.int .i64 n0,.int .i64 0,.int .i64 (z0d []),.int .i64 (z1d (-1) []),.int .i64 ((SegA.file ⟨n0,0,[]⟩).length:Nat)] T.a52)::z2d ix ((SegA.mk n0 0 []).idx M.gap)::pt lg (.cells #[.pointer (some ⟨M.d,0,none⟩),.string M.pre,.int .i64 M.seg,.int .i64 M.gap,.slice M.z.a M.z.len M.z.cap] T.a51)::slc T.a34 1 M.z ((M.SM.map Prod.fst).flatMap z1n)::HP.all (M.SM.map λt=>z0m M.gap t.1 t.2)::slc T.a0 7 z1 (q.flatMap zr)::slc T.a49 1 z2 ((fs.map Prod.fst).flatMap z0c)::r) p.1 1 (p.2.flatMap zh):=λp hp=>by
      rcases List.mem_cons.1 hp with rfl|hp
      ·infer_instance
      ·have:FocR (HP.all (fs.map frP)::pt a (.cells #[.pointer (some ⟨ix,0,none⟩),.int .i64 n0,.int .i64 0,.int .i64 (z0d []),.int .i64 (z1d (-1) []),.int .i64 ((SegA.file ⟨n0,0,[]⟩).length:Nat)] T.a52)::z2d ix ((SegA.mk n0 0 []).idx M.gap)::pt lg (.cells #[.pointer (some ⟨M.d,0,none⟩),.string M.pre,.int .i64 M.seg,.int .i64 M.gap,.slice M.z.a M.z.len M.z.cap] T.a51)::slc T.a34 1 M.z ((M.SM.map Prod.fst).flatMap z1n)::HP.all (M.SM.map λt=>z0m M.gap t.1 t.2)::slc T.a0 7 z1 (q.flatMap zr)::slc T.a49 1 z2 ((fs.map Prod.fst).flatMap z0c)::r) p.1 1 (p.2.flatMap zh):=zga hp
       infer_instance
     have hpsF:FocR (slc T.a49 1 y3 (([y]++fs.map Prod.fst).flatMap z0c)::slc T.a57 1 y ((shL n0 0).flatMap zh)::HP.all (fs.map frP)::pt a (.cells #[.pointer (some ⟨ix,0,none⟩),.int .i64 n0,.int .i64 0,.int .i64 (z0d []),.int .i64 (z1d (-1) []),.int .i64 ((SegA.file ⟨n0,0,[]⟩).length:Nat)] T.a52)::z2d ix ((SegA.mk n0 0 []).idx M.gap)::pt lg (.cells #[.pointer (some ⟨M.d,0,none⟩),.string M.pre,.int .i64 M.seg,.int .i64 M.gap,.slice M.z.a M.z.len M.z.cap] T.a51)::slc T.a34 1 M.z ((M.SM.map Prod.fst).flatMap z1n)::HP.all (M.SM.map λt=>z0m M.gap t.1 t.2)::slc T.a0 7 z1 (q.flatMap zr)::slc T.a49 1 z2 ((fs.map Prod.fst).flatMap z0c)::r) y3 1 ((((y,shL n0 0)::fs).map Prod.fst).flatMap zfe):=(inferInstance:FocR _ y3 1 (([y]++fs.map Prod.fst).flatMap z0c))
     refine z8 (zkl (d:=M.d) (A:=D1) (zo M.pre n0 (bl (ByteArray.mk #[46,108,111,103]))) y3 (((y,shL n0 0)::fs).map Prod.fst) (((y,shL n0 0)::fs).map Prod.snd) (hps:=hpsF) (zm1 hall) (by simp only [List.length_map,List.length_cons];omega) (λb hb=>?_) hs) λ_ w' hs=>?_
     ·obtain ⟨p,hp,rfl⟩:=List.mem_map.1 hb
      rcases List.mem_cons.1 hp with rfl|hp
      ·show (shL n0 0).length<=_;omega
      ·have:=hlbound p hp;omega
     obtain ⟨rfl,hs⟩:=hs
     refine zb ?_
     refine wp_lt ?_
     refine zd ?_
     have e2:(((y,shL n0 0)::fs).map Prod.snd).flatten=shL n0 0++Fr:=by rw [List.map_cons,List.flatten_cons,hflat]
     rw [e2] at hs ⊢
     refine zf ⟨rfl,?_⟩
     have hs:Sat w' (dk M.d (z07 D1 (zo M.pre n0 zu) (shL n0 0++Fr)).2::slc T.a49 1 y3 _::slc T.a57 1 y _::HP.all (fs.map frP)::pt a _::z2d ix _::pt lg _::slc T.a34 1 M.z _::HP.all (M.SM.map λt=>z0m M.gap t.1 t.2)::slc T.a0 7 z1 (q.flatMap zr)::slc T.a49 1 z2 ((fs.map Prod.fst).flatMap z0c)::r):=hs
     have hs:=z1l M hokm (hs.pick [6,6,6])
     have hs:Sat w' (z0m M.gap a ⟨ix,⟨n0,0,[]⟩⟩::lgQ lg M::dk M.d _::slc T.a49 1 y3 _::slc T.a57 1 y _::HP.all (fs.map frP)::slc T.a0 7 z1 (q.flatMap zr)::slc T.a49 1 z2 ((fs.map Prod.fst).flatMap z0c)::r):=z2o ⟨ix,⟨n0,0,[]⟩⟩ (hs.pick [5,5])
     exact hs.sub
    rintro _ w2 ⟨rfl,hs⟩
    refine zg (λh3=>?_) λh3=>?_
    ·refine wp_lt ?_
     rw [if_pos h3]
     refine zn ⟨rfl,rfl,hsame hs.sub⟩
    rw [if_neg h3]
    have hs:=hs.pick [1]
    refine z8 (z00i (lg:=lg) a ⟨ix,⟨n0,0,[]⟩⟩ (by omega) hs) λ_ w' hs=>?_
    obtain ⟨z,rfl,hs⟩:=hs
    refine zb ?_
    refine zf ⟨{ M with z:=z,SM:=M.SM++[(a,⟨ix,⟨n0,0,[]⟩⟩)] },M.SM,a,⟨ix,⟨n0,0,[]⟩⟩,(z07 D1 (zo M.pre n0 zu) (shL n0 0++Fr)).2,rfl,rfl,?_,rfl,⟨rfl,rfl,rfl,rfl⟩,hs⟩
    rw [z2l]
    simp only [List.flatMap_nil,List.length_nil]
    omega
   ·
    have hr:z70 M.seg M.l Fr.length=true:=by simpa using hr
    rw [if_pos hr]
    have h0:M.SM≠[]:=by
     intro h0
     have:M.l=[]:=by unfold LogM.l;rw [h0];rfl
     rw [this] at hr
     cases hr
    obtain ⟨SM0,⟨a,t⟩,hSM⟩:=z3d h0
    have hl1:M.l=SM0.map (λt=>t.2.s)++[t.s]:=by unfold LogM.l;rw [hSM];simp
    have hbase:z5b M.l=t.s.base:=by unfold z5b;rw [hl1,z1s]
    have hadd:z54 M.l q=SM0.map (λt=>t.2.s)++[t.s.add q]:=by unfold z54;rw [hl1,z1s];simp
    have hlst:M.SM.getLast? = some (a,t):=by rw [hSM,z1s]
    rw [hlst]
    have htm:t.s ∈ M.l:=by rw [hl1];simp
    have htb:=(hok.mem _ htm).1.base
    have htf:=hfl _ htm
    refine zk (λv w'=>v=((z07 D (zo M.pre (z5b M.l) zu) Fr).1,())/\Sat w' (lgQ lg M::dk M.d (z07 D (zo M.pre (z5b M.l) zu) Fr).2::slc T.a0 7 z1 (q.flatMap zr)::slc T.a49 1 z2 ((fs.map Prod.fst).flatMap z0c)::HP.all (fs.map frP)::r)) ?_ ?_
    ·obtain ⟨hokm,hs⟩:=zck hSM hs
     have hs:=z3x hs
     refine zw hs λw' hs=>?_
     refine zi ?_
     refine z0z hs ?_
     refine zi ?_
     refine za hs ?_
     refine z8 (z7z (lg:=lg) t.s.base (by omega) (ByteArray.mk #[46,108,111,103]) (by decide) M.pre hokm.size hs) λ_ w' hs=>?_
     obtain ⟨rfl,hs⟩:=hs
     refine zb ?_ (by first|trivial|(repeat (first|exact trivial|exact λ_=>z05 hs|exact λ_=>z0b hs|refine And.intro ?_ ?_)))
     refine zd ?_
     have hs:=hs.pick [8]
     have hall:∀ p ∈ fs,FocR (pt a (.cells #[.pointer (some ⟨t.ix,0,none⟩),.int .i64 t.s.base,.int .i64 t.s.fin,.int .i64 (z0d t.s.bs),.int .i64 (z1d (-1) t.s.bs),.int .i64 (t.s.file.length:Nat)] T.a52)::z2d t.ix (t.s.idx M.gap)::pt lg (.cells #[.pointer (some ⟨M.d,0,none⟩),.string M.pre,.int .i64 M.seg,.int .i64 M.gap,.slice M.z.a M.z.len M.z.cap] T.a51)::slc T.a34 1 M.z ((SM0.map Prod.fst++[a]).flatMap z1n)::HP.all (SM0.map λt=>z0m M.gap t.1 t.2)::slc T.a0 7 z1 (q.flatMap zr)::slc T.a49 1 z2 ((fs.map Prod.fst).flatMap z0c)::HP.all (fs.map frP)::r) p.1 1 (p.2.flatMap zh):=λp hp=>by
      have:FocR (HP.all (fs.map frP)::r) p.1 1 (p.2.flatMap zh):=zga hp
      infer_instance
     have hpsF:FocR (pt a (.cells #[.pointer (some ⟨t.ix,0,none⟩),.int .i64 t.s.base,.int .i64 t.s.fin,.int .i64 (z0d t.s.bs),.int .i64 (z1d (-1) t.s.bs),.int .i64 (t.s.file.length:Nat)] T.a52)::z2d t.ix (t.s.idx M.gap)::pt lg (.cells #[.pointer (some ⟨M.d,0,none⟩),.string M.pre,.int .i64 M.seg,.int .i64 M.gap,.slice M.z.a M.z.len M.z.cap] T.a51)::slc T.a34 1 M.z ((SM0.map Prod.fst++[a]).flatMap z1n)::HP.all (SM0.map λt=>z0m M.gap t.1 t.2)::slc T.a0 7 z1 (q.flatMap zr)::slc T.a49 1 z2 ((fs.map Prod.fst).flatMap z0c)::HP.all (fs.map frP)::r) z2 1 ((fs.map Prod.fst).flatMap zfe):=(inferInstance:FocR _ z2 1 ((fs.map Prod.fst).flatMap z0c))
     refine z8 (zkl (d:=M.d) (A:=D) (zo M.pre t.s.base (bl (ByteArray.mk #[46,108,111,103]))) z2 (fs.map Prod.fst) (fs.map Prod.snd) (hps:=hpsF) (zm1 hall) (by simp only [List.length_map];omega) (λb hb=>?_) hs) λ_ w' hs=>?_
     ·obtain ⟨p,hp,rfl⟩:=List.mem_map.1 hb
      have:=hlbound p hp;omega
     obtain ⟨rfl,hs⟩:=hs
     refine zb ?_
     refine wp_lt ?_
     refine zd ?_
     rw [hflat] at hs ⊢
     refine zf ⟨by rw [hbase];rfl,?_⟩
     rw [hbase]
     have hs:Sat w' (dk M.d (z07 D (zo M.pre t.s.base zu) Fr).2::pt a _::z2d t.ix _::pt lg _::slc T.a34 1 M.z _::HP.all (SM0.map λt=>z0m M.gap t.1 t.2)::slc T.a0 7 z1 (q.flatMap zr)::slc T.a49 1 z2 ((fs.map Prod.fst).flatMap z0c)::HP.all (fs.map frP)::r):=hs
     have hs:=zb6 M hokm (z2o t (hs.pick [1,1]) |>.pick [0,1,1,1])
     have e:{ M with SM:=SM0++[(a,t)] }=M:=by rw [<- hSM]
     rw [e] at hs
     exact hs.sub
    rintro _ w2 ⟨rfl,hs⟩
    refine zg (λh3=>?_) λh3=>?_
    ·refine wp_lt ?_
     rw [if_pos h3]
     refine zn ⟨rfl,rfl,hsame hs.sub⟩
    rw [if_neg h3]
    refine zf ⟨M,SM0,a,t,(z07 D (zo M.pre (z5b M.l) zu) Fr).2,rfl,hSM,by omega,by rw [hadd],⟨rfl,rfl,rfl,rfl⟩,hs⟩
  rintro _ w2 ⟨M1,SM0,a,t,D1,rfl,hSM,htl,hres,⟨hd1,hd2,hd3,hd4⟩,hs⟩
  clear hsame
  rw [hres]
  obtain ⟨hokm,hs⟩:=zck hSM hs
  have hF2:∀ i,((q.take i).flatMap frL).length<=Fr.length:=hfsum
  have hlq:=hs.slen z1 (xs:=q) (enc:=zr)
  refine zk (λ_ w'=>Sat w' (z0m M1.gap a ⟨t.ix,t.s.add q⟩::pt lg (.cells #[.pointer (some ⟨M1.d,0,none⟩),.string M1.pre,.int .i64 M1.seg,.int .i64 M1.gap,.slice M1.z.a M1.z.len M1.z.cap] T.a51)::slc T.a34 1 M1.z ((SM0.map Prod.fst++[a]).flatMap z1n)::HP.all (SM0.map λt=>z0m M1.gap t.1 t.2)::dk M.d D1::slc T.a0 7 z1 (q.flatMap zr)::slc T.a49 1 z2 ((fs.map Prod.fst).flatMap z0c)::HP.all (fs.map frP)::r)) ?_ ?_
  ·refine z09 (λm v w=>∃ i:Nat,v=((i:Int),())/\i<=q.length/\q.length-i=m/\Sat w (z0m M1.gap a ⟨t.ix,t.s.add (q.take i)⟩::pt lg (.cells #[.pointer (some ⟨M1.d,0,none⟩),.string M1.pre,.int .i64 M1.seg,.int .i64 M1.gap,.slice M1.z.a M1.z.len M1.z.cap] T.a51)::slc T.a34 1 M1.z ((SM0.map Prod.fst++[a]).flatMap z1n)::HP.all (SM0.map λt=>z0m M1.gap t.1 t.2)::dk M.d D1::slc T.a0 7 z1 (q.flatMap zr)::slc T.a49 1 z2 ((fs.map Prod.fst).flatMap z0c)::HP.all (fs.map frP)::r)) q.length ⟨0,rfl,by omega,rfl,by rw [List.take_zero,zhh];exact hs⟩ ?_
   clear hs
   rintro m _ w ⟨i,rfl,hi,hm,hs⟩
   refine zj ?_
   refine zg (λhc=>?_) λhc=>?_
   rotate_left
   ·refine zn (zf ?_)
    rwa [List.take_of_length_le (by omega)] at hs
   have hil:i<q.length:=by omega
   have hil2:i<fs.length:=by omega
   refine z39 hs (xs:=q) (enc:=zr) i hil ?_
   refine zm hs λc w' hs=>?_
   refine wp_lt ?_
   refine zl hs λw' hs=>?_
   refine zw hs λw' hs=>?_
   refine ze hs ?_
   refine z1w hs (xs:=fs.map Prod.fst) (enc:=z0c) i (by rw [List.length_map];omega) ?_
   have e1:(fs.map Prod.fst)[i]'(by rw [List.length_map];omega)=fs[i].1:=by simp
   rw [e1]
   have hR:FocR (HP.all (fs.map frP)::r) fs[i].1 1 (fs[i].2.flatMap zh):=zga (List.getElem_mem hil2)
   have hl2:=hs.slen fs[i].1 (xs:=fs[i].2) (enc:=zh)
   rw [hfget i hil2] at hl2
   rw [hl2]
   obtain ⟨hvq,c0,hc0,hcx,hcr⟩:=hp2 q[i] (List.getElem_mem hil)
   have hRb:FocR r q[i].x 4 (q[i].rs.flatMap z00):=by rw [hcx,hcr];exact hbs c0 hc0
   have hfi:((q.take (i+1)).flatMap frL).length=((q.take i).flatMap frL).length+(frL q[i]).length:=by
    rw [List.take_succ_eq_append_getElem hil,List.flatMap_append,List.length_append];simp
   have:=hF2 (i+1)
   refine z8 (zx4 (gap:=M1.gap) (a:=a) q[i] hvq (by show (t.s.add (q.take i)).file.length+_<=_;rw [z72,List.length_append];omega) hs) λ_ w' hs=>?_
   obtain ⟨rfl,hs⟩:=hs
   refine zb ?_
   refine zd ?_
   rw [wS (i:=i) (by omega)]
   refine z0w (q.length-(i+1)) ⟨i+1,rfl,by omega,rfl,?_⟩
   have e2:(t.s.add (q.take i)).add [q[i]]=t.s.add (q.take (i+1)):=by rw [zpm,List.take_succ_eq_append_getElem hil]
   have hs:Sat w' (z0m M1.gap a ⟨t.ix,(t.s.add (q.take i)).add [q[i]]⟩::_):=hs
   rw [e2] at hs
   exact hs.sub
  clear hs
  rintro _ w3 hs
  refine zj ?_
  refine z04z hs (xs:=q) (enc:=zr) 0 (by omega) ?_
  refine wp_lt ?_
  have hq0:(q[0]'(by omega)).base=n0:=hp3 _ (by rw [List.head?_eq_getElem?,List.getElem?_eq_getElem])
  rw [hq0]
  refine ⟨rfl,rfl,?_⟩
  have hs:=z4g _ (zb6 M1 hokm hs)
  have eA:LogM.A { M1 with SM:=SM0++[(a,(⟨t.ix,t.s.add q⟩:SegM))] }=M.A.set ((SM0.map λt=>t.2.s)++[t.s.add q]):=by
   unfold LogM.A LogM.l LogA.set
   simp only [List.map_append,List.map_cons,List.map_nil,hd1,hd2,hd3,hd4]
  rw [eA] at hs
  exact hs.sub
end
def z2x (s:SegA) (k:Nat):Nat:=(shL s.base s.fin).length+((s.bs.take k).flatMap frL).length
def z06 (l:List SegA):List BatM:=l.flatMap SegA.bs
def z4l (l:List SegA) (off most:Int):Int × List BatM:=if most<1 then (2,[]) else if off<z15 l\/off>zt l then (8,[]) else (0,((z06 l).filterMap (z0n off)).take most.toNat)
def zwm (s:SegA) (o:Option EntA):Int:=match o with
 | none=>((shL s.base s.fin).length:Int)
 | some e=>e.place
theorem zwn (s:SegA):z2x s 0=(shL s.base s.fin).length:=by simp [z2x]
theorem zz5 (s:SegA):z2x s s.bs.length=s.file.length:=by unfold z2x;rw [List.take_length,z2l]
theorem zje (s:SegA) {k:Nat} (hk:k<s.bs.length):z2x s (k+1)=z2x s k+(frL s.bs[k]).length:=by
 unfold z2x
 rw [List.take_succ_eq_append_getElem hk,List.flatMap_append,List.length_append]
 simp
 omega
theorem zhz (s:SegA) (k:Nat):z2x s k<=s.file.length:=by
 unfold z2x
 rw [z2l]
 have:(s.bs.flatMap frL)=(s.bs.take k).flatMap frL++(s.bs.drop k).flatMap frL:=by rw [<- List.flatMap_append,List.take_append_drop]
 rw [this,List.length_append];omega
theorem zvv (s:SegA) (k:Nat):s.file.drop (z2x s k)=(s.bs.drop k).flatMap frL:=by
 have e:s.file=(shL s.base s.fin++(s.bs.take k).flatMap frL)++(s.bs.drop k).flatMap frL:=by
  unfold SegA.file
  rw [List.append_assoc,<- List.flatMap_append,List.take_append_drop]
 rw [e]
 exact List.drop_left' (by rw [List.length_append];rfl)
theorem zs0 {s:SegA} (h:SegOk s) {k:Nat} (hk:k<s.bs.length):z0x (s.file.drop (z2x s k))=some (z2j s.bs[k],(frL s.bs[k]).length)/\z5z (z2j s.bs[k])=some s.bs[k]:=by
 obtain ⟨hv,hp⟩:=h.bs.valid s.bs[k] (List.getElem_mem hk)
 have hl:=z5y hv
 have hf:=z56 hv
 refine ⟨?_,by rw [zik hv,hp]⟩
 rw [zvv,List.drop_eq_getElem_cons hk,List.flatMap_cons,hf.2]
 exact z6k hl.2 _
theorem z1j.lt:∀ {n:Int} {bs:List BatM},z1j n bs->∀ (j i:Nat) (hi:i<bs.length) (hj:j<i),n<=(bs[j]'(by omega)).base/\(bs[j]'(by omega)).base+zq (bs[j]'(by omega))<=bs[i].base
 | n,b::bs,⟨h1,h2,h3,h4⟩,0,i+1,hi,hj=>by
  refine ⟨h3,?_⟩
  simp only [List.getElem_cons_zero,List.getElem_cons_succ]
  have hi:i<bs.length:=by simpa using hi
  obtain ⟨s1,-,-,-,-⟩:=z17 b h1
  cases i with
  | zero =>
   cases bs with
   | nil=>simp at hi
   | cons c cs=>exact h4.2.2.1
  | succ i =>
   have:=(h4.lt 0 (i+1) hi (by omega)).1
   have h5:=(h4.lt 0 (i+1) hi (by omega)).2
   obtain ⟨s2,-,-,-,-⟩:=z17 _ (h4.valid _ (List.getElem_mem (show 0<bs.length by omega))).1
   omega
 | n,b::bs,⟨h1,h2,h3,h4⟩,j+1,i+1,hi,hj=>by
  simp only [List.getElem_cons_succ]
  have hi:i<bs.length:=by simpa using hi
  have:=h4.lt j i hi (by omega)
  obtain ⟨s1,-,-,-,-⟩:=z17 b h1
  exact ⟨by omega,this.2⟩
theorem z1j.le_next {n:Int} {bs:List BatM} (h:z1j n bs) {b:BatM} (hb:b ∈ bs):b.base+zq b<=z0d bs:=by
 obtain ⟨j,hj,rfl⟩:=List.mem_iff_getElem.1 hb
 have hne:bs≠[]:=by rintro rfl;simp at hj
 have e:z0d bs=(bs[bs.length-1]'(by omega)).base+zq (bs[bs.length-1]'(by omega)):=by
  unfold z0d
  rw [List.getLast?_eq_getElem?,List.getElem?_eq_getElem (by omega)]
 rw [e]
 by_cases hjl:j=bs.length-1
 ·subst hjl;exact Int.le_refl _
 ·have:=(h.lt j (bs.length-1) (by omega) (by omega)).2
  obtain ⟨s1,-,-,-,-⟩:=z17 _ (h.valid _ (List.getElem_mem (show bs.length-1<bs.length by omega))).1
  omega
theorem zgp {off:Int} {b:BatM} (hv:z04 b=0) (h:b.base+zq b<=off):z0n off b=none:=by
 unfold z0n
 rw [if_pos (.inr (by unfold z1p;rw [if_neg (by rw [hv];simp)];exact h))]
theorem zpz {off:Int} {b c:BatM} (hp:b.p=b) (h:z0n off b=some c):c.p=c:=by
 have hx:b.x=z7k:=by rw [<- hp];rfl
 unfold z0n at h
 split at h
 ·cases h
 ·split at h
  ·simp only [Option.some.injEq] at h;subst h;exact hp
  ·simp only [Option.some.injEq] at h;subst h;unfold zk5 BatM.p;simp only [hx];rfl
theorem zb1 {α β:Type} {f:α->Option β} {l:List α} (h:∀ x ∈ l,f x=none):l.filterMap f=[]:=by
 rw [List.filterMap_eq_nil_iff];exact h
theorem zvx {s:SegA} (h:SegOk s) (hl:s.file.length<=4194304) (gap off:Int):∃ k,k<=s.bs.length/\zwm s (z33 (s.idx gap).l off)=((z2x s k:Nat):Int)/\∀ b ∈ s.bs.take k,b.base+zq b<=off:=by
 have hi:=zlc gap s.bs.length (n:=s.base) (q:=(shL s.base s.fin).length) rfl h.base.1 (by omega) h.bs (by have:=z2l s;omega)
 cases hf:z33 (s.idx gap).l off with
 | none=>exact ⟨0,Nat.zero_le _,by rw [zwn];rfl,by simp⟩
 | some e =>
  unfold z33 at hf
  obtain ⟨a,c,hac,he,-⟩:=zmw hf
  have he:e.offset<=off:=by simpa using he
  obtain ⟨i,hil,hie⟩:=hi.ent e (by show e ∈ (s.idx gap).l;rw [hac];simp)
  refine ⟨i,by omega,?_,λb hb=>?_⟩
  ·show e.place=_
   rw [hie]
   unfold z2x
   simp only
   omega
  ·obtain ⟨j,hj,rfl⟩:=List.mem_iff_getElem.1 hb
   rw [List.length_take] at hj
   rw [List.getElem_take]
   have:=(h.bs.lt j i hil (by omega)).2
   rw [hie] at he
   simp only at he
   omega
theorem z0a.skip:∀ {n:Int} {l:List SegA},z0a n l->∀ (i j:Nat) (hj:j<l.length) (hi:i<j),(l[i]'(by omega)).reach<=l[j].base/\(l[i]'(by omega)).base<l[j].base
 | n,s::l,⟨h1,h2,h3⟩,0,j+1,hj,_=>by
  have hj:j<l.length:=by simpa using hj
  have:=(h3.mem l[j] (List.getElem_mem hj)).2
  simp only [List.getElem_cons_zero,List.getElem_cons_succ]
  omega
 | n,s::l,⟨h1,h2,h3⟩,i+1,j+1,hj,hi=>by
  simp only [List.getElem_cons_succ]
  exact h3.skip i j (by simpa using hj) (by omega)
theorem zzr {l:List SegA} (hok:z0a 0 l) {off:Int} {i:Nat} (hi:i<l.length) (hb:l[i].base<=off\/i=0):(z06 l).filterMap (z0n off)=(z06 (l.drop i)).filterMap (z0n off):=by
 have e:z06 l=z06 (l.take i)++z06 (l.drop i):=by unfold z06;rw [<- List.flatMap_append,List.take_append_drop]
 rw [e,List.filterMap_append,zb1 (l:=z06 (l.take i)),List.nil_append]
 intro b hb'
 obtain ⟨s,hs,hbs⟩:=List.mem_flatMap.1 hb'
 obtain ⟨j,hj,rfl⟩:=List.mem_iff_getElem.1 hs
 rw [List.length_take] at hj
 rw [List.getElem_take] at hbs
 have h1:=(hok.skip j i hi (by omega)).1
 have hsg:=(hok.mem (l[j]'(by omega)) (List.getElem_mem _)).1
 have h2:=hsg.bs.le_next hbs
 have h3:=(z5h hsg).2.2.1
 refine zgp (hsg.bs.valid b hbs).1 ?_
 rcases hb with hb|hb
 ·omega
 ·omega
theorem zhl {s:SegA} (h:SegOk s):s.bs.length*10<=s.file.length:=by
 have:=z9m h.bs
 rw [z2l];omega
def z0s (pre:ByteArray):List ByteArray->DiskA->Int × List Int × DiskA
 | [],D=>(0,[],D)
 | n::ns,D=>if (z1c pre n z80).isSome=true/\(z14 D n).1≠0 then ((z14 D n).1,[],(z14 D n).2) else
  ((z0s pre ns (if (z1c pre n z80).isSome then (z14 D n).2 else D)).1,(match z1c pre n zu with|some b=>[(b:Int)]|none=>[])++(z0s pre ns (if (z1c pre n z80).isSome then (z14 D n).2 else D)).2.1,(z0s pre ns (if (z1c pre n z80).isSome then (z14 D n).2 else D)).2.2)
def z6i (pre:ByteArray):List Int->DiskA->Int × DiskA
 | [],D=>(0,D)
 | b::bs,D=>if (z14 D (zo pre b zu)).1≠0 then z14 D (zo pre b zu) else z6i pre bs (z14 D (zo pre b zu)).2
def z1m (pre:ByteArray) (l:List SegA) (D:DiskA) (base:Int):(Bool × Int) × List SegA × DiskA:=match z03 D.fs (zo pre base zu) with
 | none=>((false,3),l,D)
 | some p=>match z4o base p.1 with
  | none=>((false,(z14 D (zo pre base zu)).1),l,(z14 D (zo pre base zu)).2)
  | some q=>if q.2=p.1.length then ((true,0),l++[q.1],D) else ((false,(cutA' D (zo pre base zu) (q.2:Nat)).1),l++[q.1],(cutA' D (zo pre base zu) (q.2:Nat)).2)
def z21 (pre:ByteArray):List Int->List SegA->DiskA->Int × List SegA × DiskA
 | [],l,D=>(0,l,D)
 | b::bs,l,D=>if b<zt l then (if (z14 D (zo pre b zu)).1≠0 then ((z14 D (zo pre b zu)).1,l,(z14 D (zo pre b zu)).2) else z21 pre bs l (z14 D (zo pre b zu)).2) else
  if (z1m pre l D b).1.2≠0 then ((z1m pre l D b).1.2,(z1m pre l D b).2) else
  if (z1m pre l D b).1.1=true then z21 pre bs (z1m pre l D b).2.1 (z1m pre l D b).2.2 else ((z6i pre bs (z1m pre l D b).2.2).1,(z1m pre l D b).2.1,(z6i pre bs (z1m pre l D b).2.2).2)
def z4i (pre:ByteArray) (D:DiskA):Int × List SegA × DiskA :=
 if (z0s pre (z0y (z16 pre) D.fs) D).1≠0 then ((z0s pre (z0y (z16 pre) D.fs) D).1,[],(z0s pre (z0y (z16 pre) D.fs) D).2.2) else
  z21 pre (z0s pre (z0y (z16 pre) D.fs) D).2.1 [] (z0s pre (z0y (z16 pre) D.fs) D).2.2
theorem z038 (pre:ByteArray):pre++ByteArray.mk #[45]=z16 pre:=by
 apply zct
 rw [zhi]
 unfold bl
 simp
theorem zxo {pre n:ByteArray} {x:List UInt8} {v:Nat} (h:z1c pre n x=some v):v<17592186044416:=by
 unfold z1c at h
 split at h
 ·have:=zho (k:=0) h (by omega)
  have h2:16 ^ (0+(((bl n).drop ((bl pre).length+1)).take 11).length)<=16 ^ 11:=Nat.pow_le_pow_right (by omega) (by rw [List.length_take];omega)
  omega
 ·cases h
theorem ziq {pre:ByteArray}:∀ {ns:List ByteArray} {D:DiskA},∀ b ∈ (z0s pre ns D).2.1,0<=b/\b<17592186044416
 | [],D,b,h=>by cases h
 | n::ns,D,b,h=>by
  unfold z0s at h
  split at h
  ·cases h
  ·simp only at h
   rcases List.mem_append.1 h with h|h
   ·cases hb:z1c pre n zu with
    | none=>rw [hb] at h;cases h
    | some v =>
     rw [hb] at h
     simp only [List.mem_cons,List.not_mem_nil,or_false] at h
     have:=zxo hb
     omega
   ·exact ziq b h
theorem zgn {pre:ByteArray}:∀ {ns:List ByteArray} {D:DiskA},(z0s pre ns D).2.1.length<=ns.length
 | [],D=>Nat.le_refl _
 | n::ns,D=>by
  unfold z0s
  split
  ·exact Nat.zero_le _
  ·simp only [List.length_append,List.length_cons]
   have:=zgn (pre:=pre) (ns:=ns) (D:=if (z1c pre n z80).isSome then (z14 D n).2 else D)
   split <;> simp <;> omega
section
variable {w:World} {l r:List HP} {lg:Nat} {M:LogM} {A:LogA} {D:DiskA} {gap:Int} {a:Nat} {t:SegM}
def lgR (M:LogM):HP:=HP.star (slc T.a34 1 M.z ((M.SM.map Prod.fst).flatMap z1n)) (HP.all (M.SM.map λt=>z0m M.gap t.1 t.2))
theorem z9p (hs:Sat w (lgQ lg M::l)):okM M.gap M.seg M.pre/\Sat w (pt lg (.cells #[.pointer (some ⟨M.d,0,none⟩),.string M.pre,.int .i64 M.seg,.int .i64 M.gap,.slice M.z.a M.z.len M.z.cap] T.a51)::lgR M::l):=by
 obtain ⟨h,hs⟩:=hs.and
 exact ⟨h,hs.star⟩
theorem z4h (M:LogM) (h:okM M.gap M.seg M.pre) (hs:Sat w (pt lg (.cells #[.pointer (some ⟨M.d,0,none⟩),.string M.pre,.int .i64 M.seg,.int .i64 M.gap,.slice M.z.a M.z.len M.z.cap] T.a51)::lgR M::l)):Sat w (lgQ lg M::l):=.and_mk h (.star_mk hs)
theorem z03f {r1:List HP} [hf:Fo l lgQ lg M r1] [hf2:Fo r1 dk M.d D r] (hs:Sat w l) :
  Ret P F.a130 #[.pointer (some ⟨lg,0,none⟩)] w λvs w' =>
   ((z0s M.pre (z0y (z16 M.pre) D.fs) D).1≠0/\vs=[.slice none 0 0,.int .i64 (z0s M.pre (z0y (z16 M.pre) D.fs) D).1]/\Sat w' (lgQ lg M::dk M.d (z0s M.pre (z0y (z16 M.pre) D.fs) D).2.2::r)) \/
   ((z0s M.pre (z0y (z16 M.pre) D.fs) D).1=0/\∃ z:Sl,vs=[z.v,.int .i64 0]/\Sat w' (slc T.a14 1 z ((z0s M.pre (z0y (z16 M.pre) D.fs) D).2.1.flatMap z43)::lgQ lg M::dk M.d (z0s M.pre (z0y (z16 M.pre) D.fs) D).2.2::r)) :=
 zo3 _ <| by
  delta z01k AB AC AF AG AP AQ AR AS Aa Ab Ac Ad Ag Ah Ai Aj Ao Ay Bg Bl Bw
  have hs:=hs.perm (hf.perm.trans (.cons _ hf2.perm))
  clear hf hf2
  obtain ⟨hokm,hs⟩:=z9p hs
  have hsz:=hokm.size
  refine zw hs λw' hs=>?_
  refine zi ?_
  refine za hs ?_
  refine zi ?_
  refine za hs ?_
  refine wp_must (by omega) ?_
  rw [z038]
  obtain ⟨m_,FS_,-,hokD,-⟩:=z24 (hs.pick [2])
  have hok24:∀ n ∈ z0y (z16 M.pre) D.fs,n.size<=24:=λn hn=>by
   unfold z0y at hn
   obtain ⟨f,hf,rfl⟩:=List.mem_map.1 (List.mem_filter.1 hn).1
   exact hokD.names f hf
  have hnl:(z0y (z16 M.pre) D.fs).length<=128:=by
   unfold z0y
   exact Nat.le_trans (List.length_filter_le _ _) (by rw [List.length_map];exact hokD.many)
  refine z8 (zqe (d:=M.d) (A:=D) (z16 M.pre) hs) λ_ w' hs=>?_
  obtain ⟨x,rfl,hs⟩:=hs
  refine zb ?_
  refine zd ?_
  generalize z0y (z16 M.pre) D.fs=ns at *
  have hl:=hs.slen x (xs:=ns) (enc:=z29)
  refine zk (λq w'=>∃ z:Sl,q=(z,())/\(z0s M.pre ns D).1=0/\Sat w' (slc T.a14 1 z ((z0s M.pre ns D).2.1.flatMap z43)::lgQ lg M::dk M.d (z0s M.pre ns D).2.2::r)) ?_ ?_
  rotate_left
  ·rintro _ w2 ⟨z,rfl,h1,hs⟩
   exact ⟨rfl,.inr ⟨h1,z,rfl,hs⟩⟩
  have hs:Sat w' (slc T.a14 1 ⟨none,0,0⟩ (([]:List Int).flatMap z43)::dk M.d D::pt lg (.cells #[.pointer (some ⟨M.d,0,none⟩),.string M.pre,.int .i64 M.seg,.int .i64 M.gap,.slice M.z.a M.z.len M.z.cap] T.a51)::lgR M::slc T.a54 1 x (ns.flatMap z29)::r):=by
   have h1:Sat w' (slc T.a14 1 ⟨none,0,0⟩ (([]:List Int).flatMap z43)::_):=hs.slc_nil
   exact h1.sub
  refine z09 (λm v w=>∃ (i:Nat) (z:Sl) (done:List Int) (D':DiskA),v=(z,((i:Int),()))/\i<=ns.length/\ns.length-i=m/\done.length<=i /\
   ((z0s M.pre ns D).1=(z0s M.pre (ns.drop i) D').1/\(z0s M.pre ns D).2.2=(z0s M.pre (ns.drop i) D').2.2/\((z0s M.pre (ns.drop i) D').1=0->(z0s M.pre ns D).2.1=done++(z0s M.pre (ns.drop i) D').2.1)) /\
   Sat w (slc T.a14 1 z (done.flatMap z43)::dk M.d D'::pt lg (.cells #[.pointer (some ⟨M.d,0,none⟩),.string M.pre,.int .i64 M.seg,.int .i64 M.gap,.slice M.z.a M.z.len M.z.cap] T.a51)::lgR M::slc T.a54 1 x (ns.flatMap z29)::r)) ns.length
   ⟨0,⟨none,0,0⟩,[],D,rfl,by omega,rfl,by simp,⟨rfl,rfl,λ_=>rfl⟩,hs⟩ ?_
  clear hs
  rintro m _ w ⟨i,z,done,D',rfl,hi,hm,hdl,⟨hq1,hq2,hq3⟩,hs⟩
  refine zj ?_
  refine zg (λhc=>?_) λhc=>?_
  rotate_left
  ·have e:ns.drop i=[]:=List.drop_eq_nil_of_le (by omega)
   rw [e] at hq1 hq2 hq3
   have hq3:=hq3 rfl
   have e2:(z0s M.pre [] D').2.1=[]:=rfl
   rw [e2,List.append_nil] at hq3
   refine zn (zf ⟨z,rfl,hq1,?_⟩)
   have e3:(z0s M.pre [] D').2.2=D':=rfl
   rw [hq2,hq3,e3]
   have hs:=z4h M hokm (hs.pick [2,2])
   exact hs.sub
  have hil:i<ns.length:=by omega
  have hdrop:ns.drop i=ns[i]::ns.drop (i+1):=List.drop_eq_getElem_cons hil
  rw [hdrop] at hq1 hq2 hq3
  have hn24:=hok24 ns[i] (List.getElem_mem hil)
  refine z1w hs (xs:=ns) (enc:=z29) i hil ?_
  refine wp_lt ?_
  refine z8 (zpp (lg:=lg) ns[i] (ByteArray.mk #[46,108,111,103]) (by omega) (by decide) M.pre hsz hs) λ_ w' hs=>?_
  obtain ⟨rfl,hs⟩:=hs
  refine zb ?_
  refine wp_lt ?_
  refine wp_lt ?_
  have eb:z1c M.pre ns[i] (bl (ByteArray.mk #[46,108,111,103]))=z1c M.pre ns[i] zu:=rfl
  rw [eb]
  refine zk (λq w'=>∃ z':Sl,q=(z',())/\Sat w' (slc T.a14 1 z' ((done++(match z1c M.pre ns[i] zu with|some b=>[(b:Int)]|none=>[])).flatMap z43)::dk M.d D'::pt lg (.cells #[.pointer (some ⟨M.d,0,none⟩),.string M.pre,.int .i64 M.seg,.int .i64 M.gap,.slice M.z.a M.z.len M.z.cap] T.a51)::lgR M::slc T.a54 1 x (ns.flatMap z29)::r)) ?_ ?_
  ·cases hb:z1c M.pre ns[i] zu with
   | none =>
    refine zy ?_ (by simp)
    refine zf ⟨z,rfl,?_⟩
    rw [List.append_nil]
    exact hs
   | some b =>
    refine z0o ?_ (by rfl)
    refine z5m (xs:=done) (enc:=z43) (y:=(b:Int)) hs (λz' w' hs=>?_) rfl (by omega)
    exact zf ⟨z',rfl,hs⟩
  rintro _ w2 ⟨z',rfl,hs⟩
  have hdl2:(done++(match z1c M.pre ns[i] zu with|some b=>[(b:Int)]|none=>[])).length<=i+1:=by
   rw [List.length_append]
   split <;> simp <;> omega
  refine z8 (zpp (lg:=lg) ns[i] (ByteArray.mk #[46,110,101,119]) (by omega) (by decide) M.pre hsz hs) λ_ w' hs=>?_
  obtain ⟨rfl,hs⟩:=hs
  refine zb ?_
  refine wp_lt ?_
  refine wp_lt ?_
  have eb2:z1c M.pre ns[i] (bl (ByteArray.mk #[46,110,101,119]))=z1c M.pre ns[i] z80:=rfl
  rw [eb2]
  have hun:z0s M.pre (ns[i]::ns.drop (i+1)) D'=if (z1c M.pre ns[i] z80).isSome=true/\(z14 D' ns[i]).1≠0 then ((z14 D' ns[i]).1,[],(z14 D' ns[i]).2) else
   ((z0s M.pre (ns.drop (i+1)) (if (z1c M.pre ns[i] z80).isSome then (z14 D' ns[i]).2 else D')).1,(match z1c M.pre ns[i] zu with|some b=>[(b:Int)]|none=>[])++(z0s M.pre (ns.drop (i+1)) (if (z1c M.pre ns[i] z80).isSome then (z14 D' ns[i]).2 else D')).2.1,(z0s M.pre (ns.drop (i+1)) (if (z1c M.pre ns[i] z80).isSome then (z14 D' ns[i]).2 else D')).2.2):=rfl
  refine zk (λq w'=>¬ ((z1c M.pre ns[i] z80).isSome=true/\(z14 D' ns[i]).1≠0)/\Sat w' (slc T.a14 1 z' ((done++(match z1c M.pre ns[i] zu with|some b=>[(b:Int)]|none=>[])).flatMap z43)::dk M.d (if (z1c M.pre ns[i] z80).isSome then (z14 D' ns[i]).2 else D')::pt lg (.cells #[.pointer (some ⟨M.d,0,none⟩),.string M.pre,.int .i64 M.seg,.int .i64 M.gap,.slice M.z.a M.z.len M.z.cap] T.a51)::lgR M::slc T.a54 1 x (ns.flatMap z29)::r)) ?_ ?_
  ·refine zg (λh=>?_) λh=>?_
   rotate_left
   ·refine zf ⟨λhh=>h hh.1,?_⟩
    rw [if_neg h]
    exact hs
   refine zi ?_
   refine za hs ?_
   refine z8 (zc5 (d:=M.d) (A:=D') ns[i] hs) λ_ w' hs=>?_
   obtain ⟨rfl,hs⟩:=hs
   refine zb ?_
   refine wp_lt ?_
   refine zg (λh2=>?_) λh2=>?_
   ·refine wp_lt ?_
    rw [if_pos ⟨h,h2⟩] at hun
    rw [hun] at hq1 hq2
    have hs:=z4h M hokm (hs.pick [2,2])
    refine zn (zn (zn ⟨rfl,.inl ⟨by rw [hq1];exact h2,by rw [hq1],?_⟩⟩))
    rw [hq2]
    exact hs.sub
   ·refine zf ⟨λhh=>h2 hh.2,?_⟩
    rw [if_pos h]
    exact hs.sub
  rintro _ w3 ⟨hno,hs⟩
  rw [if_neg hno] at hun
  rw [hun] at hq1 hq2 hq3
  refine zj ?_
  rw [wS (i:=i) (by omega)]
  refine z0w (ns.length-(i+1)) ⟨i+1,z',done++(match z1c M.pre ns[i] zu with|some b=>[(b:Int)]|none=>[]),_,rfl,by omega,rfl,hdl2,⟨hq1,hq2,λh=>?_⟩,hs⟩
  rw [hq3 h,List.append_assoc]
theorem z03a (x:Sl) (bs:List Int) (hb:∀ b ∈ bs,0<=b/\b<17592186044416) {r1:List HP} [hf:Fo l lgQ lg M r1] [hf2:Fo r1 dk M.d D r] (hx:FocR r x 1 (bs.flatMap z43)) (hlen:bs.length<=1000000) (hs:Sat w l) :
  Ret P F.a129 #[.pointer (some ⟨lg,0,none⟩),x.v] w λvs w'=>vs=[.int .i64 (z6i M.pre bs D).1]/\Sat w' (lgQ lg M::dk M.d (z6i M.pre bs D).2::r) :=
 zo2 _ x <| by
  delta z01j AB AC AD AF AG AI AO Aa Ab Ac Ad Ag Ah Ai Aj B4 Bu
  have hs:=hs.perm (hf.perm.trans (.cons _ hf2.perm))
  clear hf hf2
  obtain ⟨hokm,hs⟩:=z9p hs
  have hsz:=hokm.size
  have hl:=hs.slen x (xs:=bs) (enc:=z43)
  refine zk (λ_ w'=>(z6i M.pre bs D).1=0/\Sat w' (lgQ lg M::dk M.d (z6i M.pre bs D).2::r)) ?_ ?_
  rotate_left
  ·rintro _ w2 ⟨h1,hs⟩
   rw [h1]
   exact ⟨rfl,rfl,hs⟩
  refine z09 (λm v w=>∃ (i:Nat) (D':DiskA),v=((i:Int),())/\i<=bs.length/\bs.length-i=m/\z6i M.pre bs D=z6i M.pre (bs.drop i) D' /\
   Sat w (pt lg (.cells #[.pointer (some ⟨M.d,0,none⟩),.string M.pre,.int .i64 M.seg,.int .i64 M.gap,.slice M.z.a M.z.len M.z.cap] T.a51)::lgR M::dk M.d D'::r)) bs.length ⟨0,D,rfl,by omega,rfl,rfl,hs⟩ ?_
  clear hs
  rintro m _ w ⟨i,D',rfl,hi,hm,hq,hs⟩
  refine zj ?_
  refine zg (λhc=>?_) λhc=>?_
  rotate_left
  ·have e:bs.drop i=[]:=List.drop_eq_nil_of_le (by omega)
   rw [e] at hq
   refine zn (zf ⟨by rw [hq];rfl,?_⟩)
   rw [hq]
   exact z4h M hokm hs
  have hil:i<bs.length:=by omega
  rw [List.drop_eq_getElem_cons hil] at hq
  have hbb:=hb bs[i] (List.getElem_mem hil)
  refine z1w hs (xs:=bs) (enc:=z43) i hil ?_
  refine wp_lt ?_
  have hun:z6i M.pre (bs[i]::bs.drop (i+1)) D'=if (z14 D' (zo M.pre bs[i] zu)).1≠0 then z14 D' (zo M.pre bs[i] zu) else z6i M.pre (bs.drop (i+1)) (z14 D' (zo M.pre bs[i] zu)).2:=rfl
  refine zk (λv w'=>v=((z14 D' (zo M.pre bs[i] zu)).1,())/\Sat w' (pt lg (.cells #[.pointer (some ⟨M.d,0,none⟩),.string M.pre,.int .i64 M.seg,.int .i64 M.gap,.slice M.z.a M.z.len M.z.cap] T.a51)::lgR M::dk M.d (z14 D' (zo M.pre bs[i] zu)).2::r)) ?_ ?_
  ·refine zw hs λw' hs=>?_
   refine zi ?_
   refine z0z hs ?_
   refine z8 (z7z (lg:=lg) bs[i] hbb (ByteArray.mk #[46,108,111,103]) (by decide) M.pre hsz hs) λ_ w' hs=>?_
   obtain ⟨rfl,hs⟩:=hs
   refine zb ?_ (by first|trivial|(repeat (first|exact trivial|exact λ_=>z05 hs|exact λ_=>z0b hs|refine And.intro ?_ ?_)))
   refine zd ?_
   refine z8 (zc5 (d:=M.d) (A:=D') (zo M.pre bs[i] (bl (ByteArray.mk #[46,108,111,103]))) hs) λ_ w' hs=>?_
   obtain ⟨rfl,hs⟩:=hs
   refine zb ?_
   refine wp_lt ?_
   refine zd ?_
   have hs:Sat w' (dk M.d (z14 D' (zo M.pre bs[i] zu)).2::_):=hs
   exact zf ⟨rfl,hs.sub⟩
  rintro _ w2 ⟨rfl,hs⟩
  refine zg (λh=>?_) λh=>?_
  ·refine wp_lt ?_
   rw [if_pos h] at hun
   rw [hun] at hq
   rw [hq]
   exact zn (zn ⟨rfl,rfl,z4h M hokm hs⟩)
  ·rw [if_neg h] at hun
   rw [hun] at hq
   rw [wS (i:=i) (by omega)]
   exact z0w (bs.length-(i+1)) ⟨i+1,_,rfl,by omega,rfl,hq,hs⟩
end
theorem zh8 (k:Nat) (n:Int) (raw:List UInt8):z2c (k+1) n raw=match z0x raw with
  | none=>([],0)
  | some (body,m)=>match z5z body with
   | none=>([],0)
   | some b=>if b.base<n then ([],0) else (b::(z2c k (b.base+zq b) (raw.drop m)).1,m+(z2c k (b.base+zq b) (raw.drop m)).2):=rfl
theorem zdp {fs:List FileA} {n:ByteArray} {p:List UInt8 × Nat} (h:z03 fs n=some p):p.1.length<=used fs:=z86 (zry h)
section
variable {w:World} {l r:List HP} {lg:Nat} {M:LogM} {A:LogA} {D:DiskA} {gap:Int} {a:Nat} {t:SegM}
theorem zzv (b:BatM) (z:Sl) (hv:z04 b=0) (hp:b.p=b) [hf:Fo l (z0m gap) a t r] [hb:FocR r z 4 (b.rs.flatMap z00)] (hlen:t.s.file.length+(frL b).length<=1000000000) (hs:Sat w l) :
  Ret P F.a147 #[.pointer (some ⟨a,0,none⟩),.agg (zr (b.at z)).toArray,.int .i64 ((frL b).length:Nat)] w λvs w'=>vs=[]/\Sat w' (z0m gap a ⟨t.ix,t.s.add [b]⟩::r):=by
 have hb':FocR r (b.at z).x 4 ((b.at z).rs.flatMap z00):=hb
 have h:=zx4 (gap:=gap) (a:=a) (b.at z) hv hlen hs
 have e:t.s.add [b.at z]=t.s.add [b]:=by
  unfold SegA.add
  have:(b.at z).p=b.p:=rfl
  simp only [List.map_cons,List.map_nil,this]
 rw [e] at h
 exact h
set_option maxHeartbeats 1000000 in
theorem z06k (base:Int) (hb:0<=base/\base<17592186044416) {r1:List HP} [hf:Fo l lgQ lg M r1] [hf2:Fo r1 dk M.d D r] (hlen:M.SM.length<=1000000) (hs:Sat w l) :
  Ret P F.a136 #[.pointer (some ⟨lg,0,none⟩),.int .i64 base] w λvs w'=>vs=[.bool (z1m M.pre M.l D base).1.1,.int .i64 (z1m M.pre M.l D base).1.2] /\
   ∃ M':LogM,(M'.d=M.d/\M'.pre=M.pre/\M'.seg=M.seg/\M'.gap=M.gap)/\M'.l=(z1m M.pre M.l D base).2.1/\M'.SM.length<=M.SM.length+1/\Sat w' (lgQ lg M'::dk M.d (z1m M.pre M.l D base).2.2::r) :=
 zo9 _ base <| by
  delta z01q AD AF AI AJ AR AW Aa Ab Ac Ad Ag Ah Ai Aj Am Ao Ar Au B1 B3 Bg Bn Bt Bu Bw Bz
  have hs:=hs.perm (hf.perm.trans (.cons _ hf2.perm))
  clear hf hf2
  obtain ⟨hokm,hs⟩:=z9p hs
  have hsz:=hokm.size
  obtain ⟨m_,FS_,-,hokD,-⟩:=z24 (hs.pick [2])
  refine z8 (z7z (lg:=lg) base hb (ByteArray.mk #[46,108,111,103]) (by decide) M.pre hsz hs) λ_ w' hs=>?_
  obtain ⟨rfl,hs⟩:=hs
  refine zb ?_
  have en:zo M.pre base (bl (ByteArray.mk #[46,108,111,103]))=zo M.pre base zu:=rfl
  rw [en]
  generalize hnm:zo M.pre base zu=nm at *
  refine wp_lt ?_
  refine zi ?_
  refine za hs ?_
  have hsame:∀ {w:World} {D':DiskA},Sat w (pt lg (.cells #[.pointer (some ⟨M.d,0,none⟩),.string M.pre,.int .i64 M.seg,.int .i64 M.gap,.slice M.z.a M.z.len M.z.cap] T.a51)::lgR M::dk M.d D'::r)->∃ M':LogM,(M'.d=M.d/\M'.pre=M.pre/\M'.seg=M.seg/\M'.gap=M.gap)/\M'.l=M.l/\M'.SM.length<=M.SM.length+1/\Sat w (lgQ lg M'::dk M.d D'::r):=λhs=>⟨M,⟨rfl,rfl,rfl,rfl⟩,rfl,by omega,z4h M hokm hs⟩
  unfold z1m
  rw [hnm]
  refine z8 (zh2 (d:=M.d) (A:=D) nm hs) λ_ w' hs=>?_
  rcases hs with ⟨f,hff,hfn,x,rfl,hs⟩|⟨hno,rfl,hs⟩
  rotate_left
  ·refine zb ?_
   refine wp_lt ?_
   refine z0o ?_ (by decide)
   refine wp_lt ?_
   rw [zbq.2 hno]
   exact ⟨rfl,rfl,hsame hs.sub⟩
  refine zb ?_
  refine wp_lt ?_
  refine zy ?_ (by simp)
  have hfd:z03 D.fs nm=some (f.b,f.kept):=by rw [<- hfn];exact zcy (z2q hokD.sorted) hff
  have hrl:f.b.length<=4194304:=Nat.le_trans (z86 hff) hokD.used
  rw [hfd]
  simp only
  generalize f.b=raw at *
  have hl:=hs.slen x (xs:=raw) (enc:=zh)
  have hcap:=hs.slc_cap
  refine z8 (zbp x raw hcap (by omega) hs) λ_ w' hs=>?_
  obtain ⟨y,rfl,hs⟩:=hs
  refine zb ?_
  refine wp_lt ?_
  refine wp_lt ?_
  refine zk (λq w'=>∃ v:Int,q=(v,(z4o base raw).isSome,())/\(∀ s,z4o base raw=some s->v=s.1.fin)/\Sat w' (slc T.a57 1 x (raw.flatMap zh)::pt lg (.cells #[.pointer (some ⟨M.d,0,none⟩),.string M.pre,.int .i64 M.seg,.int .i64 M.gap,.slice M.z.a M.z.len M.z.cap] T.a51)::lgR M::dk M.d D::r)) ?_ ?_
  ·cases hfr:z0x raw with
   | none =>
    rw [hfr] at hs
    have e:z4o base raw=none:=by unfold z4o;rw [hfr]
    rw [e]
    refine zy ?_ (by simp)
    exact zf ⟨0,rfl,(λs h=>by cases h),hs.sub⟩
   | some q =>
    obtain ⟨body,m⟩:=q
    rw [hfr] at hs
    have hs:Sat w' (slc T.a57 1 y (body.flatMap zh)::_):=hs
    obtain ⟨-,-,hbd,-⟩:=z62 hfr
    refine z0o ?_ (by rfl)
    refine z8 (zya y body base (by omega) (by omega) hs) λ_ w' hs=>?_
    obtain ⟨v,rfl,hv,hs⟩:=hs
    refine zb ?_
    refine wp_lt ?_
    refine wp_lt ?_
    have e:z4o base raw=match z5s base body with
      | none=>none
      | some fin=>some (⟨base,fin,(z2c raw.length base (raw.drop m)).1⟩,m+(z2c raw.length base (raw.drop m)).2):=by simp only [z4o,hfr];cases z5s base body <;> rfl
    rw [e]
    cases hh:z5s base body with
    | none=>exact zf ⟨v,rfl,(λs h=>by cases h),hs.sub⟩
    | some fin =>
     have:=hv fin hh
     subst this
     exact zf ⟨v,rfl,(λs h=>by simp only [Option.some.injEq] at h;subst h;rfl),hs.sub⟩
  rintro _ w2 ⟨v,rfl,hv,hs⟩
  cases hsc:z4o base raw with
  | none =>
   refine z0o ?_ (by simp)
   refine zi ?_
   refine za hs ?_
   refine z8 (zc5 (d:=M.d) (A:=D) nm hs) λ_ w' hs=>?_
   obtain ⟨rfl,hs⟩:=hs
   refine zb ?_
   refine wp_lt ?_
   exact ⟨rfl,rfl,hsame hs.sub⟩
  | some q =>
   obtain ⟨s,mm⟩:=q
   dsimp only
   have hv:=hv _ hsc
   have hv:v=s.fin:=hv
   subst hv
   obtain ⟨hsok,hsb,hst,hsm,hsml⟩:=zmb hsc
   refine zy ?_ (by simp)
   obtain ⟨m0,hm0,htk⟩:∃ m0,((z0x raw).getD ([],0)).2=m0/\m0<=raw.length/\m0=(shL s.base s.fin).length/\s.bs=(z2c raw.length base (raw.drop m0)).1/\mm=m0+(z2c raw.length base (raw.drop m0)).2:=by
    unfold z4o at hsc
    cases hfr:z0x raw with
    | none=>rw [hfr] at hsc;cases hsc
    | some q =>
     obtain ⟨body,m⟩:=q
     rw [hfr] at hsc
     simp only at hsc
     cases hh:z5s base body with
     | none=>rw [hh] at hsc;cases hsc
     | some fin =>
      rw [hh] at hsc
      simp only [Option.some.injEq,Prod.mk.injEq] at hsc
      obtain ⟨e1,e2⟩:=hsc
      obtain ⟨f1,f2,f3,f4⟩:=z62 hfr
      obtain ⟨-,-,hb3⟩:=zix hh
      refine ⟨m,rfl,f2,?_,by rw [<- e1],e2.symm⟩
      rw [<- e1]
      show m=(shL base fin).length
      unfold shL
      rw [z83 (by have:=ze3 base fin;omega),<- hb3,f1]
   obtain ⟨h1,h2,h3,h4⟩:=htk
   rw [hm0]
   have hbase0:=hsok.base
   have hfin0:0<=s.fin/\s.fin<9223372036854775808:=by have:=hsok.fin;omega
   have hs:=z4h M hokm (hs.pick [1,1])
   refine z8 (zll (lg:=lg) base s.fin (by omega) hfin0 hs) λ_ w' hs=>?_
   obtain ⟨a,ix,rfl,hs⟩:=hs
   refine zb ?_
   refine wp_lt ?_
   refine zk (λq w'=>q=((mm:Int),())/\Sat w' (z0m M.gap a ⟨ix,s⟩::lgQ lg M::slc T.a57 1 x (raw.flatMap zh)::dk M.d D::r)) ?_ ?_
   ·refine z09 (λk q w=>∃ (at_:Nat) (n:Int) (done:List BatM),q=((at_:Int),(n,()))/\at_<=raw.length/\raw.length-at_<=k /\
     s.bs=done++(z2c k n (raw.drop at_)).1/\mm=at_+(z2c k n (raw.drop at_)).2/\at_=((⟨base,s.fin,[]⟩:SegA).add done).file.length /\
     Sat w (z0m M.gap a ⟨ix,(⟨base,s.fin,[]⟩:SegA).add done⟩::lgQ lg M::slc T.a57 1 x (raw.flatMap zh)::dk M.d D::r)) raw.length
     ⟨m0,base,[],rfl,h1,by omega,by rw [List.nil_append];exact h3,h4,by rw [zhh,z2l];simp only [List.flatMap_nil,List.length_nil];rw [h2,hsb];omega,by rw [zhh];exact hs⟩ ?_
    clear hs
    rintro k _ w ⟨at_,n,done,rfl,ha1,ha2,ha3,ha4,ha5,hs⟩
    have hend:z2c k n (raw.drop at_)=([],0)->∀ {w:World},Sat w (z0m M.gap a ⟨ix,(⟨base,s.fin,[]⟩:SegA).add done⟩::lgQ lg M::slc T.a57 1 x (raw.flatMap zh)::dk M.d D::r)->at_=mm/\Sat w (z0m M.gap a ⟨ix,s⟩::lgQ lg M::slc T.a57 1 x (raw.flatMap zh)::dk M.d D::r):=by
     intro he w hs
     rw [he] at ha3 ha4
     simp only [List.append_nil] at ha3
     have hpp:done.map BatM.p=done:=by
      rw [List.map_congr_left (g:=id) λb hb=>((hsok.bs.valid b (by rw [ha3];exact hb)).2),List.map_id]
     have es:(⟨base,s.fin,[]⟩:SegA).add done=s:=by
      unfold SegA.add
      rw [hpp,<- ha3,<- hsb]
      rfl
     rw [es] at hs
     exact ⟨ha4.symm,hs⟩
    refine zj ?_
    refine wp_must (by omega) ?_
    rw [Int.toNat_natCast]
    have hxc:FocR (z0m M.gap a ⟨ix,(⟨base,s.fin,[]⟩:SegA).add done⟩::lgQ lg M::slc T.a57 1 x (raw.flatMap zh)::dk M.d D::r) ⟨z12 x.a 1 at_ x.cap,x.len-at_,x.cap-at_⟩ 1 ((raw.drop at_).flatMap zh):=FocR.post hcap
    refine z8 (zbp ⟨z12 x.a 1 at_ x.cap,x.len-at_,x.cap-at_⟩ (raw.drop at_) (by show x.len-at_<=x.cap-at_;omega) (by rw [List.length_drop];omega) hs) λ_ w' hs=>?_
    obtain ⟨y,rfl,hs⟩:=hs
    refine zb ?_
    refine wp_lt ?_
    refine wp_lt ?_
    cases hfr:z0x (raw.drop at_) with
    | none =>
     rw [hfr] at hs
     refine z0o ?_ (by simp)
     have he:z2c k n (raw.drop at_)=([],0):=by
      cases k with
      | zero=>rfl
      | succ k=>rw [zh8,hfr]
     obtain ⟨e1,hs⟩:=hend he hs.tail
     refine zn (zf ⟨by rw [e1],hs⟩)
    | some q =>
     obtain ⟨body,m⟩:=q
     rw [hfr] at hs
     have hs:Sat w' (slc T.a57 1 y (body.flatMap zh)::_):=hs
     obtain ⟨f1,f2,hbd,f4⟩:=z62 hfr
     rw [List.length_drop] at f2
     dsimp only [Option.getD,Option.isSome]
     refine zy ?_ (by simp)
     obtain ⟨k,rfl⟩:∃ k',k=k'+1:=⟨k-1,by omega⟩
     rw [zh8,hfr] at ha3 ha4 hend
     refine z8 (zkw y body (by omega) hs) λ_ w' hs=>?_
     rcases hs with ⟨b,z,hdec,rfl,hs⟩|⟨hdec,rfl,hs⟩
     rotate_left
     ·refine ⟨(0,0,0,0,0,0,z7k,6,()),rfl,trivial,ze7 _ _ _ _ _ _ _ _ ?_⟩
      refine zm hs λc w' hs=>?_
      refine zl hs λw' hs=>?_
      refine wp_lt ?_
      refine za hs ?_
      refine z0o ?_ (.inl (by decide))
      obtain ⟨e1,hs⟩:=hend (by simp only [hdec]) hs.tail.tail
      exact zn (zf ⟨by show ((at_:Int),())=_;rw [e1],hs⟩)
     ·obtain ⟨d1,d2,d3⟩:=zkv hdec
      have hfrb:(frL b).length=m:=by rw [(z56 d1).2,d2,f1]
      refine ⟨(b.base,b.pid,b.epoch,b.seq,b.kind,b.time,z,0,()),rfl,trivial,ze7 _ _ _ _ _ _ _ _ ?_⟩
      refine zm hs λc w' hs=>?_
      refine zl hs λw' hs=>?_
      refine wp_lt ?_
      refine za hs ?_
      simp only [hdec] at ha3 ha4 hend
      refine zg (λhc=>?_) λhc=>?_
      ·have hc:b.base<n:=by
        rcases hc with hc|hc
        ·exact absurd rfl hc
        ·exact hc
       obtain ⟨e1,hs⟩:=hend (by rw [if_pos hc]) hs.tail.tail.tail
       exact zn (zf ⟨by show ((at_:Int),())=_;rw [e1],hs⟩)
      have hc:¬ b.base<n:=λh=>hc (.inr h)
      rw [if_neg hc] at ha3 ha4
      simp only at ha3 ha4
      refine ze hs ?_
      have hz:FocR (pt c (.cells #[.int .i64 b.base,.int .i64 b.pid,.int .i64 b.epoch,.int .i64 b.seq,.int .i64 b.kind,.int .i64 b.time,.slice z.a z.len z.cap] T.a0)::slc T.a2 4 z (b.rs.flatMap z00)::slc T.a57 1 y (body.flatMap zh)::lgQ lg M::slc T.a57 1 x (raw.flatMap zh)::dk M.d D::r) z 4 (b.rs.flatMap z00):=inferInstance
      have hs:Sat w' (pt c (.cells #[.int .i64 b.base,.int .i64 b.pid,.int .i64 b.epoch,.int .i64 b.seq,.int .i64 b.kind,.int .i64 b.time,.slice z.a z.len z.cap] T.a0)::slc T.a2 4 z (b.rs.flatMap z00)::slc T.a57 1 y (body.flatMap zh)::z0m M.gap a ⟨ix,(⟨base,s.fin,[]⟩:SegA).add done⟩::lgQ lg M::slc T.a57 1 x (raw.flatMap zh)::dk M.d D::r):=hs
      have hml:((m:Nat):Int)=((frL b).length:Nat):=by rw [hfrb]
      show (Prog.call F.a147 [_,.agg _,.int .i64 ((m:Nat):Int)] _ _).wp P _ _ _
      rw [hml]
      refine z8 (zzv (gap:=M.gap) (a:=a) (t:=⟨ix,(⟨base,s.fin,[]⟩:SegA).add done⟩) b z d1 d3 (by show ((⟨base,s.fin,[]⟩:SegA).add done).file.length+_<=_;rw [<- ha5];omega) hs) λ_ w' hs=>?_
      obtain ⟨rfl,hs⟩:=hs
      refine zb ?_
      have e6:((⟨base,s.fin,[]⟩:SegA).add done).add [b]=(⟨base,s.fin,[]⟩:SegA).add (done++[b]):=zpm _ _ _
      have hs:Sat w' (z0m M.gap a ⟨ix,((⟨base,s.fin,[]⟩:SegA).add done).add [b]⟩::_):=hs
      rw [e6] at hs
      have hs:=z3x hs
      refine zi ?_
      refine za hs ?_
      refine wp_lt ?_
      rw [w64 (by omega) (by omega)]
      refine wp_lt ?_
      have en2:z0d ((⟨base,s.fin,[]⟩:SegA).add (done++[b])).bs=b.base+zq b:=by
       show z0d ([]++(done++[b]).map BatM.p)=_
       rw [List.nil_append,List.map_append]
       exact z3n _ _
      rw [show z0d (SegM.s ⟨ix,(⟨base,s.fin,[]⟩:SegA).add (done++[b])⟩).bs=b.base+zq b from en2]
      have hs:=z2o ⟨ix,(⟨base,s.fin,[]⟩:SegA).add (done++[b])⟩ hs
      have ec:(at_:Int)+((frL b).length:Nat)=((at_+m:Nat):Int):=by rw [hfrb];omega
      rw [ec]
      refine z0w k ⟨at_+m,b.base+zq b,done++[b],rfl,by omega,by omega,?_,?_,?_,hs.sub⟩
      ·rw [ha3,List.append_assoc,List.drop_drop];rfl
      ·rw [ha4,List.drop_drop];omega
      ·rw [<- e6,z72,List.length_append,<- ha5]
       simp only [List.flatMap_cons,List.flatMap_nil,List.append_nil]
       omega
   clear hs
   rintro _ w3 ⟨rfl,hs⟩
   refine zj ?_
   have hs:=hs.pick [1]
   refine z8 (z00i (lg:=lg) a ⟨ix,s⟩ (by omega) hs) λ_ w' hs=>?_
   obtain ⟨z,rfl,hs⟩:=hs
   refine zb ?_
   have hfin2:∀ {w:World} {D':DiskA},Sat w (lgQ lg { M with z:=z,SM:=M.SM++[(a,⟨ix,s⟩)] }::dk M.d D'::r)->∃ M':LogM,(M'.d=M.d/\M'.pre=M.pre/\M'.seg=M.seg/\M'.gap=M.gap)/\M'.l=M.l++[s]/\M'.SM.length<=M.SM.length+1/\Sat w (lgQ lg M'::dk M.d D'::r):=λhs =>
    ⟨{ M with z:=z,SM:=M.SM++[(a,⟨ix,s⟩)] },⟨rfl,rfl,rfl,rfl⟩,by unfold LogM.l;simp,by simp,hs⟩
   refine zg (λhc=>?_) λhc=>?_
   ·have hc:mm=raw.length:=by omega
    rw [if_pos hc]
    exact ⟨rfl,rfl,hfin2 hs.sub⟩
   ·rw [if_neg (show ¬ mm=raw.length by omega)]
    refine zi ?_
    obtain ⟨hokm2,hs⟩:=z9p hs
    refine za hs ?_
    refine z8 (z090 (d:=M.d) (A:=D) nm ((mm:Nat):Int) hs) λ_ w' hs=>?_
    obtain ⟨rfl,hs⟩:=hs
    refine zb ?_
    refine wp_lt ?_
    have hs:=z4h { M with z:=z,SM:=M.SM++[(a,⟨ix,s⟩)] } hokm2 (hs.pick [1,1])
    exact ⟨rfl,rfl,hfin2 hs.sub⟩
end
def z4t (a:Nat) (outs:List BatM):HP:=HP.ex λz:Sl=>HP.star (pt a (.cells #[.slice z.a z.len z.cap] T.a38)) (HP.star (slc T.a0 7 z (outs.flatMap zr)) (z10 outs))
section
variable {w:World} {l r r1 r2:List HP} {lg ao:Nat} {M:LogM} {A:LogA} {D:DiskA} {gap:Int} {a:Nat} {t:SegM} {outs:List BatM}
theorem zlu (hs:Sat w (z4t ao outs::l)):∃ z:Sl,Sat w (pt ao (.cells #[.slice z.a z.len z.cap] T.a38)::slc T.a0 7 z (outs.flatMap zr)::z10 outs::l):=by
 obtain ⟨z,hs⟩:=hs.ex
 have hs:=hs.star
 exact ⟨z,((hs.pick [1]).star).pick [2]⟩
theorem zdg {z:Sl} (hs:Sat w (pt ao (.cells #[.slice z.a z.len z.cap] T.a38)::slc T.a0 7 z (outs.flatMap zr)::z10 outs::l)):Sat w (z4t ao outs::l) :=
 .ex_mk z (.star_mk (((hs.pick [1,1]).star_mk).pick [1]))
theorem zxp {b:BatM} (hs:Sat w (slc T.a2 4 b.x (b.rs.flatMap z00)::z10 outs::l)):Sat w (z10 (outs++[b])::l):=by
 have h1:Sat w (HP.all ((b::outs).map rsP)::l):=by
  have h2:Sat w (rsP b::HP.all (outs.map rsP)::l):=hs
  exact h2.all_put
 exact h1.all_perm ((List.perm_append_comm (l₁:=[b]) (l₂:=outs)).map rsP)
theorem zkn (hs:Sat w l):Sat w (z10 []::l):=hs.all_nil
theorem zax {b:BatM} (hb:b ∈ outs):FocR (z10 outs::l) b.x 4 (b.rs.flatMap z00):=⟨λw hs=>by
 obtain ⟨L,hs⟩:=hs.all_mem (f:=rsP) hb
 exact Sat.rd hs⟩
theorem z06q (b:BatM) (off most:Int) (a1 a2:Nat) (ho : -9223372036854775808<=off/\off<9223372036854775808) (hcap:b.x.len<=b.x.cap) (hol:outs.length<=2000000) [hf:Fo l z4t ao outs r] [h1:FocB r a1 (.cells [.int .i64 off].toArray T.a14) r1] [h2:FocB r a2 (.cells [.int .i64 most].toArray T.a13) r2] [hb:FocR r b.x 4 (b.rs.flatMap z00)] (hs:Sat w l) :
  Ret P F.a126 #[.agg (zr b).toArray,.pointer (some ⟨a1,0,none⟩),.pointer (some ⟨ao,0,none⟩),.pointer (some ⟨a2,0,none⟩)] w λvs w'=>∃ outs':List BatM,vs=[.bool (decide ((outs'.length:Int)<most))]/\outs'.map BatM.p=outs.map BatM.p++(z0n off b).toList.map BatM.p/\Sat w' (z4t ao outs'::r) :=
 znz b.base b.pid b.epoch b.seq b.kind b.time b.x _ _ _ <| by
  delta z01g AB AN AP AW Aa Ab Ac Ad Ae Ag Ao Ar Au B6 Bn Bx
  obtain ⟨z,hs⟩:=zlu (hs.perm hf.perm)
  have hl:=hs.slen z (xs:=outs) (enc:=zr)
  refine zp hs λa0 w' hs=>?_
  refine ze hs ?_
  refine za hs ?_
  refine z8 (z03k b off ho hcap hs) λ_ w' hs=>?_
  rcases hs with ⟨hn,rfl,hs⟩|⟨c,zc,hc,rfl,hs⟩
  ·refine ⟨(0,0,0,0,0,0,z7k,false,()),rfl,trivial,ze7 _ _ _ _ _ _ _ _ ?_⟩
   refine zm hs λa3 w' hs=>?_
   refine zl hs λw' hs=>?_
   refine wp_lt ?_
   refine z4b ?_
   refine zy ?_ (by simp)
   refine z52 ?_
   refine za hs ?_
   refine za hs ?_
   refine wp_lt ?_
   refine ⟨rfl,outs,by rw [hl],by rw [hn];simp,zdg (z:=z) hs.sub⟩
  ·refine ⟨(c.base,c.pid,c.epoch,c.seq,c.kind,c.time,zc,true,()),rfl,trivial,ze7 _ _ _ _ _ _ _ _ ?_⟩
   refine zm hs λa3 w' hs=>?_
   refine zl hs λw' hs=>?_
   refine wp_lt ?_
   refine z4b ?_
   refine z0o ?_ (by trivial)
   refine za hs ?_
   refine ze hs ?_
   refine z5m (xs:=outs) (enc:=zr) (y:=c.at zc) hs (λz' w' hs=>?_) rfl (by omega)
   refine z02 hs λw' hs=>?_
   refine z52 ?_
   refine za hs ?_
   refine za hs ?_
   refine wp_lt ?_
   have hs:Sat w' (pt ao (.cells #[.slice z'.a z'.len z'.cap] T.a38)::slc T.a0 7 z' ((outs++[c.at zc]).flatMap zr)::pt a3 _::slc T.a2 4 (c.at zc).x ((c.at zc).rs.flatMap z00)::pt a0 _::z10 outs::r):=hs
   have hl':=hs.slen z' (xs:=outs++[c.at zc]) (enc:=zr)
   refine ⟨rfl,outs++[c.at zc],by rw [hl'],by rw [hc];simp;rfl,?_⟩
   have hs:=zxp (hs.pick [3,4])
   exact zdg (z:=z') (hs.pick [1,1,0]).sub
theorem z04p (off:Int) (hok:SegOk t.s) (hfl:t.s.file.length<=4194304) [hf:Fo l (z0m gap) a t r] (hs:Sat w l):Ret P F.a145 #[.pointer (some ⟨a,0,none⟩),.int .i64 off] w λvs w'=>vs=[.int .i64 (zwm t.s (z33 (t.s.idx gap).l off))]/\Sat w' (z0m gap a t::r) :=
 zoi _ off <| by
  delta z01z AC AD AG Ab Ac Ad Ag Ah Aj Ar Au Ay Az B8 Bw
  have hi:IdxOk gap (shL t.s.base t.s.fin).length t.s.bs (t.s.idx gap):=zlc gap t.s.bs.length (n:=t.s.base) (q:=(shL t.s.base t.s.fin).length) rfl hok.base.1 (by omega) hok.bs (by have:=z2l t.s;omega)
  have hs:=z3x (hs.perm hf.perm)
  refine zi ?_
  refine za hs ?_
  refine z8 (z05l (b:=t.ix) off hi.offs hs) λ_ w' hs=>?_
  obtain ⟨rfl,hs⟩:=hs
  refine ⟨((orE (z33 (t.s.idx gap).l off)).offset,(orE (z33 (t.s.idx gap).l off)).place,(orE (z33 (t.s.idx gap).l off)).before,(z33 (t.s.idx gap).l off).isSome,()),rfl,trivial,zhe _ _ _ _ ?_⟩
  refine zm hs λc w' hs=>?_
  refine zl hs λw' hs=>?_
  refine wp_lt ?_
  cases hfe:z33 (t.s.idx gap).l off with
  | some e =>
   refine z0o ?_ (by rfl)
   rw [hfe] at hs
   refine za hs ?_
   refine wp_lt ?_
   exact ⟨rfl,rfl,z2o t hs.sub⟩
  | none =>
   refine zy ?_ (by simp)
   refine zw hs λw' hs=>?_
   refine zi ?_
   refine za hs ?_
   refine zi ?_
   refine za hs ?_
   have hb:=hok.base
   have hfn:0<=t.s.fin/\t.s.fin<9223372036854775808:=by have:=hok.fin;omega
   refine z8 (zlb t.s.base t.s.fin (by omega) hfn hs) λ_ w' hs=>?_
   obtain ⟨y,rfl,hs⟩:=hs
   refine zb ?_
   have hl:=hs.slen y (xs:=shL t.s.base t.s.fin) (enc:=zh)
   refine wp_lt ?_
   refine zd ?_
   refine ⟨rfl,?_,z2o t hs.sub⟩
   rw [hl]
   rfl
set_option maxHeartbeats 1000000 in
theorem z06t (off:Int) (most:Nat) (a1 a2:Nat) (ho : -9223372036854775808<=off/\off<9223372036854775808) {i k kp:Nat} (hsi:i<M.SM.length) (hok:SegOk M.SM[i].2.s) (hfile:z03 D.fs (zo M.pre M.SM[i].2.s.base zu)=some (M.SM[i].2.s.file,kp)) (hk:k<=M.SM[i].2.s.bs.length) (hout:outs.length<most) (hol:outs.length+M.SM[i].2.s.bs.length<=2000000)
  (hs:Sat w (z4t ao outs::lgQ lg M::dk M.d D::pt a1 (.cells [.int .i64 off].toArray T.a14)::pt a2 (.cells [.int .i64 (most:Int)].toArray T.a13)::r)) :
  Ret P F.a138 #[.pointer (some ⟨lg,0,none⟩),.pointer (some ⟨M.SM[i].1,0,none⟩),.int .i64 (z2x M.SM[i].2.s k:Nat),.func (.func F.a126) #[] #[.pointer (some ⟨a1,0,none⟩),.pointer (some ⟨ao,0,none⟩),.pointer (some ⟨a2,0,none⟩)]] w λvs w' =>
   ∃ outs':List BatM,vs=[.bool (decide (outs.length+((M.SM[i].2.s.bs.drop k).filterMap (z0n off)).length<most))]/\outs'.map BatM.p=(outs.map BatM.p++(M.SM[i].2.s.bs.drop k).filterMap (z0n off)).take most/\outs'.length<=outs.length+M.SM[i].2.s.bs.length /\
    Sat w' (z4t ao outs'::lgQ lg M::dk M.d D::pt a1 (.cells [.int .i64 off].toArray T.a14)::pt a2 (.cells [.int .i64 (most:Int)].toArray T.a13)::r) :=
 zob _ _ _ _ <| by
  delta z01s AB AC AD AF AG AK AO AS AW Aa Ab Ac Ad Ag Ah Aj Ao Ap Ar Au B3 B4 B7 Bc Bt Bu Bz
  obtain ⟨m_,FS_,-,hokD,-⟩:=z24 (hs.pick [2])
  obtain ⟨hokm,hs⟩:=z2r (hs.pick [1])
  have hs:=z3x (z9v (hs.pick [2]) hsi)
  generalize hT:M.SM[i]=T0 at *
  obtain ⟨a,t⟩:=T0
  dsimp only at hok hfile hk hol hs ⊢
  have hrl:t.s.file.length<=4194304:=Nat.le_trans (zdp hfile) hokD.used
  have hbl:=zhl hok
  have hb0:=hok.base
  refine zk (λq w'=>∃ x:Sl,q=(x,())/\x.len<=x.cap/\Sat w' (slc T.a57 1 x (t.s.file.flatMap zh)::pt a (.cells #[.pointer (some ⟨t.ix,0,none⟩),.int .i64 t.s.base,.int .i64 t.s.fin,.int .i64 (z0d t.s.bs),.int .i64 (z1d (-1) t.s.bs),.int .i64 (t.s.file.length:Nat)] T.a52)::z2d t.ix (t.s.idx M.gap)::HP.all ((M.SM.eraseIdx i).map λt=>z0m M.gap t.1 t.2)::pt lg (.cells #[.pointer (some ⟨M.d,0,none⟩),.string M.pre,.int .i64 M.seg,.int .i64 M.gap,.slice M.z.a M.z.len M.z.cap] T.a51)::slc T.a34 1 M.z ((M.SM.map Prod.fst).flatMap z1n)::z4t ao outs::dk M.d D::pt a1 (.cells [.int .i64 off].toArray T.a14)::pt a2 (.cells [.int .i64 (most:Int)].toArray T.a13)::r)) ?_ ?_
  ·refine zw hs λw' hs=>?_
   refine zi ?_
   refine z0z hs ?_
   refine zi ?_
   refine za hs ?_
   refine z8 (z7z (lg:=lg) t.s.base (by omega) (ByteArray.mk #[46,108,111,103]) (by decide) M.pre hokm.size hs) λ_ w' hs=>?_
   obtain ⟨rfl,hs⟩:=hs
   refine zb ?_ (by first|trivial|(repeat (first|exact trivial|exact λ_=>z05 hs|exact λ_=>z0b hs|refine And.intro ?_ ?_)))
   refine zd ?_
   have en:zo M.pre t.s.base (bl (ByteArray.mk #[46,108,111,103]))=zo M.pre t.s.base zu:=rfl
   rw [en]
   refine z8 (zh2 (d:=M.d) (A:=D) (zo M.pre t.s.base zu) hs) λ_ w' hs=>?_
   rcases hs with ⟨f,hff,hfn,x,rfl,hs⟩|⟨hno,rfl,hs⟩
   ·refine zb ?_
    refine wp_lt ?_
    refine zd ?_
    have hfd:z03 D.fs f.name=some (f.b,f.kept):=zcy (z2q hokD.sorted) hff
    rw [hfn,hfile] at hfd
    simp only [Option.some.injEq,Prod.mk.injEq] at hfd
    rw [<- hfd.1] at hs
    have hcap:=hs.slc_cap
    exact zf ⟨x,rfl,hcap,hs.sub⟩
   ·rw [zbq.2 hno] at hfile
    cases hfile
  clear hs
  rintro _ w ⟨x,rfl,hcap,hs⟩
  refine zj ?_
  refine wp_lt ?_
  have hl:=hs.slen x (xs:=t.s.file) (enc:=zh)
  have hfin:∀ {w:World} {outs':List BatM},Sat w (slc T.a57 1 x (t.s.file.flatMap zh)::pt a (.cells #[.pointer (some ⟨t.ix,0,none⟩),.int .i64 t.s.base,.int .i64 t.s.fin,.int .i64 (z0d t.s.bs),.int .i64 (z1d (-1) t.s.bs),.int .i64 (t.s.file.length:Nat)] T.a52)::z2d t.ix (t.s.idx M.gap)::HP.all ((M.SM.eraseIdx i).map λt=>z0m M.gap t.1 t.2)::pt lg (.cells #[.pointer (some ⟨M.d,0,none⟩),.string M.pre,.int .i64 M.seg,.int .i64 M.gap,.slice M.z.a M.z.len M.z.cap] T.a51)::slc T.a34 1 M.z ((M.SM.map Prod.fst).flatMap z1n)::z4t ao outs'::dk M.d D::pt a1 (.cells [.int .i64 off].toArray T.a14)::pt a2 (.cells [.int .i64 (most:Int)].toArray T.a13)::r) ->
    Sat w (z4t ao outs'::lgQ lg M::dk M.d D::pt a1 (.cells [.int .i64 off].toArray T.a14)::pt a2 (.cells [.int .i64 (most:Int)].toArray T.a13)::r):=by
   intro w outs' hs
   have h1:Sat w (z0m M.gap M.SM[i].1 M.SM[i].2::HP.all ((M.SM.eraseIdx i).map λt=>z0m M.gap t.1 t.2)::pt lg (.cells #[.pointer (some ⟨M.d,0,none⟩),.string M.pre,.int .i64 M.seg,.int .i64 M.gap,.slice M.z.a M.z.len M.z.cap] T.a51)::slc T.a34 1 M.z ((M.SM.map Prod.fst).flatMap z1n)::z4t ao outs'::dk M.d D::pt a1 (.cells [.int .i64 off].toArray T.a14)::pt a2 (.cells [.int .i64 (most:Int)].toArray T.a13)::r):=by
    rw [hT]
    exact z2o t hs.tail
   have h2:=z76 hsi h1
   exact (z1l M hokm (h2.pick [1,1])).sub
  have hfull:∀ {outs':List BatM} {j:Nat},outs'.map BatM.p=outs.map BatM.p++((t.s.bs.drop k).take j).filterMap (z0n off)->outs'.length=outs.length+(((t.s.bs.drop k).take j).filterMap (z0n off)).length:=λh=>by
   have:=congrArg List.length h
   simpa using this
  refine zk (λ_ w'=>∃ outs':List BatM,outs'.map BatM.p=outs.map BatM.p++(t.s.bs.drop k).filterMap (z0n off)/\outs'.length<most/\outs'.length<=outs.length+t.s.bs.length/\Sat w' (slc T.a57 1 x (t.s.file.flatMap zh)::pt a (.cells #[.pointer (some ⟨t.ix,0,none⟩),.int .i64 t.s.base,.int .i64 t.s.fin,.int .i64 (z0d t.s.bs),.int .i64 (z1d (-1) t.s.bs),.int .i64 (t.s.file.length:Nat)] T.a52)::z2d t.ix (t.s.idx M.gap)::HP.all ((M.SM.eraseIdx i).map λt=>z0m M.gap t.1 t.2)::pt lg (.cells #[.pointer (some ⟨M.d,0,none⟩),.string M.pre,.int .i64 M.seg,.int .i64 M.gap,.slice M.z.a M.z.len M.z.cap] T.a51)::slc T.a34 1 M.z ((M.SM.map Prod.fst).flatMap z1n)::z4t ao outs'::dk M.d D::pt a1 (.cells [.int .i64 off].toArray T.a14)::pt a2 (.cells [.int .i64 (most:Int)].toArray T.a13)::r)) ?_ ?_
  rotate_left
  ·rintro _ w2 ⟨outs',h1,h2,h3,hs⟩
   have h4:=congrArg List.length h1
   simp only [List.length_map,List.length_append] at h4
   refine ⟨rfl,outs',by rw [decide_eq_true (by omega)],?_,h3,hfin hs⟩
   rw [<- h1,List.take_of_length_le]
   rw [List.length_map];omega
  refine z09 (λm v w=>∃ (j:Nat) (outs':List BatM),v=(((z2x t.s (k+j):Nat):Int),())/\k+j<=t.s.bs.length/\t.s.bs.length-(k+j)=m/\outs'.map BatM.p=outs.map BatM.p++((t.s.bs.drop k).take j).filterMap (z0n off)/\outs'.length<most/\outs'.length<=outs.length+j/\Sat w (slc T.a57 1 x (t.s.file.flatMap zh)::pt a (.cells #[.pointer (some ⟨t.ix,0,none⟩),.int .i64 t.s.base,.int .i64 t.s.fin,.int .i64 (z0d t.s.bs),.int .i64 (z1d (-1) t.s.bs),.int .i64 (t.s.file.length:Nat)] T.a52)::z2d t.ix (t.s.idx M.gap)::HP.all ((M.SM.eraseIdx i).map λt=>z0m M.gap t.1 t.2)::pt lg (.cells #[.pointer (some ⟨M.d,0,none⟩),.string M.pre,.int .i64 M.seg,.int .i64 M.gap,.slice M.z.a M.z.len M.z.cap] T.a51)::slc T.a34 1 M.z ((M.SM.map Prod.fst).flatMap z1n)::z4t ao outs'::dk M.d D::pt a1 (.cells [.int .i64 off].toArray T.a14)::pt a2 (.cells [.int .i64 (most:Int)].toArray T.a13)::r)) (t.s.bs.length-k)
   ⟨0,outs,rfl,by omega,by omega,by simp,hout,by omega,hs⟩ ?_
  clear hs
  rintro m _ w ⟨j,outs',rfl,hj,hm,hmap,hlt,hol',hs⟩
  refine zj ?_
  refine z0j ?_
  refine za hs ?_
  have hple:=zhz t.s (k+j)
  refine zg (λhc=>?_) λhc=>?_
  rotate_left
  ·have hend:k+j=t.s.bs.length:=by
    apply Decidable.byContradiction
    intro hne
    have hlt2:k+j<t.s.bs.length:=by omega
    have h1:=zje t.s hlt2
    have h2:=zhz t.s (k+j+1)
    have h3:=z56 (hok.bs.valid _ (List.getElem_mem hlt2)).1
    exact hc ⟨by omega,by omega⟩
   refine zn (zf ⟨outs',?_,hlt,by omega,hs⟩)
   rw [hmap,List.take_of_length_le (by rw [List.length_drop];omega)]
  have hjl:k+j<t.s.bs.length:=by
   apply Decidable.byContradiction
   intro hne
   have he:k+j=t.s.bs.length:=by omega
   have h1:=zz5 t.s
   rw [he] at hc
   have hc1:((z2x t.s t.s.bs.length:Nat):Int)<(x.len:Nat):=hc.1
   omega
  obtain ⟨hfst,hdec⟩:=zs0 hok hjl
  obtain ⟨hvb,hpb⟩:=hok.bs.valid _ (List.getElem_mem hjl)
  have hblen:=z5y hvb
  have hxl:z2x t.s (k+j)<=x.len:=by omega
  refine wp_must (by omega) ?_
  rw [Int.toNat_natCast]
  have hxc:FocR (slc T.a57 1 x (t.s.file.flatMap zh)::pt a (.cells #[.pointer (some ⟨t.ix,0,none⟩),.int .i64 t.s.base,.int .i64 t.s.fin,.int .i64 (z0d t.s.bs),.int .i64 (z1d (-1) t.s.bs),.int .i64 (t.s.file.length:Nat)] T.a52)::z2d t.ix (t.s.idx M.gap)::HP.all ((M.SM.eraseIdx i).map λt=>z0m M.gap t.1 t.2)::pt lg (.cells #[.pointer (some ⟨M.d,0,none⟩),.string M.pre,.int .i64 M.seg,.int .i64 M.gap,.slice M.z.a M.z.len M.z.cap] T.a51)::slc T.a34 1 M.z ((M.SM.map Prod.fst).flatMap z1n)::z4t ao outs'::dk M.d D::pt a1 (.cells [.int .i64 off].toArray T.a14)::pt a2 (.cells [.int .i64 (most:Int)].toArray T.a13)::r) ⟨z12 x.a 1 (z2x t.s (k+j)) x.cap,x.len-z2x t.s (k+j),x.cap-z2x t.s (k+j)⟩ 1 ((t.s.file.drop (z2x t.s (k+j))).flatMap zh):=FocR.post hcap
  refine z8 (zbp ⟨z12 x.a 1 (z2x t.s (k+j)) x.cap,x.len-z2x t.s (k+j),x.cap-z2x t.s (k+j)⟩ (t.s.file.drop (z2x t.s (k+j))) (by show x.len-_<=x.cap-_;omega) (by rw [List.length_drop];omega) hs) λ_ w' hs=>?_
  obtain ⟨y,rfl,hs⟩:=hs
  rw [hfst] at hs ⊢
  refine zb ?_
  refine wp_lt ?_
  refine wp_lt ?_
  dsimp only [Option.getD,Option.isSome]
  have hs:Sat w' (slc T.a57 1 y ((z2j t.s.bs[k+j]).flatMap zh)::_):=hs
  refine zy ?_ (by simp)
  refine z8 (zkw y (z2j t.s.bs[k+j]) (by omega) hs) λ_ w' hs=>?_
  rcases hs with ⟨b,z,hdec2,rfl,hs⟩|⟨hdec2,rfl,hs⟩
  rotate_left
  ·rw [hdec] at hdec2;cases hdec2
  rw [hdec] at hdec2
  simp only [Option.some.injEq] at hdec2
  subst hdec2
  generalize hbb:t.s.bs[k+j]=b at *
  refine ⟨(b.base,b.pid,b.epoch,b.seq,b.kind,b.time,z,0,()),rfl,trivial,ze7 _ _ _ _ _ _ _ _ ?_⟩
  refine zm hs λc w' hs=>?_
  refine zl hs λw' hs=>?_
  refine wp_lt ?_
  have hzc:z.len<=z.cap:=(hs.pick [1]).slc_cap
  have htk:(t.s.bs.drop k).take (j+1)=(t.s.bs.drop k).take j++[b]:=by
   rw [List.take_succ_eq_append_getElem (by rw [List.length_drop];omega),List.getElem_drop,hbb]
  have hfp:(z0n off b).toList.map BatM.p=(z0n off b).toList:=by
   cases hfb:z0n off b with
   | none=>rfl
   | some c=>simp [zpz hpb hfb]
  have hfm:((t.s.bs.drop k).take (j+1)).filterMap (z0n off)=((t.s.bs.drop k).take j).filterMap (z0n off)++(z0n off b).toList:=by
   rw [htk,List.filterMap_append]
   congr 1
  have hpos:=zje t.s hjl
  rw [hbb] at hpos
  have hple2:=zhz t.s (k+j+1)
  refine z4b ?_
  refine ze hs ?_
  refine zy ?_ (by simp)
  have hzb:FocR (pt c (.cells #[.int .i64 b.base,.int .i64 b.pid,.int .i64 b.epoch,.int .i64 b.seq,.int .i64 b.kind,.int .i64 b.time,.slice z.a z.len z.cap] T.a0)::slc T.a2 4 z (b.rs.flatMap z00)::slc T.a57 1 y ((z2j b).flatMap zh)::slc T.a57 1 x (t.s.file.flatMap zh)::pt a (.cells #[.pointer (some ⟨t.ix,0,none⟩),.int .i64 t.s.base,.int .i64 t.s.fin,.int .i64 (z0d t.s.bs),.int .i64 (z1d (-1) t.s.bs),.int .i64 (t.s.file.length:Nat)] T.a52)::z2d t.ix (t.s.idx M.gap)::HP.all ((M.SM.eraseIdx i).map λt=>z0m M.gap t.1 t.2)::pt lg (.cells #[.pointer (some ⟨M.d,0,none⟩),.string M.pre,.int .i64 M.seg,.int .i64 M.gap,.slice M.z.a M.z.len M.z.cap] T.a51)::slc T.a34 1 M.z ((M.SM.map Prod.fst).flatMap z1n)::dk M.d D::pt a1 (.cells [.int .i64 off].toArray T.a14)::pt a2 (.cells [.int .i64 (most:Int)].toArray T.a13)::r) (b.at z).x 4 ((b.at z).rs.flatMap z00):=(inferInstance:FocR (pt c (.cells #[.int .i64 b.base,.int .i64 b.pid,.int .i64 b.epoch,.int .i64 b.seq,.int .i64 b.kind,.int .i64 b.time,.slice z.a z.len z.cap] T.a0)::slc T.a2 4 z (b.rs.flatMap z00)::_) z 4 (b.rs.flatMap z00))
  have hs:Sat w' (z4t ao outs'::pt c (.cells #[.int .i64 b.base,.int .i64 b.pid,.int .i64 b.epoch,.int .i64 b.seq,.int .i64 b.kind,.int .i64 b.time,.slice z.a z.len z.cap] T.a0)::slc T.a2 4 z (b.rs.flatMap z00)::slc T.a57 1 y ((z2j b).flatMap zh)::slc T.a57 1 x (t.s.file.flatMap zh)::pt a (.cells #[.pointer (some ⟨t.ix,0,none⟩),.int .i64 t.s.base,.int .i64 t.s.fin,.int .i64 (z0d t.s.bs),.int .i64 (z1d (-1) t.s.bs),.int .i64 (t.s.file.length:Nat)] T.a52)::z2d t.ix (t.s.idx M.gap)::HP.all ((M.SM.eraseIdx i).map λt=>z0m M.gap t.1 t.2)::pt lg (.cells #[.pointer (some ⟨M.d,0,none⟩),.string M.pre,.int .i64 M.seg,.int .i64 M.gap,.slice M.z.a M.z.len M.z.cap] T.a51)::slc T.a34 1 M.z ((M.SM.map Prod.fst).flatMap z1n)::dk M.d D::pt a1 (.cells [.int .i64 off].toArray T.a14)::pt a2 (.cells [.int .i64 (most:Int)].toArray T.a13)::r):=hs.sub
  have htold:=z06q (ao:=ao) (outs:=outs') (b.at z) off (most:Int) a1 a2 ho hzc (by omega) hs
  refine ⟨F.a126,#[],#[.pointer (some ⟨a1,0,none⟩),.pointer (some ⟨ao,0,none⟩),.pointer (some ⟨a2,0,none⟩)],rfl,by kernel_rfl,?_⟩
  refine Calls.mono htold λe w' ⟨vs,he,outs2,hvs,hmap2,hs⟩=>⟨(decide ((outs2.length:Int)<(most:Int)),()),by rw [he,hvs];rfl,trivial,?_⟩
  refine z52 ?_
  have hfe:(z0n off (b.at z)).toList.map BatM.p=(z0n off b).toList:=by
   have hpz:b={ (b.at z) with x:=z7k }:=by rw [<- hpb];rfl
   have e2:z0n off (b.at z)=(z0n off b).map λc=>c.at z:=by
    unfold z0n
    have ev:z04 (b.at z)=z04 b:=rfl
    have en:z1p (b.at z)=z1p b:=rfl
    have em:z0h (b.at z)=z0h b:=rfl
    rw [ev,en,em]
    split
    ·rfl
    ·show (if z0h b=true\/off<=b.base then _ else _)=_
     split <;> rfl
   rw [e2]
   cases hfb:z0n off b with
   | none=>rfl
   | some c =>
    have:=zpz hpb hfb
    show [(c.at z).p]=[c]
    have e3:(c.at z).p=c.p:=rfl
    rw [e3,this]
  rw [hfe,hmap,List.append_assoc,<- hfm] at hmap2
  have hlen2:=hfull hmap2
  have hfl1:(z0n off b).toList.length<=1:=by cases z0n off b <;> simp
  have hlen1:=hfull hmap
  rw [hfm,List.length_append] at hlen2
  have hback:∀ {w:World},Sat w (z4t ao outs2::pt c (.cells #[.int .i64 b.base,.int .i64 b.pid,.int .i64 b.epoch,.int .i64 b.seq,.int .i64 b.kind,.int .i64 b.time,.slice z.a z.len z.cap] T.a0)::slc T.a2 4 z (b.rs.flatMap z00)::slc T.a57 1 y ((z2j b).flatMap zh)::slc T.a57 1 x (t.s.file.flatMap zh)::pt a (.cells #[.pointer (some ⟨t.ix,0,none⟩),.int .i64 t.s.base,.int .i64 t.s.fin,.int .i64 (z0d t.s.bs),.int .i64 (z1d (-1) t.s.bs),.int .i64 (t.s.file.length:Nat)] T.a52)::z2d t.ix (t.s.idx M.gap)::HP.all ((M.SM.eraseIdx i).map λt=>z0m M.gap t.1 t.2)::pt lg (.cells #[.pointer (some ⟨M.d,0,none⟩),.string M.pre,.int .i64 M.seg,.int .i64 M.gap,.slice M.z.a M.z.len M.z.cap] T.a51)::slc T.a34 1 M.z ((M.SM.map Prod.fst).flatMap z1n)::dk M.d D::pt a1 (.cells [.int .i64 off].toArray T.a14)::pt a2 (.cells [.int .i64 (most:Int)].toArray T.a13)::r) ->
    Sat w (slc T.a57 1 x (t.s.file.flatMap zh)::pt a (.cells #[.pointer (some ⟨t.ix,0,none⟩),.int .i64 t.s.base,.int .i64 t.s.fin,.int .i64 (z0d t.s.bs),.int .i64 (z1d (-1) t.s.bs),.int .i64 (t.s.file.length:Nat)] T.a52)::z2d t.ix (t.s.idx M.gap)::HP.all ((M.SM.eraseIdx i).map λt=>z0m M.gap t.1 t.2)::pt lg (.cells #[.pointer (some ⟨M.d,0,none⟩),.string M.pre,.int .i64 M.seg,.int .i64 M.gap,.slice M.z.a M.z.len M.z.cap] T.a51)::slc T.a34 1 M.z ((M.SM.map Prod.fst).flatMap z1n)::z4t ao outs2::dk M.d D::pt a1 (.cells [.int .i64 off].toArray T.a14)::pt a2 (.cells [.int .i64 (most:Int)].toArray T.a13)::r):=λhs=>hs.sub
  have hs:=hback hs
  refine zg (λh5=>?_) λh5=>?_
  ·have h5:most<=outs2.length:=by
    have:¬ ((outs2.length:Int)<(most:Int)):=by simpa using h5
    omega
   have h6:outs2.length=most:=by omega
   have h7:((t.s.bs.drop k).filterMap (z0n off))=((t.s.bs.drop k).take (j+1)).filterMap (z0n off)++((t.s.bs.drop k).drop (j+1)).filterMap (z0n off):=by
    rw [<- List.filterMap_append,List.take_append_drop]
   have h8:=congrArg List.length hmap2
   simp only [List.length_map,List.length_append] at h8
   refine zn (zn ⟨rfl,outs2,?_,?_,by omega,hfin hs⟩)
   ·rw [decide_eq_false]
    rw [h7,List.length_append]
    omega
   ·rw [h7,<- List.append_assoc,<- hmap2]
    rw [List.take_append_of_le_length (by rw [List.length_map];omega),List.take_of_length_le (by rw [List.length_map];omega)]
  ·have h5:outs2.length<most:=by
    have:((outs2.length:Int)<(most:Int)):=by simpa using h5
    omega
   have ew:IntKind.wrap .i64 (((z2x t.s (k+j):Nat):Int)+((frL b).length:Nat))=((z2x t.s (k+(j+1)):Nat):Int):=by
    rw [show k+(j+1)=k+j+1 by omega,hpos,w64 (by omega) (by omega)];omega
   refine z1u (y:=((z2x t.s (k+(j+1)):Nat):Int)) ?_ ew
   exact z0w (t.s.bs.length-(k+(j+1))) ⟨j+1,outs2,rfl,by omega,rfl,hmap2,h5,by omega,hs⟩
end
def zkf (pre:ByteArray) (l:List SegA) (D:DiskA):Prop:=∀ s ∈ l,∃ k,z03 D.fs (zo pre s.base zu)=some (s.file,k)
theorem zis {l:List SegA} (hok:z0a 0 l):∀ s ∈ l,z15 l<=s.base:=by
 cases l with
 | nil=>intro s hs;cases hs
 | cons a l =>
  intro s hs
  show a.base<=s.base
  rcases List.mem_cons.1 hs with rfl|hs
  ·exact Int.le_refl _
  ·have:=(hok.2.2.mem s hs).2
   omega
theorem zgo {l:List SegA} (hok:z0a 0 l):z15 l<=zt l:=by
 by_cases h:l=[]
 ·subst h;decide
 ·obtain ⟨l0,s,rfl⟩:=z3d h
  have h1:=zis hok s (by simp)
  have h2:=(z5h (hok.mem s (by simp)).1).1
  unfold zt
  rw [z1s]
  simp only
  omega
theorem z033 {n:Int} {bs:List BatM} (h:z1j n bs):∀ b ∈ bs,n<=b.base:=by
 intro b hb
 obtain ⟨j,hj,rfl⟩:=List.mem_iff_getElem.1 hb
 cases j with
 | zero =>
  cases bs with
  | nil=>simp at hj
  | cons c cs=>exact h.2.2.1
 | succ j =>
  have h1:=h.lt 0 (j+1) hj (by omega)
  obtain ⟨s1,-,-,-,-⟩:=z17 _ (h.valid _ (List.getElem_mem (show 0<bs.length by omega))).1
  omega
theorem zw2 {off:Int} {b:BatM} (hv:z04 b=0) (h:off<=b.base):z0n off b=some b:=by
 obtain ⟨s1,-,-,-,-⟩:=z17 b hv
 unfold z0n
 rw [if_neg,if_pos (.inr h)]
 rintro (hh|hh)
 ·exact hh hv
 ·unfold z1p at hh;rw [if_neg (by rw [hv];simp)] at hh;omega
theorem zl4 {α:Type} {f:α->Option α} {l:List α} (h:∀ x ∈ l,f x=some x):l.filterMap f=l:=by
 induction l with
 | nil=>rfl
 | cons a l ih=>rw [List.filterMap_cons,h a (List.mem_cons_self ..)];simp only;rw [ih λx hx=>h x (List.mem_cons_of_mem _ hx)]
theorem zzf {l:List SegA} (hok:z0a 0 l) {n:Int} (hn:(z06 l).length<=n) (h1:1<=n):z4l l (z15 l) n=(0,z06 l):=by
 have:=zgo hok
 unfold z4l
 rw [if_neg (by omega),if_neg (by omega),zl4,List.take_of_length_le (by omega)]
 intro b hb
 obtain ⟨s,hs,hbs⟩:=List.mem_flatMap.1 hb
 have h2:=hok.mem s hs
 exact zw2 (h2.1.bs.valid b hbs).1 (by have:=zis hok s hs;have:=z033 h2.1.bs b hbs;omega)
section
variable {w:World} {l r r1 r2:List HP} {lg ao:Nat} {M:LogM} {A:LogA} {D:DiskA} {gap:Int} {a:Nat} {t:SegM} {outs:List BatM}
theorem zzd (i:Nat) (a0 a1:Nat) (off:Int) (hi:i<M.SM.length)
  (hs:Sat w (pt a0 (.cells [.pointer (some ⟨lg,0,none⟩)].toArray T.a33)::pt a1 (.cells [.int .i64 off].toArray T.a14)::lgQ lg M::r)) :
  Ret P F.a125 #[.int .i64 (i:Int),.pointer (some ⟨a0,0,none⟩),.pointer (some ⟨a1,0,none⟩)] w λvs w'=>vs=[.bool (decide (M.SM[i].2.s.base>off))]/\Sat w' (pt a0 (.cells [.pointer (some ⟨lg,0,none⟩)].toArray T.a33)::pt a1 (.cells [.int .i64 off].toArray T.a14)::lgQ lg M::r) :=
 zny _ _ _ <| by
  delta z01f AC AD AG Ab Ag Aj Ao Ax B5 B6 Bw
  obtain ⟨hokm,hs⟩:=z2r (hs.pick [2])
  refine zw hs λw' hs=>?_
  refine za hs ?_
  refine zi ?_
  refine za hs ?_
  refine z1w hs (xs:=M.SM.map Prod.fst) (enc:=z1n) i (by rw [List.length_map];exact hi) ?_
  have e0:(M.SM.map Prod.fst)[i]'(by rw [List.length_map];exact hi)=M.SM[i].1:=by simp
  rw [e0]
  refine zi ?_
  have hs:=z3x (z9v (hs.pick [2]) hi)
  refine za hs ?_
  refine za hs ?_
  refine wp_lt ?_
  refine zd ?_
  have hs:=z76 hi (z2o M.SM[i].2 hs)
  have hs:=z1l M hokm (hs.pick [1,1])
  exact ⟨rfl,rfl,hs.sub⟩
set_option maxHeartbeats 1000000 in
theorem zqa (off most:Int) (ho : -9223372036854775808<=off/\off<9223372036854775808) (hmo:most<9223372036854775808) {r1:List HP} [hf:Fo l lgP lg A r1] [hf2:Fo r1 dk A.d D r] (hok:z0a 0 A.l) (hhas:zkf A.pre A.l D) (hlen:A.l.length<=1000000) (hall:(z06 A.l).length<=1000000) (hs:Sat w l) :
  Ret P F.a124 #[.pointer (some ⟨lg,0,none⟩),.int .i64 off,.int .i64 most] w λvs w'=>∃ (z:Sl) (outs:List BatM),vs=[z.v,.int .i64 (z4l A.l off most).1]/\outs.map BatM.p=(z4l A.l off most).2/\Sat w' (slc T.a0 7 z (outs.flatMap zr)::z10 outs::lgP lg A::dk A.d D::r) :=
 znx _ off most <| by
  clear hmo
  delta z01e AB AC AF AG AM AO Aa Ab Ac Ad Ae Af Ag Ah Ai Aj Ao Ar Ax Az Bc Bk Bv Bw Bx
  have hs:=hs.perm (hf.perm.trans (.cons _ hf2.perm))
  clear hf hf2
  obtain ⟨M,rfl,hs⟩:=z7w hs
  have hMl:M.A.l=M.l:=rfl
  have hMpre:M.A.pre=M.pre:=rfl
  have hMd:M.A.d=M.d:=rfl
  rw [hMl] at hlen hok hhas hall ⊢
  rw [hMpre] at hhas
  rw [hMd] at hs ⊢
  have hll:M.l.length=M.SM.length:=List.length_map ..
  have z5e:∀ (i:Nat) (h:i<M.SM.length),M.SM[i].2.s=M.l[i]'(by omega):=λi h=>by unfold LogM.l;simp
  obtain ⟨m_,FS_,-,hokD,-⟩:=z24 (hs.pick [1])
  refine zp hs λa0 w' hs=>?_
  refine zp hs λa1 w' hs=>?_
  refine zp hs λa2 w' hs=>?_
  refine za hs ?_
  refine wp_lt ?_
  refine zy ?_ (by simp)
  refine za hs ?_
  refine wp_lt ?_
  have hfin0:∀ {w:World} {L:List HP},Sat w (lgQ lg M::dk M.d D::r)->Sat w (slc T.a0 7 ⟨none,0,0⟩ (([]:List BatM).flatMap zr)::z10 []::lgP lg M.A::dk M.d D::r):=λhs=>(zkn (z4g M hs)).slc_nil
  unfold z4l
  refine zg (λh=>?_) λh=>?_
  ·rw [if_pos (show most<1 by omega)]
   have hs:Sat w' (lgQ lg M::dk M.d D::r):=hs.sub
   exact ⟨rfl,⟨none,0,0⟩,[],rfl,rfl,hfin0 (L:=[]) hs⟩
  rw [if_neg (show ¬ most<1 by omega)]
  refine zk (λq w'=>q=(decide (off<z15 M.l\/off>zt M.l),())/\Sat w' (pt a2 (.cells [.int .i64 most].toArray T.a13)::pt a1 (.cells [.int .i64 off].toArray T.a14)::pt a0 (.cells [.pointer (some ⟨lg,0,none⟩)].toArray T.a33)::lgQ lg M::dk M.d D::r)) ?_ ?_
  ·refine zw hs λw' hs=>?_
   refine z0z hs ?_
   refine za hs ?_
   refine z8 (zhm (lg:=lg) hs) λ_ w' hs=>?_
   obtain ⟨rfl,hs⟩:=hs
   refine zb ?_ (by first|trivial|(repeat (first|exact trivial|exact λ_=>z05 hs|exact λ_=>z0b hs|refine And.intro ?_ ?_)))
   refine z0z hs ?_
   refine za hs ?_
   refine zg (λh1=>?_) λh1=>?_
   ·refine zd ?_
    exact zf ⟨by rw [decide_eq_true (.inl h1)],hs.sub⟩
   ·refine z8 (zb7 (lg:=lg) (by omega) hs) λ_ w' hs=>?_
    obtain ⟨rfl,hs⟩:=hs
    refine zb ?_ (by first|trivial|(repeat (first|exact trivial|exact λ_=>z05 hs|exact λ_=>z0b hs|refine And.intro ?_ ?_)))
    refine wp_lt ?_
    refine zd ?_
    refine zf ⟨?_,hs.sub⟩
    rw [decide_eq_decide.2 (show (off<z15 M.l\/off>zt M.l)↔off>zt M.l from ⟨λhh=>hh.resolve_left h1,.inr⟩)]
  rintro _ w2 ⟨rfl,hs⟩
  refine zg (λh1=>?_) λh1=>?_
  ·have h1:off<z15 M.l\/off>zt M.l:=by simpa using h1
   rw [if_pos h1]
   have hs:Sat w2 (lgQ lg M::dk M.d D::r):=hs.sub
   exact ⟨rfl,⟨none,0,0⟩,[],rfl,rfl,hfin0 (L:=[]) hs⟩
  have h1:¬ (off<z15 M.l\/off>zt M.l):=by simpa using h1
  rw [if_neg h1]
  obtain ⟨mN,rfl⟩:∃ mN:Nat,most=(mN:Int):=⟨most.toNat,by omega⟩
  rw [Int.toNat_natCast]
  refine zm hs λao w' hs=>?_
  refine za hs ?_
  refine zi ?_
  obtain ⟨hokm,hs⟩:=z2r (hs.pick [4])
  refine za hs ?_
  have hl:=hs.slen M.z (xs:=M.SM.map Prod.fst) (enc:=z1n)
  rw [List.length_map] at hl
  have hs:=z1l M hokm hs
  have hs:Sat w' (pt a0 (.cells [.pointer (some ⟨lg,0,none⟩)].toArray T.a33)::pt a1 (.cells [.int .i64 off].toArray T.a14)::lgQ lg M::pt ao (.cells #[.slice none 0 0] T.a38)::pt a2 (.cells [.int .i64 (mN:Int)].toArray T.a13)::dk M.d D::r):=hs.sub
  rw [hl]
  refine z8 (zg1 M.SM.length (by omega) F.a125 #[.pointer (some ⟨a0,0,none⟩),.pointer (some ⟨a1,0,none⟩)] (λi=>decide (((M.l.map SegA.base).getD i 0)>off)) (by kernel_rfl) (λi w hi hs=>?_) hs) λ_ w' hs=>?_
  ·have e:(M.l.map SegA.base).getD i 0=M.SM[i].2.s.base:=by
    rw [List.getD_eq_getElem?_getD,List.getElem?_map,List.getElem?_eq_getElem (by omega),z5e i hi];rfl
   simp only [e]
   exact zzd (M:=M) i a0 a1 off hi hs
  obtain ⟨i0,hi0,hs1,hs2,rfl,hs⟩:=hs
  refine zb ?_
  refine z1u (y:=(i0:Int)-1) ?_ (by rw [w64 (by omega) (by omega)])
  refine z1u (y:=((i0-1:Nat):Int)) ?_ (by split <;> omega)
  have hskip:i0-1<M.SM.length->(z06 M.l).filterMap (z0n off)=(z06 (M.l.drop (i0-1))).filterMap (z0n off):=λhlt=>by
   refine zzr hok (i:=i0-1) (by omega) ?_
   by_cases h0:i0=0
   ·right;omega
   ·left
    have h2:=hs1 (by omega)
    rw [List.getD_eq_getElem?_getD,List.getElem?_map,List.getElem?_eq_getElem (by omega)] at h2
    have h2:decide ((M.l[i0-1]'(by omega)).base>off)=false:=h2
    simpa using h2
  have hs:Sat w' (z4t ao []::lgQ lg M::dk M.d D::pt a1 (.cells [.int .i64 off].toArray T.a14)::pt a2 (.cells [.int .i64 (mN:Int)].toArray T.a13)::pt a0 (.cells [.pointer (some ⟨lg,0,none⟩)].toArray T.a33)::r):=by
   have h3:Sat w' (slc T.a0 7 ⟨none,0,0⟩ (([]:List BatM).flatMap zr)::z10 []::_):=(zkn hs).slc_nil
   have h4:Sat w' (pt ao (.cells #[.slice none 0 0] T.a38)::slc T.a0 7 ⟨none,0,0⟩ (([]:List BatM).flatMap zr)::z10 []::lgQ lg M::dk M.d D::pt a1 (.cells [.int .i64 off].toArray T.a14)::pt a2 (.cells [.int .i64 (mN:Int)].toArray T.a13)::pt a0 (.cells [.pointer (some ⟨lg,0,none⟩)].toArray T.a33)::r):=h3.sub
   exact zdg (z:=⟨none,0,0⟩) h4
  refine zk (λ_ w'=>∃ outs:List BatM,outs.map BatM.p=((z06 M.l).filterMap (z0n off)).take mN/\Sat w' (z4t ao outs::lgQ lg M::dk M.d D::pt a1 (.cells [.int .i64 off].toArray T.a14)::pt a2 (.cells [.int .i64 (mN:Int)].toArray T.a13)::pt a0 (.cells [.pointer (some ⟨lg,0,none⟩)].toArray T.a33)::r)) ?_ ?_
  rotate_left
  ·rintro _ w3 ⟨outs,h4,hs⟩
   obtain ⟨z,hs⟩:=zlu hs
   refine za hs ?_
   refine ⟨rfl,z,outs,rfl,h4,?_⟩
   have hs:Sat w3 (lgQ lg M::slc T.a0 7 z (outs.flatMap zr)::z10 outs::dk M.d D::r):=hs.sub
   have hs:=z4g M hs
   exact hs.sub
  have hpre:∀ (j:Nat),i0-1<=j->j<=M.l.length->(z06 ((M.l.drop (i0-1)).take (j-(i0-1)))).length<=1000000:=λj h1 h2=>by
   refine Nat.le_trans ?_ hall
   have:∀ (a b:List SegA),a.Sublist b->(z06 a).length<=(z06 b).length:=λa b h=>by
    induction h with
    | slnil=>exact Nat.le_refl _
    | cons x _ ih=>unfold z06 at *;rw [List.flatMap_cons,List.length_append];omega
    | cons_cons x _ ih=>unfold z06 at *;rw [List.flatMap_cons,List.flatMap_cons,List.length_append,List.length_append];omega
   exact this _ _ ((List.take_sublist _ _).trans (List.drop_sublist _ _))
  refine z09 (λm v w=>∃ (j:Nat) (outs:List BatM),v=((j:Int),())/\i0-1<=j/\(j<=M.SM.length\/j=i0-1)/\M.SM.length-j=m/\outs.map BatM.p=(z06 ((M.l.drop (i0-1)).take (j-(i0-1)))).filterMap (z0n off)/\outs.length<mN /\
   Sat w (z4t ao outs::lgQ lg M::dk M.d D::pt a1 (.cells [.int .i64 off].toArray T.a14)::pt a2 (.cells [.int .i64 (mN:Int)].toArray T.a13)::pt a0 (.cells [.pointer (some ⟨lg,0,none⟩)].toArray T.a33)::r)) (M.SM.length-(i0-1))
   ⟨i0-1,[],rfl,Nat.le_refl _,.inr rfl,rfl,by simp [z06],by show 0<mN;omega,hs⟩ ?_
  clear hs
  rintro m _ w ⟨j,outs,rfl,hj1,hj2,hm,hmap,hlt,hs⟩
  refine zj ?_
  refine za hs ?_
  refine zi ?_
  obtain ⟨hokm,hs⟩:=z2r (hs.pick [1])
  refine za hs ?_
  refine zg (λhc=>?_) λhc=>?_
  rotate_left
  ·have hs:=z1l M hokm hs
   refine zn (zf ⟨outs,?_,hs.sub⟩)
   by_cases hlt2:i0-1<M.SM.length
   ·have hje:j=M.SM.length:=by omega
    rw [hskip hlt2,hmap,hje]
    rw [List.take_of_length_le (l:=M.l.drop (i0-1)) (by rw [List.length_drop];omega)] at hmap ⊢
    have:=congrArg List.length hmap
    rw [List.length_map] at this
    rw [List.take_of_length_le (by omega)]
   ·have h0:M.l=[]:=List.length_eq_zero_iff.1 (by omega)
    rw [hmap,h0]
    simp [z06]
  have hjl:j<M.SM.length:=by omega
  refine za hs ?_
  refine zi ?_
  refine za hs ?_
  refine z1w hs (xs:=M.SM.map Prod.fst) (enc:=z1n) j (by rw [List.length_map];exact hjl) ?_
  have e0:(M.SM.map Prod.fst)[j]'(by rw [List.length_map];exact hjl)=M.SM[j].1:=by simp
  rw [e0]
  have hmem:M.SM[j].2.s ∈ M.l:=List.mem_map.2 ⟨_,List.getElem_mem hjl,rfl⟩
  have hsok:=(hok.mem _ hmem).1
  obtain ⟨kp,hfile⟩:=hhas _ hmem
  have hrl:M.SM[j].2.s.file.length<=4194304:=Nat.le_trans (zdp hfile) hokD.used
  have hbl:=zhl hsok
  obtain ⟨k,hk,hpl,hskp⟩:=zvx hsok hrl M.gap off
  have hlt2:i0-1<M.SM.length:=by omega
  have hstep:(M.l.drop (i0-1)).take (j+1-(i0-1))=(M.l.drop (i0-1)).take (j-(i0-1))++[M.SM[j].2.s]:=by
   rw [show j+1-(i0-1)=(j-(i0-1))+1 by omega,List.take_succ_eq_append_getElem (by rw [List.length_drop];omega),List.getElem_drop,z5e j hjl]
   congr 3
   omega
  have hnone:(M.SM[j].2.s.bs).filterMap (z0n off)=(M.SM[j].2.s.bs.drop k).filterMap (z0n off):=by
   have e:M.SM[j].2.s.bs=M.SM[j].2.s.bs.take k++M.SM[j].2.s.bs.drop k:=(List.take_append_drop _ _).symm
   calc (M.SM[j].2.s.bs).filterMap (z0n off)=(M.SM[j].2.s.bs.take k++M.SM[j].2.s.bs.drop k).filterMap (z0n off):=by rw [<- e]
    _=(M.SM[j].2.s.bs.drop k).filterMap (z0n off):=by
     rw [List.filterMap_append,zb1 (l:=M.SM[j].2.s.bs.take k),List.nil_append]
     intro b hb
     exact zgp (hsok.bs.valid b (List.mem_of_mem_take hb)).1 (hskp b hb)
  have hall2:(z06 ((M.l.drop (i0-1)).take (j+1-(i0-1)))).filterMap (z0n off)=(z06 ((M.l.drop (i0-1)).take (j-(i0-1)))).filterMap (z0n off)++(M.SM[j].2.s.bs.drop k).filterMap (z0n off):=by
   rw [hstep]
   unfold z06
   rw [List.flatMap_append,List.filterMap_append,<- hnone]
   simp
  have hol:outs.length<=1000000:=by
   have:=congrArg List.length hmap
   rw [List.length_map] at this
   rw [this]
   exact Nat.le_trans (List.length_filterMap_le _ _) (hpre j hj1 (by omega))
  refine zk (λq w'=>∃ outs':List BatM,q=(decide (outs.length+((M.SM[j].2.s.bs.drop k).filterMap (z0n off)).length<mN),())/\outs'.map BatM.p=(outs.map BatM.p++(M.SM[j].2.s.bs.drop k).filterMap (z0n off)).take mN /\
    Sat w' (z4t ao outs'::lgQ lg M::dk M.d D::pt a1 (.cells [.int .i64 off].toArray T.a14)::pt a2 (.cells [.int .i64 (mN:Int)].toArray T.a13)::pt a0 (.cells [.pointer (some ⟨lg,0,none⟩)].toArray T.a33)::r)) ?_ ?_
  ·refine zw hs λw' hs=>?_
   refine z0z hs ?_
   refine za hs ?_
   have hs:=z9v (hs.pick [2]) hjl
   refine z8 (z04p (gap:=M.gap) (a:=M.SM[j].1) (t:=M.SM[j].2) off hsok hrl hs) λ_ w' hs=>?_
   obtain ⟨rfl,hs⟩:=hs
   refine zb ?_ (by first|trivial|(repeat (first|exact trivial|exact λ_=>z05 hs|exact λ_=>z0b hs|refine And.intro ?_ ?_)))
   refine zd ?_
   have hs:=z76 hjl hs
   have hs:=z1l M hokm (hs.pick [1,1])
   have hs:Sat w' (z4t ao outs::lgQ lg M::dk M.d D::pt a1 (.cells [.int .i64 off].toArray T.a14)::pt a2 (.cells [.int .i64 (mN:Int)].toArray T.a13)::pt a0 (.cells [.pointer (some ⟨lg,0,none⟩)].toArray T.a33)::r):=hs.sub
   rw [hpl]
   refine z8 (z06t off mN a1 a2 ho hjl hsok hfile hk hlt (by omega) hs) λ_ w' hs=>?_
   obtain ⟨outs',rfl,hm2,-,hs⟩:=hs
   refine zb ?_
   refine wp_lt ?_
   refine zd ?_
   exact zf ⟨outs',rfl,hm2,hs⟩
  clear hs
  rintro _ w3 ⟨outs',rfl,hm2,hs⟩
  rw [hmap,<- hall2] at hm2
  have hlm:=congrArg List.length hmap
  rw [List.length_map] at hlm
  refine zg (λh5=>?_) λh5=>?_
  ·have h5:¬ (outs.length+((M.SM[j].2.s.bs.drop k).filterMap (z0n off)).length<mN):=by simpa using h5
   refine zn (zf ⟨outs',?_,hs⟩)
   rw [hm2,hskip hlt2]
   have e:z06 (M.l.drop (i0-1))=z06 ((M.l.drop (i0-1)).take (j+1-(i0-1)))++z06 ((M.l.drop (i0-1)).drop (j+1-(i0-1))):=by
    unfold z06;rw [<- List.flatMap_append,List.take_append_drop]
   rw [e,List.filterMap_append,List.take_append_of_le_length]
   rw [hall2,List.length_append]
   omega
  ·have h5:(outs.length+((M.SM[j].2.s.bs.drop k).filterMap (z0n off)).length<mN):=by simpa using h5
   refine z1u (y:=((j+1:Nat):Int)) ?_ (by rw [w64 (by omega) (by omega)];omega)
   have hll2:((z06 ((M.l.drop (i0-1)).take (j+1-(i0-1)))).filterMap (z0n off)).length<mN:=by rw [hall2,List.length_append];omega
   rw [List.take_of_length_le (by omega)] at hm2
   have hl3:=congrArg List.length hm2
   rw [List.length_map] at hl3
   exact z0w (M.SM.length-(j+1)) ⟨j+1,outs',rfl,by omega,.inl (by omega),rfl,hm2,by omega,hs⟩
theorem zw5 {r1:List HP} [hf:Fo l lgP lg A r1] [hf2:Fo r1 dk A.d D r] (hok:z0a 0 A.l) (hhas:zkf A.pre A.l D) (hlen:A.l.length<=1000000) (hall:(z06 A.l).length<=1000000) (hs:Sat w l) :
  Ret P F.a120 #[.pointer (some ⟨lg,0,none⟩)] w λvs w'=>∃ (z:Sl) (outs:List BatM),vs=[z.v]/\outs.map BatM.p=z06 A.l/\Sat w' (slc T.a0 7 z (outs.flatMap zr)::z10 outs::lgP lg A::dk A.d D::r) :=
 znu _ <| by
  delta z01b Aa Ab Ac Ad Ah Ai Bt
  have hs:=hs.perm (hf.perm.trans (.cons _ hf2.perm))
  clear hf hf2
  have hfn:=zgo hok
  have hnx:=hok.next (Int.le_refl 0)
  have hf0:0<=z15 A.l:=by
   cases hq:A.l with
   | nil=>decide
   | cons s l0=>rw [hq] at hok;have:=hok.1;exact this
  refine zy ?_ (by simp)
  obtain ⟨M,hM,hs⟩:=z7w hs
  subst hM
  refine z8 (zhm (lg:=lg) hs) λ_ w' hs=>?_
  obtain ⟨rfl,hs⟩:=hs
  refine zb ?_
  have hs:=z4g M hs
  have hfn:z15 M.l<=zt M.l:=hfn
  have hnx:0<=zt M.l/\zt M.l<=1099511627777:=hnx
  have hf0:0<=z15 M.l:=hf0
  refine z8 (zqa (lg:=lg) (A:=M.A) (D:=D) (z15 M.l) 1099511627776 (by omega) (by omega) hok hhas hlen hall hs) λ_ w' hs=>?_
  obtain ⟨z,outs,rfl,hmap,hs⟩:=hs
  refine zb ?_
  refine wp_lt ?_
  have hra:z4l M.A.l (z15 M.l) 1099511627776=(0,z06 M.A.l):=zzf hok (by omega) (by omega)
  rw [hra] at hmap
  exact ⟨rfl,z,outs,rfl,hmap,hs⟩
end
def zdy (seg gap:Int):Prop:=(64<=seg/\seg<=4194304)/\(1<=gap/\gap<=4194304)
instance (seg gap:Int):Decidable (zdy seg gap):=by unfold zdy;infer_instance
section
variable {w:World} {l r:List HP} {lg d:Nat} {M:LogM} {A:LogA} {D:DiskA}
set_option maxHeartbeats 1000000 in
theorem z03z (pre:ByteArray) (seg gap:Int) (hp:z3w pre=true) (hc:zdy seg gap) (hg:D.gone=false) [hf:Fo l dk d D r] (hs:Sat w l):Ret P F.a139 #[.pointer (some ⟨d,0,none⟩),.string pre,.agg #[.int .i64 seg,.int .i64 gap]] w λvs w' =>
  ((z4i pre D).1≠0/\vs=[.pointer none,.int .i64 (z4i pre D).1]/\Sat w' (dk d (z4i pre D).2.2::r)) \/
  ((z4i pre D).1=0/\∃ lg,vs=[.pointer (some ⟨lg,0,none⟩),.int .i64 0]/\Sat w' (lgP lg ⟨d,pre,seg,gap,(z4i pre D).2.1⟩::dk d (z4i pre D).2.2::r)) :=
 zoc _ pre seg gap <| by
  delta z01t AD AF AI AJ AM Aa Ab Ac Ad Ae Af Ag Ah Ai Ao Az Bc Br Bs Bt Bu
  have hs:=hs.perm hf.perm
  obtain ⟨m_,FS_,-,hokD,-⟩:=z24 hs
  refine zp hs λa0 w' hs=>?_
  refine wp_lt ?_
  refine zy ?_ (by simp)
  refine zk (λq w'=>q=(false,())/\Sat w' (dk d D::pt a0 (.cells #[.int .i64 seg,.int .i64 gap] T.a50)::r)) ?_ ?_
  ·refine z8 (zzb pre hs) λ_ w' hs=>?_
   obtain ⟨rfl,hs⟩:=hs
   refine zb ?_
   refine ze hs ?_
   refine zy ?_ (by rw [hp];simp)
   refine z8 (z060 seg gap hs) λ_ w' hs=>?_
   obtain ⟨rfl,hs⟩:=hs
   refine zb ?_
   refine wp_lt ?_
   refine zf ⟨?_,hs.sub⟩
   have:((64<=seg/\seg<=4194304)/\(1<=gap/\gap<=4194304)):=hc
   rw [decide_eq_true this]
   rfl
  rintro _ w2 ⟨rfl,hs⟩
  refine zy ?_ (by simp)
  refine z8 (z05r (d:=d) hs) λ_ w' hs=>?_
  obtain ⟨rfl,hs⟩:=hs
  refine zb ?_
  refine wp_lt ?_
  refine zy ?_ (by rw [hg];simp)
  refine ze hs ?_
  refine zp hs λlg w' hs=>?_
  have hokm:okM gap seg pre:=⟨hc.2,hc.1,hp⟩
  have hs:Sat w' (lgQ lg ⟨d,pre,seg,gap,⟨none,0,0⟩,[]⟩::dk d D::r):=by
   refine z1l ⟨d,pre,seg,gap,⟨none,0,0⟩,[]⟩ hokm ?_
   have h1:Sat w' (HP.all (([]:List (Nat × SegM)).map λt=>z0m gap t.1 t.2)::pt lg (.cells #[.pointer (some ⟨d,0,none⟩),.string pre,.int .i64 seg,.int .i64 gap,.slice none 0 0] T.a51)::dk d D::r):=by
    have hs:Sat w' (pt lg (.cells #[.pointer (some ⟨d,0,none⟩),.string pre,.int .i64 seg,.int .i64 gap,.slice none 0 0] T.a51)::dk d D::r):=hs.sub
    exact Sat.all_nil hs
   have h2:Sat w' (slc T.a34 1 ⟨none,0,0⟩ (((([]:List (Nat × SegM))).map Prod.fst).flatMap z1n)::_):=h1.slc_nil
   exact h2.pick [2]
  unfold z4i
  refine z8 (z03f (lg:=lg) (M:=⟨d,pre,seg,gap,⟨none,0,0⟩,[]⟩) (D:=D) hs) λ_ w' hs=>?_
  have hnl:(z0s pre (z0y (z16 pre) D.fs) D).2.1.length<=128:=by
   refine Nat.le_trans zgn ?_
   unfold z0y
   exact Nat.le_trans (List.length_filter_le _ _) (by rw [List.length_map];exact hokD.many)
  have hlt:=ziq (pre:=pre) (ns:=z0y (z16 pre) D.fs) (D:=D)
  rcases hs with ⟨he,rfl,hs⟩|⟨he,x,rfl,hs⟩
  ·have he:(z0s pre (z0y (z16 pre) D.fs) D).1≠0:=he
   refine zb ?_
   refine wp_lt ?_
   refine z0o ?_ he
   refine wp_lt ?_
   rw [if_pos he]
   exact ⟨rfl,.inl ⟨he,rfl,hs.tail⟩⟩
  have he:(z0s pre (z0y (z16 pre) D.fs) D).1=0:=he
  refine ⟨(x,0,()),rfl,trivial,z38 _ _ ?_⟩
  refine wp_lt ?_
  refine zy ?_ (by simp)
  rw [if_neg (by rw [he];simp)]
  have hs:Sat w' (slc T.a14 1 x ((z0s pre (z0y (z16 pre) D.fs) D).2.1.flatMap z43)::lgQ lg ⟨d,pre,seg,gap,⟨none,0,0⟩,[]⟩::dk d (z0s pre (z0y (z16 pre) D.fs) D).2.2::r):=hs
  generalize (z0s pre (z0y (z16 pre) D.fs) D).2.2=D1 at *
  generalize (z0s pre (z0y (z16 pre) D.fs) D).2.1=bs at *
  have hl:=hs.slen x (xs:=bs) (enc:=z43)
  have hcap:=hs.slc_cap
  refine zk (λq w'=>∃ M:LogM,q=((z21 pre bs [] D1).1,())/\(M.d=d/\M.pre=pre/\M.seg=seg/\M.gap=gap)/\M.l=(z21 pre bs [] D1).2.1/\Sat w' (lgQ lg M::dk d (z21 pre bs [] D1).2.2::r)) ?_ ?_
  rotate_left
  ·rintro _ w3 ⟨M,rfl,⟨rfl,rfl,rfl,rfl⟩,h2,hs⟩
   refine zg (λh=>?_) λh=>?_
   ·refine wp_lt ?_
    exact ⟨rfl,.inl ⟨h,rfl,hs.tail⟩⟩
   ·have h:(z21 M.pre bs [] D1).1=0:=Decidable.not_not.1 h
    refine ⟨rfl,.inr ⟨h,lg,rfl,?_⟩⟩
    have:=z4g M hs
    have e:M.A=⟨M.d,M.pre,M.seg,M.gap,(z21 M.pre bs [] D1).2.1⟩:=by rw [<- h2];rfl
    rw [<- e]
    exact this
  refine z09 (λm v w=>∃ (i:Nat) (M:LogM) (D':DiskA),v=((0:Int),((i:Int),()))/\i<=bs.length/\bs.length-i=m/\M.SM.length<=i/\z21 pre bs [] D1=z21 pre (bs.drop i) M.l D'/\(M.d=d/\M.pre=pre/\M.seg=seg/\M.gap=gap) /\
   Sat w (slc T.a14 1 x (bs.flatMap z43)::lgQ lg M::dk d D'::r)) bs.length ⟨0,⟨d,pre,seg,gap,⟨none,0,0⟩,[]⟩,D1,rfl,by omega,rfl,by simp,rfl,⟨rfl,rfl,rfl,rfl⟩,hs⟩ ?_
  clear hs
  rintro m _ w ⟨i,M,D',rfl,hi,hm,hsm,hq,⟨rfl,rfl,rfl,rfl⟩,hsn⟩
  have hs:=hsn
  refine zj ?_
  refine zg (λhcc=>?_) λhcc=>?_
  rotate_left
  ·have e:bs.drop i=[]:=List.drop_eq_nil_of_le (by omega)
   rw [e] at hq
   have hq:z21 M.pre bs [] D1=(0,M.l,D'):=hq
   rw [hq]
   exact zn (zf ⟨M,rfl,⟨rfl,rfl,rfl,rfl⟩,rfl,hs.sub⟩)
  have hil:i<bs.length:=by omega
  rw [List.drop_eq_getElem_cons hil] at hq
  have hbb:=hlt bs[i] (List.getElem_mem hil)
  have hun:z21 M.pre (bs[i]::bs.drop (i+1)) M.l D'=if bs[i]<zt M.l then (if (z14 D' (zo M.pre bs[i] zu)).1≠0 then ((z14 D' (zo M.pre bs[i] zu)).1,M.l,(z14 D' (zo M.pre bs[i] zu)).2) else z21 M.pre (bs.drop (i+1)) M.l (z14 D' (zo M.pre bs[i] zu)).2) else
   if (z1m M.pre M.l D' bs[i]).1.2≠0 then ((z1m M.pre M.l D' bs[i]).1.2,(z1m M.pre M.l D' bs[i]).2) else
   if (z1m M.pre M.l D' bs[i]).1.1=true then z21 M.pre (bs.drop (i+1)) (z1m M.pre M.l D' bs[i]).2.1 (z1m M.pre M.l D' bs[i]).2.2 else ((z6i M.pre (bs.drop (i+1)) (z1m M.pre M.l D' bs[i]).2.2).1,(z1m M.pre M.l D' bs[i]).2.1,(z6i M.pre (bs.drop (i+1)) (z1m M.pre M.l D' bs[i]).2.2).2):=rfl
  have ei:IntKind.wrap .i64 ((i:Int)+1)=((i+1:Nat):Int):=by rw [w64 (by omega) (by omega)];omega
  refine zk (λq w'=>∃ (M2:LogM) (D2:DiskA),q=((0:Int),())/\M2.SM.length<=i+1/\z21 M.pre bs [] D1=z21 M.pre (bs.drop (i+1)) M2.l D2/\(M2.d=M.d/\M2.pre=M.pre/\M2.seg=M.seg/\M2.gap=M.gap) /\
   Sat w' (slc T.a14 1 x (bs.flatMap z43)::lgQ lg M2::dk M.d D2::r)) ?_ ?_
  rotate_left
  ·rintro _ w3 ⟨M2,D2,rfl,h1,h2,h3,hs⟩
   rw [ei]
   exact z0w (bs.length-(i+1)) ⟨i+1,M2,D2,rfl,by omega,rfl,h1,h2,h3,hs⟩
  refine z1w hs (xs:=bs) (enc:=z43) i hil ?_
  refine wp_lt ?_
  refine wp_lt ?_
  refine z8 (zb7 (lg:=lg) (by omega) hs) λ_ w' hs=>?_
  obtain ⟨rfl,hs⟩:=hs
  refine zb ?_
  refine zg (λh1=>?_) λh1=>?_
  ·rw [if_pos h1] at hun
   obtain ⟨hokm,hs⟩:=z9p hs
   refine z8 (z7z (lg:=lg) bs[i] hbb (ByteArray.mk #[46,108,111,103]) (by decide) M.pre hokm.size hs) λ_ w' hs=>?_
   obtain ⟨rfl,hs⟩:=hs
   refine zb ?_
   refine z8 (zc5 (d:=M.d) (A:=D') (zo M.pre bs[i] (bl (ByteArray.mk #[46,108,111,103]))) hs) λ_ w' hs=>?_
   obtain ⟨rfl,hs⟩:=hs
   refine zb ?_
   refine wp_lt ?_
   have en:zo M.pre bs[i] (bl (ByteArray.mk #[46,108,111,103]))=zo M.pre bs[i] zu:=rfl
   rw [en] at hs ⊢
   have hs:=z4h M hokm (hs.pick [1,1])
   refine zg (λh2=>?_) λh2=>?_
   ·rw [if_pos h2] at hun
    rw [hun] at hq
    rw [hq]
    exact zn (zn (zf ⟨M,rfl,⟨rfl,rfl,rfl,rfl⟩,rfl,hs.sub⟩))
   ·rw [if_neg h2] at hun
    rw [hun] at hq
    have h2:=Decidable.not_not.1 h2
    rw [h2]
    exact zf ⟨M,_,rfl,by omega,hq,⟨rfl,rfl,rfl,rfl⟩,hs.sub⟩
  ·rw [if_neg h1] at hun
   refine z8 (z06k (lg:=lg) (D:=D') bs[i] hbb (by omega) hs) λ_ w' hs=>?_
   obtain ⟨rfl,M2,⟨e1,e2,e3,e4⟩,hMl,hMs,hs⟩:=hs
   refine zb ?_
   refine wp_lt ?_
   refine wp_lt ?_
   have hs:Sat w' (lgQ lg M2::dk M.d (z1m M.pre M.l D' bs[i]).2.2::slc T.a14 1 x (bs.flatMap z43)::r):=hs
   generalize z1m M.pre M.l D' bs[i]=SC at *
   obtain ⟨⟨b0,e0⟩,l0,D0⟩:=SC
   dsimp only at hun hMl hs ⊢
   refine zg (λh2=>?_) λh2=>?_
   ·obtain ⟨h2a,h2b⟩:=h2
    have h2a:e0=0:=h2a
    have h2b:b0=false:=by simpa using h2b
    rw [if_neg (by rw [h2a];simp),if_neg (by rw [h2b];simp)] at hun
    rw [ei]
    refine wp_must (by omega) ?_
    rw [Int.toNat_natCast]
    rw [<- e1] at hs
    have hx:FocR (slc T.a14 1 x (bs.flatMap z43)::r) ⟨z12 x.a 1 (i+1) x.cap,x.len-(i+1),x.cap-(i+1)⟩ 1 ((bs.drop (i+1)).flatMap z43):=FocR.post hcap
    refine z8 (z03a (lg:=lg) (M:=M2) (D:=D0) ⟨z12 x.a 1 (i+1) x.cap,x.len-(i+1),x.cap-(i+1)⟩ (bs.drop (i+1)) (λb hb=>hlt b (List.mem_of_mem_drop hb)) hx (by rw [List.length_drop];omega) hs) λ_ w' hs=>?_
    obtain ⟨rfl,hs⟩:=hs
    refine zb ?_
    refine wp_lt ?_
    rw [e2,e1] at hs
    rw [e2]
    rw [hun] at hq
    rw [hq]
    refine zn (zn (zf ⟨M2,rfl,⟨e1,e2,e3,e4⟩,hMl,hs.sub⟩))
   ·refine zg (λh3=>?_) λh3=>?_
    ·rw [if_pos h3] at hun
     rw [hun] at hq
     rw [hq]
     refine zn (zn (zf ⟨M2,rfl,⟨e1,e2,e3,e4⟩,hMl,hs.sub⟩))
    ·have h3:e0=0:=Decidable.not_not.1 h3
     have h4:b0=true:=by
      cases hb0:b0 with
      | true=>rfl
      | false=>exact absurd ⟨h3,by rw [hb0];simp⟩ h2
     rw [if_neg (by rw [h3];simp),if_pos h4,<- hMl] at hun
     rw [hun] at hq
     rw [h3]
     exact zf ⟨M2,D0,rfl,by omega,hq,⟨e1,e2,e3,e4⟩,hs.sub⟩
end
theorem zae:∀ {bs:List BatM} {n:Int},0<=n->(zx n bs).1=0->z1j n ((zx n bs).2.map BatM.p)/\(∀ b ∈ (zx n bs).2,n<=b.base)
 | [],n,_,_=>⟨trivial,λ_ h=>by cases h⟩
 | b::bs,n,hn,h=>by
  unfold zx at h ⊢
  by_cases h1:z04 (b.to n)≠0
  ·rw [if_pos h1] at h;exact absurd h h1
  rw [if_neg h1] at h ⊢
  by_cases h2:(zx (n+zq b) bs).1≠0
  ·rw [if_pos h2] at h;exact absurd h h2
  rw [if_neg h2]
  have hv:=Decidable.not_not.1 h1
  obtain ⟨s1,-,-,-,-⟩:=z17 _ hv
  have s1:1<=zq b:=s1
  obtain ⟨i1,i2⟩:=zae (n:=n+zq b) (by omega) (Decidable.not_not.1 h2)
  refine ⟨⟨hv,rfl,Int.le_refl _,i1⟩,λc hc=>?_⟩
  rcases List.mem_cons.1 hc with rfl|hc
  ·exact Int.le_refl _
  ·have:=i2 c hc;omega
theorem z1j.append:∀ {n:Int} {cs bs:List BatM},0<=n->z1j n cs->z1j (max n (z0d cs)) bs->z1j n (cs++bs)
 | n,[],bs,hn,_,h2=>h2.mono (by show n<=max n 0;omega)
 | n,a::cs,bs,hn,⟨h1,h2,h3,h4⟩,hb=>by
  obtain ⟨s1,-,⟨-,hba,-⟩,-,-⟩:=z17 a h1
  refine ⟨h1,h2,h3,h4.append (by omega) (hb.mono ?_)⟩
  have h5:a.base+zq a<=z0d (a::cs):=z1j.le_next (n:=n) (bs:=a::cs) ⟨h1,h2,h3,h4⟩ (List.mem_cons_self ..)
  have h6:z0d cs<=z0d (a::cs):=by
   cases cs with
   | nil=>show (0:Int)<=_;omega
   | cons c ds=>exact Int.le_refl _
  omega
theorem z0a.mono {m n:Int} {l:List SegA} (h:z0a n l) (hm:m<=n):z0a m l:=by
 cases l with
 | nil=>trivial
 | cons s l=>exact ⟨by have:=h.1;omega,h.2.1,h.2.2⟩
theorem z37 (l:List SegA) (s:SegA):zt (l++[s])=s.reach:=by unfold zt;rw [z1s]
theorem zgd (l:List SegA) (s:SegA):z5b (l++[s])=s.base:=by unfold z5b;rw [z1s]
theorem z3s (l:List SegA) (s:SegA) (bs:List BatM):z54 (l++[s]) bs=l++[s.add bs]:=by unfold z54;rw [z1s];simp
theorem z0a.snoc:∀ {n:Int} {l:List SegA} {s:SegA},z0a n l->SegOk s->n<=s.base->(∀ t ∈ l,t.reach<=s.base/\t.base<s.base)->z0a n (l++[s])
 | n,[],s,_,hs,hn,_=>⟨hn,hs,trivial⟩
 | n,a::l,s,⟨h1,h2,h3⟩,hs,hn,ht=>by
  have:=ht a (List.mem_cons_self ..)
  exact ⟨h1,h2,h3.snoc hs (by omega) λt h=>ht t (List.mem_cons_of_mem _ h)⟩
theorem z0a.front:∀ {n:Int} {l:List SegA} {s:SegA},z0a n (l++[s])->z0a n l/\SegOk s/\n<=s.base/\∀ t ∈ l,t.reach<=s.base/\t.base<s.base
 | n,[],s,h=>⟨trivial,h.2.1,h.1,λ_ h=>by cases h⟩
 | n,a::l,s,⟨h1,h2,h3⟩=>by
  obtain ⟨i1,i2,i3,i4⟩:=h3.front
  have:=(z5h h2).1
  refine ⟨⟨h1,h2,i1⟩,i2,by omega,λt ht=>?_⟩
  rcases List.mem_cons.1 ht with rfl|ht
  ·omega
  ·exact i4 t ht
theorem zvb {s:SegA} (hs:SegOk s) {bs:List BatM} {n:Int} (h:(zx n bs).1=0) (hn:n=s.reach):SegOk (s.add (zx n bs).2):=by
 have hr:=z5h hs
 have hb:=hs.base
 refine ⟨hs.base,hs.fin,?_⟩
 subst hn
 have hm:max s.base (z0d s.bs)<=s.reach:=by omega
 exact hs.bs.append hb.1 ((zae (by omega) h).1.mono hm)
theorem zn1 {bs:List BatM} {n:Int} (h:(zx n bs).1=0) (hb:bs≠[]):0<=n/\n<=1099511627776:=by
 cases bs with
 | nil=>exact absurd rfl hb
 | cons b bs =>
  unfold zx at h
  by_cases h1:z04 (b.to n)≠0
  ·rw [if_pos h1] at h;exact absurd h h1
  ·obtain ⟨-,-,⟨-,hba,-⟩,-,-⟩:=z17 _ (Decidable.not_not.1 h1)
   exact hba
def z1e (seg:Int) (l:List SegA) (bs:List BatM):(Int × Int) × List SegA :=
 if bs=[] then ((0,3),l) else if (zx (zt l) bs).1≠0 then ((0,(zx (zt l) bs).1),l) else
 ((zt l,0),if z70 seg l ((zx (zt l) bs).2.flatMap frL).length then z54 l (zx (zt l) bs).2 else l++[(⟨zt l,0,[]⟩:SegA).add (zx (zt l) bs).2])
theorem zaf {seg:Int} {l:List SegA} {bs:List BatM} (h:z0a 0 l):z0a 0 (z1e seg l bs).2:=by
 unfold z1e
 split
 ·exact h
 rename_i hb
 split
 ·exact h
 rename_i hp
 have hp:=Decidable.not_not.1 hp
 have hv:=zn1 hp hb
 simp only
 split
 ·rename_i hr
  have hne:l≠[]:=by rintro rfl;cases hr
  obtain ⟨l0,s,rfl⟩:=z3d hne
  rw [z3s]
  obtain ⟨h1,h2,h3,h4⟩:=h.front
  exact h1.snoc (zvb h2 hp (z37 _ _)) h3 h4
 ·rename_i hr
  have hs:SegOk ((⟨zt l,0,[]⟩:SegA).add (zx (zt l) bs).2):=by
   refine ⟨hv,.inl rfl,?_⟩
   show z1j _ ([]++_)
   rw [List.nil_append]
   exact (zae hv.1 hp).1
  refine h.snoc hs hv.1 λt ht=>?_
  show t.reach<=zt l/\t.base<zt l
  have hne:l≠[]:=List.ne_nil_of_mem ht
  obtain ⟨l0,s,rfl⟩:=z3d hne
  obtain ⟨h1,h2,h3,h4⟩:=h.front
  rw [z37]
  have hsr:=z5h h2
  have hlast:s.base<s.reach:=by
   have hr2:z70 seg (l0++[s]) ((zx (zt (l0++[s])) bs).2.flatMap frL).length=false:=by simpa using hr
   unfold z70 at hr2
   rw [z1s] at hr2
   simp only [Bool.or_eq_false_iff,decide_eq_false_iff_not] at hr2
   have hbs:s.bs≠[]:=by rintro hbs;rw [hbs] at hr2;exact hr2.1 rfl
   have:=hsr.2.2.2.2 hbs
   omega
  rcases List.mem_append.1 ht with ht|ht
  ·have:=h4 t ht;omega
  ·simp only [List.mem_cons,List.not_mem_nil,or_false] at ht
   subst ht
   exact ⟨Int.le_refl _,hlast⟩
theorem zs6 (pre:ByteArray) (seg:Int) (l:List SegA) (D:DiskA) (bs:List BatM):((z0v pre seg l D bs).1=(z1e seg l bs).1/\(z0v pre seg l D bs).2.1=(z1e seg l bs).2)\/((z0v pre seg l D bs).1.1=0/\(z0v pre seg l D bs).1.2≠0/\(z0v pre seg l D bs).2.1=l/\(z1e seg l bs).1.2=0):=by
 unfold z0v z1e
 split
 ·exact .inl ⟨rfl,rfl⟩
 split
 ·exact .inl ⟨rfl,rfl⟩
 split
 ·split
  ·rename_i h;exact .inr ⟨rfl,h,rfl,rfl⟩
  ·exact .inl ⟨rfl,rfl⟩
 ·split
  ·rename_i h;exact .inr ⟨rfl,h,rfl,rfl⟩
  split
  ·rename_i h;exact .inr ⟨rfl,h,rfl,rfl⟩
  ·exact .inl ⟨rfl,rfl⟩
theorem zw6 {pre:ByteArray} {seg:Int} {l:List SegA} {D:DiskA} {bs:List BatM} (h:z0a 0 l):z0a 0 (z0v pre seg l D bs).2.1:=by
 rcases zs6 pre seg l D bs with ⟨-,h2⟩|⟨-,-,h2,-⟩
 ·rw [h2];exact zaf h
 ·rw [h2];exact h
def aP:ByteArray:=ByteArray.mk #[112]
theorem zqm:∀ (bs:List BatM) (n:Int),(zx n (bs.map BatM.p)).1=(zx n bs).1/\(zx n (bs.map BatM.p)).2.map BatM.p=(zx n bs).2.map BatM.p
 | [],n=>⟨rfl,rfl⟩
 | b::bs,n=>by
  rw [List.map_cons]
  unfold zx
  have e1:z04 (b.p.to n)=z04 (b.to n):=rfl
  have e2:zq b.p=zq b:=rfl
  obtain ⟨i1,i2⟩:=zqm bs (n+zq b)
  rw [e1,e2,i1]
  split
  ·exact ⟨rfl,rfl⟩
  split
  ·exact ⟨rfl,rfl⟩
  ·exact ⟨rfl,by rw [List.map_cons,List.map_cons,i2];rfl⟩
theorem zw1 {a b:List BatM} (h:a.map BatM.p=b.map BatM.p):a.flatMap frL=b.flatMap frL:=by
 rw [<- zl8 a,h,zl8]
theorem z00d {a b:List BatM} (h:a.map BatM.p=b.map BatM.p) (s:SegA):s.add a=s.add b:=by unfold SegA.add;rw [h]
theorem zva {a b:List BatM} (h:a.map BatM.p=b.map BatM.p) (l:List SegA):z54 l a=z54 l b:=by
 unfold z54
 split
 ·rfl
 ·rw [z00d h]
theorem zm0 (seg:Int) (l:List SegA) (bs:List BatM):z1e seg l (bs.map BatM.p)=z1e seg l bs:=by
 obtain ⟨h1,h2⟩:=zqm bs (zt l)
 unfold z1e
 rw [h1,zw1 h2,zva h2,z00d h2]
 by_cases hb:bs=[]
 ·subst hb;rfl
 ·rw [if_neg hb,if_neg (by intro h;exact hb (List.map_eq_nil_iff.1 h))]
structure Calm (D:DiskA):Prop where
 gone:D.gone=false
 left:D.left = -1
theorem za7 {D:DiskA} (h:D.left = -1):z2e D=D:=by unfold z2e;rw [if_neg (by omega)]
theorem zkj {D:DiskA} (h:Calm D) (n:ByteArray) (bs:List UInt8):Calm (z07 D n bs).2:=by
 unfold z07
 split
 ·exact h
 split
 ·exact h
 split
 ·exact h
 ·show Calm (z2e _)
  rw [za7 (by exact h.left)]
  exact ⟨h.gone,h.left⟩
theorem zx3 {D:DiskA} (h:Calm D) (ns:List ByteArray):Calm (z1r D ns).2:=by
 unfold z1r
 split
 ·exact h
 split
 ·exact h
 ·show Calm (z2e _)
  rw [za7 (by exact h.left)]
  exact ⟨h.gone,h.left⟩
theorem zzl {D:DiskA} (h:Calm D) (n:ByteArray):Calm (z14 D n).2:=by
 unfold z14
 split
 ·exact h
 split
 ·exact h
 ·show Calm (z2e _)
  rw [za7 (by exact h.left)]
  exact ⟨h.gone,h.left⟩
theorem zsb {D:DiskA} (h:Calm D) (pre:ByteArray) (l:List SegA):Calm (z0i pre l D).2:=by
 unfold z0i
 split
 ·exact h
 ·exact zx3 h _
theorem z7g {A:DiskA} {n:ByteArray} {bs:List UInt8}:(z07 A n bs).2.fs.length<=A.fs.length+1/\((z03 A.fs n).isSome=true->(z07 A n bs).2.fs.length=A.fs.length):=by
 unfold z07
 split
 ·exact ⟨by show A.fs.length<=_;omega,λ_=>rfl⟩
 split
 ·exact ⟨by show A.fs.length<=_;omega,λ_=>rfl⟩
 split
 ·exact ⟨by show A.fs.length<=_;omega,λ_=>rfl⟩
 ·show (z2e _).fs.length<=_/\(_->(z2e _).fs.length=_)
  rw [z3e]
  show (if z1y A.fs n=true then _ else _:List FileA).length<=_/\(_->(if z1y A.fs n=true then _ else _:List FileA).length=_)
  rw [<- z4f]
  split
  ·rw [List.length_map];exact ⟨by omega,λ_=>rfl⟩
  ·rename_i h
   rw [(z68 _ _).length_eq]
   exact ⟨by simp,λh2=>absurd h2 h⟩
structure Cpl (pre:ByteArray) (l:List SegA) (D:DiskA):Prop where
 ok:okA D
 segs:z0a 0 l
 has:zkf pre l D
 only:∀ n,(z03 D.fs n).isSome=true->(bl (z16 pre)).isPrefixOf (bl n)=true->∃ s ∈ l,n=zo pre s.base zu
def z5r (l:List SegA):Nat:=(l.map λs=>s.file.length).sum
theorem z7e (l:List SegA) (s:SegA):z5r (l++[s])=z5r l+s.file.length:=by simp [z5r]
theorem z7b {pre:ByteArray} {s t:SegA} (hs:SegOk s) (ht:SegOk t) (h:s.base≠t.base):zo pre s.base zu≠zo pre t.base zu:=λe=>by
 have h1:=hs.base
 have h2:=ht.base
 exact h (zwe (by omega) (by omega) e).1
structure Fr (pre:ByteArray) (D D':DiskA):Prop where
 room:D'.room=D.room
 other:∀ m,(bl (z16 pre)).isPrefixOf (bl m)=false->z03 D'.fs m=z03 D.fs m
theorem Fr.refl (pre:ByteArray) (D:DiskA):Fr pre D D:=⟨rfl,λ_ _=>rfl⟩
theorem Fr.trans {pre:ByteArray} {D D' D'':DiskA} (h1:Fr pre D D') (h2:Fr pre D' D''):Fr pre D D'':=⟨h2.room.trans h1.room,λm hm=>(h2.other m hm).trans (h1.other m hm)⟩
theorem zmj {D:DiskA} (hok:okA D) (n:ByteArray):okA (z1r D [n]).2/\(z1r D [n]).2.room=D.room/\used (z1r D [n]).2.fs=used D.fs/\(z1r D [n]).2.fs.length=D.fs.length /\
  ∀ m,z03 (z1r D [n]).2.fs m=z03 D.fs m\/(m=n/\(z1r D [n]).1=0/\z03 (z1r D [n]).2.fs m=(z03 D.fs m).map λp=>(p.1,p.1.length)):=by
 by_cases h:(z1r D [n]).1=0
 ·obtain ⟨-,h1,h2,h3,h4,h5⟩:=zr4 hok h
  refine ⟨h1,h2,h3,h4,λm=>?_⟩
  by_cases hm:n=m
  ·subst hm
   refine .inr ⟨rfl,h,?_⟩
   rw [h5]
   simp
  ·refine .inl ?_
   rw [h5]
   simp [hm]
 ·rcases zg4 (A:=D) (n:=n) with ⟨h1,-,-,-⟩|⟨-,-,h4⟩|⟨-,-,-,h4⟩
  ·exact absurd h1 h
  ·rw [h4];exact ⟨hok,rfl,rfl,rfl,λm=>.inl rfl⟩
  ·rw [h4];exact ⟨hok,rfl,rfl,rfl,λm=>.inl rfl⟩
theorem Cpl.same {pre:ByteArray} {l:List SegA} {D D':DiskA} (h:Cpl pre l D) (hok:okA D') (hf:∀ m,(bl (z16 pre)).isPrefixOf (bl m)=true->(z03 D'.fs m).map Prod.fst=(z03 D.fs m).map Prod.fst):Cpl pre l D':=by
 refine ⟨hok,h.segs,λs hs=>?_,λn hn hp=>?_⟩
 ·obtain ⟨k,hk⟩:=h.has s hs
  have:=hf _ (z4k pre s.base zu)
  rw [hk] at this
  cases hq:z03 D'.fs (zo pre s.base zu) with
  | none=>rw [hq] at this;cases this
  | some q =>
   rw [hq] at this
   simp only [Option.map_some,Option.some.injEq] at this
   exact ⟨q.2,by rw [<- this]⟩
 ·refine h.only n ?_ hp
  have:=hf n hp
  cases hq:z03 D.fs n with
  | none =>
   rw [hq] at this
   cases hq2:z03 D'.fs n with
   | none=>rw [hq2] at hn;cases hn
   | some q=>rw [hq2] at this;cases this
  | some q=>rfl
theorem z8n {pre:ByteArray} {l:List SegA} {D:DiskA} (h:Cpl pre l D):Cpl pre l (z0i pre l D).2/\Fr pre D (z0i pre l D).2/\used (z0i pre l D).2.fs=used D.fs/\(z0i pre l D).2.fs.length=D.fs.length/\(Calm D->(z0i pre l D).1=0):=by
 unfold z0i
 cases hl:l.getLast? with
 | none=>exact ⟨h,.refl _ _,rfl,rfl,λ_=>rfl⟩
 | some s =>
  simp only
  obtain ⟨h1,h2,h3,h4,h5⟩:=zmj h.ok (zo pre s.base zu)
  refine ⟨h.same h1 λm hm=>?_,⟨h2,λm hm=>?_⟩,h3,h4,λhc=>?_⟩
  ·rcases h5 m with h6|⟨-,-,h6⟩
   ·rw [h6]
   ·rw [h6,Option.map_map];rfl
  ·rcases h5 m with h6|⟨h6,-,-⟩
   ·exact h6
   ·rw [h6,z4k] at hm;cases hm
  ·rcases zg4 (A:=D) (n:=zo pre s.base zu) with ⟨h6,-,-,-⟩|⟨-,h6,-⟩|⟨-,-,h6,-⟩
   ·exact h6
   ·rw [hc.gone] at h6;cases h6
   ·obtain ⟨k,hk⟩:=h.has s (List.mem_of_getLast? hl)
    rw [hk] at h6;cases h6
theorem Cpl.grow {pre:ByteArray} {l0:List SegA} {s s':SegA} {D:DiskA} {x:List UInt8} (hp:z3w pre=true) (h:Cpl pre (l0++[s]) D) (hsegs:z0a 0 (l0++[s'])) (hb:s'.base=s.base) (hx:s'.file=s.file++x) (ha:(z07 D (zo pre s.base zu) x).1=0) :
  Cpl pre (l0++[s']) (z07 D (zo pre s.base zu) x).2/\Fr pre D (z07 D (zo pre s.base zu) x).2/\used (z07 D (zo pre s.base zu) x).2.fs+z5r (l0++[s])=used D.fs+z5r (l0++[s'])/\(z07 D (zo pre s.base zu) x).2.fs.length=D.fs.length:=by
 obtain ⟨h1,h2,h3,h4,h5,h6,h7⟩:=za6 h.ok ha
 obtain ⟨k,hk⟩:=h.has s (by simp)
 obtain ⟨f1,f2,f3,f4⟩:=h.segs.front
 refine ⟨⟨h4,hsegs,λt ht=>?_,λn hn hpn=>?_⟩,⟨h5,λm hm=>?_⟩,?_,(z7g.2 (by rw [hk];rfl))⟩
 ·rcases List.mem_append.1 ht with ht|ht
  ·have hto:=(f1.mem t ht).1
   have hne:zo pre t.base zu≠zo pre s.base zu:=z7b hto f2 (by have:=(f4 t ht).2;omega)
   rw [h7,if_neg hne]
   exact h.has t (by simp [ht])
  ·simp only [List.mem_cons,List.not_mem_nil,or_false] at ht
   subst ht
   rw [hb,h7,if_pos rfl,hk,hx]
   exact ⟨k,rfl⟩
 ·rw [h7] at hn
  by_cases hm:n=zo pre s.base zu
  ·exact ⟨s',by simp,by rw [hb];exact hm⟩
  ·rw [if_neg hm] at hn
   obtain ⟨t,ht,rfl⟩:=h.only n hn hpn
   rcases List.mem_append.1 ht with ht|ht
   ·exact ⟨t,by simp [ht],rfl⟩
   ·simp only [List.mem_cons,List.not_mem_nil,or_false] at ht
    subst ht
    exact absurd rfl hm
 ·rw [h7,if_neg]
  rintro rfl
  rw [z4k] at hm;cases hm
 ·rw [h6,z7e,z7e,hx,List.length_append];omega
theorem Cpl.begin {pre:ByteArray} {l:List SegA} {s:SegA} {D:DiskA} (h:Cpl pre l D) (hsegs:z0a 0 (l++[s])) (ha:(z07 D (zo pre s.base zu) s.file).1=0) :
  Cpl pre (l++[s]) (z07 D (zo pre s.base zu) s.file).2/\Fr pre D (z07 D (zo pre s.base zu) s.file).2/\used (z07 D (zo pre s.base zu) s.file).2.fs+z5r l=used D.fs+z5r (l++[s])/\(z07 D (zo pre s.base zu) s.file).2.fs.length<=D.fs.length+1:=by
 obtain ⟨h1,h2,h3,h4,h5,h6,h7⟩:=za6 h.ok ha
 obtain ⟨f1,f2,f3,f4⟩:=hsegs.front
 have hnone:z03 D.fs (zo pre s.base zu)=none:=by
  cases hq:z03 D.fs (zo pre s.base zu) with
  | none=>rfl
  | some q =>
   obtain ⟨t,ht,e⟩:=h.only _ (by rw [hq];rfl) (z4k pre s.base zu)
   exact absurd e (z7b f2 (f1.mem t ht).1 (by have:=(f4 t ht).2;omega))
 refine ⟨⟨h4,hsegs,λt ht=>?_,λn hn hpn=>?_⟩,⟨h5,λm hm=>?_⟩,?_,z7g.1⟩
 ·rcases List.mem_append.1 ht with ht|ht
  ·have hto:=(f1.mem t ht).1
   have hne:zo pre t.base zu≠zo pre s.base zu:=z7b hto f2 (by have:=(f4 t ht).2;omega)
   rw [h7,if_neg hne]
   exact h.has t ht
  ·simp only [List.mem_cons,List.not_mem_nil,or_false] at ht
   subst ht
   rw [h7,if_pos rfl,hnone]
   exact ⟨0,rfl⟩
 ·rw [h7] at hn
  by_cases hm:n=zo pre s.base zu
  ·exact ⟨s,by simp,hm⟩
  ·rw [if_neg hm] at hn
   obtain ⟨t,ht,rfl⟩:=h.only n hn hpn
   exact ⟨t,by simp [ht],rfl⟩
 ·rw [h7,if_neg]
  rintro rfl
  rw [z4k] at hm;cases hm
 ·rw [h6,z7e];omega
def Stp (pre:ByteArray) (l:List SegA) (D:DiskA) (l':List SegA) (D':DiskA):Prop :=
 Cpl pre l' D'/\Fr pre D D'/\used D'.fs+z5r l=used D.fs+z5r l'/\D'.fs.length+l.length<=D.fs.length+l'.length/\(Calm D->Calm D')
theorem Stp.same {pre:ByteArray} {l:List SegA} {D:DiskA} (h:Cpl pre l D):Stp pre l D l D:=⟨h,.refl _ _,rfl,Nat.le_refl _,id⟩
theorem Stp.trans {pre:ByteArray} {l l' l'':List SegA} {D D' D'':DiskA} (h1:Stp pre l D l' D') (h2:Stp pre l' D' l'' D''):Stp pre l D l'' D'' :=
 ⟨h2.1,h1.2.1.trans h2.2.1,by have:=h1.2.2.1;have:=h2.2.2.1;omega,by have:=h1.2.2.2.1;have:=h2.2.2.2.1;omega,λh=>h2.2.2.2.2 (h1.2.2.2.2 h)⟩
theorem zw9 {pre:ByteArray} {l:List SegA} {D:DiskA} (h:Cpl pre l D):Stp pre l D l (z0i pre l D).2:=by
 obtain ⟨h1,h2,h3,h4,-⟩:=z8n h
 exact ⟨h1,h2,by omega,by omega,λhc=>zsb hc _ _⟩
theorem zg3 (n:Int) (bs:List BatM):(SegA.add ⟨n,0,[]⟩ bs).file=shL n 0++bs.flatMap frL:=by
 rw [z72];simp [SegA.file]
theorem zfp {pre:ByteArray} (seg:Int) {l:List SegA} {D:DiskA} (bs:List BatM) (hp:z3w pre=true) (h:Cpl pre l D):Stp pre l D (z0v pre seg l D bs).2.1 (z0v pre seg l D bs).2.2:=by
 have hsegs:=zaf (seg:=seg) (bs:=bs) h.segs
 unfold z0v
 unfold z1e at hsegs
 split
 ·exact .same h
 rename_i hb
 rw [if_neg hb] at hsegs
 split
 ·exact .same h
 rename_i hpl
 rw [if_neg hpl] at hsegs
 simp only at hsegs
 split
 ·rename_i hr
  rw [if_pos hr] at hsegs
  have hne:l≠[]:=by rintro rfl;cases hr
  obtain ⟨l0,s,rfl⟩:=z3d hne
  rw [zgd]
  rw [z3s] at hsegs
  split
  ·rename_i he
   simp only
   rw [z91 he]
   exact .same h
  ·rename_i he
   have he:=Decidable.not_not.1 he
   simp only
   rw [z3s]
   obtain ⟨c1,c2,c3,c4⟩:=h.grow hp hsegs rfl (z72 _ _) he
   exact ⟨c1,c2,c3,by rw [List.length_append,List.length_append];simp;omega,λhc=>zkj hc _ _⟩
 ·rename_i hr
  rw [if_neg hr] at hsegs
  have hst:=zw9 h
  split
  ·exact hst
  split
  ·rename_i he
   simp only
   rw [z91 he]
   exact hst
  ·rename_i he
   have he:=Decidable.not_not.1 he
   simp only
   rw [<- zg3] at he ⊢
   obtain ⟨c1,c2,c3,c4⟩:=hst.1.begin (s:=SegA.add ⟨zt l,0,[]⟩ (zx (zt l) bs).2) hsegs he
   refine hst.trans ⟨c1,c2,c3,?_,λhc=>zkj hc _ _⟩
   rw [List.length_append,List.length_singleton]
   have c4:(z07 (z0i pre l D).2 (zo pre (zt l) zu) _).2.fs.length<=_:=c4
   omega
theorem zdo:∀ {xs ys:List ByteArray},xs.Pairwise (λa b=>ltS a b=true)->ys.Pairwise (λa b=>ltS a b=true)->(∀ n,n ∈ xs↔n ∈ ys)->xs=ys
 | [],[],_,_,_=>rfl
 | [],y::ys,_,_,h=>absurd ((h y).2 (List.mem_cons_self ..)) (by simp)
 | x::xs,[],_,_,h=>absurd ((h x).1 (List.mem_cons_self ..)) (by simp)
 | x::xs,y::ys,hx,hy,h=>by
  rw [List.pairwise_cons] at hx hy
  have hxy:x=y:=by
   rcases List.mem_cons.1 ((h x).1 (List.mem_cons_self ..)) with h1|h1
   ·exact h1
   ·rcases List.mem_cons.1 ((h y).2 (List.mem_cons_self ..)) with h2|h2
    ·exact h2.symm
    ·have h3:=hy.1 x h1
     have h4:=hx.1 y h2
     rw [zwa h3] at h4
     cases h4
  subst hxy
  congr 1
  refine zdo hx.2 hy.2 λn=>?_
  constructor
  ·intro hn
   rcases List.mem_cons.1 ((h n).1 (List.mem_cons_of_mem _ hn)) with h1|h1
   ·subst h1
    have:=hx.1 n hn
    rw [z95] at this;cases this
   ·exact h1
  ·intro hn
   rcases List.mem_cons.1 ((h n).2 (List.mem_cons_of_mem _ hn)) with h1|h1
   ·subst h1
    have:=hy.1 n hn
    rw [z95] at this;cases this
   ·exact h1
theorem zqp (p s:ByteArray):Go.Proofs.YtgpcickgjngglaaGreat.preF p s=(bl p).isPrefixOf (bl s):=by
 unfold Go.Proofs.YtgpcickgjngglaaGreat.preF
 rw [ByteArray.toList_eq,ByteArray.toList_eq]
theorem zj6 {D:DiskA} {pre n:ByteArray}:n ∈ z0y (z16 pre) D.fs↔(z03 D.fs n).isSome=true/\(bl (z16 pre)).isPrefixOf (bl n)=true:=by
 unfold z0y
 rw [List.mem_filter,<- z4f,z64,zqp]
 constructor
 ·rintro ⟨h1,h2⟩
  obtain ⟨f,hf,rfl⟩:=List.mem_map.1 h1
  exact ⟨⟨f,hf,rfl⟩,h2⟩
 ·rintro ⟨⟨f,hf,rfl⟩,h2⟩
  exact ⟨List.mem_map.2 ⟨f,hf,rfl⟩,h2⟩
theorem zdf {D:DiskA} (hok:okA D) (p:ByteArray):(z0y p D.fs).Pairwise λa b=>ltS a b=true:=by
 unfold z0y
 exact ((List.pairwise_map.2 hok.sorted).filter _)
theorem zas (pre:ByteArray):∀ {n:Int} {l:List SegA},z0a n l->(l.map λs=>zo pre s.base zu).Pairwise λa b=>ltS a b=true
 | _,[],_=>List.Pairwise.nil
 | n,s::l,⟨h1,h2,h3⟩=>by
  rw [List.map_cons,List.pairwise_cons]
  refine ⟨λm hm=>?_,zas pre h3⟩
  obtain ⟨t,ht,rfl⟩:=List.mem_map.1 hm
  have h4:=h3.mem t ht
  have:=h2.base
  have:=h4.1.base
  exact (zwb pre (by omega) (by omega) zu).2 (by omega)
theorem Cpl.names {pre:ByteArray} {l:List SegA} {D:DiskA} (h:Cpl pre l D):z0y (z16 pre) D.fs=l.map λs=>zo pre s.base zu:=by
 refine zdo (zdf h.ok _) (zas pre h.segs) λn=>?_
 rw [zj6]
 constructor
 ·rintro ⟨h1,h2⟩
  obtain ⟨s,hs,rfl⟩:=h.only n h1 h2
  exact List.mem_map.2 ⟨s,hs,rfl⟩
 ·intro hn
  obtain ⟨s,hs,rfl⟩:=List.mem_map.1 hn
  obtain ⟨k,hk⟩:=h.has s hs
  exact ⟨by rw [hk];rfl,z4k pre s.base zu⟩
theorem zbr (pre:ByteArray) (D:DiskA):∀ {l:List SegA},(∀ s ∈ l,SegOk s)->z0s pre (l.map λs=>zo pre s.base zu) D=(0,l.map SegA.base,D)
 | [],_=>rfl
 | s::l,h=>by
  have hb:=(h s (List.mem_cons_self ..)).base
  have h1:z1c pre (zo pre s.base zu) zu=some s.base.toNat:=zec pre (by omega) zu
  have h2:z1c pre (zo pre s.base zu) z80=none:=zie h1 (by decide)
  rw [List.map_cons]
  unfold z0s
  rw [h2]
  rw [if_neg (by rintro ⟨h3,-⟩;cases h3)]
  simp only [Option.isSome_none,Bool.false_eq_true,if_false]
  rw [zbr pre D λt ht=>h t (List.mem_cons_of_mem _ ht),h1]
  simp only [List.map_cons]
  have e:((s.base.toNat:Nat):Int)=s.base:=by omega
  rw [e]
  rfl
theorem zgz {pre:ByteArray} {D:DiskA}:∀ {l l1:List SegA},z0a 0 (l1++l)->(∀ s ∈ l,∃ k,z03 D.fs (zo pre s.base zu)=some (s.file,k))->z21 pre (l.map SegA.base) l1 D=(0,l1++l,D)
 | [],l1,_,_=>by unfold z21;simp
 | s::l,l1,hok,hh=>by
  rw [List.map_cons]
  unfold z21
  have hok2:z0a 0 ((l1++[s])++l):=by rwa [List.append_assoc]
  have hs:SegOk s:=(hok.mem s (by simp)).1
  obtain ⟨k,hk⟩:=hh s (List.mem_cons_self ..)
  have hb:¬ s.base<zt l1:=by
   have:=hs.base
   by_cases h0:l1=[]
   ·subst h0;show ¬ s.base<0;omega
   ·obtain ⟨l0,t,rfl⟩:=z3d h0
    rw [z37]
    have h1:=hok.skip l0.length (l0.length+1) (by simp) (by omega)
    have e1:(l0++[t]++s::l)[l0.length]'(by simp)=t:=by simp
    have e2:(l0++[t]++s::l)[l0.length+1]'(by simp)=s:=by
     rw [List.getElem_append_right (by simp)];simp
    rw [e1,e2] at h1
    omega
  have hsc:z1m pre l1 D s.base=((true,0),l1++[s],D):=by
   unfold z1m
   rw [hk]
   simp only
   rw [zjj hs]
   simp only
   rw [if_pos trivial]
  rw [if_neg hb,hsc,if_neg (by simp),if_pos rfl]
  simp only
  rw [zgz hok2 λt ht=>hh t (List.mem_cons_of_mem _ ht),List.append_assoc]
  rfl
theorem Cpl.opened {pre:ByteArray} {l:List SegA} {D:DiskA} (h:Cpl pre l D):z4i pre D=(0,l,D):=by
 unfold z4i
 rw [h.names,zbr pre D λs hs=>(h.segs.mem s hs).1]
 rw [if_neg (by simp)]
 simp only
 have:=zgz (pre:=pre) (D:=D) (l:=l) (l1:=[]) h.segs h.has
 rw [this]
 rfl
theorem Cpl.frame {pre q:ByteArray} {l:List SegA} {D D':DiskA} (h:Cpl q l D) (hok:okA D') (hp:z3w pre=true) (hq:z3w q=true) (hne:pre≠q) (hf:Fr pre D D'):Cpl q l D' :=
 h.same hok λm hm=>by
  rw [hf.other m ?_]
  cases hx:(bl (z16 pre)).isPrefixOf (bl m) with
  | false=>rfl
  | true=>exact absurd (zxx hp hq hx hm) hne
theorem zvm (pre:ByteArray) (n:Nat) (hn:n<=4194304):Cpl pre [] ⟨n,-1,false,[]⟩ :=
 ⟨⟨hn,by show (0:Nat)<=_;omega,by show (0:Nat)<=_;omega,by show -1<=(-1:Int)/\(-1:Int)<=_;omega,List.Pairwise.nil,(λf h=>by cases h),λf h=>by cases h⟩,trivial,(λs h=>by cases h),λn h=>by cases h⟩
structure SegR where
 base:Int
 fin:Int
 x:Sl
 bs:List BatM
structure RefM where
 seg:Int
 gap:Int
 SR:List SegR
def SegR.p (s:SegR):SegA:=⟨s.base,s.fin,s.bs.map BatM.p⟩
def RefM.l (R:RefM):List SegA:=R.SR.map SegR.p
def RefM.bs (R:RefM):List BatM:=R.SR.flatMap SegR.bs
def zgh (s:SegR):List Value:=[.int .i64 s.base,.int .i64 s.fin,.slice s.x.a s.x.len s.x.cap]
instance:EncA zgh [.int .i64,.int .i64,.slc] (λs=>(s.base,s.fin,s.x,())):=⟨λ_=>rfl⟩
instance:EncN zgh 3:=⟨λ_=>rfl,by decide,by simp [zgh,Value.oneCell']⟩
instance:EncF zgh 0 (.int .i64) (λs=>s.base):=⟨λ_=>rfl⟩
section
variable {w:World} {l r:List HP} {a:Nat} {R:RefM}
theorem zg9:z06 R.l=R.bs.map BatM.p:=by
 unfold z06 RefM.l RefM.bs
 rw [List.flatMap_map,List.map_flatMap]
 rfl
class okR (R:RefM) (l:List HP):Prop where
 segs:z0a 0 R.l
 rd:∀ b ∈ R.bs,FocR l b.x 4 (b.rs.flatMap z00)
 len:R.SR.length<=1000000
 all:R.bs.length<=1000000
theorem okR.valid {L:List HP} (h:okR R L):∀ s ∈ R.SR,SegOk s.p/\(∀ b ∈ s.bs,z04 b=0/\FocR L b.x 4 (b.rs.flatMap z00))/\s.bs.length<=1000000:=λs hs=>by
 have h1:=(h.segs.mem s.p (List.mem_map.2 ⟨s,hs,rfl⟩)).1
 refine ⟨h1,λb hb=>⟨(h1.bs.valid b.p (List.mem_map.2 ⟨b,hb,rfl⟩)).1,h.rd b (List.mem_flatMap.2 ⟨s,hs,hb⟩)⟩,?_⟩
 refine Nat.le_trans ?_ h.all
 obtain ⟨u,v,huv⟩:=List.append_of_mem hs
 unfold RefM.bs
 rw [huv]
 simp only [List.flatMap_append,List.flatMap_cons,List.length_append]
 omega
instance okR.cons {H:HP} {L:List HP} [h:okR R L]:okR R (H::L):=⟨h.segs,λb hb=>by have:=h.rd b hb;infer_instance,h.len,h.all⟩
end
instance:EncF z00 0 .str (λr=>r.key):=⟨λ_=>rfl⟩
section
variable {w:World} {l r:List HP} {a:Nat} {R:RefM} {z:Sl} {g1 g2:Int}
theorem okR.base {L:List HP} (h:okR R L):∀ s ∈ R.SR,0<=s.base/\s.base<=1099511627776:=λs hs=>(h.valid s hs).1.base
end
instance:EncF zgh 2 .slc (λs=>s.x):=⟨λ_=>rfl⟩
def SegR.add (s:SegR) (z:Sl) (q:List BatM):SegR:=⟨s.base,s.fin,z,s.bs++q⟩
def zbe (t:ByteArray):ByteArray:=if t.size>30 then t.extract 0 30 else t
def zme (r:RecM):RecM:=⟨zbe r.key,zbe r.value,r.gone,r.time⟩
def z0e (b:BatM):BatM:=⟨b.base,b.pid,b.epoch,b.seq,b.kind,b.time,z7k,(b.rs.take 6).map zme⟩
theorem zes (t:ByteArray):(zbe t).size<=30:=by
 unfold zbe
 split
 ·rw [ByteArray.size_extract];omega
 ·omega
theorem zwy (b:BatM) (n:Int) (z:Sl):2<=(z2j (((z0e b).at z).to n)).length/\(z2j (((z0e b).at z).to n)).length<=668:=by
 have h:=zpr (b:=((z0e b).at z).to n) (n:=60) λr hr=>by
  obtain ⟨q,-,rfl⟩:=List.mem_map.1 (show r ∈ (b.rs.take 6).map zme from hr)
  have h1:=zes q.key
  have h2:=zes q.value
  show (zbe q.key).size+(zbe q.value).size<=60
  omega
 have h3:(((z0e b).at z).to n).rs.length<=6:=by
  show ((b.rs.take 6).map zme).length<=6
  rw [List.length_map,List.length_take];omega
 omega
abbrev cZ (b:BatM) (z:Sl):Array Value:=#[.int .i64 b.base,.int .i64 b.pid,.int .i64 b.epoch,.int .i64 b.seq,.int .i64 b.kind,.int .i64 b.time,.slice z.a z.len z.cap]
theorem zjo {nm:SegA->ByteArray}:∀ {fs:List FileA} {l:List SegA},fs.map (·.name)=l.map nm->(∀ f ∈ fs,∀ s ∈ l,f.name=nm s->f.b=s.file)->used fs=z5r l
 | [],[],_,_=>rfl
 | [],s::l,h,_=>by simp at h
 | f::fs,[],h,_=>by simp at h
 | f::fs,s::l,h,hh=>by
  rw [List.map_cons,List.map_cons,List.cons.injEq] at h
  have h1:=hh f (List.mem_cons_self ..) s (List.mem_cons_self ..) h.1
  have h2:=zjo h.2 λf hf s hs=>hh f (List.mem_cons_of_mem _ hf) s (List.mem_cons_of_mem _ hs)
  rw [z1g,h2,h1]
  simp [z5r]
theorem Cpl.sizes {pre:ByteArray} {l:List SegA} {D:DiskA} (h:Cpl pre l D):l.length<=D.fs.length/\z5r l<=used D.fs:=by
 have hn:=h.names
 have e:(D.fs.filter λf=>(bl (z16 pre)).isPrefixOf (bl f.name)).map (·.name)=l.map λs=>zo pre s.base zu:=by
  rw [<- hn]
  unfold z0y
  rw [List.filter_map]
  congr 1
  apply List.filter_congr
  intro f _
  show _=Go.Proofs.YtgpcickgjngglaaGreat.preF (z16 pre) f.name
  rw [zqp]
 have hs:=zjo e λf hf s hs hfs=>by
  have h1:=zcy (z2q h.ok.sorted) (List.mem_filter.1 hf).1
  obtain ⟨k,hk⟩:=h.has s hs
  rw [hfs,hk] at h1
  simp only [Option.some.injEq,Prod.mk.injEq] at h1
  exact h1.1.symm
 have hl:=congrArg List.length e
 rw [List.length_map,List.length_map] at hl
 exact ⟨by rw [<- hl];exact List.length_filter_le _ _,by rw [<- hs];exact zg7 List.filter_sublist⟩
theorem zr2:∀ {n:Int} {l:List SegA},z0a n l->(z06 l).length*10<=z5r l
 | _,[],_=>Nat.le_refl _
 | n,s::l,⟨h1,h2,h3⟩=>by
  have h4:=zr2 h3
  have h5:=zhl h2
  have e1:z06 (s::l)=s.bs++z06 l:=by simp [z06]
  have e2:z5r (s::l)=s.file.length+z5r l:=by simp [z5r]
  rw [e1,e2,List.length_append]
  omega
theorem Cpl.len {pre:ByteArray} {l:List SegA} {D:DiskA} (h:Cpl pre l D):l.length<=128/\(z06 l).length<=500000/\∀ s ∈ l,s.file.length<=4194304:=by
 obtain ⟨h1,h2⟩:=h.sizes
 have h3:=zr2 h.segs
 have h4:=h.ok.many
 have h5:=h.ok.used
 refine ⟨by omega,by omega,λs hs=>?_⟩
 obtain ⟨k,hk⟩:=h.has s hs
 exact Nat.le_trans (zdp hk) h5
theorem zn0 (b:BatM) (z:Sl) (n:Int):((zx n [(z0e b).at z]).2.flatMap frL).length<=676:=by
 unfold zx
 split
 ·exact Nat.zero_le _
 ·rename_i hv
  have hv:=Decidable.not_not.1 hv
  split
  ·exact Nat.zero_le _
  ·show ((((z0e b).at z).to n)::(zx _ []).2 |>.flatMap frL).length<=676
   have h1:=zwy b n z
   have h2:=z56 hv
   simp only [zx,List.flatMap_cons,List.flatMap_nil,List.append_nil]
   omega
theorem zzt {seg:Int} {l:List SegA} {bs:List BatM}:z5r (z1e seg l bs).2<=z5r l+((zx (zt l) bs).2.flatMap frL).length+29:=by
 unfold z1e
 split
 ·simp only;omega
 split
 ·simp only;omega
 simp only
 split
 ·rename_i hr
  have hne:l≠[]:=by rintro rfl;cases hr
  obtain ⟨l0,s,rfl⟩:=z3d hne
  rw [z3s,z7e,z7e,z72,List.length_append]
  omega
 ·have:=zi2 (zt l) 0
  rw [z7e,zg3,List.length_append]
  omega
theorem zss (seg:Int) (l:List SegA) (b:BatM) (z1 z2:Sl):z1e seg l [(z0e b).at z1]=z1e seg l [(z0e b).at z2]:=by
 rw [<- zm0,<- zm0 seg l [(z0e b).at z2]]
 rfl
theorem z2u (l:List SegA) (s:SegA):z06 (l++[s])=z06 l++s.bs:=by simp [z06]
theorem zwf {a b:List BatM} (h:b≠[]):z0d (a++b)=z0d b:=by
 obtain ⟨b0,x,rfl⟩:=z3d h
 rw [<- List.append_assoc,z3n,z3n]
theorem zfx {seg:Int} {l:List SegA} {bs:List BatM} (hok:z0a 0 l) (hb:bs≠[]) (hp:(zx (zt l) bs).1=0) :
  z06 (z1e seg l bs).2=z06 l++(zx (zt l) bs).2.map BatM.p/\zt (z1e seg l bs).2=z0d ((zx (zt l) bs).2.map BatM.p):=by
 have hq1:=(zdj hp).1
 have hq:(zx (zt l) bs).2.map BatM.p≠[]:=by
  intro h
  have:=List.map_eq_nil_iff.1 h
  rw [this] at hq1
  exact hb (List.length_eq_zero_iff.1 hq1.symm)
 have hnx:=hok.next (Int.le_refl 0)
 have hlt:=((zae hnx.1 hp).1.next hnx.1).1 hq
 unfold z1e
 rw [if_neg hb,if_neg (by rw [hp];simp)]
 simp only
 split
 ·rename_i hr
  have hne:l≠[]:=by rintro rfl;cases hr
  obtain ⟨l0,s,rfl⟩:=z3d hne
  rw [z3s,z2u,z2u,z37]
  refine ⟨by simp [SegA.add],?_⟩
  have hsr:=z5h hok.front.2.1
  rw [z37] at hlt hq ⊢
  show max (max s.base s.fin) (z0d (s.bs++_))=_
  rw [zwf hq]
  omega
 ·rw [z2u,z37]
  refine ⟨by simp [SegA.add],?_⟩
  show max (max (zt l) 0) (z0d ([]++_))=_
  rw [List.nil_append]
  omega
theorem zfy {seg:Int} {l:List SegA} {bs:List BatM} (h:bs=[]\/(zx (zt l) bs).1≠0):(z1e seg l bs).2=l/\(z1e seg l bs).1.2≠0:=by
 unfold z1e
 by_cases hb:bs=[]
 ·rw [if_pos hb];exact ⟨rfl,by simp⟩
 ·rw [if_neg hb]
  rcases h with h|h
  ·exact absurd h hb
  ·rw [if_pos h];exact ⟨rfl,h⟩
def z9t (seg:Int) (bs:List BatM):List SegA:=bs.foldl (λl b=>(z1e seg l [b]).2) []
theorem zn2 (seg:Int) (bs:List BatM) (b:BatM):z9t seg (bs++[b])=(z1e seg (z9t seg bs) [b]).2:=by
 unfold z9t
 rw [List.foldl_append]
 rfl
theorem zjd (b:BatM) (n:Int) (h:(zx n [b]).1=0):(zx n [b]).2=[b.to n]:=by
 unfold zx at h ⊢
 split at h
 ·rename_i h1;exact absurd h h1
 ·rename_i h1
  rw [if_neg h1]
  split at h
  ·rename_i h2;exact absurd rfl h2
  ·rename_i h2;rw [if_neg h2];rfl
theorem z04e (seg:Int) (l:List SegA) (b:BatM):z1e seg l [(b.to (zt l)).p]=z1e seg l [b]:=by
 rw [<- zm0 seg l [b]]
 have e:zx (zt l) [(b.to (zt l)).p]=zx (zt l) ([b].map BatM.p):=rfl
 unfold z1e
 rw [e]
 rfl
def z8u (pre:ByteArray) (l:List SegA) (D:DiskA) (n:Nat):Prop:=n<=(z06 l).length/\∀ l0 t,l=l0++[t]->(∀ s ∈ l0,z03 D.fs (zo pre s.base zu)=some (s.file,s.file.length)) /\
 ∃ k,z03 D.fs (zo pre t.base zu)=some (t.file,k)/\∀ j,1<=j->j<=t.bs.length->(z06 l0).length+j<=n->(t.cut j).file.length<=k
theorem zc8 {α:Type} {a b:List α} {x y:α} (h:a++[x]=b++[y]):a=b/\x=y:=by
 have:=List.append_inj' h rfl
 exact ⟨this.1,by simpa using this.2⟩
theorem zeh (t:SegA) (j:Nat):(t.cut j).file.length<=t.file.length:=by
 rw [z2l,z2l]
 show (shL t.base t.fin).length+((t.bs.take j).flatMap frL).length<=_
 have:t.bs.flatMap frL=(t.bs.take j).flatMap frL++(t.bs.drop j).flatMap frL:=by rw [<- List.flatMap_append,List.take_append_drop]
 rw [this,List.length_append];omega
theorem z8u.sync {pre:ByteArray} {l:List SegA} {D:DiskA} {n:Nat} (h:z8u pre l D n) (hc:Cpl pre l D):z8u pre l (z0i pre l D).2 n/\((z0i pre l D).1=0->z8u pre l (z0i pre l D).2 (z06 l).length /\
  ∀ s ∈ l,z03 (z0i pre l D).2.fs (zo pre s.base zu)=some (s.file,s.file.length)):=by
 by_cases h0:l=[]
 ·subst h0
  exact ⟨h,λ_=>⟨⟨Nat.le_refl _,λl0 t e=>by simp at e⟩,λs hs=>by cases hs⟩⟩
 obtain ⟨l0,t,rfl⟩:=z3d h0
 have e:z0i pre (l0++[t]) D=z1r D [zo pre t.base zu]:=by unfold z0i;rw [z1s]
 rw [e]
 obtain ⟨h1,k,h2,h3⟩:=h.2 l0 t rfl
 obtain ⟨-,-,-,-,h5⟩:=zmj hc.ok (zo pre t.base zu)
 obtain ⟨f1,f2,f3,f4⟩:=hc.segs.front
 have hold:∀ s ∈ l0,z03 (z1r D [zo pre t.base zu]).2.fs (zo pre s.base zu)=some (s.file,s.file.length):=λs hs=>by
  rcases h5 (zo pre s.base zu) with h6|⟨h6,-,-⟩
  ·rw [h6];exact h1 s hs
  ·exact absurd h6 (z7b (f1.mem s hs).1 f2 (by have:=(f4 s hs).2;omega))
 constructor
 ·refine ⟨h.1,λl0' t' e'=>?_⟩
  obtain ⟨rfl,rfl⟩:=zc8 e'
  refine ⟨hold,?_⟩
  rcases h5 (zo pre t.base zu) with h6|⟨-,-,h6⟩
  ·rw [h6];exact ⟨k,h2,h3⟩
  ·rw [h6,h2]
   exact ⟨t.file.length,rfl,λj h7 h8 h9=>zeh _ _⟩
 ·intro h0
  have hnew:z03 (z1r D [zo pre t.base zu]).2.fs (zo pre t.base zu)=some (t.file,t.file.length):=by
   obtain ⟨-,-,-,-,-,h7⟩:=zr4 hc.ok h0
   rw [h7,h2];simp
  refine ⟨⟨Nat.le_refl _,λl0' t' e'=>?_⟩,λs hs=>?_⟩
  ·obtain ⟨rfl,rfl⟩:=zc8 e'
   exact ⟨hold,t.file.length,hnew,λj _ _ _=>zeh _ _⟩
  ·rcases List.mem_append.1 hs with hs|hs
   ·exact hold s hs
   ·simp only [List.mem_cons,List.not_mem_nil,or_false] at hs
    subst hs;exact hnew
theorem z8u.begin {pre:ByteArray} {l:List SegA} {s:SegA} {D:DiskA} {n:Nat} (h:z8u pre l D n) (hc:Cpl pre l D) (hsegs:z0a 0 (l++[s])) (hall:∀ t ∈ l,z03 D.fs (zo pre t.base zu)=some (t.file,t.file.length)) (ha:(z07 D (zo pre s.base zu) s.file).1=0):z8u pre (l++[s]) (z07 D (zo pre s.base zu) s.file).2 n:=by
 obtain ⟨-,-,-,-,-,-,h7⟩:=za6 hc.ok ha
 obtain ⟨f1,f2,f3,f4⟩:=hsegs.front
 have hn:=h.1
 have hnone:z03 D.fs (zo pre s.base zu)=none:=by
  cases hq:z03 D.fs (zo pre s.base zu) with
  | none=>rfl
  | some q =>
   obtain ⟨t,ht,e⟩:=hc.only _ (by rw [hq];rfl) (z4k pre s.base zu)
   exact absurd e (z7b f2 (f1.mem t ht).1 (by have:=(f4 t ht).2;omega))
 refine ⟨by rw [z2u,List.length_append];omega,λl0' t' e'=>?_⟩
 obtain ⟨rfl,rfl⟩:=zc8 e'
 refine ⟨λt ht=>?_,0,?_,λj j1 j2 j3=>?_⟩
 ·rw [h7,if_neg (z7b (f1.mem t ht).1 f2 (by have:=(f4 t ht).2;omega))]
  exact hall t ht
 ·rw [h7,if_pos rfl,hnone]
  rfl
 ·omega
theorem z8u.app {pre:ByteArray} {seg:Int} {l:List SegA} {D:DiskA} {bs:List BatM} {n:Nat} (hp:z3w pre=true) (h:z8u pre l D n) (hc:Cpl pre l D):z8u pre (z0v pre seg l D bs).2.1 (z0v pre seg l D bs).2.2 n:=by
 have hsegs:=zaf (seg:=seg) (bs:=bs) hc.segs
 unfold z0v
 unfold z1e at hsegs
 split
 ·exact h
 rename_i hb
 rw [if_neg hb] at hsegs
 split
 ·exact h
 rename_i hpl
 rw [if_neg hpl] at hsegs
 simp only at hsegs
 split
 ·rename_i hr
  have hne:l≠[]:=by rintro rfl;cases hr
  obtain ⟨l0,t,rfl⟩:=z3d hne
  rw [zgd]
  split
  ·rename_i he
   simp only
   rw [z91 he];exact h
  ·rename_i he
   have he:=Decidable.not_not.1 he
   simp only
   rw [z3s]
   obtain ⟨h1,k,h2,h3⟩:=h.2 l0 t rfl
   obtain ⟨-,-,-,-,-,-,h7⟩:=za6 hc.ok he
   obtain ⟨f1,f2,f3,f4⟩:=hc.segs.front
   have hn:=h.1
   rw [z2u,List.length_append] at hn
   refine ⟨by rw [z2u,List.length_append];simp only [SegA.add,List.length_append];omega,λl0' t' e'=>?_⟩
   obtain ⟨rfl,rfl⟩:=zc8 e'
   refine ⟨λs hs=>?_,k,?_,λj j1 j2 j3=>?_⟩
   ·rw [h7,if_neg (z7b (f1.mem s hs).1 f2 (by have:=(f4 s hs).2;omega))]
    exact h1 s hs
   ·show z03 _ (zo pre t.base zu)=_
    rw [h7,if_pos rfl,h2,z72]
    rfl
   ·have hj:j<=t.bs.length:=by omega
    have e:(t.add (zx (zt (l0++[t])) bs).2).cut j=t.cut j:=by
     unfold SegA.cut SegA.add
     simp only
     rw [List.take_append_of_le_length hj]
    rw [e]
    exact h3 j j1 hj j3
 ·rename_i hr
  obtain ⟨hs1,hs2⟩:=h.sync hc
  split
  ·exact hs1
  rename_i hse
  have hse:=Decidable.not_not.1 hse
  split
  ·rename_i he
   simp only
   rw [z91 he];exact hs1
  ·rename_i he
   have he:=Decidable.not_not.1 he
   rw [if_neg hr] at hsegs
   simp only
   obtain ⟨hs3,hs4⟩:=hs2 hse
   rw [<- zg3] at he ⊢
   exact hs1.begin (s:=SegA.add ⟨zt l,0,[]⟩ (zx (zt l) bs).2) (z8n hc).1 hsegs hs4 he
structure CutP (pre:ByteArray) (l0:List SegA) (t:SegA) (k:Nat) (D:DiskA):Prop where
 ok:okA D
 segs:z0a 0 (l0++[t])
 old:∀ s ∈ l0,z03 D.fs (zo pre s.base zu)=some (s.file,s.file.length)
 last:z03 D.fs (zo pre t.base zu)=some (t.file.take k,k)
 le:k<=t.file.length
 only:∀ n,(z03 D.fs n).isSome=true->(bl (z16 pre)).isPrefixOf (bl n)=true->∃ s ∈ l0++[t],n=zo pre s.base zu
theorem CutP.fs {pre:ByteArray} {l0:List SegA} {t:SegA} {k:Nat} {D D':DiskA} (h:CutP pre l0 t k D) (hok:okA D') (e:D'.fs=D.fs):CutP pre l0 t k D' :=
 ⟨hok,h.segs,by rw [e];exact h.old,by rw [e];exact h.last,h.le,by rw [e];exact h.only⟩
theorem zyp {pre:ByteArray} {l:List SegA} {D:DiskA} (hok:okA D) (hsegs:z0a 0 l) (hex:∀ s ∈ l,(z03 D.fs (zo pre s.base zu)).isSome=true) (only:∀ n,(z03 D.fs n).isSome=true->(bl (z16 pre)).isPrefixOf (bl n)=true->∃ s ∈ l,n=zo pre s.base zu):z0y (z16 pre) D.fs=l.map λs=>zo pre s.base zu:=by
 refine zdo (zdf hok _) (zas pre hsegs) λn=>?_
 rw [zj6]
 constructor
 ·rintro ⟨h1,h2⟩
  obtain ⟨s,hs,rfl⟩:=only n h1 h2
  exact List.mem_map.2 ⟨s,hs,rfl⟩
 ·intro hn
  obtain ⟨s,hs,rfl⟩:=List.mem_map.1 hn
  exact ⟨hex s hs,z4k pre s.base zu⟩
theorem zif {l1 l:List SegA} {s:SegA} (hok:z0a 0 (l1++s::l)):¬ s.base<zt l1:=by
 have hs:SegOk s:=(hok.mem s (by simp)).1
 have:=hs.base
 by_cases h0:l1=[]
 ·subst h0;show ¬ s.base<0;omega
 ·obtain ⟨l0,t,rfl⟩:=z3d h0
  rw [z37]
  have h1:=hok.skip l0.length (l0.length+1) (by simp) (by omega)
  have e1:(l0++[t]++s::l)[l0.length]'(by simp)=t:=by simp
  have e2:(l0++[t]++s::l)[l0.length+1]'(by simp)=s:=by
   rw [List.getElem_append_right (by simp)];simp
  rw [e1,e2] at h1
  omega
theorem zj9 {pre:ByteArray} {D:DiskA} {rest:List Int}:∀ {l l1:List SegA},z0a 0 (l1++l)->(∀ s ∈ l,∃ k,z03 D.fs (zo pre s.base zu)=some (s.file,k))->z21 pre (l.map SegA.base++rest) l1 D=z21 pre rest (l1++l) D
 | [],l1,_,_=>by simp
 | s::l,l1,hok,hh=>by
  rw [List.map_cons,List.cons_append]
  have hok2:z0a 0 ((l1++[s])++l):=by rwa [List.append_assoc]
  have hs:SegOk s:=(hok.mem s (by simp)).1
  obtain ⟨k,hk⟩:=hh s (List.mem_cons_self ..)
  have hsc:z1m pre l1 D s.base=((true,0),l1++[s],D):=by
   unfold z1m
   rw [hk]
   simp only
   rw [zjj hs]
   simp only
   rw [if_pos trivial]
  have e:z21 pre (s.base::(l.map SegA.base++rest)) l1 D=z21 pre (l.map SegA.base++rest) (l1++[s]) D:=by
   rw [z21]
   rw [if_neg (zif hok),hsc,if_neg (by simp),if_pos rfl]
  rw [e,zj9 hok2 λt ht=>hh t (List.mem_cons_of_mem _ ht),List.append_assoc]
  rfl
theorem zex {g:FileA->FileA} (hg:∀ f,(g f).b.length<=f.b.length):∀ fs:List FileA,used (fs.map g)<=used fs
 | []=>Nat.le_refl _
 | f::fs=>by
  have:=zex hg fs
  have:=hg f
  rw [List.map_cons,z1g,z1g]
  omega
theorem zxw (A:DiskA) (n:ByteArray) (k:Int):used (cutA' A n k).2.fs<=used A.fs:=by
 unfold cutA'
 split
 ·exact Nat.le_refl _
 split
 ·exact Nat.le_refl _
 split
 ·exact Nat.le_refl _
 ·show used (z2e _).fs<=_
  rw [z3e]
  refine zex (λf=>?_) _
  unfold z1o
  split
  ·show (f.b.take _).length<=_;rw [List.length_take];omega
  ·exact Nat.le_refl _
theorem zxv {D:DiskA} (h:Calm D) (n:ByteArray) (k:Int):Calm (cutA' D n k).2:=by
 unfold cutA'
 split
 ·exact h
 split
 ·exact h
 split
 ·exact h
 ·show Calm (z2e _)
  rw [za7 (by exact h.left)]
  exact ⟨h.gone,h.left⟩
theorem zwq {t:SegA} (ht:SegOk t) (j:Nat):(t.cut j).reach<=t.reach:=by
 unfold SegA.reach SegA.cut
 simp only
 have h:z0d (t.bs.take j)<=max (max t.base t.fin) (z0d t.bs):=by
  by_cases h0:t.bs.take j=[]
  ·rw [h0];have:=ht.base;show (0:Int)<=_;omega
  ·obtain ⟨l,b,hb⟩:=z3d h0
   rw [hb,z3n]
   have hm:b ∈ t.bs:=List.mem_of_mem_take (by rw [hb];simp)
   have:=ht.bs.le_next hm
   omega
 omega
structure OpnP (pre:ByteArray) (l:List SegA) (n:Nat) (D:DiskA) (l1:List SegA) (D3:DiskA):Prop where
 cpl:Cpl pre l1 D3
 room:D3.room=D.room
 used:used D3.fs<=used D.fs
 len:D3.fs.length<=D.fs.length
 calm:Calm D->Calm D3
 sure:n<=(z06 l1).length
 le:(z06 l1).length<=(z06 l).length
 part:z06 l1=(z06 l).take (z06 l1).length
 next:zt l1<=zt l
theorem z0a.cutLast {n:Int} {l0:List SegA} {t:SegA} (h:z0a n (l0++[t])) (j:Nat):z0a n (l0++[t.cut j]):=by
 obtain ⟨h1,h2,h3,h4⟩:=h.front
 exact h1.snoc (h2.cut j) h3 h4
theorem CutP.opened {pre:ByteArray} {l0:List SegA} {t:SegA} {k n:Nat} {D:DiskA} (h:CutP pre l0 t k D) (hg:D.gone=false) (hn0:n<=(z06 (l0++[t])).length) (hn:∀ j,1<=j->j<=t.bs.length->(z06 l0).length+j<=n->(t.cut j).file.length<=k) :
  ∃ l1 D3,z4i pre D=(0,l1,D3)/\OpnP pre (l0++[t]) n D l1 D3:=by
 have hex:∀ s ∈ l0++[t],(z03 D.fs (zo pre s.base zu)).isSome=true:=λs hs=>by
  rcases List.mem_append.1 hs with hs|hs
  ·rw [h.old s hs];rfl
  ·simp only [List.mem_cons,List.not_mem_nil,or_false] at hs
   subst hs;rw [h.last];rfl
 have hnm:=zyp h.ok h.segs hex h.only
 obtain ⟨f1,f2,f3,f4⟩:=h.segs.front
 have hstart:z4i pre D=z21 pre [t.base] l0 D:=by
  unfold z4i
  rw [hnm,zbr pre D λs hs=>(h.segs.mem s hs).1,if_neg (by simp)]
  simp only
  rw [List.map_append]
  have:=zj9 (pre:=pre) (D:=D) (rest:=[t].map SegA.base) (l:=l0) (l1:=[]) f1 λs hs=>⟨_,h.old s hs⟩
  rw [this]
  rfl
 rw [hstart]
 rw [z2u,List.length_append] at hn0
 have hne:∀ s ∈ l0,zo pre s.base zu≠zo pre t.base zu:=λs hs=>z7b (f1.mem s hs).1 f2 (by have:=(f4 s hs).2;omega)
 have hb:=zif (l:=[]) h.segs
 have hisS:(z03 D.fs (zo pre t.base zu)).isSome=true:=by rw [h.last];rfl
 rcases zzp f2 k with ⟨c1,c2⟩|⟨j,c1,c2,c3,c4⟩
 ·have hsc:z1m pre l0 D t.base=((false,(z14 D (zo pre t.base zu)).1),l0,(z14 D (zo pre t.base zu)).2):=by
   unfold z1m
   rw [h.last]
   simp only
   rw [c2]
  have hr:(z14 D (zo pre t.base zu)).1=0:=by
   rcases zwu hisS with ⟨r1,-⟩|⟨-,r2,-⟩
   ·exact r1
   ·rw [hg] at r2;cases r2
  refine ⟨l0,(z14 D (zo pre t.base zu)).2,?_,?_⟩
  ·rw [z21,if_neg hb,hsc,hr]
   rfl
  ·obtain ⟨-,r1,r2,r3,r4,-,r6⟩:=z06e h.ok hr
   have hnl:n<=(z06 l0).length:=by
    apply Nat.le_of_not_lt
    intro hlt
    have h1:=hn 1 (Nat.le_refl _) (by omega) (by omega)
    rw [z2l] at h1
    have:(shL (t.cut 1).base (t.cut 1).fin).length=(shL t.base t.fin).length:=rfl
    omega
   refine ⟨⟨r1,f1,λs hs=>⟨s.file.length,?_⟩,λm hm hp=>?_⟩,r2,r3,r4,λhc=>zzl hc _,hnl,?_,?_,?_⟩
   ·rw [r6,if_neg (hne s hs)];exact h.old s hs
   ·rw [r6] at hm
    by_cases hmt:m=zo pre t.base zu
    ·rw [if_pos hmt] at hm;cases hm
    ·rw [if_neg hmt] at hm
     obtain ⟨s,hs,rfl⟩:=h.only m hm hp
     rcases List.mem_append.1 hs with hs|hs
     ·exact ⟨s,hs,rfl⟩
     ·simp only [List.mem_cons,List.not_mem_nil,or_false] at hs
      subst hs;exact absurd rfl hmt
   ·rw [z2u,List.length_append];omega
   ·rw [z2u,List.take_left]
   ·rw [z37]
    have:=(z5h f2).1
    omega
 ·have hprefix:z06 (l0++[t.cut j])=(z06 (l0++[t])).take (z06 (l0++[t.cut j])).length/\(z06 (l0++[t.cut j])).length=(z06 l0).length+j:=by
   have e:(t.cut j).bs=t.bs.take j:=rfl
   rw [z2u,z2u,e,List.length_append,List.length_take,Nat.min_eq_left c1,List.take_append,List.take_of_length_le (Nat.le_add_right _ _),Nat.add_sub_cancel_left]
   exact ⟨rfl,rfl⟩
  have hnl:n<=(z06 (l0++[t.cut j])).length:=by
   rw [hprefix.2]
   apply Nat.le_of_not_lt
   intro hlt
   have h1:=hn (n-(z06 l0).length) (by omega) (by omega) (by omega)
   have h2:=c4 (n-(z06 l0).length) (by omega) h1
   omega
  have hle:(z06 (l0++[t.cut j])).length<=(z06 (l0++[t])).length:=by rw [hprefix.2,z2u,List.length_append];omega
  have hnx:zt (l0++[t.cut j])<=zt (l0++[t]):=by rw [z37,z37];exact zwq f2 j
  have hkl:(t.file.take k).length=k:=by rw [List.length_take,Nat.min_eq_left h.le]
  have hraw:=(zmb c3).2.2.1
  by_cases hk:(t.cut j).file.length=k
  ·have hsc:z1m pre l0 D t.base=((true,0),l0++[t.cut j],D):=by
    unfold z1m
    rw [h.last]
    simp only
    rw [c3]
    simp only
    rw [if_pos (by rw [hkl];exact hk)]
   refine ⟨l0++[t.cut j],D,?_,?_⟩
   ·rw [z21,if_neg hb,hsc,if_neg (by simp),if_pos rfl]
    rfl
   ·refine ⟨⟨h.ok,h.segs.cutLast j,λs hs=>?_,λm hm hp=>?_⟩,rfl,Nat.le_refl _,Nat.le_refl _,id,hnl,hle,hprefix.1,hnx⟩
    ·rcases List.mem_append.1 hs with hs|hs
     ·exact ⟨_,h.old s hs⟩
     ·simp only [List.mem_cons,List.not_mem_nil,or_false] at hs
      subst hs
      refine ⟨k,?_⟩
      show z03 D.fs (zo pre t.base zu)=_
      rw [h.last,<- hraw,hk,List.take_take,Nat.min_self]
    ·obtain ⟨s,hs,rfl⟩:=h.only m hm hp
     rcases List.mem_append.1 hs with hs|hs
     ·exact ⟨s,by simp [hs],rfl⟩
     ·simp only [List.mem_cons,List.not_mem_nil,or_false] at hs
      subst hs;exact ⟨s.cut j,by simp,rfl⟩
  ·have hsc:z1m pre l0 D t.base=((false,(cutA' D (zo pre t.base zu) ((t.cut j).file.length:Nat)).1),l0++[t.cut j],(cutA' D (zo pre t.base zu) ((t.cut j).file.length:Nat)).2):=by
    unfold z1m
    rw [h.last]
    simp only
    rw [c3]
    simp only
    rw [if_neg (by rw [hkl];exact hk)]
   have hr:(cutA' D (zo pre t.base zu) ((t.cut j).file.length:Nat)).1=0:=by
    rcases zvq (A:=D) (k:=((t.cut j).file.length:Nat)) h.last (by rw [hkl];omega) with ⟨r1,-⟩|⟨-,r2,-⟩
    ·exact r1
    ·rw [hg] at r2;cases r2
   refine ⟨l0++[t.cut j],(cutA' D (zo pre t.base zu) ((t.cut j).file.length:Nat)).2,?_,?_⟩
   ·rw [z21,if_neg hb,hsc,hr]
    rfl
   ·obtain ⟨-,r1,r2,r3,r4⟩:=z05g h.ok hr
    refine ⟨⟨r1,h.segs.cutLast j,λs hs=>?_,λm hm hp=>?_⟩,r2,zxw _ _ _,by omega,λhc=>zxv hc _ _,hnl,hle,hprefix.1,hnx⟩
    ·rcases List.mem_append.1 hs with hs|hs
     ·rw [r4,if_neg (hne s hs)];exact ⟨_,h.old s hs⟩
     ·simp only [List.mem_cons,List.not_mem_nil,or_false] at hs
      subst hs
      refine ⟨min k (t.cut j).file.length,?_⟩
      show z03 _ (zo pre t.base zu)=_
      rw [r4,if_pos rfl,h.last]
      show some ((t.file.take k).take _,_)=_
      rw [Int.toNat_natCast,hraw]
    ·rw [r4] at hm
     have hm2:(z03 D.fs m).isSome=true:=by
      by_cases hmt:m=zo pre t.base zu
      ·rw [hmt];exact hisS
      ·rw [if_neg hmt] at hm;exact hm
     obtain ⟨s,hs,rfl⟩:=h.only m hm2 hp
     rcases List.mem_append.1 hs with hs|hs
     ·exact ⟨s,by simp [hs],rfl⟩
     ·simp only [List.mem_cons,List.not_mem_nil,or_false] at hs
      subst hs;exact ⟨s.cut j,by simp,rfl⟩
def CrP (pre:ByteArray) (l:List SegA) (n:Nat) (D:DiskA):Prop:=(l=[]/\n=0/\Cpl pre [] D)\/∃ l0 t k,l=l0++[t]/\n<=(z06 l).length/\CutP pre l0 t k D/\∀ j,1<=j->j<=t.bs.length->(z06 l0).length+j<=n->(t.cut j).file.length<=k
theorem CrP.ok {pre:ByteArray} {l:List SegA} {D:DiskA} {n:Nat} (h:CrP pre l n D):okA D:=by
 rcases h with ⟨h1,h2,h3⟩|⟨l0,t,k,h1,h2,h3,h4⟩
 ·exact h3.ok
 ·exact h3.ok
theorem CrP.opened {pre:ByteArray} {l:List SegA} {D:DiskA} {n:Nat} (h:CrP pre l n D) (hg:D.gone=false):∃ l1 D3,z4i pre D=(0,l1,D3)/\OpnP pre l n D l1 D3:=by
 rcases h with ⟨rfl,rfl,h3⟩|⟨l0,t,k,rfl,h2,h3,h4⟩
 ·exact ⟨[],D,h3.opened,h3,rfl,Nat.le_refl _,Nat.le_refl _,id,Nat.zero_le _,Nat.le_refl _,rfl,Int.le_refl _⟩
 ·exact h3.opened hg h2 h4
theorem z9c:∀ {n:Int} {l:List SegA},0<=n->z0a n l->z1j n (z06 l)
 | _,[],_,_=>trivial
 | n,s::l,hn,⟨h1,h2,h3⟩=>by
  have e1:z06 (s::l)=s.bs++z06 l:=by simp [z06]
  have hr:=z5h h2
  have hb:=h2.base
  rw [e1]
  refine z1j.append hn (h2.bs.mono h1) ((z9c (by omega) h3).mono ?_)
  omega
section
variable {w:World} {l r:List HP} {lg d:Nat} {D:DiskA} {A:LogA}
theorem z05b (b:BatM) (x:Sl) {r1:List HP} [hf:Fo l lgP lg A r1] [hf2:Fo r1 dk A.d D r] (hlen:A.l.length<=1000000) (hok:z0a 0 A.l) (hfl:∀ s ∈ A.l,s.file.length<=500000000)
  (hx:FocR r x 7 ([b].flatMap zr)) (hb:FocR r b.x 4 (b.rs.flatMap z00)) (hs:Sat w l) :
  Ret P F.a121 #[.pointer (some ⟨lg,0,none⟩),x.v] w λvs w'=>vs=[.int .i64 (z0v A.pre A.seg A.l D [b]).1.1,.int .i64 (z0v A.pre A.seg A.l D [b]).1.2] /\
   Sat w' (lgP lg (A.set (z0v A.pre A.seg A.l D [b]).2.1)::dk A.d (z0v A.pre A.seg A.l D [b]).2.2::r) :=
 zw7 x [b] hlen hok hfl (by show 1<=900;omega) hx (λc hc=>by
  simp only [List.mem_cons,List.not_mem_nil,or_false] at hc
  subst hc
  exact hb) hs
theorem nil_append (x:Sl) (hs:Sat w l):Ret P F.a121 #[.pointer none,x.v] w λvs w'=>vs=[.int .i64 0,.int .i64 1]/\Sat w' l :=
 zez _ x <| by
  delta ztb AB AC AD AF AG AI AJ AM AO AP AV AW Aa Ab Ac Ad Ag Ah Ai Aj Am Ar Au Ax Ay B1 B4 Bn Bu By
  refine z0o ?_ (by rfl)
  exact ⟨rfl,rfl,hs⟩
end
def InP (pool:List BatM) (R:RefM):Prop:=∀ b ∈ R.bs,∃ c ∈ pool,b.x=c.x/\b.rs=c.rs
structure Grw (pre:ByteArray) (D:DiskA) (l':List SegA) (D':DiskA):Prop where
 cpl:Cpl pre l' D'
 fr:Fr pre D D'
 calm:Calm D'
 used:used D'.fs<=used D.fs+705
 len:D'.fs.length<=D.fs.length+1
theorem InP.rd {pool:List BatM} {R:RefM} {l:List HP} (h:InP pool R):∀ b ∈ R.bs,FocR (z10 pool::l) b.x 4 (b.rs.flatMap z00):=λb hb=>by
 obtain ⟨c,hc,e1,e2⟩:=h b hb
 rw [e1,e2]
 exact zax hc
theorem InP.more {pool:List BatM} {R:RefM} (h:InP pool R) (x:BatM):InP (pool++[x]) R:=λb hb=>by
 obtain ⟨c,hc,e⟩:=h b hb
 exact ⟨c,List.mem_append_left _ hc,e⟩
theorem InP.app {pool:List BatM} {R R':RefM} {b0:BatM} {z:Sl} (h:InP pool R) (hR:∀ b ∈ R'.bs,b ∈ R.bs\/(b.x=z/\b.rs=(z0e b0).rs)):InP (pool++[(z0e b0).at z]) R':=λb hb=>by
 rcases hR b hb with h1|⟨h1,h2⟩
 ·exact h.more _ b h1
 ·exact ⟨(z0e b0).at z,by simp,h1,h2⟩
abbrev qP:ByteArray:=ByteArray.mk #[113]
abbrev qqP:ByteArray:=ByteArray.mk #[113,113]
theorem zdz:z3w qP=true:=by kernel_rfl
theorem zwp:z3w qqP=true:=by kernel_rfl
theorem z06d:qP≠qqP:=λh=>by have:=congrArg ByteArray.size h;cases this
structure ApP (s:Int) (k:Nat) (D:DiskA) (R S:RefM) (pool:List BatM):Prop where
 rs:R.seg=s
 ss:S.seg=s
 c1:Cpl qP R.l D
 c2:Cpl qqP S.l D
 calm:Calm D
 room:D.room=1048576
 used:used D.fs<=705*k
 len:D.fs.length<=k
 in1:InP pool R
 in2:InP pool S
theorem ApP.left {s:Int} {k:Nat} {D D':DiskA} {R R' S:RefM} {pool:List BatM} {b0:BatM} {z:Sl} (h:ApP s k D R S pool) (hg:Grw qP D R'.l D') (h1:R'.seg=R.seg) (hR:∀ b ∈ R'.bs,b ∈ R.bs\/(b.x=z/\b.rs=(z0e b0).rs)):ApP s (k+1) D' R' S (pool++[(z0e b0).at z]) :=
 ⟨h1.trans h.rs,h.ss,hg.cpl,h.c2.frame hg.cpl.ok zdz zwp z06d hg.fr,hg.calm,hg.fr.room.trans h.room,by have:=hg.used;have:=h.used;omega,by have:=hg.len;have:=h.len;omega,h.in1.app hR,h.in2.more _⟩
theorem ApP.right {s:Int} {k:Nat} {D D':DiskA} {R S S':RefM} {pool:List BatM} {b0:BatM} {z:Sl} (h:ApP s k D R S pool) (hg:Grw qqP D S'.l D') (h1:S'.seg=S.seg) (hR:∀ b ∈ S'.bs,b ∈ S.bs\/(b.x=z/\b.rs=(z0e b0).rs)):ApP s (k+1) D' R S' (pool++[(z0e b0).at z]) :=
 ⟨h.rs,h1.trans h.ss,h.c1.frame hg.cpl.ok zwp zdz z06d.symm hg.fr,hg.cpl,hg.calm,hg.fr.room.trans h.room,by have:=hg.used;have:=h.used;omega,by have:=hg.len;have:=h.len;omega,h.in1.more _,h.in2.app hR⟩
theorem ApP.free {s:Int} {k:Nat} {D:DiskA} {R S:RefM} {pool:List BatM} (h:ApP s k D R S pool) (hk:k<=100):705<=D.free:=by
 have:=h.used
 have:=h.room
 unfold DiskA.free
 omega
def zrw (b:Bool):List Value:=[.bool b]
instance:Enc1 zrw .bool (λb=>b):=⟨λ_=>rfl⟩
instance:EncN zrw 1:=⟨λ_=>rfl,by decide,by simp [zrw,Value.oneCell']⟩
section
variable {w:World} {l r:List HP} {lg a:Nat} {A:LogA} {D:DiskA} {R:RefM}
theorem zym {r1:List HP} [hf:Fo l lgP lg A r1] [hf2:Fo r1 dk A.d D r] (hlen:A.l.length<=1000000000) (hok:z0a 0 A.l) (hs:Sat w l) :
  Ret P F.a127 #[.pointer (some ⟨lg,0,none⟩)] w λvs w'=>vs=[.int .i64 (z0i A.pre A.l D).1]/\Sat w' (lgP lg A::dk A.d (z0i A.pre A.l D).2::r):=by
 have hs:=hs.perm (hf.perm.trans (.cons _ hf2.perm))
 clear hf hf2
 obtain ⟨M,rfl,hs⟩:=z7w hs
 have hll:M.l.length=M.SM.length:=List.length_map ..
 have hMl:M.A.l=M.l:=rfl
 rw [hMl] at hlen hok
 have hs:Sat w (lgQ lg M::dk M.d D::r):=hs
 refine (zqb (lg:=lg) (M:=M) (D:=D) (by omega) hok hs).mono λvs w' h=>?_
 obtain ⟨h1,h2⟩:=h
 exact ⟨h1,z4g M h2⟩
structure FilI (s:Int) (k:Nat) (D:DiskA) (l:List SegA) (R:RefM) (pool:List BatM) (n:Nat) (C:Prop):Prop where
 cpl:Cpl qP l D
 syn:z8u qP l D n
 rseg:R.seg=4194304
 segs:z0a 0 R.l
 srl:R.SR.length<=k
 brl:R.bs.length<=k
 all:R.bs.map BatM.p=z06 l
 next:zt R.l=zt l
 rep:l=z9t s (z06 l)
 room:D.room=1048576
 used:used D.fs<=705*k
 len:D.fs.length<=k
 in1:InP pool R
 calm:C->Calm D
structure FilE (s:Int) (D:DiskA) (l:List SegA) (outs pool:List BatM) (n:Nat) (C:Prop):Prop where
 cpl:Cpl qP l D
 syn:z8u qP l D n
 told:outs.map BatM.p=z06 l\/(D.gone=true/\∃ b,outs.map BatM.p=z06 l++[b])
 rep:l=z9t s (z06 l)
 room:D.room=1048576
 used:used D.fs<=14805
 len:D.fs.length<=21
 num:outs.length<=21
 in1:∀ b ∈ outs,∃ c ∈ pool,b.x=c.x/\b.rs=c.rs
 calm:C->Calm D/\outs.map BatM.p=z06 l
theorem FilI.free {s:Int} {k n:Nat} {l:List SegA} {pool:List BatM} {C:Prop} (h:FilI s k D l R pool n C) (hk:k<=100):705<=D.free:=by
 have:=h.used
 have:=h.room
 unfold DiskA.free
 omega
theorem FilI.done {s:Int} {k n:Nat} {l:List SegA} {pool:List BatM} {C:Prop} (h:FilI s k D l R pool n C) (hk:k<=20):FilE s D l R.bs pool n C :=
 ⟨h.cpl,h.syn,.inl h.all,h.rep,h.room,by have:=h.used;omega,by have:=h.len;omega,by have:=h.brl;omega,h.in1,λc=>⟨h.calm c,h.all⟩⟩
theorem FilI.step {s:Int} {k n:Nat} {l:List SegA} {pool:List BatM} {C:Prop} {R':RefM} {b0:BatM} {z z':Sl} (h:FilI s k D l R pool n C) (hk:k<=100)
  (h1:(z0v qP s l D [(z0e b0).at z]).1=(z1e s l [(z0e b0).at z]).1) (h2:(z0v qP s l D [(z0e b0).at z]).2.1=(z1e s l [(z0e b0).at z]).2)
  (r1:R'.seg=R.seg) (r2:R'.l=(z1e R.seg R.l [(z0e b0).at z']).2) (r3:R'.SR.length<=R.SR.length+1) (r4:R'.bs.length<=R.bs.length+1) (r5:∀ b ∈ R'.bs,b ∈ R.bs\/(b.x=z'/\b.rs=(z0e b0).rs)) :
  FilI s (k+1) (z0v qP s l D [(z0e b0).at z]).2.2 (z0v qP s l D [(z0e b0).at z]).2.1 R' (pool++[(z0e b0).at z']) n C:=by
 have hst:=zfp s [(z0e b0).at z] zdz h.cpl
 have hsy:=h.syn.app (seg:=s) (bs:=[(z0e b0).at z]) zdz h.cpl
 have hsum:=zzt (seg:=s) (l:=l) (bs:=[(z0e b0).at z])
 have hsm:=zn0 b0 z (zt l)
 have hsl:=zi2 (zt l) 0
 have hR:R'.bs.map BatM.p=z06 R'.l:=by rw [zg9]
 have hRR:R.bs.map BatM.p=z06 R.l:=by rw [zg9]
 have hrall:z06 R.l=z06 l:=hRR.symm.trans h.all
 have er:z1e R.seg R.l [(z0e b0).at z']=z1e R.seg R.l [(z0e b0).at z]:=zss _ _ _ _ _
 rw [er] at r2
 have hsegR:z0a 0 R'.l:=by rw [r2];exact zaf h.segs
 have hallN:z06 R'.l=z06 (z1e s l [(z0e b0).at z]).2/\zt R'.l=zt (z1e s l [(z0e b0).at z]).2/\(z1e s l [(z0e b0).at z]).2=z9t s (z06 (z1e s l [(z0e b0).at z]).2):=by
  by_cases hp:(zx (zt l) [(z0e b0).at z]).1=0
  ·obtain ⟨g1,g2⟩:=zfx (seg:=s) h.cpl.segs (by simp) hp
   obtain ⟨g3,g4⟩:=zfx (seg:=R.seg) (bs:=[(z0e b0).at z]) h.segs (by simp) (by rw [h.next];exact hp)
   rw [h.next] at g3 g4
   rw [r2]
   refine ⟨by rw [g1,g3,hrall],by rw [g2,g4],?_⟩
   rw [g1,zjd _ _ hp]
   show _=z9t s (z06 l++[(((z0e b0).at z).to (zt l)).p])
   rw [zn2,<- h.rep,z04e]
  ·obtain ⟨g1,-⟩:=zfy (seg:=s) (l:=l) (bs:=[(z0e b0).at z]) (.inr hp)
   obtain ⟨g3,-⟩:=zfy (seg:=R.seg) (l:=R.l) (bs:=[(z0e b0).at z]) (.inr (by rw [h.next];exact hp))
   rw [r2,g1,g3]
   exact ⟨hrall,h.next,h.rep⟩
 rw [h2] at hst hsy ⊢
 have hu:=hst.2.2.1
 have hl:=hst.2.2.2.1
 have hll:(z1e s l [(z0e b0).at z]).2.length<=l.length+1:=by
  unfold z1e
  split
  ·simp
  split
  ·simp
  ·simp only
   split
   ·rename_i hr
    have hne:l≠[]:=by rintro rfl;cases hr
    obtain ⟨l0,t,rfl⟩:=z3d hne
    rw [z3s];simp
   ·simp
 have hlen2:(z0v qP s l D [(z0e b0).at z]).2.2.fs.length<=D.fs.length+1:=by
  unfold z0v
  split
  ·simp only;omega
  split
  ·simp only;omega
  split
  ·split <;> exact z7g.1
  ·obtain ⟨-,-,-,s4,-⟩:=z8n h.cpl
   split
   ·simp only;omega
   split
   ·simp only
    have:=(z7g (A:=(z0i qP l D).2) (n:=zo qP (zt l) zu) (bs:=shL (zt l) 0++(zx (zt l) [(z0e b0).at z]).2.flatMap frL)).1
    omega
   ·simp only
    have:=(z7g (A:=(z0i qP l D).2) (n:=zo qP (zt l) zu) (bs:=shL (zt l) 0++(zx (zt l) [(z0e b0).at z]).2.flatMap frL)).1
    omega
 exact ⟨hst.1,hsy,r1.trans h.rseg,hsegR,by have:=h.srl;omega,by have:=h.brl;omega,by rw [hR];exact hallN.1,hallN.2.1,hallN.2.2,hst.2.1.room.trans h.room,by have:=h.used;omega,by have:=h.len;omega,h.in1.app r5,λc=>hst.2.2.2.2 (h.calm c)⟩
theorem FilI.fail {s:Int} {k n:Nat} {l:List SegA} {pool:List BatM} {C:Prop} {R':RefM} {b0:BatM} {z z':Sl} (h:FilI s k D l R pool n C) (hk:k<20)
  (h1:(z0v qP s l D [(z0e b0).at z]).2.1=l) (h2:(z0v qP s l D [(z0e b0).at z]).2.2.gone=true)
  (r2:R'.l=(z1e R.seg R.l [(z0e b0).at z']).2) (r4:R'.bs.length<=R.bs.length+1) (r5:∀ b ∈ R'.bs,b ∈ R.bs\/(b.x=z'/\b.rs=(z0e b0).rs)) :
  FilE s (z0v qP s l D [(z0e b0).at z]).2.2 l R'.bs (pool++[(z0e b0).at z']) n C:=by
 have hst:=zfp s [(z0e b0).at z] zdz h.cpl
 have hsy:=h.syn.app (seg:=s) (bs:=[(z0e b0).at z]) zdz h.cpl
 rw [h1] at hst hsy
 have hR:R'.bs.map BatM.p=z06 R'.l:=by rw [zg9]
 have hRR:R.bs.map BatM.p=z06 R.l:=by rw [zg9]
 have hrall:z06 R.l=z06 l:=hRR.symm.trans h.all
 have hu:=hst.2.2.1
 have hl:=hst.2.2.2.1
 refine ⟨hst.1,hsy,?_,h.rep,hst.2.1.room.trans h.room,by have:=h.used;omega,by have:=h.len;omega,by have:=h.brl;omega,h.in1.app r5,λc=>?_⟩
 ·by_cases hp:(zx (zt R.l) [(z0e b0).at z']).1=0
  ·obtain ⟨g3,-⟩:=zfx (seg:=R.seg) (bs:=[(z0e b0).at z']) h.segs (by simp) hp
   refine .inr ⟨h2,?_⟩
   rw [hR,r2,g3,zjd _ _ hp,hrall]
   exact ⟨_,rfl⟩
  ·obtain ⟨g3,-⟩:=zfy (seg:=R.seg) (l:=R.l) (bs:=[(z0e b0).at z']) (.inr hp)
   refine .inl ?_
   rw [hR,r2,g3,hrall]
 ·have:=(hst.2.2.2.2 (h.calm c)).gone
  rw [this] at h2;cases h2
set_option maxHeartbeats 1000000 in
end
abbrev cP (b:BatM) (k:Nat) (q:Int) (z:Sl):Array Value:=#[.int .i64 (b.base+(k:Int)),.int .i64 b.pid,.int .i64 b.epoch,.int .i64 q,.int .i64 b.kind,.int .i64 b.time,.slice z.a z.len z.cap]
def InB (pool bs:List BatM):Prop:=∀ b ∈ bs,∃ c ∈ pool,b.x=c.x/\b.rs=c.rs
theorem InB.rd {pool bs:List BatM} {l:List HP} (h:InB pool bs):∀ b ∈ bs,FocR (z10 pool::l) b.x 4 (b.rs.flatMap z00):=λb hb=>by
 obtain ⟨c,hc,e1,e2⟩:=h b hb
 rw [e1,e2]
 exact zax hc
theorem InB.more {pool bs:List BatM} (h:InB pool bs) (q:List BatM):InB (pool++q) bs:=λb hb=>by
 obtain ⟨c,hc,e⟩:=h b hb
 exact ⟨c,List.mem_append_left _ hc,e⟩
theorem InB.app {pool a b:List BatM} (h1:InB pool a) (h2:InB pool b):InB pool (a++b):=λx hx=>by
 rcases List.mem_append.1 hx with hx|hx
 ·exact h1 x hx
 ·exact h2 x hx
section
variable {w:World} {l r:List HP} {lg:Nat} {A:LogA}
theorem zyk [hf:Fo l lgP lg A r] (hlen:A.l.length<=1000000000) (hs:Sat w l):Ret P F.a123 #[.pointer (some ⟨lg,0,none⟩)] w λvs w'=>vs=[.int .i64 (zt A.l)]/\Sat w' (lgP lg A::r):=by
 have hs:=hs.perm hf.perm
 clear hf
 obtain ⟨M,hM,hsn⟩:=z7w hs
 clear hs
 subst hM
 have hll:M.l.length=M.SM.length:=List.length_map ..
 have hMl:M.A.l=M.l:=rfl
 rw [hMl] at hlen
 refine (zb7 (lg:=lg) (M:=M) (by omega) hsn).mono λvs w' h=>?_
 obtain ⟨h1,h2⟩:=h
 exact ⟨h1,z4g M h2⟩
set_option maxHeartbeats 1000000 in
end
end Go.Dec
