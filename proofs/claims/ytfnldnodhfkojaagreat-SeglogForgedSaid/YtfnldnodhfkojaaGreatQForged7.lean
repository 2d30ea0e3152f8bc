/- What the claim of this folder leans on: our own texts, joined, without what it does not use. -/
import Derived.Test.YtfnldnodhfkojaaGreatRows
import Derived.WalkKit
import Derived.ProofKit
import Derived.OpenShut
import Derived.RowKit3
import Derived.OrdersHeld
import Derived.Scope
import Derived.KernelRfl
import Derived.Laws.Sem
import Derived.Laws.StructEq
import Derived.Deep.AppendSrc
import Derived.Laws.BytesArg
import Derived.Laws.RangeString
import Derived.Maps.RangeRun
import Derived.Lib.ConvBytes
import Derived.Lib.SlBytesConst
import Derived.ChangeSlices
import Derived.ChangeMaps5
import Derived.ChangeSame
import Derived.Deep.Slices
import Derived.Deep.Fields
import Derived.Test.YtfnldnodhfkojaaGreatProg
import Derived.Laws.MakeOwn
import Derived.Sort.MapsRangeIn
import Derived.Sort.KeysCollected
import Derived.RangeFuncNested
import Derived.RangeFuncBound
import Derived.RangeFuncCalls
import Derived.RangeFuncLeaves
import Derived.RangeFuncBox
import Derived.OwnWalkIn
import Derived.TacticsInMore
import Derived.RegionIn
import Derived.LoopNIn
import Derived.LoopIn
import Derived.Maps.AppendAt
import Derived.Shelf.Abstract
import Derived.Shelf.Sort.Plain
import Derived.Shelf.Slices.In.SortNone
import Derived.Test.YtfnldnodhfkojaaGreatQForged1
import Derived.Test.YtfnldnodhfkojaaGreatQForged2
import Derived.Test.YtfnldnodhfkojaaGreatQForged3
import Derived.Test.YtfnldnodhfkojaaGreatQForged4
import Derived.Test.YtfnldnodhfkojaaGreatQForged5
import Derived.Test.YtfnldnodhfkojaaGreatQForged6
set_option linter.unusedVariables false
set_option linter.unusedSimpArgs false
namespace Go.Dec
structure CutP (pre:ByteArray) (l0:List SegA) (t:SegA) (k:Nat) (D:DiskA):Prop where
 ok:okA D
 segs:z0k 0 (l0++[t])
 old:∀ s ∈ l0,z06 D.fs (zi pre s.base zu)=some (s.file,s.file.length)
 last:z06 D.fs (zi pre t.base zu)=some (t.file.take k,k)
 le:k<=t.file.length
 only:∀ n,(z06 D.fs n).isSome=true->(bl (z13 pre)).isPrefixOf (bl n)=true->∃ s ∈ l0++[t],n=zi pre s.base zu
theorem CutP.fs {pre:ByteArray} {l0:List SegA} {t:SegA} {k:Nat} {D D':DiskA} (h:CutP pre l0 t k D) (hok:okA D') (e:D'.fs=D.fs):CutP pre l0 t k D' :=
 ⟨hok,h.segs,by rw [e];exact h.old,by rw [e];exact h.last,h.le,by rw [e];exact h.only⟩
theorem zub {pre:ByteArray} {l:List SegA} {D:DiskA} (hok:okA D) (hsegs:z0k 0 l) (hex:∀ s ∈ l,(z06 D.fs (zi pre s.base zu)).isSome=true) (only:∀ n,(z06 D.fs n).isSome=true->(bl (z13 pre)).isPrefixOf (bl n)=true->∃ s ∈ l,n=zi pre s.base zu):z12 (z13 pre) D.fs=l.map λs=>zi pre s.base zu:=by
 refine z6e (z5e hok _) (z7v pre hsegs) λn=>?_
 rw [z8a]
 constructor
 ·rintro ⟨h1,h2⟩
  obtain ⟨s,hs,rfl⟩:=only n h1 h2
  exact List.mem_map.2 ⟨s,hs,rfl⟩
 ·intro hn
  obtain ⟨s,hs,rfl⟩:=List.mem_map.1 hn
  exact ⟨hex s hs,z1m pre s.base zu⟩
theorem zhm {l1 l:List SegA} {s:SegA} (hok:z0k 0 (l1++s::l)):¬ s.base<z01 l1:=by
 have hs:SegOk s:=(hok.mem s (by simp)).1
 have:=hs.base
 by_cases h0:l1=[]
 ·subst h0;show ¬ s.base<0;omega
 ·obtain ⟨l0,t,rfl⟩:=z2r h0
  rw [z3a]
  have h1:=hok.skip l0.length (l0.length+1) (by simp) (by omega)
  have e1:(l0++[t]++s::l)[l0.length]'(by simp)=t:=by simp
  have e2:(l0++[t]++s::l)[l0.length+1]'(by simp)=s:=by
   rw [List.getElem_append_right (by simp)];simp
  rw [e1,e2] at h1
  omega
theorem zd3 {pre:ByteArray} {D:DiskA} {rest:List Int}:∀ {l l1:List SegA},z0k 0 (l1++l)->(∀ s ∈ l,∃ k,z06 D.fs (zi pre s.base zu)=some (s.file,k))->z2a pre (l.map SegA.base++rest) l1 D=z2a pre rest (l1++l) D
 | [],l1,_,_=>by simp
 | s::l,l1,hok,hh=>by
  rw [List.map_cons,List.cons_append]
  have hok2:z0k 0 ((l1++[s])++l):=by rwa [List.append_assoc]
  have hs:SegOk s:=(hok.mem s (by simp)).1
  obtain ⟨k,hk⟩:=hh s (List.mem_cons_self ..)
  have hsc:z1k pre l1 D s.base=((true,0),l1++[s],D):=by
   unfold z1k
   rw [hk]
   simp only
   rw [zik hs]
   simp only
   rw [if_pos trivial]
  have e:z2a pre (s.base::(l.map SegA.base++rest)) l1 D=z2a pre (l.map SegA.base++rest) (l1++[s]) D:=by
   rw [z2a]
   rw [if_neg (zhm hok),hsc,if_neg (by simp),if_pos rfl]
  rw [e,zd3 hok2 λt ht=>hh t (List.mem_cons_of_mem _ ht),List.append_assoc]
  rfl
theorem ze0 {g:FileA->FileA} (hg:∀ f,(g f).b.length<=f.b.length):∀ fs:List FileA,used (fs.map g)<=used fs
 | []=>Nat.le_refl _
 | f::fs=>by
  have:=ze0 hg fs
  have:=hg f
  rw [List.map_cons,z1w,z1w]
  omega
theorem zkv (A:DiskA) (n:ByteArray) (k:Int):used (cutA' A n k).2.fs<=used A.fs:=by
 unfold cutA'
 split
 ·exact Nat.le_refl _
 split
 ·exact Nat.le_refl _
 split
 ·exact Nat.le_refl _
 ·show used (z32 _).fs<=_
  rw [z3y]
  refine ze0 (λf=>?_) _
  unfold z22
  split
  ·show (f.b.take _).length<=_;rw [List.length_take];omega
  ·exact Nat.le_refl _
theorem zje {D:DiskA} (h:Calm D) (n:ByteArray) (k:Int):Calm (cutA' D n k).2:=by
 unfold cutA'
 split
 ·exact h
 split
 ·exact h
 split
 ·exact h
 ·show Calm (z32 _)
  rw [z9r (by exact h.left)]
  exact ⟨h.gone,h.left⟩
theorem zsw {t:SegA} (ht:SegOk t) (j:Nat):(t.cut j).reach<=t.reach:=by
 unfold SegA.reach SegA.cut
 simp only
 have h:z0n (t.bs.take j)<=max (max t.base t.fin) (z0n t.bs):=by
  by_cases h0:t.bs.take j=[]
  ·rw [h0];have:=ht.base;show (0:Int)<=_;omega
  ·obtain ⟨l,b,hb⟩:=z2r h0
   rw [hb,z42]
   have hm:b ∈ t.bs:=List.mem_of_mem_take (by rw [hb];simp)
   have:=ht.bs.le_next hm
   omega
 omega
structure OpnP (pre:ByteArray) (l:List SegA) (n:Nat) (D:DiskA) (l1:List SegA) (D3:DiskA):Prop where
 cpl:Cpl pre l1 D3
 room:D3.room=D.room
 used:used D3.fs<=used D.fs
 len:D3.fs.length<=D.fs.length
 calm:Calm D->Calm D3
 sure:n<=(z0o l1).length
 le:(z0o l1).length<=(z0o l).length
 part:z0o l1=(z0o l).take (z0o l1).length
 next:z01 l1<=z01 l
theorem z0k.cutLast {n:Int} {l0:List SegA} {t:SegA} (h:z0k n (l0++[t])) (j:Nat):z0k n (l0++[t.cut j]):=by
 obtain ⟨h1,h2,h3,h4⟩:=h.front
 exact h1.snoc (h2.cut j) h3 h4
theorem CutP.opened {pre:ByteArray} {l0:List SegA} {t:SegA} {k n:Nat} {D:DiskA} (h:CutP pre l0 t k D) (hg:D.gone=false) (hn0:n<=(z0o (l0++[t])).length) (hn:∀ j,1<=j->j<=t.bs.length->(z0o l0).length+j<=n->(t.cut j).file.length<=k) :
  ∃ l1 D3,z36 pre D=(0,l1,D3)/\OpnP pre (l0++[t]) n D l1 D3:=by
 have hex:∀ s ∈ l0++[t],(z06 D.fs (zi pre s.base zu)).isSome=true:=λs hs=>by
  rcases List.mem_append.1 hs with hs|hs
  ·rw [h.old s hs];rfl
  ·simp only [List.mem_cons,List.not_mem_nil,or_false] at hs
   subst hs;rw [h.last];rfl
 have hnm:=zub h.ok h.segs hex h.only
 obtain ⟨f1,f2,f3,f4⟩:=h.segs.front
 have hstart:z36 pre D=z2a pre [t.base] l0 D:=by
  unfold z36
  rw [hnm,z7q pre D λs hs=>(h.segs.mem s hs).1,if_neg (by simp)]
  simp only
  rw [List.map_append]
  have:=zd3 (pre:=pre) (D:=D) (rest:=[t].map SegA.base) (l:=l0) (l1:=[]) f1 λs hs=>⟨_,h.old s hs⟩
  rw [this]
  rfl
 rw [hstart]
 rw [z3d,List.length_append] at hn0
 have hne:∀ s ∈ l0,zi pre s.base zu≠zi pre t.base zu:=λs hs=>z5v (f1.mem s hs).1 f2 (by have:=(f4 s hs).2;omega)
 have hb:=zhm (l:=[]) h.segs
 have hisS:(z06 D.fs (zi pre t.base zu)).isSome=true:=by rw [h.last];rfl
 rcases zux f2 k with ⟨c1,c2⟩|⟨j,c1,c2,c3,c4⟩
 ·have hsc:z1k pre l0 D t.base=((false,(z0v D (zi pre t.base zu)).1),l0,(z0v D (zi pre t.base zu)).2):=by
   unfold z1k
   rw [h.last]
   simp only
   rw [c2]
  have hr:(z0v D (zi pre t.base zu)).1=0:=by
   rcases z85 hisS with ⟨r1,-⟩|⟨-,r2,-⟩
   ·exact r1
   ·rw [hg] at r2;cases r2
  refine ⟨l0,(z0v D (zi pre t.base zu)).2,?_,?_⟩
  ·rw [z2a,if_neg hb,hsc,hr]
   rfl
  ·obtain ⟨-,r1,r2,r3,r4,-,r6⟩:=zda h.ok hr
   have hnl:n<=(z0o l0).length:=by
    apply Nat.le_of_not_lt
    intro hlt
    have h1:=hn 1 (Nat.le_refl _) (by omega) (by omega)
    rw [z2n] at h1
    have:(shL (t.cut 1).base (t.cut 1).fin).length=(shL t.base t.fin).length:=rfl
    omega
   refine ⟨⟨r1,f1,λs hs=>⟨s.file.length,?_⟩,λm hm hp=>?_⟩,r2,r3,r4,λhc=>z9o hc _,hnl,?_,?_,?_⟩
   ·rw [r6,if_neg (hne s hs)];exact h.old s hs
   ·rw [r6] at hm
    by_cases hmt:m=zi pre t.base zu
    ·rw [if_pos hmt] at hm;cases hm
    ·rw [if_neg hmt] at hm
     obtain ⟨s,hs,rfl⟩:=h.only m hm hp
     rcases List.mem_append.1 hs with hs|hs
     ·exact ⟨s,hs,rfl⟩
     ·simp only [List.mem_cons,List.not_mem_nil,or_false] at hs
      subst hs;exact absurd rfl hmt
   ·rw [z3d,List.length_append];omega
   ·rw [z3d,List.take_left]
   ·rw [z3a]
    have:=(z59 f2).1
    omega
 ·have hprefix:z0o (l0++[t.cut j])=(z0o (l0++[t])).take (z0o (l0++[t.cut j])).length/\(z0o (l0++[t.cut j])).length=(z0o l0).length+j:=by
   have e:(t.cut j).bs=t.bs.take j:=rfl
   rw [z3d,z3d,e,List.length_append,List.length_take,Nat.min_eq_left c1,List.take_append,List.take_of_length_le (Nat.le_add_right _ _),Nat.add_sub_cancel_left]
   exact ⟨rfl,rfl⟩
  have hnl:n<=(z0o (l0++[t.cut j])).length:=by
   rw [hprefix.2]
   apply Nat.le_of_not_lt
   intro hlt
   have h1:=hn (n-(z0o l0).length) (by omega) (by omega) (by omega)
   have h2:=c4 (n-(z0o l0).length) (by omega) h1
   omega
  have hle:(z0o (l0++[t.cut j])).length<=(z0o (l0++[t])).length:=by rw [hprefix.2,z3d,List.length_append];omega
  have hnx:z01 (l0++[t.cut j])<=z01 (l0++[t]):=by rw [z3a,z3a];exact zsw f2 j
  have hkl:(t.file.take k).length=k:=by rw [List.length_take,Nat.min_eq_left h.le]
  have hraw:=(z7u c3).2.2.1
  by_cases hk:(t.cut j).file.length=k
  ·have hsc:z1k pre l0 D t.base=((true,0),l0++[t.cut j],D):=by
    unfold z1k
    rw [h.last]
    simp only
    rw [c3]
    simp only
    rw [if_pos (by rw [hkl];exact hk)]
   refine ⟨l0++[t.cut j],D,?_,?_⟩
   ·rw [z2a,if_neg hb,hsc,if_neg (by simp),if_pos rfl]
    rfl
   ·refine ⟨⟨h.ok,h.segs.cutLast j,λs hs=>?_,λm hm hp=>?_⟩,rfl,Nat.le_refl _,Nat.le_refl _,id,hnl,hle,hprefix.1,hnx⟩
    ·rcases List.mem_append.1 hs with hs|hs
     ·exact ⟨_,h.old s hs⟩
     ·simp only [List.mem_cons,List.not_mem_nil,or_false] at hs
      subst hs
      refine ⟨k,?_⟩
      show z06 D.fs (zi pre t.base zu)=_
      rw [h.last,<- hraw,hk,List.take_take,Nat.min_self]
    ·obtain ⟨s,hs,rfl⟩:=h.only m hm hp
     rcases List.mem_append.1 hs with hs|hs
     ·exact ⟨s,by simp [hs],rfl⟩
     ·simp only [List.mem_cons,List.not_mem_nil,or_false] at hs
      subst hs;exact ⟨s.cut j,by simp,rfl⟩
  ·have hsc:z1k pre l0 D t.base=((false,(cutA' D (zi pre t.base zu) ((t.cut j).file.length:Nat)).1),l0++[t.cut j],(cutA' D (zi pre t.base zu) ((t.cut j).file.length:Nat)).2):=by
    unfold z1k
    rw [h.last]
    simp only
    rw [c3]
    simp only
    rw [if_neg (by rw [hkl];exact hk)]
   have hr:(cutA' D (zi pre t.base zu) ((t.cut j).file.length:Nat)).1=0:=by
    rcases ziy (A:=D) (k:=((t.cut j).file.length:Nat)) h.last (by rw [hkl];omega) with ⟨r1,-⟩|⟨-,r2,-⟩
    ·exact r1
    ·rw [hg] at r2;cases r2
   refine ⟨l0++[t.cut j],(cutA' D (zi pre t.base zu) ((t.cut j).file.length:Nat)).2,?_,?_⟩
   ·rw [z2a,if_neg hb,hsc,hr]
    rfl
   ·obtain ⟨-,r1,r2,r3,r4⟩:=zt8 h.ok hr
    refine ⟨⟨r1,h.segs.cutLast j,λs hs=>?_,λm hm hp=>?_⟩,r2,zkv _ _ _,by omega,λhc=>zje hc _ _,hnl,hle,hprefix.1,hnx⟩
    ·rcases List.mem_append.1 hs with hs|hs
     ·rw [r4,if_neg (hne s hs)];exact ⟨_,h.old s hs⟩
     ·simp only [List.mem_cons,List.not_mem_nil,or_false] at hs
      subst hs
      refine ⟨min k (t.cut j).file.length,?_⟩
      show z06 _ (zi pre t.base zu)=_
      rw [r4,if_pos rfl,h.last]
      show some ((t.file.take k).take _,_)=_
      rw [Int.toNat_natCast,hraw]
    ·rw [r4] at hm
     have hm2:(z06 D.fs m).isSome=true:=by
      by_cases hmt:m=zi pre t.base zu
      ·rw [hmt];exact hisS
      ·rw [if_neg hmt] at hm;exact hm
     obtain ⟨s,hs,rfl⟩:=h.only m hm2 hp
     rcases List.mem_append.1 hs with hs|hs
     ·exact ⟨s,by simp [hs],rfl⟩
     ·simp only [List.mem_cons,List.not_mem_nil,or_false] at hs
      subst hs;exact ⟨s.cut j,by simp,rfl⟩
def CrP (pre:ByteArray) (l:List SegA) (n:Nat) (D:DiskA):Prop:=(l=[]/\n=0/\Cpl pre [] D)\/∃ l0 t k,l=l0++[t]/\n<=(z0o l).length/\CutP pre l0 t k D/\∀ j,1<=j->j<=t.bs.length->(z0o l0).length+j<=n->(t.cut j).file.length<=k
theorem CrP.ok {pre:ByteArray} {l:List SegA} {D:DiskA} {n:Nat} (h:CrP pre l n D):okA D:=by
 rcases h with ⟨h1,h2,h3⟩|⟨l0,t,k,h1,h2,h3,h4⟩
 ·exact h3.ok
 ·exact h3.ok
theorem CrP.opened {pre:ByteArray} {l:List SegA} {D:DiskA} {n:Nat} (h:CrP pre l n D) (hg:D.gone=false):∃ l1 D3,z36 pre D=(0,l1,D3)/\OpnP pre l n D l1 D3:=by
 rcases h with ⟨rfl,rfl,h3⟩|⟨l0,t,k,rfl,h2,h3,h4⟩
 ·exact ⟨[],D,h3.opened,h3,rfl,Nat.le_refl _,Nat.le_refl _,id,Nat.zero_le _,Nat.le_refl _,rfl,Int.le_refl _⟩
 ·exact h3.opened hg h2 h4
theorem zyn {b:BatM} (hv:z0c b=0):z0d b<=64:=by
 obtain ⟨h64,-⟩:=z2p hv
 unfold z0d
 split <;> omega
theorem z0k.drop:∀ {n:Int} {l:List SegA} (k:Nat),z0k n l->∀ m,(∀ h:k<l.length,m<=(l[k]'h).base)->z0k m (l.drop k)
 | n,[],k,_,m,_=>by simp [z0k]
 | n,s::l,0,⟨h1,h2,h3⟩,m,hm=>⟨by have:=hm (by simp);simpa using this,h2,h3⟩
 | n,s::l,k+1,⟨h1,h2,h3⟩,m,hm=>h3.drop k m λh=>by have:=hm (by simp;omega);simpa using this
structure GoP (pre:ByteArray) (l q:List SegA) (D:DiskA):Prop where
 ok:okA D
 segs:z0k 0 l
 has:zel pre l D
 hasq:zel pre q D
 oks:∀ s ∈ q,SegOk s
 ne:∀ s ∈ q,∀ t ∈ l,s.base≠t.base
 nd:q.Pairwise λa b=>a.base≠b.base
 only:∀ n,(z06 D.fs n).isSome=true->(bl (z13 pre)).isPrefixOf (bl n)=true->∃ s ∈ l++q,n=zi pre s.base zu
theorem GoP.none {pre:ByteArray} {l:List SegA} {D:DiskA} (h:GoP pre l [] D):Cpl pre l D:=⟨h.ok,h.segs,h.has,by have:=h.only;rwa [List.append_nil] at this⟩
theorem GoP.one {pre:ByteArray} {l q:List SegA} {s:SegA} {D:DiskA} (h:GoP pre l (s::q) D) (hr:(z0v D (zi pre s.base zu)).1=0):GoP pre l q (z0v D (zi pre s.base zu)).2/\Fr pre D (z0v D (zi pre s.base zu)).2/\used (z0v D (zi pre s.base zu)).2.fs<=used D.fs/\(z0v D (zi pre s.base zu)).2.fs.length<=D.fs.length:=by
 obtain ⟨-,r1,r2,r3,r4,-,r6⟩:=zda h.ok hr
 have hs:=h.oks s (List.mem_cons_self ..)
 have hnd:=List.pairwise_cons.1 h.nd
 refine ⟨⟨r1,h.segs,λt ht=>?_,λt ht=>?_,λt ht=>h.oks t (List.mem_cons_of_mem _ ht),λt ht=>h.ne t (List.mem_cons_of_mem _ ht),hnd.2,λn hn hp=>?_⟩,⟨r2,λm hm=>?_⟩,r3,r4⟩
 ·rw [r6,if_neg (z5v (h.segs.mem t ht).1 hs (λe=>h.ne s (List.mem_cons_self ..) t ht e.symm))]
  exact h.has t ht
 ·rw [r6,if_neg (z5v (h.oks t (List.mem_cons_of_mem _ ht)) hs (λe=>hnd.1 t ht e.symm))]
  exact h.hasq t (List.mem_cons_of_mem _ ht)
 ·rw [r6] at hn
  by_cases hm:n=zi pre s.base zu
  ·rw [if_pos hm] at hn;cases hn
  ·rw [if_neg hm] at hn
   obtain ⟨t,ht,rfl⟩:=h.only n hn hp
   rcases List.mem_append.1 ht with ht|ht
   ·exact ⟨t,by simp [ht],rfl⟩
   ·rcases List.mem_cons.1 ht with rfl|ht
    ·exact absurd rfl hm
    ·exact ⟨t,by simp [ht],rfl⟩
 ·rw [r6,if_neg]
  rintro rfl
  rw [z1m] at hm;cases hm
theorem GoP.all {pre:ByteArray}:∀ {q l:List SegA} {D:DiskA},GoP pre l q D ->
  ∃ q2,GoP pre l q2 (z2d pre (q.map SegA.base) D).2/\(∃ q1,q=q1++q2)/\Fr pre D (z2d pre (q.map SegA.base) D).2/\used (z2d pre (q.map SegA.base) D).2.fs<=used D.fs/\(z2d pre (q.map SegA.base) D).2.fs.length<=D.fs.length/\(Calm D->Calm (z2d pre (q.map SegA.base) D).2) /\
   ((q2=[]/\(z2d pre (q.map SegA.base) D).1=0)\/((z2d pre (q.map SegA.base) D).1=9/\(z2d pre (q.map SegA.base) D).2.gone=true))
 | [],l,D,h=>⟨[],h,⟨[],rfl⟩,.refl _ _,Nat.le_refl _,Nat.le_refl _,id,.inl ⟨rfl,rfl⟩⟩
 | s::q,l,D,h=>by
  obtain ⟨k,hk⟩:=h.hasq s (List.mem_cons_self ..)
  rw [List.map_cons]
  have hun:z2d pre (s.base::q.map SegA.base) D=if (z0v D (zi pre s.base zu)).1≠0 then z0v D (zi pre s.base zu) else z2d pre (q.map SegA.base) (z0v D (zi pre s.base zu)).2:=rfl
  rw [hun]
  rcases z85 (A:=D) (n:=zi pre s.base zu) (by rw [hk];rfl) with ⟨r1,-⟩|⟨r1,r2,r3⟩
  ·rw [if_neg (by rw [r1];simp)]
   obtain ⟨o1,o2,o3,o4⟩:=h.one r1
   obtain ⟨q2,a1,⟨q1,a2⟩,a3,a4,a5,a6,a7⟩:=GoP.all o1
   exact ⟨q2,a1,⟨s::q1,by rw [a2];rfl⟩,o2.trans a3,Nat.le_trans a4 o3,Nat.le_trans a5 o4,λhc=>a6 (z9o hc _),a7⟩
  ·rw [if_pos (by rw [r1];simp),r3]
   exact ⟨s::q,h,⟨[],rfl⟩,.refl _ _,Nat.le_refl _,Nat.le_refl _,id,.inr ⟨r1,r2⟩⟩
theorem z8p {pre:ByteArray} {a b:Int} (ha:0<=a/\a<17592186044416) (hb:0<=b/\b<17592186044416):zi pre a z1u≠zi pre b zu:=λe=>by
 have:=(z5l ha hb e).2
 exact absurd this (by decide)
theorem zaq (pre:ByteArray) {a b:Int} (ha:0<=a/\a<17592186044416) (hb:0<=b/\b<17592186044416) (x y:List UInt8):ltS (zi pre a x) (zi pre b y)=true↔a<b\/(a=b/\Op.bytesLess x y=true):=by
 have e:∀ s:ByteArray,ByteArray.toList s=bl s:=λs=>by rw [ByteArray.toList_eq]
 have ha2:a.toNat<16 ^ 11:=by omega
 have hb2:b.toNat<16 ^ 11:=by omega
 unfold ltS
 rw [e,e,z4i,z4i,z9b]
 have e2:∀ y z:List UInt8,Op.bytesLess (45::y) (45::z)=Op.bytesLess y z:=z9b [45]
 rw [e2,za0 _ _ _ _ (by rw [z3g,z3g]),zdb 11 _ _ (by omega) (by omega)]
 constructor
 ·rintro (h|⟨h,h2⟩)
  ·left;omega
  ·right
   have h3:=zb0 11 a.toNat 0
   rw [h,zb0] at h3
   simp only [Option.some.injEq] at h3
   rw [Nat.mod_eq_of_lt ha2,Nat.mod_eq_of_lt hb2] at h3
   exact ⟨by omega,h2⟩
 ·rintro (h|⟨rfl,h⟩)
  ·left;omega
  ·exact .inr ⟨rfl,h⟩
def zj8 (pre:ByteArray) (l:List SegA) (D:DiskA):Prop:=∀ s ∈ l,z06 D.fs (zi pre s.base zu)=some (s.file,s.file.length)
structure NewP (pre:ByteArray) (l:List SegA) (D:DiskA):Prop where
 ok:okA D
 segs:z0k 0 l
 last:zj8 pre l D
 ne:l≠[]
 new:(z06 D.fs (zi pre (z2s l) z1u)).isSome=true
 only:∀ n,(z06 D.fs n).isSome=true->(bl (z13 pre)).isPrefixOf (bl n)=true->n=zi pre (z2s l) z1u\/∃ s ∈ l,n=zi pre s.base zu
theorem zvn {pre:ByteArray} {b:Int} (hb:0<=b/\b<17592186044416):z1j pre (zi pre b z1u) zu=none:=z9v (z5y pre hb z1u) (by decide)
theorem zuv {pre:ByteArray} {b:Int} (hb:0<=b/\b<17592186044416):z1j pre (zi pre b zu) z1u=none:=z9v (z5y pre hb zu) (by decide)
theorem zba {pre:ByteArray} {b:Int} (hb:0<=b/\b<17592186044416) (ns:List ByteArray) (D:DiskA) (hr:(z0v D (zi pre b z1u)).1=0):z0t pre (zi pre b z1u::ns) D=z0t pre ns (z0v D (zi pre b z1u)).2:=by
 have h1:z1j pre (zi pre b z1u) z1u=some b.toNat:=z5y pre hb z1u
 have h2:=zvn (pre:=pre) hb
 conv=>lhs;unfold z0t
 rw [h1,h2,if_neg (by rw [hr];rintro ⟨-,h⟩;exact h rfl)]
 simp only [Option.isSome_some,if_true,List.nil_append]
theorem zbc {pre:ByteArray} {b:Int} (hb:0<=b/\b<17592186044416) (ns:List ByteArray) (D:DiskA):z0t pre (zi pre b zu::ns) D=((z0t pre ns D).1,b::(z0t pre ns D).2.1,(z0t pre ns D).2.2):=by
 have h1:z1j pre (zi pre b zu) zu=some b.toNat:=z5y pre hb zu
 have h2:=zuv (pre:=pre) hb
 conv=>lhs;unfold z0t
 rw [h1,h2,if_neg (by rintro ⟨h3,-⟩;cases h3)]
 simp only [Option.isSome_none,Bool.false_eq_true,if_false]
 have e:((b.toNat:Nat):Int)=b:=by omega
 rw [e]
 rfl
theorem NewP.opened {pre:ByteArray} {l:List SegA} {D:DiskA} (h:NewP pre l D) (hg:D.gone=false):∃ D',z36 pre D=(0,l,D')/\Cpl pre l D':=by
 obtain ⟨s0,rest,hl⟩:=List.exists_cons_of_ne_nil h.ne
 have hfg:z2s l=s0.base:=by rw [hl];rfl
 have hb0:=(h.segs.mem s0 (by rw [hl];simp)).1.base
 have hbm:0<=s0.base/\s0.base<17592186044416:=by omega
 have hnew:=h.new
 rw [hfg] at hnew
 have hnl:∀ s ∈ l,zi pre s.base zu≠zi pre s0.base z1u:=λs hs e=>by
  have:=(h.segs.mem s hs).1.base
  exact absurd e.symm (z8p (by omega) (by omega))
 have hnames:z12 (z13 pre) D.fs=zi pre s0.base zu::zi pre s0.base z1u::rest.map λs=>zi pre s.base zu:=by
  refine z6e (z5e h.ok _) ?_ λn=>?_
  ·have hs:=z7v pre h.segs
   rw [hl,List.map_cons,List.pairwise_cons] at hs
   rw [List.pairwise_cons,List.pairwise_cons]
   refine ⟨λm hm=>?_,λm hm=>?_,hs.2⟩
   ·rcases List.mem_cons.1 hm with rfl|hm
    ·exact (zaq pre hbm hbm zu z1u).2 (.inr ⟨rfl,by decide⟩)
    ·exact hs.1 m hm
   ·have h1:=hs.1 m hm
    obtain ⟨t,ht,rfl⟩:=List.mem_map.1 hm
    have hb1:=(h.segs.mem t (by rw [hl];simp [ht])).1.base
    have h2:=(zaq pre hbm (b:=t.base) (by omega) zu zu).1 h1
    rcases h2 with h2|⟨-,h2⟩
    ·exact (zaq pre hbm (b:=t.base) (by omega) z1u zu).2 (.inl h2)
    ·exact absurd h2 (by decide)
  ·rw [z8a]
   constructor
   ·rintro ⟨h1,h2⟩
    rcases h.only n h1 h2 with rfl|⟨s,hs,rfl⟩
    ·rw [hfg];simp
    ·rw [hl] at hs
     rcases List.mem_cons.1 hs with rfl|hs
     ·simp
     ·exact List.mem_cons_of_mem _ (List.mem_cons_of_mem _ (List.mem_map.2 ⟨s,hs,rfl⟩))
   ·intro hn
    rcases List.mem_cons.1 hn with rfl|hn
    ·exact ⟨by rw [h.last s0 (by rw [hl];simp)];rfl,z1m ..⟩
    rcases List.mem_cons.1 hn with rfl|hn
    ·exact ⟨hnew,z1m ..⟩
    ·obtain ⟨s,hs,rfl⟩:=List.mem_map.1 hn
     exact ⟨by rw [h.last s (by rw [hl];simp [hs])];rfl,z1m ..⟩
 rcases z85 (A:=D) (n:=zi pre s0.base z1u) hnew with ⟨r1,-⟩|⟨-,r2,-⟩
 rotate_left
 ·rw [hg] at r2;cases r2
 obtain ⟨-,o1,o2,o3,o4,-,o6⟩:=zda h.ok r1
 have hcpl:Cpl pre l (z0v D (zi pre s0.base z1u)).2:=by
  refine ⟨o1,h.segs,λs hs=>⟨_,by rw [o6,if_neg (hnl s hs)];exact h.last s hs⟩,λn hn hp=>?_⟩
  rw [o6] at hn
  by_cases hm:n=zi pre s0.base z1u
  ·rw [if_pos hm] at hn;cases hn
  ·rw [if_neg hm] at hn
   rcases h.only n hn hp with h1|h1
   ·rw [hfg] at h1;exact absurd h1 hm
   ·exact h1
 refine ⟨_,?_,hcpl⟩
 unfold z36
 rw [hnames,zbc hbm,zba hbm _ _ r1,z7q pre _ λs hs=>(h.segs.mem s (by rw [hl];simp [hs])).1]
 rw [if_neg (by simp)]
 simp only
 have:=z8k (pre:=pre) (D:=(z0v D (zi pre s0.base z1u)).2) (l:=l) (l1:=[]) h.segs hcpl.has
 rw [hl,List.map_cons,List.nil_append] at this
 rw [this,hl]
theorem zfz {pre:ByteArray} {l l1:List SegA} {rest:List Int}:∀ {q:List SegA} {D:DiskA},GoP pre l q D->Calm D->(∀ s ∈ q,s.base<z01 l1)->∃ D',GoP pre l [] D'/\z2a pre (q.map SegA.base++rest) l1 D=z2a pre rest l1 D'
 | [],D,h,_,_=>⟨D,h,rfl⟩
 | s::q,D,h,hc,hq=>by
  obtain ⟨k,hk⟩:=h.hasq s (List.mem_cons_self ..)
  rcases z85 (A:=D) (n:=zi pre s.base zu) (by rw [hk];rfl) with ⟨r1,-⟩|⟨-,r2,-⟩
  rotate_left
  ·rw [hc.gone] at r2;cases r2
  obtain ⟨o1,-⟩:=h.one r1
  obtain ⟨D',d1,d2⟩:=zfz (rest:=rest) (l1:=l1) o1 (z9o hc _) λt ht=>hq t (List.mem_cons_of_mem _ ht)
  refine ⟨D',d1,?_⟩
  rw [List.map_cons,List.cons_append,<- d2]
  conv=>lhs;unfold z2a
  rw [if_pos (hq s (List.mem_cons_self ..)),if_neg (by rw [r1];simp)]
theorem GoP.opened {pre:ByteArray} {r0:SegA} {rs q:List SegA} {D:DiskA} (h:GoP pre (r0::rs) q D) (hc:Calm D) (hs:((r0::(q++rs)).map λs=>zi pre s.base zu).Pairwise λa b=>ltS a b=true) (hq:∀ s ∈ q,s.base<z01 [r0]):∃ D',z36 pre D=(0,r0::rs,D')/\Cpl pre (r0::rs) D':=by
 have hnames:z12 (z13 pre) D.fs=(r0::(q++rs)).map λs=>zi pre s.base zu:=by
  refine z6e (z5e h.ok _) hs λn=>?_
  rw [z8a]
  constructor
  ·rintro ⟨h1,h2⟩
   obtain ⟨s,hs,rfl⟩:=h.only n h1 h2
   refine List.mem_map.2 ⟨s,?_,rfl⟩
   simp only [List.mem_append,List.mem_cons] at hs ⊢
   rcases hs with (h|h)|h
   ·exact .inl h
   ·exact .inr (.inr h)
   ·exact .inr (.inl h)
  ·intro hn
   obtain ⟨s,hs,rfl⟩:=List.mem_map.1 hn
   refine ⟨?_,z1m ..⟩
   rcases List.mem_cons.1 hs with rfl|hs
   ·obtain ⟨k,hk⟩:=h.has s (List.mem_cons_self ..);rw [hk];rfl
   ·rcases List.mem_append.1 hs with hs|hs
    ·obtain ⟨k,hk⟩:=h.hasq s hs;rw [hk];rfl
    ·obtain ⟨k,hk⟩:=h.has s (List.mem_cons_of_mem _ hs);rw [hk];rfl
 have hokS:∀ s ∈ r0::(q++rs),SegOk s:=λs hs=>by
  rcases List.mem_cons.1 hs with rfl|hs
  ·exact (h.segs.mem s (List.mem_cons_self ..)).1
  ·rcases List.mem_append.1 hs with hs|hs
   ·exact h.oks s hs
   ·exact (h.segs.mem s (List.mem_cons_of_mem _ hs)).1
 obtain ⟨D',d1,d2⟩:=zfz (rest:=rs.map SegA.base) (l1:=[r0]) h hc hq
 refine ⟨D',?_,d1.none⟩
 unfold z36
 rw [hnames,z7q pre D hokS,if_neg (by simp)]
 simp only
 have h0:=zd3 (pre:=pre) (D:=D) (l:=[r0]) (l1:=[]) (rest:=(q++rs).map SegA.base) (by
  refine ⟨h.segs.1,h.segs.2.1,trivial⟩) (λs hs=>by rw [List.mem_singleton.1 hs];exact h.has r0 (List.mem_cons_self ..))
 have e:(r0::(q++rs)).map SegA.base=[r0].map SegA.base++(q++rs).map SegA.base:=rfl
 rw [e,h0,List.map_append,List.nil_append,d2]
 exact z8k (pre:=pre) (D:=D') (l:=rs) (l1:=[r0]) h.segs λs hs=>d1.has s (List.mem_cons_of_mem _ hs)
theorem zj8.of {pre:ByteArray} {l:List SegA} {D D':DiskA} (h:zj8 pre l D) (hf:∀ s ∈ l,z06 D'.fs (zi pre s.base zu)=z06 D.fs (zi pre s.base zu)):zj8 pre l D':=λs hs=>by rw [hf s hs];exact h s hs
def z4l:List (Int × List UInt8)->List SegA->List SegA
 | [],l=>l
 | f::fs,l=>if f.1<z01 l then z4l fs l else match z2m f.1 f.2 with
  | none=>l
  | some q=>if q.2=f.2.length then z4l fs (l++[q.1]) else l++[q.1]
structure GF (pre:ByteArray) (l:List SegA) (fs:List (Int × List UInt8)) (D:DiskA):Prop where
 ok:okA D
 calm:Calm D
 segs:z0k 0 l
 has:zel pre l D
 hasf:∀ f ∈ fs,∃ k,z06 D.fs (zi pre f.1 zu)=some (f.2,k)
 rng:∀ f ∈ fs,0<=f.1/\f.1<17592186044416
 lt:∀ f ∈ fs,∀ s ∈ l,s.base<f.1
 nd:fs.Pairwise λa b=>a.1<b.1
 only:∀ n,(z06 D.fs n).isSome=true->(bl (z13 pre)).isPrefixOf (bl n)=true->(∃ s ∈ l,n=zi pre s.base zu)\/∃ f ∈ fs,n=zi pre f.1 zu
theorem GF.none {pre:ByteArray} {l:List SegA} {D:DiskA} (h:GF pre l [] D):Cpl pre l D:=⟨h.ok,h.segs,h.has,λn h1 h2=>by
 rcases h.only n h1 h2 with h|⟨f,hf,-⟩
 ·exact h
 ·cases hf⟩
theorem zi2 {D:DiskA} {n:ByteArray} (hc:Calm D) (h:(z06 D.fs n).isSome=true):(z0v D n).1=0:=by
 rcases z85 (A:=D) (n:=n) h with ⟨r1,-⟩|⟨-,r2,-⟩
 ·exact r1
 ·rw [hc.gone] at r2;cases r2
theorem GF.rem {pre:ByteArray} {l:List SegA} {f:Int × List UInt8} {fs:List (Int × List UInt8)} {D:DiskA} (h:GF pre l (f::fs) D):(z0v D (zi pre f.1 zu)).1=0/\GF pre l fs (z0v D (zi pre f.1 zu)).2/\Fr pre D (z0v D (zi pre f.1 zu)).2/\used (z0v D (zi pre f.1 zu)).2.fs<=used D.fs/\(z0v D (zi pre f.1 zu)).2.fs.length<=D.fs.length:=by
 obtain ⟨k,hk⟩:=h.hasf f (List.mem_cons_self ..)
 have hr:=zi2 h.calm (n:=zi pre f.1 zu) (by rw [hk];rfl)
 obtain ⟨-,o1,o2,o3,o4,-,o6⟩:=zda h.ok hr
 have hf:=h.rng f (List.mem_cons_self ..)
 have hnd:=List.pairwise_cons.1 h.nd
 refine ⟨hr,⟨o1,z9o h.calm _,h.segs,λs hs=>?_,λg hg=>?_,λg hg=>h.rng g (List.mem_cons_of_mem _ hg),λg hg=>h.lt g (List.mem_cons_of_mem _ hg),hnd.2,λn hn hp=>?_⟩,⟨o2,λm hm=>?_⟩,o3,o4⟩
 ·have h1:=(h.segs.mem s hs).1.base
  have h2:=h.lt f (List.mem_cons_self ..) s hs
  rw [o6,if_neg (λe=>by have:=(z5l (by omega) hf e).1;omega)]
  exact h.has s hs
 ·have h1:=h.rng g (List.mem_cons_of_mem _ hg)
  have h2:=hnd.1 g hg
  rw [o6,if_neg (λe=>by have:=(z5l h1 hf e).1;omega)]
  exact h.hasf g (List.mem_cons_of_mem _ hg)
 ·rw [o6] at hn
  by_cases hm:n=zi pre f.1 zu
  ·rw [if_pos hm] at hn;cases hn
  ·rw [if_neg hm] at hn
   rcases h.only n hn hp with h1|⟨g,hg,e⟩
   ·exact .inl h1
   ·rcases List.mem_cons.1 hg with rfl|hg
    ·exact absurd e hm
    ·exact .inr ⟨g,hg,e⟩
 ·rw [o6,if_neg]
  rintro rfl
  rw [z1m] at hm;cases hm
theorem GF.drop {pre:ByteArray}:∀ {fs:List (Int × List UInt8)} {l:List SegA} {D:DiskA},GF pre l fs D->(z2d pre (fs.map Prod.fst) D).1=0/\Cpl pre l (z2d pre (fs.map Prod.fst) D).2/\Calm (z2d pre (fs.map Prod.fst) D).2/\Fr pre D (z2d pre (fs.map Prod.fst) D).2/\used (z2d pre (fs.map Prod.fst) D).2.fs<=used D.fs/\(z2d pre (fs.map Prod.fst) D).2.fs.length<=D.fs.length
 | [],l,D,h=>⟨rfl,h.none,h.calm,.refl _ _,Nat.le_refl _,Nat.le_refl _⟩
 | f::fs,l,D,h=>by
  obtain ⟨r1,r2,r3,r4,r5⟩:=h.rem
  obtain ⟨i1,i2,i3,i4,i5,i6⟩:=r2.drop
  have hun:z2d pre ((f::fs).map Prod.fst) D=z2d pre (fs.map Prod.fst) (z0v D (zi pre f.1 zu)).2:=by
   rw [List.map_cons,z2d,if_neg (by rw [r1];simp)]
  rw [hun]
  exact ⟨i1,i2,i3,r3.trans i4,Nat.le_trans i5 r4,Nat.le_trans i6 r5⟩
theorem zg6 {l:List SegA} (h:z0k 0 l):∀ t ∈ l,t.reach<=z01 l:=λt ht=>by
 obtain ⟨l0,s,rfl⟩:=z2r (List.ne_nil_of_mem ht)
 obtain ⟨h1,h2,h3,h4⟩:=h.front
 rw [z3a]
 rcases List.mem_append.1 ht with ht|ht
 ·have:=h4 t ht
  have:=(z59 h2).1
  omega
 ·rw [List.mem_singleton.1 ht];exact Int.le_refl _
theorem GF.push {pre:ByteArray} {l:List SegA} {f:Int × List UInt8} {fs:List (Int × List UInt8)} {D:DiskA} {s:SegA} {m:Nat} (h:GF pre l (f::fs) D) (hb:¬ f.1<z01 l) (hsc:z2m f.1 f.2=some (s,m)) :
  z0k 0 (l++[s])/\(m=f.2.length->GF pre (l++[s]) fs D):=by
 obtain ⟨c1,c2,c3,c4,c5⟩:=z7u hsc
 have hf:=h.rng f (List.mem_cons_self ..)
 have hnd:=List.pairwise_cons.1 h.nd
 have hsegs:z0k 0 (l++[s]):=h.segs.snoc c1 (by omega) λt ht=>by
  have h1:=zg6 h.segs t ht
  have h2:=h.lt f (List.mem_cons_self ..) t ht
  omega
 refine ⟨hsegs,λhm=>⟨h.ok,h.calm,hsegs,λt ht=>?_,λg hg=>h.hasf g (List.mem_cons_of_mem _ hg),λg hg=>h.rng g (List.mem_cons_of_mem _ hg),λg hg t ht=>?_,hnd.2,λn hn hp=>?_⟩⟩
 ·rcases List.mem_append.1 ht with ht|ht
  ·exact h.has t ht
  ·rw [List.mem_singleton.1 ht,c2]
   obtain ⟨k,hk⟩:=h.hasf f (List.mem_cons_self ..)
   rw [<- c3,hm,List.take_length]
   exact ⟨k,hk⟩
 ·rcases List.mem_append.1 ht with ht|ht
  ·exact h.lt g (List.mem_cons_of_mem _ hg) t ht
  ·rw [List.mem_singleton.1 ht,c2];exact hnd.1 g hg
 ·rcases h.only n hn hp with ⟨t,ht,e⟩|⟨g,hg,e⟩
  ·exact .inl ⟨t,List.mem_append_left _ ht,e⟩
  ·rcases List.mem_cons.1 hg with rfl|hg
   ·exact .inl ⟨s,by simp,by rw [c2];exact e⟩
   ·exact .inr ⟨g,hg,e⟩
theorem GF.cut {pre:ByteArray} {l:List SegA} {f:Int × List UInt8} {fs:List (Int × List UInt8)} {D:DiskA} {s:SegA} {m:Nat} (h:GF pre l (f::fs) D) (hb:¬ f.1<z01 l) (hsc:z2m f.1 f.2=some (s,m)) :
  (cutA' D (zi pre f.1 zu) (m:Nat)).1=0/\GF pre (l++[s]) fs (cutA' D (zi pre f.1 zu) (m:Nat)).2/\Fr pre D (cutA' D (zi pre f.1 zu) (m:Nat)).2/\(cutA' D (zi pre f.1 zu) (m:Nat)).2.fs.length=D.fs.length:=by
 obtain ⟨c1,c2,c3,c4,c5⟩:=z7u hsc
 obtain ⟨hsegs,-⟩:=h.push hb hsc
 obtain ⟨k,hk⟩:=h.hasf f (List.mem_cons_self ..)
 have hf:=h.rng f (List.mem_cons_self ..)
 have hnd:=List.pairwise_cons.1 h.nd
 rcases ziy (A:=D) (n:=zi pre f.1 zu) (k:=(m:Nat)) hk ⟨by omega,by show ((m:Nat):Int)<=((f.2.length:Nat):Int);omega⟩ with ⟨hr,-⟩|⟨-,r2,-⟩
 rotate_left
 ·rw [h.calm.gone] at r2;cases r2
 obtain ⟨-,o1,o2,o3,o4⟩:=zt8 h.ok hr
 have hbm:0<=f.1/\f.1<17592186044416:=hf
 refine ⟨hr,⟨o1,zje h.calm _ _,hsegs,λt ht=>?_,λg hg=>?_,λg hg=>h.rng g (List.mem_cons_of_mem _ hg),λg hg t ht=>?_,hnd.2,λn hn hp=>?_⟩,⟨o2,λn hm=>?_⟩,o3⟩
 ·rcases List.mem_append.1 ht with ht|ht
  ·have h1:=(h.segs.mem t ht).1.base
   have h2:=h.lt f (List.mem_cons_self ..) t ht
   rw [o4,if_neg (λe=>by have:=(z5l (by omega) hf e).1;omega)]
   exact h.has t ht
  ·rw [List.mem_singleton.1 ht,c2,o4,if_pos rfl,hk,<- c3]
   exact ⟨min k m,rfl⟩
 ·have h1:=h.rng g (List.mem_cons_of_mem _ hg)
  have h2:=hnd.1 g hg
  rw [o4,if_neg (λe=>by have:=(z5l h1 hf e).1;omega)]
  exact h.hasf g (List.mem_cons_of_mem _ hg)
 ·rcases List.mem_append.1 ht with ht|ht
  ·exact h.lt g (List.mem_cons_of_mem _ hg) t ht
  ·rw [List.mem_singleton.1 ht,c2];exact hnd.1 g hg
 ·rw [o4] at hn
  have hn2:(z06 D.fs n).isSome=true:=by
   by_cases hm:n=zi pre f.1 zu
   ·rw [hm,hk];rfl
   ·rw [if_neg hm] at hn;exact hn
  rcases h.only n hn2 hp with ⟨t,ht,e⟩|⟨g,hg,e⟩
  ·exact .inl ⟨t,List.mem_append_left _ ht,e⟩
  ·rcases List.mem_cons.1 hg with rfl|hg
   ·exact .inl ⟨s,by simp,by rw [c2];exact e⟩
   ·exact .inr ⟨g,hg,e⟩
 ·rw [o4,if_neg]
  rintro rfl
  rw [z1m] at hm;cases hm
theorem GF.opens {pre:ByteArray}:∀ {fs:List (Int × List UInt8)} {l:List SegA} {D:DiskA},GF pre l fs D->∃ D',z2a pre (fs.map Prod.fst) l D=(0,z4l fs l,D')/\Cpl pre (z4l fs l) D'/\Calm D'/\Fr pre D D'/\used D'.fs<=used D.fs/\D'.fs.length<=D.fs.length
 | [],l,D,h=>⟨D,rfl,h.none,h.calm,.refl _ _,Nat.le_refl _,Nat.le_refl _⟩
 | f::fs,l,D,h=>by
  rw [List.map_cons,z2a,z4l]
  by_cases hb:f.1<z01 l
  ·rw [if_pos hb,if_pos hb]
   obtain ⟨r1,r2,r3,r4,r5⟩:=h.rem
   rw [if_neg (by rw [r1];simp)]
   obtain ⟨D',d1,d2,d3,d4,d5,d6⟩:=r2.opens
   exact ⟨D',d1,d2,d3,r3.trans d4,Nat.le_trans d5 r4,Nat.le_trans d6 r5⟩
  rw [if_neg hb,if_neg hb]
  obtain ⟨k,hk⟩:=h.hasf f (List.mem_cons_self ..)
  cases hsc:z2m f.1 f.2 with
  | none =>
   have e:z1k pre l D f.1=((false,(z0v D (zi pre f.1 zu)).1),l,(z0v D (zi pre f.1 zu)).2):=by
    unfold z1k
    rw [hk]
    simp only
    rw [hsc]
   obtain ⟨r1,r2,r3,r4,r5⟩:=h.rem
   rw [e,r1]
   simp only
   rw [if_neg (by simp),if_neg (by simp)]
   obtain ⟨d1,d2,d3,d4,d5,d6⟩:=r2.drop
   exact ⟨_,by rw [d1],d2,d3,r3.trans d4,Nat.le_trans d5 r4,Nat.le_trans d6 r5⟩
  | some q =>
   obtain ⟨s,m⟩:=q
   by_cases hm:m=f.2.length
   ·have e:z1k pre l D f.1=((true,0),l++[s],D):=by
     unfold z1k
     rw [hk]
     simp only
     rw [hsc]
     simp only
     rw [if_pos hm]
    rw [e,if_neg (by simp),if_pos rfl]
    simp only
    rw [if_pos hm]
    exact ((h.push hb hsc).2 hm).opens
   ·have e:z1k pre l D f.1=((false,(cutA' D (zi pre f.1 zu) (m:Nat)).1),l++[s],(cutA' D (zi pre f.1 zu) (m:Nat)).2):=by
     unfold z1k
     rw [hk]
     simp only
     rw [hsc]
     simp only
     rw [if_neg hm]
    obtain ⟨c1,c2,c3,c7⟩:=h.cut hb hsc
    rw [e,c1]
    simp only
    rw [if_neg (by simp),if_neg (by simp),if_neg hm]
    obtain ⟨d1,d2,d3,d4,d5,d6⟩:=c2.drop
    have c4:=zkv D (zi pre f.1 zu) (m:Nat)
    exact ⟨_,by rw [d1],d2,d3,c3.trans d4,Nat.le_trans d5 c4,Nat.le_trans d6 (Nat.le_of_eq c7)⟩
theorem zaa (pre:ByteArray) (D:DiskA):∀ {bs:List Int},(∀ b ∈ bs,0<=b/\b<17592186044416)->z0t pre (bs.map λb=>zi pre b zu) D=(0,bs,D)
 | [],_=>rfl
 | b::bs,h=>by
  rw [List.map_cons,zbc (h b (List.mem_cons_self ..)),zaa pre D λc hc=>h c (List.mem_cons_of_mem _ hc)]
structure LaidP (pre:ByteArray) (fs:List (Int × List UInt8)) (D:DiskA):Prop where
 ok:okA D
 calm:Calm D
 hasf:∀ f ∈ fs,∃ k,z06 D.fs (zi pre f.1 zu)=some (f.2,k)
 rng:∀ f ∈ fs,0<=f.1/\f.1<17592186044416
 nd:fs.Pairwise λa b=>a.1<b.1
 new:(z06 D.fs (zi pre 0 z1u)).isSome=true
 only:∀ n,(z06 D.fs n).isSome=true->(bl (z13 pre)).isPrefixOf (bl n)=true->n=zi pre 0 z1u\/∃ f ∈ fs,n=zi pre f.1 zu
theorem zn1 (pre:ByteArray) {fs:List (Int × List UInt8)} (hr:∀ f ∈ fs,0<=f.1/\f.1<17592186044416) (hnd:fs.Pairwise λa b=>a.1<b.1):((fs.map Prod.fst).map λb=>zi pre b zu).Pairwise λa b=>ltS a b=true:=by
 rw [List.map_map,List.pairwise_map]
 refine hnd.imp_of_mem λha hb h=>?_
 exact (zie pre (hr _ ha) (hr _ hb) zu).2 h
theorem LaidP.opened {pre:ByteArray} {fs:List (Int × List UInt8)} {D:DiskA} (h:LaidP pre fs D):∃ D',z36 pre D=(0,z4l fs [],D')/\Cpl pre (z4l fs []) D'/\Calm D'/\Fr pre D D'/\used D'.fs<=used D.fs/\D'.fs.length<=D.fs.length:=by
 have h0:(0:Int)<=0/\(0:Int)<17592186044416:=by omega
 have hr:=zi2 h.calm h.new
 obtain ⟨-,o1,o2,o3,o4,-,o6⟩:=zda h.ok hr
 have hnl:∀ f ∈ fs,zi pre f.1 zu≠zi pre 0 z1u:=λf hf e=>z8p h0 (h.rng f hf) e.symm
 have hgf:GF pre [] fs (z0v D (zi pre 0 z1u)).2:=by
  refine ⟨o1,z9o h.calm _,trivial,(λs hs=>by cases hs),λf hf=>?_,h.rng,(λf hf s hs=>by cases hs),h.nd,λn hn hp=>?_⟩
  ·rw [o6,if_neg (hnl f hf)];exact h.hasf f hf
  ·rw [o6] at hn
   by_cases hm:n=zi pre 0 z1u
   ·rw [if_pos hm] at hn;cases hn
   ·rw [if_neg hm] at hn
    rcases h.only n hn hp with h1|h1
    ·exact absurd h1 hm
    ·exact .inr h1
 have hfr:Fr pre D (z0v D (zi pre 0 z1u)).2:=⟨o2,λm hm=>by
  rw [o6,if_neg]
  rintro rfl
  rw [z1m] at hm;cases hm⟩
 obtain ⟨D',d1,d2,d3,d4,d5,d6⟩:=hgf.opens
 refine ⟨D',?_,d2,d3,hfr.trans d4,Nat.le_trans d5 o3,Nat.le_trans d6 o4⟩
 have hfiles:z0t pre (z12 (z13 pre) D.fs) D=(0,fs.map Prod.fst,(z0v D (zi pre 0 z1u)).2):=by
  have hmem:∀ n,n ∈ z12 (z13 pre) D.fs↔n=zi pre 0 z1u\/∃ f ∈ fs,n=zi pre f.1 zu:=λn=>by
   rw [z8a]
   constructor
   ·rintro ⟨h1,h2⟩;exact h.only n h1 h2
   ·rintro (rfl|⟨f,hf,rfl⟩)
    ·exact ⟨h.new,z1m ..⟩
    ·obtain ⟨k,hk⟩:=h.hasf f hf
     exact ⟨by rw [hk];rfl,z1m ..⟩
  have hsort:=zn1 pre h.rng h.nd
  have hlt:∀ f ∈ fs,0<f.1->ltS (zi pre 0 z1u) (zi pre f.1 zu)=true:=λf hf hp=>(zaq pre h0 (h.rng f hf) z1u zu).2 (.inl hp)
  have hpos:(∀ f ∈ fs,0<f.1)\/∃ f fs',fs=f::fs'/\f.1=0/\∀ g ∈ fs',0<g.1:=by
   cases hfs:fs with
   | nil=>exact .inl λf hf=>by cases hf
   | cons f fs' =>
    have hnd:=h.nd
    rw [hfs,List.pairwise_cons] at hnd
    have hf:=h.rng f (by rw [hfs];simp)
    by_cases hf0:f.1=0
    ·exact .inr ⟨f,fs',rfl,hf0,λg hg=>by have:=hnd.1 g hg;omega⟩
    ·refine .inl λg hg=>?_
     rcases List.mem_cons.1 hg with rfl|hg
     ·omega
     ·have:=hnd.1 g hg;omega
  rcases hpos with hpos|⟨f,fs',hfs,hf0,hpos⟩
  ·have hn:z12 (z13 pre) D.fs=zi pre 0 z1u::(fs.map Prod.fst).map λb=>zi pre b zu:=by
    refine z6e (z5e h.ok _) (List.pairwise_cons.2 ⟨λm hm=>?_,hsort⟩) λn=>?_
    ·obtain ⟨b,hb,rfl⟩:=List.mem_map.1 hm
     obtain ⟨f,hf,rfl⟩:=List.mem_map.1 hb
     exact hlt f hf (hpos f hf)
    ·rw [hmem,List.mem_cons]
     constructor
     ·rintro (e|⟨f,hf,e⟩)
      ·exact .inl e
      ·exact .inr (List.mem_map.2 ⟨f.1,List.mem_map.2 ⟨f,hf,rfl⟩,e.symm⟩)
     ·rintro (e|e)
      ·exact .inl e
      ·obtain ⟨b,hb,rfl⟩:=List.mem_map.1 e
       obtain ⟨f,hf,rfl⟩:=List.mem_map.1 hb
       exact .inr ⟨f,hf,rfl⟩
   rw [hn,zba h0 _ _ hr,zaa pre _ λb hb=>?_]
   obtain ⟨f,hf,rfl⟩:=List.mem_map.1 hb
   exact h.rng f hf
  ·subst hfs
   have hs2:((f::fs').map Prod.fst).map (λb=>zi pre b zu)=zi pre 0 zu::(fs'.map Prod.fst).map λb=>zi pre b zu:=by
    rw [List.map_cons,List.map_cons,hf0]
   rw [hs2,List.pairwise_cons] at hsort
   have hn:z12 (z13 pre) D.fs=zi pre 0 zu::zi pre 0 z1u::(fs'.map Prod.fst).map λb=>zi pre b zu:=by
    refine z6e (z5e h.ok _) (List.pairwise_cons.2 ⟨λm hm=>?_,List.pairwise_cons.2 ⟨λm hm=>?_,hsort.2⟩⟩) λn=>?_
    ·rcases List.mem_cons.1 hm with rfl|hm
     ·exact (zaq pre h0 h0 zu z1u).2 (.inr ⟨rfl,by decide⟩)
     ·exact hsort.1 m hm
    ·obtain ⟨b,hb,rfl⟩:=List.mem_map.1 hm
     obtain ⟨g,hg,rfl⟩:=List.mem_map.1 hb
     exact hlt g (by simp [hg]) (hpos g hg)
    ·rw [hmem,List.mem_cons,List.mem_cons]
     constructor
     ·rintro (e|⟨g,hg,e⟩)
      ·exact .inr (.inl e)
      ·rcases List.mem_cons.1 hg with rfl|hg
       ·rw [hf0] at e;exact .inl e
       ·exact .inr (.inr (List.mem_map.2 ⟨g.1,List.mem_map.2 ⟨g,hg,rfl⟩,e.symm⟩))
     ·rintro (e|e|e)
      ·exact .inr ⟨f,by simp,by rw [hf0];exact e⟩
      ·exact .inl e
      ·obtain ⟨b,hb,rfl⟩:=List.mem_map.1 e
       obtain ⟨g,hg,rfl⟩:=List.mem_map.1 hb
       exact .inr ⟨g,by simp [hg],rfl⟩
   rw [hn,zbc h0,zba h0 _ _ hr,zaa pre _ λb hb=>?_]
   ·rw [List.map_cons,hf0]
   ·obtain ⟨g,hg,rfl⟩:=List.mem_map.1 hb
    exact h.rng g (by simp [hg])
 unfold z36
 rw [hfiles,if_neg (by simp)]
 exact d1
section
variable {w:World} {l r:List HP} {lg rr:Nat} {R:RefM} {A:LogA} {D:DiskA}
theorem zl3 {r1 r2:List HP} [hf:Fo l lgP lg A r1] [hf2:Fo r1 dk A.d D r2] [hf3:Fo r2 rfP rr R r] [hok:okR R r] (heq:A.l=R.l) (hhas:zel A.pre A.l D) (hs:Sat w l) :
  Ret P F.a105 #[.pointer (some ⟨lg,0,none⟩),.pointer (some ⟨rr,0,none⟩)] w λvs w'=>vs=[.bool true]/\Sat w' (lgP lg A::dk A.d D::rfP rr R::r) :=
 zmi _ _ <| by
  unfold zxa
  have hs:=hs.perm (hf.perm.trans (.cons _ (hf2.perm.trans (.cons _ hf3.perm))))
  clear hf hf2 hf3
  have hsegs:=hok.segs
  rw [<- heq] at hsegs
  have hlen:A.l.length<=1000000:=by rw [heq,zao];exact hok.len
  have hall:(z0o A.l).length<=1000000:=by rw [heq,z88,List.length_map];exact hok.all
  have hnx:=hsegs.next (Int.le_refl 0)
  refine zx (λq w'=>q=(false,())/\Sat w' (lgP lg A::dk A.d D::rfP rr R::r)) ?_ ?_
  ·refine z0j ?_ (by simp)
   obtain ⟨M,hM,hs⟩:=z7s hs
   have hMl:M.l=A.l:=congrArg LogA.l hM
   have hll:M.l.length=M.SM.length:=List.length_map ..
   refine za (zgn (lg:=lg) hs) λ_ w' hs=>?_
   obtain ⟨rfl,hs⟩:=hs
   refine ze ?_
   refine za (zv8 (a:=rr) hs) λ_ w' hs=>?_
   obtain ⟨rfl,hs⟩:=hs
   refine ze ?_
   refine z0j ?_ (by rw [hMl,heq];simp)
   refine za (zay (lg:=lg) (by rw [<- hll,hMl];omega) hs) λ_ w' hs=>?_
   obtain ⟨rfl,hs⟩:=hs
   refine ze ?_
   refine za (zov (a:=rr) hs) λ_ w' hs=>?_
   obtain ⟨rfl,hs⟩:=hs
   refine ze ?_
   refine z0j ?_ (by rw [hMl,heq];simp)
   have hs:Sat w' (lgQ lg M::dk A.d D::rfP rr R::r):=hs.sub
   have hs:=z5k M hs
   rw [hM] at hs
   refine za (z03h (lg:=lg) (A:=A) (D:=D) hsegs hhas hlen hall hs) λ_ w' hs=>?_
   obtain ⟨z,outs,rfl,hmap,hs⟩:=hs
   refine ze ?_
   refine za (z026 (a:=rr) hs) λ_ w' hs=>?_
   obtain ⟨y,rfl,hs⟩:=hs
   refine ze ?_
   have hs:Sat w' (z0a outs::slc T.a1 7 y (R.bs.flatMap zw)::slc T.a1 7 z (outs.flatMap zw)::lgP lg A::dk A.d D::rfP rr R::r):=hs.sub
   have hmp:outs.map BatM.p=R.bs.map BatM.p:=by rw [hmap,heq,z88]
   have hol:outs.length<=1000000:=by
    have:=congrArg List.length hmp
    simp only [List.length_map] at this
    rw [this];exact hok.all
   have hvo:∀ b ∈ outs,z0c b=0:=λb hb=>by
    have h1:b.p ∈ z0o A.l:=by rw [<- hmap];exact List.mem_map.2 ⟨b,hb,rfl⟩
    obtain ⟨s,hs,hbs⟩:=List.mem_flatMap.1 h1
    exact ((hsegs.mem s hs).1.bs.valid _ hbs).1
   refine za (zrv z y outs R.bs hmp inferInstance inferInstance (λb hb=>zh5 hb) (λb hb=>by have:=hok.rd b hb;infer_instance) (by omega) (λb hb=>by have:=(z2p (hvo b hb)).1;omega) hs) λ_ w' hs=>?_
   obtain ⟨rfl,hs⟩:=hs
   refine ze ?_
   exact zj ⟨rfl,hs.sub⟩
  rintro _ w2 ⟨rfl,hs⟩
  refine z0j ?_ (by simp)
  obtain ⟨M,hM,hs⟩:=z7s hs
  have hMl:M.l=A.l:=congrArg LogA.l hM
  have hll:M.l.length=M.SM.length:=List.length_map ..
  refine za (zgh (lg:=lg) (by rw [<- hll,hMl];omega) hs) λ_ w' hs=>?_
  obtain ⟨z,rfl,hs⟩:=hs
  refine ze ?_
  obtain ⟨u,hs⟩:=z77 (hs.pick [3])
  have hls:=hs.slen z (xs:=M.l.map SegA.base) (enc:=z2t)
  have hlu:=hs.slen u (xs:=R.SR) (enc:=z0z)
  have hlR:R.l.length=R.SR.length:=zao
  rw [List.length_map,hMl,heq,hlR] at hls
  refine zy ?_
  refine zd hs ?_
  refine z0j ?_ (by omega)
  have hfin:∀ {w:World},Sat w (pt rr (.cells #[.int .i64 R.seg,.int .i64 R.gap,.slice u.a u.len u.cap] T.a35)::slc T.a37 3 u (R.SR.flatMap z0z)::HP.all (R.SR.map z2b)::slc T.a11 1 z ((M.l.map SegA.base).flatMap z2t)::lgQ lg M::dk A.d D::r)->Sat w (lgP lg A::dk A.d D::rfP rr R::r):=λhs=>by
   have hs:=z3v R hs
   have hs:Sat _ (lgQ lg M::dk A.d D::rfP rr R::r):=hs.sub
   have hs:=z5k M hs
   rw [hM] at hs
   exact hs
  refine zx (λ_ w'=>Sat w' (lgP lg A::dk A.d D::rfP rr R::r)) ?_ ?_
  rotate_left
  ·rintro _ w3 hs
   exact ⟨rfl,rfl,hs⟩
  refine z0e (λm v w=>∃ i:Nat,v=((i:Int),())/\i<=R.SR.length/\R.SR.length-i=m/\Sat w (pt rr (.cells #[.int .i64 R.seg,.int .i64 R.gap,.slice u.a u.len u.cap] T.a35)::slc T.a37 3 u (R.SR.flatMap z0z)::HP.all (R.SR.map z2b)::slc T.a11 1 z ((M.l.map SegA.base).flatMap z2t)::lgQ lg M::dk A.d D::r)) R.SR.length ⟨0,rfl,by omega,rfl,hs⟩ ?_
  clear hs
  rintro m _ w ⟨i,rfl,hi,hm,hs⟩
  refine zt ?_
  refine zk (λhcc=>?_) λhcc=>?_
  rotate_left
  ·exact zv (zj (hfin hs))
  have hln:=hok.len
  have hil:i<R.SR.length:=by omega
  have hil2:i<(M.l.map SegA.base).length:=by rw [List.length_map,hMl,heq,hlR];exact hil
  have hbase:(M.l.map SegA.base)[i]=R.SR[i].base:=by
   have e:M.l=R.l:=hMl.trans heq
   simp only [e,RefM.l,List.map_map,List.getElem_map]
   rfl
  refine wp_lt ?_
  refine z0i hs λw' hs=>?_
  refine z24 hs (xs:=M.l.map SegA.base) (enc:=z2t) i hil2 ?_
  refine zy ?_
  refine zd hs ?_
  refine zkf hs (xs:=R.SR) (enc:=z0z) i hil ?_
  refine zm ?_
  refine z0j ?_ (by rw [hbase];simp)
  rw [wS (i:=i) (by omega)]
  exact z0q (R.SR.length-(i+1)) ⟨i+1,rfl,by omega,rfl,hs⟩
end
section
variable {w:World} {l r:List HP} {lg d:Nat} {D:DiskA} {A:LogA}
theorem zja (k v:ByteArray) (hs:Sat w l):Ret P F.a104 #[.string k,.string v] w λvs w'=>∃ x:Sl,vs=[.agg (zw (z1s k v x)).toArray]/\Sat w' (slc T.a3 4 x ((z1s k v x).rs.flatMap z03)::l) :=
 zm4 k v <| by
  unfold zwj
  refine z05 hs λa0 w' hs=>?_
  refine zdp hs (enc:=z03) [(⟨k,v,false,0⟩:RecM)] λx w' hs=>?_
  refine z09 hs λw' hs=>?_
  refine z02 hs ?_
  refine ⟨rfl,x,rfl,?_⟩
  have hs:Sat w' (pt a0 _::slc T.a3 4 x ((z1s k v x).rs.flatMap z03)::l):=hs
  exact hs.tail
theorem z007 (b:BatM) (x:Sl) {r1:List HP} [hf:Fo l lgP lg A r1] [hf2:Fo r1 dk A.d D r] (hlen:A.l.length<=1000000) (hok:z0k 0 A.l) (hfl:∀ s ∈ A.l,s.file.length<=500000000)
  (hx:FocR r x 7 ([b].flatMap zw)) (hb:FocR r b.x 4 (b.rs.flatMap z03)) (hs:Sat w l) :
  Ret P F.a51 #[.pointer (some ⟨lg,0,none⟩),x.v] w λvs w'=>vs=[.int .i64 (z0s A.pre A.seg A.l D [b]).1.1,.int .i64 (z0s A.pre A.seg A.l D [b]).1.2] /\
   Sat w' (lgP lg (A.set (z0s A.pre A.seg A.l D [b]).2.1)::dk A.d (z0s A.pre A.seg A.l D [b]).2.2::r) :=
 zit x [b] hlen hok hfl (by show 1<=900;omega) hx (λc hc=>by
  simp only [List.mem_cons,List.not_mem_nil,or_false] at hc
  subst hc
  exact hb) hs
theorem zkj {l:List SegA} {n:Nat} {ns:List Nat} (h:l.map (λs=>s.file.length)=ns) (hn:∀ x ∈ ns,x<=n):∀ s ∈ l,s.file.length<=n:=λs hs=>hn _ (by rw [<- h];exact List.mem_map.2 ⟨s,hs,rfl⟩)
set_option maxHeartbeats 1000000 in
theorem zus (hs:Sat w l):Ret P F.a99 #[] w λvs w'=>vs=[.bool true]/\Sat w' l :=
 z9c <| by
  unfold z83
  refine za (zt5 1000 (by omega) hs) λ_ w' hs=>?_
  obtain ⟨d,rfl,hs⟩:=hs
  refine ⟨(some ⟨d,0,none⟩,0,()),rfl,trivial,z37 _ _ ?_⟩
  refine wp_lt ?_
  have hs:Sat w' (dk d aD0::l):=hs
  refine za (zgo (d:=d) (D:=aD0) aP 64 1 (by kernel_rfl) ⟨by decide,by decide⟩ rfl hs) λ_ w' hs=>?_
  rw [zyl] at hs
  rcases hs with ⟨he,-,-⟩|⟨-,lg,rfl,hs⟩
  ·exact absurd rfl he
  refine ⟨(some ⟨lg,0,none⟩,0,()),rfl,trivial,z37 _ _ ?_⟩
  refine wp_lt ?_
  refine z0j ?_ (by simp)
  have hs:Sat w' (lgP lg ⟨d,aP,64,1,[]⟩::dk d aD0::l):=hs
  have step:∀ {w:World} {L:List SegA} {DD:DiskA} {X:List HP} (y x:Sl),Sat w (slc T.a1 7 x ([z1s (ByteArray.mk #[97]) (ByteArray.mk #[120]) y].flatMap zw)::slc T.a3 4 y ((z1s (ByteArray.mk #[97]) (ByteArray.mk #[120]) y).rs.flatMap z03)::lgP lg ⟨d,aP,64,1,L⟩::dk d DD::l)->L.length<=1000000->z0k 0 L->(∀ s ∈ L,s.file.length<=500000000) ->
    Ret P F.a51 #[.pointer (some ⟨lg,0,none⟩),x.v] w λvs w'=>vs=[.int .i64 (z0s aP 64 L DD [aB]).1.1,.int .i64 (z0s aP 64 L DD [aB]).1.2]/\Sat w' (lgP lg ⟨d,aP,64,1,(z0s aP 64 L DD [aB]).2.1⟩::dk d (z0s aP 64 L DD [aB]).2.2::l):=by
   intro w L DD X y x hs h1 h2 h3
   have h:=z007 (lg:=lg) (A:=⟨d,aP,64,1,L⟩) (D:=DD) (z1s (ByteArray.mk #[97]) (ByteArray.mk #[120]) y) x h1 h2 h3 inferInstance (FocR.tail (h:=FocR.head):FocR (slc T.a1 7 x ([z1s (ByteArray.mk #[97]) (ByteArray.mk #[120]) y].flatMap zw)::slc T.a3 4 y ((z1s (ByteArray.mk #[97]) (ByteArray.mk #[120]) y).rs.flatMap z03)::l) y 4 ((z1s (ByteArray.mk #[97]) (ByteArray.mk #[120]) y).rs.flatMap z03)) hs
   have e:z0s aP 64 L DD [z1s (ByteArray.mk #[97]) (ByteArray.mk #[120]) y]=z0s aP 64 L DD [aB]:=by
    rw [<- zsx,<- zsx aP 64 L DD [aB]]
    rfl
   refine h.mono λvs w' ⟨hv,hs⟩=>⟨?_,?_⟩
   ·rw [hv]
    show [Value.int .i64 (z0s aP 64 L DD [z1s (ByteArray.mk #[97]) (ByteArray.mk #[120]) y]).1.1,Value.int .i64 (z0s aP 64 L DD [z1s (ByteArray.mk #[97]) (ByteArray.mk #[120]) y]).1.2]=_
    rw [e]
   ·have hs:Sat w' (lgP lg ⟨d,aP,64,1,(z0s aP 64 L DD [z1s (ByteArray.mk #[97]) (ByteArray.mk #[120]) y]).2.1⟩::dk d (z0s aP 64 L DD [z1s (ByteArray.mk #[97]) (ByteArray.mk #[120]) y]).2.2::slc T.a1 7 x ([z1s (ByteArray.mk #[97]) (ByteArray.mk #[120]) y].flatMap zw)::slc T.a3 4 y ((z1s (ByteArray.mk #[97]) (ByteArray.mk #[120]) y).rs.flatMap z03)::l):=hs
    rw [e] at hs
    exact hs.sub
  refine za (zja _ _ hs) λ_ w' hs=>?_
  obtain ⟨y1,rfl,hs⟩:=hs
  refine ⟨(0,0,0,0,0,0,y1,()),rfl,trivial,zbf _ _ _ _ _ _ _ ?_⟩
  refine zdp hs (enc:=zw) [z1s (ByteArray.mk #[97]) (ByteArray.mk #[120]) y1] λx1 w' hs=>?_
  refine za (step (X:=[]) y1 x1 hs (by decide) trivial (λs hs=>by cases hs)) λ_ w' hs=>?_
  obtain ⟨hv,hs⟩:=hs
  have hv:_=[Value.int .i64 aS1.1.1,Value.int .i64 aS1.1.2]:=hv
  have hs:Sat w' (lgP lg ⟨d,aP,64,1,aS1.2.1⟩::dk d aS1.2.2::l):=hs
  have k1:z0k 0 aS1.2.1:=zia trivial
  rw [z041] at hv
  subst hv
  refine ⟨(0,0,()),rfl,trivial,z37 _ _ ?_⟩
  refine wp_lt ?_
  refine wp_lt ?_
  refine za (zja _ _ hs) λ_ w' hs=>?_
  obtain ⟨y2,rfl,hs⟩:=hs
  refine ⟨(0,0,0,0,0,0,y2,()),rfl,trivial,zbf _ _ _ _ _ _ _ ?_⟩
  refine zdp hs (enc:=zw) [z1s (ByteArray.mk #[97]) (ByteArray.mk #[120]) y2] λx2 w' hs=>?_
  refine za (step (X:=[]) y2 x2 hs (by rw [zx5.1];decide) k1 (zkj zx5.2 (by simp))) λ_ w' hs=>?_
  obtain ⟨hv,hs⟩:=hs
  have hv:_=[Value.int .i64 aS2.1.1,Value.int .i64 aS2.1.2]:=hv
  have hs:Sat w' (lgP lg ⟨d,aP,64,1,aS2.2.1⟩::dk d aS2.2.2::l):=hs
  have k2:z0k 0 aS2.2.1:=zia k1
  rw [z04b] at hv
  subst hv
  refine ⟨(1,0,()),rfl,trivial,z37 _ _ ?_⟩
  refine wp_lt ?_
  refine wp_lt ?_
  refine za (zja _ _ hs) λ_ w' hs=>?_
  obtain ⟨y3,rfl,hs⟩:=hs
  refine ⟨(0,0,0,0,0,0,y3,()),rfl,trivial,zbf _ _ _ _ _ _ _ ?_⟩
  refine zdp hs (enc:=zw) [z1s (ByteArray.mk #[97]) (ByteArray.mk #[120]) y3] λx3 w' hs=>?_
  refine za (step (X:=[]) y3 x3 hs (by rw [zxh.1];decide) k2 (zkj zxh.2 (by simp))) λ_ w' hs=>?_
  obtain ⟨hv,hs⟩:=hs
  have hv:_=[Value.int .i64 aS3.1.1,Value.int .i64 aS3.1.2]:=hv
  have hs:Sat w' (lgP lg ⟨d,aP,64,1,aS3.2.1⟩::dk d aS3.2.2::l):=hs
  rw [z049] at hv
  subst hv
  refine ⟨(2,0,()),rfl,trivial,z37 _ _ ?_⟩
  refine wp_lt ?_
  refine wp_lt ?_
  obtain ⟨M,hM,hs⟩:=z7s hs
  have hMl:M.l=aS3.2.1:=congrArg LogA.l hM
  have hMd:M.d=d:=congrArg LogA.d hM
  refine za (zgh (lg:=lg) (by have:=z03t;rw [<- hMl] at this;have h2:M.l.length=M.SM.length:=List.length_map ..;omega) hs) λ_ w' hs=>?_
  obtain ⟨z,rfl,hs⟩:=hs
  refine ze ?_
  rw [hMl,zz9] at hs
  have hlz:=hs.slen z (xs:=([0,2]:List Int)) (enc:=z2t)
  obtain ⟨p,hp,hpf⟩:∃ p,z06 aS3.2.2.fs (ByteArray.mk #[112,45,48,48,48,48,48,48,48,48,48,48,48,46,108,111,103])=some p/\(p.1.length,p.1[0]?,p.1[4]?)=(53,some 3,some 83):=by
   have:=zyu
   rw [Option.map_eq_some_iff] at this
   exact this
  simp only [Prod.mk.injEq] at hpf
  obtain ⟨q1,q2,q3⟩:=hpf
  refine za (ztu (d:=d) (D:=aS3.2.2) _ p hp hs) λ_ w' hs=>?_
  obtain ⟨u,rfl,hs⟩:=hs
  refine ⟨(u,0,()),rfl,trivial,z37 _ _ ?_⟩
  refine wp_lt ?_
  have hlu:=hs.slen u (xs:=p.1) (enc:=zg)
  have hq2:(p.1[0]'(by omega))=3:=by
   rw [List.getElem?_eq_getElem (by omega)] at q2;exact Option.some.inj q2
  have hq3:(p.1[4]'(by omega))=83:=by
   rw [List.getElem?_eq_getElem (by omega)] at q3;exact Option.some.inj q3
  refine zh3 hs (xs:=([0,2]:List Int)) (enc:=z2t) 1 (by decide) ?_
  refine zh3 hs (xs:=p.1) (enc:=zg) 0 (by omega) ?_ (by omega)
  refine zh3 hs (xs:=p.1) (enc:=zg) 4 (by omega) ?_
  refine wp_lt ?_
  refine ⟨rfl,?_,hs.sub⟩
  rw [hq2,hq3,hlz,hlu,q1]
  rfl
theorem nil_append (x:Sl) (hs:Sat w l):Ret P F.a51 #[.pointer none,x.v] w λvs w'=>vs=[.int .i64 0,.int .i64 1]/\Sat w' l :=
 zfn _ x <| by
  unfold zv2
  refine z1b ?_ (by rfl)
  exact ⟨rfl,rfl,hs⟩
end
section
variable {w:World} {l r:List HP}
theorem z02f {a:Nat} {seg gap:Int} (hs:Sat w (pt a (.cells #[.int .i64 seg,.int .i64 gap,.slice none 0 0] T.a35)::l)):Sat w (rfP a ⟨seg,gap,[]⟩::l):=by
 have h1:Sat w (slc T.a37 3 ⟨none,0,0⟩ (([]:List SegR).flatMap z0z)::HP.all (([]:List SegR).map z2b)::pt a (.cells #[.int .i64 seg,.int .i64 gap,.slice none 0 0] T.a35)::l):=(Sat.all_nil hs).slc_nil
 exact z3v ⟨seg,gap,[]⟩ (z:=⟨none,0,0⟩) (h1.pick [2])
end
def InP (pool:List BatM) (R:RefM):Prop:=∀ b ∈ R.bs,∃ c ∈ pool,b.x=c.x/\b.rs=c.rs
structure Grw (pre:ByteArray) (D:DiskA) (l':List SegA) (D':DiskA):Prop where
 cpl:Cpl pre l' D'
 fr:Fr pre D D'
 calm:Calm D'
 used:used D'.fs<=used D.fs+705
 len:D'.fs.length<=D.fs.length+1
theorem zhl {w:World} {l:List HP} {outs:List BatM} {b:BatM} {z:Sl} (hs:Sat w (slc T.a3 4 z (b.rs.flatMap z03)::z0a outs::l)):Sat w (z0a (outs++[b.at z])::l):=zl6 (b:=b.at z) hs
theorem InP.rd {pool:List BatM} {R:RefM} {l:List HP} (h:InP pool R):∀ b ∈ R.bs,FocR (z0a pool::l) b.x 4 (b.rs.flatMap z03):=λb hb=>by
 obtain ⟨c,hc,e1,e2⟩:=h b hb
 rw [e1,e2]
 exact zh5 hc
theorem InP.more {pool:List BatM} {R:RefM} (h:InP pool R) (x:BatM):InP (pool++[x]) R:=λb hb=>by
 obtain ⟨c,hc,e⟩:=h b hb
 exact ⟨c,List.mem_append_left _ hc,e⟩
theorem InP.app {pool:List BatM} {R R':RefM} {b0:BatM} {z:Sl} (h:InP pool R) (hR:∀ b ∈ R'.bs,b ∈ R.bs\/(b.x=z/\b.rs=(z0l b0).rs)):InP (pool++[(z0l b0).at z]) R':=λb hb=>by
 rcases hR b hb with h1|⟨h1,h2⟩
 ·exact h.more _ b h1
 ·exact ⟨(z0l b0).at z,by simp,h1,h2⟩
abbrev qP:ByteArray:=ByteArray.mk #[113]
abbrev qqP:ByteArray:=ByteArray.mk #[113,113]
theorem z6o:z5a qP=true:=by kernel_rfl
theorem zst:z5a qqP=true:=by kernel_rfl
theorem z003:qP≠qqP:=λh=>by have:=congrArg ByteArray.size h;cases this
structure ApP (s:Int) (k:Nat) (D:DiskA) (R S:RefM) (pool:List BatM):Prop where
 rs:R.seg=s
 ss:S.seg=s
 c1:Cpl qP R.l D
 c2:Cpl qqP S.l D
 calm:Calm D
 room:D.room=1048576
 used:used D.fs<=705*k
 len:D.fs.length<=k
 in1:InP pool R
 in2:InP pool S
theorem ApP.left {s:Int} {k:Nat} {D D':DiskA} {R R' S:RefM} {pool:List BatM} {b0:BatM} {z:Sl} (h:ApP s k D R S pool) (hg:Grw qP D R'.l D') (h1:R'.seg=R.seg) (hR:∀ b ∈ R'.bs,b ∈ R.bs\/(b.x=z/\b.rs=(z0l b0).rs)):ApP s (k+1) D' R' S (pool++[(z0l b0).at z]) :=
 ⟨h1.trans h.rs,h.ss,hg.cpl,h.c2.frame hg.cpl.ok z6o zst z003 hg.fr,hg.calm,hg.fr.room.trans h.room,by have:=hg.used;have:=h.used;omega,by have:=hg.len;have:=h.len;omega,h.in1.app hR,h.in2.more _⟩
theorem ApP.right {s:Int} {k:Nat} {D D':DiskA} {R S S':RefM} {pool:List BatM} {b0:BatM} {z:Sl} (h:ApP s k D R S pool) (hg:Grw qqP D S'.l D') (h1:S'.seg=S.seg) (hR:∀ b ∈ S'.bs,b ∈ S.bs\/(b.x=z/\b.rs=(z0l b0).rs)):ApP s (k+1) D' R S' (pool++[(z0l b0).at z]) :=
 ⟨h.rs,h1.trans h.ss,h.c1.frame hg.cpl.ok zst z6o z003.symm hg.fr,hg.cpl,hg.calm,hg.fr.room.trans h.room,by have:=hg.used;have:=h.used;omega,by have:=hg.len;have:=h.len;omega,h.in1.more _,h.in2.app hR⟩
theorem ApP.free {s:Int} {k:Nat} {D:DiskA} {R S:RefM} {pool:List BatM} (h:ApP s k D R S pool) (hk:k<=100):705<=D.free:=by
 have:=h.used
 have:=h.room
 unfold DiskA.free
 omega
def zoz (b:Bool):List Value:=[.bool b]
instance:Enc1 zoz .bool (λb=>b):=⟨λ_=>rfl⟩
instance:EncN zoz 1:=⟨λ_=>rfl,by decide,by simp [zoz,Value.oneCell']⟩
section
variable {w:World} {l r:List HP} {lg a:Nat} {A:LogA} {D:DiskA} {R:RefM}
theorem zk8 {pool:List BatM} (hsegs:z0k 0 R.l) (h1:R.SR.length<=1000000) (h2:R.bs.length<=1000000) (hin:InP pool R):okR R (z0a pool::l):=⟨hsegs,hin.rd,h1,h2⟩
structure FilI (s:Int) (k:Nat) (D:DiskA) (l:List SegA) (R:RefM) (pool:List BatM) (n:Nat) (C:Prop):Prop where
 cpl:Cpl qP l D
 syn:z8e qP l D n
 rseg:R.seg=4194304
 segs:z0k 0 R.l
 srl:R.SR.length<=k
 brl:R.bs.length<=k
 all:R.bs.map BatM.p=z0o l
 next:z01 R.l=z01 l
 rep:l=z9a s (z0o l)
 room:D.room=1048576
 used:used D.fs<=705*k
 len:D.fs.length<=k
 in1:InP pool R
 calm:C->Calm D
structure FilE (s:Int) (D:DiskA) (l:List SegA) (outs pool:List BatM) (n:Nat) (C:Prop):Prop where
 cpl:Cpl qP l D
 syn:z8e qP l D n
 told:outs.map BatM.p=z0o l\/(D.gone=true/\∃ b,outs.map BatM.p=z0o l++[b])
 rep:l=z9a s (z0o l)
 room:D.room=1048576
 used:used D.fs<=14805
 len:D.fs.length<=21
 num:outs.length<=21
 in1:∀ b ∈ outs,∃ c ∈ pool,b.x=c.x/\b.rs=c.rs
 calm:C->Calm D/\outs.map BatM.p=z0o l
theorem FilI.free {s:Int} {k n:Nat} {l:List SegA} {pool:List BatM} {C:Prop} (h:FilI s k D l R pool n C) (hk:k<=100):705<=D.free:=by
 have:=h.used
 have:=h.room
 unfold DiskA.free
 omega
theorem FilI.done {s:Int} {k n:Nat} {l:List SegA} {pool:List BatM} {C:Prop} (h:FilI s k D l R pool n C) (hk:k<=20):FilE s D l R.bs pool n C :=
 ⟨h.cpl,h.syn,.inl h.all,h.rep,h.room,by have:=h.used;omega,by have:=h.len;omega,by have:=h.brl;omega,h.in1,λc=>⟨h.calm c,h.all⟩⟩
theorem FilI.step {s:Int} {k n:Nat} {l:List SegA} {pool:List BatM} {C:Prop} {R':RefM} {b0:BatM} {z z':Sl} (h:FilI s k D l R pool n C) (hk:k<=100)
  (h1:(z0s qP s l D [(z0l b0).at z]).1=(z16 s l [(z0l b0).at z]).1) (h2:(z0s qP s l D [(z0l b0).at z]).2.1=(z16 s l [(z0l b0).at z]).2)
  (r1:R'.seg=R.seg) (r2:R'.l=(z16 R.seg R.l [(z0l b0).at z']).2) (r3:R'.SR.length<=R.SR.length+1) (r4:R'.bs.length<=R.bs.length+1) (r5:∀ b ∈ R'.bs,b ∈ R.bs\/(b.x=z'/\b.rs=(z0l b0).rs)) :
  FilI s (k+1) (z0s qP s l D [(z0l b0).at z]).2.2 (z0s qP s l D [(z0l b0).at z]).2.1 R' (pool++[(z0l b0).at z']) n C:=by
 have hst:=zb7 s [(z0l b0).at z] z6o h.cpl
 have hsy:=h.syn.app (seg:=s) (bs:=[(z0l b0).at z]) z6o h.cpl
 have hsum:=zk9 (seg:=s) (l:=l) (bs:=[(z0l b0).at z])
 have hsm:=zlv b0 z (z01 l)
 have hsl:=z7j (z01 l) 0
 have hR:R'.bs.map BatM.p=z0o R'.l:=by rw [z88]
 have hRR:R.bs.map BatM.p=z0o R.l:=by rw [z88]
 have hrall:z0o R.l=z0o l:=hRR.symm.trans h.all
 have er:z16 R.seg R.l [(z0l b0).at z']=z16 R.seg R.l [(z0l b0).at z]:=zq3 _ _ _ _ _
 rw [er] at r2
 have hsegR:z0k 0 R'.l:=by rw [r2];exact z80 h.segs
 have hallN:z0o R'.l=z0o (z16 s l [(z0l b0).at z]).2/\z01 R'.l=z01 (z16 s l [(z0l b0).at z]).2/\(z16 s l [(z0l b0).at z]).2=z9a s (z0o (z16 s l [(z0l b0).at z]).2):=by
  by_cases hp:(z00 (z01 l) [(z0l b0).at z]).1=0
  ·obtain ⟨g1,g2⟩:=z95 (seg:=s) h.cpl.segs (by simp) hp
   obtain ⟨g3,g4⟩:=z95 (seg:=R.seg) (bs:=[(z0l b0).at z]) h.segs (by simp) (by rw [h.next];exact hp)
   rw [h.next] at g3 g4
   rw [r2]
   refine ⟨by rw [g1,g3,hrall],by rw [g2,g4],?_⟩
   rw [g1,zhz _ _ hp]
   show _=z9a s (z0o l++[(((z0l b0).at z).to (z01 l)).p])
   rw [zng,<- h.rep,z002]
  ·obtain ⟨g1,-⟩:=z9i (seg:=s) (l:=l) (bs:=[(z0l b0).at z]) (.inr hp)
   obtain ⟨g3,-⟩:=z9i (seg:=R.seg) (l:=R.l) (bs:=[(z0l b0).at z]) (.inr (by rw [h.next];exact hp))
   rw [r2,g1,g3]
   exact ⟨hrall,h.next,h.rep⟩
 rw [h2] at hst hsy ⊢
 have hu:=hst.2.2.1
 have hl:=hst.2.2.2.1
 have hll:(z16 s l [(z0l b0).at z]).2.length<=l.length+1:=by
  unfold z16
  split
  ·simp
  split
  ·simp
  ·simp only
   split
   ·rename_i hr
    have hne:l≠[]:=by rintro rfl;cases hr
    obtain ⟨l0,t,rfl⟩:=z2r hne
    rw [z39];simp
   ·simp
 have hlen2:(z0s qP s l D [(z0l b0).at z]).2.2.fs.length<=D.fs.length+1:=by
  unfold z0s
  split
  ·simp only;omega
  split
  ·simp only;omega
  split
  ·split <;> exact z56.1
  ·obtain ⟨-,-,-,s4,-⟩:=z89 h.cpl
   split
   ·simp only;omega
   split
   ·simp only
    have:=(z56 (A:=(z19 qP l D).2) (n:=zi qP (z01 l) zu) (bs:=shL (z01 l) 0++(z00 (z01 l) [(z0l b0).at z]).2.flatMap frL)).1
    omega
   ·simp only
    have:=(z56 (A:=(z19 qP l D).2) (n:=zi qP (z01 l) zu) (bs:=shL (z01 l) 0++(z00 (z01 l) [(z0l b0).at z]).2.flatMap frL)).1
    omega
 exact ⟨hst.1,hsy,r1.trans h.rseg,hsegR,by have:=h.srl;omega,by have:=h.brl;omega,by rw [hR];exact hallN.1,hallN.2.1,hallN.2.2,hst.2.1.room.trans h.room,by have:=h.used;omega,by have:=h.len;omega,h.in1.app r5,λc=>hst.2.2.2.2 (h.calm c)⟩
theorem FilI.fail {s:Int} {k n:Nat} {l:List SegA} {pool:List BatM} {C:Prop} {R':RefM} {b0:BatM} {z z':Sl} (h:FilI s k D l R pool n C) (hk:k<20)
  (h1:(z0s qP s l D [(z0l b0).at z]).2.1=l) (h2:(z0s qP s l D [(z0l b0).at z]).2.2.gone=true)
  (r2:R'.l=(z16 R.seg R.l [(z0l b0).at z']).2) (r4:R'.bs.length<=R.bs.length+1) (r5:∀ b ∈ R'.bs,b ∈ R.bs\/(b.x=z'/\b.rs=(z0l b0).rs)) :
  FilE s (z0s qP s l D [(z0l b0).at z]).2.2 l R'.bs (pool++[(z0l b0).at z']) n C:=by
 have hst:=zb7 s [(z0l b0).at z] z6o h.cpl
 have hsy:=h.syn.app (seg:=s) (bs:=[(z0l b0).at z]) z6o h.cpl
 rw [h1] at hst hsy
 have hR:R'.bs.map BatM.p=z0o R'.l:=by rw [z88]
 have hRR:R.bs.map BatM.p=z0o R.l:=by rw [z88]
 have hrall:z0o R.l=z0o l:=hRR.symm.trans h.all
 have hu:=hst.2.2.1
 have hl:=hst.2.2.2.1
 refine ⟨hst.1,hsy,?_,h.rep,hst.2.1.room.trans h.room,by have:=h.used;omega,by have:=h.len;omega,by have:=h.brl;omega,h.in1.app r5,λc=>?_⟩
 ·by_cases hp:(z00 (z01 R.l) [(z0l b0).at z']).1=0
  ·obtain ⟨g3,-⟩:=z95 (seg:=R.seg) (bs:=[(z0l b0).at z']) h.segs (by simp) hp
   refine .inr ⟨h2,?_⟩
   rw [hR,r2,g3,zhz _ _ hp,hrall]
   exact ⟨_,rfl⟩
  ·obtain ⟨g3,-⟩:=z9i (seg:=R.seg) (l:=R.l) (bs:=[(z0l b0).at z']) (.inr hp)
   refine .inl ?_
   rw [hR,r2,g3,hrall]
 ·have:=(hst.2.2.2.2 (h.calm c)).gone
  rw [this] at h2;cases h2
end
abbrev cP (b:BatM) (k:Nat) (q:Int) (z:Sl):Array Value:=#[.int .i64 (b.base+(k:Int)),.int .i64 b.pid,.int .i64 b.epoch,.int .i64 q,.int .i64 b.kind,.int .i64 b.time,.slice z.a z.len z.cap]
def InB (pool bs:List BatM):Prop:=∀ b ∈ bs,∃ c ∈ pool,b.x=c.x/\b.rs=c.rs
theorem InB.rd {pool bs:List BatM} {l:List HP} (h:InB pool bs):∀ b ∈ bs,FocR (z0a pool::l) b.x 4 (b.rs.flatMap z03):=λb hb=>by
 obtain ⟨c,hc,e1,e2⟩:=h b hb
 rw [e1,e2]
 exact zh5 hc
theorem InB.more {pool bs:List BatM} (h:InB pool bs) (q:List BatM):InB (pool++q) bs:=λb hb=>by
 obtain ⟨c,hc,e⟩:=h b hb
 exact ⟨c,List.mem_append_left _ hc,e⟩
theorem InB.app {pool a b:List BatM} (h1:InB pool a) (h2:InB pool b):InB pool (a++b):=λx hx=>by
 rcases List.mem_append.1 hx with hx|hx
 ·exact h1 x hx
 ·exact h2 x hx
section
variable {w:World} {l r:List HP}
theorem ztr (x:Sl) (raw:List UInt8) (base:Int) (hb:0<=base/\base<17592186044416) (hcap:x.len<=x.cap) (hn:raw.length<=1000000000) [hx:FocR l x 1 (raw.flatMap zg)] (hs:Sat w l) :
  Ret P F.a144 #[x.v,.int .i64 base] w λvs w'=>vs=[.int .i64 ((z3p base raw).getD 0),.bool (z3p base raw).isSome]/\Sat w' l :=
 zmu x base <| by
  unfold zwe
  have ew:IntKind.wrap .u64 base=base:=zc2 (by omega) (by omega)
  refine z0b hs λa1 w' hs=>?_
  have hs:Sat w' (rdY x raw a1 (some raw)::l):=z33 ⟨raw,0,0⟩ rfl rfl ⟨Nat.zero_le _,hn⟩ hs
  have hH:z3p base raw=if (z08 (z08 (z0m (some raw)).2).2).2=some []/\(z0m (some raw)).1=83/\((z08 (z0m (some raw)).2).1:Int)=base/\base<=1099511627776/\(z08 (z08 (z0m (some raw)).2).2).1<=1099511627776/\((z08 (z08 (z0m (some raw)).2).2).1=0\/base<(z08 (z08 (z0m (some raw)).2).2).1) then some ((z08 (z08 (z0m (some raw)).2).2).1:Int) else none:=rfl
  rw [hH]
  clear hH
  refine zx (λq w'=>(q=(true,())/\¬ ((z0m (some raw)).1=83/\((z08 (z0m (some raw)).2).1:Int)=base)/\Sat w' l)\/(q=(false,())/\(z0m (some raw)).1=83/\((z08 (z0m (some raw)).2).1:Int)=base/\Sat w' (rdY x raw a1 (z08 (z0m (some raw)).2).2::l))) ?_ ?_
  ·refine za (zaw (x:=x) (bs:=raw) (p:=a1) (s:=some raw) hcap hs) λ_ w' hs=>?_
   obtain ⟨rfl,hs⟩:=hs
   refine ze ?_
   refine zk (λh=>?_) λh=>?_
   ·exact zj (.inl ⟨rfl,λh2=>h (by omega),hs.tail⟩)
   ·refine za (zaj (x:=x) (bs:=raw) (p:=a1) (s:=(z0m (some raw)).2) hcap hs) λ_ w' hs=>?_
    obtain ⟨rfl,hs⟩:=hs
    refine ze ?_
    rw [ew]
    by_cases h2:((z08 (z0m (some raw)).2).1:Int)=base
    ·refine zj (.inr ⟨?_,by omega,h2,hs⟩)
     refine Prod.ext ?_ rfl
     show (((z08 (z0m (some raw)).2).1:Int) != base)=false
     rw [h2];simp
    ·refine zj (.inl ⟨?_,λh3=>h2 h3.2,hs.tail⟩)
     refine Prod.ext ?_ rfl
     show (((z08 (z0m (some raw)).2).1:Int) != base)=true
     simpa using h2
  clear hs
  rintro _ w (⟨rfl,h1,hs⟩|⟨rfl,h1,h2,hs⟩)
  ·refine zt ?_
   refine z1b ?_ (by simp)
   rw [if_neg (λh=>h1 ⟨h.2.1,h.2.2.1⟩)]
   exact ⟨rfl,rfl,hs⟩
  refine zt ?_
  refine z0j ?_ (by simp)
  refine za (zaj (x:=x) (bs:=raw) (p:=a1) (s:=(z08 (z0m (some raw)).2).2) hcap hs) λ_ w' hs=>?_
  obtain ⟨rfl,hs⟩:=hs
  refine ze ?_
  generalize z08 (z08 (z0m (some raw)).2).2=c at *
  refine wp_lt ?_
  refine za (z02v (x:=x) (bs:=raw) (p:=a1) (s:=c.2) hcap hs) λ_ w' hs=>?_
  obtain ⟨e,rfl,he,hs⟩:=hs
  refine ze ?_
  rw [ew]
  refine zk (λh=>?_) λh=>?_
  ·rw [if_neg (by
    rintro ⟨g1,-,-,g2,g3,g4⟩
    have:=he.2 g1
    omega)]
   exact ⟨rfl,rfl,hs⟩
  ·have h0:e=0:=by omega
   rw [if_pos ⟨he.1 h0,h1,h2,by omega,by omega,by omega⟩]
   rw [w64 (by omega) (by omega)]
   refine wp_lt ?_
   exact ⟨rfl,rfl,hs⟩
end
structure OneM where
 base:Int
 x:Sl
 b:List UInt8
def z18 (o:OneM):List Value:=[.int .i64 o.base,.slice o.x.a o.x.len o.x.cap]
instance:EncA z18 [.int .i64,.slc] (λo=>(o.base,o.x,())):=⟨λ_=>rfl⟩
instance:EncN z18 2:=⟨λ_=>rfl,by decide,by simp [z18,Value.oneCell']⟩
theorem zpe {l:List SegA} {b:Int} {raw:List UInt8} {s:SegA} {m:Nat} (h:z0k 0 l) (hlt:∀ t ∈ l,t.base<b) (hb0:0<=b) (hb:¬ b<z01 l) (hsc:z2m b raw=some (s,m)):z0k 0 (l++[s])/\s.base=b:=by
 obtain ⟨c1,c2,c3,c4,c5⟩:=z7u hsc
 refine ⟨h.snoc c1 (by omega) λt ht=>?_,c2⟩
 have h1:=zg6 h t ht
 have h2:=hlt t ht
 omega
theorem zd9 {raw body:List UInt8} {n:Nat} (h:z10 raw=some (body,n)):8<=n/\n<=raw.length/\body.length<=raw.length:=by
 obtain ⟨h1,h2,h3,h4⟩:=z5n h
 omega
section
variable {w:World} {l r:List HP}
set_option maxHeartbeats 2000000 in
theorem zye     (seg gap : Int) (fx : Sl) (fs : List OneM) (hfx : FocR r fx 2 (fs.flatMap z18  )) (hrd : ∀ f ∈ fs, FocR r f.x 1 (f.b.flatMap zg  ) ∧ f.x.len ≤ f.x.cap ∧ f.b.length ≤ 100000) (hrg : ∀ f ∈ fs, 0 ≤ f.base ∧ f.base < 17592186044416) (hnd : fs.Pairwise fun a b => a.base < b.base) (hlen : fs.length ≤ 6) (pool : List BatM) (hs : Sat w (z0a   pool :: r)) :
    Ret P F.a133 #[.int .i64 seg, .int .i64 gap, fx.v] w fun vs w' => ∃ (a : Nat) (R : RefM) (pool' : List BatM), vs = [.pointer (some ⟨a, 0, none⟩)] ∧ R.seg = seg ∧ R.gap = gap ∧ R.l = z4l    (fs.map fun f => (f.base, f.b)) [] ∧ z0k    0 R.l ∧ InP pool' R ∧ R.SR.length ≤ 6 ∧ R.bs.length ≤ 600000 ∧ Sat w' (rfP a R :: z0a   pool' :: r) :=
  zlm         seg gap fx <| by
    unfold zxt  
    have hlx := hs.tail.slen fx (xs := fs) (enc := z18  )
    refine z0b     hs fun a0 w' hs => ?_
    have hs := z02f   hs
    refine zx     (fun _ w' => ∃ (R : RefM) (pool' : List BatM), R.seg = seg ∧ R.gap = gap ∧ R.l = z4l    (fs.map fun f => (f.base, f.b)) [] ∧ z0k    0 R.l ∧ InP pool' R ∧ R.SR.length ≤ 6 ∧ R.bs.length ≤ 600000 ∧ Sat w' (rfP a0 R :: z0a   pool' :: r)) ?_ ?_
    rotate_left
    · rintro _ w2 ⟨R, pool', h⟩
      exact ⟨rfl, a0, R, pool', rfl, h⟩
    refine z0e     (fun m v w => ∃ (i : Nat) (R : RefM) (pool' : List BatM), v = ((i : Int), ()) ∧ i ≤ fs.length ∧ fs.length - i = m ∧ R.seg = seg ∧ R.gap = gap ∧ z4l    (fs.map fun f => (f.base, f.b)) [] = z4l    ((fs.drop i).map fun f => (f.base, f.b)) R.l ∧ z0k    0 R.l ∧ (∀ f ∈ fs.drop i, ∀ s ∈ R.l, s.base < f.base) ∧ InP pool' R ∧ R.SR.length ≤ i ∧ R.bs.length ≤ 100000 * i ∧ Sat w (rfP a0 R :: z0a   pool' :: r)) fs.length
      ⟨0, ⟨seg, gap, []⟩, pool, rfl, by omega, rfl, rfl, rfl, rfl, trivial, (fun f hf s hs => by cases hs), (fun b hb => by cases hb), Nat.le_refl _, Nat.le_refl _, hs⟩ ?_
    clear hs
    rintro m _ w ⟨i, R, pool, rfl, hi, hm, hseg, hgap, hq, hsegs, hlt, hin, hsr, hbr, hs⟩
    refine zt    ?_
    refine zk    (fun hc => ?_) fun hc => ?_
    rotate_left
    · have e : fs.drop i = [] := List.drop_eq_nil_of_le (by omega)
      rw [e] at hq
      exact zv      (zj    ⟨R, pool, hseg, hgap, hq.symm, hsegs, hin, by omega, by omega, hs⟩)
    have hil : i < fs.length := by omega
    obtain ⟨hfb, hfcap, hfl⟩ := hrd _ (List.getElem_mem hil)
    have hfr := hrg _ (List.getElem_mem hil)
    rw [List.drop_eq_getElem_cons hil] at hq hlt
    have hnd2 := (List.pairwise_iff_getElem.1 hnd)
    have hgt : ∀ f ∈ fs.drop (i + 1), fs[i].base < f.base := fun f hf => by
      obtain ⟨j, hj, rfl⟩ := List.mem_iff_getElem.1 hf
      rw [List.length_drop] at hj
      rw [List.getElem_drop]
      exact hnd2 i (i + 1 + j) hil (by omega) (by omega)
    have hok : okR R (z0a   pool :: r) := zk8    hsegs (by omega) (by omega) hin
    refine zx     (fun _ w' => ∃ (R' : RefM) (pool' : List BatM), R'.seg = seg ∧ R'.gap = gap ∧ z4l    (fs.map fun f => (f.base, f.b)) [] = z4l    ((fs.drop (i + 1)).map fun f => (f.base, f.b)) R'.l ∧ z0k    0 R'.l ∧ (∀ f ∈ fs.drop (i + 1), ∀ s ∈ R'.l, s.base < f.base) ∧ InP pool' R' ∧ R'.SR.length ≤ i + 1 ∧ R'.bs.length ≤ 100000 * (i + 1) ∧ Sat w' (rfP a0 R' :: z0a   pool' :: r)) ?_ ?_
    rotate_left
    · clear hs
      rintro _ w ⟨R', pool', h1, h2, h3, h4, h5, h6, h7, h8, hs⟩
      refine zt    ?_
      rw [show IntKind.wrap .i64 ((i : Int) + 1) = ((i + 1 : Nat) : Int) by rw [w64 (by omega) (by omega)]; omega]
      exact z0q   (fs.length - (i + 1)) ⟨i + 1, R', pool', rfl, by omega, rfl, h1, h2, h3, h4, h5, h6, h7, h8, hs⟩
    rw [List.map_cons, z4l   ] at hq
    have hlt1 : ∀ s ∈ R.l, s.base < fs[i].base := hlt _ (List.mem_cons_self ..)
    have hlt2 : ∀ f ∈ fs.drop (i + 1), ∀ s ∈ R.l, s.base < f.base := fun f hf => hlt f (List.mem_cons_of_mem _ hf)
    clear hlt hnd2
    refine z23    hs (xs := fs) (enc := z18  ) i hil ?_
    generalize fs[i] = f at *
    refine z05     hs fun a6 w' hs => ?_
    refine z09    hs fun w' hs => ?_
    refine z0i   hs fun w' hs => ?_
    refine z2c    hs ?_
    refine za      (zov     (a := a0) (R := R) hs) fun _ w' hs => ?_
    obtain ⟨rfl, hs⟩ := hs
    refine ze     ?_ (by first | trivial | (repeat (first | exact trivial | exact fun _ => z0w     hs | exact fun _ => z15     hs | refine And.intro ?_ ?_)))
    refine zm        ?_
    have hs : Sat w' (rfP a0 R :: pt a6 (.cells #[.int .i64 f.base, .slice f.x.a f.x.len f.x.cap] T.a36) :: z0a   pool :: r) := hs
    refine zk    (fun hnx => ?_) fun hnx => ?_
    · have hnx : f.base < z01   R.l := hnx
      rw [if_pos hnx] at hq
      exact zj    ⟨R, pool, hseg, hgap, hq, hsegs, hlt2, hin, by omega, by omega, hs.sub⟩
    have hnx : ¬ f.base < z01   R.l := hnx
    rw [if_neg hnx] at hq
    simp only at hq
    refine zd     hs ?_
    refine za      (zl1      f.x f.b hfcap (by omega) hs) fun _ w' hs => ?_
    obtain ⟨zb, rfl, hs⟩ := hs
    refine ⟨(zb, ((((z10    f.b).getD ([], 0)).2 : Nat) : Int), ()), rfl, trivial, z37   _ _ ?_⟩
    refine wp_lt ?_
    have hzcap := hs.slc_cap
    have hstop : ∀ {w : World}, z2m   f.base f.b = none → Sat w (rfP a0 R :: z0a   pool :: r) → ∃ (a : Nat) (R' : RefM) (pool' : List BatM), [Value.pointer (some ⟨a0, 0, none⟩)] = [Value.pointer (some ⟨a, 0, none⟩)] ∧ R'.seg = seg ∧ R'.gap = gap ∧ R'.l = z4l    (fs.map fun f => (f.base, f.b)) [] ∧ z0k    0 R'.l ∧ InP pool' R' ∧ R'.SR.length ≤ 6 ∧ R'.bs.length ≤ 600000 ∧ Sat w (rfP a R' :: z0a   pool' :: r) := fun hsc hs => by
      rw [hsc] at hq
      exact ⟨a0, R, pool, rfl, hseg, hgap, hq.symm, hsegs, hin, by omega, by omega, hs⟩
    cases hf1 : z10    f.b with
    | none =>
      rw [hf1] at hs
      refine z1b    ?_ rfl
      exact zv      (zv      (zv      ⟨rfl, hstop (by unfold z2m  ; rw [hf1]) hs.sub⟩))
    | some q =>
    obtain ⟨body, m0⟩ := q
    rw [hf1] at hs
    obtain ⟨hm8, hmle, hbl⟩ := zd9       hf1
    simp only [Option.getD_some] at hs ⊢
    refine z0j    ?_ (by omega)
    refine zd     hs ?_
    refine za      (ztr       zb body f.base hfr hzcap (by omega) hs) fun _ w' hs => ?_
    obtain ⟨rfl, hs⟩ := hs
    refine ⟨((z3p   f.base body).getD 0, (z3p   f.base body).isSome, ()), rfl, trivial, z37   _ _ ?_⟩
    refine wp_lt ?_
    refine wp_lt ?_
    cases hh : z3p   f.base body with
    | none =>
      refine z1b    ?_ (by simp)
      exact zv      (zv      (zv      ⟨rfl, hstop (by unfold z2m  ; rw [hf1]; simp only; rw [hh]) hs.sub⟩))
    | some fin =>
    refine z0j    ?_ (by simp)
    simp only [Option.getD_some]
    have hscan : z2m   f.base f.b = some (⟨f.base, fin, (z2h   f.b.length f.base (f.b.drop m0)).1⟩, m0 + (z2h   f.b.length f.base (f.b.drop m0)).2) := by
      unfold z2m  ; rw [hf1]; simp only; rw [hh]
    have hs : Sat w' (pt a6 (.cells #[.int .i64 f.base, .slice f.x.a f.x.len f.x.cap] T.a36) :: rfP a0 R :: z0a   pool :: r) := hs.sub
    refine zd     hs ?_
    refine z05     hs fun a19 w' hs => ?_
    refine z09    hs fun w' hs => ?_
    refine zd     hs ?_
    refine wp_lt ?_
    have hs : Sat w' (slc T.a1 7 ⟨none, 0, 0⟩ (([] : List BatM).flatMap zw   ) :: _) := hs.slc_nil
    have hs : Sat w' (pt a19 (.cells #[.int .i64 f.base, .int .i64 fin, .slice none 0 0] T.a37) :: slc T.a1 7 ⟨none, 0, 0⟩ (([] : List BatM).flatMap zw   ) :: pt a6 (.cells #[.int .i64 f.base, .slice f.x.a f.x.len f.x.cap] T.a36) :: rfP a0 R :: z0a   pool :: r) := hs.sub
    generalize hT : z2h   f.b.length f.base (f.b.drop m0) = TT at *
    refine zx     (fun q w' => ∃ (zl : Sl) (bs : List BatM) (pool' : List BatM), q = (((m0 + TT.2 : Nat) : Int), ()) ∧ bs.map BatM.p = TT.1 ∧ bs.length ≤ f.b.length ∧ InB pool' bs ∧ InP pool' R ∧ Sat w' (pt a19 (.cells #[.int .i64 f.base, .int .i64 fin, .slice zl.a zl.len zl.cap] T.a37) :: slc T.a1 7 zl (bs.flatMap zw   ) :: pt a6 (.cells #[.int .i64 f.base, .slice f.x.a f.x.len f.x.cap] T.a36) :: rfP a0 R :: z0a   pool' :: r)) ?_ ?_
    · refine z0e     (fun mm v w => ∃ (at_ : Nat) (n : Int) (zl : Sl) (bs : List BatM) (pool' : List BatM), v = ((at_ : Int), (n, ())) ∧ m0 ≤ at_ ∧ at_ ≤ f.b.length ∧ f.b.length - at_ = mm ∧ bs.length ≤ at_ - m0 ∧
          TT = (bs.map BatM.p ++ (z2h   (f.b.length - bs.length) n (f.b.drop at_)).1, (at_ - m0) + (z2h   (f.b.length - bs.length) n (f.b.drop at_)).2) ∧ InB pool' bs ∧ InP pool' R ∧
          Sat w (pt a19 (.cells #[.int .i64 f.base, .int .i64 fin, .slice zl.a zl.len zl.cap] T.a37) :: slc T.a1 7 zl (bs.flatMap zw   ) :: pt a6 (.cells #[.int .i64 f.base, .slice f.x.a f.x.len f.x.cap] T.a36) :: rfP a0 R :: z0a   pool' :: r)) (f.b.length - m0)
        ⟨m0, f.base, ⟨none, 0, 0⟩, [], pool, rfl, Nat.le_refl _, hmle, rfl, Nat.zero_le _, by simp [hT], (fun b hb => by cases hb), hin, hs⟩ ?_
      clear hs
      rintro mm _ w ⟨at_, n, zl, bs, pool', rfl, hat0, hat1, hmm, hbl2, hTT, hib, hip, hs⟩
      refine zt    ?_
      obtain ⟨K, hK⟩ : ∃ K, f.b.length - bs.length = K + 1 := ⟨f.b.length - bs.length - 1, by omega⟩
      rw [hK, zc4       ] at hTT
      have hlf := (hs.tail.tail.tail.tail.tail).slen f.x (xs := f.b) (enc := zg  )
      refine zd     hs ?_
      refine wp_must ⟨by omega, by show ((at_ : Nat) : Int) ≤ ((f.x.len : Nat) : Int); omega⟩ ?_
      rw [Int.toNat_natCast]
      have hcut : FocR (pt a19 (.cells #[.int .i64 f.base, .int .i64 fin, .slice zl.a zl.len zl.cap] T.a37) :: slc T.a1 7 zl (bs.flatMap zw   ) :: pt a6 (.cells #[.int .i64 f.base, .slice f.x.a f.x.len f.x.cap] T.a36) :: rfP a0 R :: z0a   pool' :: r) ⟨z1g  f.x.a 1 at_ f.x.cap, f.x.len - at_, f.x.cap - at_⟩ 1 ((f.b.drop at_).flatMap zg  ) := FocR.post hfcap
      refine za      (zl1      ⟨z1g  f.x.a 1 at_ f.x.cap, f.x.len - at_, f.x.cap - at_⟩ (f.b.drop at_) (by show f.x.len - at_ ≤ f.x.cap - at_; omega) (by rw [List.length_drop]; omega) hs) fun _ w' hs => ?_
      obtain ⟨zq, rfl, hs⟩ := hs
      refine ⟨(zq, ((((z10    (f.b.drop at_)).getD ([], 0)).2 : Nat) : Int), ()), rfl, trivial, z37   _ _ ?_⟩
      refine wp_lt ?_
      have hqcap := hs.slc_cap
      have hbody : ((z10    (f.b.drop at_)).getD ([], 0)).1.length ≤ 1000000 := by
        cases hq1 : z10    (f.b.drop at_) with
        | none => exact Nat.zero_le _
        | some q =>
          have := zd9       (body := q.1) (n := q.2) hq1
          rw [List.length_drop] at this
          show q.1.length ≤ _
          omega
      refine za      (ztx       zq ((z10    (f.b.drop at_)).getD ([], 0)).1 hqcap (by omega) hs) fun _ w' hs => ?_
      have hexit : ∀ {w : World}, TT = (bs.map BatM.p, at_ - m0) → Sat w (pt a19 (.cells #[.int .i64 f.base, .int .i64 fin, .slice zl.a zl.len zl.cap] T.a37) :: slc T.a1 7 zl (bs.flatMap zw   ) :: pt a6 (.cells #[.int .i64 f.base, .slice f.x.a f.x.len f.x.cap] T.a36) :: rfP a0 R :: z0a   pool' :: r) → ∃ (zl : Sl) (bs : List BatM) (pool' : List BatM), (((at_ : Int), ()) : Int × Unit) = (((m0 + TT.2 : Nat) : Int), ()) ∧ bs.map BatM.p = TT.1 ∧ bs.length ≤ f.b.length ∧ InB pool' bs ∧ InP pool' R ∧ Sat w (pt a19 (.cells #[.int .i64 f.base, .int .i64 fin, .slice zl.a zl.len zl.cap] T.a37) :: slc T.a1 7 zl (bs.flatMap zw   ) :: pt a6 (.cells #[.int .i64 f.base, .slice f.x.a f.x.len f.x.cap] T.a36) :: rfP a0 R :: z0a   pool' :: r) := fun hTe hs => ⟨zl, bs, pool', by rw [hTe]; refine Prod.ext ?_ rfl; show (at_ : Int) = ((m0 + (at_ - m0) : Nat) : Int); omega, by rw [hTe], by omega, hib, hip, hs⟩
      rcases hs with ⟨hdn, rfl, hs⟩ | ⟨b, zr, hds, rfl, hs⟩
      · refine ⟨(0, 0, 0, 0, 0, 0, ⟨none, 0, 0⟩, 6, ()), rfl, trivial, zbz   _ _ _ _ _ _ _ _ ?_⟩
        refine z05     hs fun a36 w' hs => ?_
        refine z09    hs fun w' hs => ?_
        refine wp_lt ?_
        refine zd     hs ?_
        refine z1b    ?_ (.inl (.inr (by decide)))
        refine zv      (zj    (hexit ?_ hs.sub))
        rw [hTT]
        cases hq1 : z10    (f.b.drop at_) with
        | none => simp
        | some q =>
          obtain ⟨body2, m2⟩ := q
          rw [hq1] at hdn
          have hdn : z3r  body2 = none := hdn
          simp only [hdn, List.append_nil, Nat.add_zero]
      · obtain ⟨v1, v2, v3⟩ := zbn      hds
        cases hq1 : z10    (f.b.drop at_) with
        | none =>
          exfalso
          rw [hq1] at hds
          have : z3r  [] = none := by rfl
          rw [show ((none : Option (List UInt8 × Nat)).getD ([], 0)).1 = [] from rfl, this] at hds
          cases hds
        | some q =>
        obtain ⟨body2, m2⟩ := q
        rw [hq1] at hds hs hTT
        have hds : z3r  body2 = some b := hds
        obtain ⟨hm28, hm2l, -⟩ := zd9       hq1
        rw [List.length_drop] at hm2l
        simp only [hds] at hTT
        obtain ⟨sp1, sp2, ⟨-, hbb, -⟩, -, sp3⟩ := z1e     b v1
        refine ⟨(b.base, b.pid, b.epoch, b.seq, b.kind, b.time, zr, 0, ()), rfl, trivial, zbz   _ _ _ _ _ _ _ _ ?_⟩
        refine z05     hs fun a36 w' hs => ?_
        refine z09    hs fun w' hs => ?_
        refine wp_lt ?_
        refine zd     hs ?_
        simp only [Option.getD_some]
        refine zk    (fun hbrk => ?_) fun hbrk => ?_
        · have hbn : b.base < n := by
            rcases hbrk with (h | h) | h
            · omega
            · exact absurd rfl h
            · exact h
          rw [if_pos hbn] at hTT
          refine zv      (zj    (hexit ?_ hs.sub))
          rw [hTT]; simp
        have hbn : ¬ b.base < n := fun h => hbrk (.inr h)
        rw [if_neg hbn] at hTT
        have hs : Sat w' (pt a36 (.cells #[.int .i64 b.base, .int .i64 b.pid, .int .i64 b.epoch, .int .i64 b.seq, .int .i64 b.kind, .int .i64 b.time, .slice zr.a zr.len zr.cap] T.a1) :: pt a19 (.cells #[.int .i64 f.base, .int .i64 fin, .slice zl.a zl.len zl.cap] T.a37) :: slc T.a1 7 zl (bs.flatMap zw   ) :: pt a6 (.cells #[.int .i64 f.base, .slice f.x.a f.x.len f.x.cap] T.a36) :: rfP a0 R :: slc T.a3 4 zr (b.rs.flatMap z03 ) :: z0a   pool' :: r) := hs.sub
        have hlz := (hs.pick [2]).slen zl (xs := bs) (enc := zw   )
        refine zd     hs ?_
        refine z02    hs ?_
        refine z1f      hs (enc := zw   ) (b.at zr) fun y1 w' hs => ?_
        refine wp_app' (x := zl) (y := y1) (xs := bs) (ys := [b.at zr]) (enc := zw   ) hs (fun z2 w' hs => ?_) (by simp only [List.length_cons, List.length_nil]; omega)
        refine z0h    hs fun w' hs => ?_
        have hrb : FocR (slc T.a3 4 zr (b.rs.flatMap z03 ) :: z0a   pool' :: r) (b.at zr).x 4 ((b.at zr).rs.flatMap z03 ) := by
          show FocR _ zr 4 (b.rs.flatMap z03 )
          infer_instance
        have hs : Sat w' (pt a36 (.cells #[.int .i64 b.base, .int .i64 b.pid, .int .i64 b.epoch, .int .i64 b.seq, .int .i64 b.kind, .int .i64 b.time, .slice zr.a zr.len zr.cap] T.a1) :: pt a19 (.cells #[.int .i64 f.base, .int .i64 fin, .slice z2.a z2.len z2.cap] T.a37) :: slc T.a1 7 z2 ((bs ++ [b.at zr]).flatMap zw   ) :: pt a6 (.cells #[.int .i64 f.base, .slice f.x.a f.x.len f.x.cap] T.a36) :: rfP a0 R :: slc T.a3 4 zr (b.rs.flatMap z03 ) :: z0a   pool' :: r) := hs.sub
        refine z0i   hs fun w' hs => ?_
        refine z2c    hs ?_
        refine z02    hs ?_
        refine za      (zai     (b.at zr) hs) fun _ w' hs => ?_
        obtain ⟨rfl, hs⟩ := hs
        refine ze     ?_ (by first | trivial | (repeat (first | exact trivial | exact fun _ => z0w     hs | exact fun _ => z15     hs | refine And.intro ?_ ?_)))
        have esp : z0d   (b.at zr) = z0d   b := rfl
        rw [esp, w64 (by omega) (by omega)]
        refine wp_lt ?_
        refine zm        ?_
        rw [show IntKind.wrap .i64 ((at_ : Int) + ((m2 : Nat) : Int)) = ((at_ + m2 : Nat) : Int) by rw [w64 (by omega) (by omega)]; omega]
        refine wp_lt ?_
        have hs : Sat w' (slc T.a3 4 zr (b.rs.flatMap z03 ) :: z0a   pool' :: pt a19 (.cells #[.int .i64 f.base, .int .i64 fin, .slice z2.a z2.len z2.cap] T.a37) :: slc T.a1 7 z2 ((bs ++ [b.at zr]).flatMap zw   ) :: pt a6 (.cells #[.int .i64 f.base, .slice f.x.a f.x.len f.x.cap] T.a36) :: rfP a0 R :: r) := hs.sub
        have hs := zhl       hs
        refine z0q   (f.b.length - (at_ + m2)) ⟨at_ + m2, b.base + z0d   b, z2, bs ++ [b.at zr], pool' ++ [b.at zr], rfl, by omega, by omega, rfl, by rw [List.length_append]; simp; omega, ?_, (hib.more _).app fun q hq => by rw [List.mem_singleton.1 hq]; exact ⟨b.at zr, by simp, rfl, rfl⟩, fun q hq => ?_, hs.sub⟩
        · rw [hTT, List.map_append, List.map_singleton, List.append_assoc]
          have eb : (b.at zr).p = b := by rw [← v3]; rfl
          have el : f.b.length - (bs ++ [b.at zr]).length = K := by rw [List.length_append]; simp; omega
          rw [eb, el, List.drop_drop]
          refine Prod.ext rfl ?_
          show at_ - m0 + (m2 + _) = at_ + m2 - m0 + _
          omega
        · obtain ⟨c, hc, e⟩ := hip q hq
          exact ⟨c, List.mem_append_left _ hc, e⟩
    clear hs
    rintro _ w ⟨zl, bs, pool', rfl, hbm, hbl3, hib, hip, hs⟩
    refine zt    ?_
    have hscan2 : z2m   f.base f.b = some ((⟨f.base, fin, zl, bs⟩ : SegR).p, m0 + TT.2) := by
      rw [hscan]
      have e : (⟨f.base, fin, zl, bs⟩ : SegR).p = ⟨f.base, fin, TT.1⟩ := by
        show (⟨f.base, fin, bs.map BatM.p⟩ : SegA) = _
        rw [hbm]
      rw [e]
    have hTle : m0 + TT.2 ≤ f.b.length := (z7u      hscan).2.2.2.1
    obtain ⟨hsp1, hsp2⟩ := zpe        hsegs hlt1 hfr.1 hnx hscan2
    rw [hscan2] at hq
    simp only at hq
    obtain ⟨zR, hs⟩ := z77     (hs.pick [3])
    have hlR := hs.slen zR (xs := R.SR) (enc := z0z  )
    refine zd     hs ?_
    have hs : Sat w (slc T.a37 3 ⟨none, 0, 0⟩ (([] : List SegR).flatMap z0z  ) :: _) := hs.slc_nil
    refine wp_app' (x := ⟨none, 0, 0⟩) (xs := ([] : List SegR)) (ys := R.SR) (enc := z0z  ) hs (fun z3 w' hs => ?_) (by simp only [List.length_nil]; omega)
    rw [List.nil_append] at hs
    refine z02    hs ?_
    refine z1f      hs (enc := z0z  ) (⟨f.base, fin, zl, bs⟩ : SegR) fun z4 w' hs => ?_
    refine wp_app' (xs := R.SR) (ys := [(⟨f.base, fin, zl, bs⟩ : SegR)]) (enc := z0z  ) hs (fun z5 w' hs => ?_) (by simp only [List.length_cons, List.length_nil]; omega)
    refine z0h    hs fun w' hs => ?_
    have hs : Sat w' (pt a6 (.cells #[.int .i64 f.base, .slice f.x.a f.x.len f.x.cap] T.a36) :: slc T.a1 7 zl (bs.flatMap zw   ) :: HP.all (R.SR.map z2b ) :: pt a0 (.cells #[.int .i64 R.seg, .int .i64 R.gap, .slice z5.a z5.len z5.cap] T.a35) :: slc T.a37 3 z5 ((R.SR ++ [(⟨f.base, fin, zl, bs⟩ : SegR)]).flatMap z0z  ) :: z0a   pool' :: r) := hs.sub
    refine zd     hs ?_
    have hs : Sat w' (z2b  (⟨f.base, fin, zl, bs⟩ : SegR) :: HP.all (R.SR.map z2b ) :: pt a0 (.cells #[.int .i64 R.seg, .int .i64 R.gap, .slice z5.a z5.len z5.cap] T.a35) :: slc T.a37 3 z5 ((R.SR ++ [(⟨f.base, fin, zl, bs⟩ : SegR)]).flatMap z0z  ) :: z0a   pool' :: r) := hs.tail
    have hs := zff      hs
    have hs := z3v      ⟨R.seg, R.gap, R.SR ++ [⟨f.base, fin, zl, bs⟩]⟩ (z := z5) (hs.pick [1, 1])
    have hRl : RefM.l ⟨R.seg, R.gap, R.SR ++ [⟨f.base, fin, zl, bs⟩]⟩ = R.l ++ [(⟨f.base, fin, zl, bs⟩ : SegR).p] := by
      unfold RefM.l
      rw [List.map_append]
      rfl
    have hRb : RefM.bs ⟨R.seg, R.gap, R.SR ++ [⟨f.base, fin, zl, bs⟩]⟩ = R.bs ++ bs := by simp [RefM.bs]
    have hinN : InP pool' ⟨R.seg, R.gap, R.SR ++ [⟨f.base, fin, zl, bs⟩]⟩ := fun b hb => by
      rw [hRb] at hb
      rcases List.mem_append.1 hb with h | h
      · exact hip b h
      · exact hib b h
    have hbN : (RefM.bs ⟨R.seg, R.gap, R.SR ++ [⟨f.base, fin, zl, bs⟩]⟩).length ≤ 100000 * (i + 1) := by
      rw [hRb, List.length_append]; omega
    have hsN : (R.SR ++ [(⟨f.base, fin, zl, bs⟩ : SegR)]).length ≤ i + 1 := by simp; omega
    rw [← hRl] at hsp1 hq
    have hlf := hs.tail.tail.slen f.x (xs := f.b) (enc := zg  )
    by_cases hend : m0 + TT.2 = f.b.length
    · rw [if_pos hend] at hq
      refine z0j    ?_ (by omega)
      refine zj    ⟨⟨R.seg, R.gap, R.SR ++ [⟨f.base, fin, zl, bs⟩]⟩, pool', hseg, hgap, hq, hsp1, fun g hg s hs => ?_, hinN, hsN, hbN, hs⟩
      rw [hRl] at hs
      rcases List.mem_append.1 hs with h | h
      · exact hlt2 g hg s h
      · rw [List.mem_singleton.1 h, hsp2]; exact hgt g hg
    · rw [if_neg hend] at hq
      refine z1b    ?_ (by omega)
      exact zv      (zv      (zv      ⟨rfl, a0, ⟨R.seg, R.gap, R.SR ++ [⟨f.base, fin, zl, bs⟩]⟩, pool', rfl, hseg, hgap, hq.symm, hsp1, hinN, by simp only [List.length_append] at hsN ⊢; omega, by omega, hs⟩))
end
theorem zfp:∀ (i n:Nat),z1q (i+1) n=z48 (n / 16 ^ i % 16)::z1q i n
 | 0,n=>by simp [z1q]
 | i+1,n=>by
  rw [z1q,zfp i (n / 16)]
  have e:n / 16 / 16 ^ i=n / 16 ^ (i+1):=by rw [Nat.div_div_eq_div_mul,Nat.pow_succ,Nat.mul_comm]
  rw [e]
  rfl
theorem zzk {k:Nat} (h:k<16):(ByteArray.mk #[48,49,50,51,52,53,54,55,56,57,97,98,99,100,101,102]).extract k (k+1)=⟨#[z48 k]⟩:=by
 have:∀ k:Fin 16,(ByteArray.mk #[48,49,50,51,52,53,54,55,56,57,97,98,99,100,101,102]).extract k.val (k.val+1)=⟨#[z48 k.val]⟩:=by decide +kernel
 exact this ⟨k,h⟩
theorem zk5 (a b:ByteArray):bl (a++b)=bl a++bl b:=by unfold bl;simp
theorem zir (n:Int):ByteArray.mk #[113,45]++(⟨(z1q 11 n.toNat).toArray⟩:ByteArray)++ByteArray.mk #[46,108,111,103]=zi qP n zu:=by
 apply z9j
 rw [zk5,zk5,z4i,z7n]
 show [113,45]++z1q 11 n.toNat++[46,108,111,103]=[113]++45::(z1q 11 n.toNat++[46,108,111,103])
 simp
section
variable {w:World} {l r:List HP}
theorem zxm (n:Int) (hn:0<=n/\n<17592186044416) (hs:Sat w l):Ret P F.a102 #[.int .i64 n] w λvs w'=>vs=[.string ⟨(z1q 11 n.toNat).toArray⟩]/\Sat w' l :=
 zmd n <| by
  unfold zx9
  obtain ⟨m,rfl⟩:∃ m:Nat,n=(m:Int):=⟨n.toNat,by omega⟩
  rw [Int.toNat_natCast]
  refine zx (λq w'=>q=((⟨(z1q 11 m).toArray⟩:ByteArray),())/\Sat w' l) ?_ ?_
  rotate_left
  ·rintro _ w2 ⟨rfl,hs⟩
   refine zt ?_
   refine wp_lt ?_
   exact ⟨rfl,rfl,hs⟩
  refine z0e (λk v w=>∃ i:Nat,v=(((m / 16 ^ i:Nat):Int),((⟨(z1q i m).toArray⟩:ByteArray),((i:Int),())))/\i<=11/\11-i=k/\Sat w l) 11 ⟨0,by simp [z1q],by omega,rfl,hs⟩ ?_
  clear hs
  rintro k _ w ⟨i,rfl,hi,hk,hs⟩
  refine zt ?_
  refine zk (λhc=>?_) λhc=>?_
  rotate_left
  ·have e:i=11:=by omega
   subst e
   exact zv (zj ⟨rfl,hs⟩)
  have hle:m / 16 ^ i<=m:=Nat.div_le_self ..
  have hlt:m / 16 ^ i % 16<16:=Nat.mod_lt _ (by omega)
  have e0:Int.tmod ((m / 16 ^ i:Nat):Int) 16=((m / 16 ^ i % 16:Nat):Int):=rfl
  have e1:Int.tdiv ((m / 16 ^ i:Nat):Int) 16=((m / 16 ^ (i+1):Nat):Int):=by
   show ((m / 16 ^ i / 16:Nat):Int)=_
   rw [Nat.div_div_eq_div_mul,Nat.pow_succ]
  have hle2:m / 16 ^ (i+1)<=m:=Nat.div_le_self ..
  have hfr:=zfp i m
  rw [e0,e1]
  generalize m / 16 ^ i % 16=g at *
  have e2:IntKind.wrap .i64 ((g:Int)+1)=((g+1:Nat):Int):=by rw [w64 (by omega) (by omega)];omega
  rw [e2,Int.toNat_natCast,Int.toNat_natCast,zzk hlt]
  have hsz:(⟨#[z48 g]⟩:ByteArray).size=1:=rfl
  have hsz2:(⟨(z1q i m).toArray⟩:ByteArray).size=i:=by
   show (z1q i m).toArray.size=i
   rw [List.size_toArray,z3g]
  have e3:(⟨#[z48 g]⟩:ByteArray)++⟨(z1q i m).toArray⟩=⟨(z1q (i+1) m).toArray⟩:=by
   apply z9j
   rw [zk5,z7n,z7n,hfr]
   rfl
  refine wp_must ⟨by omega,by omega,by omega⟩ ?_
  refine wp_must (by rw [hsz,hsz2];omega) ?_
  rw [e3]
  refine wp_lt ?_
  have e4:IntKind.wrap .i64 ((m / 16 ^ (i+1):Nat):Int)=((m / 16 ^ (i+1):Nat):Int):=by
   generalize m / 16 ^ (i+1)=q at hle2 ⊢
   exact w64 (by omega) (by omega)
  rw [e4]
  refine wp_lt ?_
  rw [wS (i:=i) (by omega)]
  refine wp_lt ?_
  exact z0q (11-(i+1)) ⟨i+1,rfl,by omega,rfl,hs⟩
theorem zkk (x:Int):∃ m:Nat,m<18446744073709551616/\IntKind.wrap .u64 x=(m:Int):=by
 have e:IntKind.wrap .u64 x=x % 18446744073709551616:=by simp [IntKind.wrap,IntKind.bits,IntKind.signed]
 exact ⟨(x % 18446744073709551616).toNat,by omega,by rw [e];omega⟩
theorem zut (base fin:Int) (hs:Sat w l):Ret P F.a134 #[.int .i64 base,.int .i64 fin] w λvs w'=>∃ (z:Sl) (bs:List UInt8),vs=[z.v]/\bs.length<=40/\Sat w' (slc T.a38 1 z (bs.flatMap zg)::l) :=
 ze3 base fin <| by
  unfold zrs
  obtain ⟨m1,hm1,e1⟩:=zkk base
  obtain ⟨m2,hm2,e2⟩:=zkk fin
  have u1_:=z69 m1
  have u2_:=z69 m2
  rw [e1,e2]
  refine z1f hs (enc:=zg) (83:UInt8) λz1 w' hs=>?_
  refine za (zax 9 m1 (by omega) hm1 hs) λ_ w' hs=>?_
  obtain ⟨z2,rfl,hs⟩:=hs
  refine ze ?_
  refine wp_app' (xs:=[(83:UInt8)]) (ys:=z2i m1) (enc:=zg) hs (λz3 w' hs=>?_) (by simp only [List.length_cons,List.length_nil];omega)
  refine za (zax 9 m2 (by omega) hm2 hs) λ_ w' hs=>?_
  obtain ⟨z4,rfl,hs⟩:=hs
  refine ze ?_
  refine wp_app' (xs:=[(83:UInt8)]++z2i m1) (ys:=z2i m2) (enc:=zg) hs (λz5 w' hs=>?_) (by simp only [List.length_append,List.length_cons,List.length_nil];omega)
  have hlen:([(83:UInt8)]++z2i m1++z2i m2).length<=21:=by simp only [List.length_append,List.length_cons,List.length_nil];omega
  generalize [(83:UInt8)]++z2i m1++z2i m2=q at *
  refine za (zae z5 q (by omega) hs) λ_ w' hs=>?_
  obtain ⟨z6,rfl,hs⟩:=hs
  refine ze ?_
  refine ⟨rfl,z6,z21 q,rfl,by rw [z71 (by omega)];omega,?_⟩
  have hs:Sat w' (slc T.a38 1 z6 ((z21 q).flatMap zg)::_):=hs
  exact hs.sub
end
def zq1 (pre:ByteArray) (D:DiskA):Prop:=∀ n,(z06 D.fs n).isSome=true->(bl (z13 pre)).isPrefixOf (bl n)=true
theorem Fr.allQ {pre:ByteArray} {D D':DiskA} (h:Fr pre D D') (ha:zq1 pre D):zq1 pre D':=λn hn=>by
 cases hx:(bl (z13 pre)).isPrefixOf (bl n) with
 | true=>rfl
 | false =>
  rw [h.other n hx] at hn
  rw [ha n hn] at hx;cases hx
theorem Cpl.exact {pre:ByteArray} {l:List SegA} {D:DiskA} (h:Cpl pre l D) (ha:zq1 pre D):D.fs.length=l.length/\used D.fs=z4s l:=by
 have hn:=h.names
 have hfil:D.fs.filter (λf=>(bl (z13 pre)).isPrefixOf (bl f.name))=D.fs:=List.filter_eq_self.2 λf hf=>by
  have h1:=z7h (z2j h.ok.sorted) hf
  exact ha f.name (by rw [h1];rfl)
 have e:D.fs.map (·.name)=l.map λs=>zi pre s.base zu:=by
  rw [<- hn]
  conv=>lhs;rw [<- hfil]
  unfold z12
  rw [List.filter_map]
  congr 1
  apply List.filter_congr
  intro f _
  show _=Go.Proofs.YtfnldnodhfkojaaGreat.preF (z13 pre) f.name
  rw [zgz]
 have hs:=zcg e λf hf s hs hfs=>by
  have h1:=z7h (z2j h.ok.sorted) hf
  obtain ⟨k,hk⟩:=h.has s hs
  rw [hfs,hk] at h1
  simp only [Option.some.injEq,Prod.mk.injEq] at h1
  exact h1.1.symm
 have hl:=congrArg List.length e
 rw [List.length_map,List.length_map] at hl
 exact ⟨hl,hs⟩
structure PlP (k:Nat) (l:List SegA) (D:DiskA):Prop where
 cpl:Cpl qP l D
 calm:Calm D
 all:zq1 qP D
 room:D.room=1048576
 sum:z4s l<=2100*k
 len:l.length<=k
 bs:(z0o l).length<=3*k
 next:z01 l<=200*k
theorem PlP.free {k:Nat} {l:List SegA} {D:DiskA} (h:PlP k l D) (hk:k<=41):D.fs.length<=41/\900000<=D.free:=by
 obtain ⟨h1,h2⟩:=h.cpl.exact h.all
 have:=h.sum
 have:=h.len
 have:=h.room
 unfold DiskA.free
 omega
theorem PlP.mono {k k':Nat} {l:List SegA} {D:DiskA} (h:PlP k l D) (hk:k<=k'):PlP k' l D :=
 ⟨h.cpl,h.calm,h.all,h.room,by have:=h.sum;omega,by have:=h.len;omega,by have:=h.bs;omega,by have:=h.next;omega⟩
theorem zuy {s:Int} {l:List SegA} {bs:List BatM} (hok:z0k 0 l):(z16 s l bs).2.length<=l.length+1/\(z0o (z16 s l bs).2).length<=(z0o l).length+bs.length:=by
 by_cases h:bs=[]\/(z00 (z01 l) bs).1≠0
 ·rw [(z9i h).1];omega
 ·have hb:bs≠[]:=λe=>h (.inl e)
  have hp:(z00 (z01 l) bs).1=0:=Decidable.not_not.1 λe=>h (.inr e)
  rw [(z95 (seg:=s) hok hb hp).1,List.length_append,List.length_map]
  refine ⟨?_,?_⟩
  ·unfold z16
   split
   ·simp only;omega
   split
   ·simp only;omega
   simp only
   split
   ·rename_i hr
    have hne:l≠[]:=by rintro rfl;cases hr
    obtain ⟨l0,s,rfl⟩:=z2r hne
    rw [z39]
    simp
   ·simp
  ·have:∀ (bs:List BatM) (n:Int),(z00 n bs).2.length<=bs.length:=by
    intro bs
    induction bs with
    | nil=>intro n;exact Nat.le_refl _
    | cons b bs ih =>
     intro n
     unfold z00
     split
     ·exact Nat.zero_le _
     split
     ·exact Nat.zero_le _
     ·rename_i h1 h2
      simp only [List.length_cons]
      exact Nat.succ_le_succ (ih _)
   have:=this bs (z01 l)
   omega
theorem PlP.stp {k:Nat} {l l':List SegA} {D D':DiskA} (h:PlP k l D) (hs:Stp qP l D l' D') (h1:z4s l'<=z4s l+2100) (h2:l'.length<=l.length+1) (h3:(z0o l').length<=(z0o l).length+3) (h4:z01 l'<=z01 l+200):PlP (k+1) l' D' :=
 ⟨hs.1,hs.2.2.2.2 h.calm,hs.2.1.allQ h.all,by rw [hs.2.1.room];exact h.room,by have:=h.sum;omega,by have:=h.len;omega,by have:=h.bs;omega,by have:=h.next;omega⟩
theorem zgk:∀ {bs:List BatM} {n:Int},(z00 n bs).1=0->bs≠[]->z0n ((z00 n bs).2.map BatM.p)<=n+64*(bs.length:Int)
 | [],_,_,h=>absurd rfl h
 | b::bs,n,hp,_=>by
  unfold z00 at hp ⊢
  split at hp
  ·rename_i hv;exact absurd hp hv
  rename_i hv
  have hv:=Decidable.not_not.1 hv
  have h64:z0d (b.to n)<=64:=zyn hv
  have h64:z0d b<=64:=h64
  split at hp
  ·rename_i hv2;exact absurd hp hv2
  rename_i h2
  have h2:=Decidable.not_not.1 h2
  rw [if_neg (by rw [hv];simp),if_neg (by rw [h2];simp)]
  simp only [List.length_cons,List.map_cons]
  by_cases hb:bs=[]
  ·subst hb
   show (b.to n).p.base+z0d (b.to n).p<=_
   have e1:(b.to n).p.base=n:=rfl
   have e2:z0d (b.to n).p=z0d b:=rfl
   simp only [List.length_nil]
   omega
  ·have hi:=zgk h2 hb
   have hne:(z00 (n+z0d b) bs).2.map BatM.p≠[]:=λe=>by
    have h3:=(z8d h2).1
    have e:=List.map_eq_nil_iff.1 e
    rw [e] at h3
    cases bs with
    | nil=>exact hb rfl
    | cons=>simp at h3
   obtain ⟨c,cs,hc⟩:=List.exists_cons_of_ne_nil hne
   rw [hc] at hi ⊢
   have e:z0n ((b.to n).p::c::cs)=z0n (c::cs):=rfl
   rw [e]
   omega
theorem zum {s:Int} {l:List SegA} {bs:List BatM} (h:z0k 0 l):z01 (z16 s l bs).2<=z01 l+64*(bs.length:Int):=by
 by_cases hq:bs=[]\/(z00 (z01 l) bs).1≠0
 ·rw [(z9i hq).1];omega
 ·have hb:bs≠[]:=λe=>hq (.inl e)
  have hp:(z00 (z01 l) bs).1=0:=Decidable.not_not.1 λe=>hq (.inr e)
  rw [(z95 (seg:=s) h hb hp).2]
  exact zgk hp hb
theorem PlP.app {k:Nat} {l:List SegA} {D:DiskA} (s:Int) {bs:List BatM} (h:PlP k l D) (hk:k<=40) (hbs:((z00 (z01 l) bs).2.flatMap frL).length<=2028) (h3:bs.length<=3) :
  (z0s qP s l D bs).1=(z16 s l bs).1/\(z0s qP s l D bs).2.1=(z16 s l bs).2/\PlP (k+1) (z16 s l bs).2 (z0s qP s l D bs).2.2:=by
 obtain ⟨f1,f2⟩:=h.free (by omega)
 have hsl:=z7j (z01 l) 0
 have hst:=zb7 s bs z6o h.cpl
 have hsum:=zk9 (seg:=s) (l:=l) (bs:=bs)
 obtain ⟨n1,n2⟩:=zuy (s:=s) (bs:=bs) h.cpl.segs
 rcases zi9 s bs z6o h.cpl h.calm with ⟨e1,e2⟩|⟨-,-,-,-,h5|h5⟩
 ·rw [e2] at hst
  have hna:=zum (s:=s) (bs:=bs) h.cpl.segs
  exact ⟨e1,e2,h.stp hst (by omega) n1 (by omega) (by omega)⟩
 ·omega
 ·omega
instance:EncF z03 3 (.int .i64) (λr=>r.time):=⟨λ_=>rfl⟩
section
variable {w:World} {l r:List HP}
theorem z03o (x:Sl) (bs pool:List BatM) (hx:FocR r x 7 (bs.flatMap zw)) (hbs:∀ b ∈ bs,FocR r b.x 4 (b.rs.flatMap z03)) (hs:Sat w (z0a pool::r)) :
  Ret P F.a101 #[x.v] w λvs w'=>∃ (y:Sl) (outs pool':List BatM),vs=[y.v]/\outs.map BatM.p=(bs.take 3).map (λb=>(z0l b).p)/\InB pool' outs/\(∀ c ∈ pool,c ∈ pool')/\Sat w' (slc T.a1 7 y (outs.flatMap zw)::z0a pool'::r) :=
 zmk x <| by
  unfold zwi
  have hlx:=hs.slen x (xs:=bs) (enc:=zw)
  refine zx (λq w'=>∃ (y:Sl) (outs pool':List BatM),q=(y,())/\outs.map BatM.p=(bs.take 3).map (λb=>(z0l b).p)/\InB pool' outs/\(∀ c ∈ pool,c ∈ pool')/\Sat w' (slc T.a1 7 y (outs.flatMap zw)::z0a pool'::r)) ?_ ?_
  rotate_left
  ·rintro _ w2 ⟨y,outs,pool',rfl,h⟩
   exact ⟨rfl,y,outs,pool',rfl,h⟩
  have hs:Sat w (slc T.a1 7 ⟨none,0,0⟩ (([]:List BatM).flatMap zw)::z0a pool::r):=hs.slc_nil
  refine z0e (λm v w=>∃ (i:Nat) (y:Sl) (outs pool':List BatM),v=(y,((i:Int),()))/\i<=bs.length/\i<=3/\bs.length-i=m/\outs.length=i/\outs.map BatM.p=(bs.take i).map (λb=>(z0l b).p)/\InB pool' outs/\(∀ c ∈ pool,c ∈ pool')/\Sat w (slc T.a1 7 y (outs.flatMap zw)::z0a pool'::r)) bs.length ⟨0,⟨none,0,0⟩,[],pool,rfl,by omega,by omega,rfl,rfl,rfl,(λb hb=>by cases hb),(λc hc=>hc),hs⟩ ?_
  clear hs
  rintro m _ w ⟨i,y,outs,pool',rfl,hi,hi3,hm,hol,hmap,hin,hsub,hs⟩
  refine zt ?_
  refine zk (λhc=>?_) λhc=>?_
  rotate_left
  ·have e:bs.take 3=bs.take i:=by rw [List.take_of_length_le (by omega),List.take_of_length_le (by omega)]
   exact zv (zj ⟨y,outs,pool',rfl,by rw [e];exact hmap,hin,hsub,hs⟩)
  have hil:i<bs.length:=by omega
  have hR:=hbs _ (List.getElem_mem hil)
  have hx1:bs.take (i+1)=bs.take i++[bs[i]]:=List.take_succ_eq_append_getElem hil
  refine z23 hs (xs:=bs) (enc:=zw) i hil ?_
  generalize bs[i]=b at *
  refine z05 hs λa11 w' hs=>?_
  refine wp_lt ?_
  refine z09 hs λw' hs=>?_
  refine zk (λh3=>?_) λh3=>?_
  ·have e:i=3:=by omega
   subst e
   exact zv (zj ⟨y,outs,pool',rfl,hmap,hin,hsub,hs.tail⟩)
  refine z02 hs ?_
  refine za (zys b hs) λ_ w' hs=>?_
  obtain ⟨z,rfl,hs⟩:=hs
  refine ⟨(b.base,b.pid,b.epoch,b.seq,b.kind,b.time,z,()),rfl,trivial,zbf _ _ _ _ _ _ _ ?_⟩
  refine z1f hs (enc:=zw) ((z0l b).at z) λy2 w' hs=>?_
  refine wp_app' (xs:=outs) (ys:=[(z0l b).at z]) (enc:=zw) hs (λy3 w' hs=>?_) (by simp only [List.length_cons,List.length_nil];omega)
  have hs:Sat w' (slc T.a3 4 z ((z0l b).rs.flatMap z03)::z0a pool'::slc T.a1 7 y3 ((outs++[(z0l b).at z]).flatMap zw)::r):=hs.sub
  have hs:=zhl hs
  rw [wS (i:=i) (by omega)]
  refine z0q (bs.length-(i+1)) ⟨i+1,y3,outs++[(z0l b).at z],pool'++[(z0l b).at z],rfl,by omega,by omega,rfl,by simp [hol],?_,(hin.more _).app λq hq=>by rw [List.mem_singleton.1 hq];exact ⟨(z0l b).at z,by simp,rfl,rfl⟩,λc hc=>List.mem_append_left _ (hsub c hc),hs.pick [1]⟩
  rw [hx1,List.map_append,List.map_append,hmap]
  rfl
end
def Sm (c:BatM):Prop:=c.rs.length<=6/\∀ r ∈ c.rs,r.key.size+r.value.size<=60
theorem Sm.fr {c:BatM} (h:Sm c) (hv:z0c c=0):(frL c).length<=676:=by
 have h1:=zhf (b:=c) (n:=60) h.2
 have h2:=z3q hv
 have h3:=h.1
 omega
theorem Sm.of {c b:BatM} (h:c.p=(z0l b).p):Sm c:=by
 obtain ⟨-,-,-,-,-,-,e⟩:=zjq h
 have e:c.rs=(b.rs.take 6).map z4f:=e
 refine ⟨by rw [e,List.length_map,List.length_take];omega,λr hr=>?_⟩
 rw [e] at hr
 obtain ⟨q,-,rfl⟩:=List.mem_map.1 hr
 have h1:=z7w q.key
 have h2:=z7w q.value
 show (z4y q.key).size+(z4y q.value).size<=60
 omega
theorem zk1:∀ {cs:List BatM} {n:Int},(∀ c ∈ cs,Sm c)->((z00 n cs).2.flatMap frL).length<=676*cs.length
 | [],_,_=>Nat.le_refl _
 | c::cs,n,h=>by
  unfold z00
  split
  ·exact Nat.zero_le _
  rename_i hv
  split
  ·exact Nat.zero_le _
  have hv:=Decidable.not_not.1 hv
  have h1:Sm (c.to n):=h c (List.mem_cons_self ..)
  have h2:=h1.fr hv
  have h3:=zk1 (n:=n+z0d c) λd hd=>h d (List.mem_cons_of_mem _ hd)
  show ((c.to n::(z00 (n+z0d c) cs).2).flatMap frL).length<=_
  rw [List.flatMap_cons,List.length_append,List.length_cons]
  omega
theorem PlP.sync {k:Nat} {l:List SegA} {D:DiskA} (h:PlP k l D):(z19 qP l D).1=0/\PlP k l (z19 qP l D).2:=by
 obtain ⟨y1,y2,y3,y4,y5⟩:=z89 h.cpl
 exact ⟨y5 h.calm,y1,zbj h.calm _ _,y2.allQ h.all,by rw [y2.room];exact h.room,h.sum,h.len,h.bs,h.next⟩
structure StP (s g:Int) (k:Nat) (R:RefM) (pool:List BatM) (D:DiskA):Prop where
 pl:PlP k R.l D
 seg:R.seg=s
 gap:R.gap=g
 in1:InP pool R
theorem StP.srl {s g:Int} {k:Nat} {R:RefM} {pool:List BatM} {D:DiskA} (h:StP s g k R pool D):R.SR.length<=k/\R.bs.length<=3*k:=by
 have h1:=h.pl.len
 have h2:=h.pl.bs
 rw [zao] at h1
 rw [z88,List.length_map] at h2
 exact ⟨h1,h2⟩
section
variable {w:World} {l r:List HP} {d lg rr:Nat} {R:RefM} {D:DiskA} {pool:List BatM}
theorem StP.ok {s g:Int} {k:Nat} (h:StP s g k R pool D) (hk:k<=1000) {L:List HP}:okR R (z0a pool::L):=by
 obtain ⟨h1,h2⟩:=h.srl
 exact zk8 h.pl.cpl.segs (by omega) (by omega) h.in1
end
structure FilM6 where
 base:Int
 made:Bool
 head:Int
 fin:Int
 lx:Sl
 bs:List BatM
 rx:Sl
 raw:List UInt8
def za4 (f:FilM6):List Value:=[.int .i64 f.base,.bool f.made,.int .i64 f.head,.int .i64 f.fin,.slice f.lx.a f.lx.len f.lx.cap,.slice f.rx.a f.rx.len f.rx.cap]
instance:EncA za4 [.int .i64,.bool,.int .i64,.int .i64,.slc,.slc] (λf=>(f.base,f.made,f.head,f.fin,f.lx,f.rx,())):=⟨λ_=>rfl⟩
instance:EncN za4 6:=⟨λ_=>rfl,by decide,by simp [za4,Value.oneCell']⟩
structure OkF6 (l:List HP) (f:FilM6):Prop where
 lx:FocR l f.lx 7 (f.bs.flatMap zw)
 bs:∀ b ∈ f.bs,FocR l b.x 4 (b.rs.flatMap z03)
 rx:FocR l f.rx 1 (f.raw.flatMap zg)
 cap:f.rx.len<=f.rx.cap
def z26 (o:OneM):HP:=slc T.a38 1 o.x (o.b.flatMap zg)
def z5d (n:OneM):List OneM->List OneM
 | []=>[n]
 | x::xs=>if x.base>n.base then n::x::xs else x::z5d n xs
theorem z8b (n:OneM):∀ fs:List OneM,(z5d n fs).Perm (n::fs)
 | []=>.refl _
 | x::xs=>by
  unfold z5d
  split
  ·exact .refl _
  ·exact ((z8b n xs).cons x).trans (.swap ..)
theorem zod (n:OneM):∀ {fs:List OneM},(fs.Pairwise λa b=>a.base<b.base)->(∀ f ∈ fs,f.base≠n.base)->(z5d n fs).Pairwise λa b=>a.base<b.base
 | [],_,_=>List.pairwise_singleton _ _
 | x::xs,h,hne=>by
  rw [List.pairwise_cons] at h
  have hx:=hne x (List.mem_cons_self ..)
  unfold z5d
  split
  ·rename_i hgt
   refine List.pairwise_cons.2 ⟨λy hy=>?_,List.pairwise_cons.2 h⟩
   rcases List.mem_cons.1 hy with rfl|hy
   ·omega
   ·have:=h.1 y hy;omega
  ·rename_i hgt
   refine List.pairwise_cons.2 ⟨λy hy=>?_,zod n h.2 λf hf=>hne f (List.mem_cons_of_mem _ hf)⟩
   rcases List.mem_cons.1 ((z8b n xs).mem_iff.1 hy) with rfl|hy
   ·omega
   ·exact h.1 y hy
structure LayP (k:Nat) (fs:List OneM) (D:DiskA):Prop where
 ok:okA D
 calm:Calm D
 room:D.room=1048576
 used:used D.fs<=2200*k
 len:D.fs.length<=k
 fl:fs.length<=k
 has:∀ f ∈ fs,∃ kk,z06 D.fs (zi qP f.base zu)=some (f.b,kk)
 only:∀ m,(z06 D.fs m).isSome=true->∃ f ∈ fs,m=zi qP f.base zu
 rng:∀ f ∈ fs,0<=f.base/\f.base<17592186044416
 nd:fs.Pairwise λa b=>a.base<b.base
 small:∀ f ∈ fs,f.b.length<=2200
theorem LayP.mono {k k':Nat} {fs:List OneM} {D:DiskA} (h:LayP k fs D) (hk:k<=k'):LayP k' fs D :=
 ⟨h.ok,h.calm,h.room,by have:=h.used;omega,by have:=h.len;omega,by have:=h.fl;omega,h.has,h.only,h.rng,h.nd,h.small⟩
theorem LayP.add {k:Nat} {fs:List OneM} {D:DiskA} (h:LayP k fs D) (hk:k<=6) (o:OneM) (ho:0<=o.base/\o.base<17592186044416) (hne:∀ f ∈ fs,f.base≠o.base) (hsm:o.b.length<=2200) :
  (z04 D (zi qP o.base zu) o.b).1=0/\LayP (k+1) (z5d o fs) (z04 D (zi qP o.base zu) o.b).2:=by
 have hu:=h.used
 have hr:=h.room
 have hl:=h.len
 have hgo:(z04 D (zi qP o.base zu) o.b).1=0:=z6u h.calm.gone (zah z6o _) (by unfold DiskA.free;omega) (.inr (by omega))
 obtain ⟨-,-,-,a1,a2,a3,a4⟩:=z6b h.ok hgo
 have a5:=(z56 (A:=D) (n:=zi qP o.base zu) (bs:=o.b)).1
 have hnone:z06 D.fs (zi qP o.base zu)=none:=by
  cases hq:z06 D.fs (zi qP o.base zu) with
  | none=>rfl
  | some q =>
   obtain ⟨f,hf,e⟩:=h.only _ (by rw [hq];rfl)
   exact absurd (z5l ho (h.rng f hf) e).1.symm (hne f hf)
 rw [hnone] at a4
 have hmem:∀ f,f ∈ z5d o fs↔f=o\/f ∈ fs:=λf=>by rw [(z8b o fs).mem_iff];exact List.mem_cons
 refine ⟨hgo,a1,z9k h.calm _ _,by rw [a2];exact hr,by omega,by omega,by rw [(z8b o fs).length_eq];have:=h.fl;simp;omega,λf hf=>?_,λm hm=>?_,λf hf=>?_,zod o h.nd hne,λf hf=>?_⟩
 ·rcases (hmem f).1 hf with rfl|hf
  ·rw [a4,if_pos rfl]
   exact ⟨0,rfl⟩
  ·rw [a4,if_neg (λe=>hne f hf (z5l (h.rng f hf) ho e).1)]
   exact h.has f hf
 ·rw [a4] at hm
  by_cases he:m=zi qP o.base zu
  ·exact ⟨o,(hmem o).2 (.inl rfl),he⟩
  ·rw [if_neg he] at hm
   obtain ⟨f,hf,e⟩:=h.only m hm
   exact ⟨f,(hmem f).2 (.inr hf),e⟩
 ·rcases (hmem f).1 hf with rfl|hf
  ·exact ho
  ·exact h.rng f hf
 ·rcases (hmem f).1 hf with rfl|hf
  ·exact hsm
  ·exact h.small f hf
section
variable {w:World} {l r:List HP}
set_option maxHeartbeats 2000000 in
theorem z02t (d:Nat) (fx:Sl) (files:List FilM6) (pool:List BatM) (hfx:FocR r fx 6 (files.flatMap za4)) (hfd:∀ f ∈ files,OkF6 r f) (hs:Sat w (dk d ⟨1048576,-1,false,[]⟩::z0a pool::r)) :
  Ret P F.a103 #[.pointer (some ⟨d,0,none⟩),fx.v] w λvs w'=>∃ (z:Sl) (fs:List OneM) (D':DiskA) (pool':List BatM),vs=[z.v]/\LayP 6 fs D' /\
   Sat w' (slc T.a36 2 z (fs.flatMap z18)::HP.all (fs.map z26)::dk d D'::z0a pool'::r) :=
 znb _ fx <| by
  unfold zx3
  have hlx:=hs.tail.tail.slen fx (xs:=files) (enc:=za4)
  refine zx (λq w'=>∃ (z:Sl) (fs:List OneM) (D':DiskA) (pool':List BatM),q=(z,())/\LayP 6 fs D'/\Sat w' (slc T.a36 2 z (fs.flatMap z18)::HP.all (fs.map z26)::dk d D'::z0a pool'::r)) ?_ ?_
  rotate_left
  ·rintro _ w2 ⟨z,fs,D',pool',rfl,h1,hs⟩
   exact ⟨rfl,z,fs,D',pool',rfl,h1,hs⟩
  have hL0:LayP 0 [] ⟨1048576,-1,false,[]⟩:=⟨(zsz qP 1048576 (by omega)).ok,⟨rfl,rfl⟩,rfl,Nat.le_refl _,Nat.le_refl _,Nat.le_refl _,(λf hf=>by cases hf),(λm hm=>by cases hm),(λf hf=>by cases hf),List.Pairwise.nil,(λf hf=>by cases hf)⟩
  have hs:Sat w (slc T.a36 2 ⟨none,0,0⟩ (([]:List OneM).flatMap z18)::HP.all (([]:List OneM).map z26)::dk d ⟨1048576,-1,false,[]⟩::z0a pool::r):=(hs.all_nil).slc_nil
  refine z0e (λm v w=>∃ (i:Nat) (z:Sl) (fs:List OneM) (D:DiskA) (pool':List BatM),v=(z,((i:Int),()))/\i<=files.length/\i<=6/\files.length-i=m/\LayP i fs D/\Sat w (slc T.a36 2 z (fs.flatMap z18)::HP.all (fs.map z26)::dk d D::z0a pool'::r)) files.length ⟨0,⟨none,0,0⟩,[],_,pool,rfl,by omega,by omega,rfl,hL0,hs⟩ ?_
  clear hs hL0
  rintro m _ w ⟨i,z,fs,D,pool,rfl,hi,hi6,hm,hL,hs⟩
  refine zt ?_
  refine zk (λhc=>?_) λhc=>?_
  rotate_left
  ·exact zv (zj ⟨z,fs,D,pool,rfl,hL.mono hi6,hs⟩)
  have hil:i<files.length:=by omega
  obtain ⟨hf1,hf2,hf3,hf4⟩:=hfd _ (List.getElem_mem hil)
  refine zx (λq w'=>∃ (z':Sl) (fs':List OneM) (D':DiskA) (pool':List BatM),q=(z',())/\i+1<=6/\LayP (i+1) fs' D'/\Sat w' (slc T.a36 2 z' (fs'.flatMap z18)::HP.all (fs'.map z26)::dk d D'::z0a pool'::r)) ?_ ?_
  rotate_left
  ·clear hs
   rintro _ w ⟨z',fs',D',pool',rfl,h6,hL',hs⟩
   refine zt ?_
   rw [wS (i:=i) (by omega)]
   exact z0q (files.length-(i+1)) ⟨i+1,z',fs',D',pool',rfl,by omega,h6,rfl,hL',hs⟩
  refine z23 hs (xs:=files) (enc:=za4) i hil ?_
  generalize files[i]=f at *
  refine z05 hs λa10 w' hs=>?_
  refine wp_lt ?_
  refine z09 hs λw' hs=>?_
  refine zk (λh6=>?_) λh6=>?_
  ·exact zv (zv (zj ⟨z,fs,D,pool,rfl,hL.mono hi6,hs.tail⟩))
  refine zd hs ?_
  have hm1:=Int.tmod_lt_of_pos f.base (show (0:Int)<17592186044416 by omega)
  have hm2 : -17592186044416<Int.tmod f.base 17592186044416:=Int.lt_tmod_of_pos f.base (by omega)
  generalize Int.tmod f.base 17592186044416=t at *
  refine wp_lt ?_
  have hs:Sat w' (pt a10 (.cells #[.int .i64 f.base,.bool f.made,.int .i64 f.head,.int .i64 f.fin,.slice f.lx.a f.lx.len f.lx.cap,.slice f.rx.a f.rx.len f.rx.cap] T.a33)::slc T.a36 2 z (fs.flatMap z18)::HP.all (fs.map z26)::dk d D::z0a pool::r):=hs
  refine zx (λq w'=>∃ bN:Int,(0<=bN/\bN<17592186044416)/\q=(bN,())/\Sat w' (pt a10 (.cells #[.int .i64 f.base,.bool f.made,.int .i64 f.head,.int .i64 f.fin,.slice f.lx.a f.lx.len f.lx.cap,.slice f.rx.a f.rx.len f.rx.cap] T.a33)::slc T.a36 2 z (fs.flatMap z18)::HP.all (fs.map z26)::dk d D::z0a pool::r)) ?_ ?_
  ·refine zk (λh=>?_) λh=>?_
   ·rw [w64 (by omega) (by omega)]
    refine wp_lt ?_
    exact zj ⟨0-t,by omega,rfl,hs⟩
   ·exact zj ⟨t,by omega,rfl,hs⟩
  clear hs hm1 hm2
  rintro _ w ⟨bN,hbN,rfl,hs⟩
  refine zt ?_
  refine zd hs ?_
  refine zx (λq w'=>∃ (zb:Sl) (by_:List UInt8) (pool':List BatM),q=(zb,())/\by_.length<=2068/\Sat w' (slc T.a38 1 zb (by_.flatMap zg)::pt a10 (.cells #[.int .i64 f.base,.bool f.made,.int .i64 f.head,.int .i64 f.fin,.slice f.lx.a f.lx.len f.lx.cap,.slice f.rx.a f.rx.len f.rx.cap] T.a33)::slc T.a36 2 z (fs.flatMap z18)::HP.all (fs.map z26)::dk d D::z0a pool'::r)) ?_ ?_
  ·refine zk (λh=>?_) λh=>?_
   rotate_left
   ·exact zj ⟨⟨none,0,0⟩,[],pool,rfl,by simp,hs.slc_nil⟩
   refine zd hs ?_
   refine zd hs ?_
   refine za (zut f.head f.fin hs) λ_ w' hs=>?_
   obtain ⟨zh,hb,rfl,hhl,hs⟩:=hs
   refine ze ?_
   refine zd hs ?_
   have hs:Sat w' (z0a pool::slc T.a38 1 zh (hb.flatMap zg)::pt a10 (.cells #[.int .i64 f.base,.bool f.made,.int .i64 f.head,.int .i64 f.fin,.slice f.lx.a f.lx.len f.lx.cap,.slice f.rx.a f.rx.len f.rx.cap] T.a33)::slc T.a36 2 z (fs.flatMap z18)::HP.all (fs.map z26)::dk d D::r):=hs.sub
   refine za (z03o f.lx f.bs pool inferInstance (λb hb=>by have:=hf2 b hb;infer_instance) hs) λ_ w' hs=>?_
   obtain ⟨y,outs,pool1,rfl,hmap,hin1,-,hs⟩:=hs
   refine ze ?_
   have hol:outs.length<=3:=by
    have:=congrArg List.length hmap
    rw [List.length_map,List.length_map,List.length_take] at this
    omega
   have hsm:∀ c ∈ outs,Sm c:=λc hc=>by
    have h1:c.p ∈ (f.bs.take 3).map λb=>(z0l b).p:=by rw [<- hmap];exact List.mem_map.2 ⟨c,hc,rfl⟩
    obtain ⟨b,-,hb⟩:=List.mem_map.1 h1
    exact Sm.of hb.symm
   have hly:=hs.slen y (xs:=outs) (enc:=zw)
   refine zx (λq w'=>∃ (zb:Sl) (by_:List UInt8),q=(zb,())/\by_.length<=2068/\Sat w' (slc T.a38 1 zb (by_.flatMap zg)::pt a10 (.cells #[.int .i64 f.base,.bool f.made,.int .i64 f.head,.int .i64 f.fin,.slice f.lx.a f.lx.len f.lx.cap,.slice f.rx.a f.rx.len f.rx.cap] T.a33)::slc T.a36 2 z (fs.flatMap z18)::HP.all (fs.map z26)::dk d D::z0a pool1::r)) ?_ ?_
   rotate_left
   ·rintro _ w ⟨zb,by_,rfl,h1,hs⟩
    refine zt ?_
    exact zj ⟨zb,by_,pool1,rfl,h1,hs⟩
   have hs:Sat w' (slc T.a38 1 zh (hb.flatMap zg)::slc T.a1 7 y (outs.flatMap zw)::pt a10 (.cells #[.int .i64 f.base,.bool f.made,.int .i64 f.head,.int .i64 f.fin,.slice f.lx.a f.lx.len f.lx.cap,.slice f.rx.a f.rx.len f.rx.cap] T.a33)::slc T.a36 2 z (fs.flatMap z18)::HP.all (fs.map z26)::dk d D::z0a pool1::r):=hs.sub
   refine z0e (λm v w=>∃ (j:Nat) (zb:Sl) (by_:List UInt8),v=(zb,((j:Int),()))/\j<=outs.length/\outs.length-j=m/\by_.length<=40+676*j/\Sat w (slc T.a38 1 zb (by_.flatMap zg)::slc T.a1 7 y (outs.flatMap zw)::pt a10 (.cells #[.int .i64 f.base,.bool f.made,.int .i64 f.head,.int .i64 f.fin,.slice f.lx.a f.lx.len f.lx.cap,.slice f.rx.a f.rx.len f.rx.cap] T.a33)::slc T.a36 2 z (fs.flatMap z18)::HP.all (fs.map z26)::dk d D::z0a pool1::r)) outs.length ⟨0,zh,hb,rfl,by omega,rfl,by omega,hs⟩ ?_
   clear hs
   rintro m2 _ w ⟨j,zb,by_,rfl,hj,hm2,hbyl,hs⟩
   refine zt ?_
   refine zk (λhcj=>?_) λhcj=>?_
   rotate_left
   ·exact zv (zj ⟨zb,by_,rfl,by omega,hs.sub⟩)
   have hjl:j<outs.length:=by omega
   have hRb:FocR (z0a pool1::r) outs[j].x 4 (outs[j].rs.flatMap z03):=InB.rd hin1 _ (List.getElem_mem hjl)
   have hsj:=hsm _ (List.getElem_mem hjl)
   refine z23 hs (xs:=outs) (enc:=zw) j hjl ?_
   generalize outs[j]=b at *
   refine z05 hs λa33 w' hs=>?_
   refine z09 hs λw' hs=>?_
   refine z02 hs ?_
   have hs:=hs.tail
   refine za (za1 b hs) λ_ w' hs=>?_
   rcases hs with ⟨hbad,rfl,hs⟩|⟨hv,z2,rfl,hs⟩
   ·refine ⟨(⟨none,0,0⟩,z0c b,()),rfl,trivial,z37 _ _ ?_⟩
    refine wp_lt ?_
    refine zx (λq w'=>q=(zb,())/\Sat w' (slc T.a38 1 zb (by_.flatMap zg)::slc T.a1 7 y (outs.flatMap zw)::pt a10 (.cells #[.int .i64 f.base,.bool f.made,.int .i64 f.head,.int .i64 f.fin,.slice f.lx.a f.lx.len f.lx.cap,.slice f.rx.a f.rx.len f.rx.cap] T.a33)::slc T.a36 2 z (fs.flatMap z18)::HP.all (fs.map z26)::dk d D::z0a pool1::r)) ?_ ?_
    ·refine z0j ?_ hbad
     exact zj ⟨rfl,hs⟩
    rintro _ w2 ⟨rfl,hs⟩
    refine zt ?_
    rw [wS (i:=j) (by omega)]
    exact z0q (outs.length-(j+1)) ⟨j+1,zb,by_,rfl,by omega,rfl,by omega,hs⟩
   ·refine ⟨(z2,0,()),rfl,trivial,z37 _ _ ?_⟩
    refine wp_lt ?_
    have hfl:=hsj.fr hv
    have hbl:=z4g hv
    refine zx (λq w'=>∃ zb':Sl,q=(zb',())/\Sat w' (slc T.a38 1 zb' ((by_++frL b).flatMap zg)::slc T.a1 7 y (outs.flatMap zw)::pt a10 (.cells #[.int .i64 f.base,.bool f.made,.int .i64 f.head,.int .i64 f.fin,.slice f.lx.a f.lx.len f.lx.cap,.slice f.rx.a f.rx.len f.rx.cap] T.a33)::slc T.a36 2 z (fs.flatMap z18)::HP.all (fs.map z26)::dk d D::z0a pool1::r)) ?_ ?_
    ·refine z1b ?_ rfl
     refine za (zae z2 (z1p b) (by omega) hs) λ_ w' hs=>?_
     obtain ⟨z4,rfl,hs⟩:=hs
     refine ze ?_
     have hs:Sat w' (slc T.a38 1 z4 ((z21 (z1p b)).flatMap zg)::slc T.a38 1 zb (by_.flatMap zg)::slc T.a1 7 y (outs.flatMap zw)::pt a10 (.cells #[.int .i64 f.base,.bool f.made,.int .i64 f.head,.int .i64 f.fin,.slice f.lx.a f.lx.len f.lx.cap,.slice f.rx.a f.rx.len f.rx.cap] T.a33)::slc T.a36 2 z (fs.flatMap z18)::HP.all (fs.map z26)::dk d D::z0a pool1::r):=hs.sub
     have hs:Sat w' (slc T.a38 1 z4 ((frL b).flatMap zg)::slc T.a38 1 zb (by_.flatMap zg)::slc T.a1 7 y (outs.flatMap zw)::pt a10 (.cells #[.int .i64 f.base,.bool f.made,.int .i64 f.head,.int .i64 f.fin,.slice f.lx.a f.lx.len f.lx.cap,.slice f.rx.a f.rx.len f.rx.cap] T.a33)::slc T.a36 2 z (fs.flatMap z18)::HP.all (fs.map z26)::dk d D::z0a pool1::r):=hs
     refine wp_app' (x:=zb) (y:=z4) (xs:=by_) (ys:=frL b) (enc:=zg) hs (λz5 w' hs=>?_) (by omega)
     exact zj ⟨z5,rfl,hs.sub⟩
    rintro _ w2 ⟨zb',rfl,hs⟩
    refine zt ?_
    rw [wS (i:=j) (by omega)]
    exact z0q (outs.length-(j+1)) ⟨j+1,zb',by_++frL b,rfl,by omega,rfl,by rw [List.length_append];omega,hs⟩
  clear hs
  rintro _ w ⟨zb,by_,pool,rfl,hbyl,hs⟩
  refine zt ?_
  refine zd hs ?_
  have hlr:=(hs.tail.tail.tail.tail.tail.tail).slen f.rx (xs:=f.raw) (enc:=zg)
  refine zx (λq w'=>∃ (xr:Sl) (rw_:List UInt8),q=(xr,())/\rw_.length<=60/\FocR r xr 1 (rw_.flatMap zg)/\Sat w' (slc T.a38 1 zb (by_.flatMap zg)::slc T.a36 2 z (fs.flatMap z18)::HP.all (fs.map z26)::dk d D::z0a pool::r)) ?_ ?_
  ·refine zk (λh=>?_) λh=>?_
   ·refine wp_must (by omega) ?_
    exact zj ⟨⟨f.rx.a,60,f.rx.cap⟩,f.raw.take 60,rfl,by rw [List.length_take];omega,FocR.pre (by omega),hs.sub⟩
   ·exact zj ⟨f.rx,f.raw,rfl,by omega,hf3,hs.sub⟩
  clear hs hlr
  rintro _ w ⟨xr,rw_,rfl,hrl,hxr,hs⟩
  refine zt ?_
  refine wp_app' (x:=zb) (y:=xr) (xs:=by_) (ys:=rw_) (enc:=zg) hs (λzo w' hs=>?_) (by omega)
  have hol:(by_++rw_).length<=2200:=by rw [List.length_append];omega
  generalize by_++rw_=ob at *
  have hs:Sat w' (slc T.a38 1 zo (ob.flatMap zg)::slc T.a36 2 z (fs.flatMap z18)::HP.all (fs.map z26)::dk d D::z0a pool::r):=hs.sub
  have hlz:=hs.tail.slen z (xs:=fs) (enc:=z18)
  refine zx (λq w'=>∃ t:Bool,q=(t,())/\(t=true↔∃ f ∈ fs,f.base=bN)/\Sat w' (slc T.a38 1 zo (ob.flatMap zg)::slc T.a36 2 z (fs.flatMap z18)::HP.all (fs.map z26)::dk d D::z0a pool::r)) ?_ ?_
  ·refine z0e (λm v w=>∃ (j:Nat) (t:Bool),v=(t,((j:Int),()))/\j<=fs.length/\fs.length-j=m/\(t=true↔∃ f ∈ fs.take j,f.base=bN)/\Sat w (slc T.a38 1 zo (ob.flatMap zg)::slc T.a36 2 z (fs.flatMap z18)::HP.all (fs.map z26)::dk d D::z0a pool::r)) fs.length ⟨0,false,rfl,by omega,rfl,by simp,hs⟩ ?_
   clear hs
   rintro m2 _ w ⟨j,t,rfl,hj,hm2,ht,hs⟩
   refine zt ?_
   refine zk (λhcj=>?_) λhcj=>?_
   rotate_left
   ·rw [List.take_of_length_le (by omega)] at ht
    exact zv (zj ⟨t,rfl,ht,hs⟩)
   have hjl:j<fs.length:=by omega
   have hfll:=hL.fl
   have e1:fs.take (j+1)=fs.take j++[fs[j]]:=List.take_succ_eq_append_getElem hjl
   refine z23 hs (xs:=fs) (enc:=z18) j hjl ?_
   generalize fs[j]=g at *
   refine z05 hs λa58 w' hs=>?_
   refine z09 hs λw' hs=>?_
   refine zd hs ?_
   refine wp_lt ?_
   rw [wS (i:=j) (by omega)]
   refine z0q (fs.length-(j+1)) ⟨j+1,_,rfl,by omega,rfl,?_,hs.tail⟩
   rw [e1]
   simp only [Bool.or_eq_true,ht,beq_iff_eq,List.mem_append,List.mem_singleton]
   constructor
   ·rintro (⟨q,h1,h2⟩|h)
    ·exact ⟨q,.inl h1,h2⟩
    ·exact ⟨g,.inr rfl,h⟩
   ·rintro ⟨q,h1|rfl,h2⟩
    ·exact .inl ⟨q,h1,h2⟩
    ·exact .inr h2
  clear hs
  rintro _ w ⟨t,rfl,ht,hs⟩
  refine zt ?_
  refine zx (λq w'=>(q=(true,())/\Sat w' (slc T.a38 1 zo (ob.flatMap zg)::slc T.a36 2 z (fs.flatMap z18)::HP.all (fs.map z26)::dk d D::z0a pool::r))\/(q=(false,())/\∃ D':DiskA,LayP (i+1) (z5d ⟨bN,zo,ob⟩ fs) D'/\Sat w' (slc T.a38 1 zo (ob.flatMap zg)::slc T.a36 2 z (fs.flatMap z18)::HP.all (fs.map z26)::dk d D'::z0a pool::r))) ?_ ?_
  ·refine zk (λh=>?_) λh=>?_
   ·exact zj (.inl ⟨rfl,hs⟩)
   ·have hne:∀ g ∈ fs,g.base≠(⟨bN,zo,ob⟩:OneM).base:=λg hg e=>h (ht.2 ⟨g,hg,e⟩)
    obtain ⟨hgo,hadd⟩:=hL.add (by omega) ⟨bN,zo,ob⟩ hbN hne hol
    refine za (zxm bN hbN hs) λ_ w' hs=>?_
    obtain ⟨rfl,hs⟩:=hs
    refine ze ?_
    have hsz:(⟨(z1q 11 bN.toNat).toArray⟩:ByteArray).size=11:=by
     show (z1q 11 bN.toNat).toArray.size=11
     rw [List.size_toArray,z3g]
    refine wp_must (by rw [hsz];omega) ?_
    refine wp_must (by rw [ByteArray.size_append,hsz];show ((2+11+4:Nat):Int)<=_;omega) ?_
    rw [zir]
    refine z1f hs (enc:=z6q) zo λy1 w' hs=>?_
    have hs:Sat w' (dk d D::slc T.a27 1 y1 ([zo].flatMap z6q)::slc T.a38 1 zo (ob.flatMap zg)::slc T.a36 2 z (fs.flatMap z18)::HP.all (fs.map z26)::z0a pool::r):=hs.sub
    have hzo:FocR (slc T.a27 1 y1 ([zo].flatMap z6q)::slc T.a38 1 zo (ob.flatMap zg)::slc T.a36 2 z (fs.flatMap z18)::HP.all (fs.map z26)::z0a pool::r) zo 1 (ob.flatMap zg):=inferInstance
    refine za (z9m (d:=d) (A:=D) (zi qP bN zu) y1 [zo] [ob] ⟨λw hs=>hzo.rd w hs,trivial⟩ (by simp) (λb hb=>by rw [List.mem_singleton.1 hb];omega) hs) λ_ w' hs=>?_
    obtain ⟨rfl,hs⟩:=hs
    refine ze ?_
    have e1:[ob].flatten=ob:=by simp
    rw [e1] at hs ⊢
    have hgo:(z04 D (zi qP bN zu) ob).1=0:=hgo
    rw [hgo]
    exact zj (.inr ⟨rfl,_,hadd,hs.sub⟩)
  clear hs
  rintro _ w (⟨rfl,hs⟩|⟨rfl,D',hL',hs⟩)
  ·refine zt ?_
   refine z1b ?_ (by simp)
   exact zj ⟨z,fs,D,pool,rfl,by omega,hL.mono (by omega),hs.tail⟩
  refine zt ?_
  refine z0j ?_ (by simp)
  have hfll:=hL.fl
  refine zx (λq w'=>∃ (zp:Sl) (p:List OneM) (t:Bool),q=(zp,(t,()))/\z5d ⟨bN,zo,ob⟩ fs=p++(if t=true then [] else [⟨bN,zo,ob⟩])/\p.length<=14/\Sat w' (slc T.a36 2 zp (p.flatMap z18)::slc T.a38 1 zo (ob.flatMap zg)::HP.all (fs.map z26)::dk d D'::z0a pool::r)) ?_ ?_
  ·have hs:Sat w (slc T.a36 2 ⟨none,0,0⟩ (([]:List OneM).flatMap z18)::slc T.a38 1 zo (ob.flatMap zg)::slc T.a36 2 z (fs.flatMap z18)::HP.all (fs.map z26)::dk d D'::z0a pool::r):=hs.slc_nil
   refine z0e (λm v w=>∃ (j:Nat) (zp:Sl) (p:List OneM) (t:Bool),v=(zp,(t,((j:Int),())))/\j<=fs.length/\fs.length-j=m/\p.length<=2*j/\z5d ⟨bN,zo,ob⟩ fs=p++(if t=true then fs.drop j else z5d ⟨bN,zo,ob⟩ (fs.drop j))/\Sat w (slc T.a36 2 zp (p.flatMap z18)::slc T.a38 1 zo (ob.flatMap zg)::slc T.a36 2 z (fs.flatMap z18)::HP.all (fs.map z26)::dk d D'::z0a pool::r)) fs.length ⟨0,⟨none,0,0⟩,[],false,rfl,by omega,rfl,by simp,by simp,hs⟩ ?_
   clear hs
   rintro m2 _ w ⟨j,zp,p,t,rfl,hj,hm2,hpl,hins,hs⟩
   refine zt ?_
   refine zk (λhcj=>?_) λhcj=>?_
   rotate_left
   ·rw [List.drop_eq_nil_of_le (by omega)] at hins
    refine zv (zj ⟨zp,p,t,rfl,?_,by omega,hs.sub⟩)
    rw [hins]
    cases t <;> rfl
   have hjl:j<fs.length:=by omega
   rw [List.drop_eq_getElem_cons hjl] at hins
   refine z23 hs (xs:=fs) (enc:=z18) j hjl ?_
   generalize fs[j]=g at *
   refine z05 hs λa73 w' hs=>?_
   refine z09 hs λw' hs=>?_
   refine zd hs ?_
   refine zx (λq w'=>∃ (zq:Sl) (q':List OneM) (t':Bool),q=(zq,(t',()))/\q'.length<=2*j+1/\z5d ⟨bN,zo,ob⟩ fs=q'++(if t'=true then g::fs.drop (j+1) else g::z5d ⟨bN,zo,ob⟩ (fs.drop (j+1)))/\Sat w' (pt a73 (.cells #[.int .i64 g.base,.slice g.x.a g.x.len g.x.cap] T.a36)::slc T.a36 2 zq (q'.flatMap z18)::slc T.a38 1 zo (ob.flatMap zg)::slc T.a36 2 z (fs.flatMap z18)::HP.all (fs.map z26)::dk d D'::z0a pool::r)) ?_ ?_
   ·cases t with
    | true =>
     refine z0j ?_ (by simp)
     exact zj ⟨zp,p,true,rfl,by omega,hins,hs⟩
    | false =>
     rw [if_neg (by simp)] at hins
     refine zk (λh=>?_) λh=>?_
     ·have hgt:g.base>(⟨bN,zo,ob⟩:OneM).base:=by
       have h2:g.base>bN:=by simpa using h
       exact h2
      refine z1f hs (enc:=z18) (⟨bN,zo,ob⟩:OneM) λy1 w' hs=>?_
      refine wp_app' (x:=zp) (y:=y1) (xs:=p) (ys:=[(⟨bN,zo,ob⟩:OneM)]) (enc:=z18) hs (λz5 w' hs=>?_) (by simp only [List.length_cons,List.length_nil];omega)
      refine zj ⟨z5,p++[⟨bN,zo,ob⟩],true,rfl,by rw [List.length_append];simp;omega,?_,hs.sub⟩
      rw [hins,z5d,if_pos hgt,if_pos rfl,List.append_assoc]
      rfl
     ·have hgt:¬ g.base>(⟨bN,zo,ob⟩:OneM).base:=by
       have h2:¬ g.base>bN:=by simpa using h
       exact h2
      refine zj ⟨zp,p,false,rfl,by omega,?_,hs⟩
      rw [hins,z5d,if_neg hgt,if_neg (by simp)]
   clear hs
   rintro _ w ⟨zq,q',t',rfl,hql,hins',hs⟩
   refine zt ?_
   refine z02 hs ?_
   refine z1f hs (enc:=z18) g λy1 w' hs=>?_
   refine wp_app' (x:=zq) (y:=y1) (xs:=q') (ys:=[g]) (enc:=z18) hs (λz5 w' hs=>?_) (by simp only [List.length_cons,List.length_nil];omega)
   rw [wS (i:=j) (by omega)]
   refine z0q (fs.length-(j+1)) ⟨j+1,z5,q'++[g],t',rfl,by omega,rfl,by rw [List.length_append];simp;omega,?_,hs.sub⟩
   rw [hins']
   cases t' <;> simp
  clear hs
  rintro _ w ⟨zp,p,t,rfl,hins,hpl,hs⟩
  refine zt ?_
  refine zx (λq w'=>∃ zn:Sl,q=(zn,())/\Sat w' (slc T.a36 2 zn ((z5d ⟨bN,zo,ob⟩ fs).flatMap z18)::slc T.a38 1 zo (ob.flatMap zg)::HP.all (fs.map z26)::dk d D'::z0a pool::r)) ?_ ?_
  ·cases t with
   | true =>
    refine z0j ?_ (by simp)
    rw [if_pos rfl,List.append_nil] at hins
    exact zj ⟨zp,rfl,by rw [hins];exact hs⟩
   | false =>
    refine z1b ?_ (by simp)
    rw [if_neg (by simp)] at hins
    refine z1f hs (enc:=z18) (⟨bN,zo,ob⟩:OneM) λy1 w' hs=>?_
    refine wp_app' (x:=zp) (y:=y1) (xs:=p) (ys:=[(⟨bN,zo,ob⟩:OneM)]) (enc:=z18) hs (λz5 w' hs=>?_) (by simp only [List.length_cons,List.length_nil];omega)
    exact zj ⟨z5,rfl,by rw [hins];exact hs.sub⟩
  clear hs
  rintro _ w ⟨zn,rfl,hs⟩
  refine zt ?_
  have hs:Sat w (z26 ⟨bN,zo,ob⟩::HP.all (fs.map z26)::slc T.a36 2 zn ((z5d ⟨bN,zo,ob⟩ fs).flatMap z18)::dk d D'::z0a pool::r):=(show Sat w (slc T.a38 1 zo (ob.flatMap zg)::HP.all (fs.map z26)::slc T.a36 2 zn ((z5d ⟨bN,zo,ob⟩ fs).flatMap z18)::dk d D'::z0a pool::r) from hs.sub)
  have hs:Sat w (HP.all (((⟨bN,zo,ob⟩:OneM)::fs).map z26)::slc T.a36 2 zn ((z5d ⟨bN,zo,ob⟩ fs).flatMap z18)::dk d D'::z0a pool::r):=hs.all_put
  have hs:=hs.all_perm ((z8b ⟨bN,zo,ob⟩ fs).symm.map z26)
  exact zj ⟨zn,z5d ⟨bN,zo,ob⟩ fs,D',pool,rfl,by omega,hL',hs.pick [1]⟩
end
def z44:ByteArray:=ByteArray.mk #[113,45,48,48,48,48,48,48,48,48,48,48,48,46,110,101,119]
def z3u:ByteArray:=ByteArray.mk #[111,116,104,101,114]
theorem zan:z44=zi qP 0 z1u:=by kernel_rfl
theorem zc6:(bl (z13 qP)).isPrefixOf (bl z3u)=false:=by kernel_rfl
theorem zy7:z3f z3u=true:=by kernel_rfl
theorem zzw:z3f z44=true:=by kernel_rfl
theorem z00w:ByteArray.mk #[113,45]=z13 qP:=by kernel_rfl
theorem zdf {fs:List FileA} {n:ByteArray}:z6w fs n=((z06 fs n).map λp=>(p.1.length,p.2)).getD (0,0):=by
 unfold z6w z06
 cases fs.find? λf=>decide (f.name=n) <;> rfl
theorem LayP.laid {fs:List OneM} {D:DiskA} (h:LayP 6 fs D) (x y:List UInt8) (hx:x.length<=100) (hy:y.length<=100) :
  (z04 D z44 x).1=0/\(z04 (z04 D z44 x).2 z3u y).1=0/\LaidP qP (fs.map λf=>(f.base,f.b)) (z04 (z04 D z44 x).2 z3u y).2 /\
   (z06 (z04 (z04 D z44 x).2 z3u y).2.fs z3u).map Prod.fst=some y/\Dec.used (z04 (z04 D z44 x).2 z3u y).2.fs<=13400/\(z04 (z04 D z44 x).2 z3u y).2.fs.length<=8/\(z04 (z04 D z44 x).2 z3u y).2.room=1048576:=by
 have hu:=h.used
 have hr:=h.room
 have hl:=h.len
 have h0:(0:Int)<=0/\(0:Int)<17592186044416:=by omega
 have g1:(z04 D z44 x).1=0:=z6u h.calm.gone zzw (by unfold DiskA.free;omega) (.inr (by omega))
 obtain ⟨-,-,-,a1,a2,a3,a4⟩:=z6b h.ok g1
 have a5:=(z56 (A:=D) (n:=z44) (bs:=x)).1
 have hc1:=z9k h.calm z44 x
 generalize (z04 D z44 x).2=D1 at *
 have g2:(z04 D1 z3u y).1=0:=z6u hc1.gone zy7 (by unfold DiskA.free;omega) (.inr (by omega))
 obtain ⟨-,-,-,b1,b2,b3,b4⟩:=z6b a1 g2
 have b5:=(z56 (A:=D1) (n:=z3u) (bs:=y)).1
 have hc2:=z9k hc1 z3u y
 generalize (z04 D1 z3u y).2=D2 at *
 have hno:z3u≠z44:=by decide
 have hnone:z06 D1.fs z3u=none:=by
  rw [a4,if_neg hno]
  cases hq:z06 D.fs z3u with
  | none=>rfl
  | some q =>
   obtain ⟨f,hf,e⟩:=h.only _ (by rw [hq];rfl)
   have h1:=z1m qP f.base zu
   rw [<- e,zc6] at h1;cases h1
 have hlog:∀ f ∈ fs,zi qP f.base zu≠z44/\zi qP f.base zu≠z3u:=λf hf=>by
  constructor
  ·intro e
   rw [zan] at e
   exact z8p h0 (h.rng f hf) e.symm
  ·intro e
   have h1:=z1m qP f.base zu
   rw [e,zc6] at h1;cases h1
 refine ⟨g1,g2,⟨b1,hc2,λq hq=>?_,λq hq=>?_,?_,?_,λn hn hp=>?_⟩,?_,by omega,by omega,by omega⟩
 ·obtain ⟨f,hf,rfl⟩:=List.mem_map.1 hq
  obtain ⟨e1,e2⟩:=hlog f hf
  rw [b4,if_neg e2,a4,if_neg e1]
  exact h.has f hf
 ·obtain ⟨f,hf,rfl⟩:=List.mem_map.1 hq
  exact h.rng f hf
 ·rw [List.pairwise_map];exact h.nd
 ·rw [<- zan,b4,if_neg hno.symm,a4,if_pos rfl]
  rfl
 ·rw [b4] at hn
  by_cases e:n=z3u
  ·rw [e,zc6] at hp;cases hp
  ·rw [if_neg e,a4] at hn
   by_cases e2:n=z44
   ·exact .inl (by rw [e2,zan])
   ·rw [if_neg e2] at hn
    obtain ⟨f,hf,e3⟩:=h.only n hn
    exact .inr ⟨(f.base,f.b),List.mem_map.2 ⟨f,hf,rfl⟩,e3⟩
 ·rw [b4,if_pos rfl,hnone]
  simp
theorem z01a (k v:ByteArray) (x:Sl) (h:k.size+v.size<=60):Sm (z1s k v x):=by
 refine ⟨by show 1<=6;omega,λr hr=>?_⟩
 have:r=⟨k,v,false,0⟩:=List.mem_singleton.1 hr
 subst this
 exact h
section
variable {w:World} {l r:List HP}
set_option maxHeartbeats 2000000 in
theorem z03k (seg:Int) (fx:Sl) (files:List FilM6) (hfx:FocR l fx 6 (files.flatMap za4)) (hfd:∀ f ∈ files,OkF6 l f) (hs:Sat w l) :
  Ret P F.a97 #[.int .i64 seg,fx.v] w λvs w'=>vs=[.bool true]/\Sat w' l :=
 zn0 seg fx <| by
  unfold zwf
  refine za (zvc seg 3 hs) λ_ w' hs=>?_
  obtain ⟨s,g,hsr,hgr,rfl,hs⟩:=hs
  refine ⟨(s,g,()),rfl,trivial,z37 _ _ ?_⟩
  have hcfg:zj5 s g:=⟨by omega,by omega⟩
  refine z05 hs λa2 w' hs=>?_
  refine z09 hs λw' hs=>?_
  refine za (zt5 1048576 (by omega) hs) λ_ w' hs=>?_
  obtain ⟨d,rfl,hs⟩:=hs
  refine ⟨(some ⟨d,0,none⟩,0,()),rfl,trivial,z37 _ _ ?_⟩
  refine wp_lt ?_
  have hs:Sat w' (dk d ⟨1048576,-1,false,[]⟩::z0a []::pt a2 (.cells #[.int .i64 s,.int .i64 g] T.a28)::l):=(zfe hs).pick [1]
  refine za (z02t d fx files [] inferInstance (λf hf=>by
   have h1:=(hfd f hf).lx
   have h2:=(hfd f hf).bs
   have h3:=(hfd f hf).rx
   exact ⟨inferInstance,λb hb=>by have:=h2 b hb;infer_instance,inferInstance,(hfd f hf).cap⟩) hs) λ_ w' hs=>?_
  obtain ⟨z,fs,D1,pool,rfl,hL,hs⟩:=hs
  refine ze ?_
  refine zo7 hs [108,101,102,116] (by kernel_rfl) λx7 w' hs=>?_
  refine z1f hs (enc:=z6q) x7 λy7 w' hs=>?_
  have hs:Sat w' (dk d D1::slc T.a27 1 y7 ([x7].flatMap z6q)::slc T.a38 1 x7 (([108,101,102,116]:List UInt8).flatMap zg)::slc T.a36 2 z (fs.flatMap z18)::HP.all (fs.map z26)::z0a pool::pt a2 (.cells #[.int .i64 s,.int .i64 g] T.a28)::l):=hs.sub
  have hx7:FocR (slc T.a27 1 y7 ([x7].flatMap z6q)::slc T.a38 1 x7 (([108,101,102,116]:List UInt8).flatMap zg)::slc T.a36 2 z (fs.flatMap z18)::HP.all (fs.map z26)::z0a pool::pt a2 (.cells #[.int .i64 s,.int .i64 g] T.a28)::l) x7 1 (([108,101,102,116]:List UInt8).flatMap zg):=inferInstance
  refine za (z9m (d:=d) (A:=D1) z44 y7 [x7] [[108,101,102,116]] ⟨λw hs=>hx7.rd w hs,trivial⟩ (by simp) (λb hb=>by rw [List.mem_singleton.1 hb];simp) hs) λ_ w' hs=>?_
  obtain ⟨rfl,hs⟩:=hs
  refine ze ?_
  have e1:([[108,101,102,116]]:List (List UInt8)).flatten=[108,101,102,116]:=rfl
  rw [e1] at hs
  refine zo7 hs [107,101,112,116] (by kernel_rfl) λx8 w' hs=>?_
  refine z1f hs (enc:=z6q) x8 λy8 w' hs=>?_
  have hs:Sat w' (dk d (z04 D1 z44 [108,101,102,116]).2::slc T.a27 1 y8 ([x8].flatMap z6q)::slc T.a38 1 x8 (([107,101,112,116]:List UInt8).flatMap zg)::slc T.a36 2 z (fs.flatMap z18)::HP.all (fs.map z26)::z0a pool::pt a2 (.cells #[.int .i64 s,.int .i64 g] T.a28)::l):=hs.sub
  have hx8:FocR (slc T.a27 1 y8 ([x8].flatMap z6q)::slc T.a38 1 x8 (([107,101,112,116]:List UInt8).flatMap zg)::slc T.a36 2 z (fs.flatMap z18)::HP.all (fs.map z26)::z0a pool::pt a2 (.cells #[.int .i64 s,.int .i64 g] T.a28)::l) x8 1 (([107,101,112,116]:List UInt8).flatMap zg):=inferInstance
  refine za (z9m (d:=d) (A:=(z04 D1 z44 [108,101,102,116]).2) z3u y8 [x8] [[107,101,112,116]] ⟨λw hs=>hx8.rd w hs,trivial⟩ (by simp) (λb hb=>by rw [List.mem_singleton.1 hb];simp) hs) λ_ w' hs=>?_
  obtain ⟨rfl,hs⟩:=hs
  refine ze ?_
  have e2:([[107,101,112,116]]:List (List UInt8)).flatten=[107,101,112,116]:=rfl
  rw [e2] at hs
  obtain ⟨-,-,hLaid,hoth,hused,hflen,hroom⟩:=hL.laid [108,101,102,116] [107,101,112,116] (by simp) (by simp)
  generalize (z04 (z04 D1 z44 [108,101,102,116]).2 z3u [107,101,112,116]).2=D3 at *
  have hs:Sat w' (z0a pool::slc T.a36 2 z (fs.flatMap z18)::HP.all (fs.map z26)::dk d D3::pt a2 (.cells #[.int .i64 s,.int .i64 g] T.a28)::l):=hs.sub
  refine zd hs ?_
  refine zd hs ?_
  have hone:∀ f ∈ fs,FocR (HP.all (fs.map z26)::dk d D3::pt a2 (.cells #[.int .i64 s,.int .i64 g] T.a28)::l) f.x 1 (f.b.flatMap zg)/\f.x.len<=f.x.cap:=λf hf=>by
   refine ⟨⟨λw hs=>?_⟩,?_⟩
   ·obtain ⟨L,hs⟩:=hs.all_mem (f:=z26) hf
    exact Sat.rd hs
   ·obtain ⟨L,hs⟩:=(hs.tail.tail).all_mem (f:=z26) hf
    exact Sat.slc_cap hs
  refine za (zye s g z fs inferInstance (λf hf=>by
   obtain ⟨h1,h2⟩:=hone f hf
   exact ⟨inferInstance,h2,by have:=hL.small f hf;omega⟩) hL.rng hL.nd hL.fl pool hs) λ_ w' hs=>?_
  obtain ⟨a17,R,pool',rfl,hRs,hRg,hRl,hRsegs,hin,hsr,hbr,hs⟩:=hs
  refine ze ?_
  have hs:Sat w' (dk d D3::rfP a17 R::z0a pool'::pt a2 (.cells #[.int .i64 s,.int .i64 g] T.a28)::l):=hs.sub
  obtain ⟨D4,ho,hcpl,hcalm,hfr,hus4,hln4⟩:=hLaid.opened
  rw [<- hRl] at ho hcpl
  have hok:okR R (z0a pool'::pt a2 (.cells #[.int .i64 s,.int .i64 g] T.a28)::l):=zk8 hRsegs (by omega) (by omega) hin
  refine z02 hs ?_
  refine za (zgo (d:=d) (D:=D3) qP s g z6o hcfg hLaid.calm.gone hs) λ_ w' hs=>?_
  rw [ho] at hs
  rcases hs with ⟨he,-,-⟩|⟨-,lg,rfl,hs⟩
  ·exact absurd rfl he
  refine ⟨(some ⟨lg,0,none⟩,0,()),rfl,trivial,z37 _ _ ?_⟩
  have hs:Sat w' (lgP lg ⟨d,qP,s,g,R.l⟩::dk d D4::rfP a17 R::z0a pool'::pt a2 (.cells #[.int .i64 s,.int .i64 g] T.a28)::l):=hs
  refine wp_lt ?_
  have hs4:z6w D4.fs z3u=(4,(z6w D4.fs z3u).2):=by
   rw [zdf,hfr.other z3u zc6]
   cases hq:z06 D3.fs z3u with
   | none=>rw [hq] at hoth;cases hoth
   | some p =>
    rw [hq] at hoth
    have:p.1=[107,101,112,116]:=by simpa using hoth
    simp [this]
  have hsn:(z6w D4.fs z44).1=0:=by
   rw [zdf]
   cases hq:z06 D4.fs z44 with
   | none=>rfl
   | some p =>
    exfalso
    obtain ⟨t,ht,e⟩:=hcpl.only z44 (by rw [hq];rfl) (by rw [zan];exact z1m ..)
    have h1:=(hcpl.segs.mem t ht).1.base
    rw [zan] at e
    exact z8p (by omega) (by omega) e
  refine zx (λq w'=>q=(false,())/\Sat w' (lgP lg ⟨d,qP,s,g,R.l⟩::dk d D4::rfP a17 R::z0a pool'::pt a2 (.cells #[.int .i64 s,.int .i64 g] T.a28)::l)) ?_ ?_
  ·refine z0j ?_ (by simp)
   refine za (zl3 (lg:=lg) (rr:=a17) (A:=⟨d,qP,s,g,R.l⟩) (D:=D4) (R:=R) rfl hcpl.has hs) λ_ w' hs=>?_
   obtain ⟨rfl,hs⟩:=hs
   refine ze ?_
   refine z0j ?_ (by simp)
   refine za (zsu (d:=d) (A:=D4) z3u hs) λ_ w' hs=>?_
   obtain ⟨rfl,hs⟩:=hs
   refine ze ?_
   refine z0j ?_ (by rw [hs4];simp)
   refine za (zsu (d:=d) (A:=D4) z44 hs) λ_ w' hs=>?_
   obtain ⟨rfl,hs⟩:=hs
   refine ze ?_
   refine zj ⟨by rw [hsn];rfl,hs.sub⟩
  clear hs
  rintro _ w ⟨rfl,hs⟩
  refine zt ?_
  refine z0j ?_ (by simp)
  have hs:Sat w (dk d D4::rfP a17 R::z0a pool'::pt a2 (.cells #[.int .i64 s,.int .i64 g] T.a28)::l):=hs.tail
  refine z02 hs ?_
  refine za (zgo (d:=d) (D:=D4) qP s g z6o hcfg hcalm.gone hs) λ_ w' hs=>?_
  rw [hcpl.opened] at hs
  rcases hs with ⟨he,-,-⟩|⟨-,mg,rfl,hs⟩
  ·exact absurd rfl he
  refine ⟨(some ⟨mg,0,none⟩,0,()),rfl,trivial,z37 _ _ ?_⟩
  have hs:Sat w' (lgP mg ⟨d,qP,s,g,R.l⟩::dk d D4::rfP a17 R::z0a pool'::pt a2 (.cells #[.int .i64 s,.int .i64 g] T.a28)::l):=hs
  refine wp_lt ?_
  refine zx (λq w'=>q=(false,())/\Sat w' (lgP mg ⟨d,qP,s,g,R.l⟩::dk d D4::rfP a17 R::z0a pool'::pt a2 (.cells #[.int .i64 s,.int .i64 g] T.a28)::l)) ?_ ?_
  ·refine z0i hs λw' hs=>?_
   refine z0j ?_ (by simp)
   refine za (zl3 (lg:=mg) (rr:=a17) (A:=⟨d,qP,s,g,R.l⟩) (D:=D4) (R:=R) rfl hcpl.has hs) λ_ w' hs=>?_
   obtain ⟨rfl,hs⟩:=hs
   refine ze ?_
   obtain ⟨zR,hs⟩:=z77 (hs.pick [2])
   have hlR:=hs.slen zR (xs:=R.SR) (enc:=z0z)
   refine z0p ?_
   refine z2c hs ?_
   refine z0j ?_ (by simp)
   rw [z00w]
   refine za (zh6 (d:=d) (A:=D4) (z13 qP) hs) λ_ w' hs=>?_
   obtain ⟨zn,rfl,hs⟩:=hs
   refine ze ?_ (by first|trivial|(repeat (first|exact trivial|exact λ_=>z0w hs|exact λ_=>z15 hs|refine And.intro ?_ ?_)))
   have hln:=hs.slen zn (xs:=z12 (z13 qP) D4.fs) (enc:=z2o)
   rw [hcpl.names,List.length_map,zao] at hln
   refine zm ?_
   have hs:Sat w' (pt a17 (.cells #[.int .i64 R.seg,.int .i64 R.gap,.slice zR.a zR.len zR.cap] T.a35)::slc T.a37 3 zR (R.SR.flatMap z0z)::HP.all (R.SR.map z2b)::lgP mg ⟨d,qP,s,g,R.l⟩::dk d D4::z0a pool'::pt a2 (.cells #[.int .i64 s,.int .i64 g] T.a28)::l):=hs.sub
   have hs:=z3v R hs
   refine zj ⟨?_,hs.sub⟩
   refine Prod.ext ?_ rfl
   show (((zn.len:Nat):Int) != ((zR.len:Nat):Int))=false
   rw [hln,hlR];simp
  clear hs
  rintro _ w ⟨rfl,hs⟩
  refine zt ?_
  refine z0j ?_ (by simp)
  obtain ⟨zR,hs⟩:=z77 (hs.pick [2])
  have hlR:=hs.slen zR (xs:=R.SR) (enc:=z0z)
  refine zy ?_
  refine zd hs ?_
  refine zx (λ_ w'=>Sat w' (pt a17 (.cells #[.int .i64 R.seg,.int .i64 R.gap,.slice zR.a zR.len zR.cap] T.a35)::slc T.a37 3 zR (R.SR.flatMap z0z)::HP.all (R.SR.map z2b)::lgP mg ⟨d,qP,s,g,R.l⟩::dk d D4::z0a pool'::pt a2 (.cells #[.int .i64 s,.int .i64 g] T.a28)::l)) ?_ ?_
  ·refine z0e (λm v w=>∃ i:Nat,v=((i:Int),())/\i<=R.SR.length/\R.SR.length-i=m/\Sat w (pt a17 (.cells #[.int .i64 R.seg,.int .i64 R.gap,.slice zR.a zR.len zR.cap] T.a35)::slc T.a37 3 zR (R.SR.flatMap z0z)::HP.all (R.SR.map z2b)::lgP mg ⟨d,qP,s,g,R.l⟩::dk d D4::z0a pool'::pt a2 (.cells #[.int .i64 s,.int .i64 g] T.a28)::l)) R.SR.length ⟨0,rfl,by omega,rfl,hs⟩ ?_
   clear hs
   rintro m _ w ⟨i,rfl,hi,hm,hs⟩
   refine zt ?_
   refine zk (λhc=>?_) λhc=>?_
   rotate_left
   ·exact zv (zj hs)
   have hil:i<R.SR.length:=by omega
   have hmem:R.SR[i].p ∈ R.l:=List.mem_map.2 ⟨_,List.getElem_mem hil,rfl⟩
   have hsok:=(hRsegs.mem _ hmem).1
   obtain ⟨kk,hfile⟩:=hcpl.has _ hmem
   have hfle:=hcpl.len.2.2 _ hmem
   have hRx:FocR (HP.all (R.SR.map z2b)::lgP mg ⟨d,qP,s,g,R.l⟩::dk d D4::z0a pool'::pt a2 (.cells #[.int .i64 s,.int .i64 g] T.a28)::l) R.SR[i].x 7 (R.SR[i].bs.flatMap zw):=z94 (List.getElem_mem hil)
   have hrd:∀ b ∈ R.SR[i].bs,FocR (z0a pool'::pt a2 (.cells #[.int .i64 s,.int .i64 g] T.a28)::l) b.x 4 (b.rs.flatMap z03):=λb hb=>hok.rd b (List.mem_flatMap.2 ⟨_,List.getElem_mem hil,hb⟩)
   have hvb:∀ b ∈ R.SR[i].bs,z0c b=0:=λb hb=>(hsok.bs.valid b.p (List.mem_map.2 ⟨b,hb,rfl⟩)).1
   have hbsl:=ztk R.SR[i] (List.getElem_mem hil)
   have hb0:0<=R.SR[i].base/\R.SR[i].base<=1099511627776:=hsok.base
   refine z23 hs (xs:=R.SR) (enc:=z0z) i hil ?_
   generalize R.SR[i]=sg at *
   refine z05 hs λa47 w' hs=>?_
   refine z09 hs λw' hs=>?_
   refine zd hs ?_
   refine za (zxm sg.base (by omega) hs) λ_ w' hs=>?_
   obtain ⟨rfl,hs⟩:=hs
   refine ze ?_
   have hsz:(⟨(z1q 11 sg.base.toNat).toArray⟩:ByteArray).size=11:=by
    show (z1q 11 sg.base.toNat).toArray.size=11
    rw [List.size_toArray,z3g]
   refine wp_must (by rw [hsz];omega) ?_
   refine wp_must (by rw [ByteArray.size_append,hsz];show ((2+11+4:Nat):Int)<=_;omega) ?_
   rw [zir]
   have hfile2:z06 D4.fs (zi qP sg.base zu)=some (sg.p.file,kk):=hfile
   refine za (ztu (d:=d) (D:=D4) (zi qP sg.base zu) (sg.p.file,kk) hfile2 hs) λ_ w' hs=>?_
   obtain ⟨zf,rfl,hs⟩:=hs
   refine ⟨(zf,0,()),rfl,trivial,z37 _ _ ?_⟩
   refine wp_lt ?_
   have hs:Sat w' (slc T.a38 1 zf (sg.p.file.flatMap zg)::pt a47 (.cells #[.int .i64 sg.base,.int .i64 sg.fin,.slice sg.x.a sg.x.len sg.x.cap] T.a37)::pt a17 (.cells #[.int .i64 R.seg,.int .i64 R.gap,.slice zR.a zR.len zR.cap] T.a35)::slc T.a37 3 zR (R.SR.flatMap z0z)::HP.all (R.SR.map z2b)::lgP mg ⟨d,qP,s,g,R.l⟩::dk d D4::z0a pool'::pt a2 (.cells #[.int .i64 s,.int .i64 g] T.a28)::l):=hs.sub
   refine zx (λq w'=>q=(false,())/\Sat w' (pt a17 (.cells #[.int .i64 R.seg,.int .i64 R.gap,.slice zR.a zR.len zR.cap] T.a35)::slc T.a37 3 zR (R.SR.flatMap z0z)::HP.all (R.SR.map z2b)::lgP mg ⟨d,qP,s,g,R.l⟩::dk d D4::z0a pool'::pt a2 (.cells #[.int .i64 s,.int .i64 g] T.a28)::l)) ?_ ?_
   ·refine z0i hs λw' hs=>?_
    refine znr (p:=.str) (x:=(⟨sg.p.file.toArray⟩:ByteArray)) (zdr hs) ?_
    refine z02 hs ?_
    refine z0j ?_ (by simp)
    refine za (zya sg hsok hvb (λb hb=>by have:=hrd b hb;infer_instance) (by omega) hs) λ_ w' hs=>?_
    obtain ⟨z2,rfl,hs⟩:=hs
    refine ze ?_ ⟨trivial,λ_=>zdr hs⟩
    refine z93 hs (bs:=sg.p.file) ?_
    refine zm ?_
    refine zj ⟨?_,hs.sub⟩
    refine Prod.ext ?_ rfl
    show (!(ByteArray.toList ⟨sg.p.file.toArray⟩ == ByteArray.toList ⟨sg.p.file.toArray⟩))=false
    simp
   clear hs
   rintro _ w ⟨rfl,hs⟩
   refine zt ?_
   refine z0j ?_ (by simp)
   rw [wS (i:=i) (by omega)]
   exact z0q (R.SR.length-(i+1)) ⟨i+1,rfl,by omega,rfl,hs⟩
  clear hs hlR
  rintro _ w hs
  refine zt ?_
  have hs:=z3v R hs
  have hs:Sat w (lgP mg ⟨d,qP,s,g,R.l⟩::dk d D4::rfP a17 R::z0a pool'::pt a2 (.cells #[.int .i64 s,.int .i64 g] T.a28)::l):=hs.sub
  refine za (zja (ByteArray.mk #[107]) (ByteArray.mk #[118]) hs) λ_ w' hs=>?_
  obtain ⟨x1,rfl,hs⟩:=hs
  refine ⟨(0,0,0,0,0,0,x1,()),rfl,trivial,zbf _ _ _ _ _ _ _ ?_⟩
  refine z05 hs λa67 w' hs=>?_
  refine z09 hs λw' hs=>?_
  refine z02 hs ?_
  refine z1f hs (enc:=zw) (z1s (ByteArray.mk #[107]) (ByteArray.mk #[118]) x1) λy1 w' hs=>?_
  obtain ⟨k1,k2,k3⟩:=hcpl.len
  have hbF:∀ c ∈ [z1s (ByteArray.mk #[107]) (ByteArray.mk #[118]) x1],FocR (slc T.a3 4 x1 ((z1s (ByteArray.mk #[107]) (ByteArray.mk #[118]) x1).rs.flatMap z03)::z0a pool'::pt a2 (.cells #[.int .i64 s,.int .i64 g] T.a28)::l) c.x 4 (c.rs.flatMap z03):=λc hc=>by
   rw [List.mem_singleton.1 hc]
   show FocR _ x1 4 ((z1s (ByteArray.mk #[107]) (ByteArray.mk #[118]) x1).rs.flatMap z03)
   infer_instance
  have hs:Sat w' (lgP mg ⟨d,qP,s,g,R.l⟩::dk d D4::rfP a17 R::slc T.a1 7 y1 ([z1s (ByteArray.mk #[107]) (ByteArray.mk #[118]) x1].flatMap zw)::pt a67 (.cells #[.int .i64 0,.int .i64 0,.int .i64 0,.int .i64 0,.int .i64 0,.int .i64 0,.slice x1.a x1.len x1.cap] T.a1)::slc T.a3 4 x1 ((z1s (ByteArray.mk #[107]) (ByteArray.mk #[118]) x1).rs.flatMap z03)::z0a pool'::pt a2 (.cells #[.int .i64 s,.int .i64 g] T.a28)::l):=hs.sub
  have hst:=zb7 s [z1s (ByteArray.mk #[107]) (ByteArray.mk #[118]) x1] z6o hcpl
  have hpl:=zk1 (cs:=[z1s (ByteArray.mk #[107]) (ByteArray.mk #[118]) x1]) (n:=z01 R.l) (λc hc=>by rw [List.mem_singleton.1 hc];exact z01a _ _ _ (by decide))
  have hsl:=z7j (z01 R.l) 0
  have hfull:=zi9 s [z1s (ByteArray.mk #[107]) (ByteArray.mk #[118]) x1] z6o hcpl hcalm
  have hro:=hfr.room
  have heq:(z0s qP s R.l D4 [z1s (ByteArray.mk #[107]) (ByteArray.mk #[118]) x1]).1=(z16 s R.l [z1s (ByteArray.mk #[107]) (ByteArray.mk #[118]) x1]).1/\(z0s qP s R.l D4 [z1s (ByteArray.mk #[107]) (ByteArray.mk #[118]) x1]).2.1=(z16 s R.l [z1s (ByteArray.mk #[107]) (ByteArray.mk #[118]) x1]).2:=by
   rcases hfull with h|⟨-,-,-,-,h5|h5⟩
   ·exact h
   ·exfalso
    unfold DiskA.free at h5
    simp only [List.length_cons,List.length_nil] at hpl
    omega
   ·exfalso;omega
  refine za (zit (lg:=mg) (A:=⟨d,qP,s,g,R.l⟩) (D:=D4) y1 [z1s (ByteArray.mk #[107]) (ByteArray.mk #[118]) x1] (by show R.l.length<=_;omega) hRsegs (λt ht=>by have:=k3 t ht;omega) (by show 1<=900;omega) inferInstance (λc hc=>by have:=hbF c hc;infer_instance) hs) λ_ w' hs=>?_
  obtain ⟨rfl,hs⟩:=hs
  refine ⟨((z0s qP s R.l D4 [z1s (ByteArray.mk #[107]) (ByteArray.mk #[118]) x1]).1.1,(z0s qP s R.l D4 [z1s (ByteArray.mk #[107]) (ByteArray.mk #[118]) x1]).1.2,()),rfl,trivial,z37 _ _ ?_⟩
  have hs:Sat w' (lgP mg ⟨d,qP,s,g,(z0s qP s R.l D4 [z1s (ByteArray.mk #[107]) (ByteArray.mk #[118]) x1]).2.1⟩::dk d (z0s qP s R.l D4 [z1s (ByteArray.mk #[107]) (ByteArray.mk #[118]) x1]).2.2::rfP a17 R::pt a67 (.cells #[.int .i64 0,.int .i64 0,.int .i64 0,.int .i64 0,.int .i64 0,.int .i64 0,.slice x1.a x1.len x1.cap] T.a1)::slc T.a3 4 x1 ((z1s (ByteArray.mk #[107]) (ByteArray.mk #[118]) x1).rs.flatMap z03)::z0a pool'::pt a2 (.cells #[.int .i64 s,.int .i64 g] T.a28)::l):=(show Sat w' (lgP mg ⟨d,qP,s,g,(z0s qP s R.l D4 [z1s (ByteArray.mk #[107]) (ByteArray.mk #[118]) x1]).2.1⟩::dk d (z0s qP s R.l D4 [z1s (ByteArray.mk #[107]) (ByteArray.mk #[118]) x1]).2.2::_) from hs).sub
  rw [heq.1]
  rw [heq.2] at hs hst
  generalize (z0s qP s R.l D4 [z1s (ByteArray.mk #[107]) (ByteArray.mk #[118]) x1]).2.2=D5 at *
  refine wp_lt ?_
  refine wp_lt ?_
  refine z02 hs ?_
  refine z1f hs (enc:=zw) (z1s (ByteArray.mk #[107]) (ByteArray.mk #[118]) x1) λy2 w' hs=>?_
  refine za (zt3 (a:=a17) (R:=R) y2 [z1s (ByteArray.mk #[107]) (ByteArray.mk #[118]) x1] (by omega) (by omega) (by rw [hRs];omega) (by show 1<=900;omega) inferInstance (λc hc=>by have:=hbF c hc;infer_instance) hs) λ_ w' hs=>?_
  obtain ⟨rfl,R',q1,q2,q3,q4,q5,q6,hok',hs⟩:=hs
  refine ⟨((z16 R.seg R.l [z1s (ByteArray.mk #[107]) (ByteArray.mk #[118]) x1]).1.1,(z16 R.seg R.l [z1s (ByteArray.mk #[107]) (ByteArray.mk #[118]) x1]).1.2,()),rfl,trivial,z37 _ _ ?_⟩
  rw [hRs] at q3 ⊢
  rw [<- q3] at hs hst
  refine wp_lt ?_
  refine wp_lt ?_
  refine zx (λq w'=>q=(true,())/\Sat w' l) ?_ ?_
  rotate_left
  ·rintro _ w2 ⟨rfl,hs⟩
   exact ⟨rfl,rfl,hs⟩
  refine z1b ?_ (by simp)
  have hok2:okR R' (slc T.a3 4 x1 ((z1s (ByteArray.mk #[107]) (ByteArray.mk #[118]) x1).rs.flatMap z03)::z0a pool'::pt a2 (.cells #[.int .i64 s,.int .i64 g] T.a28)::l):=by
   refine z01r hst.1 λb hb=>?_
   rcases q6 b hb with h|⟨c,hc,h1,h2⟩
   ·have:=hok.rd b h
    infer_instance
   ·rw [h1,h2];exact hbF c hc
  have hs:Sat w' (lgP mg ⟨d,qP,s,g,R'.l⟩::dk d D5::rfP a17 R'::slc T.a3 4 x1 ((z1s (ByteArray.mk #[107]) (ByteArray.mk #[118]) x1).rs.flatMap z03)::z0a pool'::pt a2 (.cells #[.int .i64 s,.int .i64 g] T.a28)::l):=hs.sub
  refine za (zl3 (lg:=mg) (rr:=a17) (A:=⟨d,qP,s,g,R'.l⟩) (D:=D5) (R:=R') rfl hst.1.has hs) λ_ w' hs=>?_
  obtain ⟨rfl,hs⟩:=hs
  refine ze ?_
  refine z1b ?_ (by simp)
  have hs:Sat w' l:=hs.sub
  refine za (zus hs) λ_ _ hs=>?_
  obtain ⟨rfl,hs⟩:=hs
  refine ze ?_
  refine wp_lt ?_
  exact zj ⟨rfl,hs⟩
end
open Go.ChangeShapes Go.WideShapes Go.RowKit Go.Deep
section
variable {H:Type} {enc:TypeId × Value->H} {P:Program} {w:World} {base:Nat} {spare:Nat->Bool} {held:Bool}
theorem za9 {t:TypeId} {fs:Array Field} {n C:Nat} {cs:List Value} {y:DataW H × List MemPlace} (ht:P.underlying t=some (.struct fs)) (hd:DataW.trod enc P w base spare held n t cs=some y) (hC:P.cellsOf t=C) :
  cs.length=C/\∃ n',∀ (j:Nat) (f:Field),fs[j]? = some f->∃ y,DataW.trod enc P w base spare held n' f.type ((cs.drop f.offset).take (P.cellsOf f.type))=some y:=by
 obtain ⟨ys,n',hn',hy,hlen,hyl,hf⟩:=DataW.trod_struct ht hd
 refine ⟨by rw [hlen,hC],n',λj f hj=>?_⟩
 have hjl:j<fs.size:=(Array.getElem?_eq_some_iff.1 hj).1
 have h1:=hf j f hj
 rw [List.getElem?_eq_getElem (by omega)] at h1
 exact ⟨_,h1⟩
theorem z044 {t:TypeId} {f0 f1 f2 f3:Field} {n:Nat} {cs:List Value} {y:DataW H × List MemPlace} (ht:P.underlying t=some (.struct #[f0,f1,f2,f3])) (hC:P.cellsOf t=4) (k0:P.underlying f0.type=some .string) (k1:P.underlying f1.type=some .string) (k2:P.underlying f2.type=some .bool) (k3:P.underlying f3.type=some (.int .i64))
  (o0:f0.offset=0) (o1:f1.offset=1) (o2:f2.offset=2) (o3:f3.offset=3) (c0:P.cellsOf f0.type=1) (c1:P.cellsOf f1.type=1) (c2:P.cellsOf f2.type=1) (c3:P.cellsOf f3.type=1)
  (hd:DataW.trod enc P w base spare held n t cs=some y):∃ r:RecM,cs=z03 r/\True:=by
 obtain ⟨hl,n',hf⟩:=za9 ht hd hC
 match cs,hl with
 | [v0,v1,v2,v3],_ =>
  obtain ⟨y0,h0⟩:=hf 0 f0 rfl
  obtain ⟨y1,h1⟩:=hf 1 f1 rfl
  obtain ⟨y2,h2⟩:=hf 2 f2 rfl
  obtain ⟨y3,h3⟩:=hf 3 f3 rfl
  rw [o0,c0] at h0
  rw [o1,c1] at h1
  rw [o2,c2] at h2
  rw [o3,c3] at h3
  obtain ⟨s0,q0,-,-⟩:=DataW.trod_string k0 h0
  obtain ⟨s1,q1,-,-⟩:=DataW.trod_string k1 h1
  obtain ⟨b2,q2,-⟩:=DataW.trod_bool k2 h2
  obtain ⟨n3,q3,-,-⟩:=DataW.trod_int k3 h3
  simp at q0 q1 q2 q3
  subst q0 q1 q2 q3
  exact ⟨⟨s0,s1,b2,n3⟩,rfl,trivial⟩
theorem z04c {t tr:TypeId} {b0 b1 b2 b3 b4 b5 b6:Field} {n:Nat} {cs:List Value} {y:DataW H × List MemPlace} (ht:P.underlying t=some (.struct #[b0,b1,b2,b3,b4,b5,b6])) (hC:P.cellsOf t=7)
  (hone:oneCellFields P #[b0,b1,b2,b3,b4,b5,b6]=true) (l0:P.underlying b0.type=some (.int .i64)) (l1:P.underlying b1.type=some (.int .i64)) (l2:P.underlying b2.type=some (.int .i64)) (l3:P.underlying b3.type=some (.int .i64)) (l4:P.underlying b4.type=some (.int .i64)) (l5:P.underlying b5.type=some (.int .i64))
  (l6:P.underlying b6.type=some (.slice tr)) (hR:P.cellsOf tr=4) (hrec:∀ (n:Nat) (cs:List Value) (y:DataW H × List MemPlace),cs.length=4->DataW.trod enc P w base spare held n tr cs=some y->∃ r:RecM,cs=z03 r/\True)
  (hd:DataW.trod enc P w base spare held n t cs=some y):∃ b:BatM,cs=zw b/\Rd w 4 b.x (b.rs.flatMap z03)/\(-9223372036854775808<=b.base/\b.base<9223372036854775808):=by
 obtain ⟨hl,m,hg⟩:=za9 ht hd hC
 match cs,hl with
 | [v1,v2,v3,v4,v5,v6,v7],_ =>
  have one:∀ (j:Nat) (f:Field) (u:Value),#[b0,b1,b2,b3,b4,b5,b6][j]? = some f->[v1,v2,v3,v4,v5,v6,v7][j]? = some u->∃ y,DataW.trod enc P w base spare held m f.type [u]=some y:=λj f u hj hu=>by
   obtain ⟨ho,hk⟩:=hone_of hone j f hj
   obtain ⟨y,h1⟩:=hg j f hj
   rw [ho,hk] at h1
   obtain ⟨hjl,rfl⟩:=List.getElem?_eq_some_iff.1 hu
   have hone':([v1,v2,v3,v4,v5,v6,v7].drop j).take 1=[[v1,v2,v3,v4,v5,v6,v7][j]]:=by
    rw [List.drop_eq_getElem_cons hjl];rfl
   rw [hone'] at h1
   exact ⟨y,h1⟩
  obtain ⟨z0,e0⟩:=one 0 b0 v1 rfl rfl
  obtain ⟨z1,e1⟩:=one 1 b1 v2 rfl rfl
  obtain ⟨z2,e2⟩:=one 2 b2 v3 rfl rfl
  obtain ⟨z3,e3⟩:=one 3 b3 v4 rfl rfl
  obtain ⟨z4,e4⟩:=one 4 b4 v5 rfl rfl
  obtain ⟨z5,e5⟩:=one 5 b5 v6 rfl rfl
  obtain ⟨z6,e6⟩:=one 6 b6 v7 rfl rfl
  obtain ⟨m0,p0,-,w0⟩:=DataW.trod_int l0 e0
  obtain ⟨m1,p1,-,-⟩:=DataW.trod_int l1 e1
  obtain ⟨m2,p2,-,-⟩:=DataW.trod_int l2 e2
  obtain ⟨m3,p3,-,-⟩:=DataW.trod_int l3 e3
  obtain ⟨m4,p4,-,-⟩:=DataW.trod_int l4 e4
  obtain ⟨m5,p5,-,-⟩:=DataW.trod_int l5 e5
  obtain ⟨x,rs,p6,-,-,-,-,hrd⟩:=zcr l6 hR (by decide) hrec e6
  simp at p0 p1 p2 p3 p4 p5
  subst p0 p1 p2 p3 p4 p5 p6
  exact ⟨⟨m0,m1,m2,m3,m4,m5,x,rs⟩,rfl,hrd,z040 w0⟩
theorem z04d {t e:TypeId} {r:Reach} {b0:Nat} {v:Value} {d:DataW H} {ps:List MemPlace} (ht:P.underlying t=some (.slice e)) (hval:Value.okWide P w r b0 t v) (hd:DataW.Trod enc P w base spare held t v d ps):∃ (fuel:Nat) (y:DataW H × List MemPlace),DataW.trod enc P w base spare held fuel t [v]=some y:=by
 obtain ⟨a0,len0,cap0,rfl⟩:=okWide_slice ht hval
 obtain ⟨fuel,hf⟩:=hd
 exact ⟨fuel,_,hf⟩
theorem zdc {W:World} {sz:Nat} {x:Sl} {cs:List Value} (h:Rd W sz x cs):FocR [whole W] x sz cs:=⟨λw hs=>zzn hs.of_whole.1 h⟩
end
open Go.ChangeShapes Go.WideShapes Go.RowKit Go.Deep
structure GoodF6 (w:World) (f:FilM6):Prop where
 lx:Rd w 7 f.lx (f.bs.flatMap zw)
 bs:∀ b ∈ f.bs,Rd w 4 b.x (b.rs.flatMap z03)
 rx:Rd w 1 f.rx (f.raw.flatMap zg)
 cap:f.rx.len<=f.rx.cap
section
variable {H:Type} {enc:TypeId × Value->H} {P:Program} {w:World} {base:Nat} {spare:Nat->Bool} {held:Bool}
theorem wf8 {n:Int} (h:(Lit.int .u8 n).wf=true):0<=n/\n<256:=by
 have h:IntKind.min .u8<=n/\n<=IntKind.max .u8:=by simpa only [Lit.wf,Bool.and_eq_true,decide_eq_true_eq] using h
 have h1:IntKind.min .u8=0:=by decide
 have h2:IntKind.max .u8=255:=by decide
 omega
theorem z04f {t:TypeId} {n:Nat} {cs:List Value} {y:DataW H × List MemPlace} (ht:P.underlying t=some (.int .u8)) (hl:cs.length=1) (hd:DataW.trod enc P w base spare held n t cs=some y):∃ b:UInt8,cs=zg b/\True:=by
 match cs,hl with
 | [v],_ =>
  obtain ⟨m,q,-,hw⟩:=DataW.trod_int ht hd
  simp at q
  subst q
  have h8:=wf8 hw
  refine ⟨UInt8.ofNat m.toNat,?_,trivial⟩
  show [Value.int .u8 m]=[Value.int .u8 (((UInt8.ofNat m.toNat).toNat:Nat):Int)]
  rw [UInt8.toNat_ofNat']
  congr 2
  omega
theorem z03y {t tb tu:TypeId} {b0 b1 b2 b3 b4 b5:Field} {n:Nat} {cs:List Value} {y:DataW H × List MemPlace} (ht:P.underlying t=some (.struct #[b0,b1,b2,b3,b4,b5])) (hC:P.cellsOf t=6)
  (hone:oneCellFields P #[b0,b1,b2,b3,b4,b5]=true) (l0:P.underlying b0.type=some (.int .i64)) (l1:P.underlying b1.type=some .bool) (l2:P.underlying b2.type=some (.int .i64)) (l3:P.underlying b3.type=some (.int .i64)) (l4:P.underlying b4.type=some (.slice tb)) (l5:P.underlying b5.type=some (.slice tu))
  (hB:P.cellsOf tb=7) (hU:P.cellsOf tu=1)
  (hbat:∀ (n:Nat) (cs:List Value) (y:DataW H × List MemPlace),cs.length=7->DataW.trod enc P w base spare held n tb cs=some y->∃ b:BatM,cs=zw b/\Rd w 4 b.x (b.rs.flatMap z03)/\(-9223372036854775808<=b.base/\b.base<9223372036854775808))
  (hby:∀ (n:Nat) (cs:List Value) (y:DataW H × List MemPlace),cs.length=1->DataW.trod enc P w base spare held n tu cs=some y->∃ b:UInt8,cs=zg b/\True)
  (hd:DataW.trod enc P w base spare held n t cs=some y):∃ f:FilM6,cs=za4 f/\GoodF6 w f:=by
 obtain ⟨hl,m,hg⟩:=za9 ht hd hC
 match cs,hl with
 | [v1,v2,v3,v4,v5,v6],_ =>
  have one:∀ (j:Nat) (f:Field) (u:Value),#[b0,b1,b2,b3,b4,b5][j]? = some f->[v1,v2,v3,v4,v5,v6][j]? = some u->∃ y,DataW.trod enc P w base spare held m f.type [u]=some y:=λj f u hj hu=>by
   obtain ⟨ho,hk⟩:=hone_of hone j f hj
   obtain ⟨y,h1⟩:=hg j f hj
   rw [ho,hk] at h1
   obtain ⟨hjl,rfl⟩:=List.getElem?_eq_some_iff.1 hu
   have hone':([v1,v2,v3,v4,v5,v6].drop j).take 1=[[v1,v2,v3,v4,v5,v6][j]]:=by
    rw [List.drop_eq_getElem_cons hjl];rfl
   rw [hone'] at h1
   exact ⟨y,h1⟩
  obtain ⟨z0,e0⟩:=one 0 b0 v1 rfl rfl
  obtain ⟨z1,e1⟩:=one 1 b1 v2 rfl rfl
  obtain ⟨z2,e2⟩:=one 2 b2 v3 rfl rfl
  obtain ⟨z3,e3⟩:=one 3 b3 v4 rfl rfl
  obtain ⟨z4,e4⟩:=one 4 b4 v5 rfl rfl
  obtain ⟨z5,e5⟩:=one 5 b5 v6 rfl rfl
  obtain ⟨m0,p0,-,-⟩:=DataW.trod_int l0 e0
  obtain ⟨t1,p1,-⟩:=DataW.trod_bool l1 e1
  obtain ⟨m2,p2,-,-⟩:=DataW.trod_int l2 e2
  obtain ⟨m3,p3,-,-⟩:=DataW.trod_int l3 e3
  obtain ⟨x,bs,p4,-,-,-,hgd,hrd⟩:=zcr (C:=7) (encA:=zw) (good:=λb=>Rd w 4 b.x (b.rs.flatMap z03)/\(-9223372036854775808<=b.base/\b.base<9223372036854775808)) l4 hB (by decide) hbat e4
  obtain ⟨rx,raw,p5,hcap,-,-,-,hrr⟩:=zcr (C:=1) (encA:=zg) (good:=λ_=>True) l5 hU (by decide) hby e5
  simp at p0 p1 p2 p3
  subst p0 p1 p2 p3 p4 p5
  exact ⟨⟨m0,t1,m2,m3,x,bs,rx,raw⟩,rfl,hrd,λb hb=>(hgd b hb).1,hrr,hcap⟩
theorem z04e {W:World} {f:FilM6} (h:GoodF6 W f):OkF6 [whole W] f:=⟨zdc h.lx,λb hb=>zdc (h.bs b hb),zdc h.rx,h.cap⟩
end
end Go.Dec
