/- What the claim of this folder leans on: our own texts, joined, without what it does not use. -/
import Derived.Test.YtgpcickgjngglaaGreatRows
import Derived.WalkKit
import Derived.ProofKit
import Derived.OpenShut
import Derived.RowKit3
import Derived.OrdersHeld
import Derived.Scope
import Derived.KernelRfl
import Derived.Laws.Sem
import Derived.Laws.StructEq
import Derived.Deep.AppendSrc
import Derived.Laws.BytesArg
import Derived.Laws.RangeString
import Derived.Maps.RangeRun
import Derived.Lib.ConvBytes
import Derived.Lib.SlBytesConst
import Derived.ChangeSlices
import Derived.ChangeMaps5
import Derived.ChangeSame
import Derived.Deep.Slices
import Derived.Deep.Fields
import Derived.Test.YtgpcickgjngglaaGreatProg
import Derived.WideKeyRuns
import Derived.DeepKeys3
import Derived.Laws.MakeOwn
import Derived.Sort.MapsRangeIn
import Derived.Sort.KeysCollected
import Derived.RangeFuncNested
import Derived.RangeFuncBound
import Derived.RangeFuncCalls
import Derived.RangeFuncLeaves
import Derived.RangeFuncBox
import Derived.OwnWalkIn
import Derived.TacticsInMore
import Derived.RegionIn
import Derived.LoopNIn
import Derived.LoopIn
import Derived.Maps.AppendAt
import Derived.Shelf.Abstract
import Derived.Shelf.Sort.Plain
import Derived.Shelf.Slices.In.SortNone
import Derived.Test.YtgpcickgjngglaaGreatQLNil1
import Derived.Test.YtgpcickgjngglaaGreatQLNil2
import Derived.Test.YtgpcickgjngglaaGreatQLNil3
import Derived.Test.YtgpcickgjngglaaGreatQLNil4
import Derived.Test.YtgpcickgjngglaaGreatQLNil5
import Derived.Test.YtgpcickgjngglaaGreatQLNil6
import Derived.Test.YtgpcickgjngglaaGreatQLNil7
import Derived.Test.YtgpcickgjngglaaGreatQLNil8
set_option linter.unusedVariables false
set_option linter.unusedSimpArgs false
namespace Go.Dec
structure SegR where
 base:Int
 fin:Int
 x:Sl
 bs:List BatM
structure RefM where
 seg:Int
 gap:Int
 SR:List SegR
def SegR.p (s:SegR):SegA:=⟨s.base,s.fin,s.bs.map BatM.p⟩
def RefM.l (R:RefM):List SegA:=R.SR.map SegR.p
def RefM.bs (R:RefM):List BatM:=R.SR.flatMap SegR.bs
def zfp (s:SegR):List Value:=[.int .i64 s.base,.int .i64 s.fin,.slice s.x.a s.x.len s.x.cap]
instance:EncA zfp [.int .i64,.int .i64,.slc] (λs=>(s.base,s.fin,s.x,())):=⟨λ_=>rfl⟩
instance:EncN zfp 3:=⟨λ_=>rfl,by decide,by simp [zfp,Value.oneCell']⟩
instance:EncF zfp 0 (.int .i64) (λs=>s.base):=⟨λ_=>rfl⟩
section
variable {w:World} {l r:List HP} {a:Nat} {R:RefM}
theorem zfh:z06 R.l=R.bs.map BatM.p:=by
 unfold z06 RefM.l RefM.bs
 rw [List.flatMap_map,List.map_flatMap]
 rfl
class okR (R:RefM) (l:List HP):Prop where
 segs:z0b 0 R.l
 rd:∀ b ∈ R.bs,FocR l b.x 4 (b.rs.flatMap z04)
 len:R.SR.length<=1000000
 all:R.bs.length<=1000000
theorem okR.valid {L:List HP} (h:okR R L):∀ s ∈ R.SR,SegOk s.p/\(∀ b ∈ s.bs,z05 b=0/\FocR L b.x 4 (b.rs.flatMap z04))/\s.bs.length<=1000000:=λs hs=>by
 have h1:=(h.segs.mem s.p (List.mem_map.2 ⟨s,hs,rfl⟩)).1
 refine ⟨h1,λb hb=>⟨(h1.bs.valid b.p (List.mem_map.2 ⟨b,hb,rfl⟩)).1,h.rd b (List.mem_flatMap.2 ⟨s,hs,hb⟩)⟩,?_⟩
 refine Nat.le_trans ?_ h.all
 obtain ⟨u,v,huv⟩:=List.append_of_mem hs
 unfold RefM.bs
 rw [huv]
 simp only [List.flatMap_append,List.flatMap_cons,List.length_append]
 omega
instance okR.cons {H:HP} {L:List HP} [h:okR R L]:okR R (H::L):=⟨h.segs,λb hb=>by have:=h.rd b hb;infer_instance,h.len,h.all⟩
end
instance:EncF z04 0 .str (λr=>r.key):=⟨λ_=>rfl⟩
section
variable {w:World} {l r:List HP} {a:Nat} {R:RefM} {z:Sl} {g1 g2:Int}
theorem okR.base {L:List HP} (h:okR R L):∀ s ∈ R.SR,0<=s.base/\s.base<=1099511627776:=λs hs=>(h.valid s hs).1.base
end
instance:EncF zfp 2 .slc (λs=>s.x):=⟨λ_=>rfl⟩
def SegR.add (s:SegR) (z:Sl) (q:List BatM):SegR:=⟨s.base,s.fin,z,s.bs++q⟩
def zaw (t:ByteArray):ByteArray:=if t.size>30 then t.extract 0 30 else t
def zlv (r:RecM):RecM:=⟨zaw r.key,zaw r.value,r.gone,r.time⟩
def z0f (b:BatM):BatM:=⟨b.base,b.pid,b.epoch,b.seq,b.kind,b.time,z7t,(b.rs.take 6).map zlv⟩
theorem ze5 (t:ByteArray):(zaw t).size<=30:=by
 unfold zaw
 split
 ·rw [ByteArray.size_extract];omega
 ·omega
theorem zwm (b:BatM) (n:Int) (z:Sl):2<=(z2j (((z0f b).at z).to n)).length/\(z2j (((z0f b).at z).to n)).length<=668:=by
 have h:=zpr (b:=((z0f b).at z).to n) (n:=60) λr hr=>by
  obtain ⟨q,-,rfl⟩:=List.mem_map.1 (show r ∈ (b.rs.take 6).map zlv from hr)
  have h1:=ze5 q.key
  have h2:=ze5 q.value
  show (zaw q.key).size+(zaw q.value).size<=60
  omega
 have h3:(((z0f b).at z).to n).rs.length<=6:=by
  show ((b.rs.take 6).map zlv).length<=6
  rw [List.length_map,List.length_take];omega
 omega
abbrev cZ (b:BatM) (z:Sl):Array Value:=#[.int .i64 b.base,.int .i64 b.pid,.int .i64 b.epoch,.int .i64 b.seq,.int .i64 b.kind,.int .i64 b.time,.slice z.a z.len z.cap]
theorem zj7 {nm:SegA->ByteArray}:∀ {fs:List FileA} {l:List SegA},fs.map (·.name)=l.map nm->(∀ f ∈ fs,∀ s ∈ l,f.name=nm s->f.b=s.file)->used fs=z5j l
 | [],[],_,_=>rfl
 | [],s::l,h,_=>by simp at h
 | f::fs,[],h,_=>by simp at h
 | f::fs,s::l,h,hh=>by
  rw [List.map_cons,List.map_cons,List.cons.injEq] at h
  have h1:=hh f (List.mem_cons_self ..) s (List.mem_cons_self ..) h.1
  have h2:=zj7 h.2 λf hf s hs=>hh f (List.mem_cons_of_mem _ hf) s (List.mem_cons_of_mem _ hs)
  rw [z1h,h2,h1]
  simp [z5j]
theorem Cpl.sizes {pre:ByteArray} {l:List SegA} {D:DiskA} (h:Cpl pre l D):l.length<=D.fs.length/\z5j l<=used D.fs:=by
 have hn:=h.names
 have e:(D.fs.filter λf=>(bl (z15 pre)).isPrefixOf (bl f.name)).map (·.name)=l.map λs=>zl pre s.base zu:=by
  rw [<- hn]
  unfold z0y
  rw [List.filter_map]
  congr 1
  apply List.filter_congr
  intro f _
  show _=Go.Proofs.YtgpcickgjngglaaGreat.preF (z15 pre) f.name
  rw [zqp]
 have hs:=zj7 e λf hf s hs hfs=>by
  have h1:=zcd (z2q h.ok.sorted) (List.mem_filter.1 hf).1
  obtain ⟨k,hk⟩:=h.has s hs
  rw [hfs,hk] at h1
  simp only [Option.some.injEq,Prod.mk.injEq] at h1
  exact h1.1.symm
 have hl:=congrArg List.length e
 rw [List.length_map,List.length_map] at hl
 exact ⟨by rw [<- hl];exact List.length_filter_le _ _,by rw [<- hs];exact zff List.filter_sublist⟩
theorem zr0:∀ {n:Int} {l:List SegA},z0b n l->(z06 l).length*10<=z5j l
 | _,[],_=>Nat.le_refl _
 | n,s::l,⟨h1,h2,h3⟩=>by
  have h4:=zr0 h3
  have h5:=zgz h2
  have e1:z06 (s::l)=s.bs++z06 l:=by simp [z06]
  have e2:z5j (s::l)=s.file.length+z5j l:=by simp [z5j]
  rw [e1,e2,List.length_append]
  omega
theorem Cpl.len {pre:ByteArray} {l:List SegA} {D:DiskA} (h:Cpl pre l D):l.length<=128/\(z06 l).length<=500000/\∀ s ∈ l,s.file.length<=4194304:=by
 obtain ⟨h1,h2⟩:=h.sizes
 have h3:=zr0 h.segs
 have h4:=h.ok.many
 have h5:=h.ok.used
 refine ⟨by omega,by omega,λs hs=>?_⟩
 obtain ⟨k,hk⟩:=h.has s hs
 exact Nat.le_trans (zd5 hk) h5
theorem zmn (b:BatM) (z:Sl) (n:Int):((zw n [(z0f b).at z]).2.flatMap frL).length<=676:=by
 unfold zw
 split
 ·exact Nat.zero_le _
 ·rename_i hv
  have hv:=Decidable.not_not.1 hv
  split
  ·exact Nat.zero_le _
  ·show ((((z0f b).at z).to n)::(zw _ []).2 |>.flatMap frL).length<=676
   have h1:=zwm b n z
   have h2:=z4v hv
   simp only [zw,List.flatMap_cons,List.flatMap_nil,List.append_nil]
   omega
theorem zz4 {seg:Int} {l:List SegA} {bs:List BatM}:z5j (z1f seg l bs).2<=z5j l+((zw (zt l) bs).2.flatMap frL).length+29:=by
 unfold z1f
 split
 ·simp only;omega
 split
 ·simp only;omega
 simp only
 split
 ·rename_i hr
  have hne:l≠[]:=by rintro rfl;cases hr
  obtain ⟨l0,s,rfl⟩:=z3d hne
  rw [z3s,z77,z77,z6u,List.length_append]
  omega
 ·have:=zhj (zt l) 0
  rw [z77,zfb,List.length_append]
  omega
theorem zsn (seg:Int) (l:List SegA) (b:BatM) (z1 z2:Sl):z1f seg l [(z0f b).at z1]=z1f seg l [(z0f b).at z2]:=by
 rw [<- zle,<- zle seg l [(z0f b).at z2]]
 rfl
theorem z2w (l:List SegA) (s:SegA):z06 (l++[s])=z06 l++s.bs:=by simp [z06]
theorem zw3 {a b:List BatM} (h:b≠[]):z0d (a++b)=z0d b:=by
 obtain ⟨b0,x,rfl⟩:=z3d h
 rw [<- List.append_assoc,z3m,z3m]
theorem zew {seg:Int} {l:List SegA} {bs:List BatM} (hok:z0b 0 l) (hb:bs≠[]) (hp:(zw (zt l) bs).1=0) :
  z06 (z1f seg l bs).2=z06 l++(zw (zt l) bs).2.map BatM.p/\zt (z1f seg l bs).2=z0d ((zw (zt l) bs).2.map BatM.p):=by
 have hq1:=(zcx hp).1
 have hq:(zw (zt l) bs).2.map BatM.p≠[]:=by
  intro h
  have:=List.map_eq_nil_iff.1 h
  rw [this] at hq1
  exact hb (List.length_eq_zero_iff.1 hq1.symm)
 have hnx:=hok.next (Int.le_refl 0)
 have hlt:=((z9z hnx.1 hp).1.next hnx.1).1 hq
 unfold z1f
 rw [if_neg hb,if_neg (by rw [hp];simp)]
 simp only
 split
 ·rename_i hr
  have hne:l≠[]:=by rintro rfl;cases hr
  obtain ⟨l0,s,rfl⟩:=z3d hne
  rw [z3s,z2w,z2w,z37]
  refine ⟨by simp [SegA.add],?_⟩
  have hsr:=z5c hok.front.2.1
  rw [z37] at hlt hq ⊢
  show max (max s.base s.fin) (z0d (s.bs++_))=_
  rw [zw3 hq]
  omega
 ·rw [z2w,z37]
  refine ⟨by simp [SegA.add],?_⟩
  show max (max (zt l) 0) (z0d ([]++_))=_
  rw [List.nil_append]
  omega
theorem zex {seg:Int} {l:List SegA} {bs:List BatM} (h:bs=[]\/(zw (zt l) bs).1≠0):(z1f seg l bs).2=l/\(z1f seg l bs).1.2≠0:=by
 unfold z1f
 by_cases hb:bs=[]
 ·rw [if_pos hb];exact ⟨rfl,by simp⟩
 ·rw [if_neg hb]
  rcases h with h|h
  ·exact absurd h hb
  ·rw [if_pos h];exact ⟨rfl,h⟩
def z9e (seg:Int) (bs:List BatM):List SegA:=bs.foldl (λl b=>(z1f seg l [b]).2) []
theorem zmp (seg:Int) (bs:List BatM) (b:BatM):z9e seg (bs++[b])=(z1f seg (z9e seg bs) [b]).2:=by
 unfold z9e
 rw [List.foldl_append]
 rfl
theorem ziw (b:BatM) (n:Int) (h:(zw n [b]).1=0):(zw n [b]).2=[b.to n]:=by
 unfold zw at h ⊢
 split at h
 ·rename_i h1;exact absurd h h1
 ·rename_i h1
  rw [if_neg h1]
  split at h
  ·rename_i h2;exact absurd rfl h2
  ·rename_i h2;rw [if_neg h2];rfl
theorem z03v (seg:Int) (l:List SegA) (b:BatM):z1f seg l [(b.to (zt l)).p]=z1f seg l [b]:=by
 rw [<- zle seg l [b]]
 have e:zw (zt l) [(b.to (zt l)).p]=zw (zt l) ([b].map BatM.p):=rfl
 unfold z1f
 rw [e]
 rfl
def z8i (pre:ByteArray) (l:List SegA) (D:DiskA) (n:Nat):Prop:=n<=(z06 l).length/\∀ l0 t,l=l0++[t]->(∀ s ∈ l0,z02 D.fs (zl pre s.base zu)=some (s.file,s.file.length)) /\
 ∃ k,z02 D.fs (zl pre t.base zu)=some (t.file,k)/\∀ j,1<=j->j<=t.bs.length->(z06 l0).length+j<=n->(t.cut j).file.length<=k
theorem zbn {α:Type} {a b:List α} {x y:α} (h:a++[x]=b++[y]):a=b/\x=y:=by
 have:=List.append_inj' h rfl
 exact ⟨this.1,by simpa using this.2⟩
theorem zdw (t:SegA) (j:Nat):(t.cut j).file.length<=t.file.length:=by
 rw [z2k,z2k]
 show (shL t.base t.fin).length+((t.bs.take j).flatMap frL).length<=_
 have:t.bs.flatMap frL=(t.bs.take j).flatMap frL++(t.bs.drop j).flatMap frL:=by rw [<- List.flatMap_append,List.take_append_drop]
 rw [this,List.length_append];omega
theorem z8i.sync {pre:ByteArray} {l:List SegA} {D:DiskA} {n:Nat} (h:z8i pre l D n) (hc:Cpl pre l D):z8i pre l (z0j pre l D).2 n/\((z0j pre l D).1=0->z8i pre l (z0j pre l D).2 (z06 l).length /\
  ∀ s ∈ l,z02 (z0j pre l D).2.fs (zl pre s.base zu)=some (s.file,s.file.length)):=by
 by_cases h0:l=[]
 ·subst h0
  exact ⟨h,λ_=>⟨⟨Nat.le_refl _,λl0 t e=>by simp at e⟩,λs hs=>by cases hs⟩⟩
 obtain ⟨l0,t,rfl⟩:=z3d h0
 have e:z0j pre (l0++[t]) D=z1s D [zl pre t.base zu]:=by unfold z0j;rw [z1t]
 rw [e]
 obtain ⟨h1,k,h2,h3⟩:=h.2 l0 t rfl
 obtain ⟨-,-,-,-,h5⟩:=zm0 hc.ok (zl pre t.base zu)
 obtain ⟨f1,f2,f3,f4⟩:=hc.segs.front
 have hold:∀ s ∈ l0,z02 (z1s D [zl pre t.base zu]).2.fs (zl pre s.base zu)=some (s.file,s.file.length):=λs hs=>by
  rcases h5 (zl pre s.base zu) with h6|⟨h6,-,-⟩
  ·rw [h6];exact h1 s hs
  ·exact absurd h6 (z73 (f1.mem s hs).1 f2 (by have:=(f4 s hs).2;omega))
 constructor
 ·refine ⟨h.1,λl0' t' e'=>?_⟩
  obtain ⟨rfl,rfl⟩:=zbn e'
  refine ⟨hold,?_⟩
  rcases h5 (zl pre t.base zu) with h6|⟨-,-,h6⟩
  ·rw [h6];exact ⟨k,h2,h3⟩
  ·rw [h6,h2]
   exact ⟨t.file.length,rfl,λj h7 h8 h9=>zdw _ _⟩
 ·intro h0
  have hnew:z02 (z1s D [zl pre t.base zu]).2.fs (zl pre t.base zu)=some (t.file,t.file.length):=by
   obtain ⟨-,-,-,-,-,h7⟩:=zr2 hc.ok h0
   rw [h7,h2];simp
  refine ⟨⟨Nat.le_refl _,λl0' t' e'=>?_⟩,λs hs=>?_⟩
  ·obtain ⟨rfl,rfl⟩:=zbn e'
   exact ⟨hold,t.file.length,hnew,λj _ _ _=>zdw _ _⟩
  ·rcases List.mem_append.1 hs with hs|hs
   ·exact hold s hs
   ·simp only [List.mem_cons,List.not_mem_nil,or_false] at hs
    subst hs;exact hnew
theorem z8i.begin {pre:ByteArray} {l:List SegA} {s:SegA} {D:DiskA} {n:Nat} (h:z8i pre l D n) (hc:Cpl pre l D) (hsegs:z0b 0 (l++[s])) (hall:∀ t ∈ l,z02 D.fs (zl pre t.base zu)=some (t.file,t.file.length)) (ha:(z08 D (zl pre s.base zu) s.file).1=0):z8i pre (l++[s]) (z08 D (zl pre s.base zu) s.file).2 n:=by
 obtain ⟨-,-,-,-,-,-,h7⟩:=z9s hc.ok ha
 obtain ⟨f1,f2,f3,f4⟩:=hsegs.front
 have hn:=h.1
 have hnone:z02 D.fs (zl pre s.base zu)=none:=by
  cases hq:z02 D.fs (zl pre s.base zu) with
  | none=>rfl
  | some q =>
   obtain ⟨t,ht,e⟩:=hc.only _ (by rw [hq];rfl) (z4h pre s.base zu)
   exact absurd e (z73 f2 (f1.mem t ht).1 (by have:=(f4 t ht).2;omega))
 refine ⟨by rw [z2w,List.length_append];omega,λl0' t' e'=>?_⟩
 obtain ⟨rfl,rfl⟩:=zbn e'
 refine ⟨λt ht=>?_,0,?_,λj j1 j2 j3=>?_⟩
 ·rw [h7,if_neg (z73 (f1.mem t ht).1 f2 (by have:=(f4 t ht).2;omega))]
  exact hall t ht
 ·rw [h7,if_pos rfl,hnone]
  rfl
 ·omega
theorem z8i.app {pre:ByteArray} {seg:Int} {l:List SegA} {D:DiskA} {bs:List BatM} {n:Nat} (hp:z3o pre=true) (h:z8i pre l D n) (hc:Cpl pre l D):z8i pre (z0w pre seg l D bs).2.1 (z0w pre seg l D bs).2.2 n:=by
 have hsegs:=za0 (seg:=seg) (bs:=bs) hc.segs
 unfold z0w
 unfold z1f at hsegs
 split
 ·exact h
 rename_i hb
 rw [if_neg hb] at hsegs
 split
 ·exact h
 rename_i hpl
 rw [if_neg hpl] at hsegs
 simp only at hsegs
 split
 ·rename_i hr
  have hne:l≠[]:=by rintro rfl;cases hr
  obtain ⟨l0,t,rfl⟩:=z3d hne
  rw [zfk]
  split
  ·rename_i he
   simp only
   rw [z8m he];exact h
  ·rename_i he
   have he:=Decidable.not_not.1 he
   simp only
   rw [z3s]
   obtain ⟨h1,k,h2,h3⟩:=h.2 l0 t rfl
   obtain ⟨-,-,-,-,-,-,h7⟩:=z9s hc.ok he
   obtain ⟨f1,f2,f3,f4⟩:=hc.segs.front
   have hn:=h.1
   rw [z2w,List.length_append] at hn
   refine ⟨by rw [z2w,List.length_append];simp only [SegA.add,List.length_append];omega,λl0' t' e'=>?_⟩
   obtain ⟨rfl,rfl⟩:=zbn e'
   refine ⟨λs hs=>?_,k,?_,λj j1 j2 j3=>?_⟩
   ·rw [h7,if_neg (z73 (f1.mem s hs).1 f2 (by have:=(f4 s hs).2;omega))]
    exact h1 s hs
   ·show z02 _ (zl pre t.base zu)=_
    rw [h7,if_pos rfl,h2,z6u]
    rfl
   ·have hj:j<=t.bs.length:=by omega
    have e:(t.add (zw (zt (l0++[t])) bs).2).cut j=t.cut j:=by
     unfold SegA.cut SegA.add
     simp only
     rw [List.take_append_of_le_length hj]
    rw [e]
    exact h3 j j1 hj j3
 ·rename_i hr
  obtain ⟨hs1,hs2⟩:=h.sync hc
  split
  ·exact hs1
  rename_i hse
  have hse:=Decidable.not_not.1 hse
  split
  ·rename_i he
   simp only
   rw [z8m he];exact hs1
  ·rename_i he
   have he:=Decidable.not_not.1 he
   rw [if_neg hr] at hsegs
   simp only
   obtain ⟨hs3,hs4⟩:=hs2 hse
   rw [<- zfb] at he ⊢
   exact hs1.begin (s:=SegA.add ⟨zt l,0,[]⟩ (zw (zt l) bs).2) (z8c hc).1 hsegs hs4 he
structure CutP (pre:ByteArray) (l0:List SegA) (t:SegA) (k:Nat) (D:DiskA):Prop where
 ok:okA D
 segs:z0b 0 (l0++[t])
 old:∀ s ∈ l0,z02 D.fs (zl pre s.base zu)=some (s.file,s.file.length)
 last:z02 D.fs (zl pre t.base zu)=some (t.file.take k,k)
 le:k<=t.file.length
 only:∀ n,(z02 D.fs n).isSome=true->(bl (z15 pre)).isPrefixOf (bl n)=true->∃ s ∈ l0++[t],n=zl pre s.base zu
theorem CutP.fs {pre:ByteArray} {l0:List SegA} {t:SegA} {k:Nat} {D D':DiskA} (h:CutP pre l0 t k D) (hok:okA D') (e:D'.fs=D.fs):CutP pre l0 t k D' :=
 ⟨hok,h.segs,by rw [e];exact h.old,by rw [e];exact h.last,h.le,by rw [e];exact h.only⟩
theorem zy4 {pre:ByteArray} {l:List SegA} {D:DiskA} (hok:okA D) (hsegs:z0b 0 l) (hex:∀ s ∈ l,(z02 D.fs (zl pre s.base zu)).isSome=true) (only:∀ n,(z02 D.fs n).isSome=true->(bl (z15 pre)).isPrefixOf (bl n)=true->∃ s ∈ l,n=zl pre s.base zu):z0y (z15 pre) D.fs=l.map λs=>zl pre s.base zu:=by
 refine zd3 (zcu hok _) (zad pre hsegs) λn=>?_
 rw [zip]
 constructor
 ·rintro ⟨h1,h2⟩
  obtain ⟨s,hs,rfl⟩:=only n h1 h2
  exact List.mem_map.2 ⟨s,hs,rfl⟩
 ·intro hn
  obtain ⟨s,hs,rfl⟩:=List.mem_map.1 hn
  exact ⟨hex s hs,z4h pre s.base zu⟩
theorem zhx {l1 l:List SegA} {s:SegA} (hok:z0b 0 (l1++s::l)):¬ s.base<zt l1:=by
 have hs:SegOk s:=(hok.mem s (by simp)).1
 have:=hs.base
 by_cases h0:l1=[]
 ·subst h0;show ¬ s.base<0;omega
 ·obtain ⟨l0,t,rfl⟩:=z3d h0
  rw [z37]
  have h1:=hok.skip l0.length (l0.length+1) (by simp) (by omega)
  have e1:(l0++[t]++s::l)[l0.length]'(by simp)=t:=by simp
  have e2:(l0++[t]++s::l)[l0.length+1]'(by simp)=s:=by
   rw [List.getElem_append_right (by simp)];simp
  rw [e1,e2] at h1
  omega
theorem zit {pre:ByteArray} {D:DiskA} {rest:List Int}:∀ {l l1:List SegA},z0b 0 (l1++l)->(∀ s ∈ l,∃ k,z02 D.fs (zl pre s.base zu)=some (s.file,k))->z1z pre (l.map SegA.base++rest) l1 D=z1z pre rest (l1++l) D
 | [],l1,_,_=>by simp
 | s::l,l1,hok,hh=>by
  rw [List.map_cons,List.cons_append]
  have hok2:z0b 0 ((l1++[s])++l):=by rwa [List.append_assoc]
  have hs:SegOk s:=(hok.mem s (by simp)).1
  obtain ⟨k,hk⟩:=hh s (List.mem_cons_self ..)
  have hsc:z1o pre l1 D s.base=((true,0),l1++[s],D):=by
   unfold z1o
   rw [hk]
   simp only
   rw [zj2 hs]
   simp only
   rw [if_pos trivial]
  have e:z1z pre (s.base::(l.map SegA.base++rest)) l1 D=z1z pre (l.map SegA.base++rest) (l1++[s]) D:=by
   rw [z1z]
   rw [if_neg (zhx hok),hsc,if_neg (by simp),if_pos rfl]
  rw [e,zit hok2 λt ht=>hh t (List.mem_cons_of_mem _ ht),List.append_assoc]
  rfl
theorem ze9 {g:FileA->FileA} (hg:∀ f,(g f).b.length<=f.b.length):∀ fs:List FileA,used (fs.map g)<=used fs
 | []=>Nat.le_refl _
 | f::fs=>by
  have:=ze9 hg fs
  have:=hg f
  rw [List.map_cons,z1h,z1h]
  omega
theorem zxf (A:DiskA) (n:ByteArray) (k:Int):used (cutA' A n k).2.fs<=used A.fs:=by
 unfold cutA'
 split
 ·exact Nat.le_refl _
 split
 ·exact Nat.le_refl _
 split
 ·exact Nat.le_refl _
 ·show used (z2e _).fs<=_
  rw [z3e]
  refine ze9 (λf=>?_) _
  unfold z1q
  split
  ·show (f.b.take _).length<=_;rw [List.length_take];omega
  ·exact Nat.le_refl _
theorem zxe {D:DiskA} (h:Calm D) (n:ByteArray) (k:Int):Calm (cutA' D n k).2:=by
 unfold cutA'
 split
 ·exact h
 split
 ·exact h
 split
 ·exact h
 ·show Calm (z2e _)
  rw [z9t (by exact h.left)]
  exact ⟨h.gone,h.left⟩
theorem zwd {t:SegA} (ht:SegOk t) (j:Nat):(t.cut j).reach<=t.reach:=by
 unfold SegA.reach SegA.cut
 simp only
 have h:z0d (t.bs.take j)<=max (max t.base t.fin) (z0d t.bs):=by
  by_cases h0:t.bs.take j=[]
  ·rw [h0];have:=ht.base;show (0:Int)<=_;omega
  ·obtain ⟨l,b,hb⟩:=z3d h0
   rw [hb,z3m]
   have hm:b ∈ t.bs:=List.mem_of_mem_take (by rw [hb];simp)
   have:=ht.bs.le_next hm
   omega
 omega
structure OpnP (pre:ByteArray) (l:List SegA) (n:Nat) (D:DiskA) (l1:List SegA) (D3:DiskA):Prop where
 cpl:Cpl pre l1 D3
 room:D3.room=D.room
 used:used D3.fs<=used D.fs
 len:D3.fs.length<=D.fs.length
 calm:Calm D->Calm D3
 sure:n<=(z06 l1).length
 le:(z06 l1).length<=(z06 l).length
 part:z06 l1=(z06 l).take (z06 l1).length
 next:zt l1<=zt l
theorem z0b.cutLast {n:Int} {l0:List SegA} {t:SegA} (h:z0b n (l0++[t])) (j:Nat):z0b n (l0++[t.cut j]):=by
 obtain ⟨h1,h2,h3,h4⟩:=h.front
 exact h1.snoc (h2.cut j) h3 h4
theorem CutP.opened {pre:ByteArray} {l0:List SegA} {t:SegA} {k n:Nat} {D:DiskA} (h:CutP pre l0 t k D) (hg:D.gone=false) (hn0:n<=(z06 (l0++[t])).length) (hn:∀ j,1<=j->j<=t.bs.length->(z06 l0).length+j<=n->(t.cut j).file.length<=k) :
  ∃ l1 D3,z4f pre D=(0,l1,D3)/\OpnP pre (l0++[t]) n D l1 D3:=by
 have hex:∀ s ∈ l0++[t],(z02 D.fs (zl pre s.base zu)).isSome=true:=λs hs=>by
  rcases List.mem_append.1 hs with hs|hs
  ·rw [h.old s hs];rfl
  ·simp only [List.mem_cons,List.not_mem_nil,or_false] at hs
   subst hs;rw [h.last];rfl
 have hnm:=zy4 h.ok h.segs hex h.only
 obtain ⟨f1,f2,f3,f4⟩:=h.segs.front
 have hstart:z4f pre D=z1z pre [t.base] l0 D:=by
  unfold z4f
  rw [hnm,zb8 pre D λs hs=>(h.segs.mem s hs).1,if_neg (by simp)]
  simp only
  rw [List.map_append]
  have:=zit (pre:=pre) (D:=D) (rest:=[t].map SegA.base) (l:=l0) (l1:=[]) f1 λs hs=>⟨_,h.old s hs⟩
  rw [this]
  rfl
 rw [hstart]
 rw [z2w,List.length_append] at hn0
 have hne:∀ s ∈ l0,zl pre s.base zu≠zl pre t.base zu:=λs hs=>z73 (f1.mem s hs).1 f2 (by have:=(f4 s hs).2;omega)
 have hb:=zhx (l:=[]) h.segs
 have hisS:(z02 D.fs (zl pre t.base zu)).isSome=true:=by rw [h.last];rfl
 rcases zyy f2 k with ⟨c1,c2⟩|⟨j,c1,c2,c3,c4⟩
 ·have hsc:z1o pre l0 D t.base=((false,(z10 D (zl pre t.base zu)).1),l0,(z10 D (zl pre t.base zu)).2):=by
   unfold z1o
   rw [h.last]
   simp only
   rw [c2]
  have hr:(z10 D (zl pre t.base zu)).1=0:=by
   rcases zwg hisS with ⟨r1,-⟩|⟨-,r2,-⟩
   ·exact r1
   ·rw [hg] at r2;cases r2
  refine ⟨l0,(z10 D (zl pre t.base zu)).2,?_,?_⟩
  ·rw [z1z,if_neg hb,hsc,hr]
   rfl
  ·obtain ⟨-,r1,r2,r3,r4,-,r6⟩:=z05v h.ok hr
   have hnl:n<=(z06 l0).length:=by
    apply Nat.le_of_not_lt
    intro hlt
    have h1:=hn 1 (Nat.le_refl _) (by omega) (by omega)
    rw [z2k] at h1
    have:(shL (t.cut 1).base (t.cut 1).fin).length=(shL t.base t.fin).length:=rfl
    omega
   refine ⟨⟨r1,f1,λs hs=>⟨s.file.length,?_⟩,λm hm hp=>?_⟩,r2,r3,r4,λhc=>zyu hc _,hnl,?_,?_,?_⟩
   ·rw [r6,if_neg (hne s hs)];exact h.old s hs
   ·rw [r6] at hm
    by_cases hmt:m=zl pre t.base zu
    ·rw [if_pos hmt] at hm;cases hm
    ·rw [if_neg hmt] at hm
     obtain ⟨s,hs,rfl⟩:=h.only m hm hp
     rcases List.mem_append.1 hs with hs|hs
     ·exact ⟨s,hs,rfl⟩
     ·simp only [List.mem_cons,List.not_mem_nil,or_false] at hs
      subst hs;exact absurd rfl hmt
   ·rw [z2w,List.length_append];omega
   ·rw [z2w,List.take_left]
   ·rw [z37]
    have:=(z5c f2).1
    omega
 ·have hprefix:z06 (l0++[t.cut j])=(z06 (l0++[t])).take (z06 (l0++[t.cut j])).length/\(z06 (l0++[t.cut j])).length=(z06 l0).length+j:=by
   have e:(t.cut j).bs=t.bs.take j:=rfl
   rw [z2w,z2w,e,List.length_append,List.length_take,Nat.min_eq_left c1,List.take_append,List.take_of_length_le (Nat.le_add_right _ _),Nat.add_sub_cancel_left]
   exact ⟨rfl,rfl⟩
  have hnl:n<=(z06 (l0++[t.cut j])).length:=by
   rw [hprefix.2]
   apply Nat.le_of_not_lt
   intro hlt
   have h1:=hn (n-(z06 l0).length) (by omega) (by omega) (by omega)
   have h2:=c4 (n-(z06 l0).length) (by omega) h1
   omega
  have hle:(z06 (l0++[t.cut j])).length<=(z06 (l0++[t])).length:=by rw [hprefix.2,z2w,List.length_append];omega
  have hnx:zt (l0++[t.cut j])<=zt (l0++[t]):=by rw [z37,z37];exact zwd f2 j
  have hkl:(t.file.take k).length=k:=by rw [List.length_take,Nat.min_eq_left h.le]
  have hraw:=(zlq c3).2.2.1
  by_cases hk:(t.cut j).file.length=k
  ·have hsc:z1o pre l0 D t.base=((true,0),l0++[t.cut j],D):=by
    unfold z1o
    rw [h.last]
    simp only
    rw [c3]
    simp only
    rw [if_pos (by rw [hkl];exact hk)]
   refine ⟨l0++[t.cut j],D,?_,?_⟩
   ·rw [z1z,if_neg hb,hsc,if_neg (by simp),if_pos rfl]
    rfl
   ·refine ⟨⟨h.ok,h.segs.cutLast j,λs hs=>?_,λm hm hp=>?_⟩,rfl,Nat.le_refl _,Nat.le_refl _,id,hnl,hle,hprefix.1,hnx⟩
    ·rcases List.mem_append.1 hs with hs|hs
     ·exact ⟨_,h.old s hs⟩
     ·simp only [List.mem_cons,List.not_mem_nil,or_false] at hs
      subst hs
      refine ⟨k,?_⟩
      show z02 D.fs (zl pre t.base zu)=_
      rw [h.last,<- hraw,hk,List.take_take,Nat.min_self]
    ·obtain ⟨s,hs,rfl⟩:=h.only m hm hp
     rcases List.mem_append.1 hs with hs|hs
     ·exact ⟨s,by simp [hs],rfl⟩
     ·simp only [List.mem_cons,List.not_mem_nil,or_false] at hs
      subst hs;exact ⟨s.cut j,by simp,rfl⟩
  ·have hsc:z1o pre l0 D t.base=((false,(cutA' D (zl pre t.base zu) ((t.cut j).file.length:Nat)).1),l0++[t.cut j],(cutA' D (zl pre t.base zu) ((t.cut j).file.length:Nat)).2):=by
    unfold z1o
    rw [h.last]
    simp only
    rw [c3]
    simp only
    rw [if_neg (by rw [hkl];exact hk)]
   have hr:(cutA' D (zl pre t.base zu) ((t.cut j).file.length:Nat)).1=0:=by
    rcases zv6 (A:=D) (k:=((t.cut j).file.length:Nat)) h.last (by rw [hkl];omega) with ⟨r1,-⟩|⟨-,r2,-⟩
    ·exact r1
    ·rw [hg] at r2;cases r2
   refine ⟨l0++[t.cut j],(cutA' D (zl pre t.base zu) ((t.cut j).file.length:Nat)).2,?_,?_⟩
   ·rw [z1z,if_neg hb,hsc,hr]
    rfl
   ·obtain ⟨-,r1,r2,r3,r4⟩:=z04v h.ok hr
    refine ⟨⟨r1,h.segs.cutLast j,λs hs=>?_,λm hm hp=>?_⟩,r2,zxf _ _ _,by omega,λhc=>zxe hc _ _,hnl,hle,hprefix.1,hnx⟩
    ·rcases List.mem_append.1 hs with hs|hs
     ·rw [r4,if_neg (hne s hs)];exact ⟨_,h.old s hs⟩
     ·simp only [List.mem_cons,List.not_mem_nil,or_false] at hs
      subst hs
      refine ⟨min k (t.cut j).file.length,?_⟩
      show z02 _ (zl pre t.base zu)=_
      rw [r4,if_pos rfl,h.last]
      show some ((t.file.take k).take _,_)=_
      rw [Int.toNat_natCast,hraw]
    ·rw [r4] at hm
     have hm2:(z02 D.fs m).isSome=true:=by
      by_cases hmt:m=zl pre t.base zu
      ·rw [hmt];exact hisS
      ·rw [if_neg hmt] at hm;exact hm
     obtain ⟨s,hs,rfl⟩:=h.only m hm2 hp
     rcases List.mem_append.1 hs with hs|hs
     ·exact ⟨s,by simp [hs],rfl⟩
     ·simp only [List.mem_cons,List.not_mem_nil,or_false] at hs
      subst hs;exact ⟨s.cut j,by simp,rfl⟩
def CrP (pre:ByteArray) (l:List SegA) (n:Nat) (D:DiskA):Prop:=(l=[]/\n=0/\Cpl pre [] D)\/∃ l0 t k,l=l0++[t]/\n<=(z06 l).length/\CutP pre l0 t k D/\∀ j,1<=j->j<=t.bs.length->(z06 l0).length+j<=n->(t.cut j).file.length<=k
theorem CrP.ok {pre:ByteArray} {l:List SegA} {D:DiskA} {n:Nat} (h:CrP pre l n D):okA D:=by
 rcases h with ⟨h1,h2,h3⟩|⟨l0,t,k,h1,h2,h3,h4⟩
 ·exact h3.ok
 ·exact h3.ok
theorem CrP.opened {pre:ByteArray} {l:List SegA} {D:DiskA} {n:Nat} (h:CrP pre l n D) (hg:D.gone=false):∃ l1 D3,z4f pre D=(0,l1,D3)/\OpnP pre l n D l1 D3:=by
 rcases h with ⟨rfl,rfl,h3⟩|⟨l0,t,k,rfl,h2,h3,h4⟩
 ·exact ⟨[],D,h3.opened,h3,rfl,Nat.le_refl _,Nat.le_refl _,id,Nat.zero_le _,Nat.le_refl _,rfl,Int.le_refl _⟩
 ·exact h3.opened hg h2 h4
theorem zd7:∀ {n:Int} {l:List SegA},0<=n->z0b n l->z1m n (z06 l)
 | _,[],_,_=>trivial
 | n,s::l,hn,⟨h1,h2,h3⟩=>by
  have e1:z06 (s::l)=s.bs++z06 l:=by simp [z06]
  have hr:=z5c h2
  have hb:=h2.base
  rw [e1]
  refine z1m.append hn (h2.bs.mono h1) ((zd7 (by omega) h3).mono ?_)
  omega
section
variable {w:World} {l r:List HP} {lg d:Nat} {D:DiskA} {A:LogA}
theorem z04p (b:BatM) (x:Sl) {r1:List HP} [hf:Fo l lgP lg A r1] [hf2:Fo r1 dk A.d D r] (hlen:A.l.length<=1000000) (hok:z0b 0 A.l) (hfl:∀ s ∈ A.l,s.file.length<=500000000)
  (hx:FocR r x 7 ([b].flatMap zv)) (hb:FocR r b.x 4 (b.rs.flatMap z04)) (hs:Sat w l) :
  Ret P F.a135 #[.pointer (some ⟨lg,0,none⟩),x.v] w λvs w'=>vs=[.int .i64 (z0w A.pre A.seg A.l D [b]).1.1,.int .i64 (z0w A.pre A.seg A.l D [b]).1.2] /\
   Sat w' (lgP lg (A.set (z0w A.pre A.seg A.l D [b]).2.1)::dk A.d (z0w A.pre A.seg A.l D [b]).2.2::r) :=
 zvq x [b] hlen hok hfl (by show 1<=900;omega) hx (λc hc=>by
  simp only [List.mem_cons,List.not_mem_nil,or_false] at hc
  subst hc
  exact hb) hs
theorem nil_append (x:Sl) (hs:Sat w l):Ret P F.a135 #[.pointer none,x.v] w λvs w'=>vs=[.int .i64 0,.int .i64 1]/\Sat w' l :=
 zec _ x <| by
  delta zt9 AA AE AF AG AH AI AK AL AM AN AO AP AT AU Aa Ac Ad Af Ai Aj Ak Al Am An Ao Ap Aq Ar Ax Bn
  refine z0c ?_ (by rfl)
  exact ⟨rfl,rfl,hs⟩
end
def InP (pool:List BatM) (R:RefM):Prop:=∀ b ∈ R.bs,∃ c ∈ pool,b.x=c.x/\b.rs=c.rs
structure Grw (pre:ByteArray) (D:DiskA) (l':List SegA) (D':DiskA):Prop where
 cpl:Cpl pre l' D'
 fr:Fr pre D D'
 calm:Calm D'
 used:used D'.fs<=used D.fs+705
 len:D'.fs.length<=D.fs.length+1
theorem InP.rd {pool:List BatM} {R:RefM} {l:List HP} (h:InP pool R):∀ b ∈ R.bs,FocR (z1j pool::l) b.x 4 (b.rs.flatMap z04):=λb hb=>by
 obtain ⟨c,hc,e1,e2⟩:=h b hb
 rw [e1,e2]
 exact zai hc
theorem InP.more {pool:List BatM} {R:RefM} (h:InP pool R) (x:BatM):InP (pool++[x]) R:=λb hb=>by
 obtain ⟨c,hc,e⟩:=h b hb
 exact ⟨c,List.mem_append_left _ hc,e⟩
theorem InP.app {pool:List BatM} {R R':RefM} {b0:BatM} {z:Sl} (h:InP pool R) (hR:∀ b ∈ R'.bs,b ∈ R.bs\/(b.x=z/\b.rs=(z0f b0).rs)):InP (pool++[(z0f b0).at z]) R':=λb hb=>by
 rcases hR b hb with h1|⟨h1,h2⟩
 ·exact h.more _ b h1
 ·exact ⟨(z0f b0).at z,by simp,h1,h2⟩
abbrev qP:ByteArray:=ByteArray.mk #[113]
abbrev qqP:ByteArray:=ByteArray.mk #[113,113]
theorem zdd:z3o qP=true:=by kernel_rfl
theorem zwc:z3o qqP=true:=by kernel_rfl
theorem z05u:qP≠qqP:=λh=>by have:=congrArg ByteArray.size h;cases this
structure ApP (s:Int) (k:Nat) (D:DiskA) (R S:RefM) (pool:List BatM):Prop where
 rs:R.seg=s
 ss:S.seg=s
 c1:Cpl qP R.l D
 c2:Cpl qqP S.l D
 calm:Calm D
 room:D.room=1048576
 used:used D.fs<=705*k
 len:D.fs.length<=k
 in1:InP pool R
 in2:InP pool S
theorem ApP.left {s:Int} {k:Nat} {D D':DiskA} {R R' S:RefM} {pool:List BatM} {b0:BatM} {z:Sl} (h:ApP s k D R S pool) (hg:Grw qP D R'.l D') (h1:R'.seg=R.seg) (hR:∀ b ∈ R'.bs,b ∈ R.bs\/(b.x=z/\b.rs=(z0f b0).rs)):ApP s (k+1) D' R' S (pool++[(z0f b0).at z]) :=
 ⟨h1.trans h.rs,h.ss,hg.cpl,h.c2.frame hg.cpl.ok zdd zwc z05u hg.fr,hg.calm,hg.fr.room.trans h.room,by have:=hg.used;have:=h.used;omega,by have:=hg.len;have:=h.len;omega,h.in1.app hR,h.in2.more _⟩
theorem ApP.right {s:Int} {k:Nat} {D D':DiskA} {R S S':RefM} {pool:List BatM} {b0:BatM} {z:Sl} (h:ApP s k D R S pool) (hg:Grw qqP D S'.l D') (h1:S'.seg=S.seg) (hR:∀ b ∈ S'.bs,b ∈ S.bs\/(b.x=z/\b.rs=(z0f b0).rs)):ApP s (k+1) D' R S' (pool++[(z0f b0).at z]) :=
 ⟨h.rs,h1.trans h.ss,h.c1.frame hg.cpl.ok zwc zdd z05u.symm hg.fr,hg.cpl,hg.calm,hg.fr.room.trans h.room,by have:=hg.used;have:=h.used;omega,by have:=hg.len;have:=h.len;omega,h.in1.more _,h.in2.app hR⟩
theorem ApP.free {s:Int} {k:Nat} {D:DiskA} {R S:RefM} {pool:List BatM} (h:ApP s k D R S pool) (hk:k<=100):705<=D.free:=by
 have:=h.used
 have:=h.room
 unfold DiskA.free
 omega
def zrs (b:Bool):List Value:=[.bool b]
instance:Enc1 zrs .bool (λb=>b):=⟨λ_=>rfl⟩
instance:EncN zrs 1:=⟨λ_=>rfl,by decide,by simp [zrs,Value.oneCell']⟩
section
variable {w:World} {l r:List HP} {lg a:Nat} {A:LogA} {D:DiskA} {R:RefM}
theorem zy1 {r1:List HP} [hf:Fo l lgP lg A r1] [hf2:Fo r1 dk A.d D r] (hlen:A.l.length<=1000000000) (hok:z0b 0 A.l) (hs:Sat w l) :
  Ret P F.a143 #[.pointer (some ⟨lg,0,none⟩)] w λvs w'=>vs=[.int .i64 (z0j A.pre A.l D).1]/\Sat w' (lgP lg A::dk A.d (z0j A.pre A.l D).2::r):=by
 have hs:=hs.perm (hf.perm.trans (.cons _ hf2.perm))
 clear hf hf2
 obtain ⟨M,rfl,hs⟩:=z7o hs
 have hll:M.l.length=M.SM.length:=List.length_map ..
 have hMl:M.A.l=M.l:=rfl
 rw [hMl] at hlen hok
 have hs:Sat w (lgQ lg M::dk M.d D::r):=hs
 refine (zqe (lg:=lg) (M:=M) (D:=D) (by omega) hok hs).mono λvs w' h=>?_
 obtain ⟨h1,h2⟩:=h
 exact ⟨h1,z4d M h2⟩
structure FilI (s:Int) (k:Nat) (D:DiskA) (l:List SegA) (R:RefM) (pool:List BatM) (n:Nat) (C:Prop):Prop where
 cpl:Cpl qP l D
 syn:z8i qP l D n
 rseg:R.seg=4194304
 segs:z0b 0 R.l
 srl:R.SR.length<=k
 brl:R.bs.length<=k
 all:R.bs.map BatM.p=z06 l
 next:zt R.l=zt l
 rep:l=z9e s (z06 l)
 room:D.room=1048576
 used:used D.fs<=705*k
 len:D.fs.length<=k
 in1:InP pool R
 calm:C->Calm D
structure FilE (s:Int) (D:DiskA) (l:List SegA) (outs pool:List BatM) (n:Nat) (C:Prop):Prop where
 cpl:Cpl qP l D
 syn:z8i qP l D n
 told:outs.map BatM.p=z06 l\/(D.gone=true/\∃ b,outs.map BatM.p=z06 l++[b])
 rep:l=z9e s (z06 l)
 room:D.room=1048576
 used:used D.fs<=14805
 len:D.fs.length<=21
 num:outs.length<=21
 in1:∀ b ∈ outs,∃ c ∈ pool,b.x=c.x/\b.rs=c.rs
 calm:C->Calm D/\outs.map BatM.p=z06 l
theorem FilI.free {s:Int} {k n:Nat} {l:List SegA} {pool:List BatM} {C:Prop} (h:FilI s k D l R pool n C) (hk:k<=100):705<=D.free:=by
 have:=h.used
 have:=h.room
 unfold DiskA.free
 omega
theorem FilI.done {s:Int} {k n:Nat} {l:List SegA} {pool:List BatM} {C:Prop} (h:FilI s k D l R pool n C) (hk:k<=20):FilE s D l R.bs pool n C :=
 ⟨h.cpl,h.syn,.inl h.all,h.rep,h.room,by have:=h.used;omega,by have:=h.len;omega,by have:=h.brl;omega,h.in1,λc=>⟨h.calm c,h.all⟩⟩
theorem FilI.step {s:Int} {k n:Nat} {l:List SegA} {pool:List BatM} {C:Prop} {R':RefM} {b0:BatM} {z z':Sl} (h:FilI s k D l R pool n C) (hk:k<=100)
  (h1:(z0w qP s l D [(z0f b0).at z]).1=(z1f s l [(z0f b0).at z]).1) (h2:(z0w qP s l D [(z0f b0).at z]).2.1=(z1f s l [(z0f b0).at z]).2)
  (r1:R'.seg=R.seg) (r2:R'.l=(z1f R.seg R.l [(z0f b0).at z']).2) (r3:R'.SR.length<=R.SR.length+1) (r4:R'.bs.length<=R.bs.length+1) (r5:∀ b ∈ R'.bs,b ∈ R.bs\/(b.x=z'/\b.rs=(z0f b0).rs)) :
  FilI s (k+1) (z0w qP s l D [(z0f b0).at z]).2.2 (z0w qP s l D [(z0f b0).at z]).2.1 R' (pool++[(z0f b0).at z']) n C:=by
 have hst:=zeq s [(z0f b0).at z] zdd h.cpl
 have hsy:=h.syn.app (seg:=s) (bs:=[(z0f b0).at z]) zdd h.cpl
 have hsum:=zz4 (seg:=s) (l:=l) (bs:=[(z0f b0).at z])
 have hsm:=zmn b0 z (zt l)
 have hsl:=zhj (zt l) 0
 have hR:R'.bs.map BatM.p=z06 R'.l:=by rw [zfh]
 have hRR:R.bs.map BatM.p=z06 R.l:=by rw [zfh]
 have hrall:z06 R.l=z06 l:=hRR.symm.trans h.all
 have er:z1f R.seg R.l [(z0f b0).at z']=z1f R.seg R.l [(z0f b0).at z]:=zsn _ _ _ _ _
 rw [er] at r2
 have hsegR:z0b 0 R'.l:=by rw [r2];exact za0 h.segs
 have hallN:z06 R'.l=z06 (z1f s l [(z0f b0).at z]).2/\zt R'.l=zt (z1f s l [(z0f b0).at z]).2/\(z1f s l [(z0f b0).at z]).2=z9e s (z06 (z1f s l [(z0f b0).at z]).2):=by
  by_cases hp:(zw (zt l) [(z0f b0).at z]).1=0
  ·obtain ⟨g1,g2⟩:=zew (seg:=s) h.cpl.segs (by simp) hp
   obtain ⟨g3,g4⟩:=zew (seg:=R.seg) (bs:=[(z0f b0).at z]) h.segs (by simp) (by rw [h.next];exact hp)
   rw [h.next] at g3 g4
   rw [r2]
   refine ⟨by rw [g1,g3,hrall],by rw [g2,g4],?_⟩
   rw [g1,ziw _ _ hp]
   show _=z9e s (z06 l++[(((z0f b0).at z).to (zt l)).p])
   rw [zmp,<- h.rep,z03v]
  ·obtain ⟨g1,-⟩:=zex (seg:=s) (l:=l) (bs:=[(z0f b0).at z]) (.inr hp)
   obtain ⟨g3,-⟩:=zex (seg:=R.seg) (l:=R.l) (bs:=[(z0f b0).at z]) (.inr (by rw [h.next];exact hp))
   rw [r2,g1,g3]
   exact ⟨hrall,h.next,h.rep⟩
 rw [h2] at hst hsy ⊢
 have hu:=hst.2.2.1
 have hl:=hst.2.2.2.1
 have hll:(z1f s l [(z0f b0).at z]).2.length<=l.length+1:=by
  unfold z1f
  split
  ·simp
  split
  ·simp
  ·simp only
   split
   ·rename_i hr
    have hne:l≠[]:=by rintro rfl;cases hr
    obtain ⟨l0,t,rfl⟩:=z3d hne
    rw [z3s];simp
   ·simp
 have hlen2:(z0w qP s l D [(z0f b0).at z]).2.2.fs.length<=D.fs.length+1:=by
  unfold z0w
  split
  ·simp only;omega
  split
  ·simp only;omega
  split
  ·split <;> exact z7c.1
  ·obtain ⟨-,-,-,s4,-⟩:=z8c h.cpl
   split
   ·simp only;omega
   split
   ·simp only
    have:=(z7c (A:=(z0j qP l D).2) (n:=zl qP (zt l) zu) (bs:=shL (zt l) 0++(zw (zt l) [(z0f b0).at z]).2.flatMap frL)).1
    omega
   ·simp only
    have:=(z7c (A:=(z0j qP l D).2) (n:=zl qP (zt l) zu) (bs:=shL (zt l) 0++(zw (zt l) [(z0f b0).at z]).2.flatMap frL)).1
    omega
 exact ⟨hst.1,hsy,r1.trans h.rseg,hsegR,by have:=h.srl;omega,by have:=h.brl;omega,by rw [hR];exact hallN.1,hallN.2.1,hallN.2.2,hst.2.1.room.trans h.room,by have:=h.used;omega,by have:=h.len;omega,h.in1.app r5,λc=>hst.2.2.2.2 (h.calm c)⟩
theorem FilI.fail {s:Int} {k n:Nat} {l:List SegA} {pool:List BatM} {C:Prop} {R':RefM} {b0:BatM} {z z':Sl} (h:FilI s k D l R pool n C) (hk:k<20)
  (h1:(z0w qP s l D [(z0f b0).at z]).2.1=l) (h2:(z0w qP s l D [(z0f b0).at z]).2.2.gone=true)
  (r2:R'.l=(z1f R.seg R.l [(z0f b0).at z']).2) (r4:R'.bs.length<=R.bs.length+1) (r5:∀ b ∈ R'.bs,b ∈ R.bs\/(b.x=z'/\b.rs=(z0f b0).rs)) :
  FilE s (z0w qP s l D [(z0f b0).at z]).2.2 l R'.bs (pool++[(z0f b0).at z']) n C:=by
 have hst:=zeq s [(z0f b0).at z] zdd h.cpl
 have hsy:=h.syn.app (seg:=s) (bs:=[(z0f b0).at z]) zdd h.cpl
 rw [h1] at hst hsy
 have hR:R'.bs.map BatM.p=z06 R'.l:=by rw [zfh]
 have hRR:R.bs.map BatM.p=z06 R.l:=by rw [zfh]
 have hrall:z06 R.l=z06 l:=hRR.symm.trans h.all
 have hu:=hst.2.2.1
 have hl:=hst.2.2.2.1
 refine ⟨hst.1,hsy,?_,h.rep,hst.2.1.room.trans h.room,by have:=h.used;omega,by have:=h.len;omega,by have:=h.brl;omega,h.in1.app r5,λc=>?_⟩
 ·by_cases hp:(zw (zt R.l) [(z0f b0).at z']).1=0
  ·obtain ⟨g3,-⟩:=zew (seg:=R.seg) (bs:=[(z0f b0).at z']) h.segs (by simp) hp
   refine .inr ⟨h2,?_⟩
   rw [hR,r2,g3,ziw _ _ hp,hrall]
   exact ⟨_,rfl⟩
  ·obtain ⟨g3,-⟩:=zex (seg:=R.seg) (l:=R.l) (bs:=[(z0f b0).at z']) (.inr hp)
   refine .inl ?_
   rw [hR,r2,g3,hrall]
 ·have:=(hst.2.2.2.2 (h.calm c)).gone
  rw [this] at h2;cases h2
set_option maxHeartbeats 1000000 in
end
abbrev cP (b:BatM) (k:Nat) (q:Int) (z:Sl):Array Value:=#[.int .i64 (b.base+(k:Int)),.int .i64 b.pid,.int .i64 b.epoch,.int .i64 q,.int .i64 b.kind,.int .i64 b.time,.slice z.a z.len z.cap]
def InB (pool bs:List BatM):Prop:=∀ b ∈ bs,∃ c ∈ pool,b.x=c.x/\b.rs=c.rs
theorem InB.rd {pool bs:List BatM} {l:List HP} (h:InB pool bs):∀ b ∈ bs,FocR (z1j pool::l) b.x 4 (b.rs.flatMap z04):=λb hb=>by
 obtain ⟨c,hc,e1,e2⟩:=h b hb
 rw [e1,e2]
 exact zai hc
theorem InB.more {pool bs:List BatM} (h:InB pool bs) (q:List BatM):InB (pool++q) bs:=λb hb=>by
 obtain ⟨c,hc,e⟩:=h b hb
 exact ⟨c,List.mem_append_left _ hc,e⟩
theorem InB.app {pool a b:List BatM} (h1:InB pool a) (h2:InB pool b):InB pool (a++b):=λx hx=>by
 rcases List.mem_append.1 hx with hx|hx
 ·exact h1 x hx
 ·exact h2 x hx
section
variable {w:World} {l r:List HP} {lg:Nat} {A:LogA}
theorem zxz [hf:Fo l lgP lg A r] (hlen:A.l.length<=1000000000) (hs:Sat w l):Ret P F.a137 #[.pointer (some ⟨lg,0,none⟩)] w λvs w'=>vs=[.int .i64 (zt A.l)]/\Sat w' (lgP lg A::r):=by
 have hs:=hs.perm hf.perm
 clear hf
 obtain ⟨M,hM,hsn⟩:=z7o hs
 clear hs
 subst hM
 have hll:M.l.length=M.SM.length:=List.length_map ..
 have hMl:M.A.l=M.l:=rfl
 rw [hMl] at hlen
 refine (zat (lg:=lg) (M:=M) (by omega) hsn).mono λvs w' h=>?_
 obtain ⟨h1,h2⟩:=h
 exact ⟨h1,z4d M h2⟩
set_option maxHeartbeats 1000000 in
end
structure PartA where
 L:LogA
 most:Int
 T:TabA
 V:ViewA
def paP (p:Nat) (A:PartA):HP:=HP.ex λM:Nat × Nat × Nat=>HP.star (pt p (.cells #[.pointer (some ⟨M.1,0,none⟩),.pointer (some ⟨A.L.d,0,none⟩),.string A.L.pre,.int .i64 A.most,.pointer (some ⟨M.2.1,0,none⟩),.pointer (some ⟨M.2.2,0,none⟩)] T.a35))
 (HP.star (lgP M.1 A.L) (HP.star (tb M.2.1 A.T) (vw M.2.2 A.V)))
def z76 (A:PartA):Int:=if A.V.op.length=0 then zt A.L.l else max (z6i A.V) (z1b A.L.l)
section
variable {w:World} {l r r1 r2 r3 r4 l':List HP} {p lg t v:Nat} {A:PartA} {D:DiskA}
theorem z4x (hs:Sat w (paP p A::l)):∃ lg t v:Nat,Sat w (pt p (.cells #[.pointer (some ⟨lg,0,none⟩),.pointer (some ⟨A.L.d,0,none⟩),.string A.L.pre,.int .i64 A.most,.pointer (some ⟨t,0,none⟩),.pointer (some ⟨v,0,none⟩)] T.a35)::lgP lg A.L::tb t A.T::vw v A.V::l):=by
 obtain ⟨⟨lg,t,v⟩,hs⟩:=hs.ex
 have hs:=hs.star
 have hs:=(hs.pick [1]).star
 have hs:=(hs.pick [1]).star
 exact ⟨lg,t,v,hs.pick [3,2,0]⟩
theorem z08d (lg t v:Nat) (hs:Sat w (pt p (.cells #[.pointer (some ⟨lg,0,none⟩),.pointer (some ⟨A.L.d,0,none⟩),.string A.L.pre,.int .i64 A.most,.pointer (some ⟨t,0,none⟩),.pointer (some ⟨v,0,none⟩)] T.a35)::lgP lg A.L::tb t A.T::vw v A.V::l)):Sat w (paP p A::l):=by
 have h1:=(hs.pick [2,2]).star_mk
 have h2:=(h1.pick [2,0]).star_mk
 exact .ex_mk (lg,t,v) ((h2.pick [1]).star_mk)
theorem z2l (A:PartA) (hs:Sat w l) [h1:FocB l p (.cells [.pointer (some ⟨lg,0,none⟩),.pointer (some ⟨A.L.d,0,none⟩),.string A.L.pre,.int .i64 A.most,.pointer (some ⟨t,0,none⟩),.pointer (some ⟨v,0,none⟩)].toArray T.a35) r1] [h2:Fo r1 lgP lg A.L r2] [h3:Fo r2 tb t A.T r3] [h4:Fo r3 vw v A.V r4] [h5:Sub r4 l']:Sat w (paP p A::l'):=by
 have hs:=hs.perm (h1.perm.trans (.cons _ (h2.perm.trans (.cons _ (h3.perm.trans (.cons _ h4.perm))))))
 have hs:Sat w (paP p A::r4):=z08d lg t v hs
 exact hs.sub
theorem zqo [hf:Fo l paP p A r] (hlen:A.L.l.length<=1000000000) (hs:Sat w l):Ret P F.a103 #[.pointer (some ⟨p,0,none⟩)] w λvs w'=>vs=[.int .i64 (zt A.L.l)]/\Sat w' (paP p A::r) :=
 zmy _ <| by
  delta z00a AA Ac Ad Af Ai Aj An Ay
  obtain ⟨lg,t,v,hs⟩:=z4x (hs.perm hf.perm)
  refine zy ?_ (by simp)
  refine zg ?_
  refine za hs ?_
  refine z8 (zxz (lg:=lg) (A:=A.L) hlen hs) λ_ w' hs=>?_
  obtain ⟨rfl,hs⟩:=hs
  refine zb ?_
  refine wp_lt ?_
  exact ⟨rfl,rfl,z2l A hs⟩
theorem zlc [hf:Fo l paP p A r] (hs:Sat w l):Ret P F.a102 #[.pointer (some ⟨p,0,none⟩)] w λvs w'=>vs=[.int .i64 (z1b A.L.l)]/\Sat w' (paP p A::r) :=
 zmx _ <| by
  delta z009 AA Ac Ad Af Ai Aj An Ay
  obtain ⟨lg,t,v,hs⟩:=z4x (hs.perm hf.perm)
  refine zy ?_ (by simp)
  refine zg ?_
  refine za hs ?_
  obtain ⟨M,hM,hsl⟩:=z7o (hs.pick [1])
  refine z8 (zh0 (lg:=lg) hsl) λ_ w' hs=>?_
  obtain ⟨rfl,hs⟩:=hs
  refine zb ?_
  refine wp_lt ?_
  have hMl:M.l=A.L.l:=congrArg LogA.l hM
  have hs:=z4d M hs
  rw [hM] at hs
  rw [hMl]
  exact ⟨rfl,rfl,z2l A hs⟩
theorem zwb [hf:Fo l paP p A r] (hlen:A.L.l.length<=1000000000) (hs:Sat w l):Ret P F.a106 #[.pointer (some ⟨p,0,none⟩)] w λvs w'=>vs=[.int .i64 (z76 A)]/\Sat w' (paP p A::r) :=
 zn0 _ <| by
  delta z00c AA Ac Ad Af Ai Aj Ak Al An Ay;unfold z76
  obtain ⟨lg,t,v,hs⟩:=z4x (hs.perm hf.perm)
  refine zy ?_ (by simp)
  refine zg ?_
  refine za hs ?_
  refine z8 (z038 (v:=v) (A:=A.V) hs) λ_ w' hs=>?_
  obtain ⟨z,rfl,hs⟩:=hs
  refine zb ?_
  have hz:=hs.slen z (xs:=A.V.op) (enc:=z2r)
  refine ze (λh=>?_) λh=>?_
  ·have h0:A.V.op.length=0:=by simpa [hz] using h
   rw [if_pos h0]
   have hs:Sat w' (paP p A::r):=z2l A hs
   refine z8 (zqo (p:=p) (A:=A) hlen hs) λ_ w' hs=>?_
   obtain ⟨rfl,hs⟩:=hs
   refine zb ?_
   refine wp_lt ?_
   exact ⟨rfl,rfl,hs⟩
  ·have h0:¬ A.V.op.length=0:=by simpa [hz] using h
   rw [if_neg h0]
   refine zg ?_
   refine za hs ?_
   refine z8 (zij (v:=v) (A:=A.V) hs) λ_ w' hs=>?_
   obtain ⟨rfl,hs⟩:=hs
   refine zb ?_
   have hs:Sat w' (paP p A::r):=z2l A hs
   refine z8 (zlc (p:=p) (A:=A) hs) λ_ w' hs=>?_
   obtain ⟨rfl,hs⟩:=hs
   refine zb ?_
   refine wp_lt ?_
   refine ⟨rfl,?_,hs⟩
   have e:(if z1b A.L.l>z6i A.V then z1b A.L.l else z6i A.V)=max (z6i A.V) (z1b A.L.l):=by split <;> omega
   rw [e]
end
def zc6 (A:PartA) (b:BatM):VerA × Int:=if (z1v A.T b).2≠0\/(z1v A.T b).1.again=true then z1v A.T b else ((z1v A.T b).1,z84 A.V b)
def z4p (A:PartA) (b:BatM):PartA:=⟨A.L,A.most,(zjs A.T b).2,(zjr A.V b).2⟩
def PartA.log (A:PartA) (l:List SegA):PartA:=⟨A.L.set l,A.most,A.T,A.V⟩
def zrg (A:PartA) (D:DiskA) (c:BatM):(Int × Bool × Int) × PartA × DiskA :=
 if (z0w A.L.pre A.L.seg A.L.l D [c]).1.2≠0 then ((0,false,(z0w A.L.pre A.L.seg A.L.l D [c]).1.2),A.log (z0w A.L.pre A.L.seg A.L.l D [c]).2.1,(z0w A.L.pre A.L.seg A.L.l D [c]).2.2) else
 if (z0j A.L.pre (z0w A.L.pre A.L.seg A.L.l D [c]).2.1 (z0w A.L.pre A.L.seg A.L.l D [c]).2.2).1≠0 then ((0,false,(z0j A.L.pre (z0w A.L.pre A.L.seg A.L.l D [c]).2.1 (z0w A.L.pre A.L.seg A.L.l D [c]).2.2).1),A.log (z0w A.L.pre A.L.seg A.L.l D [c]).2.1,(z0j A.L.pre (z0w A.L.pre A.L.seg A.L.l D [c]).2.1 (z0w A.L.pre A.L.seg A.L.l D [c]).2.2).2) else
 (((z0w A.L.pre A.L.seg A.L.l D [c]).1.1,false,0),z4p (A.log (z0w A.L.pre A.L.seg A.L.l D [c]).2.1) (c.to (z0w A.L.pre A.L.seg A.L.l D [c]).1.1),(z0j A.L.pre (z0w A.L.pre A.L.seg A.L.l D [c]).2.1 (z0w A.L.pre A.L.seg A.L.l D [c]).2.2).2)
def z1i (A:PartA) (D:DiskA) (b:BatM):(Int × Bool × Int) × PartA × DiskA :=
 if (zc6 A (b.to (zt A.L.l))).2≠0\/(zc6 A (b.to (zt A.L.l))).1.again=true then (((zc6 A (b.to (zt A.L.l))).1.base,(zc6 A (b.to (zt A.L.l))).1.again,(zc6 A (b.to (zt A.L.l))).2),A,D)
 else zrg A D (b.to (zt A.L.l))
instance {n k:Int} {b:Bool}:IsR (.tup [.one (.int .i64),.one .bool,.one (.int .i64)]) [.int .i64 n,.bool b,.int .i64 k] (n,b,k,()):=⟨rfl⟩
section
variable {w:World} {l r r1 r2 r3 r4 l':List HP} {p lg t v:Nat} {A:PartA} {D:DiskA}
theorem zqs (b:BatM) [hf:Fo l paP p A r] [hb:FocR r b.x 4 (b.rs.flatMap z04)] (hs:Sat w l):Ret P F.a113 #[.pointer (some ⟨p,0,none⟩),.agg (zv b).toArray] w λvs w'=>vs=[]/\Sat w' (paP p (z4p A b)::r) :=
 zn5 _ b.base b.pid b.epoch b.seq b.kind b.time b.x <| by
  delta z00h AA AF AG AH AI Ad Aj An Av Ay
  obtain ⟨lg,t,v,hs⟩:=z4x (hs.perm hf.perm)
  refine zn hs λa0 w' hs=>?_
  refine zx hs λw' hs=>?_
  refine zg ?_
  refine za hs ?_
  refine zk hs ?_
  refine z8 (z04a (t:=t) (A:=A.T) b hs) λ_ _ hs=>?_
  obtain ⟨rfl,hs⟩:=hs
  refine zb ?_
  refine zd ?_
  refine zx hs λw' hs=>?_
  refine zg ?_
  refine za hs ?_
  refine zk hs ?_
  refine z8 (z039 (v:=v) (A:=A.V) b hs) λ_ _ hs=>?_
  obtain ⟨rfl,hs⟩:=hs
  refine zb ?_
  refine zd ?_
  exact ⟨rfl,rfl,z2l (lg:=lg) (t:=t) (v:=v) (z4p A b) hs⟩
theorem z03o (b:BatM) (hs:Sat w l):Ret P F.a116 #[.agg (zv b).toArray] w λvs w'=>vs=[.bool (z0i b)]/\Sat w' l :=
 zn8 b.base b.pid b.epoch b.seq b.kind b.time b.x <| by
  delta z00k AF AP AQ Ag An Av
  refine zn hs λa0 w' hs=>?_
  refine za hs ?_
  refine za hs ?_
  refine wp_lt ?_
  refine ⟨rfl,?_,hs.tail⟩
  unfold z0i
  rfl
theorem z05q (b:BatM) [hf:Fo l paP p A r] [hb:FocR r b.x 4 (b.rs.flatMap z04)] (hs:Sat w l):Ret P F.a107 #[.pointer (some ⟨p,0,none⟩),.agg (zv b).toArray] w λvs w'=>vs=[.agg (zfq (zc6 A b).1).toArray,.int .i64 (zc6 A b).2]/\Sat w' (paP p A::r) :=
 zn1 _ b.base b.pid b.epoch b.seq b.kind b.time b.x <| by
  delta z00d AA AF AG AH AI AL Ac Ad Af Ai Aj An Ao Ap Ar Av Ay Az B9 Bq Bs Bt;unfold zc6
  obtain ⟨lg,t,v,hs⟩:=z4x (hs.perm hf.perm)
  refine zn hs λa0 w' hs=>?_
  refine zq hs λa1 w' hs=>?_
  refine zf (λq w'=>∃ a:Nat,q=(⟨a,0,none⟩,(z1v A.T b).2,())/\Sat w' (pt a (.cells #[.bool (z1v A.T b).1.again,.int .i64 (z1v A.T b).1.base] T.a7)::pt a1 (.cells #[.bool false,.int .i64 0] T.a7)::pt a0 (.cells #[.int .i64 b.base,.int .i64 b.pid,.int .i64 b.epoch,.int .i64 b.seq,.int .i64 b.kind,.int .i64 b.time,.slice b.x.a b.x.len b.x.cap] T.a0)::paP p A::r)) ?_ ?_
  ·refine zx hs λw' hs=>?_
   refine zg ?_
   refine z18 hs ?_
   refine zgk hs ?_
   refine ⟨?_,?_⟩
   ·refine zd ?_
    refine z8 (zfd (t:=t) (A:=A.T) b hs) λ_ _ hs=>?_
    obtain ⟨rfl,hs⟩:=hs
    refine zb ?_
    refine zq hs λa15 w' hs=>?_
    refine zr hs λw' hs=>?_
    refine wp_lt ?_
    refine zd ?_
    have hs:Sat w' (pt a15 (.cells #[.bool (z1v A.T b).1.again,.int .i64 (z1v A.T b).1.base] T.a7)::_):=hs
    refine zj ⟨a15,rfl,?_⟩
    have hs:Sat w' (paP p A::pt a15 (.cells #[.bool (z1v A.T b).1.again,.int .i64 (z1v A.T b).1.base] T.a7)::pt a1 (.cells #[.bool false,.int .i64 0] T.a7)::pt a0 (.cells #[.int .i64 b.base,.int .i64 b.pid,.int .i64 b.epoch,.int .i64 b.seq,.int .i64 b.kind,.int .i64 b.time,.slice b.x.a b.x.len b.x.cap] T.a0)::r):=z2l (lg:=lg) (t:=t) (v:=v) A hs
    exact hs.pick [1,1,1,0]
   ·refine zq hs λa17 w' hs=>?_
    refine zd ?_
    refine z8 (zfd (t:=t) (A:=A.T) b hs) λ_ _ hs=>?_
    obtain ⟨rfl,hs⟩:=hs
    refine zb ?_
    refine zr hs λw' hs=>?_
    refine wp_lt ?_
    refine zd ?_
    refine zj ⟨a17,rfl,?_⟩
    have hs:Sat w' (paP p A::pt a17 (.cells #[.bool (z1v A.T b).1.again,.int .i64 (z1v A.T b).1.base] T.a7)::pt a1 (.cells #[.bool false,.int .i64 0] T.a7)::pt a0 (.cells #[.int .i64 b.base,.int .i64 b.pid,.int .i64 b.epoch,.int .i64 b.seq,.int .i64 b.kind,.int .i64 b.time,.slice b.x.a b.x.len b.x.cap] T.a0)::r):=z2l (lg:=lg) (t:=t) (v:=v) A hs
    exact hs.pick [1,1,1,0]
  clear hs
  rintro _ w ⟨a,rfl,hs⟩
  refine z39 _ _ ?_
  generalize z1v A.T b=j at *
  obtain ⟨v0,e⟩:=j
  simp only at hs ⊢
  refine za hs ?_
  refine ze (λh=>?_) λh=>?_
  ·rw [if_pos h]
   refine zk hs ?_
   refine zr hs λw' hs=>?_
   refine wp_lt ?_
   refine zk hs ?_
   exact ⟨rfl,rfl,hs.sub⟩
  rw [if_neg h]
  refine zf (λq w'=>q=(z84 A.V b,())/\Sat w' (pt a1 (.cells #[.bool v0.again,.int .i64 v0.base] T.a7)::paP p A::r)) ?_ ?_
  ·refine zx hs λw' hs=>?_
   refine zgk hs ?_
   obtain ⟨lg,t,v,hs⟩:=z4x (hs.pick [3])
   refine zg ?_
   refine za hs ?_
   refine zk hs ?_
   refine z8 (zvm (v:=v) (A:=A.V) b hs) λ_ w' hs=>?_
   obtain ⟨rfl,hs⟩:=hs
   refine zb ?_ (by first|trivial|(repeat (first|exact trivial|exact λ_=>z09 hs|exact λ_=>z0m hs|refine And.intro ?_ ?_)))
   refine zd ?_
   refine zr hs λw' hs=>?_
   refine wp_lt ?_
   refine zd ?_
   refine zj ⟨rfl,?_⟩
   have hs:Sat w' (paP p A::pt a1 (.cells #[.bool v0.again,.int .i64 v0.base] T.a7)::r):=z2l (lg:=lg) (t:=t) (v:=v) A hs
   exact hs.pick [1]
  clear hs
  rintro _ w ⟨rfl,hs⟩
  refine zm ?_
  refine zk hs ?_
  exact ⟨rfl,rfl,hs.sub⟩
theorem zxu (pre:ByteArray) (seg:Int) (l:List SegA) (D:DiskA) (bs:List BatM):(z0w pre seg l D bs).2.1.length<=l.length+1:=by
 unfold z0w
 split
 ·exact Nat.le_succ _
 split
 ·exact Nat.le_succ _
 split
 ·split
  ·exact Nat.le_succ _
  ·unfold z4t
   split <;> simp
 split
 ·exact Nat.le_succ _
 split
 ·exact Nat.le_succ _
 ·simp
set_option maxHeartbeats 1000000 in
theorem z05s (b:BatM) {r1:List HP} [hf:Fo l paP p A r1] [hf2:Fo r1 dk A.L.d D r] (hb:FocR r b.x 4 (b.rs.flatMap z04)) (hlen:A.L.l.length<=100000) (hok:z0b 0 A.L.l) (hfl:∀ s ∈ A.L.l,s.file.length<=500000000) (hr:b.rs.length<=1000000) (hs:Sat w l) :
  Ret P F.a111 #[.pointer (some ⟨p,0,none⟩),.agg (zv b).toArray] w λvs w'=>vs=[.int .i64 (z1i A D b).1.1,.bool (z1i A D b).1.2.1,.int .i64 (z1i A D b).1.2.2]/\Sat w' (paP p (z1i A D b).2.1::dk A.L.d (z1i A D b).2.2::r) :=
 zn3 _ b.base b.pid b.epoch b.seq b.kind b.time b.x <| by
  delta z00f AA AE AF AG AH AI AJ AL AP AU Ac Ad Ae Af Ag Ai Aj An Ao Ap Ar Av Ay Bq Br Bs Bt Bu Bv;unfold z1i
  have hs:=hs.perm (hf.perm.trans (.cons _ hf2.perm))
  clear hf hf2
  have hb':FocR r (b.to (zt A.L.l)).x 4 ((b.to (zt A.L.l)).rs.flatMap z04):=hb
  have hr':(b.to (zt A.L.l)).rs.length<=1000000:=hr
  refine zn hs λa0 w' hs=>?_
  refine z8 (zqo (p:=p) (A:=A) (by omega) hs) λ_ w' hs=>?_
  obtain ⟨rfl,hs⟩:=hs
  refine zb ?_
  refine z07 hs λw' hs=>?_
  have hs:Sat w' (pt a0 (.cells (zv (b.to (zt A.L.l))).toArray T.a0)::paP p A::dk A.L.d D::r):=hs
  generalize b.to (zt A.L.l)=c at *
  have hs:Sat w' (pt a0 (.cells #[.int .i64 c.base,.int .i64 c.pid,.int .i64 c.epoch,.int .i64 c.seq,.int .i64 c.kind,.int .i64 c.time,.slice c.x.a c.x.len c.x.cap] T.a0)::paP p A::dk A.L.d D::r):=hs
  refine zk hs ?_
  refine z8 (z05q (p:=p) (A:=A) c hs) λ_ w' hs=>?_
  obtain ⟨rfl,hs⟩:=hs
  refine zb ?_
  refine zq hs λa12 w' hs=>?_
  refine zr hs λw' hs=>?_
  refine wp_lt ?_
  refine za hs ?_
  refine ze (λh=>?_) λh=>?_
  ·rw [if_pos h]
   refine zx hs λw' hs=>?_
   refine za hs ?_
   refine za hs ?_
   refine wp_lt ?_
   refine wp_lt ?_
   refine wp_lt ?_
   refine zd ?_
   exact ⟨rfl,rfl,hs.sub⟩
  rw [if_neg h]
  have hs:Sat w' (pt a0 (.cells #[.int .i64 c.base,.int .i64 c.pid,.int .i64 c.epoch,.int .i64 c.seq,.int .i64 c.kind,.int .i64 c.time,.slice c.x.a c.x.len c.x.cap] T.a0)::paP p A::dk A.L.d D::r):=hs.sub
  unfold zrg
  have hlsg:=zvp (pre:=A.L.pre) (seg:=A.L.seg) (D:=D) (bs:=[c]) hok
  have hlln:=zxu A.L.pre A.L.seg A.L.l D [c]
  generalize hla:z0w A.L.pre A.L.seg A.L.l D [c]=la at *
  refine zf (λq w'=>q=(la.1.2,la.1.1,())/\Sat w' (pt a0 (.cells #[.int .i64 c.base,.int .i64 c.pid,.int .i64 c.epoch,.int .i64 c.seq,.int .i64 c.kind,.int .i64 c.time,.slice c.x.a c.x.len c.x.cap] T.a0)::paP p (A.log la.2.1)::dk A.L.d la.2.2::r)) ?_ ?_
  ·refine zx hs λw' hs=>?_
   obtain ⟨lg,t,v,hs⟩:=z4x (hs.pick [1])
   refine zg ?_
   refine z18 hs ?_
   refine zk hs ?_
   refine z6j hs (enc:=zv) [c] λy w' hs=>⟨(by first|trivial|(repeat (first|exact trivial|exact λ_=>z09 hs|exact λ_=>z0m hs|refine And.intro ?_ ?_))),?_⟩
   refine zd ?_
   refine z8 (z04p (lg:=lg) (A:=A.L) (D:=D) c y (by omega) hok hfl inferInstance inferInstance hs) λ_ w' hs=>?_
   obtain ⟨rfl,hs⟩:=hs
   rw [hla] at hs ⊢
   refine ⟨(la.1.1,la.1.2,()),rfl,trivial,z39 _ _ ?_⟩
   refine wp_lt ?_
   refine wp_lt ?_
   refine zd ?_
   refine zj ⟨rfl,?_⟩
   have hs:Sat w' (lgP lg (A.log la.2.1).L::_):=hs
   have hs:Sat w' (paP p (A.log la.2.1)::dk A.L.d la.2.2::pt a0 (.cells #[.int .i64 c.base,.int .i64 c.pid,.int .i64 c.epoch,.int .i64 c.seq,.int .i64 c.kind,.int .i64 c.time,.slice c.x.a c.x.len c.x.cap] T.a0)::r):=z2l (lg:=lg) (t:=t) (v:=v) (A.log la.2.1) hs
   exact hs.pick [2]
  clear hs
  rintro _ w ⟨rfl,hs⟩
  refine z39 _ _ ?_
  obtain ⟨⟨at_,e⟩,l',D'⟩:=la
  simp only at hs hlsg hlln ⊢
  refine zf (λq w'=>q=((if e≠0 then e else (z0j A.L.pre l' D').1),())/\Sat w' (pt a0 (.cells #[.int .i64 c.base,.int .i64 c.pid,.int .i64 c.epoch,.int .i64 c.seq,.int .i64 c.kind,.int .i64 c.time,.slice c.x.a c.x.len c.x.cap] T.a0)::paP p (A.log l')::dk A.L.d (if e≠0 then D' else (z0j A.L.pre l' D').2)::r)) ?_ ?_
  ·refine ze (λh1=>?_) λh1=>?_
   ·have hs:Sat w (paP p (A.log l')::pt a0 (.cells #[.int .i64 c.base,.int .i64 c.pid,.int .i64 c.epoch,.int .i64 c.seq,.int .i64 c.kind,.int .i64 c.time,.slice c.x.a c.x.len c.x.cap] T.a0)::dk (A.log l').L.d D'::r):=hs.pick [1]
    obtain ⟨lg,t,v,hs⟩:=z4x hs
    refine zg ?_
    refine za hs ?_
    refine z8 (zy1 (lg:=lg) (A:=(A.log l').L) (D:=D') (by show l'.length<=_;omega) hlsg hs) λ_ w' hs=>?_
    obtain ⟨rfl,hs⟩:=hs
    refine zb ?_
    refine wp_lt ?_
    refine zj ⟨?_,?_⟩
    ·rw [if_neg (by simpa using h1)];rfl
    ·rw [if_neg (by simpa using h1)]
     have hs:Sat w' (lgP lg (A.log l').L::dk A.L.d (z0j A.L.pre l' D').2::_):=hs
     have hs:Sat w' (paP p (A.log l')::dk A.L.d (z0j A.L.pre l' D').2::pt a0 (.cells #[.int .i64 c.base,.int .i64 c.pid,.int .i64 c.epoch,.int .i64 c.seq,.int .i64 c.kind,.int .i64 c.time,.slice c.x.a c.x.len c.x.cap] T.a0)::r):=z2l (lg:=lg) (t:=t) (v:=v) (A.log l') hs
     exact hs.pick [2]
   ·refine zj ⟨?_,?_⟩
    ·rw [if_pos (by simpa using h1)]
    ·rw [if_pos (by simpa using h1)];exact hs
  clear hs
  rintro _ w ⟨rfl,hs⟩
  refine zm ?_
  by_cases he:e≠0
  ·rw [if_pos he] at hs ⊢
   rw [if_pos he]
   refine z0c ?_ (by simpa using he)
   refine wp_lt ?_
   exact ⟨rfl,rfl,hs.sub⟩
  rw [if_neg he] at hs ⊢
  rw [if_neg he]
  refine ze (λh2=>?_) λh2=>?_
  ·rw [if_pos h2]
   refine wp_lt ?_
   exact ⟨rfl,rfl,hs.sub⟩
  rw [if_neg h2]
  refine z07 hs λw' hs=>?_
  refine zk hs ?_
  have hb2:FocR r (c.to at_).x 4 ((c.to at_).rs.flatMap z04):=hb'
  refine z8 (zqt (c.to at_) hr' hs) λ_ w' hs=>?_
  obtain ⟨z,rfl,hs⟩:=hs
  refine ⟨(at_,c.pid,c.epoch,c.seq,c.kind,c.time,z,()),rfl,trivial,zt1 _ _ _ _ _ _ _ ?_⟩
  have hb3:FocR (slc T.a2 4 z ((c.to at_).rs.flatMap z04)::dk A.L.d (z0j A.L.pre l' D').2::r) ((c.to at_).at z).x 4 (((c.to at_).at z).rs.flatMap z04):=(FocR.head:FocR (slc T.a2 4 z ((c.to at_).rs.flatMap z04)::_) z 4 ((c.to at_).rs.flatMap z04))
  have hs:Sat w' (paP p (A.log l')::slc T.a2 4 z ((c.to at_).rs.flatMap z04)::dk A.L.d (z0j A.L.pre l' D').2::r):=hs.sub
  refine z8 (zqs (p:=p) (A:=A.log l') ((c.to at_).at z) hs) λ_ w' hs=>?_
  obtain ⟨rfl,hs⟩:=hs
  refine zb ?_
  refine wp_lt ?_
  have hs:Sat w' (paP p (z4p (A.log l') (c.to at_))::_):=hs
  exact ⟨rfl,rfl,hs.sub⟩
theorem zw7 (b:BatM) {r1:List HP} [hf:Fo l paP p A r1] [hf2:Fo r1 dk A.L.d D r] (hb:FocR r b.x 4 (b.rs.flatMap z04)) (hlen:A.L.l.length<=100000) (hok:z0b 0 A.L.l) (hfl:∀ s ∈ A.L.l,s.file.length<=500000000) (hr:b.rs.length<=1000000) (hm:z0i b=false) (hs:Sat w l) :
  Ret P F.a99 #[.pointer (some ⟨p,0,none⟩),.agg (zv b).toArray] w λvs w'=>vs=[.int .i64 (z1i A D b).1.1,.bool (z1i A D b).1.2.1,.int .i64 (z1i A D b).1.2.2]/\Sat w' (paP p (z1i A D b).2.1::dk A.L.d (z1i A D b).2.2::r) :=
 zmv _ b.base b.pid b.epoch b.seq b.kind b.time b.x <| by
  delta z007 AF AH Ac Ad Af Ag Am An Av Ba
  have hs:=hs.perm (hf.perm.trans (.cons _ hf2.perm))
  clear hf hf2
  refine zn hs λa0 w' hs=>?_
  refine wp_lt ?_
  refine zy ?_ (by simp)
  refine zk hs ?_
  refine z8 (z03o b hs) λ_ w' hs=>?_
  obtain ⟨rfl,hs⟩:=hs
  refine zb ?_
  refine wp_lt ?_
  refine zy ?_ (by rw [hm];simp)
  refine zk hs ?_
  have hs:=hs.pick [1,1]
  refine z8 (z05s (p:=p) (A:=A) (D:=D) b inferInstance hlen hok hfl hr hs) λ_ w' hs=>?_
  obtain ⟨rfl,hs⟩:=hs
  refine zb ?_
  refine wp_lt ?_
  refine wp_lt ?_
  refine wp_lt ?_
  exact ⟨rfl,rfl,hs.sub⟩
end
def z38 (A:PartA) (c:Bool):Int->List BatM->List AtM × Int
 | n,[]=>([],n)
 | n,b::bs=>if c=true/\b.base>=z76 A then ([],n) else ((if c=false\/z6o A.V b=1 then z1x b else [])++(z38 A c (z1r b) bs).1,(z38 A c (z1r b) bs).2)
def z3a (A:PartA) (off most:Int) (c:Bool):(List AtM × Int) × Int:=if (z5d A.L.l off most).1≠0 then (([],0),(z5d A.L.l off most).1) else (z38 A c off (z5d A.L.l off most).2,0)
theorem zqm (A:PartA) (c:Bool):∀ (bs:List BatM) (n:Int),z38 A c n (bs.map BatM.p)=z38 A c n bs
 | [],n=>rfl
 | b::bs,n=>by
  have ih:=zqm A c bs (z1r b)
  show (if c=true/\b.base>=z76 A then (([]:List AtM),n) else ((if c=false\/z6o A.V b=1 then z1x b else [])++(z38 A c (z1r b) (bs.map BatM.p)).1,(z38 A c (z1r b) (bs.map BatM.p)).2))=_
  rw [ih]
  rfl
theorem zw8 {A:PartA} {c:Bool} {n:Int} {b:BatM} {bs:List BatM} (h:c=true/\b.base>=z76 A):z38 A c n (b::bs)=([],n):=if_pos h
theorem z03n {A:PartA} {c:Bool} {n:Int} {b:BatM} {bs:List BatM} (h:¬ (c=true/\b.base>=z76 A)):z38 A c n (b::bs)=((if c=false\/z6o A.V b=1 then z1x b else [])++(z38 A c (z1r b) bs).1,(z38 A c (z1r b) bs).2):=if_neg h
theorem zwe (l:List SegA) (off most:Int):(z5d l off most).2.length<=(z06 l).length:=by
 unfold z5d
 split
 ·exact Nat.zero_le _
 split
 ·exact Nat.zero_le _
 ·simp only [List.length_take]
  exact Nat.le_trans (Nat.min_le_right _ _) (List.length_filterMap_le ..)
theorem zyq {l:List SegA} {off most:Int} {b:BatM} (hok:z0b 0 l) (h:b ∈ (z5d l off most).2):b.rs.length<=64:=by
 unfold z5d at h
 split at h
 ·cases h
 split at h
 ·cases h
 ·obtain ⟨c,hc,hf⟩:=List.mem_filterMap.1 (List.mem_of_mem_take h)
  have hv:=((zd7 (Int.le_refl 0) hok).valid c hc).1
  have h64:=(z2v hv).1
  unfold z0q at hf
  split at hf
  ·cases hf
  split at hf
  ·cases hf;exact h64
  ·cases hf
   show (c.rs.drop _).length<=64
   rw [List.length_drop];omega
section
variable {w:World} {l r:List HP} {p:Nat} {A:PartA} {D:DiskA}
set_option maxHeartbeats 1000000 in
theorem z03r (off most:Int) (c:Bool) (ho : -9223372036854775808<=off/\off<9223372036854775808) (hmo:most<9223372036854775808) {r1:List HP} [hf:Fo l paP p A r1] [hf2:Fo r1 dk A.L.d D r] (hok:z0b 0 A.L.l) (hhas:zjw A.L.pre A.L.l D) (hlen:A.L.l.length<=1000000) (hall:(z06 A.L.l).length<=1000000) (hs:Sat w l) :
  Ret P F.a104 #[.pointer (some ⟨p,0,none⟩),.int .i64 off,.int .i64 most,.bool c] w λvs w'=>∃ z:Sl,vs=[z.v,.int .i64 (z3a A off most c).1.2,.int .i64 (z3a A off most c).2]/\Sat w' (slc T.a36 5 z ((z3a A off most c).1.1.flatMap z0a)::paP p A::dk A.L.d D::r) :=
 zmz _ off most c <| by
  delta z00b AA AE AF AG AH AI AN AV AW AX AY AZ Ac Ad Af Ah Ai Aj Ak Al An Ao Aq Ar Ay;unfold z3a
  have hs:=hs.perm (hf.perm.trans (.cons _ hf2.perm))
  clear hf hf2
  obtain ⟨lg,t,v,hs⟩:=z4x hs
  refine zy ?_ (by simp)
  refine zg ?_
  refine za hs ?_
  refine z8 (zqd (lg:=lg) (A:=A.L) (D:=D) off most ho hmo hok hhas hlen hall hs) λ_ w' hs=>?_
  obtain ⟨y,outs,rfl,hmap,hs⟩:=hs
  refine ⟨(y,(z5d A.L.l off most).1,()),rfl,trivial,z39 _ _ ?_⟩
  have hs:Sat w' (slc T.a0 7 y (outs.flatMap zv)::z1j outs::paP p A::dk A.L.d D::r):=by
   have hs:Sat w' (paP p A::slc T.a0 7 y (outs.flatMap zv)::z1j outs::dk A.L.d D::r):=z2l (lg:=lg) (t:=t) (v:=v) A hs
   exact hs.pick [1,1]
  refine wp_lt ?_
  refine ze (λh=>?_) λh=>?_
  ·rw [if_pos h]
   refine wp_lt ?_
   have hs:Sat w' (slc T.a36 5 ⟨none,0,0⟩ (([]:List AtM).flatMap z0a)::_):=hs.slc_nil
   exact ⟨rfl,⟨none,0,0⟩,rfl,hs.sub⟩
  rw [if_neg h,<- hmap,zqm]
  have hol:outs.length<=1000000:=by
   have:=congrArg List.length hmap
   rw [List.length_map] at this
   rw [this]
   exact Nat.le_trans (zwe _ _ _) hall
  have hov:∀ b ∈ outs,b.rs.length<=64:=λb hb=>by
   have h1:b.p ∈ (z5d A.L.l off most).2:=by rw [<- hmap];exact List.mem_map.2 ⟨b,hb,rfl⟩
   have h2:=zyq hok h1
   exact h2
  have hly:=hs.slen y (xs:=outs) (enc:=zv)
  refine wp_lt ?_
  refine zf (λq w'=>∃ z:Sl,q=(z,(z38 A c off outs).2,())/\Sat w' (slc T.a36 5 z ((z38 A c off outs).1.flatMap z0a)::paP p A::dk A.L.d D::r)) ?_ ?_
  rotate_left
  ·rintro _ w2 ⟨z,rfl,hs⟩
   refine z39 _ _ ?_
   refine wp_lt ?_
   exact ⟨rfl,z,rfl,hs⟩
  have hs:Sat w' (slc T.a36 5 ⟨none,0,0⟩ (([]:List AtM).flatMap z0a)::slc T.a0 7 y (outs.flatMap zv)::z1j outs::paP p A::dk A.L.d D::r):=hs.slc_nil
  refine z03 (λm q w=>∃ (i:Nat) (z:Sl) (n:Int) (done:List AtM),q=(z,n,(i:Int),())/\i<=outs.length/\outs.length-i=m/\done.length<=64*i /\
   z38 A c off outs=(done++(z38 A c n (outs.drop i)).1,(z38 A c n (outs.drop i)).2) /\
   Sat w (slc T.a36 5 z (done.flatMap z0a)::slc T.a0 7 y (outs.flatMap zv)::z1j outs::paP p A::dk A.L.d D::r)) outs.length
   ⟨0,⟨none,0,0⟩,off,[],rfl,by omega,rfl,by simp,by simp,hs⟩ ?_
  clear hs
  rintro m _ w ⟨i,z,n,done,rfl,hi,hm,hdl,hq,hs⟩
  refine zjt _ _ _ ?_
  refine ze (λhc=>?_) λhc=>?_
  rotate_left
  ·have e:outs.drop i=[]:=List.drop_eq_nil_of_le (by omega)
   rw [e] at hq
   have hq:z38 A c off outs=(done++[],n):=hq
   rw [List.append_nil] at hq
   refine zh (zj ⟨z,by rw [hq],?_⟩)
   rw [hq]
   exact hs.sub
  have hil:i<outs.length:=by omega
  have hdrop:outs.drop i=outs[i]::outs.drop (i+1):=List.drop_eq_getElem_cons hil
  rw [hdrop] at hq
  have hrl:outs[i].rs.length<=64:=hov _ (List.getElem_mem hil)
  generalize hb:outs[i]=b at *
  have hbm:b ∈ outs:=by rw [<- hb];exact List.getElem_mem hil
  refine z4l hs i hil ?_
  rw [hb]
  refine zq hs λa w' hs=>?_
  refine zr hs λw' hs=>?_
  have hbr:FocR (z1j outs::paP p A::dk A.L.d D::r) b.x 4 (b.rs.flatMap z04):=zai hbm
  have hs:Sat w' (pt a (.cells #[.int .i64 b.base,.int .i64 b.pid,.int .i64 b.epoch,.int .i64 b.seq,.int .i64 b.kind,.int .i64 b.time,.slice b.x.a b.x.len b.x.cap] T.a0)::slc T.a36 5 z (done.flatMap z0a)::slc T.a0 7 y (outs.flatMap zv)::z1j outs::paP p A::dk A.L.d D::r):=hs
  refine zf (λq w'=>q=(decide (c=true/\b.base>=z76 A),())/\Sat w' (pt a (.cells #[.int .i64 b.base,.int .i64 b.pid,.int .i64 b.epoch,.int .i64 b.seq,.int .i64 b.kind,.int .i64 b.time,.slice b.x.a b.x.len b.x.cap] T.a0)::slc T.a36 5 z (done.flatMap z0a)::slc T.a0 7 y (outs.flatMap zv)::z1j outs::paP p A::dk A.L.d D::r)) ?_ ?_
  ·refine zx hs λw' hs=>?_
   refine z18 hs ?_
   cases c with
   | false =>
    refine zy ?_ (by simp)
    refine zd ?_
    exact zj ⟨by simp,hs⟩
   | true =>
    refine z0c ?_ (by simp)
    refine z8 (zwb (p:=p) (A:=A) (by omega) hs) λ_ w' hs=>?_
    obtain ⟨rfl,hs⟩:=hs
    refine zb ?_ (by first|trivial|(repeat (first|exact trivial|exact λ_=>z09 hs|exact λ_=>z0m hs|refine And.intro ?_ ?_)))
    refine zd ?_
    exact zj ⟨by simp,hs.pick [1,1,1,1]⟩
  clear hs
  rintro _ w ⟨rfl,hs⟩
  refine zm ?_
  by_cases hstop:c=true/\b.base>=z76 A
  ·refine z0c ?_ (by simpa using hstop)
   have hq:z38 A c off outs=(done++[],n):=by
    rw [hq,zw8 hstop]
   rw [List.append_nil] at hq
   refine zh (zj ⟨z,by rw [hq],?_⟩)
   rw [hq]
   exact hs.sub
  refine zy ?_ (by simpa using hstop)
  have hq:z38 A c off outs=(done++((if c=false\/z6o A.V b=1 then z1x b else [])++(z38 A c (z1r b) (outs.drop (i+1))).1),(z38 A c (z1r b) (outs.drop (i+1))).2):=by
   rw [hq,z03n hstop]
  refine zf (λq w'=>q=(decide (c=false\/z6o A.V b=1),())/\Sat w' (pt a (.cells #[.int .i64 b.base,.int .i64 b.pid,.int .i64 b.epoch,.int .i64 b.seq,.int .i64 b.kind,.int .i64 b.time,.slice b.x.a b.x.len b.x.cap] T.a0)::slc T.a36 5 z (done.flatMap z0a)::slc T.a0 7 y (outs.flatMap zv)::z1j outs::paP p A::dk A.L.d D::r)) ?_ ?_
  ·refine zx hs λw' hs=>?_
   obtain ⟨lg,t,v,hs⟩:=z4x (hs.pick [4])
   refine z0k ?_
   refine za hs ?_
   refine zk hs ?_
   cases c with
   | false =>
    refine z0c ?_ (by simp)
    refine zd ?_
    refine zj ⟨by simp,?_⟩
    have hs:Sat w' (paP p A::pt a (.cells #[.int .i64 b.base,.int .i64 b.pid,.int .i64 b.epoch,.int .i64 b.seq,.int .i64 b.kind,.int .i64 b.time,.slice b.x.a b.x.len b.x.cap] T.a0)::slc T.a36 5 z (done.flatMap z0a)::slc T.a0 7 y (outs.flatMap zv)::z1j outs::dk A.L.d D::r):=z2l (lg:=lg) (t:=t) (v:=v) A hs
    exact hs.pick [1,1,1,1]
   | true =>
    refine zy ?_ (by simp)
    refine z8 (z037 (v:=v) (A:=A.V) b hs) λ_ w' hs=>?_
    obtain ⟨rfl,hs⟩:=hs
    refine zb ?_
    refine zd ?_
    refine zj ⟨?_,?_⟩
    ·have:(z6o A.V b == 1)=decide (true=false\/z6o A.V b=1):=by rw [Bool.eq_iff_iff];simp
     rw [this]
    have hs:Sat w' (paP p A::pt a (.cells #[.int .i64 b.base,.int .i64 b.pid,.int .i64 b.epoch,.int .i64 b.seq,.int .i64 b.kind,.int .i64 b.time,.slice b.x.a b.x.len b.x.cap] T.a0)::slc T.a36 5 z (done.flatMap z0a)::slc T.a0 7 y (outs.flatMap zv)::z1j outs::dk A.L.d D::r):=z2l (lg:=lg) (t:=t) (v:=v) A hs
    exact hs.pick [1,1,1,1]
  clear hs
  rintro _ w ⟨rfl,hs⟩
  refine zm ?_
  have hfl:=zcj b
  refine zf (λq w'=>∃ z':Sl,q=(z',())/\Sat w' (pt a (.cells #[.int .i64 b.base,.int .i64 b.pid,.int .i64 b.epoch,.int .i64 b.seq,.int .i64 b.kind,.int .i64 b.time,.slice b.x.a b.x.len b.x.cap] T.a0)::slc T.a36 5 z' ((done++(if c=false\/z6o A.V b=1 then z1x b else [])).flatMap z0a)::slc T.a0 7 y (outs.flatMap zv)::z1j outs::paP p A::dk A.L.d D::r)) ?_ ?_
  ·by_cases hd:c=false\/z6o A.V b=1
   ·refine z0c ?_ (by simpa using hd)
    rw [if_pos hd]
    refine zk hs ?_
    refine zdk hs (enc:=zv) [b] λx1 w' hs=>?_
    refine z8 (zvg x1 [b] (λb' hb'=>by rw [List.mem_singleton.1 hb'];infer_instance) (by simp) (λb' hb'=>by rw [List.mem_singleton.1 hb'];omega) hs) λ_ w' hs=>?_
    obtain ⟨z2,rfl,hs⟩:=hs
    refine zb ?_
    have e:z3y [b]=z1x b:=by simp [z3y]
    rw [e] at hs
    refine wp_app' (xs:=done) (ys:=z1x b) (enc:=z0a) hs (λz3 w' hs=>?_) (by omega)
    refine zj ⟨z3,rfl,?_⟩
    exact hs.sub
   ·refine zy ?_ (by simpa using hd)
    rw [if_neg hd,List.append_nil]
    exact zj ⟨z,rfl,hs⟩
  clear hs
  rintro _ w ⟨z',rfl,hs⟩
  refine zm ?_
  refine zk hs ?_
  refine z8 (z90 b hs) λ_ w' hs=>?_
  obtain ⟨rfl,hs⟩:=hs
  refine zb ?_
  refine wp_lt ?_
  refine z2z (us':=[z'.v,.int .i64 (z1r b),.int .i64 ((i+1:Nat):Int)]) (by (try simp (disch:=omega) only [w64]);first|rfl|(congr;omega)) ?_
  refine z11 (outs.length-(i+1)) ⟨i+1,z',z1r b,done++(if c=false\/z6o A.V b=1 then z1x b else []),rfl,by omega,rfl,?_,?_,hs.sub⟩
  ·rw [List.length_append]
   split
   ·omega
   ·simp only [List.length_nil];omega
  ·rw [hq,List.append_assoc]
end
section
variable {w:World} {l r:List HP}
theorem z031 (x:Sl) (bs:List UInt8) [hx:FocR l x 1 (bs.flatMap zi)] (hcap:x.len<=x.cap) (hn:bs.length<=1000000000) (hs:Sat w l) :
  Ret P F.a52 #[x.v] w λvs w'=>∃ z:Sl,vs=[z.v,.bool (zjl bs).isSome]/\Sat w' (slc T.a52 1 z (((zjl bs).getD []).flatMap zi)::l) :=
 zu2 x <| by
  delta z07f Af Ag Ai Al An Cb
  have hl:=hs.slen x (xs:=bs) (enc:=zi)
  refine z8 (zb6 x bs hcap hn hs) λ_ _ hs=>?_
  obtain ⟨z,rfl,hs⟩:=hs
  refine zb ?_
  refine wp_lt ?_
  refine wp_lt ?_
  unfold zjl
  cases hf:z0x bs with
  | none =>
   refine z0c ?_ (by simp)
   exact ⟨rfl,⟨none,0,0⟩,rfl,(hs.tail).slc_nil⟩
  | some q =>
   obtain ⟨body,n⟩:=q
   rw [hf] at hs
   dsimp only
   refine ze (λh=>?_) λh=>?_
   ·rw [if_neg (by simp at h;omega)]
    exact ⟨rfl,⟨none,0,0⟩,rfl,(hs.tail).slc_nil⟩
   ·rw [if_pos (by simp at h;omega)]
    exact ⟨rfl,z,rfl,hs⟩
end
def zdh (pre:ByteArray):ByteArray:=pre++ByteArray.mk #[46,115,110,97,112]
def zdj (pre:ByteArray):ByteArray:=pre++ByteArray.mk #[46,116,109,112]
def z6q (L:LogA) (most:Int):PartA:=⟨L,most,⟨most,0,[]⟩,⟨0,[],[]⟩⟩
def z5m (L:LogA) (most:Int):PartA:=(z06 L.l).foldl z4p (z6q L most)
theorem z065 (A:PartA) (b:BatM):z4p A b.p=z4p A b:=rfl
theorem zr4:∀ (bs:List BatM) (A:PartA),(bs.map BatM.p).foldl z4p A=bs.foldl z4p A
 | [],A=>rfl
 | b::bs,A=>by
  rw [List.map_cons,List.foldl_cons,List.foldl_cons,z065]
  exact zr4 bs _
section
variable {w:World} {l r:List HP} {p d lg t v:Nat} {A:PartA} {D:DiskA} {c1 c2 c3 c4 c5:Value}
theorem z03t (pre:ByteArray) (hp:pre.size<=100) [hf:FocB l p (.cells [c1,c2,.string pre,c3,c4,c5].toArray T.a35) r] (hs:Sat w l):Ret P F.a112 #[.pointer (some ⟨p,0,none⟩)] w λvs w'=>vs=[.string (zdh pre)]/\Sat w' l :=
 zn4 _ <| by
  delta z00g AA AC Ab An
  refine zg ?_
  refine za hs ?_
  refine wp_must (by omega) ?_
  refine wp_lt ?_
  exact ⟨rfl,rfl,hs⟩
theorem zqq (pre:ByteArray) (hp:pre.size<=100) [hf:FocB l p (.cells [c1,c2,.string pre,c3,c4,c5].toArray T.a35) r] (hs:Sat w l):Ret P F.a114 #[.pointer (some ⟨p,0,none⟩)] w λvs w'=>vs=[.string (zdj pre)]/\Sat w' l :=
 zn6 _ <| by
  delta z00i AA AC Ab An
  refine zg ?_
  refine za hs ?_
  refine wp_must (by omega) ?_
  refine wp_lt ?_
  exact ⟨rfl,rfl,hs⟩
theorem z03m (n:ByteArray) (hno:∀ f ∈ D.fs,f.name≠n) [hf:Fo l dk d D r] (hs:Sat w l):Ret P F.a115 #[.pointer (some ⟨d,0,none⟩),.string n] w λvs w'=>vs=[.bool false]/\Sat w' (dk d D::r) :=
 zn7 _ n <| by
  delta z00j AV Ad Af Ag An
  refine z8 (zg9 (d:=d) (A:=D) n hs) λ_ w' h=>?_
  rcases h with ⟨f,hf1,hf2,-⟩|⟨-,rfl,hs⟩
  ·exact absurd hf2 (hno f hf1)
  refine ⟨(⟨none,0,0⟩,3,()),rfl,trivial,z39 _ _ ?_⟩
  refine wp_lt ?_
  refine wp_lt ?_
  exact ⟨rfl,rfl,hs⟩
theorem zyh (pre:ByteArray) (most:Int) (hp:pre.size<=100) (hm:1<=most/\most<=4096) (hno:∀ f ∈ D.fs,f.name≠zdh pre) (hs:Sat w (pt p (.cells #[c1,.pointer (some ⟨d,0,none⟩),.string pre,.int .i64 most,c2,c3] T.a35)::dk d D::r)) :
  Ret P F.a110 #[.pointer (some ⟨p,0,none⟩)] w λvs w'=>vs=[.int .i64 0]/\∃ t v:Nat,Sat w' (pt p (.cells #[c1,.pointer (some ⟨d,0,none⟩),.string pre,.int .i64 most,.pointer (some ⟨t,0,none⟩),.pointer (some ⟨v,0,none⟩)] T.a35)::tb t ⟨most,0,[]⟩::vw v ⟨0,[],[]⟩::dk d D::r) :=
 zn2 _ <| by
  delta z00e AA AE AG AI AJ AL AP AV AZ Aa Ab Ac Ad Af Ag Ah Ai Aj An Aq Aw Ax Bh Bi Bj
  refine zg ?_
  refine za hs ?_
  refine z8 (z066 most hs) λ_ w' h=>?_
  rcases h with ⟨-,-,t,rfl,hs⟩|⟨h,-⟩
  rotate_left
  ·omega
  refine ⟨(some ⟨t,0,none⟩,0,()),rfl,trivial,z39 _ _ ?_⟩
  refine zg ?_
  refine z07 hs λw' hs=>?_
  refine z8 (z069 hs) λ_ w' hs=>?_
  obtain ⟨v,rfl,hs⟩:=hs
  refine zb ?_
  refine zg ?_
  refine z07 hs λw' hs=>?_
  refine zf (λq w'=>q=(⟨none,0,0⟩,())/\Sat w' (pt p (.cells #[c1,.pointer (some ⟨d,0,none⟩),.string pre,.int .i64 most,.pointer (some ⟨t,0,none⟩),.pointer (some ⟨v,0,none⟩)] T.a35)::tb t ⟨most,0,[]⟩::vw v ⟨0,[],[]⟩::dk d D::r)) ?_ ?_
  ·refine zx hs λw' hs=>?_
   refine zg ?_
   refine z18 hs ?_
   refine z8 (z03t (p:=p) pre hp hs) λ_ w' hs=>?_
   obtain ⟨rfl,hs⟩:=hs
   refine zb ?_ (by first|trivial|(repeat (first|exact trivial|exact λ_=>z09 hs|exact λ_=>z0m hs|refine And.intro ?_ ?_)))
   refine zd ?_
   refine z8 (zg9 (d:=d) (A:=D) (zdh pre) hs) λ_ w' h=>?_
   rcases h with ⟨f,hf1,hf2,-⟩|⟨-,rfl,hs⟩
   ·exact absurd hf2 (hno f hf1)
   refine ⟨(⟨none,0,0⟩,3,()),rfl,trivial,z39 _ _ ?_⟩
   refine wp_lt ?_
   refine zd ?_
   refine zj ⟨rfl,?_⟩
   exact hs.sub
  clear hs
  rintro _ w ⟨rfl,hs⟩
  refine zm ?_
  have hs:Sat w (slc T.a52 1 ⟨none,0,0⟩ (([]:List UInt8).flatMap zi)::_):=hs.slc_nil
  refine z8 (z031 ⟨none,0,0⟩ [] (Nat.le_refl _) (Nat.zero_le _) hs) λ_ w' hs=>?_
  obtain ⟨z,rfl,hs⟩:=hs
  have e:(zjl []).isSome=false:=by kernel_rfl
  rw [e]
  refine ⟨(z,false,()),rfl,trivial,z39 _ _ ?_⟩
  refine wp_lt ?_
  refine z0c ?_ (by simp)
  exact ⟨rfl,rfl,t,v,hs.tail.tail⟩
theorem zxl {fs:List FileA} {n:ByteArray} (hno:∀ f ∈ fs,f.name≠n):(z8t fs n).1=0:=by rw [z8t,zci hno]
set_option maxHeartbeats 1000000 in
theorem zyi (pre:ByteArray) (seg gap most:Int) (hp:z3o pre=true) (hc:zdb seg gap) (hm:1<=most/\most<=1024) (hg:D.gone=false) (S:List SegA) (D':DiskA) (ho:z4f pre D=(0,S,D')) (hno:∀ f ∈ D'.fs,f.name≠zdh pre/\f.name≠zdj pre)
  (hok:z0b 0 S) (hhas:zjw pre S D') (hlen:S.length<=1000000) (hall:(z06 S).length<=1000000) [hf:Fo l dk d D r] (hs:Sat w l) :
  Ret P F.a98 #[.pointer (some ⟨d,0,none⟩),.string pre,.agg #[.int .i64 seg,.int .i64 gap,.int .i64 most]] w λvs w'=>∃ p:Nat,vs=[.pointer (some ⟨p,0,none⟩),.int .i64 0]/\Sat w' (paP p (z5m ⟨d,pre,seg,gap,S⟩ most)::dk d D'::r) :=
 zmu _ pre seg gap most <| by
  delta z006 AF AH AK AN AP AQ AR AS AT AU Aa Ac Ad Af Ah Ai Aj Ak Al Am An Ao Aq Ar Au Av Aw Az
  have hs:=hs.perm hf.perm
  clear hf
  have hps:pre.size<=100:=by
   unfold z3o at hp
   rw [Bool.and_eq_true,decide_eq_true_eq] at hp
   omega
  refine zn hs λa0 w' hs=>?_
  refine za hs ?_
  refine za hs ?_
  refine zy ?_ (by simp;omega)
  refine zm6 hs (seg,gap,()) ?_
  refine z8 (z03h (d:=d) (D:=D) pre seg gap hp hc hg hs) λ_ w' hs=>?_
  rw [ho] at hs
  rcases hs with ⟨he,-,-⟩|⟨-,lg,rfl,hs⟩
  ·exact absurd rfl he
  refine ⟨(some ⟨lg,0,none⟩,0,()),rfl,trivial,z39 _ _ ?_⟩
  refine wp_lt ?_
  refine zy ?_ (by simp)
  refine za hs ?_
  refine zn hs λa10 w' hs=>?_
  have hs:Sat w' (pt a10 (.cells #[.pointer (some ⟨lg,0,none⟩),.pointer (some ⟨d,0,none⟩),.string pre,.int .i64 most,.pointer none,.pointer none] T.a35)::dk d D'::lgP lg ⟨d,pre,seg,gap,S⟩::r):=hs.sub
  refine zf (λq w'=>q=(false,())/\Sat w' (pt a10 (.cells #[.pointer (some ⟨lg,0,none⟩),.pointer (some ⟨d,0,none⟩),.string pre,.int .i64 most,.pointer none,.pointer none] T.a35)::dk d D'::lgP lg ⟨d,pre,seg,gap,S⟩::r)) ?_ ?_
  ·refine z8 (zqq (p:=a10) pre hps hs) λ_ w' hs=>?_
   obtain ⟨rfl,hs⟩:=hs
   refine zb ?_
   refine z8 (z063 (d:=d) (A:=D') (zdj pre) hs) λ_ w' hs=>?_
   obtain ⟨rfl,hs⟩:=hs
   refine zb ?_
   rw [zxl λf hf=>(hno f hf).2]
   refine zy ?_ (by simp)
   refine z8 (zqq (p:=a10) pre hps hs) λ_ w' hs=>?_
   obtain ⟨rfl,hs⟩:=hs
   refine zb ?_
   refine z8 (z03m (d:=d) (D:=D') (zdj pre) (λf hf=>(hno f hf).2) hs) λ_ w' hs=>?_
   obtain ⟨rfl,hs⟩:=hs
   refine zb ?_
   exact zj ⟨rfl,hs.sub⟩
  clear hs
  rintro _ w ⟨rfl,hs⟩
  refine zm ?_
  refine zf (λq w'=>Sat w' (pt a10 (.cells #[.pointer (some ⟨lg,0,none⟩),.pointer (some ⟨d,0,none⟩),.string pre,.int .i64 most,.pointer none,.pointer none] T.a35)::dk d D'::lgP lg ⟨d,pre,seg,gap,S⟩::r)) ?_ ?_
  ·refine zy ?_ (by simp)
   exact zj hs
  clear hs
  rintro _ w hs
  refine zm ?_
  refine z8 (zyh (p:=a10) (d:=d) (D:=D') pre most hps (by omega) (λf hf=>(hno f hf).1) hs) λ_ w' hs=>?_
  obtain ⟨rfl,t,v,hs⟩:=hs
  refine zb ?_
  refine wp_lt ?_
  refine z8 (zvo (lg:=lg) (A:=⟨d,pre,seg,gap,S⟩) (D:=D') hok hhas hlen hall hs) λ_ w' hs=>?_
  obtain ⟨y,outs,rfl,hmap,hs⟩:=hs
  refine zb ?_
  have hmap:outs.map BatM.p=z06 S:=hmap
  have hs:Sat w' (paP a10 (z6q ⟨d,pre,seg,gap,S⟩ most)::slc T.a0 7 y (outs.flatMap zv)::z1j outs::dk d D'::r):=by
   have hs:Sat w' (slc T.a0 7 y (outs.flatMap zv)::z1j outs::lgP lg (z6q ⟨d,pre,seg,gap,S⟩ most).L::dk d D'::pt a10 (.cells #[.pointer (some ⟨lg,0,none⟩),.pointer (some ⟨(z6q ⟨d,pre,seg,gap,S⟩ most).L.d,0,none⟩),.string (z6q ⟨d,pre,seg,gap,S⟩ most).L.pre,.int .i64 (z6q ⟨d,pre,seg,gap,S⟩ most).most,.pointer (some ⟨t,0,none⟩),.pointer (some ⟨v,0,none⟩)] T.a35)::tb t (z6q ⟨d,pre,seg,gap,S⟩ most).T::vw v (z6q ⟨d,pre,seg,gap,S⟩ most).V::r):=hs
   exact z2l (lg:=lg) (t:=t) (v:=v) (z6q ⟨d,pre,seg,gap,S⟩ most) hs
  have hlo:=congrArg List.length hmap
  rw [List.length_map] at hlo
  have hly:=hs.slen y (xs:=outs) (enc:=zv)
  have hov:∀ b ∈ outs,0<=b.base:=λb hb=>by
   have h1:b.p ∈ z06 S:=by rw [<- hmap];exact List.mem_map.2 ⟨b,hb,rfl⟩
   have hv:z05 b=0:=((zd7 (Int.le_refl 0) hok).valid _ h1).1
   exact (z16 b hv).2.2.1.2.1.1
  have hop:z5m ⟨d,pre,seg,gap,S⟩ most=outs.foldl z4p (z6q ⟨d,pre,seg,gap,S⟩ most):=by
   unfold z5m
   show (z06 S).foldl z4p _=_
   rw [<- hmap,zr4]
  rw [hop]
  generalize z6q ⟨d,pre,seg,gap,S⟩ most=A0 at *
  refine zf (λq w'=>Sat w' (paP a10 (outs.foldl z4p A0)::dk d D'::r)) ?_ ?_
  rotate_left
  ·rintro _ w2 hs
   refine zm ?_
   exact ⟨rfl,a10,rfl,hs⟩
  refine z03 (λm q w=>∃ i:Nat,q=((i:Int),())/\i<=outs.length/\outs.length-i=m/\Sat w (paP a10 ((outs.take i).foldl z4p A0)::slc T.a0 7 y (outs.flatMap zv)::z1j outs::dk d D'::r)) outs.length ⟨0,rfl,by omega,rfl,hs⟩ ?_
  clear hs
  rintro m _ w ⟨i,rfl,hi,hm2,hs⟩
  refine zm ?_
  refine ze (λhc2=>?_) λhc2=>?_
  rotate_left
  ·rw [List.take_of_length_le (by omega)] at hs
   refine zh (zj ?_)
   exact hs.sub
  have hil:i<outs.length:=by omega
  have hb0:=hov _ (List.getElem_mem hil)
  have hbr:FocR (z1j outs::dk d D'::r) outs[i].x 4 (outs[i].rs.flatMap z04):=zai (List.getElem_mem hil)
  have htk:outs.take (i+1)=outs.take i++[outs[i]]:=by rw [List.take_add_one,List.getElem?_eq_getElem hil,Option.toList_some]
  refine z4l hs i hil ?_
  refine zq hs λa33 w' hs=>?_
  refine zr hs λw' hs=>?_
  refine za hs ?_
  refine zf (λq w'=>Sat w' (paP a10 ((outs.take (i+1)).foldl z4p A0)::slc T.a0 7 y (outs.flatMap zv)::z1j outs::dk d D'::r)) ?_ ?_
  ·refine z0c ?_ (by simpa using hb0)
   refine zk hs ?_
   refine z8 (zqs (p:=a10) (A:=(outs.take i).foldl z4p A0) outs[i] hs) λ_ w' hs=>?_
   obtain ⟨rfl,hs⟩:=hs
   refine zb ?_
   refine zj ?_
   rw [htk,List.foldl_append,List.foldl_cons,List.foldl_nil]
   exact hs.sub
  clear hs
  rintro _ w hs
  refine zm ?_
  refine z2z (us':=[.int .i64 ((i+1:Nat):Int)]) (by (try simp (disch:=omega) only [w64]);first|rfl|(congr;omega)) ?_
  exact z11 (outs.length-(i+1)) ⟨i+1,rfl,by omega,rfl,hs⟩
end
theorem z000 (A:PartA) (D:DiskA) (b:BatM):(z1i A D b).2.1.L.d=A.L.d/\(z1i A D b).2.1.L.pre=A.L.pre/\(z1i A D b).2.1.L.seg=A.L.seg/\(z1i A D b).2.1.L.gap=A.L.gap/\(z1i A D b).2.1.most=A.most:=by
 unfold z1i
 split
 ·exact ⟨rfl,rfl,rfl,rfl,rfl⟩
 unfold zrg
 split
 ·exact ⟨rfl,rfl,rfl,rfl,rfl⟩
 split
 ·exact ⟨rfl,rfl,rfl,rfl,rfl⟩
 ·exact ⟨rfl,rfl,rfl,rfl,rfl⟩
theorem z03u {A:PartA} {D:DiskA} (b:BatM) (hp:z3o A.L.pre=true) (h:Cpl A.L.pre A.L.l D):Cpl A.L.pre (z1i A D b).2.1.L.l (z1i A D b).2.2:=by
 unfold z1i
 split
 ·exact h
 have h1:=(zeq A.L.seg [b.to (zt A.L.l)] hp h).1
 unfold zrg
 split
 ·exact h1
 split
 ·exact (z8c h1).1
 ·exact (z8c h1).1
section
variable {w:World} {l r:List HP} {p d:Nat} {A:PartA} {D:DiskA}
theorem z05o (b:BatM) {r1:List HP} [hf:Fo l paP p A r1] [hf2:Fo r1 dk A.L.d D r] (hb:FocR r b.x 4 (b.rs.flatMap z04)) (h:Cpl A.L.pre A.L.l D) (hr:b.rs.length<=1000000) (hm:z0i b=false) (hs:Sat w l) :
  Ret P F.a99 #[.pointer (some ⟨p,0,none⟩),.agg (zv b).toArray] w λvs w'=>vs=[.int .i64 (z1i A D b).1.1,.bool (z1i A D b).1.2.1,.int .i64 (z1i A D b).1.2.2]/\Sat w' (paP p (z1i A D b).2.1::dk A.L.d (z1i A D b).2.2::r):=by
 obtain ⟨h1,h2,h3⟩:=h.len
 exact zw7 b hb (by omega) h.segs (λs hs=>by have:=h3 s hs;omega) hr hm hs
theorem z03s (off most:Int) (c:Bool) (ho : -9223372036854775808<=off/\off<9223372036854775808) (hmo:most<9223372036854775808) {r1:List HP} [hf:Fo l paP p A r1] [hf2:Fo r1 dk A.L.d D r] (h:Cpl A.L.pre A.L.l D) (hs:Sat w l) :
  Ret P F.a104 #[.pointer (some ⟨p,0,none⟩),.int .i64 off,.int .i64 most,.bool c] w λvs w'=>∃ z:Sl,vs=[z.v,.int .i64 (z3a A off most c).1.2,.int .i64 (z3a A off most c).2]/\Sat w' (slc T.a36 5 z ((z3a A off most c).1.1.flatMap z0a)::paP p A::dk A.L.d D::r):=by
 obtain ⟨h1,h2,h3⟩:=h.len
 exact z03r off most c ho hmo h.segs h.has (by omega) (by omega) hs
theorem z03p (pre:ByteArray) (seg gap most:Int) (hp:z3o pre=true) (hc:zdb seg gap) (hm:1<=most/\most<=1024) (hg:D.gone=false) {S:List SegA} (h:Cpl pre S D) (hno:∀ f ∈ D.fs,f.name≠zdh pre/\f.name≠zdj pre) [hf:Fo l dk d D r] (hs:Sat w l) :
  Ret P F.a98 #[.pointer (some ⟨d,0,none⟩),.string pre,.agg #[.int .i64 seg,.int .i64 gap,.int .i64 most]] w λvs w'=>∃ p:Nat,vs=[.pointer (some ⟨p,0,none⟩),.int .i64 0]/\Sat w' (paP p (z5m ⟨d,pre,seg,gap,S⟩ most)::dk d D::r):=by
 obtain ⟨h1,h2,h3⟩:=h.len
 exact zyi pre seg gap most hp hc hm hg S D h.opened hno h.segs h.has (by omega) (by omega) hs
end
def kR:List RecM:=[⟨ByteArray.mk #[107],ByteArray.mk #[],false,0⟩]
def kB (x:Sl):BatM:=⟨0,3,0,0,1,0,x,kR⟩
def kA (d:Nat):PartA:=z6q ⟨d,aP,100,9,[]⟩ 4
def kD:DiskA:=⟨10000,-1,false,[]⟩
theorem k1 (d:Nat) (x:Sl):(z1i (kA d) kD (kB x)).1=(0,false,0):=by kernel_rfl
section
variable {d:Nat} {x:Sl} {S U:PartA × DiskA}
theorem k2 (h:S=(z1i (kA d) kD (kB x)).2):z1i S.1 S.2 (kB x)=((0,true,0),S):=by subst h;kernel_rfl
theorem k3 (h:S=(z1i (kA d) kD (kB x)).2):z3a S.1 0 9 true=(([],0),0):=by subst h;kernel_rfl
theorem k4 (h:S=(z1i (kA d) kD (kB x)).2):((z3a S.1 0 9 false).1.1.length,(z3a S.1 0 9 false).1.2,(z3a S.1 0 9 false).2)=(1,1,0):=by subst h;kernel_rfl
end
section
variable {w:World} {l r:List HP} {p d a:Nat} {A:PartA} {D:DiskA} {R:RefM}
theorem zsi {r1:List HP} [hf:Fo l paP p A r1] [hf2:Fo r1 dk A.L.d D r] (h:Cpl A.L.pre A.L.l D) (hs:Sat w l) :
  Ret P F.a100 #[.pointer (some ⟨p,0,none⟩)] w λvs w'=>∃ (z:Sl) (outs:List BatM),vs=[z.v]/\outs.map BatM.p=z06 A.L.l/\Sat w' (slc T.a0 7 z (outs.flatMap zv)::z1j outs::paP p A::dk A.L.d D::r) :=
 zmw _ <| by
  delta z008 AA Ad Ai Ak An Ay
  obtain ⟨h1,h2,h3⟩:=h.len
  obtain ⟨lg,t,v,hs⟩:=z4x (hs.perm (hf.perm.trans (.cons _ hf2.perm)))
  refine zy ?_ (by simp)
  refine zg ?_
  refine za hs ?_
  refine z8 (zvo (lg:=lg) (A:=A.L) (D:=D) h.segs h.has (by omega) (by omega) hs) λ_ w' hs=>?_
  obtain ⟨z,outs,rfl,hm,hs⟩:=hs
  refine zb ?_
  have hs:Sat w' (paP p A::slc T.a0 7 z (outs.flatMap zv)::z1j outs::dk A.L.d D::r):=z2l (lg:=lg) (t:=t) (v:=v) A hs
  exact ⟨rfl,z,outs,rfl,hm,hs.pick [1,1]⟩
end
structure TbC where
 next:Int
 l:List AtM
def z0s (l:List AtM) (k:ByteArray):Nat:=(l.filter λa=>ltS a.r.key k).length
def z3i (l:List AtM) (k:ByteArray):Bool:=(l[z0s l k]?).any λa=>decide (a.r.key=k)
def z29 (T:TbC) (r:AtM):TbC:=⟨r.off+1,if z3i T.l r.r.key=true then (if r.r.gone=true then T.l.take (z0s T.l r.r.key)++T.l.drop (z0s T.l r.r.key+1) else T.l.set (z0s T.l r.r.key) r) else if r.r.gone=true then T.l else T.l.take (z0s T.l r.r.key)++r::T.l.drop (z0s T.l r.r.key)⟩
def z20:Int->List AtM->Bool
 | _,[]=>true
 | f,a::l=>if a.off<f then false else z20 (a.off+1) l
def z8u (l:List AtM):Prop:=l.Pairwise λa b=>ltS a.r.key b.r.key=true
def zda (xs:List AtM):Bool:=xs.getLast?.any λa=>decide (a.off>1099511627776)
def z7d (T:TbC) (xs:List AtM):Int × TbC:=if z20 T.next xs=false\/zda xs=true then (8,T) else (0,xs.foldl z29 T)
def z2s (l:List AtM) (k:ByteArray):Option AtM:=if z3i l k=true then l[z0s l k]? else none
theorem z034 (l:List AtM) (k:ByteArray):z0s l k<=l.length:=List.length_filter_le ..
theorem zxn {l:List AtM} {k:ByteArray} {i:Nat} (hs:z8u l) (hi:i<=l.length) (h1:∀ (h:i-1<l.length),0<i->ltS l[i-1].r.key k=true) (h2:∀ h:i<l.length,ltS l[i].r.key k=false):z0s l k=i:=by
 unfold z0s
 rw [zgc (p:=λa=>ltS a.r.key k) hi (hs.imp λ{a b} hab hb=>z72 hab hb) h1 h2,List.length_take]
 omega
theorem zb9:∀ {l:List AtM} {k:ByteArray},z8u l->(∀ a ∈ l.take (z0s l k),ltS a.r.key k=true)/\∀ a ∈ l.drop (z0s l k),ltS a.r.key k=false
 | [],k,_=>⟨λa h=>by simp at h,λa h=>by simp at h⟩
 | a::l,k,hs=>by
  obtain ⟨h1,h2⟩:=List.pairwise_cons.1 hs
  obtain ⟨i1,i2⟩:=zb9 (l:=l) (k:=k) h2
  by_cases h:ltS a.r.key k=true
  ·have e:z0s (a::l) k=z0s l k+1:=by unfold z0s;rw [List.filter_cons_of_pos (by simpa using h),List.length_cons]
   rw [e,List.take_succ_cons,List.drop_succ_cons]
   refine ⟨λb hb=>?_,i2⟩
   rcases List.mem_cons.1 hb with rfl|hb
   ·exact h
   ·exact i1 b hb
  ·have h0:∀ b ∈ a::l,ltS b.r.key k=false:=λb hb=>by
    rcases List.mem_cons.1 hb with rfl|hb
    ·simpa using h
    ·cases hk:ltS b.r.key k with
     | false=>rfl
     | true=>exact absurd (z72 (h1 b hb) hk) h
   have e:z0s (a::l) k=0:=by
    unfold z0s
    rw [List.filter_eq_nil_iff.2 λb hb=>by simp [h0 b hb]];rfl
   rw [e]
   exact ⟨λb hb=>by simp at hb,λb hb=>h0 b (by simpa using hb)⟩
theorem za4 {l:List AtM} {k:ByteArray}:z3i l k=true↔∃ h:z0s l k<l.length,l[z0s l k].r.key=k:=by
 unfold z3i
 by_cases h:z0s l k<l.length
 ·rw [List.getElem?_eq_getElem h];simp [h]
 ·rw [List.getElem?_eq_none (by omega)];simp [h]
theorem z033 {l:List AtM} {k:ByteArray} (hs:z8u l) (ht:z3i l k=false):∀ a ∈ l.drop (z0s l k),ltS k a.r.key=true:=λa ha=>by
 have h1:=(zb9 (k:=k) hs).2
 have hd:(l.drop (z0s l k)).Pairwise λa b=>ltS a.r.key b.r.key=true:=hs.sublist (List.drop_sublist ..)
 have hnt:¬ ∃ h:z0s l k<l.length,l[z0s l k].r.key=k:=λh=>by rw [za4.2 h] at ht;cases ht
 by_cases hl:z0s l k<l.length
 ·rw [List.drop_eq_getElem_cons hl] at ha hd h1
  have h0:ltS k l[z0s l k].r.key=true:=by
   rcases zim k l[z0s l k].r.key with h|h|h
   ·exact h
   ·exact absurd ⟨hl,h.symm⟩ hnt
   ·rw [h1 _ (List.mem_cons_self ..)] at h;cases h
  rcases List.mem_cons.1 ha with rfl|ha
  ·exact h0
  ·exact z72 h0 ((List.pairwise_cons.1 hd).1 a ha)
 ·rw [List.drop_eq_nil_of_le (by omega)] at ha;cases ha
theorem zz1 {T:TbC} (r:AtM) (hs:z8u T.l):z8u (z29 T r).l:=by
 unfold z29
 split
 ·rename_i ht
  obtain ⟨hi,hk⟩:=za4.1 ht
  split
  ·rw [<- List.eraseIdx_eq_take_drop_succ]
   exact hs.sublist (List.eraseIdx_sublist ..)
  ·have e:(T.l.set (z0s T.l r.r.key) r).map (λa=>a.r.key)=T.l.map λa=>a.r.key:=by
    rw [List.map_set]
    apply List.ext_getElem (by simp)
    intro j h1 h2
    rw [List.getElem_set]
    split
    ·rename_i e;subst e;simp [hk]
    ·rfl
   have h1:(T.l.map λa=>a.r.key).Pairwise λa b=>ltS a b=true:=by rw [List.pairwise_map];exact hs
   rw [<- e,List.pairwise_map] at h1
   exact h1
 ·rename_i ht
  have ht:z3i T.l r.r.key=false:=by simpa using ht
  split
  ·exact hs
  ·have hg:=z033 hs ht
   obtain ⟨h1,-⟩:=zb9 (k:=r.r.key) hs
   refine List.pairwise_append.2 ⟨hs.sublist (List.take_sublist ..),List.pairwise_cons.2 ⟨hg,hs.sublist (List.drop_sublist ..)⟩,λa ha b hb=>?_⟩
   rcases List.mem_cons.1 hb with rfl|hb
   ·exact h1 a ha
   ·exact z72 (h1 a ha) (hg b hb)
theorem zqy (T:TbC) (r:AtM):(z29 T r).l.length<=T.l.length+1:=by
 unfold z29
 have:=z034 T.l r.r.key
 split
 ·split
  ·simp only [List.length_append,List.length_take,List.length_drop];omega
  ·simp
 ·split
  ·exact Nat.le_succ _
  ·simp only [List.length_append,List.length_cons,List.length_take,List.length_drop];omega
theorem zls:∀ (xs:List AtM) (T:TbC),(xs.foldl z29 T).l.length<=T.l.length+xs.length
 | [],T=>Nat.le_refl _
 | x::xs,T=>by
  have h1:=zls xs (z29 T x)
  have h2:=zqy T x
  rw [List.foldl_cons,List.length_cons];omega
instance {b:Nat}:AddrIs ((Addr.add ⟨b,0,none⟩ 1).add 1) b 2:=⟨rfl⟩
instance {b:Nat}:AddrIs ((Addr.add ⟨b,0,none⟩ 1).add 2) b 3:=⟨rfl⟩
section
variable {P:Program} {w:World} {l r:List HP} {Q:Post} {S:World->Prop} {T:TypeId} {sz:Nat} {x y:Sl} {cs ds:List Value}
theorem Sat.slc_pre {n:Nat} (hs:Sat w (slc T sz x cs::l)) (hn:n<=x.len):Sat w (slc T sz ⟨x.a,n,x.cap⟩ (cs.take (n*sz))::l):=by
 refine hs.imp λp hp=>?_
 rcases hp with ⟨h1,h2,h3,rfl⟩|⟨b,off,arr,fr,ha,hb,hlen,hle,hsz,hc,hf⟩
 ·exact .inl ⟨h1,by dsimp only;omega,h3,by simp⟩
 ·have hnl:n*sz<=x.len*sz:=Nat.mul_le_mul_right _ hn
  refine .inr ⟨b,off,arr,fr,ha,hb,?_,by dsimp only;omega,hsz,λi hi=>?_,hf⟩
  ·rw [List.length_take,hlen];dsimp only;omega
  ·rw [List.length_take] at hi
   rw [hc i (by omega),List.getElem?_take,if_pos (by omega)]
theorem zwl {b off o:Nat} {vs:List Value} (hs:Sat w (slc T sz x cs::l)) (ha:x.a=some ⟨b,off,none⟩) (ho:o+vs.length<=x.cap*sz) (h1:∀ v ∈ vs,v.oneCell'=true) :
  ∃ w',(storeCells ⟨b,off+o,none⟩ vs).run P w=.ok () w'/\(cs.length<=o->Sat w' (slc T sz x cs::l))/\(o+vs.length<=cs.length->Sat w' (slc T sz x (cs.take o++vs++cs.drop (o+vs.length))::l)):=by
 obtain ⟨p1,p2,q1,q2,hd,hA,hl⟩:=hs
 rcases hA with ⟨ha',_,_,_⟩|⟨b',off',arr,fr,ha',hb,hlen,hle,hsz,hcs,hf⟩
 ·rw [ha] at ha';cases ha'
 rw [ha] at ha'
 obtain ⟨rfl,rfl⟩:b=b'/\off=off':=by cases ha';exact ⟨rfl,rfl⟩
 have hbw:w.heap[b]? = some (.cells arr T fr):=q1 b _ hb
 have hset:Sat w (pt b (.cells arr T fr)::l):=⟨p1,p2,q1,q2,hd,hb,hl⟩
 refine ⟨_,z7w (P:=P) vs (off:=off+o) (i:=0) hbw (by omega) (λi h1 h2=>hf i (by omega) (by omega)) h1,λh=>?_,λh=>?_⟩
 ·refine hset.set.imp λp hp=>.inr ⟨b,off,_,fr,ha,hp,hlen,hle,by rw [z48];exact hsz,λi hi=>?_,hf⟩
  rw [getElem?_putCells vs (by omega),if_neg (by omega),hcs i hi]
 ·refine hset.set.imp λp hp=>.inr ⟨b,off,_,fr,ha,hp,?_,hle,by rw [z48];exact hsz,λi hi=>?_,hf⟩
  ·rw [List.length_append,List.length_append,List.length_take,List.length_drop];omega
  ·rw [List.length_append,List.length_append,List.length_take,List.length_drop] at hi
   rw [getElem?_putCells vs (by omega)]
   by_cases h2:i<o
   ·rw [if_neg (by omega),hcs i (by omega),List.getElem?_append_left (by simp;omega),List.getElem?_append_left (by simp;omega),List.getElem?_take,if_pos h2]
   by_cases h3:i<o+vs.length
   ·rw [if_pos (by omega),List.getElem?_append_left (by simp;omega),List.getElem?_append_right (by simp;omega),List.length_take]
    congr 1;omega
   ·rw [if_neg (by omega),hcs i (by omega),List.getElem?_append_right (by simp;omega),List.getElem?_drop,List.length_append,List.length_take]
    congr 1;omega
theorem zx7 {t tx ty:TypeId} {i:TypeInfo} (ht:P.underlying t=some (.slice T)) (hi:P.info? T=some i)
  (hs:Sat w (slc T i.size x cs::l)) {v:Value} {n:Nat} (hsrc:Src P i.size tx v n ds w) (hroom:x.len+n<=x.cap) :
  ∃ w',(app t tx ty x.v v).run P w=.ok (Sl.mk x.a (x.len+n) x.cap).v w'/\Sat w' (slc T i.size ⟨x.a,x.len+n,x.cap⟩ (cs++ds)::l):=by
 have hs':=hs
 obtain ⟨p1,p2,h1,h2,hd,hA,hl⟩:=hs
 rcases hA with ⟨ha,hl0,hc0,rfl⟩|⟨b,off,arr,fr,ha,hb,hlen,hle,hsz,hcs,hf⟩
 ·have hn0:n=0:=by omega
  subst hn0
  have hds:ds=[]:=List.length_eq_zero_iff.1 (by rw [hsrc.newsLen,Nat.zero_mul])
  subst hds
  obtain ⟨a,ln,cp⟩:=x
  simp only at ha hl0 hc0
  subst ha hl0 hc0
  refine ⟨w,?_,hs'⟩
  rcases hsrc.kind with ⟨e',hk⟩|hk <;>
   simp [app,Builtin.append_,run_underlying ht,run_underlying hk,sizeOf,typeInfo,hi,hsrc.len,hsrc.cells]
 ·have hbw:w.heap[b]? = some (.cells arr T fr):=h1 b _ hb
  obtain ⟨a,ln,cp⟩:=x
  simp only at ha hlen hle hsz hf hroom
  subst ha
  have hfit:off+ln*i.size+ds.length<=arr.size:=by
   rw [hsrc.newsLen,Nat.add_assoc,<- Nat.add_mul]
   exact Nat.le_trans (Nat.add_le_add_left (Nat.mul_le_mul_right _ hroom) _) hsz
  have hrun:=run_append_room_src (P:=P) w t tx ty T i ht hi b off ln cp v n ds hsrc hroom
   (λj hj=>by rw [z4u hbw];simp;omega)
   (λj hj=>by
    have h3:ln*i.size+ds.length<=cp*i.size:=by rw [hsrc.newsLen,<- Nat.add_mul];exact Nat.mul_le_mul_right _ hroom
    have:=hf (off+ln*i.size+j) (by omega) (by omega)
    simp only [World.frozen?,hbw]
    simpa using this)
  rw [zae ds hbw] at hrun
  refine ⟨_,hrun,?_⟩
  have hset:Sat w (pt b (.cells arr T fr)::l):=⟨p1,p2,h1,h2,hd,hb,hl⟩
  refine hset.set.imp λp hp=>.inr ⟨b,off,_,fr,rfl,hp,?_,hroom,?_,λj hj=>?_,hf⟩
  ·rw [List.length_append,hlen,hsrc.newsLen,Nat.add_mul]
  ·rw [z48];exact hsz
  ·rw [List.length_append,hlen] at hj
   rw [getElem?_putCells ds hfit]
   by_cases hjl:j<ln*i.size
   ·rw [if_neg (by omega),hcs j (by omega),List.getElem?_append_left (by omega)]
   ·rw [if_pos (by omega),List.getElem?_append_right (by omega),hlen]
    congr 1;omega
theorem z04f {α:Type} {enc:α->List Value} {xs ys:List α} {tx ty el el':TypeId} {t:TypeId} {bytes sz' bytes':Nat} {k:Sl->Prog} (hs:Sat w (slc el sz x (xs.flatMap enc)::r)) [ht:SlT P t el sz bytes] [htx:SlT P tx el' sz' bytes'] (hy:Rd w sz y (ys.flatMap enc)) [hE:EncN enc sz]
  (hroom:x.len+y.len<=x.cap) (h:∀ w',Sat w' (slc el sz ⟨x.a,x.len+y.len,x.cap⟩ ((xs++ys).flatMap enc)::r)->(k ⟨x.a,x.len+y.len,x.cap⟩).wp P S w' Q) (hS:∀ w',S w':=by exact λ_=>trivial) :
  (Prog.act (app t tx ty (.slice x.a x.len x.cap) (.slice y.a y.len y.cap)) sL (u1 k)).wp P S w Q:=by
 obtain ⟨i,z,hi,rfl,rfl,hz,hzs⟩:=ht.parts
 obtain ⟨w',hrun,hs'⟩:=zx7 (ty:=ty) ht.ok.1 hi hs (zwo ⟨_,htx.ok.1⟩ hy λu hu=>by
  obtain ⟨a,-,hu⟩:=List.mem_flatMap.1 hu
  exact hE.one a u hu) hroom
 rw [<- List.flatMap_append] at hs'
 exact ⟨(⟨x.a,x.len+y.len,x.cap⟩,()),w',hrun,hS _,h w' hs'⟩
theorem zl6 {z:Array Value} (h:∀ v ∈ z.toList,v.oneCell'=true) {n:Nat}:∀ v ∈ (Builtin.zeroCells z n).toList,v.oneCell'=true:=λv hv=>by
 unfold Builtin.zeroCells at hv
 simp only [Array.toList_map,List.mem_map,Array.mem_toList_iff,Array.mem_range] at hv
 obtain ⟨i,hi,rfl⟩:=hv
 have hp:0<z.size:=by
  rcases Nat.eq_zero_or_pos z.size with h0|h0
  ·rw [h0,Nat.mul_zero] at hi;omega
  ·exact h0
 have hm:=Nat.mod_lt i hp
 rw [getElem!_pos z _ hm]
 exact h _ (by simp)
theorem z040 {t ty:TypeId} {i:TypeInfo} {z:Value} (ht:P.underlying t=some (.slice T)) (hi:P.info? T=some i) (hz:i.zero=some z) (hzs:z.cells.size=sz) (h1:∀ v ∈ z.cells.toList,v.oneCell'=true)
  (hs:Sat w (slc T sz x cs::l)) {n m c:Nat} (hn:x.len<=n) (hm:n+m<=x.cap) :
  ∃ w',(Builtin.clear_ #[t] ty #[.slice (x.a.map λa=>a.add (n*sz)) m c]).run P w=.ok (.tuple #[]) w'/\Sat w' (slc T sz x cs::l):=by
 have hlen:=hs.rd.1
 cases ha:x.a with
 | none=>exact ⟨w,by simp [Builtin.clear_,run_underlying ht],hs⟩
 | some a =>
  obtain ⟨b,off,s⟩:=a
  have hs2:=hs
  obtain ⟨p1,p2,q1,q2,hd,hA,hl⟩:=hs2
  have hsn:s=none:=by
   rcases hA with ⟨ha',_,_,_⟩|⟨b',off',arr,fr,ha',hb,hlen,hle,hsz,hcs,hf⟩
   ·rw [ha] at ha';cases ha'
   ·rw [ha] at ha';cases ha';rfl
  subst hsn
  cases m with
  | zero=>exact ⟨w,by simp [Builtin.clear_,run_underlying ht],hs⟩
  | succ m =>
   have hle:(n+(m+1))*sz<=x.cap*sz:=Nat.mul_le_mul_right _ hm
   rw [Nat.add_mul] at hle
   have hnl:x.len*sz<=n*sz:=Nat.mul_le_mul_right _ hn
   obtain ⟨w',hrun,hsat,-⟩:=zwl (P:=P) (o:=n*sz) (vs:=(Builtin.zeroCells z.cells (m+1)).toList) hs ha (by rw [Array.length_toList,size_zeroCells,hzs];exact hle) (zl6 h1)
   refine ⟨w',?_,hsat (by omega)⟩
   have e:((⟨b,off,none⟩:Addr).add (n*sz))=⟨b,off+n*sz,none⟩:=z3g _ _ _
   simp [Builtin.clear_,run_underlying ht,zeroValue,typeInfo,hi,hz,e,hrun]
theorem z06e {t ty el:TypeId} {bytes:Nat} {k:Prog} [ht:SlT P t el sz bytes] (hs:Sat w (slc el sz x cs::l)) {n m c:Nat} (hn:x.len<=n) (hm:n+m<=x.cap)
  (h:∀ w',Sat w' (slc el sz x cs::l)->k.wp P S w' Q) (h1:((P.info? el).bind (·.zero)).all (λz=>z.cells.toList.all (·.oneCell'))=true:=by kernel_rfl) (hS:∀ w',S w':=by exact λ_=>trivial) :
  (Prog.act (Builtin.clear_ #[t] ty #[.slice (z14 x.a sz n x.cap) m c]) (.tup []) (u0 k)).wp P S w Q:=by
 obtain ⟨i,z,hi,rfl,rfl,hz,hzs⟩:=ht.parts
 rw [hi] at h1
 have h1:z.cells.toList.all (·.oneCell')=true:=by
  have h2:(i.zero).all (λz=>z.cells.toList.all (·.oneCell'))=true:=h1
  rw [hz] at h2;exact h2
 rw [List.all_eq_true] at h1
 by_cases hc:x.cap=n
 ·have hm0:m=0:=by omega
  subst hm0
  refine ⟨(),w,?_,hS _,h _ hs⟩
  cases ha:z14 x.a i.size n x.cap with
  | none=>simp [Builtin.clear_,run_underlying ht.ok.1,Sh.mk]
  | some a=>simp [Builtin.clear_,run_underlying ht.ok.1,Sh.mk]
 ·obtain ⟨w',hrun,hs'⟩:=z040 (ty:=ty) ht.ok.1 hi hz hzs h1 hs hn hm (c:=c)
  refine ⟨(),w',?_,hS _,h _ hs'⟩
  unfold z14
  rw [if_neg hc]
  exact hrun
end
instance:EncF z0a 0 (.int .i64) (λa=>a.off):=⟨λ_=>rfl⟩
instance:EncF z0a 1 .str (λa=>a.r.key):=⟨λ_=>rfl⟩
def tbC (t:Nat) (C:TbC):HP:=HP.ex λz:Sl=>HP.and (z8u C.l/\C.l.length<=1000000000) (HP.star (pt t (.cells #[.int .i64 C.next,.slice z.a z.len z.cap] T.a4)) (slc T.a36 5 z (C.l.flatMap z0a)))
def orC (o:Option AtM):AtM:=o.getD ⟨0,⟨ByteArray.mk #[],ByteArray.mk #[],false,0⟩⟩
instance {a:AtM} {b:Bool}:IsR (.tup [.agg [.int .i64,.str,.str,.bool,.int .i64],.one .bool]) [.agg (z0a a).toArray,.bool b] (a.off,a.r.key,a.r.value,a.r.gone,a.r.time,b,()):=⟨rfl⟩
theorem add_zero (a:Addr):Addr.add a 0=a:=rfl
section
variable {w:World} {l r r1 r2:List HP} {t:Nat} {C:TbC} {z:Sl}
theorem z7y (hs:Sat w (tbC t C::l)):∃ z:Sl,(z8u C.l/\C.l.length<=1000000000)/\Sat w (pt t (.cells #[.int .i64 C.next,.slice z.a z.len z.cap] T.a4)::slc T.a36 5 z (C.l.flatMap z0a)::l):=by
 obtain ⟨z,hs⟩:=hs.ex
 obtain ⟨h,hs⟩:=hs.and
 exact ⟨z,h,hs.star⟩
theorem z55 (C:TbC) {z:Sl} (h:z8u C.l/\C.l.length<=1000000000) (hs:Sat w (pt t (.cells #[.int .i64 C.next,.slice z.a z.len z.cap] T.a4)::slc T.a36 5 z (C.l.flatMap z0a)::l)):Sat w (tbC t C::l) :=
 .ex_mk z (.and_mk h (.star_mk hs))
theorem z04t (hs:Sat w l):Ret P F.a6 #[] w λvs w'=>∃ t:Nat,vs=[.pointer (some ⟨t,0,none⟩)]/\Sat w' (tbC t ⟨0,[]⟩::l) :=
 zdp <| by
  unfold zds
  refine zn hs λa w' hs=>?_
  refine ⟨rfl,a,rfl,?_⟩
  have h0:Sat w' (slc T.a36 5 ⟨none,0,0⟩ (([]:List AtM).flatMap z0a)::_):=hs.slc_nil
  exact z55 ⟨0,[]⟩ (z:=⟨none,0,0⟩) ⟨.nil,by decide⟩ (h0.pick [1])
theorem zxb (i:Nat) (a0 a1:Nat) (k:ByteArray) (hi:i<C.l.length) [h0:FocB l a0 (.cells [.pointer (some ⟨t,0,none⟩)].toArray T.a25) r1] [h1:FocB l a1 (.cells [.string k].toArray T.a51) r2]
  [h2:FocB l t (.cells [.int .i64 C.next,.slice z.a z.len z.cap].toArray T.a4) r] [h3:FocR l z 5 (C.l.flatMap z0a)] (hs:Sat w l) :
  Ret P F.a14 #[.int .i64 (i:Int),.pointer (some ⟨a0,0,none⟩),.pointer (some ⟨a1,0,none⟩)] w λvs w'=>vs=[.bool (!ltS C.l[i].r.key k)]/\Sat w' l :=
 zt8 _ _ _ <| by
  delta z06m AA AC AG AI AO Ad Ag Al An BA
  refine zx hs λw' hs=>?_
  refine za hs ?_
  refine zg ?_
  refine za hs ?_
  simp only [add_zero]
  refine zwy hs (xs:=C.l) (enc:=z0a) i hi ?_
  refine za hs ?_
  refine wp_lt ?_
  refine zd ?_
  exact ⟨rfl,rfl,hs⟩
theorem z02n (k:ByteArray) [hf:Fo l tbC t C r] (hs:Sat w l):Ret P F.a13 #[.pointer (some ⟨t,0,none⟩),.string k] w λvs w'=>vs=[.int .i64 (z0s C.l k:Nat)]/\Sat w' (tbC t C::r) :=
 zt7 _ k <| by
  delta z06l AA AO Ac Ad Af Aj Al An Av Az B0
  obtain ⟨z,hok,hs⟩:=z7y (hs.perm hf.perm)
  have hl:=hs.slen z (xs:=C.l) (enc:=z0a)
  refine zn hs λa0 w' hs=>?_
  refine zn hs λa1 w' hs=>?_
  refine za hs ?_
  refine zg ?_
  refine za hs ?_
  rw [hl]
  have hlen:=hok.2
  refine z8 (zfa C.l.length (by omega) F.a14 #[.pointer (some ⟨a0,0,none⟩),.pointer (some ⟨a1,0,none⟩)] (λi=>!ltS (orC C.l[i]?).r.key k) (by kernel_rfl) (λi w hi hs=>?_) hs) λ_ w' hs=>?_
  ·have e:orC C.l[i]? = C.l[i]:=by rw [List.getElem?_eq_getElem hi];rfl
   simp only [e]
   exact zxb (C:=C) (t:=t) (z:=z) i a0 a1 k hi hs
  obtain ⟨i,hi,h1,h2,rfl,hs⟩:=hs
  refine zb ?_
  refine wp_lt ?_
  have e:z0s C.l k=i:=by
   refine zxn hok.1 hi (λh h0=>?_) λh=>?_
   ·have:=h1 h0
    rw [List.getElem?_eq_getElem h] at this
    have:(!ltS C.l[i-1].r.key k)=false:=this
    simpa using this
   ·have:=h2 h
    rw [List.getElem?_eq_getElem h] at this
    have:(!ltS C.l[i].r.key k)=true:=this
    simpa using this
  refine ⟨rfl,by rw [e],?_⟩
  exact z55 C (z:=z) hok hs.sub
theorem zzv (k:ByteArray) [hf:Fo l tbC t C r] (hs:Sat w l):Ret P F.a12 #[.pointer (some ⟨t,0,none⟩),.string k] w λvs w'=>vs=[.int .i64 (z0s C.l k:Nat),.bool (z3i C.l k)]/\Sat w' (tbC t C::r) :=
 zt6 _ k <| by
  delta z06k AA AG AI AO AX Ac Ad Af Ag Aj Al An Bg Bw
  refine z8 (z02n (t:=t) (C:=C) k hs) λ_ w' hs=>?_
  obtain ⟨rfl,hs⟩:=hs
  refine zb ?_
  obtain ⟨z,hok,hs⟩:=z7y hs
  have hl:=hs.slen z (xs:=C.l) (enc:=z0a)
  refine wp_lt ?_
  refine zx hs λw' hs=>?_
  refine zg ?_
  refine za hs ?_
  refine z0k ?_
  refine za hs ?_
  simp only [add_zero]
  refine zbt (xs:=C.l) (enc:=z0a) hs (orC C.l[z0s C.l k]?).r.key (λhg=>?_) ?_
  ·have hg:z0s C.l k<C.l.length:=by rw [<- hl];simpa using hg
   exact ⟨_,hg,rfl,by rw [List.getElem?_eq_getElem hg];rfl⟩
  refine wp_lt ?_
  refine wp_lt ?_
  refine zd ?_
  refine ⟨rfl,?_,z55 C (z:=z) hok hs.sub⟩
  have e:(decide (((z0s C.l k:Nat):Int)<((z.len:Nat):Int)) && (ByteArray.toList (orC C.l[z0s C.l k]?).r.key == ByteArray.toList k))=z3i C.l k:=by
   rw [hl]
   unfold z3i
   by_cases h:z0s C.l k<C.l.length
   ·rw [List.getElem?_eq_getElem h]
    show (_ && (ByteArray.toList C.l[z0s C.l k].r.key == ByteArray.toList k))=decide (C.l[z0s C.l k].r.key=k)
    rw [decide_eq_true (by omega:((z0s C.l k:Nat):Int)<(C.l.length:Int)),Bool.true_and,Bool.eq_iff_iff,beq_iff_eq,decide_eq_true_iff]
    exact ⟨λh=>by rw [ByteArray.toList_eq,ByteArray.toList_eq] at h;exact ByteArray.ext (Array.ext' h),λh=>by rw [h]⟩
   ·rw [List.getElem?_eq_none (by omega),decide_eq_false (by omega)];rfl
  rw [e]
theorem zuz (k:ByteArray) [hf:Fo l tbC t C r] (hs:Sat w l):Ret P F.a9 #[.pointer (some ⟨t,0,none⟩),.string k] w λvs w'=>vs=[.agg (z0a (orC (z2s C.l k))).toArray,.bool (z2s C.l k).isSome]/\Sat w' (tbC t C::r) :=
 zx4 _ k <| by
  delta zf8 AA AB AO Ac Ad Af Ag Ai Al An Ao Ar Bb Bc Bd
  refine zq (hs.perm hf.perm) λa0 w' hs=>?_
  refine zy ?_ (by simp)
  refine z8 (zzv (t:=t) (C:=C) k hs) λ_ w' hs=>?_
  obtain ⟨rfl,hs⟩:=hs
  refine ⟨(((z0s C.l k:Nat):Int),z3i C.l k,()),rfl,trivial,z39 _ _ ?_⟩
  refine wp_lt ?_
  refine wp_lt ?_
  by_cases ht:z3i C.l k=true
  ·refine zy ?_ (by rw [ht];simp)
   obtain ⟨hi,hk⟩:=za4.1 ht
   have e:z2s C.l k=some C.l[z0s C.l k]:=by unfold z2s;rw [if_pos ht,List.getElem?_eq_getElem hi]
   obtain ⟨z,hok,hs⟩:=z7y hs
   refine zg ?_
   refine za hs ?_
   refine z4l hs (xs:=C.l) (enc:=z0a) (z0s C.l k) hi ?_
   refine zr hs λw' hs=>?_
   refine zk hs ?_
   rw [e]
   exact ⟨rfl,rfl,z55 C (z:=z) hok hs.sub⟩
  ·have ht:z3i C.l k=false:=by simpa using ht
   refine z0c ?_ (by rw [ht];simp)
   have e:z2s C.l k=none:=by unfold z2s;rw [if_neg (by rw [ht];simp)]
   refine zr hs λw' hs=>?_
   refine zk hs ?_
   rw [e]
   exact ⟨rfl,rfl,hs.sub⟩
theorem z04s [hf:Fo l tbC t C r] (hs:Sat w l):Ret P F.a10 #[.pointer (some ⟨t,0,none⟩)] w λvs w'=>vs=[.int .i64 (C.l.length:Nat)]/\Sat w' (tbC t C::r) :=
 zx5 _ <| by
  delta zf9 AA AO Ac Af Ai Al An
  obtain ⟨z,hok,hs⟩:=z7y (hs.perm hf.perm)
  have hl:=hs.slen z (xs:=C.l) (enc:=z0a)
  refine zy ?_ (by simp)
  refine zg ?_
  refine za hs ?_
  refine wp_lt ?_
  exact ⟨rfl,by rw [hl],z55 C (z:=z) hok hs⟩
theorem ziz:∀ (xs:List AtM) (f:Int) (a:AtM),z20 f (xs++[a])=(z20 f xs && decide ((match xs.getLast? with|none=>f|some b=>b.off+1)<=a.off))
 | [],f,a=>by
  show (if a.off<f then false else true)=(true && decide (f<=a.off))
  by_cases h:a.off<f
  ·rw [if_pos h,decide_eq_false (by omega)];rfl
  ·rw [if_neg h,decide_eq_true (by omega)];rfl
 | x::xs,f,a=>by
  have ih:=ziz xs (x.off+1) a
  show (if x.off<f then false else z20 (x.off+1) (xs++[a]))=((if x.off<f then false else z20 (x.off+1) xs) && _)
  by_cases h:x.off<f
  ·rw [if_pos h,if_pos h];rfl
  ·rw [if_neg h,if_neg h,ih]
   cases xs with
   | nil=>rfl
   | cons y ys =>
    rw [List.getLast?_cons_cons]
    have:∃ u,(y::ys).getLast? = some u:=⟨_,List.getLast?_eq_some_getLast (by simp)⟩
    obtain ⟨u,hu⟩:=this
    rw [hu]
theorem zli:∀ (xs ys:List AtM) (f:Int),z20 f xs=false->z20 f (xs++ys)=false
 | [],ys,f,h=>by cases h
 | x::xs,ys,f,h=>by
  have h:(if x.off<f then false else z20 (x.off+1) xs)=false:=h
  show (if x.off<f then false else z20 (x.off+1) (xs++ys))=false
  by_cases hx:x.off<f
  ·rw [if_pos hx]
  ·rw [if_neg hx] at h ⊢
   exact zli xs ys _ h
theorem z02q (f:Int) (x:Sl) (xs:List AtM) (hn:xs.length<=1000000000) [hx:FocR l x 5 (xs.flatMap z0a)] (hs:Sat w l):Ret P F.a18 #[.int .i64 f,x.v] w λvs w'=>vs=[.bool (z20 f xs)]/\Sat w' l :=
 ztb _ x <| by
  delta z06o AB AG AI AK AQ AT Ac Af Ai Al An Ao Aq Ar Bb
  have hl:=hs.slen x (xs:=xs) (enc:=z0a)
  refine z50 ?_
  refine z03 (λm q w=>∃ i:Nat,q=((i:Int),())/\i<=xs.length/\xs.length-i=m/\z20 f (xs.take i)=true/\Sat w l) xs.length ⟨0,rfl,by omega,rfl,rfl,hs⟩ ?_
  clear hs
  rintro m _ w ⟨i,rfl,hi,hm,hr,hs⟩
  refine zm ?_
  refine ze (λhc=>?_) λhc=>?_
  rotate_left
  ·rw [List.take_of_length_le (by omega)] at hr
   refine zh (zp ⟨(),rfl,?_⟩)
   exact ⟨rfl,by rw [hr],hs⟩
  have hil:i<xs.length:=by omega
  have htk:xs.take (i+1)=xs.take i++[xs[i]]:=by rw [List.take_add_one,List.getElem?_eq_getElem hil,Option.toList_some]
  have hst:z20 f (xs.take (i+1))=decide ((match (xs.take i).getLast? with|none=>f|some b=>b.off+1)<=xs[i].off):=by rw [htk,ziz,hr,Bool.true_and]
  have hlast:0<i->(xs.take i).getLast? = some (xs[i-1]'(by omega)):=λh0=>by
   rw [List.getLast?_eq_getElem?,List.length_take,Nat.min_eq_left (by omega),List.getElem?_take,if_pos (by omega),List.getElem?_eq_getElem (by omega)]
  refine z4l hs i hil ?_
  refine zq hs λa8 w' hs=>?_
  refine wp_lt ?_
  refine zr hs λw' hs=>?_
  refine zx hs λw' hs=>?_
  refine za hs ?_
  refine za hs ?_
  refine zbt (xs:=xs) (enc:=z0a) hs (orC xs[i-1]?).off (λhg=>?_) ?_
  ·have h0:0<i:=by have:=hg.2;simp at this;omega
   exact ⟨i-1,by omega,by rw [w64 (by omega) (by omega)];omega,by rw [List.getElem?_eq_getElem (by omega)];rfl⟩
  refine zd ?_
  have hcond:((i:Int)=0/\xs[i].off<f\/(i:Int)>0/\xs[i].off<=(orC xs[i-1]?).off)↔z20 f (xs.take (i+1))=false:=by
   rw [hst]
   by_cases h0:i=0
   ·subst h0
    show _↔decide (f<=xs[0].off)=false
    rw [decide_eq_false_iff_not]
    omega
   ·have e:orC xs[i-1]? = xs[i-1]'(by omega):=by rw [List.getElem?_eq_getElem (by omega)];rfl
    rw [e,hlast (by omega)]
    show _↔decide ((xs[i-1]'(by omega)).off+1<=xs[i].off)=false
    rw [decide_eq_false_iff_not]
    omega
  refine ze (λh=>?_) λh=>?_
  ·have h:z20 f (xs.take (i+1))=false:=hcond.1 h
   refine zh (zh ?_)
   have:=zli _ (xs.drop (i+1)) f h
   rw [List.take_append_drop] at this
   exact ⟨rfl,by rw [this],hs.tail⟩
  ·have h:z20 f (xs.take (i+1))=true:=by
    cases hh:z20 f (xs.take (i+1)) with
    | true=>rfl
    | false=>exact absurd (hcond.2 hh) h
   refine z2z (us':=[.int .i64 ((i+1:Nat):Int)]) (by (try simp (disch:=omega) only [w64]);first|rfl|(congr;omega)) ?_
   exact z11 (xs.length-(i+1)) ⟨i+1,rfl,by omega,rfl,h,hs.tail⟩
theorem zux (x:Sl) (xs:List AtM) (i:Nat) (hi:i<xs.length) (hn:xs.length<=1000000000) (hs:Sat w (slc T.a36 5 x (xs.flatMap z0a)::l)) :
  Ret P F.a167 #[x.v,.int .i64 (i:Int),.int .i64 ((i+1:Nat):Int)] w λvs w'=>∃ z:Sl,vs=[z.v]/\Sat w' (slc T.a36 5 z ((xs.take i++xs.drop (i+1)).flatMap z0a)::l) :=
 zoh x _ _ <| by
  delta z01u AE AG AI Af Ai Al An B6
  have hl:=hs.slen x (xs:=xs) (enc:=z0a)
  have hcap:=hs.slc_cap
  refine wp_must (by omega) ?_
  refine zy ?_ (by simp;omega)
  refine wp_lt ?_
  refine zx hs λw' hs=>?_
  refine wp_must (by omega) ?_
  refine wp_must (by omega) ?_
  rw [Int.toNat_natCast,Int.toNat_natCast]
  have hrd:Rd w' 5 ⟨z14 x.a 5 (i+1) x.cap,x.len-(i+1),x.cap-(i+1)⟩ ((xs.drop (i+1)).flatMap z0a) :=
   (FocR.post (l:=slc T.a36 5 x (xs.flatMap z0a)::l) (x:=x) (sz:=5) (xs:=xs) (enc:=z0a) (n:=i+1) (m:=x.cap) (c:=x.cap-(i+1)) hcap).rd w' hs
  have hs:=hs.slc_pre (n:=i) (by omega)
  rw [z8f] at hs
  have hroom:i+(x.len-(i+1))<=x.cap:=by omega
  refine z04f (x:=⟨x.a,i,x.cap⟩) (y:=⟨z14 x.a 5 (i+1) x.cap,x.len-(i+1),x.cap-(i+1)⟩) (el:=T.a36) (sz:=5) (xs:=xs.take i) (ys:=xs.drop (i+1)) (enc:=z0a) hs hrd hroom (λw' hs=>?_)
  refine zd ?_
  refine wp_must (by show (0:Int)<=((i+(x.len-(i+1)):Nat):Int)/\((i+(x.len-(i+1)):Nat):Int)<=((x.len:Nat):Int)/\((x.len:Nat):Int)<=((x.cap:Nat):Int);omega) ?_
  rw [Int.toNat_natCast,Int.toNat_natCast]
  have hroom2:i+(x.len-(i+1))+(x.len-(i+(x.len-(i+1))))<=x.cap:=by omega
  refine z06e (t:=T.a43) (el:=T.a36) (x:=⟨x.a,i+(x.len-(i+1)),x.cap⟩) (n:=i+(x.len-(i+1))) (m:=x.len-(i+(x.len-(i+1)))) hs (Nat.le_refl _) hroom2 (λw' hs=>?_)
  exact ⟨rfl,_,rfl,hs⟩
theorem zv1 (x v:Sl) (xs:List AtM) (a:AtM) (hn:xs.length<=1000000000) [hv:FocR l v 5 ([a].flatMap z0a)] (hs:Sat w (slc T.a36 5 x (xs.flatMap z0a)::l)) :
  Ret P F.a168 #[x.v,.int .i64 (xs.length:Int),v.v] w λvs w'=>∃ z:Sl,vs=[z.v]/\Sat w' (slc T.a36 5 z ((xs++[a]).flatMap z0a)::l) :=
 zoi x _ v <| by
  delta z01v AE AG AI Ac Af Ai Al An Aq
  have hl:=hs.slen x (xs:=xs) (enc:=z0a)
  have hl2:=hs.slen v (xs:=[a]) (enc:=z0a)
  refine wp_must (by omega) ?_
  refine wp_lt ?_
  refine zy ?_ (by rw [hl2];simp)
  refine wp_lt ?_
  refine z0c ?_ (by rw [hl])
  refine wp_app' (xs:=xs) (ys:=[a]) (enc:=z0a) hs (λz w' hs=>?_) (by simp only [List.length_cons,List.length_nil];omega)
  exact ⟨rfl,z,rfl,hs⟩
def zcc (C:TbC) (a:AtM):Bool:=z3i C.l a.r.key || a.r.gone || decide (z0s C.l a.r.key=C.l.length)
def z6a:TbC->List AtM->Bool
 | _,[]=>true
 | C,a::xs=>zcc C a && z6a (z29 C a) xs
theorem zpw:∀ (xs:List AtM) (C:TbC) (i:Nat) (h:i<xs.length),z6a C xs=true->zcc ((xs.take i).foldl z29 C) xs[i]=true
 | x::xs,C,0,_,h=>by
  have h:(zcc C x && z6a (z29 C x) xs)=true:=h
  rw [Bool.and_eq_true] at h
  exact h.1
 | x::xs,C,i+1,hi,h=>by
  have h:(zcc C x && z6a (z29 C x) xs)=true:=h
  rw [Bool.and_eq_true] at h
  exact zpw xs (z29 C x) i (by simpa using hi) h.2
set_option maxHeartbeats 1000000 in
theorem z04u (a:AtM) (he:zcc C a=true) (hlo : -9223372036854775808<=a.off) (hhi:a.off<=1099511627776) (hlen:C.l.length<1000000000) [hf:Fo l tbC t C r] (hs:Sat w l) :
  Ret P F.a15 #[.pointer (some ⟨t,0,none⟩),.agg (z0a a).toArray] w λvs w'=>vs=[]/\Sat w' (tbC t (z29 C a)::r) :=
 zta _ a.off a.r.key a.r.value a.r.gone a.r.time <| by
  delta z06n AA AB AC AE AG AI AJ AK AO AP Ac Ad Af Ag Ai Ak Al An Aq Av Bc Bd Be Bq Br
  refine zn (hs.perm hf.perm) λa0 w' hs=>?_
  clear hf
  refine za hs ?_
  refine z8 (zzv (t:=t) (C:=C) a.r.key hs) λ_ w' hs=>?_
  obtain ⟨rfl,hs⟩:=hs
  refine ⟨(((z0s C.l a.r.key:Nat):Int),z3i C.l a.r.key,()),rfl,trivial,z39 _ _ ?_⟩
  refine wp_lt ?_
  refine wp_lt ?_
  refine za hs ?_
  refine wp_lt ?_
  obtain ⟨z,hok,hs⟩:=z7y hs
  have hl:=hs.slen z (xs:=C.l) (enc:=z0a)
  have hokS:z8u (z29 C a).l/\(z29 C a).l.length<=1000000000:=⟨zz1 a hok.1,by have:=zqy C a;omega⟩
  refine zf (λq w'=>∃ z':Sl,Sat w' (pt a0 (.cells #[.int .i64 a.off,.string a.r.key,.string a.r.value,.bool a.r.gone,.int .i64 a.r.time] T.a36)::pt t (.cells #[.int .i64 C.next,.slice z'.a z'.len z'.cap] T.a4)::slc T.a36 5 z' ((z29 C a).l.flatMap z0a)::r)) ?_ ?_
  rotate_left
  ·rintro _ w2 ⟨z',hs⟩
   refine zm ?_
   refine za hs ?_
   refine zg ?_
   rw [w64 (by omega) (by omega)]
   refine z07 hs λw' hs=>?_
   have hs:Sat w' (pt t (.cells #[.int .i64 (z29 C a).next,.slice z'.a z'.len z'.cap] T.a4)::pt a0 (.cells #[.int .i64 a.off,.string a.r.key,.string a.r.value,.bool a.r.gone,.int .i64 a.r.time] T.a36)::slc T.a36 5 z' ((z29 C a).l.flatMap z0a)::r):=hs
   exact ⟨rfl,rfl,z55 (z29 C a) (z:=z') hokS hs.sub⟩
  by_cases ht:z3i C.l a.r.key=true
  ·obtain ⟨hi,hk⟩:=za4.1 ht
   by_cases hg:a.r.gone=true
   ·refine z0c ?_ ⟨ht,hg⟩
    have e:(z29 C a).l=C.l.take (z0s C.l a.r.key)++C.l.drop (z0s C.l a.r.key+1):=by unfold z29;rw [if_pos ht,if_pos hg]
    refine zg ?_
    refine za hs ?_
    rw [show IntKind.wrap .i64 (((z0s C.l a.r.key:Nat):Int)+1)=((z0s C.l a.r.key+1:Nat):Int) by rw [w64 (by omega) (by omega)];omega]
    have hs:=hs.pick [1]
    refine z8 (zux z C.l (z0s C.l a.r.key) hi hok.2 hs) λ_ w' hs=>?_
    obtain ⟨z2,rfl,hs⟩:=hs
    refine zb ?_
    refine zg ?_
    refine z07 hs λw' hs=>?_
    refine zj ⟨z2,?_⟩
    rw [e]
    exact hs.sub
   ·have hg:a.r.gone=false:=by simpa using hg
    refine zy ?_ (by rw [hg];simp)
    have e:(z29 C a).l=C.l.set (z0s C.l a.r.key) a:=by unfold z29;rw [if_pos ht,if_neg (by rw [hg];simp)]
    refine wp_lt ?_
    refine zf (λq w'=>Sat w' (pt a0 (.cells #[.int .i64 a.off,.string a.r.key,.string a.r.value,.bool a.r.gone,.int .i64 a.r.time] T.a36)::pt t (.cells #[.int .i64 C.next,.slice z.a z.len z.cap] T.a4)::slc T.a36 5 z ((C.l.set (z0s C.l a.r.key) a).flatMap z0a)::r)) ?_ ?_
    rotate_left
    ·rintro _ w2 hs
     refine zm ?_
     refine zj ⟨z,?_⟩
     rw [e];exact hs.sub
    refine z0c ?_ ht
    refine zx hs λw' hs=>?_
    refine zg ?_
    refine za hs ?_
    refine zk hs ?_
    refine z04h hs (xs:=C.l) (enc:=z0a) (z0s C.l a.r.key) hi a λw' hs=>?_
    refine zd ?_
    exact zj hs.sub
  have ht:z3i C.l a.r.key=false:=by simpa using ht
  refine zy ?_ (by rw [ht];simp)
  refine wp_lt ?_
  refine zf (λq w'=>∃ z':Sl,Sat w' (pt a0 (.cells #[.int .i64 a.off,.string a.r.key,.string a.r.value,.bool a.r.gone,.int .i64 a.r.time] T.a36)::pt t (.cells #[.int .i64 C.next,.slice z'.a z'.len z'.cap] T.a4)::slc T.a36 5 z' ((z29 C a).l.flatMap z0a)::r)) ?_ ?_
  rotate_left
  ·rintro _ w2 ⟨z',hs⟩
   refine zm ?_
   exact zj ⟨z',hs⟩
  refine zy ?_ (by rw [ht];simp)
  refine za hs ?_
  refine wp_lt ?_
  refine zf (λq w'=>∃ z':Sl,Sat w' (pt a0 (.cells #[.int .i64 a.off,.string a.r.key,.string a.r.value,.bool a.r.gone,.int .i64 a.r.time] T.a36)::pt t (.cells #[.int .i64 C.next,.slice z'.a z'.len z'.cap] T.a4)::slc T.a36 5 z' ((z29 C a).l.flatMap z0a)::r)) ?_ ?_
  rotate_left
  ·rintro _ w2 ⟨z',hs⟩
   refine zm ?_
   exact zj ⟨z',hs⟩
  by_cases hg:a.r.gone=true
  ·refine zy ?_ (by rw [hg];simp)
   have e:(z29 C a).l=C.l:=by unfold z29;rw [if_neg (by rw [ht];simp),if_pos hg]
   refine zj ⟨z,?_⟩
   rw [e];exact hs.sub
  ·have hg:a.r.gone=false:=by simpa using hg
   refine z0c ?_ (by rw [hg];simp)
   have hfr:z0s C.l a.r.key=C.l.length:=by
    unfold zcc at he
    rw [ht,hg] at he
    simpa using he
   have e:(z29 C a).l=C.l++[a]:=by
    unfold z29
    rw [if_neg (by rw [ht];simp),if_neg (by rw [hg];simp),hfr,List.take_length,List.drop_length]
   refine zf (λq w'=>∃ z':Sl,Sat w' (pt a0 (.cells #[.int .i64 a.off,.string a.r.key,.string a.r.value,.bool a.r.gone,.int .i64 a.r.time] T.a36)::pt t (.cells #[.int .i64 C.next,.slice z'.a z'.len z'.cap] T.a4)::slc T.a36 5 z' ((z29 C a).l.flatMap z0a)::r)) ?_ ?_
   rotate_left
   ·rintro _ w2 ⟨z',hs⟩
    refine zm ?_
    exact zj ⟨z',hs⟩
   refine zx hs λw' hs=>?_
   refine zg ?_
   refine z18 hs ?_
   refine zk hs ?_
   refine z6j hs (enc:=z0a) [a] λy w' hs=>⟨(by first|trivial|(repeat (first|exact trivial|exact λ_=>z09 hs|exact λ_=>z0m hs|refine And.intro ?_ ?_))),?_⟩
   refine zd ?_
   rw [hfr]
   have hs:Sat w' (slc T.a36 5 z (C.l.flatMap z0a)::slc T.a36 5 y ([a].flatMap z0a)::pt a0 (.cells #[.int .i64 a.off,.string a.r.key,.string a.r.value,.bool a.r.gone,.int .i64 a.r.time] T.a36)::pt t (.cells #[.int .i64 C.next,.slice z.a z.len z.cap] T.a4)::r):=hs.sub
   refine z8 (zv1 z y C.l a hok.2 hs) λ_ w' hs=>?_
   obtain ⟨z2,rfl,hs⟩:=hs
   refine zb ?_
   refine zg ?_
   refine z07 hs λw' hs=>?_
   refine zd ?_
   refine zj ⟨z2,?_⟩
   rw [e]
   exact hs.sub
theorem zqu:∀ (xs:List AtM) (f:Int),z20 f xs=true->∀ a ∈ xs,∀ b,xs.getLast? = some b->a.off<=b.off
 | [],f,_,a,ha,_,_=>by cases ha
 | x::xs,f,h,a,ha,b,hb=>by
  have h:(if x.off<f then false else z20 (x.off+1) xs)=true:=h
  by_cases hx:x.off<f
  ·rw [if_pos hx] at h;cases h
  rw [if_neg hx] at h
  cases xs with
  | nil =>
   simp at ha hb
   subst ha hb
   omega
  | cons y ys =>
   rw [List.getLast?_cons_cons] at hb
   have ih:=zqu (y::ys) (x.off+1) h
   rcases List.mem_cons.1 ha with rfl|ha
   ·have h1:y.off<=b.off:=ih y (List.mem_cons_self ..) b hb
    have h2:(if y.off<a.off+1 then false else z20 (y.off+1) ys)=true:=h
    by_cases hy:y.off<a.off+1
    ·rw [if_pos hy] at h2;cases h2
    ·omega
   ·exact ih a ha b hb
set_option maxHeartbeats 1000000 in
theorem zk7 (x:Sl) (xs:List AtM) (hlo:∀ a ∈ xs,-9223372036854775808<=a.off) (he:z6a C xs=true) (hlen:C.l.length+xs.length<=1000000000) [hf:Fo l tbC t C r] [hx:FocR r x 5 (xs.flatMap z0a)] (hs:Sat w l) :
  Ret P F.a8 #[.pointer (some ⟨t,0,none⟩),x.v] w λvs w'=>vs=[.int .i64 (z7d C xs).1]/\Sat w' (tbC t (z7d C xs).2::r) :=
 zx3 _ x <| by
  delta zf7 AA AB AK AP AQ AT AU Ac Ad Ai Al Am An Ao Aq Ar Ba Bb Bc;unfold z7d
  have hs:=hs.perm hf.perm
  clear hf
  refine wp_lt ?_
  refine zy ?_ (by simp)
  obtain ⟨z,hok,hs⟩:=z7y hs
  have hl:=hs.slen x (xs:=xs) (enc:=z0a)
  refine zg ?_
  refine za hs ?_
  refine z8 (z02q C.next x xs (by omega) hs) λ_ w' hs=>?_
  obtain ⟨rfl,hs⟩:=hs
  refine zb ?_
  have hgl:∀ h0:0<xs.length,xs.getLast? = some (xs[xs.length-1]'(by omega)):=λh0=>by
   rw [List.getLast?_eq_getElem?,List.getElem?_eq_getElem (by omega)]
  refine zbt (xs:=xs) (enc:=z0a) hs (orC xs.getLast?).off (λhg=>?_) ?_
  ·have h0:0<xs.length:=by have:=hg.2;rw [hl] at this;simp at this;omega
   exact ⟨xs.length-1,by omega,by rw [hl,w64 (by omega) (by omega)];omega,by rw [hgl h0];rfl⟩
  refine wp_lt ?_
  have hcond:(!z20 C.next xs || (decide (((x.len:Nat):Int)>0) && decide ((orC xs.getLast?).off>1099511627776)))=true↔(z20 C.next xs=false\/zda xs=true):=by
   rw [hl]
   unfold zda
   by_cases h0:xs.length=0
   ·have e:xs=[]:=List.length_eq_zero_iff.1 h0
    subst e
    simp
   ·rw [hgl (by omega)]
    rw [decide_eq_true (by omega:((xs.length:Nat):Int)>0)]
    show (!z20 C.next xs || (true && decide ((xs[xs.length-1]'(by omega)).off>1099511627776)))=true↔(z20 C.next xs=false\/decide ((xs[xs.length-1]'(by omega)).off>1099511627776)=true)
    simp
  by_cases hc:z20 C.next xs=false\/zda xs=true
  ·rw [if_pos hc]
   refine zfg (hcond.2 hc) ?_
   exact ⟨rfl,rfl,z55 C (z:=z) hok hs⟩
  rw [if_neg hc]
  refine z80 (by cases hh:(!z20 C.next xs || (decide (((x.len:Nat):Int)>0) && decide ((orC xs.getLast?).off>1099511627776))) with|false=>rfl|true=>exact absurd (hcond.1 hh) hc) ?_
  have hrise:z20 C.next xs=true:=by
   cases h:z20 C.next xs with
   | true=>rfl
   | false=>exact absurd (.inl h) hc
  have hhi:∀ a ∈ xs,a.off<=1099511627776:=λa ha=>by
   have h0:0<xs.length:=by
    rcases Nat.eq_zero_or_pos xs.length with h|h
    ·rw [List.length_eq_zero_iff.1 h] at ha;cases ha
    ·exact h
   have h1:=zqu xs C.next hrise a ha _ (hgl h0)
   have h2:¬ zda xs=true:=λh=>hc (.inr h)
   unfold zda at h2
   rw [hgl h0] at h2
   have h2:¬ decide ((xs[xs.length-1]'(by omega)).off>1099511627776)=true:=h2
   rw [decide_eq_true_iff] at h2
   omega
  have hs:Sat w' (tbC t C::r):=z55 C (z:=z) hok hs
  refine zf (λq w'=>Sat w' (tbC t (xs.foldl z29 C)::r)) ?_ ?_
  rotate_left
  ·rintro _ w2 hs
   refine zm ?_
   exact ⟨rfl,rfl,hs⟩
  refine z03 (λm q w=>∃ i:Nat,q=((i:Int),())/\i<=xs.length/\xs.length-i=m/\Sat w (tbC t ((xs.take i).foldl z29 C)::r)) xs.length ⟨0,rfl,by omega,rfl,hs⟩ ?_
  clear hs
  rintro m _ w ⟨i,rfl,hi,hm,hs⟩
  refine zm ?_
  refine ze (λhc2=>?_) λhc2=>?_
  rotate_left
  ·rw [List.take_of_length_le (by omega)] at hs
   exact zh (zj hs)
  have hil:i<xs.length:=by omega
  have htk:xs.take (i+1)=xs.take i++[xs[i]]:=by rw [List.take_add_one,List.getElem?_eq_getElem hil,Option.toList_some]
  refine z4l hs i hil ?_
  refine zq hs λa17 w' hs=>?_
  refine zr hs λw' hs=>?_
  refine zk hs ?_
  have hs:=hs.pick [1]
  refine z8 (z04u (t:=t) (C:=(xs.take i).foldl z29 C) xs[i] (zpw xs C i hil he) (hlo _ (List.getElem_mem hil)) (hhi _ (List.getElem_mem hil)) (by have:=zls (xs.take i) C;rw [List.length_take] at this;omega) hs) λ_ w' hs=>?_
  obtain ⟨rfl,hs⟩:=hs
  refine zb ?_
  refine z2z (us':=[.int .i64 ((i+1:Nat):Int)]) (by (try simp (disch:=omega) only [w64]);first|rfl|(congr;omega)) ?_
  refine z11 (xs.length-(i+1)) ⟨i+1,rfl,by omega,rfl,?_⟩
  rw [htk,List.foldl_append,List.foldl_cons,List.foldl_nil]
  exact hs.sub
end
abbrev LedA:=PartA × TbC
def leP (b:Nat) (M:LedA):HP:=HP.ex λq:Nat × Nat=>HP.star (pt b (.cells #[.pointer (some ⟨q.1,0,none⟩),.pointer (some ⟨q.2,0,none⟩)] T.a19)) (HP.star (tbC q.1 M.2) (paP q.2 M.1))
def z21 (M:LedA) (D:DiskA) (b:BatM):Int × LedA × DiskA :=
 if (z1i M.1 D b).1.2.2≠0 then ((z1i M.1 D b).1.2.2,((z1i M.1 D b).2.1,M.2),(z1i M.1 D b).2.2)
 else (0,((z1i M.1 D b).2.1,(z7d M.2 (z1x (b.to (z1i M.1 D b).1.1))).2),(z1i M.1 D b).2.2)
def z0z (time:Int) (x:Sl) (rs:List RecM):BatM:=⟨0,0,0,0,0,time,x,rs⟩
def z2m (k v:ByteArray) (time:Int):RecM:=⟨k,v,false,time⟩
def z5k (k:ByteArray) (time:Int):RecM:=⟨k,ByteArray.mk #[],true,time⟩
theorem zxm {b:BatM}:∀ a ∈ z1x b,-9223372036854775808<=a.off:=λa ha=>by
 unfold z1x at ha
 split at ha
 ·cases ha
 ·obtain ⟨i,hi,rfl⟩:=List.mem_mapIdx.1 ha
  show -9223372036854775808<=IntKind.wrap .i64 _
  rw [zhq]
  split <;> omega
theorem zv9 (C:TbC) (k:ByteArray) (time n:Int) (x:Sl):z6a C (z1x ((z0z time x [z5k k time]).to n))=true:=by
 show (zcc C ⟨_,z5k k time⟩ && true)=true
 unfold zcc z5k
 simp
section
variable {w:World} {l r r1 r2 r3 l':List HP} {b d t p:Nat} {M:LedA} {D:DiskA}
theorem zar (hs:Sat w (leP b M::l)):∃ t p:Nat,Sat w (pt b (.cells #[.pointer (some ⟨t,0,none⟩),.pointer (some ⟨p,0,none⟩)] T.a19)::tbC t M.2::paP p M.1::l):=by
 obtain ⟨⟨t,p⟩,hs⟩:=hs.ex
 have hs:=hs.star
 have hs:=(hs.pick [1]).star
 exact ⟨t,p,hs.pick [2]⟩
theorem z088 (t p:Nat) (hs:Sat w (pt b (.cells #[.pointer (some ⟨t,0,none⟩),.pointer (some ⟨p,0,none⟩)] T.a19)::tbC t M.2::paP p M.1::l)):Sat w (leP b M::l):=by
 have h1:=(hs.pick [1,1]).star_mk
 exact .ex_mk (t,p) ((h1.pick [1]).star_mk)
theorem z6w (M:LedA) (hs:Sat w l) [h1:FocB l b (.cells [.pointer (some ⟨t,0,none⟩),.pointer (some ⟨p,0,none⟩)].toArray T.a19) r1] [h2:Fo r1 tbC t M.2 r2] [h3:Fo r2 paP p M.1 r3] [h4:Sub r3 l']:Sat w (leP b M::l'):=by
 have hs:=hs.perm (h1.perm.trans (.cons _ (h2.perm.trans (.cons _ h3.perm))))
 have hs:Sat w (leP b M::r3):=z088 t p hs
 exact hs.sub
theorem zq9 (k:ByteArray) [hf:Fo l leP b M r] (hs:Sat w l):Ret P F.a87 #[.pointer (some ⟨b,0,none⟩),.string k] w λvs w'=>vs=[.string (orC (z2s M.2.l k)).r.value,.bool (z2s M.2.l k).isSome]/\Sat w' (leP b M::r) :=
 zgq _ k <| by
  delta zzl AA AB AC Ab Ad Ag Ai An Ao Ar Ay
  obtain ⟨t,p,hs⟩:=zar (hs.perm hf.perm)
  refine zy ?_ (by simp)
  refine zg ?_
  refine za hs ?_
  refine z8 (zuz (t:=t) (C:=M.2) k hs) λ_ w' hs=>?_
  obtain ⟨rfl,hs⟩:=hs
  refine ⟨((orC (z2s M.2.l k)).off,(orC (z2s M.2.l k)).r.key,(orC (z2s M.2.l k)).r.value,(orC (z2s M.2.l k)).r.gone,(orC (z2s M.2.l k)).r.time,(z2s M.2.l k).isSome,()),rfl,trivial,z005 _ _ _ _ _ _ ?_⟩
  refine zq hs λa9 w' hs=>?_
  refine zr hs λw' hs=>?_
  refine wp_lt ?_
  refine za hs ?_
  refine wp_lt ?_
  refine wp_lt ?_
  exact ⟨rfl,rfl,z6w M hs⟩
theorem zqa [hf:Fo l leP b M r] (hs:Sat w l):Ret P F.a88 #[.pointer (some ⟨b,0,none⟩)] w λvs w'=>vs=[.int .i64 (M.2.l.length:Nat)]/\Sat w' (leP b M::r) :=
 zgr _ <| by
  delta zzm AA Ac Ad Af Ai Aj An Ay
  obtain ⟨t,p,hs⟩:=zar (hs.perm hf.perm)
  refine zy ?_ (by simp)
  refine zg ?_
  refine za hs ?_
  refine z8 (z04s (t:=t) (C:=M.2) hs) λ_ w' hs=>?_
  obtain ⟨rfl,hs⟩:=hs
  refine zb ?_
  refine wp_lt ?_
  exact ⟨rfl,rfl,z6w M hs⟩
set_option maxHeartbeats 1000000 in
theorem zq8 (time:Int) (x:Sl) (rs:List RecM) {r1:List HP} [hf:Fo l leP b M r1] [hf2:Fo r1 dk M.1.L.d D r] (hb:FocR r x 4 (rs.flatMap z04)) (h:Cpl M.1.L.pre M.1.L.l D) (hr:rs.length<=1000) (hn:M.2.l.length<=100000000) (hends:(z1i M.1 D (z0z time x rs)).1.2.2=0->z6a M.2 (z1x ((z0z time x rs).to (z1i M.1 D (z0z time x rs)).1.1))=true) (hs:Sat w l) :
  Ret P F.a84 #[.pointer (some ⟨b,0,none⟩),.int .i64 time,x.v] w λvs w'=>vs=[.int .i64 (z21 M D (z0z time x rs)).1]/\Sat w' (leP b (z21 M D (z0z time x rs)).2.1::dk M.1.L.d (z21 M D (z0z time x rs)).2.2::r) :=
 zgo _ time x <| by
  delta zzj AA AE AF AG AH AI AJ AK AL Ac Ad Af Ag Ai Aj Ak An Ao Ar Ay;unfold z21
  have hs:=hs.perm (hf.perm.trans (.cons _ hf2.perm))
  clear hf hf2
  obtain ⟨t,p,hs⟩:=zar hs
  refine zy ?_ (by simp)
  refine zq hs λa0 w' hs=>?_
  refine zr hs λw' hs=>?_
  refine zx hs λw' hs=>?_
  refine zg ?_
  refine za hs ?_
  refine zk hs ?_
  have hb0:FocR (pt b (.cells #[.pointer (some ⟨t,0,none⟩),.pointer (some ⟨p,0,none⟩)] T.a19)::tbC t M.2::pt a0 (.cells #[.int .i64 0,.int .i64 0,.int .i64 0,.int .i64 0,.int .i64 0,.int .i64 time,.slice x.a x.len x.cap] T.a0)::r) (z0z time x rs).x 4 ((z0z time x rs).rs.flatMap z04) :=
   (inferInstance:FocR (pt b (.cells #[.pointer (some ⟨t,0,none⟩),.pointer (some ⟨p,0,none⟩)] T.a19)::tbC t M.2::pt a0 (.cells #[.int .i64 0,.int .i64 0,.int .i64 0,.int .i64 0,.int .i64 0,.int .i64 time,.slice x.a x.len x.cap] T.a0)::r) x 4 (rs.flatMap z04))
  have hs:Sat w' (paP p M.1::dk M.1.L.d D::pt b (.cells #[.pointer (some ⟨t,0,none⟩),.pointer (some ⟨p,0,none⟩)] T.a19)::tbC t M.2::pt a0 (.cells #[.int .i64 0,.int .i64 0,.int .i64 0,.int .i64 0,.int .i64 0,.int .i64 time,.slice x.a x.len x.cap] T.a0)::r):=hs.sub
  refine z8 (z05o (p:=p) (A:=M.1) (D:=D) (z0z time x rs) hb0 h (by show rs.length<=_;omega) rfl hs) λ_ w' hs=>?_
  obtain ⟨rfl,hs⟩:=hs
  have hd:=(z000 M.1 D (z0z time x rs)).1
  generalize hq:z1i M.1 D (z0z time x rs)=q at *
  obtain ⟨⟨n,again,e⟩,A',D'⟩:=q
  simp only at hs hd hends ⊢
  refine ⟨(n,again,e,()),rfl,trivial,zjt _ _ _ ?_⟩
  refine wp_lt ?_
  refine wp_lt ?_
  refine wp_lt ?_
  refine zd ?_
  refine ze (λhe=>?_) λhe=>?_
  ·have he:e≠0:=by simpa using he
   rw [if_pos he]
   refine wp_lt ?_
   exact ⟨rfl,rfl,z6w (t:=t) (p:=p) (A',M.2) hs⟩
  have he:e=0:=by simpa using he
  subst he
  rw [if_neg (by simp)]
  refine z07 hs λw' hs=>?_
  have hs:Sat w' (pt a0 (.cells #[.int .i64 n,.int .i64 0,.int .i64 0,.int .i64 0,.int .i64 0,.int .i64 time,.slice x.a x.len x.cap] T.a0)::_):=hs
  refine zf (λq w'=>Sat w' (pt b (.cells #[.pointer (some ⟨t,0,none⟩),.pointer (some ⟨p,0,none⟩)] T.a19)::tbC t (z7d M.2 (z1x ((z0z time x rs).to n))).2::paP p A'::dk M.1.L.d D'::r)) ?_ ?_
  rotate_left
  ·rintro _ w2 hs
   refine zm ?_
   exact ⟨rfl,rfl,z6w (t:=t) (p:=p) (A',(z7d M.2 (z1x ((z0z time x rs).to n))).2) hs⟩
  refine zx hs λw' hs=>?_
  refine zg ?_
  refine z18 hs ?_
  refine zk hs ?_
  refine z6j hs (enc:=zv) [(z0z time x rs).to n] λy w' hs=>⟨(by first|trivial|(repeat (first|exact trivial|exact λ_=>z09 hs|exact λ_=>z0m hs|refine And.intro ?_ ?_))),?_⟩
  refine z8 (zvg y [(z0z time x rs).to n] (λb' hb'=>by
   rw [List.mem_singleton.1 hb']
   show FocR _ x 4 (rs.flatMap z04)
   infer_instance) (by simp) (λb' hb'=>by rw [List.mem_singleton.1 hb'];exact hr) hs) λ_ w' hs=>?_
  obtain ⟨z,rfl,hs⟩:=hs
  refine zb ?_ (by first|trivial|(repeat (first|exact trivial|exact λ_=>z09 hs|exact λ_=>z0m hs|refine And.intro ?_ ?_)))
  refine zd ?_
  have e:z3y [(z0z time x rs).to n]=z1x ((z0z time x rs).to n):=by simp [z3y]
  rw [e] at hs
  have hs:Sat w' (tbC t M.2::slc T.a36 5 z ((z1x ((z0z time x rs).to n)).flatMap z0a)::pt b (.cells #[.pointer (some ⟨t,0,none⟩),.pointer (some ⟨p,0,none⟩)] T.a19)::paP p A'::dk M.1.L.d D'::r):=hs.sub
  refine z8 (zk7 (t:=t) (C:=M.2) z (z1x ((z0z time x rs).to n)) zxm (hends rfl) (by have:=zcj ((z0z time x rs).to n);have:((z0z time x rs).to n).rs.length=rs.length:=rfl;omega) hs) λ_ w' hs=>?_
  obtain ⟨rfl,hs⟩:=hs
  refine zb ?_
  refine zd ?_
  exact zj hs.sub
theorem zh6 (k v:ByteArray) (time:Int) {r1:List HP} [hf:Fo l leP b M r1] [hf2:Fo r1 dk M.1.L.d D r] (h:Cpl M.1.L.pre M.1.L.l D) (hn:M.2.l.length<=100000000) (he:∀ x,(z1i M.1 D (z0z time x [z2m k v time])).1.2.2=0->z6a M.2 (z1x ((z0z time x [z2m k v time]).to (z1i M.1 D (z0z time x [z2m k v time])).1.1))=true) (hs:Sat w l) :
  Ret P F.a90 #[.pointer (some ⟨b,0,none⟩),.string k,.string v,.int .i64 time] w λvs w'=>∃ x:Sl,vs=[.int .i64 (z21 M D (z0z time x [z2m k v time])).1]/\Sat w' (leP b (z21 M D (z0z time x [z2m k v time])).2.1::dk M.1.L.d (z21 M D (z0z time x [z2m k v time])).2.2::r) :=
 zgs _ k v time <| by
  delta zzn AD AE Ac Ad Af Aj An
  have hs:=hs.perm (hf.perm.trans (.cons _ hf2.perm))
  clear hf hf2
  refine zdk hs (enc:=z04) [z2m k v time] λx w' hs=>?_
  have hs:Sat w' (leP b M::dk M.1.L.d D::slc T.a2 4 x ([z2m k v time].flatMap z04)::r):=hs.sub
  refine z8 (zq8 (b:=b) (M:=M) (D:=D) time x [z2m k v time] inferInstance h (by simp) hn (he x) hs) λ_ w' hs=>?_
  obtain ⟨rfl,hs⟩:=hs
  refine zb ?_
  refine wp_lt ?_
  exact ⟨rfl,x,rfl,hs.sub⟩
theorem zku (k:ByteArray) (time:Int) {r1:List HP} [hf:Fo l leP b M r1] [hf2:Fo r1 dk M.1.L.d D r] (h:Cpl M.1.L.pre M.1.L.l D) (hn:M.2.l.length<=100000000) (hs:Sat w l) :
  Ret P F.a86 #[.pointer (some ⟨b,0,none⟩),.string k,.int .i64 time] w λvs w'=>(z2s M.2.l k=none/\vs=[.int .i64 3]/\Sat w' (leP b M::dk M.1.L.d D::r)) \/
   ((z2s M.2.l k).isSome=true/\∃ x:Sl,vs=[.int .i64 (z21 M D (z0z time x [z5k k time])).1]/\Sat w' (leP b (z21 M D (z0z time x [z5k k time])).2.1::dk M.1.L.d (z21 M D (z0z time x [z5k k time])).2.2::r)) :=
 zgp _ k time <| by
  delta zzk AA AB AE Ac Ad Af Ag Ai Aj An Ao Ar Ay
  have hs:=hs.perm (hf.perm.trans (.cons _ hf2.perm))
  clear hf hf2
  obtain ⟨t,p,hs⟩:=zar hs
  refine zy ?_ (by simp)
  refine zg ?_
  refine za hs ?_
  refine z8 (zuz (t:=t) (C:=M.2) k hs) λ_ w' hs=>?_
  obtain ⟨rfl,hs⟩:=hs
  refine ⟨((orC (z2s M.2.l k)).off,(orC (z2s M.2.l k)).r.key,(orC (z2s M.2.l k)).r.value,(orC (z2s M.2.l k)).r.gone,(orC (z2s M.2.l k)).r.time,(z2s M.2.l k).isSome,()),rfl,trivial,z005 _ _ _ _ _ _ ?_⟩
  refine zq hs λa9 w' hs=>?_
  refine zr hs λw' hs=>?_
  refine wp_lt ?_
  have hs:Sat w' (leP b M::dk M.1.L.d D::r):=z6w (t:=t) (p:=p) M hs
  by_cases hg:z2s M.2.l k=none
  ·refine z0c ?_ (by rw [hg];simp)
   exact ⟨rfl,.inl ⟨hg,rfl,hs⟩⟩
  have hg:(z2s M.2.l k).isSome=true:=by
   cases hq:z2s M.2.l k with
   | none=>exact absurd hq hg
   | some _=>rfl
  refine zy ?_ (by rw [hg];simp)
  refine zdk hs (enc:=z04) [z5k k time] λx w' hs=>?_
  have hs:Sat w' (leP b M::dk M.1.L.d D::slc T.a2 4 x ([z5k k time].flatMap z04)::r):=hs.sub
  refine z8 (zq8 (b:=b) (M:=M) (D:=D) time x [z5k k time] inferInstance h (by simp) hn (λ_=>zv9 _ _ _ _ _) hs) λ_ w' hs=>?_
  obtain ⟨rfl,hs⟩:=hs
  refine zb ?_
  refine wp_lt ?_
  exact ⟨rfl,.inr ⟨hg,x,rfl,hs.sub⟩⟩
def z2c:List BatM->Nat
 | []=>0
 | b::bs=>b.rs.length+z2c bs
def zly (M:LedA):Int:=(z2c (z06 M.1.L.l):Nat)-(M.2.l.length:Nat)
theorem zk9:∀ bs:List BatM,z2c (bs.map BatM.p)=z2c bs
 | []=>rfl
 | b::bs=>by
  rw [List.map_cons]
  show b.rs.length+z2c (bs.map BatM.p)=b.rs.length+z2c bs
  rw [zk9 bs]
theorem zfm:∀ xs ys:List BatM,z2c (xs++ys)=z2c xs+z2c ys
 | [],ys=>by rw [List.nil_append];show _=0+_;omega
 | x::xs,ys=>by
  rw [List.cons_append]
  show x.rs.length+z2c (xs++ys)=x.rs.length+z2c xs+z2c ys
  rw [zfm xs ys];omega
theorem zi2 {n:Nat}:∀ bs:List BatM,(∀ b ∈ bs,b.rs.length<=n)->z2c bs<=bs.length*n
 | [],_=>Nat.zero_le _
 | b::bs,h=>by
  have h1:=zi2 bs λc hc=>h c (List.mem_cons_of_mem _ hc)
  have h2:=h b (List.mem_cons_self ..)
  show b.rs.length+z2c bs<=(bs.length+1)*n
  rw [Nat.succ_mul];omega
end
theorem zr3:∀ (bs:List BatM) (A:PartA),(bs.foldl z4p A).L=A.L
 | [],A=>rfl
 | b::bs,A=>by rw [List.foldl_cons,zr3 bs];rfl
theorem zdc (L:LogA) (most:Int):(z5m L most).L=L:=by unfold z5m;rw [zr3];rfl
theorem zxx (M:LedA) (D:DiskA) (b:BatM):(z21 M D b).2.1.1.L.d=M.1.L.d/\(z21 M D b).2.1.1.L.pre=M.1.L.pre:=by
 obtain ⟨h1,h2,-⟩:=z000 M.1 D b
 unfold z21
 split
 ·exact ⟨h1,h2⟩
 ·exact ⟨h1,h2⟩
theorem z03e {M:LedA} {D:DiskA} (b:BatM) (hp:z3o M.1.L.pre=true) (h:Cpl M.1.L.pre M.1.L.l D):Cpl M.1.L.pre (z21 M D b).2.1.1.L.l (z21 M D b).2.2:=by
 have:=z03u b hp h
 unfold z21
 split
 ·exact this
 ·exact this
section
variable {w:World} {l r r1 r2 r3 l':List HP} {b d t p:Nat} {M:LedA} {D:DiskA}
theorem zxy (pre:ByteArray) (seg gap most:Int) (hp:z3o pre=true) (hc:zdb seg gap) (hm:1<=most/\most<=1024) (hg:D.gone=false) {S:List SegA} (h:Cpl pre S D) (hno:∀ f ∈ D.fs,f.name≠zdh pre/\f.name≠zdj pre)
  (hf0 : -9223372036854775808<=z1b S/\z1b S<9223372036854775808)
  (hlow:∀ a ∈ (z3a (z5m ⟨d,pre,seg,gap,S⟩ most) (z1b S) 1099511627776 true).1.1,-9223372036854775808<=a.off) (hlen:(z3a (z5m ⟨d,pre,seg,gap,S⟩ most) (z1b S) 1099511627776 true).1.1.length<=1000000000)
  (he:z6a ⟨0,[]⟩ (z3a (z5m ⟨d,pre,seg,gap,S⟩ most) (z1b S) 1099511627776 true).1.1=true) [hf:Fo l dk d D r] (hs:Sat w l) :
  Ret P F.a92 #[.pointer (some ⟨d,0,none⟩),.string pre,.agg #[.int .i64 seg,.int .i64 gap,.int .i64 most]] w λvs w'=>∃ b:Nat,vs=[.pointer (some ⟨b,0,none⟩),.int .i64 0] /\
   Sat w' (leP b (z5m ⟨d,pre,seg,gap,S⟩ most,(z7d ⟨0,[]⟩ (z3a (z5m ⟨d,pre,seg,gap,S⟩ most) (z1b S) 1099511627776 true).1.1).2)::dk d D::r) :=
 zup _ pre seg gap most <| by
  delta z080 Ac Ad Af Ai Aj An As Au Av Aw Ax Ay Az
  refine zn (hs.perm hf.perm) λa0 w' hs=>?_
  clear hf
  refine zk hs ?_
  have hs:=hs.pick [1]
  refine z8 (z03p (d:=d) (D:=D) pre seg gap most hp hc hm hg h hno hs) λ_ w' hs=>?_
  obtain ⟨p,rfl,hs⟩:=hs
  refine ⟨(some ⟨p,0,none⟩,0,()),rfl,trivial,z39 _ _ ?_⟩
  refine wp_lt ?_
  refine zy ?_ (by simp)
  refine z8 (z04t hs) λ_ w' hs=>?_
  obtain ⟨t,rfl,hs⟩:=hs
  refine zb ?_
  obtain ⟨A,hA⟩:∃ A,A=z5m ⟨d,pre,seg,gap,S⟩ most:=⟨_,rfl⟩
  have hAL:A.L=⟨d,pre,seg,gap,S⟩:=by rw [hA];exact zdc _ _
  rw [<- hA] at hs hlow hlen he ⊢
  refine zn hs λb w' hs=>?_
  have hs:Sat w' (pt b (.cells #[.pointer (some ⟨t,0,none⟩),.pointer (some ⟨p,0,none⟩)] T.a19)::tbC t ⟨0,[]⟩::paP p A::dk d D::pt a0 (.cells #[.int .i64 seg,.int .i64 gap,.int .i64 most] T.a34)::r):=hs
  refine z8 (zlc (p:=p) (A:=A) hs) λ_ w' hs=>?_
  obtain ⟨rfl,hs⟩:=hs
  refine zb ?_
  have e1:z1b A.L.l=z1b S:=by rw [hAL]
  have hd:A.L.d=d:=by rw [hAL]
  have hcp:Cpl A.L.pre A.L.l D:=by rw [hAL];exact h
  rw [e1]
  have hs:Sat w' (paP p A::dk A.L.d D::pt b (.cells #[.pointer (some ⟨t,0,none⟩),.pointer (some ⟨p,0,none⟩)] T.a19)::tbC t ⟨0,[]⟩::pt a0 (.cells #[.int .i64 seg,.int .i64 gap,.int .i64 most] T.a34)::r):=by rw [hd];exact hs.sub
  refine z8 (z03s (p:=p) (A:=A) (D:=D) (z1b S) 1099511627776 true hf0 (by omega) hcp hs) λ_ w' hs=>?_
  obtain ⟨z,rfl,hs⟩:=hs
  generalize hq:z3a A (z1b S) 1099511627776 true=q at *
  obtain ⟨⟨xs,n⟩,e⟩:=q
  simp only at hs hlow hlen he ⊢
  refine ⟨(z,n,e,()),rfl,trivial,zjt _ _ _ ?_⟩
  refine wp_lt ?_
  refine wp_lt ?_
  refine za hs ?_
  have hs:Sat w' (tbC t ⟨0,[]⟩::slc T.a36 5 z (xs.flatMap z0a)::pt b (.cells #[.pointer (some ⟨t,0,none⟩),.pointer (some ⟨p,0,none⟩)] T.a19)::paP p A::dk A.L.d D::r):=hs.sub
  refine z8 (zk7 (t:=t) (C:=⟨0,[]⟩) z xs hlow he (by show 0+xs.length<=_;omega) hs) λ_ w' hs=>?_
  obtain ⟨rfl,hs⟩:=hs
  refine zb ?_
  refine ⟨rfl,b,rfl,?_⟩
  have hs:Sat w' (leP b (A,(z7d ⟨0,[]⟩ xs).2)::dk A.L.d D::r):=z6w (t:=t) (p:=p) (A,(z7d ⟨0,[]⟩ xs).2) hs
  rw [hd] at hs
  exact hs
theorem zvv {r1:List HP} [hf:Fo l leP b M r1] [hf2:Fo r1 dk M.1.L.d D r] (h:Cpl M.1.L.pre M.1.L.l D) (hs:Sat w l) :
  Ret P F.a91 #[.pointer (some ⟨b,0,none⟩)] w λvs w'=>vs=[.int .i64 (IntKind.wrap .i64 (zly M))]/\Sat w' (leP b M::dk M.1.L.d D::r) :=
 zgt _ <| by
  delta zzo AA AF AM AN AO Ac Ad Af Ai Aj Ak Al An Ao Ap Aq Ar Ay
  have hs:=hs.perm (hf.perm.trans (.cons _ hf2.perm))
  clear hf hf2
  obtain ⟨h1,h2,h3⟩:=h.len
  obtain ⟨t,p,hs⟩:=zar hs
  refine zy ?_ (by simp)
  refine zg ?_
  refine za hs ?_
  have hs:Sat w (paP p M.1::dk M.1.L.d D::pt b (.cells #[.pointer (some ⟨t,0,none⟩),.pointer (some ⟨p,0,none⟩)] T.a19)::tbC t M.2::r):=hs.sub
  refine z8 (zsi (p:=p) (A:=M.1) (D:=D) h hs) λ_ w' hs=>?_
  obtain ⟨z,outs,rfl,hm,hs⟩:=hs
  refine zb ?_
  have hlz:=hs.slen z (xs:=outs) (enc:=zv)
  have hov:∀ b ∈ outs,b.rs.length<=64:=λb hb=>by
   have h1:b.p ∈ z06 M.1.L.l:=by rw [<- hm];exact List.mem_map.2 ⟨b,hb,rfl⟩
   exact (z2v ((zd7 (Int.le_refl 0) h.segs).valid _ h1).1).1
  have hol:outs.length<=1000000:=by
   have:=congrArg List.length hm
   rw [List.length_map] at this
   omega
  have hcount:z2c outs=z2c (z06 M.1.L.l):=by rw [<- hm,zk9]
  refine zf (λq w'=>q=(((z2c outs:Nat):Int),())/\Sat w' (leP b M::dk M.1.L.d D::r)) ?_ ?_
  rotate_left
  ·rintro _ w2 ⟨rfl,hs⟩
   refine zm ?_
   refine z8 (zqa (b:=b) (M:=M) hs) λ_ w' hs=>?_
   obtain ⟨rfl,hs⟩:=hs
   refine zb ?_
   refine wp_lt ?_
   refine ⟨rfl,?_,hs⟩
   unfold zly
   rw [hcount]
  refine z03 (λm q w=>∃ i:Nat,q=(((z2c (outs.take i):Nat):Int),(i:Int),())/\i<=outs.length/\outs.length-i=m/\Sat w (slc T.a0 7 z (outs.flatMap zv)::z1j outs::paP p M.1::dk M.1.L.d D::pt b (.cells #[.pointer (some ⟨t,0,none⟩),.pointer (some ⟨p,0,none⟩)] T.a19)::tbC t M.2::r)) outs.length ⟨0,rfl,by omega,rfl,hs.sub⟩ ?_
  clear hs
  rintro m _ w ⟨i,rfl,hi,hm2,hs⟩
  refine z39 _ _ ?_
  refine ze (λhc=>?_) λhc=>?_
  rotate_left
  ·rw [List.take_of_length_le (by omega)]
   exact zh (zj ⟨rfl,z6w (t:=t) (p:=p) M hs⟩)
  have hil:i<outs.length:=by omega
  have htk:outs.take (i+1)=outs.take i++[outs[i]]:=by rw [List.take_add_one,List.getElem?_eq_getElem hil,Option.toList_some]
  have hcr:z2c (outs.take (i+1))=z2c (outs.take i)+outs[i].rs.length:=by rw [htk,zfm];rfl
  have hle:=zi2 (n:=64) (outs.take i) λc hc=>hov c (List.mem_of_mem_take hc)
  rw [List.length_take] at hle
  have hr64:=hov _ (List.getElem_mem hil)
  have hbr:FocR (slc T.a0 7 z (outs.flatMap zv)::z1j outs::paP p M.1::dk M.1.L.d D::pt b (.cells #[.pointer (some ⟨t,0,none⟩),.pointer (some ⟨p,0,none⟩)] T.a19)::tbC t M.2::r) outs[i].x 4 (outs[i].rs.flatMap z04):=⟨λw hs=>(zai (List.getElem_mem hil)).rd w hs.tail⟩
  have hbl:=hs.slen outs[i].x (xs:=outs[i].rs) (enc:=z04)
  refine z4l hs i hil ?_
  refine zq hs λa15 w' hs=>?_
  refine zr hs λw' hs=>?_
  refine za hs ?_
  rw [hbl,w64 (by omega) (by omega)]
  refine wp_lt ?_
  refine z2z (us':=[.int .i64 ((z2c (outs.take (i+1)):Nat):Int),.int .i64 ((i+1:Nat):Int)]) (by (try simp (disch:=omega) only [w64]);first|rfl|(congr;omega)) ?_
  exact z11 (outs.length-(i+1)) ⟨i+1,rfl,by omega,rfl,hs.sub⟩
def s13 (seg:Int):Int:=64+(if Int.tmod seg 200<0 then 0-Int.tmod seg 200 else Int.tmod seg 200)
theorem z060 (seg:Int):64<=s13 seg/\s13 seg<=263:=by
 have h1:=Int.lt_tmod_of_pos seg (b:=200) (by omega)
 have h2:=Int.tmod_lt_of_pos seg (b:=200) (by omega)
 unfold s13
 split <;> omega
theorem zrl (seg:Int) (hs:Sat w l):Ret P F.a217 #[.int .i64 seg] w λvs w'=>vs=[.agg #[.int .i64 (s13 seg),.int .i64 30,.int .i64 2]]/\Sat w' l :=
 zp1 seg <| by
  delta z021 Ac Af Ai An Ao Ap Aq Ar As Au
  have h1:=Int.lt_tmod_of_pos seg (b:=200) (by omega)
  have h2:=Int.tmod_lt_of_pos seg (b:=200) (by omega)
  have hb:=z060 seg
  unfold s13 at hb ⊢
  generalize Int.tmod seg 200=s at *
  refine zq hs λa0 w' hs=>?_
  refine wp_lt ?_
  refine zf (λq w'=>q=((if s<0 then 0-s else s),())/\Sat w' (pt a0 (.cells [.int .i64 0,.int .i64 0,.int .i64 0].toArray T.a34)::l)) ?_ ?_
  ·refine ze (λh=>?_) λh=>?_
   ·rw [w64 (by omega) (by omega)]
    refine wp_lt ?_
    exact zj ⟨by rw [if_pos h],hs⟩
   ·exact zj ⟨by rw [if_neg h],hs⟩
  clear hs
  rintro _ w ⟨rfl,hs⟩
  refine zm ?_
  rw [w64 (by omega) (by omega)]
  refine zr hs λw' hs=>?_
  refine zk hs ?_
  exact ⟨rfl,rfl,hs.tail⟩
end
def gP:ByteArray:=ByteArray.mk #[120]
def gM (d:Nat):LedA:=(z5m ⟨d,gP,64,30,[]⟩ 2,⟨0,[]⟩)
def gD:DiskA:=⟨65536,-1,false,[]⟩
abbrev gA:ByteArray:=ByteArray.mk #[97]
abbrev gB:ByteArray:=ByteArray.mk #[98]
theorem g1 (d:Nat) (x:Sl):(z21 (gM d) gD (z0z 0 x [z2m gA (ByteArray.mk #[49]) 0])).1=0/\z6a (gM d).2 (z1x ((z0z 0 x [z2m gA (ByteArray.mk #[49]) 0]).to (z1i (gM d).1 gD (z0z 0 x [z2m gA (ByteArray.mk #[49]) 0])).1.1))=true:=⟨by kernel_rfl,by kernel_rfl⟩
section
variable {d:Nat} {x1 x2 x3 x4:Sl} {S U V W:LedA × DiskA}
theorem g2 (x:Sl) (h:S=(z21 (gM d) gD (z0z 0 x1 [z2m gA (ByteArray.mk #[49]) 0])).2):(z21 S.1 S.2 (z0z 0 x [z2m gA (ByteArray.mk #[50]) 0])).1=0/\z6a S.1.2 (z1x ((z0z 0 x [z2m gA (ByteArray.mk #[50]) 0]).to (z1i S.1.1 S.2 (z0z 0 x [z2m gA (ByteArray.mk #[50]) 0])).1.1))=true/\S.1.2.l.length=1:=by subst h;exact ⟨by kernel_rfl,by kernel_rfl,by kernel_rfl⟩
theorem g3 (x:Sl) (h:S=(z21 (gM d) gD (z0z 0 x1 [z2m gA (ByteArray.mk #[49]) 0])).2) (h2:U=(z21 S.1 S.2 (z0z 0 x2 [z2m gA (ByteArray.mk #[50]) 0])).2):(z21 U.1 U.2 (z0z 0 x [z2m gB (ByteArray.mk #[120]) 0])).1=0/\z6a U.1.2 (z1x ((z0z 0 x [z2m gB (ByteArray.mk #[120]) 0]).to (z1i U.1.1 U.2 (z0z 0 x [z2m gB (ByteArray.mk #[120]) 0])).1.1))=true/\U.1.2.l.length=1:=by subst h h2;exact ⟨by kernel_rfl,by kernel_rfl,by kernel_rfl⟩
theorem g4 (x:Sl) (h:S=(z21 (gM d) gD (z0z 0 x1 [z2m gA (ByteArray.mk #[49]) 0])).2) (h2:U=(z21 S.1 S.2 (z0z 0 x2 [z2m gA (ByteArray.mk #[50]) 0])).2) (h3:V=(z21 U.1 U.2 (z0z 0 x3 [z2m gB (ByteArray.mk #[120]) 0])).2) :
  (z2s V.1.2.l gB).isSome=true/\(z21 V.1 V.2 (z0z 1 x [z5k gB 1])).1=0/\z6a V.1.2 (z1x ((z0z 1 x [z5k gB 1]).to (z1i V.1.1 V.2 (z0z 1 x [z5k gB 1])).1.1))=true/\V.1.2.l.length=2:=by subst h h2 h3;exact ⟨by kernel_rfl,by kernel_rfl,by kernel_rfl,by kernel_rfl⟩
theorem g5 (h:S=(z21 (gM d) gD (z0z 0 x1 [z2m gA (ByteArray.mk #[49]) 0])).2) (h2:U=(z21 S.1 S.2 (z0z 0 x2 [z2m gA (ByteArray.mk #[50]) 0])).2) (h3:V=(z21 U.1 U.2 (z0z 0 x3 [z2m gB (ByteArray.mk #[120]) 0])).2) (h4:W=(z21 V.1 V.2 (z0z 1 x4 [z5k gB 1])).2) :
  (orC (z2s W.1.2.l gA)).r.value=ByteArray.mk #[50]/\(z2s W.1.2.l gA).isSome=true/\z2s W.1.2.l gB=none/\W.1.2.l.length=1/\zly W.1=3:=by subst h h2 h3 h4;exact ⟨by kernel_rfl,by kernel_rfl,by kernel_rfl,by kernel_rfl,by kernel_rfl⟩
theorem zs0 (b:BatM) (h:S.1.1.L.d=d/\S.1.1.L.pre=gP/\Cpl gP S.1.1.L.l S.2) (h2:U=(z21 S.1 S.2 b).2):U.1.1.L.d=d/\U.1.1.L.pre=gP/\Cpl gP U.1.1.L.l U.2:=by
 obtain ⟨e1,e2,e3⟩:=h
 have h1:=zxx S.1 S.2 b
 rw [<- e2] at e3
 have h3:=z03e (M:=S.1) (D:=S.2) b (by rw [e2];kernel_rfl) e3
 rw [<- h2] at h1 h3
 exact ⟨h1.1.trans e1,h1.2.trans e2,by rw [e2] at h3;exact h3⟩
end
theorem gdk {w:World} {d e:Nat} {D:DiskA} {X:HP} {l:List HP} (h:d=e) (hs:Sat w (X::dk d D::l)):Sat w (X::dk e D::l):=by rw [<- h];exact hs
section
variable {w:World} {l r:List HP}
set_option maxHeartbeats 1000000 in
theorem zuu (hs:Sat w l):Ret P F.a216 #[] w λvs w'=>vs=[.bool true]/\Sat w' l :=
 z9k <| by
  unfold z8g
  refine z8 (z05i 65536 (by omega) hs) λ_ w' hs=>?_
  obtain ⟨d,rfl,hs⟩:=hs
  refine ⟨(some ⟨d,0,none⟩,0,()),rfl,trivial,z39 _ _ ?_⟩
  refine wp_lt ?_
  have hs:Sat w' (dk d gD::l):=hs
  refine z8 (zrl 0 hs) λ_ w' hs=>?_
  obtain ⟨rfl,hs⟩:=hs
  have e64:s13 0=64:=by decide
  rw [e64]
  refine ⟨(64,30,2,()),rfl,trivial,zjt _ _ _ ?_⟩
  have hp0:z3o gP=true:=by kernel_rfl
  have c0:Cpl gP [] gD:=zv2 gP 65536 (by omega)
  have er:(z3a (z5m ⟨d,gP,64,30,[]⟩ 2) (z1b []) 1099511627776 true).1.1=[]:=by kernel_rfl
  refine z8 (zxy (d:=d) (D:=gD) gP 64 30 2 hp0 ⟨by decide,by decide⟩ (by omega) rfl c0 (λf hf=>by cases hf) ⟨by decide,by decide⟩ (by rw [er];intro a ha;cases ha) (by rw [er];exact Nat.zero_le _) (by rw [er];rfl) hs) λ_ w' hs=>?_
  obtain ⟨b,rfl,hs⟩:=hs
  rw [er] at hs
  refine ⟨(some ⟨b,0,none⟩,0,()),rfl,trivial,z39 _ _ ?_⟩
  refine wp_lt ?_
  refine zy ?_ (by simp)
  have hs:Sat w' (leP b (gM d)::dk d gD::l):=hs
  have k0:(gM d).1.L.d=d/\(gM d).1.L.pre=gP/\Cpl gP (gM d).1.L.l gD:=⟨by unfold gM;rw [zdc],by unfold gM;rw [zdc],by unfold gM;rw [zdc];exact c0⟩
  have hs:=gdk k0.1.symm hs
  refine z8 (zh6 (b:=b) (M:=gM d) (D:=gD) gA (ByteArray.mk #[49]) 0 (by rw [k0.2.1];exact k0.2.2) (Nat.zero_le _) (λx _=>(g1 d x).2) hs) λ_ w' hs=>?_
  obtain ⟨x1,hv,hs⟩:=hs
  rw [(g1 d x1).1] at hv
  subst hv
  refine zb ?_
  rw [k0.1] at hs
  obtain ⟨S,hS⟩:∃ S,S=(z21 (gM d) gD (z0z 0 x1 [z2m gA (ByteArray.mk #[49]) 0])).2:=⟨_,rfl⟩
  rw [<- hS] at hs
  have k1:=zs0 (S:=(gM d,gD)) _ k0 hS
  have hs:=gdk k1.1.symm hs
  refine z8 (zh6 (b:=b) (M:=S.1) (D:=S.2) gA (ByteArray.mk #[50]) 0 (by rw [k1.2.1];exact k1.2.2) (by have:=(g2 x1 hS).2.2;omega) (λx _=>(g2 x hS).2.1) hs) λ_ w' hs=>?_
  obtain ⟨x2,hv,hs⟩:=hs
  rw [(g2 x2 hS).1] at hv
  subst hv
  refine zb ?_
  rw [k1.1] at hs
  obtain ⟨U,hU⟩:∃ U,U=(z21 S.1 S.2 (z0z 0 x2 [z2m gA (ByteArray.mk #[50]) 0])).2:=⟨_,rfl⟩
  rw [<- hU] at hs
  have k2:=zs0 _ k1 hU
  have hs:=gdk k2.1.symm hs
  refine z8 (zh6 (b:=b) (M:=U.1) (D:=U.2) gB (ByteArray.mk #[120]) 0 (by rw [k2.2.1];exact k2.2.2) (by have:=(g3 x1 hS hU).2.2;omega) (λx _=>(g3 x hS hU).2.1) hs) λ_ w' hs=>?_
  obtain ⟨x3,hv,hs⟩:=hs
  rw [(g3 x3 hS hU).1] at hv
  subst hv
  refine zb ?_
  rw [k2.1] at hs
  obtain ⟨V,hV⟩:∃ V,V=(z21 U.1 U.2 (z0z 0 x3 [z2m gB (ByteArray.mk #[120]) 0])).2:=⟨_,rfl⟩
  rw [<- hV] at hs
  have k3:=zs0 _ k2 hV
  have hs:=gdk k3.1.symm hs
  refine z8 (zku (b:=b) (M:=V.1) (D:=V.2) gB 1 (by rw [k3.2.1];exact k3.2.2) (by have:=(g4 x1 hS hU hV).2.2.2;omega) hs) λ_ w' hs=>?_
  rcases hs with ⟨h0,-,-⟩|⟨-,x4,hv,hs⟩
  ·have:=(g4 x1 hS hU hV).1
   rw [h0] at this;cases this
  rw [(g4 x4 hS hU hV).2.1] at hv
  subst hv
  refine zb ?_
  rw [k3.1] at hs
  obtain ⟨W,hW⟩:∃ W,W=(z21 V.1 V.2 (z0z 1 x4 [z5k gB 1])).2:=⟨_,rfl⟩
  rw [<- hW] at hs
  have k4:=zs0 _ k3 hW
  have hs:=gdk k4.1.symm hs
  obtain ⟨q1,q2,q3,q4,q5⟩:=g5 hS hU hV hW
  refine wp_lt ?_
  refine wp_lt ?_
  refine wp_lt ?_
  refine wp_lt ?_
  refine z8 (zq9 (b:=b) (M:=W.1) gA hs) λ_ w' hs=>?_
  obtain ⟨rfl,hs⟩:=hs
  rw [q1,q2]
  refine ⟨(ByteArray.mk #[50],true,()),rfl,trivial,z39 _ _ ?_⟩
  refine wp_lt ?_
  refine wp_lt ?_
  refine z8 (zq9 (b:=b) (M:=W.1) gB hs) λ_ w' hs=>?_
  obtain ⟨rfl,hs⟩:=hs
  rw [q3]
  refine ⟨(ByteArray.mk #[],false,()),rfl,trivial,z39 _ _ ?_⟩
  refine wp_lt ?_
  refine wp_lt ?_
  refine zf (λq w'=>q=(true,())/\Sat w' l) ?_ ?_
  rotate_left
  ·rintro _ w2 ⟨rfl,hs⟩
   refine zm ?_
   exact ⟨rfl,rfl,hs⟩
  refine z0c ?_ (by simp)
  refine z8 (zqa (b:=b) (M:=W.1) hs) λ_ w' hs=>?_
  obtain ⟨rfl,hs⟩:=hs
  refine zb ?_
  refine z0c ?_ (by rw [q4];rfl)
  refine z8 (zvv (b:=b) (M:=W.1) (D:=W.2) (by rw [k4.2.1];exact k4.2.2) hs) λ_ w' hs=>?_
  obtain ⟨rfl,hs⟩:=hs
  refine zb ?_
  refine z0c ?_ (by rw [q5];rfl)
  refine z8 (zku (b:=b) (M:=W.1) (D:=W.2) gB 2 (by rw [k4.2.1];exact k4.2.2) (by omega) hs) λ_ w' hs=>?_
  rcases hs with ⟨-,rfl,hs⟩|⟨h0,-⟩
  rotate_left
  ·rw [q3] at h0;cases h0
  refine zb ?_
  refine wp_lt ?_
  exact zj ⟨rfl,hs.tail.tail⟩
theorem zmh (a:Int) (hs:Sat w l):Ret P F.a85 #[.pointer none,.int .i64 a] w λvs w'=>vs=[.int .i64 0,.int .i64 1]/\Sat w' l :=
 zun _ _ <| by
  delta z07y AA Ac Ad Ae Af Ai An Ay
  refine z0c ?_ (by simp)
  exact ⟨rfl,rfl,hs⟩
theorem zvs (k:ByteArray) (hs:Sat w l):Ret P F.a87 #[.pointer none,.string k] w λvs w'=>vs=[.string (ByteArray.mk #[]),.bool false]/\Sat w' l :=
 zgq _ _ <| by
  delta zzl AA AB AC Ab Ad Ag Ai An Ao Ar Ay
  refine z0c ?_ (by simp)
  exact ⟨rfl,rfl,hs⟩
theorem zil (a:Int) (x:Sl) (hs:Sat w l):Ret P F.a84 #[.pointer none,.int .i64 a,x.v] w λvs w'=>vs=[.int .i64 1]/\Sat w' l :=
 zgo _ _ _ <| by
  delta zzj AA AE AF AG AH AI AJ AK AL Ac Ad Af Ag Ai Aj Ak An Ao Ar Ay
  refine z0c ?_ (by simp)
  exact ⟨rfl,rfl,hs⟩
theorem zvu (k v:ByteArray) (a:Int) (hs:Sat w l):Ret P F.a90 #[.pointer none,.string k,.string v,.int .i64 a] w λvs w'=>vs=[.int .i64 1]/\Sat w' l :=
 zgs _ _ _ _ <| by
  delta zzn AD AE Ac Ad Af Aj An
  refine zdk hs (enc:=z04) [z2m k v a] λx w' hs=>?_
  refine z8 (zil a x hs) λ_ w' hs=>?_
  obtain ⟨rfl,hs⟩:=hs
  refine zb ?_
  refine wp_lt ?_
  exact ⟨rfl,rfl,hs.tail⟩
theorem zs8 (k:ByteArray) (a:Int) (hs:Sat w l):Ret P F.a86 #[.pointer none,.string k,.int .i64 a] w λvs w'=>vs=[.int .i64 1]/\Sat w' l :=
 zgp _ _ _ <| by
  delta zzk AA AB AE Ac Ad Af Ag Ai Aj An Ao Ar Ay
  refine z0c ?_ (by simp)
  exact ⟨rfl,rfl,hs⟩
theorem zmi (a b:ByteArray) (n:Int) (hs:Sat w l):Ret P F.a89 #[.pointer none,.string a,.string b,.int .i64 n] w λvs w'=>vs=[.slice none 0 0]/\Sat w' l :=
 zuo _ _ _ _ <| by
  delta z07z AA Ac Ad Ai Ak An Ay
  refine z0c ?_ (by simp)
  exact ⟨rfl,rfl,hs⟩
theorem zvt (hs:Sat w l):Ret P F.a88 #[.pointer none] w λvs w'=>vs=[.int .i64 0]/\Sat w' l :=
 zgr _ <| by
  delta zzm AA Ac Ad Af Ai Aj An Ay
  refine z0c ?_ (by simp)
  exact ⟨rfl,rfl,hs⟩
theorem zmj (hs:Sat w l):Ret P F.a91 #[.pointer none] w λvs w'=>vs=[.int .i64 0]/\Sat w' l :=
 zgt _ <| by
  delta zzo AA AF AM AN AO Ac Ad Af Ai Aj Ak Al An Ao Ap Aq Ar Ay
  refine z0c ?_ (by simp)
  exact ⟨rfl,rfl,hs⟩
def zhk (s:ByteArray):ByteArray:=if s.size>12 then s.extract 0 12 else s
theorem zwj (s:ByteArray) (hs:Sat w l):Ret P F.a218 #[.string s] w λvs w'=>vs=[.string (zhk s)]/\Sat w' l :=
 zp2 s <| by
  delta z022 Ab Ai An;unfold zhk
  refine ze (λh=>?_) λh=>?_
  ·rw [if_pos (by omega)]
   refine wp_must (by omega) ?_
   refine wp_lt ?_
   exact ⟨rfl,rfl,hs⟩
  ·rw [if_neg (by omega)]
   refine wp_lt ?_
   exact ⟨rfl,rfl,hs⟩
theorem z08y (key:ByteArray) (time:Int) (hs:Sat w l):Ret P F.a215 #[.string key,.int .i64 time] w λvs w'=>vs=[.bool true]/\Sat w' l :=
 zp0 key time <| by
  delta z020 Aa Ab Ac Ad Ae Af Ag Ah Ai Aj Ak Al Am An
  refine z8 (zwj key hs) λ_ w' hs=>?_
  obtain ⟨rfl,hs⟩:=hs
  refine zb ?_
  generalize zhk key=k
  refine wp_lt ?_
  refine z8 (zmh _ hs) λ_ w' hs=>?_
  obtain ⟨rfl,hs⟩:=hs
  refine ⟨(0,1,()),rfl,trivial,z39 _ _ ?_⟩
  refine wp_lt ?_
  refine wp_lt ?_
  refine z8 (zvs _ hs) λ_ w' hs=>?_
  obtain ⟨rfl,hs⟩:=hs
  refine ⟨(ByteArray.mk #[],false,()),rfl,trivial,z39 _ _ ?_⟩
  refine wp_lt ?_
  refine wp_lt ?_
  refine zf (λq w'=>q=(true,())/\Sat w' l) ?_ ?_
  rotate_left
  ·rintro _ w2 ⟨rfl,hs⟩
   refine zm ?_
   exact ⟨rfl,rfl,hs⟩
  refine z0c ?_ (by simp)
  refine z8 (zvu _ _ _ hs) λ_ w' hs=>?_
  obtain ⟨rfl,hs⟩:=hs
  refine zb ?_
  refine z0c ?_ (by simp)
  refine z8 (zs8 _ _ hs) λ_ w' hs=>?_
  obtain ⟨rfl,hs⟩:=hs
  refine zb ?_
  refine z0c ?_ (by simp)
  refine z8 (zil _ ⟨none,0,0⟩ hs) λ_ w' hs=>?_
  obtain ⟨rfl,hs⟩:=hs
  refine zb ?_
  refine z0c ?_ (by simp)
  refine z8 (zmi _ _ _ hs) λ_ w' hs=>?_
  obtain ⟨rfl,hs⟩:=hs
  refine ⟨(⟨none,0,0⟩,()),rfl,trivial,?_⟩
  refine zm ?_
  refine z0c ?_ (by simp)
  refine z8 (zvt hs) λ_ w' hs=>?_
  obtain ⟨rfl,hs⟩:=hs
  refine zb ?_
  refine z0c ?_ (by simp)
  refine z8 (zmj hs) λ_ w' hs=>?_
  obtain ⟨rfl,hs⟩:=hs
  refine zb ?_
  refine z0c ?_ (by simp)
  refine z8 (zuu hs) λ_ w' hs=>?_
  obtain ⟨rfl,hs⟩:=hs
  refine zb ?_
  refine wp_lt ?_
  exact zj ⟨rfl,hs⟩
end
end Go.Dec
