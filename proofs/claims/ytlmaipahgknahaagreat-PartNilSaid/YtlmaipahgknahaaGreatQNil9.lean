/- What the claim of this folder leans on: our own texts, joined, without what it does not use. -/
import Derived.Test.YtlmaipahgknahaaGreatRows
import Derived.WalkKit
import Derived.ProofKit
import Derived.OpenShut
import Derived.RowKit3
import Derived.OrdersHeld
import Derived.Scope
import Derived.KernelRfl
import Derived.Laws.Sem
import Derived.Laws.StructEq
import Derived.Deep.AppendSrc
import Derived.Laws.BytesArg
import Derived.Laws.RangeString
import Derived.Maps.RangeRun
import Derived.Lib.ConvBytes
import Derived.Lib.SlBytesConst
import Derived.ChangeSlices
import Derived.ChangeMaps5
import Derived.ChangeSame
import Derived.Deep.Slices
import Derived.Deep.Fields
import Derived.Test.YtlmaipahgknahaaGreatProg
import Derived.WideKeyRuns
import Derived.DeepKeys3
import Derived.Laws.MakeOwn
import Derived.Sort.MapsRangeIn
import Derived.Sort.KeysCollected
import Derived.RangeFuncNested
import Derived.RangeFuncBound
import Derived.RangeFuncCalls
import Derived.RangeFuncLeaves
import Derived.RangeFuncBox
import Derived.OwnWalkIn
import Derived.TacticsInMore
import Derived.RegionIn
import Derived.LoopNIn
import Derived.LoopIn
import Derived.Maps.AppendAt
import Derived.Shelf.Abstract
import Derived.Shelf.Sort.Plain
import Derived.Shelf.Slices.In.SortNone
import Derived.Test.YtlmaipahgknahaaGreatQNil1
import Derived.Test.YtlmaipahgknahaaGreatQNil2
import Derived.Test.YtlmaipahgknahaaGreatQNil3
import Derived.Test.YtlmaipahgknahaaGreatQNil4
import Derived.Test.YtlmaipahgknahaaGreatQNil5
import Derived.Test.YtlmaipahgknahaaGreatQNil6
import Derived.Test.YtlmaipahgknahaaGreatQNil7
import Derived.Test.YtlmaipahgknahaaGreatQNil8
set_option linter.unusedVariables false
set_option linter.unusedSimpArgs false
namespace Go.Dec
structure SegR where
 base:Int
 fin:Int
 x:Sl
 bs:List BatM
structure RefM where
 seg:Int
 gap:Int
 SR:List SegR
def SegR.p (s:SegR):SegA:=⟨s.base,s.fin,s.bs.map BatM.p⟩
def RefM.l (R:RefM):List SegA:=R.SR.map SegR.p
def RefM.bs (R:RefM):List BatM:=R.SR.flatMap SegR.bs
def zeg (s:SegR):List Value:=[.int .i64 s.base,.int .i64 s.fin,.slice s.x.a s.x.len s.x.cap]
instance:EncA zeg [.int .i64,.int .i64,.slc] (λs=>(s.base,s.fin,s.x,())):=⟨λ_=>rfl⟩
instance:EncN zeg 3:=⟨λ_=>rfl,by decide,by simp [zeg,Value.oneCell']⟩
instance:EncF zeg 0 (.int .i64) (λs=>s.base):=⟨λ_=>rfl⟩
section
variable {w:World} {l r:List HP} {a:Nat} {R:RefM}
theorem ze9:z05 R.l=R.bs.map BatM.p:=by
 unfold z05 RefM.l RefM.bs
 rw [List.flatMap_map,List.map_flatMap]
 rfl
class okR (R:RefM) (l:List HP):Prop where
 segs:z0a 0 R.l
 rd:∀ b ∈ R.bs,FocR l b.x 4 (b.rs.flatMap z02)
 len:R.SR.length<=1000000
 all:R.bs.length<=1000000
theorem okR.valid {L:List HP} (h:okR R L):∀ s ∈ R.SR,SegOk s.p/\(∀ b ∈ s.bs,z03 b=0/\FocR L b.x 4 (b.rs.flatMap z02))/\s.bs.length<=1000000:=λs hs=>by
 have h1:=(h.segs.mem s.p (List.mem_map.2 ⟨s,hs,rfl⟩)).1
 refine ⟨h1,λb hb=>⟨(h1.bs.valid b.p (List.mem_map.2 ⟨b,hb,rfl⟩)).1,h.rd b (List.mem_flatMap.2 ⟨s,hs,hb⟩)⟩,?_⟩
 refine Nat.le_trans ?_ h.all
 obtain ⟨u,v,huv⟩:=List.append_of_mem hs
 unfold RefM.bs
 rw [huv]
 simp only [List.flatMap_append,List.flatMap_cons,List.length_append]
 omega
instance okR.cons {H:HP} {L:List HP} [h:okR R L]:okR R (H::L):=⟨h.segs,λb hb=>by have:=h.rd b hb;infer_instance,h.len,h.all⟩
end
instance:EncF z02 0 .str (λr=>r.key):=⟨λ_=>rfl⟩
section
variable {w:World} {l r:List HP} {a:Nat} {R:RefM} {z:Sl} {g1 g2:Int}
theorem okR.base {L:List HP} (h:okR R L):∀ s ∈ R.SR,0<=s.base/\s.base<=1099511627776:=λs hs=>(h.valid s hs).1.base
end
instance:EncF zeg 2 .slc (λs=>s.x):=⟨λ_=>rfl⟩
def SegR.add (s:SegR) (z:Sl) (q:List BatM):SegR:=⟨s.base,s.fin,z,s.bs++q⟩
def zaa (t:ByteArray):ByteArray:=if t.size>30 then t.extract 0 30 else t
def zku (r:RecM):RecM:=⟨zaa r.key,zaa r.value,r.gone,r.time⟩
def z0d (b:BatM):BatM:=⟨b.base,b.pid,b.epoch,b.seq,b.kind,b.time,z7c,(b.rs.take 6).map zku⟩
theorem zdb (t:ByteArray):(zaa t).size<=30:=by
 unfold zaa
 split
 ·rw [ByteArray.size_extract];omega
 ·omega
theorem zuv (b:BatM) (n:Int) (z:Sl):2<=(z2c (((z0d b).at z).to n)).length/\(z2c (((z0d b).at z).to n)).length<=668:=by
 have h:=zog (b:=((z0d b).at z).to n) (n:=60) λr hr=>by
  obtain ⟨q,-,rfl⟩:=List.mem_map.1 (show r ∈ (b.rs.take 6).map zku from hr)
  have h1:=zdb q.key
  have h2:=zdb q.value
  show (zaa q.key).size+(zaa q.value).size<=60
  omega
 have h3:(((z0d b).at z).to n).rs.length<=6:=by
  show ((b.rs.take 6).map zku).length<=6
  rw [List.length_map,List.length_take];omega
 omega
abbrev cZ (b:BatM) (z:Sl):Array Value:=#[.int .i64 b.base,.int .i64 b.pid,.int .i64 b.epoch,.int .i64 b.seq,.int .i64 b.kind,.int .i64 b.time,.slice z.a z.len z.cap]
theorem zi8 {nm:SegA->ByteArray}:∀ {fs:List FileA} {l:List SegA},fs.map (·.name)=l.map nm->(∀ f ∈ fs,∀ s ∈ l,f.name=nm s->f.b=s.file)->used fs=z58 l
 | [],[],_,_=>rfl
 | [],s::l,h,_=>by simp at h
 | f::fs,[],h,_=>by simp at h
 | f::fs,s::l,h,hh=>by
  rw [List.map_cons,List.map_cons,List.cons.injEq] at h
  have h1:=hh f (List.mem_cons_self ..) s (List.mem_cons_self ..) h.1
  have h2:=zi8 h.2 λf hf s hs=>hh f (List.mem_cons_of_mem _ hf) s (List.mem_cons_of_mem _ hs)
  rw [z1d,h2,h1]
  simp [z58]
theorem Cpl.sizes {pre:ByteArray} {l:List SegA} {D:DiskA} (h:Cpl pre l D):l.length<=D.fs.length/\z58 l<=used D.fs:=by
 have hn:=h.names
 have e:(D.fs.filter λf=>(bl (z11 pre)).isPrefixOf (bl f.name)).map (·.name)=l.map λs=>zl pre s.base zr:=by
  rw [<- hn]
  unfold z0w
  rw [List.filter_map]
  congr 1
  apply List.filter_congr
  intro f _
  show _=Go.Proofs.YtlmaipahgknahaaGreat.preF (z11 pre) f.name
  rw [zpa]
 have hs:=zi8 e λf hf s hs hfs=>by
  have h1:=zbq (z2h h.ok.sorted) (List.mem_filter.1 hf).1
  obtain ⟨k,hk⟩:=h.has s hs
  rw [hfs,hk] at h1
  simp only [Option.some.injEq,Prod.mk.injEq] at h1
  exact h1.1.symm
 have hl:=congrArg List.length e
 rw [List.length_map,List.length_map] at hl
 exact ⟨by rw [<- hl];exact List.length_filter_le _ _,by rw [<- hs];exact ze8 List.filter_sublist⟩
theorem zpk:∀ {n:Int} {l:List SegA},z0a n l->(z05 l).length*10<=z58 l
 | _,[],_=>Nat.le_refl _
 | n,s::l,⟨h1,h2,h3⟩=>by
  have h4:=zpk h3
  have h5:=zg5 h2
  have e1:z05 (s::l)=s.bs++z05 l:=by simp [z05]
  have e2:z58 (s::l)=s.file.length+z58 l:=by simp [z58]
  rw [e1,e2,List.length_append]
  omega
theorem Cpl.len {pre:ByteArray} {l:List SegA} {D:DiskA} (h:Cpl pre l D):l.length<=128/\(z05 l).length<=500000/\∀ s ∈ l,s.file.length<=4194304:=by
 obtain ⟨h1,h2⟩:=h.sizes
 have h3:=zpk h.segs
 have h4:=h.ok.many
 have h5:=h.ok.used
 refine ⟨by omega,by omega,λs hs=>?_⟩
 obtain ⟨k,hk⟩:=h.has s hs
 exact Nat.le_trans (zch hk) h5
theorem zll (b:BatM) (z:Sl) (n:Int):((zw n [(z0d b).at z]).2.flatMap frL).length<=676:=by
 unfold zw
 split
 ·exact Nat.zero_le _
 ·rename_i hv
  have hv:=Decidable.not_not.1 hv
  split
  ·exact Nat.zero_le _
  ·show ((((z0d b).at z).to n)::(zw _ []).2 |>.flatMap frL).length<=676
   have h1:=zuv b n z
   have h2:=z4i hv
   simp only [zw,List.flatMap_cons,List.flatMap_nil,List.append_nil]
   omega
theorem zx3 {seg:Int} {l:List SegA} {bs:List BatM}:z58 (z1b seg l bs).2<=z58 l+((zw (zq l) bs).2.flatMap frL).length+29:=by
 unfold z1b
 split
 ·simp only;omega
 split
 ·simp only;omega
 simp only
 split
 ·rename_i hr
  have hne:l≠[]:=by rintro rfl;cases hr
  obtain ⟨l0,s,rfl⟩:=z30 hne
  rw [z3f,z6r,z6r,z6g,List.length_append]
  omega
 ·have:=zgp (zq l) 0
  rw [z6r,ze4,List.length_append]
  omega
theorem zr6 (seg:Int) (l:List SegA) (b:BatM) (z1 z2:Sl):z1b seg l [(z0d b).at z1]=z1b seg l [(z0d b).at z2]:=by
 rw [<- zke,<- zke seg l [(z0d b).at z2]]
 rfl
theorem z2m (l:List SegA) (s:SegA):z05 (l++[s])=z05 l++s.bs:=by simp [z05]
theorem zu9 {a b:List BatM} (h:b≠[]):z0b (a++b)=z0b b:=by
 obtain ⟨b0,x,rfl⟩:=z30 h
 rw [<- List.append_assoc,z39,z39]
theorem ze0 {seg:Int} {l:List SegA} {bs:List BatM} (hok:z0a 0 l) (hb:bs≠[]) (hp:(zw (zq l) bs).1=0) :
  z05 (z1b seg l bs).2=z05 l++(zw (zq l) bs).2.map BatM.p/\zq (z1b seg l bs).2=z0b ((zw (zq l) bs).2.map BatM.p):=by
 have hq1:=(zc9 hp).1
 have hq:(zw (zq l) bs).2.map BatM.p≠[]:=by
  intro h
  have:=List.map_eq_nil_iff.1 h
  rw [this] at hq1
  exact hb (List.length_eq_zero_iff.1 hq1.symm)
 have hnx:=hok.next (Int.le_refl 0)
 have hlt:=((z9h hnx.1 hp).1.next hnx.1).1 hq
 unfold z1b
 rw [if_neg hb,if_neg (by rw [hp];simp)]
 simp only
 split
 ·rename_i hr
  have hne:l≠[]:=by rintro rfl;cases hr
  obtain ⟨l0,s,rfl⟩:=z30 hne
  rw [z3f,z2m,z2m,z2v]
  refine ⟨by simp [SegA.add],?_⟩
  have hsr:=z4v hok.front.2.1
  rw [z2v] at hlt hq ⊢
  show max (max s.base s.fin) (z0b (s.bs++_))=_
  rw [zu9 hq]
  omega
 ·rw [z2m,z2v]
  refine ⟨by simp [SegA.add],?_⟩
  show max (max (zq l) 0) (z0b ([]++_))=_
  rw [List.nil_append]
  omega
theorem ze1 {seg:Int} {l:List SegA} {bs:List BatM} (h:bs=[]\/(zw (zq l) bs).1≠0):(z1b seg l bs).2=l/\(z1b seg l bs).1.2≠0:=by
 unfold z1b
 by_cases hb:bs=[]
 ·rw [if_pos hb];exact ⟨rfl,by simp⟩
 ·rw [if_neg hb]
  rcases h with h|h
  ·exact absurd h hb
  ·rw [if_pos h];exact ⟨rfl,h⟩
def z8v (seg:Int) (bs:List BatM):List SegA:=bs.foldl (λl b=>(z1b seg l [b]).2) []
theorem zlo (seg:Int) (bs:List BatM) (b:BatM):z8v seg (bs++[b])=(z1b seg (z8v seg bs) [b]).2:=by
 unfold z8v
 rw [List.foldl_append]
 rfl
theorem zhy (b:BatM) (n:Int) (h:(zw n [b]).1=0):(zw n [b]).2=[b.to n]:=by
 unfold zw at h ⊢
 split at h
 ·rename_i h1;exact absurd h h1
 ·rename_i h1
  rw [if_neg h1]
  split at h
  ·rename_i h2;exact absurd rfl h2
  ·rename_i h2;rw [if_neg h2];rfl
theorem z01i (seg:Int) (l:List SegA) (b:BatM):z1b seg l [(b.to (zq l)).p]=z1b seg l [b]:=by
 rw [<- zke seg l [b]]
 have e:zw (zq l) [(b.to (zq l)).p]=zw (zq l) ([b].map BatM.p):=rfl
 unfold z1b
 rw [e]
 rfl
def z7z (pre:ByteArray) (l:List SegA) (D:DiskA) (n:Nat):Prop:=n<=(z05 l).length/\∀ l0 t,l=l0++[t]->(∀ s ∈ l0,z01 D.fs (zl pre s.base zr)=some (s.file,s.file.length)) /\
 ∃ k,z01 D.fs (zl pre t.base zr)=some (t.file,k)/\∀ j,1<=j->j<=t.bs.length->(z05 l0).length+j<=n->(t.cut j).file.length<=k
theorem zb1 {α:Type} {a b:List α} {x y:α} (h:a++[x]=b++[y]):a=b/\x=y:=by
 have:=List.append_inj' h rfl
 exact ⟨this.1,by simpa using this.2⟩
theorem zd1 (t:SegA) (j:Nat):(t.cut j).file.length<=t.file.length:=by
 rw [z2d,z2d]
 show (shL t.base t.fin).length+((t.bs.take j).flatMap frL).length<=_
 have:t.bs.flatMap frL=(t.bs.take j).flatMap frL++(t.bs.drop j).flatMap frL:=by rw [<- List.flatMap_append,List.take_append_drop]
 rw [this,List.length_append];omega
theorem z7z.sync {pre:ByteArray} {l:List SegA} {D:DiskA} {n:Nat} (h:z7z pre l D n) (hc:Cpl pre l D):z7z pre l (z0i pre l D).2 n/\((z0i pre l D).1=0->z7z pre l (z0i pre l D).2 (z05 l).length /\
  ∀ s ∈ l,z01 (z0i pre l D).2.fs (zl pre s.base zr)=some (s.file,s.file.length)):=by
 by_cases h0:l=[]
 ·subst h0
  exact ⟨h,λ_=>⟨⟨Nat.le_refl _,λl0 t e=>by simp at e⟩,λs hs=>by cases hs⟩⟩
 obtain ⟨l0,t,rfl⟩:=z30 h0
 have e:z0i pre (l0++[t]) D=z1m D [zl pre t.base zr]:=by unfold z0i;rw [z1o]
 rw [e]
 obtain ⟨h1,k,h2,h3⟩:=h.2 l0 t rfl
 obtain ⟨-,-,-,-,h5⟩:=zky hc.ok (zl pre t.base zr)
 obtain ⟨f1,f2,f3,f4⟩:=hc.segs.front
 have hold:∀ s ∈ l0,z01 (z1m D [zl pre t.base zr]).2.fs (zl pre s.base zr)=some (s.file,s.file.length):=λs hs=>by
  rcases h5 (zl pre s.base zr) with h6|⟨h6,-,-⟩
  ·rw [h6];exact h1 s hs
  ·exact absurd h6 (z6n (f1.mem s hs).1 f2 (by have:=(f4 s hs).2;omega))
 constructor
 ·refine ⟨h.1,λl0' t' e'=>?_⟩
  obtain ⟨rfl,rfl⟩:=zb1 e'
  refine ⟨hold,?_⟩
  rcases h5 (zl pre t.base zr) with h6|⟨-,-,h6⟩
  ·rw [h6];exact ⟨k,h2,h3⟩
  ·rw [h6,h2]
   exact ⟨t.file.length,rfl,λj h7 h8 h9=>zd1 _ _⟩
 ·intro h0
  have hnew:z01 (z1m D [zl pre t.base zr]).2.fs (zl pre t.base zr)=some (t.file,t.file.length):=by
   obtain ⟨-,-,-,-,-,h7⟩:=zpm hc.ok h0
   rw [h7,h2];simp
  refine ⟨⟨Nat.le_refl _,λl0' t' e'=>?_⟩,λs hs=>?_⟩
  ·obtain ⟨rfl,rfl⟩:=zb1 e'
   exact ⟨hold,t.file.length,hnew,λj _ _ _=>zd1 _ _⟩
  ·rcases List.mem_append.1 hs with hs|hs
   ·exact hold s hs
   ·simp only [List.mem_cons,List.not_mem_nil,or_false] at hs
    subst hs;exact hnew
theorem z7z.begin {pre:ByteArray} {l:List SegA} {s:SegA} {D:DiskA} {n:Nat} (h:z7z pre l D n) (hc:Cpl pre l D) (hsegs:z0a 0 (l++[s])) (hall:∀ t ∈ l,z01 D.fs (zl pre t.base zr)=some (t.file,t.file.length)) (ha:(z08 D (zl pre s.base zr) s.file).1=0):z7z pre (l++[s]) (z08 D (zl pre s.base zr) s.file).2 n:=by
 obtain ⟨-,-,-,-,-,-,h7⟩:=z9a hc.ok ha
 obtain ⟨f1,f2,f3,f4⟩:=hsegs.front
 have hn:=h.1
 have hnone:z01 D.fs (zl pre s.base zr)=none:=by
  cases hq:z01 D.fs (zl pre s.base zr) with
  | none=>rfl
  | some q =>
   obtain ⟨t,ht,e⟩:=hc.only _ (by rw [hq];rfl) (z43 pre s.base zr)
   exact absurd e (z6n f2 (f1.mem t ht).1 (by have:=(f4 t ht).2;omega))
 refine ⟨by rw [z2m,List.length_append];omega,λl0' t' e'=>?_⟩
 obtain ⟨rfl,rfl⟩:=zb1 e'
 refine ⟨λt ht=>?_,0,?_,λj j1 j2 j3=>?_⟩
 ·rw [h7,if_neg (z6n (f1.mem t ht).1 f2 (by have:=(f4 t ht).2;omega))]
  exact hall t ht
 ·rw [h7,if_pos rfl,hnone]
  rfl
 ·omega
theorem z7z.app {pre:ByteArray} {seg:Int} {l:List SegA} {D:DiskA} {bs:List BatM} {n:Nat} (hp:z3q pre=true) (h:z7z pre l D n) (hc:Cpl pre l D):z7z pre (z0u pre seg l D bs).2.1 (z0u pre seg l D bs).2.2 n:=by
 have hsegs:=z9i (seg:=seg) (bs:=bs) hc.segs
 unfold z0u
 unfold z1b at hsegs
 split
 ·exact h
 rename_i hb
 rw [if_neg hb] at hsegs
 split
 ·exact h
 rename_i hpl
 rw [if_neg hpl] at hsegs
 simp only at hsegs
 split
 ·rename_i hr
  have hne:l≠[]:=by rintro rfl;cases hr
  obtain ⟨l0,t,rfl⟩:=z30 hne
  rw [zec]
  split
  ·rename_i he
   simp only
   rw [z84 he];exact h
  ·rename_i he
   have he:=Decidable.not_not.1 he
   simp only
   rw [z3f]
   obtain ⟨h1,k,h2,h3⟩:=h.2 l0 t rfl
   obtain ⟨-,-,-,-,-,-,h7⟩:=z9a hc.ok he
   obtain ⟨f1,f2,f3,f4⟩:=hc.segs.front
   have hn:=h.1
   rw [z2m,List.length_append] at hn
   refine ⟨by rw [z2m,List.length_append];simp only [SegA.add,List.length_append];omega,λl0' t' e'=>?_⟩
   obtain ⟨rfl,rfl⟩:=zb1 e'
   refine ⟨λs hs=>?_,k,?_,λj j1 j2 j3=>?_⟩
   ·rw [h7,if_neg (z6n (f1.mem s hs).1 f2 (by have:=(f4 s hs).2;omega))]
    exact h1 s hs
   ·show z01 _ (zl pre t.base zr)=_
    rw [h7,if_pos rfl,h2,z6g]
    rfl
   ·have hj:j<=t.bs.length:=by omega
    have e:(t.add (zw (zq (l0++[t])) bs).2).cut j=t.cut j:=by
     unfold SegA.cut SegA.add
     simp only
     rw [List.take_append_of_le_length hj]
    rw [e]
    exact h3 j j1 hj j3
 ·rename_i hr
  obtain ⟨hs1,hs2⟩:=h.sync hc
  split
  ·exact hs1
  rename_i hse
  have hse:=Decidable.not_not.1 hse
  split
  ·rename_i he
   simp only
   rw [z84 he];exact hs1
  ·rename_i he
   have he:=Decidable.not_not.1 he
   rw [if_neg hr] at hsegs
   simp only
   obtain ⟨hs3,hs4⟩:=hs2 hse
   rw [<- ze4] at he ⊢
   exact hs1.begin (s:=SegA.add ⟨zq l,0,[]⟩ (zw (zq l) bs).2) (z7u hc).1 hsegs hs4 he
structure CutP (pre:ByteArray) (l0:List SegA) (t:SegA) (k:Nat) (D:DiskA):Prop where
 ok:okA D
 segs:z0a 0 (l0++[t])
 old:∀ s ∈ l0,z01 D.fs (zl pre s.base zr)=some (s.file,s.file.length)
 last:z01 D.fs (zl pre t.base zr)=some (t.file.take k,k)
 le:k<=t.file.length
 only:∀ n,(z01 D.fs n).isSome=true->(bl (z11 pre)).isPrefixOf (bl n)=true->∃ s ∈ l0++[t],n=zl pre s.base zr
theorem CutP.fs {pre:ByteArray} {l0:List SegA} {t:SegA} {k:Nat} {D D':DiskA} (h:CutP pre l0 t k D) (hok:okA D') (e:D'.fs=D.fs):CutP pre l0 t k D' :=
 ⟨hok,h.segs,by rw [e];exact h.old,by rw [e];exact h.last,h.le,by rw [e];exact h.only⟩
theorem zw2 {pre:ByteArray} {l:List SegA} {D:DiskA} (hok:okA D) (hsegs:z0a 0 l) (hex:∀ s ∈ l,(z01 D.fs (zl pre s.base zr)).isSome=true) (only:∀ n,(z01 D.fs n).isSome=true->(bl (z11 pre)).isPrefixOf (bl n)=true->∃ s ∈ l,n=zl pre s.base zr):z0w (z11 pre) D.fs=l.map λs=>zl pre s.base zr:=by
 refine zcf (zc6 hok _) (z9u pre hsegs) λn=>?_
 rw [zhr]
 constructor
 ·rintro ⟨h1,h2⟩
  obtain ⟨s,hs,rfl⟩:=only n h1 h2
  exact List.mem_map.2 ⟨s,hs,rfl⟩
 ·intro hn
  obtain ⟨s,hs,rfl⟩:=List.mem_map.1 hn
  exact ⟨hex s hs,z43 pre s.base zr⟩
theorem zh1 {l1 l:List SegA} {s:SegA} (hok:z0a 0 (l1++s::l)):¬ s.base<zq l1:=by
 have hs:SegOk s:=(hok.mem s (by simp)).1
 have:=hs.base
 by_cases h0:l1=[]
 ·subst h0;show ¬ s.base<0;omega
 ·obtain ⟨l0,t,rfl⟩:=z30 h0
  rw [z2v]
  have h1:=hok.skip l0.length (l0.length+1) (by simp) (by omega)
  have e1:(l0++[t]++s::l)[l0.length]'(by simp)=t:=by simp
  have e2:(l0++[t]++s::l)[l0.length+1]'(by simp)=s:=by
   rw [List.getElem_append_right (by simp)];simp
  rw [e1,e2] at h1
  omega
theorem zhv {pre:ByteArray} {D:DiskA} {rest:List Int}:∀ {l l1:List SegA},z0a 0 (l1++l)->(∀ s ∈ l,∃ k,z01 D.fs (zl pre s.base zr)=some (s.file,k))->z1u pre (l.map SegA.base++rest) l1 D=z1u pre rest (l1++l) D
 | [],l1,_,_=>by simp
 | s::l,l1,hok,hh=>by
  rw [List.map_cons,List.cons_append]
  have hok2:z0a 0 ((l1++[s])++l):=by rwa [List.append_assoc]
  have hs:SegOk s:=(hok.mem s (by simp)).1
  obtain ⟨k,hk⟩:=hh s (List.mem_cons_self ..)
  have hsc:z1i pre l1 D s.base=((true,0),l1++[s],D):=by
   unfold z1i
   rw [hk]
   simp only
   rw [zi3 hs]
   simp only
   rw [if_pos trivial]
  have e:z1u pre (s.base::(l.map SegA.base++rest)) l1 D=z1u pre (l.map SegA.base++rest) (l1++[s]) D:=by
   rw [z1u]
   rw [if_neg (zh1 hok),hsc,if_neg (by simp),if_pos rfl]
  rw [e,zhv hok2 λt ht=>hh t (List.mem_cons_of_mem _ ht),List.append_assoc]
  rfl
theorem zdf {g:FileA->FileA} (hg:∀ f,(g f).b.length<=f.b.length):∀ fs:List FileA,used (fs.map g)<=used fs
 | []=>Nat.le_refl _
 | f::fs=>by
  have:=zdf hg fs
  have:=hg f
  rw [List.map_cons,z1d,z1d]
  omega
theorem zvh (A:DiskA) (n:ByteArray) (k:Int):used (cutA' A n k).2.fs<=used A.fs:=by
 unfold cutA'
 split
 ·exact Nat.le_refl _
 split
 ·exact Nat.le_refl _
 split
 ·exact Nat.le_refl _
 ·show used (z27 _).fs<=_
  rw [z32]
  refine zdf (λf=>?_) _
  unfold z1k
  split
  ·show (f.b.take _).length<=_;rw [List.length_take];omega
  ·exact Nat.le_refl _
theorem zvg {D:DiskA} (h:Calm D) (n:ByteArray) (k:Int):Calm (cutA' D n k).2:=by
 unfold cutA'
 split
 ·exact h
 split
 ·exact h
 split
 ·exact h
 ·show Calm (z27 _)
  rw [z9b (by exact h.left)]
  exact ⟨h.gone,h.left⟩
theorem zuo {t:SegA} (ht:SegOk t) (j:Nat):(t.cut j).reach<=t.reach:=by
 unfold SegA.reach SegA.cut
 simp only
 have h:z0b (t.bs.take j)<=max (max t.base t.fin) (z0b t.bs):=by
  by_cases h0:t.bs.take j=[]
  ·rw [h0];have:=ht.base;show (0:Int)<=_;omega
  ·obtain ⟨l,b,hb⟩:=z30 h0
   rw [hb,z39]
   have hm:b ∈ t.bs:=List.mem_of_mem_take (by rw [hb];simp)
   have:=ht.bs.le_next hm
   omega
 omega
structure OpnP (pre:ByteArray) (l:List SegA) (n:Nat) (D:DiskA) (l1:List SegA) (D3:DiskA):Prop where
 cpl:Cpl pre l1 D3
 room:D3.room=D.room
 used:used D3.fs<=used D.fs
 len:D3.fs.length<=D.fs.length
 calm:Calm D->Calm D3
 sure:n<=(z05 l1).length
 le:(z05 l1).length<=(z05 l).length
 part:z05 l1=(z05 l).take (z05 l1).length
 next:zq l1<=zq l
theorem z0a.cutLast {n:Int} {l0:List SegA} {t:SegA} (h:z0a n (l0++[t])) (j:Nat):z0a n (l0++[t.cut j]):=by
 obtain ⟨h1,h2,h3,h4⟩:=h.front
 exact h1.snoc (h2.cut j) h3 h4
theorem CutP.opened {pre:ByteArray} {l0:List SegA} {t:SegA} {k n:Nat} {D:DiskA} (h:CutP pre l0 t k D) (hg:D.gone=false) (hn0:n<=(z05 (l0++[t])).length) (hn:∀ j,1<=j->j<=t.bs.length->(z05 l0).length+j<=n->(t.cut j).file.length<=k) :
  ∃ l1 D3,z41 pre D=(0,l1,D3)/\OpnP pre (l0++[t]) n D l1 D3:=by
 have hex:∀ s ∈ l0++[t],(z01 D.fs (zl pre s.base zr)).isSome=true:=λs hs=>by
  rcases List.mem_append.1 hs with hs|hs
  ·rw [h.old s hs];rfl
  ·simp only [List.mem_cons,List.not_mem_nil,or_false] at hs
   subst hs;rw [h.last];rfl
 have hnm:=zw2 h.ok h.segs hex h.only
 obtain ⟨f1,f2,f3,f4⟩:=h.segs.front
 have hstart:z41 pre D=z1u pre [t.base] l0 D:=by
  unfold z41
  rw [hnm,zan pre D λs hs=>(h.segs.mem s hs).1,if_neg (by simp)]
  simp only
  rw [List.map_append]
  have:=zhv (pre:=pre) (D:=D) (rest:=[t].map SegA.base) (l:=l0) (l1:=[]) f1 λs hs=>⟨_,h.old s hs⟩
  rw [this]
  rfl
 rw [hstart]
 rw [z2m,List.length_append] at hn0
 have hne:∀ s ∈ l0,zl pre s.base zr≠zl pre t.base zr:=λs hs=>z6n (f1.mem s hs).1 f2 (by have:=(f4 s hs).2;omega)
 have hb:=zh1 (l:=[]) h.segs
 have hisS:(z01 D.fs (zl pre t.base zr)).isSome=true:=by rw [h.last];rfl
 rcases zwy f2 k with ⟨c1,c2⟩|⟨j,c1,c2,c3,c4⟩
 ·have hsc:z1i pre l0 D t.base=((false,(z0x D (zl pre t.base zr)).1),l0,(z0x D (zl pre t.base zr)).2):=by
   unfold z1i
   rw [h.last]
   simp only
   rw [c2]
  have hr:(z0x D (zl pre t.base zr)).1=0:=by
   rcases zur hisS with ⟨r1,-⟩|⟨-,r2,-⟩
   ·exact r1
   ·rw [hg] at r2;cases r2
  refine ⟨l0,(z0x D (zl pre t.base zr)).2,?_,?_⟩
  ·rw [z1u,if_neg hb,hsc,hr]
   rfl
  ·obtain ⟨-,r1,r2,r3,r4,-,r6⟩:=z03d h.ok hr
   have hnl:n<=(z05 l0).length:=by
    apply Nat.le_of_not_lt
    intro hlt
    have h1:=hn 1 (Nat.le_refl _) (by omega) (by omega)
    rw [z2d] at h1
    have:(shL (t.cut 1).base (t.cut 1).fin).length=(shL t.base t.fin).length:=rfl
    omega
   refine ⟨⟨r1,f1,λs hs=>⟨s.file.length,?_⟩,λm hm hp=>?_⟩,r2,r3,r4,λhc=>zwu hc _,hnl,?_,?_,?_⟩
   ·rw [r6,if_neg (hne s hs)];exact h.old s hs
   ·rw [r6] at hm
    by_cases hmt:m=zl pre t.base zr
    ·rw [if_pos hmt] at hm;cases hm
    ·rw [if_neg hmt] at hm
     obtain ⟨s,hs,rfl⟩:=h.only m hm hp
     rcases List.mem_append.1 hs with hs|hs
     ·exact ⟨s,hs,rfl⟩
     ·simp only [List.mem_cons,List.not_mem_nil,or_false] at hs
      subst hs;exact absurd rfl hmt
   ·rw [z2m,List.length_append];omega
   ·rw [z2m,List.take_left]
   ·rw [z2v]
    have:=(z4v f2).1
    omega
 ·have hprefix:z05 (l0++[t.cut j])=(z05 (l0++[t])).take (z05 (l0++[t.cut j])).length/\(z05 (l0++[t.cut j])).length=(z05 l0).length+j:=by
   have e:(t.cut j).bs=t.bs.take j:=rfl
   rw [z2m,z2m,e,List.length_append,List.length_take,Nat.min_eq_left c1,List.take_append,List.take_of_length_le (Nat.le_add_right _ _),Nat.add_sub_cancel_left]
   exact ⟨rfl,rfl⟩
  have hnl:n<=(z05 (l0++[t.cut j])).length:=by
   rw [hprefix.2]
   apply Nat.le_of_not_lt
   intro hlt
   have h1:=hn (n-(z05 l0).length) (by omega) (by omega) (by omega)
   have h2:=c4 (n-(z05 l0).length) (by omega) h1
   omega
  have hle:(z05 (l0++[t.cut j])).length<=(z05 (l0++[t])).length:=by rw [hprefix.2,z2m,List.length_append];omega
  have hnx:zq (l0++[t.cut j])<=zq (l0++[t]):=by rw [z2v,z2v];exact zuo f2 j
  have hkl:(t.file.take k).length=k:=by rw [List.length_take,Nat.min_eq_left h.le]
  have hraw:=(zkp c3).2.2.1
  by_cases hk:(t.cut j).file.length=k
  ·have hsc:z1i pre l0 D t.base=((true,0),l0++[t.cut j],D):=by
    unfold z1i
    rw [h.last]
    simp only
    rw [c3]
    simp only
    rw [if_pos (by rw [hkl];exact hk)]
   refine ⟨l0++[t.cut j],D,?_,?_⟩
   ·rw [z1u,if_neg hb,hsc,if_neg (by simp),if_pos rfl]
    rfl
   ·refine ⟨⟨h.ok,h.segs.cutLast j,λs hs=>?_,λm hm hp=>?_⟩,rfl,Nat.le_refl _,Nat.le_refl _,id,hnl,hle,hprefix.1,hnx⟩
    ·rcases List.mem_append.1 hs with hs|hs
     ·exact ⟨_,h.old s hs⟩
     ·simp only [List.mem_cons,List.not_mem_nil,or_false] at hs
      subst hs
      refine ⟨k,?_⟩
      show z01 D.fs (zl pre t.base zr)=_
      rw [h.last,<- hraw,hk,List.take_take,Nat.min_self]
    ·obtain ⟨s,hs,rfl⟩:=h.only m hm hp
     rcases List.mem_append.1 hs with hs|hs
     ·exact ⟨s,by simp [hs],rfl⟩
     ·simp only [List.mem_cons,List.not_mem_nil,or_false] at hs
      subst hs;exact ⟨s.cut j,by simp,rfl⟩
  ·have hsc:z1i pre l0 D t.base=((false,(cutA' D (zl pre t.base zr) ((t.cut j).file.length:Nat)).1),l0++[t.cut j],(cutA' D (zl pre t.base zr) ((t.cut j).file.length:Nat)).2):=by
    unfold z1i
    rw [h.last]
    simp only
    rw [c3]
    simp only
    rw [if_neg (by rw [hkl];exact hk)]
   have hr:(cutA' D (zl pre t.base zr) ((t.cut j).file.length:Nat)).1=0:=by
    rcases zti (A:=D) (k:=((t.cut j).file.length:Nat)) h.last (by rw [hkl];omega) with ⟨r1,-⟩|⟨-,r2,-⟩
    ·exact r1
    ·rw [hg] at r2;cases r2
   refine ⟨l0++[t.cut j],(cutA' D (zl pre t.base zr) ((t.cut j).file.length:Nat)).2,?_,?_⟩
   ·rw [z1u,if_neg hb,hsc,hr]
    rfl
   ·obtain ⟨-,r1,r2,r3,r4⟩:=z02d h.ok hr
    refine ⟨⟨r1,h.segs.cutLast j,λs hs=>?_,λm hm hp=>?_⟩,r2,zvh _ _ _,by omega,λhc=>zvg hc _ _,hnl,hle,hprefix.1,hnx⟩
    ·rcases List.mem_append.1 hs with hs|hs
     ·rw [r4,if_neg (hne s hs)];exact ⟨_,h.old s hs⟩
     ·simp only [List.mem_cons,List.not_mem_nil,or_false] at hs
      subst hs
      refine ⟨min k (t.cut j).file.length,?_⟩
      show z01 _ (zl pre t.base zr)=_
      rw [r4,if_pos rfl,h.last]
      show some ((t.file.take k).take _,_)=_
      rw [Int.toNat_natCast,hraw]
    ·rw [r4] at hm
     have hm2:(z01 D.fs m).isSome=true:=by
      by_cases hmt:m=zl pre t.base zr
      ·rw [hmt];exact hisS
      ·rw [if_neg hmt] at hm;exact hm
     obtain ⟨s,hs,rfl⟩:=h.only m hm2 hp
     rcases List.mem_append.1 hs with hs|hs
     ·exact ⟨s,by simp [hs],rfl⟩
     ·simp only [List.mem_cons,List.not_mem_nil,or_false] at hs
      subst hs;exact ⟨s.cut j,by simp,rfl⟩
def CrP (pre:ByteArray) (l:List SegA) (n:Nat) (D:DiskA):Prop:=(l=[]/\n=0/\Cpl pre [] D)\/∃ l0 t k,l=l0++[t]/\n<=(z05 l).length/\CutP pre l0 t k D/\∀ j,1<=j->j<=t.bs.length->(z05 l0).length+j<=n->(t.cut j).file.length<=k
theorem CrP.ok {pre:ByteArray} {l:List SegA} {D:DiskA} {n:Nat} (h:CrP pre l n D):okA D:=by
 rcases h with ⟨h1,h2,h3⟩|⟨l0,t,k,h1,h2,h3,h4⟩
 ·exact h3.ok
 ·exact h3.ok
theorem CrP.opened {pre:ByteArray} {l:List SegA} {D:DiskA} {n:Nat} (h:CrP pre l n D) (hg:D.gone=false):∃ l1 D3,z41 pre D=(0,l1,D3)/\OpnP pre l n D l1 D3:=by
 rcases h with ⟨rfl,rfl,h3⟩|⟨l0,t,k,rfl,h2,h3,h4⟩
 ·exact ⟨[],D,h3.opened,h3,rfl,Nat.le_refl _,Nat.le_refl _,id,Nat.zero_le _,Nat.le_refl _,rfl,Int.le_refl _⟩
 ·exact h3.opened hg h2 h4
theorem zg1:∀ {n:Int} {l:List SegA},0<=n->z0a n l->z1g n (z05 l)
 | _,[],_,_=>trivial
 | n,s::l,hn,⟨h1,h2,h3⟩=>by
  have e1:z05 (s::l)=s.bs++z05 l:=by simp [z05]
  have hr:=z4v h2
  have hb:=h2.base
  rw [e1]
  refine z1g.append hn (h2.bs.mono h1) ((zg1 (by omega) h3).mono ?_)
  omega
section
variable {w:World} {l r:List HP} {lg d:Nat} {D:DiskA} {A:LogA}
theorem z02a (b:BatM) (x:Sl) {r1:List HP} [hf:Fo l lgP lg A r1] [hf2:Fo r1 dk A.d D r] (hlen:A.l.length<=1000000) (hok:z0a 0 A.l) (hfl:∀ s ∈ A.l,s.file.length<=500000000)
  (hx:FocR r x 7 ([b].flatMap zu)) (hb:FocR r b.x 4 (b.rs.flatMap z02)) (hs:Sat w l) :
  Ret P F.a125 #[.pointer (some ⟨lg,0,none⟩),x.v] w λvs w'=>vs=[.int .i64 (z0u A.pre A.seg A.l D [b]).1.1,.int .i64 (z0u A.pre A.seg A.l D [b]).1.2] /\
   Sat w' (lgP lg (A.set (z0u A.pre A.seg A.l D [b]).2.1)::dk A.d (z0u A.pre A.seg A.l D [b]).2.2::r) :=
 ztz x [b] hlen hok hfl (by show 1<=900;omega) hx (λc hc=>by
  simp only [List.mem_cons,List.not_mem_nil,or_false] at hc
  subst hc
  exact hb) hs
theorem nil_append (x:Sl) (hs:Sat w l):Ret P F.a125 #[.pointer none,x.v] w λvs w'=>vs=[.int .i64 0,.int .i64 1]/\Sat w' l :=
 zdh _ x <| by
  delta zro AA AB AC AD AE AF AI AL AN AR AS AX Aa Ac Ad Af Ah Ak Al Am An Ao Ap Ar Ay Az Ba Bg Bj Br Bz
  refine z0g ?_ (by rfl)
  exact ⟨rfl,rfl,hs⟩
end
def InP (pool:List BatM) (R:RefM):Prop:=∀ b ∈ R.bs,∃ c ∈ pool,b.x=c.x/\b.rs=c.rs
structure Grw (pre:ByteArray) (D:DiskA) (l':List SegA) (D':DiskA):Prop where
 cpl:Cpl pre l' D'
 fr:Fr pre D D'
 calm:Calm D'
 used:used D'.fs<=used D.fs+705
 len:D'.fs.length<=D.fs.length+1
theorem InP.rd {pool:List BatM} {R:RefM} {l:List HP} (h:InP pool R):∀ b ∈ R.bs,FocR (z1q pool::l) b.x 4 (b.rs.flatMap z02):=λb hb=>by
 obtain ⟨c,hc,e1,e2⟩:=h b hb
 rw [e1,e2]
 exact zck hc
theorem InP.more {pool:List BatM} {R:RefM} (h:InP pool R) (x:BatM):InP (pool++[x]) R:=λb hb=>by
 obtain ⟨c,hc,e⟩:=h b hb
 exact ⟨c,List.mem_append_left _ hc,e⟩
theorem InP.app {pool:List BatM} {R R':RefM} {b0:BatM} {z:Sl} (h:InP pool R) (hR:∀ b ∈ R'.bs,b ∈ R.bs\/(b.x=z/\b.rs=(z0d b0).rs)):InP (pool++[(z0d b0).at z]) R':=λb hb=>by
 rcases hR b hb with h1|⟨h1,h2⟩
 ·exact h.more _ b h1
 ·exact ⟨(z0d b0).at z,by simp,h1,h2⟩
abbrev qP:ByteArray:=ByteArray.mk #[113]
abbrev qqP:ByteArray:=ByteArray.mk #[113,113]
theorem zcn:z3q qP=true:=by kernel_rfl
theorem zun:z3q qqP=true:=by kernel_rfl
theorem z03c:qP≠qqP:=λh=>by have:=congrArg ByteArray.size h;cases this
structure ApP (s:Int) (k:Nat) (D:DiskA) (R S:RefM) (pool:List BatM):Prop where
 rs:R.seg=s
 ss:S.seg=s
 c1:Cpl qP R.l D
 c2:Cpl qqP S.l D
 calm:Calm D
 room:D.room=1048576
 used:used D.fs<=705*k
 len:D.fs.length<=k
 in1:InP pool R
 in2:InP pool S
theorem ApP.left {s:Int} {k:Nat} {D D':DiskA} {R R' S:RefM} {pool:List BatM} {b0:BatM} {z:Sl} (h:ApP s k D R S pool) (hg:Grw qP D R'.l D') (h1:R'.seg=R.seg) (hR:∀ b ∈ R'.bs,b ∈ R.bs\/(b.x=z/\b.rs=(z0d b0).rs)):ApP s (k+1) D' R' S (pool++[(z0d b0).at z]) :=
 ⟨h1.trans h.rs,h.ss,hg.cpl,h.c2.frame hg.cpl.ok zcn zun z03c hg.fr,hg.calm,hg.fr.room.trans h.room,by have:=hg.used;have:=h.used;omega,by have:=hg.len;have:=h.len;omega,h.in1.app hR,h.in2.more _⟩
theorem ApP.right {s:Int} {k:Nat} {D D':DiskA} {R S S':RefM} {pool:List BatM} {b0:BatM} {z:Sl} (h:ApP s k D R S pool) (hg:Grw qqP D S'.l D') (h1:S'.seg=S.seg) (hR:∀ b ∈ S'.bs,b ∈ S.bs\/(b.x=z/\b.rs=(z0d b0).rs)):ApP s (k+1) D' R S' (pool++[(z0d b0).at z]) :=
 ⟨h.rs,h1.trans h.ss,h.c1.frame hg.cpl.ok zun zcn z03c.symm hg.fr,hg.cpl,hg.calm,hg.fr.room.trans h.room,by have:=hg.used;have:=h.used;omega,by have:=hg.len;have:=h.len;omega,h.in1.more _,h.in2.app hR⟩
theorem ApP.free {s:Int} {k:Nat} {D:DiskA} {R S:RefM} {pool:List BatM} (h:ApP s k D R S pool) (hk:k<=100):705<=D.free:=by
 have:=h.used
 have:=h.room
 unfold DiskA.free
 omega
def zqc (b:Bool):List Value:=[.bool b]
instance:Enc1 zqc .bool (λb=>b):=⟨λ_=>rfl⟩
instance:EncN zqc 1:=⟨λ_=>rfl,by decide,by simp [zqc,Value.oneCell']⟩
section
variable {w:World} {l r:List HP} {lg a:Nat} {A:LogA} {D:DiskA} {R:RefM}
theorem zvz {r1:List HP} [hf:Fo l lgP lg A r1] [hf2:Fo r1 dk A.d D r] (hlen:A.l.length<=1000000000) (hok:z0a 0 A.l) (hs:Sat w l) :
  Ret P F.a133 #[.pointer (some ⟨lg,0,none⟩)] w λvs w'=>vs=[.int .i64 (z0i A.pre A.l D).1]/\Sat w' (lgP lg A::dk A.d (z0i A.pre A.l D).2::r):=by
 have hs:=hs.perm (hf.perm.trans (.cons _ hf2.perm))
 clear hf hf2
 obtain ⟨M,rfl,hs⟩:=z77 hs
 have hll:M.l.length=M.SM.length:=List.length_map ..
 have hMl:M.A.l=M.l:=rfl
 rw [hMl] at hlen hok
 have hs:Sat w (lgQ lg M::dk M.d D::r):=hs
 refine (zoz (lg:=lg) (M:=M) (D:=D) (by omega) hok hs).mono λvs w' h=>?_
 obtain ⟨h1,h2⟩:=h
 exact ⟨h1,z3z M h2⟩
structure FilI (s:Int) (k:Nat) (D:DiskA) (l:List SegA) (R:RefM) (pool:List BatM) (n:Nat) (C:Prop):Prop where
 cpl:Cpl qP l D
 syn:z7z qP l D n
 rseg:R.seg=4194304
 segs:z0a 0 R.l
 srl:R.SR.length<=k
 brl:R.bs.length<=k
 all:R.bs.map BatM.p=z05 l
 next:zq R.l=zq l
 rep:l=z8v s (z05 l)
 room:D.room=1048576
 used:used D.fs<=705*k
 len:D.fs.length<=k
 in1:InP pool R
 calm:C->Calm D
structure FilE (s:Int) (D:DiskA) (l:List SegA) (outs pool:List BatM) (n:Nat) (C:Prop):Prop where
 cpl:Cpl qP l D
 syn:z7z qP l D n
 told:outs.map BatM.p=z05 l\/(D.gone=true/\∃ b,outs.map BatM.p=z05 l++[b])
 rep:l=z8v s (z05 l)
 room:D.room=1048576
 used:used D.fs<=14805
 len:D.fs.length<=21
 num:outs.length<=21
 in1:∀ b ∈ outs,∃ c ∈ pool,b.x=c.x/\b.rs=c.rs
 calm:C->Calm D/\outs.map BatM.p=z05 l
theorem FilI.free {s:Int} {k n:Nat} {l:List SegA} {pool:List BatM} {C:Prop} (h:FilI s k D l R pool n C) (hk:k<=100):705<=D.free:=by
 have:=h.used
 have:=h.room
 unfold DiskA.free
 omega
theorem FilI.done {s:Int} {k n:Nat} {l:List SegA} {pool:List BatM} {C:Prop} (h:FilI s k D l R pool n C) (hk:k<=20):FilE s D l R.bs pool n C :=
 ⟨h.cpl,h.syn,.inl h.all,h.rep,h.room,by have:=h.used;omega,by have:=h.len;omega,by have:=h.brl;omega,h.in1,λc=>⟨h.calm c,h.all⟩⟩
theorem FilI.step {s:Int} {k n:Nat} {l:List SegA} {pool:List BatM} {C:Prop} {R':RefM} {b0:BatM} {z z':Sl} (h:FilI s k D l R pool n C) (hk:k<=100)
  (h1:(z0u qP s l D [(z0d b0).at z]).1=(z1b s l [(z0d b0).at z]).1) (h2:(z0u qP s l D [(z0d b0).at z]).2.1=(z1b s l [(z0d b0).at z]).2)
  (r1:R'.seg=R.seg) (r2:R'.l=(z1b R.seg R.l [(z0d b0).at z']).2) (r3:R'.SR.length<=R.SR.length+1) (r4:R'.bs.length<=R.bs.length+1) (r5:∀ b ∈ R'.bs,b ∈ R.bs\/(b.x=z'/\b.rs=(z0d b0).rs)) :
  FilI s (k+1) (z0u qP s l D [(z0d b0).at z]).2.2 (z0u qP s l D [(z0d b0).at z]).2.1 R' (pool++[(z0d b0).at z']) n C:=by
 have hst:=zdv s [(z0d b0).at z] zcn h.cpl
 have hsy:=h.syn.app (seg:=s) (bs:=[(z0d b0).at z]) zcn h.cpl
 have hsum:=zx3 (seg:=s) (l:=l) (bs:=[(z0d b0).at z])
 have hsm:=zll b0 z (zq l)
 have hsl:=zgp (zq l) 0
 have hR:R'.bs.map BatM.p=z05 R'.l:=by rw [ze9]
 have hRR:R.bs.map BatM.p=z05 R.l:=by rw [ze9]
 have hrall:z05 R.l=z05 l:=hRR.symm.trans h.all
 have er:z1b R.seg R.l [(z0d b0).at z']=z1b R.seg R.l [(z0d b0).at z]:=zr6 _ _ _ _ _
 rw [er] at r2
 have hsegR:z0a 0 R'.l:=by rw [r2];exact z9i h.segs
 have hallN:z05 R'.l=z05 (z1b s l [(z0d b0).at z]).2/\zq R'.l=zq (z1b s l [(z0d b0).at z]).2/\(z1b s l [(z0d b0).at z]).2=z8v s (z05 (z1b s l [(z0d b0).at z]).2):=by
  by_cases hp:(zw (zq l) [(z0d b0).at z]).1=0
  ·obtain ⟨g1,g2⟩:=ze0 (seg:=s) h.cpl.segs (by simp) hp
   obtain ⟨g3,g4⟩:=ze0 (seg:=R.seg) (bs:=[(z0d b0).at z]) h.segs (by simp) (by rw [h.next];exact hp)
   rw [h.next] at g3 g4
   rw [r2]
   refine ⟨by rw [g1,g3,hrall],by rw [g2,g4],?_⟩
   rw [g1,zhy _ _ hp]
   show _=z8v s (z05 l++[(((z0d b0).at z).to (zq l)).p])
   rw [zlo,<- h.rep,z01i]
  ·obtain ⟨g1,-⟩:=ze1 (seg:=s) (l:=l) (bs:=[(z0d b0).at z]) (.inr hp)
   obtain ⟨g3,-⟩:=ze1 (seg:=R.seg) (l:=R.l) (bs:=[(z0d b0).at z]) (.inr (by rw [h.next];exact hp))
   rw [r2,g1,g3]
   exact ⟨hrall,h.next,h.rep⟩
 rw [h2] at hst hsy ⊢
 have hu:=hst.2.2.1
 have hl:=hst.2.2.2.1
 have hll:(z1b s l [(z0d b0).at z]).2.length<=l.length+1:=by
  unfold z1b
  split
  ·simp
  split
  ·simp
  ·simp only
   split
   ·rename_i hr
    have hne:l≠[]:=by rintro rfl;cases hr
    obtain ⟨l0,t,rfl⟩:=z30 hne
    rw [z3f];simp
   ·simp
 have hlen2:(z0u qP s l D [(z0d b0).at z]).2.2.fs.length<=D.fs.length+1:=by
  unfold z0u
  split
  ·simp only;omega
  split
  ·simp only;omega
  split
  ·split <;> exact z6w.1
  ·obtain ⟨-,-,-,s4,-⟩:=z7u h.cpl
   split
   ·simp only;omega
   split
   ·simp only
    have:=(z6w (A:=(z0i qP l D).2) (n:=zl qP (zq l) zr) (bs:=shL (zq l) 0++(zw (zq l) [(z0d b0).at z]).2.flatMap frL)).1
    omega
   ·simp only
    have:=(z6w (A:=(z0i qP l D).2) (n:=zl qP (zq l) zr) (bs:=shL (zq l) 0++(zw (zq l) [(z0d b0).at z]).2.flatMap frL)).1
    omega
 exact ⟨hst.1,hsy,r1.trans h.rseg,hsegR,by have:=h.srl;omega,by have:=h.brl;omega,by rw [hR];exact hallN.1,hallN.2.1,hallN.2.2,hst.2.1.room.trans h.room,by have:=h.used;omega,by have:=h.len;omega,h.in1.app r5,λc=>hst.2.2.2.2 (h.calm c)⟩
theorem FilI.fail {s:Int} {k n:Nat} {l:List SegA} {pool:List BatM} {C:Prop} {R':RefM} {b0:BatM} {z z':Sl} (h:FilI s k D l R pool n C) (hk:k<20)
  (h1:(z0u qP s l D [(z0d b0).at z]).2.1=l) (h2:(z0u qP s l D [(z0d b0).at z]).2.2.gone=true)
  (r2:R'.l=(z1b R.seg R.l [(z0d b0).at z']).2) (r4:R'.bs.length<=R.bs.length+1) (r5:∀ b ∈ R'.bs,b ∈ R.bs\/(b.x=z'/\b.rs=(z0d b0).rs)) :
  FilE s (z0u qP s l D [(z0d b0).at z]).2.2 l R'.bs (pool++[(z0d b0).at z']) n C:=by
 have hst:=zdv s [(z0d b0).at z] zcn h.cpl
 have hsy:=h.syn.app (seg:=s) (bs:=[(z0d b0).at z]) zcn h.cpl
 rw [h1] at hst hsy
 have hR:R'.bs.map BatM.p=z05 R'.l:=by rw [ze9]
 have hRR:R.bs.map BatM.p=z05 R.l:=by rw [ze9]
 have hrall:z05 R.l=z05 l:=hRR.symm.trans h.all
 have hu:=hst.2.2.1
 have hl:=hst.2.2.2.1
 refine ⟨hst.1,hsy,?_,h.rep,hst.2.1.room.trans h.room,by have:=h.used;omega,by have:=h.len;omega,by have:=h.brl;omega,h.in1.app r5,λc=>?_⟩
 ·by_cases hp:(zw (zq R.l) [(z0d b0).at z']).1=0
  ·obtain ⟨g3,-⟩:=ze0 (seg:=R.seg) (bs:=[(z0d b0).at z']) h.segs (by simp) hp
   refine .inr ⟨h2,?_⟩
   rw [hR,r2,g3,zhy _ _ hp,hrall]
   exact ⟨_,rfl⟩
  ·obtain ⟨g3,-⟩:=ze1 (seg:=R.seg) (l:=R.l) (bs:=[(z0d b0).at z']) (.inr hp)
   refine .inl ?_
   rw [hR,r2,g3,hrall]
 ·have:=(hst.2.2.2.2 (h.calm c)).gone
  rw [this] at h2;cases h2
set_option maxHeartbeats 1000000 in
end
abbrev cP (b:BatM) (k:Nat) (q:Int) (z:Sl):Array Value:=#[.int .i64 (b.base+(k:Int)),.int .i64 b.pid,.int .i64 b.epoch,.int .i64 q,.int .i64 b.kind,.int .i64 b.time,.slice z.a z.len z.cap]
def InB (pool bs:List BatM):Prop:=∀ b ∈ bs,∃ c ∈ pool,b.x=c.x/\b.rs=c.rs
theorem InB.rd {pool bs:List BatM} {l:List HP} (h:InB pool bs):∀ b ∈ bs,FocR (z1q pool::l) b.x 4 (b.rs.flatMap z02):=λb hb=>by
 obtain ⟨c,hc,e1,e2⟩:=h b hb
 rw [e1,e2]
 exact zck hc
theorem InB.more {pool bs:List BatM} (h:InB pool bs) (q:List BatM):InB (pool++q) bs:=λb hb=>by
 obtain ⟨c,hc,e⟩:=h b hb
 exact ⟨c,List.mem_append_left _ hc,e⟩
theorem InB.app {pool a b:List BatM} (h1:InB pool a) (h2:InB pool b):InB pool (a++b):=λx hx=>by
 rcases List.mem_append.1 hx with hx|hx
 ·exact h1 x hx
 ·exact h2 x hx
section
variable {w:World} {l r:List HP} {lg:Nat} {A:LogA}
theorem zvx [hf:Fo l lgP lg A r] (hlen:A.l.length<=1000000000) (hs:Sat w l):Ret P F.a127 #[.pointer (some ⟨lg,0,none⟩)] w λvs w'=>vs=[.int .i64 (zq A.l)]/\Sat w' (lgP lg A::r):=by
 have hs:=hs.perm hf.perm
 clear hf
 obtain ⟨M,hM,hsn⟩:=z77 hs
 clear hs
 subst hM
 have hll:M.l.length=M.SM.length:=List.length_map ..
 have hMl:M.A.l=M.l:=rfl
 rw [hMl] at hlen
 refine (za6 (lg:=lg) (M:=M) (by omega) hsn).mono λvs w' h=>?_
 obtain ⟨h1,h2⟩:=h
 exact ⟨h1,z3z M h2⟩
set_option maxHeartbeats 1000000 in
end
structure PartA where
 L:LogA
 most:Int
 T:TabA
 V:ViewA
def paP (p:Nat) (A:PartA):HP:=HP.ex λM:Nat × Nat × Nat=>HP.star (pt p (.cells #[.pointer (some ⟨M.1,0,none⟩),.pointer (some ⟨A.L.d,0,none⟩),.string A.L.pre,.int .i64 A.most,.pointer (some ⟨M.2.1,0,none⟩),.pointer (some ⟨M.2.2,0,none⟩)] T.a31))
 (HP.star (lgP M.1 A.L) (HP.star (tb M.2.1 A.T) (vw M.2.2 A.V)))
def z6q (A:PartA):Int:=if A.V.op.length=0 then zq A.L.l else max (z64 A.V) (z1z A.L.l)
section
variable {w:World} {l r r1 r2 r3 r4 l':List HP} {p lg t v:Nat} {A:PartA} {D:DiskA}
theorem z55 (hs:Sat w (paP p A::l)):∃ lg t v:Nat,Sat w (pt p (.cells #[.pointer (some ⟨lg,0,none⟩),.pointer (some ⟨A.L.d,0,none⟩),.string A.L.pre,.int .i64 A.most,.pointer (some ⟨t,0,none⟩),.pointer (some ⟨v,0,none⟩)] T.a31)::lgP lg A.L::tb t A.T::vw v A.V::l):=by
 obtain ⟨⟨lg,t,v⟩,hs⟩:=hs.ex
 have hs:=hs.star
 have hs:=(hs.pick [1]).star
 have hs:=(hs.pick [1]).star
 exact ⟨lg,t,v,hs.pick [3,2,0]⟩
theorem z05s (lg t v:Nat) (hs:Sat w (pt p (.cells #[.pointer (some ⟨lg,0,none⟩),.pointer (some ⟨A.L.d,0,none⟩),.string A.L.pre,.int .i64 A.most,.pointer (some ⟨t,0,none⟩),.pointer (some ⟨v,0,none⟩)] T.a31)::lgP lg A.L::tb t A.T::vw v A.V::l)):Sat w (paP p A::l):=by
 have h1:=(hs.pick [2,2]).star_mk
 have h2:=(h1.pick [2,0]).star_mk
 exact .ex_mk (lg,t,v) ((h2.pick [1]).star_mk)
theorem z2l (A:PartA) (hs:Sat w l) [h1:FocB l p (.cells [.pointer (some ⟨lg,0,none⟩),.pointer (some ⟨A.L.d,0,none⟩),.string A.L.pre,.int .i64 A.most,.pointer (some ⟨t,0,none⟩),.pointer (some ⟨v,0,none⟩)].toArray T.a31) r1] [h2:Fo r1 lgP lg A.L r2] [h3:Fo r2 tb t A.T r3] [h4:Fo r3 vw v A.V r4] [h5:Sub r4 l']:Sat w (paP p A::l'):=by
 have hs:=hs.perm (h1.perm.trans (.cons _ (h2.perm.trans (.cons _ (h3.perm.trans (.cons _ h4.perm))))))
 have hs:Sat w (paP p A::r4):=z05s lg t v hs
 exact hs.sub
theorem zp9 [hf:Fo l paP p A r] (hlen:A.L.l.length<=1000000000) (hs:Sat w l):Ret P F.a92 #[.pointer (some ⟨p,0,none⟩)] w λvs w'=>vs=[.int .i64 (zq A.L.l)]/\Sat w' (paP p A::r) :=
 zfx _ <| by
  delta zxp AI AJ Ad Af Ah Ak Am Ap
  obtain ⟨lg,t,v,hs⟩:=z55 (hs.perm hf.perm)
  refine z06 ?_ (by simp)
  refine zk ?_
  refine za hs ?_
  refine z8 (zvx (lg:=lg) (A:=A.L) hlen hs) λ_ w' hs=>?_
  obtain ⟨rfl,hs⟩:=hs
  refine zb ?_
  refine wp_lt ?_
  exact ⟨rfl,rfl,z2l A hs⟩
theorem zwe [hf:Fo l paP p A r] (hs:Sat w l):Ret P F.a90 #[.pointer (some ⟨p,0,none⟩)] w λvs w'=>vs=[.int .i64 (z1z A.L.l)]/\Sat w' (paP p A::r) :=
 zfv _ <| by
  delta zxn AI AJ Ad Af Ah Ak Am Ap
  obtain ⟨lg,t,v,hs⟩:=z55 (hs.perm hf.perm)
  refine z06 ?_ (by simp)
  refine zk ?_
  refine za hs ?_
  obtain ⟨M,hM,hsl⟩:=z77 (hs.pick [1])
  refine z8 (zg6 (lg:=lg) hsl) λ_ w' hs=>?_
  obtain ⟨rfl,hs⟩:=hs
  refine zb ?_
  refine wp_lt ?_
  have hMl:M.l=A.L.l:=congrArg LogA.l hM
  have hs:=z3z M hs
  rw [hM] at hs
  rw [hMl]
  exact ⟨rfl,rfl,z2l A hs⟩
theorem zum [hf:Fo l paP p A r] (hlen:A.L.l.length<=1000000000) (hs:Sat w l):Ret P F.a95 #[.pointer (some ⟨p,0,none⟩)] w λvs w'=>vs=[.int .i64 (z6q A)]/\Sat w' (paP p A::r) :=
 zfz _ <| by
  delta zxr AI AJ Ad Af Ah Ak Al Am An Ap;unfold z6q
  obtain ⟨lg,t,v,hs⟩:=z55 (hs.perm hf.perm)
  refine z06 ?_ (by simp)
  refine zk ?_
  refine za hs ?_
  refine z8 (z00u (v:=v) (A:=A.V) hs) λ_ w' hs=>?_
  obtain ⟨z,rfl,hs⟩:=hs
  refine zb ?_
  have hz:=hs.slen z (xs:=A.V.op) (enc:=z2i)
  refine ze (λh=>?_) λh=>?_
  ·have h0:A.V.op.length=0:=by simpa [hz] using h
   rw [if_pos h0]
   have hs:Sat w' (paP p A::r):=z2l A hs
   refine z8 (zp9 (p:=p) (A:=A) hlen hs) λ_ w' hs=>?_
   obtain ⟨rfl,hs⟩:=hs
   refine zb ?_
   refine wp_lt ?_
   exact ⟨rfl,rfl,hs⟩
  ·have h0:¬ A.V.op.length=0:=by simpa [hz] using h
   rw [if_neg h0]
   refine zk ?_
   refine za hs ?_
   refine z8 (zhm (v:=v) (A:=A.V) hs) λ_ w' hs=>?_
   obtain ⟨rfl,hs⟩:=hs
   refine zb ?_
   have hs:Sat w' (paP p A::r):=z2l A hs
   refine z8 (zwe (p:=p) (A:=A) hs) λ_ w' hs=>?_
   obtain ⟨rfl,hs⟩:=hs
   refine zb ?_
   refine wp_lt ?_
   refine ⟨rfl,?_,hs⟩
   have e:(if z1z A.L.l>z64 A.V then z1z A.L.l else z64 A.V)=max (z64 A.V) (z1z A.L.l):=by split <;> omega
   rw [e]
end
def zbj (A:PartA) (b:BatM):VerA × Int:=if (z1r A.T b).2≠0\/(z1r A.T b).1.again=true then z1r A.T b else ((z1r A.T b).1,z7l A.V b)
def z50 (A:PartA) (b:BatM):PartA:=⟨A.L,A.most,(ziv A.T b).2,(ziu A.V b).2⟩
def PartA.log (A:PartA) (l:List SegA):PartA:=⟨A.L.set l,A.most,A.T,A.V⟩
def zq1 (A:PartA) (D:DiskA) (c:BatM):(Int × Bool × Int) × PartA × DiskA :=
 if (z0u A.L.pre A.L.seg A.L.l D [c]).1.2≠0 then ((0,false,(z0u A.L.pre A.L.seg A.L.l D [c]).1.2),A.log (z0u A.L.pre A.L.seg A.L.l D [c]).2.1,(z0u A.L.pre A.L.seg A.L.l D [c]).2.2) else
 if (z0i A.L.pre (z0u A.L.pre A.L.seg A.L.l D [c]).2.1 (z0u A.L.pre A.L.seg A.L.l D [c]).2.2).1≠0 then ((0,false,(z0i A.L.pre (z0u A.L.pre A.L.seg A.L.l D [c]).2.1 (z0u A.L.pre A.L.seg A.L.l D [c]).2.2).1),A.log (z0u A.L.pre A.L.seg A.L.l D [c]).2.1,(z0i A.L.pre (z0u A.L.pre A.L.seg A.L.l D [c]).2.1 (z0u A.L.pre A.L.seg A.L.l D [c]).2.2).2) else
 (((z0u A.L.pre A.L.seg A.L.l D [c]).1.1,false,0),z50 (A.log (z0u A.L.pre A.L.seg A.L.l D [c]).2.1) (c.to (z0u A.L.pre A.L.seg A.L.l D [c]).1.1),(z0i A.L.pre (z0u A.L.pre A.L.seg A.L.l D [c]).2.1 (z0u A.L.pre A.L.seg A.L.l D [c]).2.2).2)
def z0z (A:PartA) (D:DiskA) (b:BatM):(Int × Bool × Int) × PartA × DiskA :=
 if (zbj A (b.to (zq A.L.l))).2≠0\/(zbj A (b.to (zq A.L.l))).1.again=true then (((zbj A (b.to (zq A.L.l))).1.base,(zbj A (b.to (zq A.L.l))).1.again,(zbj A (b.to (zq A.L.l))).2),A,D)
 else zq1 A D (b.to (zq A.L.l))
instance {n k:Int} {b:Bool}:IsR (.tup [.one (.int .i64),.one .bool,.one (.int .i64)]) [.int .i64 n,.bool b,.int .i64 k] (n,b,k,()):=⟨rfl⟩
section
variable {w:World} {l r r1 r2 r3 r4 l':List HP} {p lg t v:Nat} {A:PartA} {D:DiskA}
theorem zpe (b:BatM) [hf:Fo l paP p A r] [hb:FocR r b.x 4 (b.rs.flatMap z02)] (hs:Sat w l):Ret P F.a102 #[.pointer (some ⟨p,0,none⟩),.agg (zu b).toArray] w λvs w'=>vs=[]/\Sat w' (paP p (z50 A b)::r) :=
 zlx _ b.base b.pid b.epoch b.seq b.kind b.time b.x <| by
  delta zya AI AJ AL AN Aa Ab Ac Ad Am Ap
  obtain ⟨lg,t,v,hs⟩:=z55 (hs.perm hf.perm)
  refine zn hs λa0 w' hs=>?_
  refine zy hs λw' hs=>?_
  refine zk ?_
  refine za hs ?_
  refine zi hs ?_
  refine z8 (z01x (t:=t) (A:=A.T) b hs) λ_ _ hs=>?_
  obtain ⟨rfl,hs⟩:=hs
  refine zb ?_
  refine zd ?_
  refine zy hs λw' hs=>?_
  refine zk ?_
  refine za hs ?_
  refine zi hs ?_
  refine z8 (z00v (v:=v) (A:=A.V) b hs) λ_ _ hs=>?_
  obtain ⟨rfl,hs⟩:=hs
  refine zb ?_
  refine zd ?_
  exact ⟨rfl,rfl,z2l (lg:=lg) (t:=t) (v:=v) (z50 A b) hs⟩
theorem z01c (b:BatM) (hs:Sat w l):Ret P F.a105 #[.agg (zu b).toArray] w λvs w'=>vs=[.bool (z0h b)]/\Sat w' l :=
 zm0 b.base b.pid b.epoch b.seq b.kind b.time b.x <| by
  delta zyd Aa Ab Ag Ap Ar As
  refine zn hs λa0 w' hs=>?_
  refine za hs ?_
  refine za hs ?_
  refine wp_lt ?_
  refine ⟨rfl,?_,hs.tail⟩
  unfold z0h
  rfl
theorem z039 (b:BatM) [hf:Fo l paP p A r] [hb:FocR r b.x 4 (b.rs.flatMap z02)] (hs:Sat w l):Ret P F.a96 #[.pointer (some ⟨p,0,none⟩),.agg (zu b).toArray] w λvs w'=>vs=[.agg (zeh (zbj A b).1).toArray,.int .i64 (zbj A b).2]/\Sat w' (paP p A::r) :=
 zlt _ b.base b.pid b.epoch b.seq b.kind b.time b.x <| by
  delta zy6 AC AD AI AJ AL AN AU AV Aa Ab Ac Ad Af Ah Ak Am Ap Ax Ba Be Bg By;unfold zbj
  obtain ⟨lg,t,v,hs⟩:=z55 (hs.perm hf.perm)
  refine zn hs λa0 w' hs=>?_
  refine zt hs λa1 w' hs=>?_
  refine zg (λq w'=>∃ a:Nat,q=(⟨a,0,none⟩,(z1r A.T b).2,())/\Sat w' (pt a (.cells #[.bool (z1r A.T b).1.again,.int .i64 (z1r A.T b).1.base] T.a6)::pt a1 (.cells #[.bool false,.int .i64 0] T.a6)::pt a0 (.cells #[.int .i64 b.base,.int .i64 b.pid,.int .i64 b.epoch,.int .i64 b.seq,.int .i64 b.kind,.int .i64 b.time,.slice b.x.a b.x.len b.x.cap] T.a0)::paP p A::r)) ?_ ?_
  ·refine zy hs λw' hs=>?_
   refine zk ?_
   refine z18 hs ?_
   refine zfp hs ?_
   refine ⟨?_,?_⟩
   ·refine zd ?_
    refine z8 (ze6 (t:=t) (A:=A.T) b hs) λ_ _ hs=>?_
    obtain ⟨rfl,hs⟩:=hs
    refine zb ?_
    refine zt hs λa15 w' hs=>?_
    refine zv hs λw' hs=>?_
    refine wp_lt ?_
    refine zd ?_
    have hs:Sat w' (pt a15 (.cells #[.bool (z1r A.T b).1.again,.int .i64 (z1r A.T b).1.base] T.a6)::_):=hs
    refine zj ⟨a15,rfl,?_⟩
    have hs:Sat w' (paP p A::pt a15 (.cells #[.bool (z1r A.T b).1.again,.int .i64 (z1r A.T b).1.base] T.a6)::pt a1 (.cells #[.bool false,.int .i64 0] T.a6)::pt a0 (.cells #[.int .i64 b.base,.int .i64 b.pid,.int .i64 b.epoch,.int .i64 b.seq,.int .i64 b.kind,.int .i64 b.time,.slice b.x.a b.x.len b.x.cap] T.a0)::r):=z2l (lg:=lg) (t:=t) (v:=v) A hs
    exact hs.pick [1,1,1,0]
   ·refine zt hs λa17 w' hs=>?_
    refine zd ?_
    refine z8 (ze6 (t:=t) (A:=A.T) b hs) λ_ _ hs=>?_
    obtain ⟨rfl,hs⟩:=hs
    refine zb ?_
    refine zv hs λw' hs=>?_
    refine wp_lt ?_
    refine zd ?_
    refine zj ⟨a17,rfl,?_⟩
    have hs:Sat w' (paP p A::pt a17 (.cells #[.bool (z1r A.T b).1.again,.int .i64 (z1r A.T b).1.base] T.a6)::pt a1 (.cells #[.bool false,.int .i64 0] T.a6)::pt a0 (.cells #[.int .i64 b.base,.int .i64 b.pid,.int .i64 b.epoch,.int .i64 b.seq,.int .i64 b.kind,.int .i64 b.time,.slice b.x.a b.x.len b.x.cap] T.a0)::r):=z2l (lg:=lg) (t:=t) (v:=v) A hs
    exact hs.pick [1,1,1,0]
  clear hs
  rintro _ w ⟨a,rfl,hs⟩
  refine z4g _ _ ?_
  generalize z1r A.T b=j at *
  obtain ⟨v0,e⟩:=j
  simp only at hs ⊢
  refine za hs ?_
  refine ze (λh=>?_) λh=>?_
  ·rw [if_pos h]
   refine zi hs ?_
   refine zv hs λw' hs=>?_
   refine wp_lt ?_
   refine zi hs ?_
   exact ⟨rfl,rfl,hs.sub⟩
  rw [if_neg h]
  refine zg (λq w'=>q=(z7l A.V b,())/\Sat w' (pt a1 (.cells #[.bool v0.again,.int .i64 v0.base] T.a6)::paP p A::r)) ?_ ?_
  ·refine zy hs λw' hs=>?_
   refine zfp hs ?_
   obtain ⟨lg,t,v,hs⟩:=z55 (hs.pick [3])
   refine zk ?_
   refine za hs ?_
   refine zi hs ?_
   refine z8 (ztw (v:=v) (A:=A.V) b hs) λ_ w' hs=>?_
   obtain ⟨rfl,hs⟩:=hs
   refine zb ?_ (by first|trivial|(repeat (first|exact trivial|exact λ_=>z09 hs|exact λ_=>z0q hs|refine And.intro ?_ ?_)))
   refine zd ?_
   refine zv hs λw' hs=>?_
   refine wp_lt ?_
   refine zd ?_
   refine zj ⟨rfl,?_⟩
   have hs:Sat w' (paP p A::pt a1 (.cells #[.bool v0.again,.int .i64 v0.base] T.a6)::r):=z2l (lg:=lg) (t:=t) (v:=v) A hs
   exact hs.pick [1]
  clear hs
  rintro _ w ⟨rfl,hs⟩
  refine zm ?_
  refine zi hs ?_
  exact ⟨rfl,rfl,hs.sub⟩
theorem zvu (pre:ByteArray) (seg:Int) (l:List SegA) (D:DiskA) (bs:List BatM):(z0u pre seg l D bs).2.1.length<=l.length+1:=by
 unfold z0u
 split
 ·exact Nat.le_succ _
 split
 ·exact Nat.le_succ _
 split
 ·split
  ·exact Nat.le_succ _
  ·unfold z4h
   split <;> simp
 split
 ·exact Nat.le_succ _
 split
 ·exact Nat.le_succ _
 ·simp
set_option maxHeartbeats 1000000 in
theorem zul (b:BatM) {r1:List HP} [hf:Fo l paP p A r1] [hf2:Fo r1 dk A.L.d D r] (hb:FocR r b.x 4 (b.rs.flatMap z02)) (hlen:A.L.l.length<=100000) (hok:z0a 0 A.L.l) (hfl:∀ s ∈ A.L.l,s.file.length<=500000000) (hr:b.rs.length<=1000000) (hs:Sat w l) :
  Ret P F.a100 #[.pointer (some ⟨p,0,none⟩),.agg (zu b).toArray] w λvs w'=>vs=[.int .i64 (z0z A D b).1.1,.bool (z0z A D b).1.2.1,.int .i64 (z0z A D b).1.2.2]/\Sat w' (paP p (z0z A D b).2.1::dk A.L.d (z0z A D b).2.2::r) :=
 zlv _ b.base b.pid b.epoch b.seq b.kind b.time b.x <| by
  delta zy8 AC AD AE AG AI AJ AL AN AR AT AU AV AW Aa Ab Ac Ad Af Ag Ah Ai Ak Am Ap Ar Ba Be Bf Bg;unfold z0z
  have hs:=hs.perm (hf.perm.trans (.cons _ hf2.perm))
  clear hf hf2
  have hb':FocR r (b.to (zq A.L.l)).x 4 ((b.to (zq A.L.l)).rs.flatMap z02):=hb
  have hr':(b.to (zq A.L.l)).rs.length<=1000000:=hr
  refine zn hs λa0 w' hs=>?_
  refine z8 (zp9 (p:=p) (A:=A) (by omega) hs) λ_ w' hs=>?_
  obtain ⟨rfl,hs⟩:=hs
  refine zb ?_
  refine z07 hs λw' hs=>?_
  have hs:Sat w' (pt a0 (.cells (zu (b.to (zq A.L.l))).toArray T.a0)::paP p A::dk A.L.d D::r):=hs
  generalize b.to (zq A.L.l)=c at *
  have hs:Sat w' (pt a0 (.cells #[.int .i64 c.base,.int .i64 c.pid,.int .i64 c.epoch,.int .i64 c.seq,.int .i64 c.kind,.int .i64 c.time,.slice c.x.a c.x.len c.x.cap] T.a0)::paP p A::dk A.L.d D::r):=hs
  refine zi hs ?_
  refine z8 (z039 (p:=p) (A:=A) c hs) λ_ w' hs=>?_
  obtain ⟨rfl,hs⟩:=hs
  refine zb ?_
  refine zt hs λa12 w' hs=>?_
  refine zv hs λw' hs=>?_
  refine wp_lt ?_
  refine za hs ?_
  refine ze (λh=>?_) λh=>?_
  ·rw [if_pos h]
   refine zy hs λw' hs=>?_
   refine za hs ?_
   refine za hs ?_
   refine wp_lt ?_
   refine wp_lt ?_
   refine wp_lt ?_
   refine zd ?_
   exact ⟨rfl,rfl,hs.sub⟩
  rw [if_neg h]
  have hs:Sat w' (pt a0 (.cells #[.int .i64 c.base,.int .i64 c.pid,.int .i64 c.epoch,.int .i64 c.seq,.int .i64 c.kind,.int .i64 c.time,.slice c.x.a c.x.len c.x.cap] T.a0)::paP p A::dk A.L.d D::r):=hs.sub
  unfold zq1
  have hlsg:=zty (pre:=A.L.pre) (seg:=A.L.seg) (D:=D) (bs:=[c]) hok
  have hlln:=zvu A.L.pre A.L.seg A.L.l D [c]
  generalize hla:z0u A.L.pre A.L.seg A.L.l D [c]=la at *
  refine zg (λq w'=>q=(la.1.2,la.1.1,())/\Sat w' (pt a0 (.cells #[.int .i64 c.base,.int .i64 c.pid,.int .i64 c.epoch,.int .i64 c.seq,.int .i64 c.kind,.int .i64 c.time,.slice c.x.a c.x.len c.x.cap] T.a0)::paP p (A.log la.2.1)::dk A.L.d la.2.2::r)) ?_ ?_
  ·refine zy hs λw' hs=>?_
   obtain ⟨lg,t,v,hs⟩:=z55 (hs.pick [1])
   refine zk ?_
   refine z18 hs ?_
   refine zi hs ?_
   refine z7i hs (enc:=zu) [c] λy w' hs=>⟨(by first|trivial|(repeat (first|exact trivial|exact λ_=>z09 hs|exact λ_=>z0q hs|refine And.intro ?_ ?_))),?_⟩
   refine zd ?_
   refine z8 (z02a (lg:=lg) (A:=A.L) (D:=D) c y (by omega) hok hfl inferInstance inferInstance hs) λ_ w' hs=>?_
   obtain ⟨rfl,hs⟩:=hs
   rw [hla] at hs ⊢
   refine ⟨(la.1.1,la.1.2,()),rfl,trivial,z4g _ _ ?_⟩
   refine wp_lt ?_
   refine wp_lt ?_
   refine zd ?_
   refine zj ⟨rfl,?_⟩
   have hs:Sat w' (lgP lg (A.log la.2.1).L::_):=hs
   have hs:Sat w' (paP p (A.log la.2.1)::dk A.L.d la.2.2::pt a0 (.cells #[.int .i64 c.base,.int .i64 c.pid,.int .i64 c.epoch,.int .i64 c.seq,.int .i64 c.kind,.int .i64 c.time,.slice c.x.a c.x.len c.x.cap] T.a0)::r):=z2l (lg:=lg) (t:=t) (v:=v) (A.log la.2.1) hs
   exact hs.pick [2]
  clear hs
  rintro _ w ⟨rfl,hs⟩
  refine z4g _ _ ?_
  obtain ⟨⟨at_,e⟩,l',D'⟩:=la
  simp only at hs hlsg hlln ⊢
  refine zg (λq w'=>q=((if e≠0 then e else (z0i A.L.pre l' D').1),())/\Sat w' (pt a0 (.cells #[.int .i64 c.base,.int .i64 c.pid,.int .i64 c.epoch,.int .i64 c.seq,.int .i64 c.kind,.int .i64 c.time,.slice c.x.a c.x.len c.x.cap] T.a0)::paP p (A.log l')::dk A.L.d (if e≠0 then D' else (z0i A.L.pre l' D').2)::r)) ?_ ?_
  ·refine ze (λh1=>?_) λh1=>?_
   ·have hs:Sat w (paP p (A.log l')::pt a0 (.cells #[.int .i64 c.base,.int .i64 c.pid,.int .i64 c.epoch,.int .i64 c.seq,.int .i64 c.kind,.int .i64 c.time,.slice c.x.a c.x.len c.x.cap] T.a0)::dk (A.log l').L.d D'::r):=hs.pick [1]
    obtain ⟨lg,t,v,hs⟩:=z55 hs
    refine zk ?_
    refine za hs ?_
    refine z8 (zvz (lg:=lg) (A:=(A.log l').L) (D:=D') (by show l'.length<=_;omega) hlsg hs) λ_ w' hs=>?_
    obtain ⟨rfl,hs⟩:=hs
    refine zb ?_
    refine wp_lt ?_
    refine zj ⟨?_,?_⟩
    ·rw [if_neg (by simpa using h1)];rfl
    ·rw [if_neg (by simpa using h1)]
     have hs:Sat w' (lgP lg (A.log l').L::dk A.L.d (z0i A.L.pre l' D').2::_):=hs
     have hs:Sat w' (paP p (A.log l')::dk A.L.d (z0i A.L.pre l' D').2::pt a0 (.cells #[.int .i64 c.base,.int .i64 c.pid,.int .i64 c.epoch,.int .i64 c.seq,.int .i64 c.kind,.int .i64 c.time,.slice c.x.a c.x.len c.x.cap] T.a0)::r):=z2l (lg:=lg) (t:=t) (v:=v) (A.log l') hs
     exact hs.pick [2]
   ·refine zj ⟨?_,?_⟩
    ·rw [if_pos (by simpa using h1)]
    ·rw [if_pos (by simpa using h1)];exact hs
  clear hs
  rintro _ w ⟨rfl,hs⟩
  refine zm ?_
  by_cases he:e≠0
  ·rw [if_pos he] at hs ⊢
   rw [if_pos he]
   refine z0g ?_ (by simpa using he)
   refine wp_lt ?_
   exact ⟨rfl,rfl,hs.sub⟩
  rw [if_neg he] at hs ⊢
  rw [if_neg he]
  refine ze (λh2=>?_) λh2=>?_
  ·rw [if_pos h2]
   refine wp_lt ?_
   exact ⟨rfl,rfl,hs.sub⟩
  rw [if_neg h2]
  refine z07 hs λw' hs=>?_
  refine zi hs ?_
  have hb2:FocR r (c.to at_).x 4 ((c.to at_).rs.flatMap z02):=hb'
  refine z8 (zpf (c.to at_) hr' hs) λ_ w' hs=>?_
  obtain ⟨z,rfl,hs⟩:=hs
  refine ⟨(at_,c.pid,c.epoch,c.seq,c.kind,c.time,z,()),rfl,trivial,ziw _ _ _ _ _ _ _ ?_⟩
  have hb3:FocR (slc T.a2 4 z ((c.to at_).rs.flatMap z02)::dk A.L.d (z0i A.L.pre l' D').2::r) ((c.to at_).at z).x 4 (((c.to at_).at z).rs.flatMap z02):=(FocR.head:FocR (slc T.a2 4 z ((c.to at_).rs.flatMap z02)::_) z 4 ((c.to at_).rs.flatMap z02))
  have hs:Sat w' (paP p (A.log l')::slc T.a2 4 z ((c.to at_).rs.flatMap z02)::dk A.L.d (z0i A.L.pre l' D').2::r):=hs.sub
  refine z8 (zpe (p:=p) (A:=A.log l') ((c.to at_).at z) hs) λ_ w' hs=>?_
  obtain ⟨rfl,hs⟩:=hs
  refine zb ?_
  refine wp_lt ?_
  have hs:Sat w' (paP p (z50 (A.log l') (c.to at_))::_):=hs
  exact ⟨rfl,rfl,hs.sub⟩
theorem zuf (b:BatM) {r1:List HP} [hf:Fo l paP p A r1] [hf2:Fo r1 dk A.L.d D r] (hb:FocR r b.x 4 (b.rs.flatMap z02)) (hlen:A.L.l.length<=100000) (hok:z0a 0 A.L.l) (hfl:∀ s ∈ A.L.l,s.file.length<=500000000) (hr:b.rs.length<=1000000) (hm:z0h b=false) (hs:Sat w l) :
  Ret P F.a85 #[.pointer (some ⟨p,0,none⟩),.agg (zu b).toArray] w λvs w'=>vs=[.int .i64 (z0z A D b).1.1,.bool (z0z A D b).1.2.1,.int .i64 (z0z A D b).1.2.2]/\Sat w' (paP p (z0z A D b).2.1::dk A.L.d (z0z A D b).2.2::r) :=
 zfu _ b.base b.pid b.epoch b.seq b.kind b.time b.x <| by
  delta zxm AH Aa Ab Ac Ad Ae Af Ag Ah Ao Ap
  have hs:=hs.perm (hf.perm.trans (.cons _ hf2.perm))
  clear hf hf2
  refine zn hs λa0 w' hs=>?_
  refine wp_lt ?_
  refine z06 ?_ (by simp)
  refine zi hs ?_
  refine z8 (z01c b hs) λ_ w' hs=>?_
  obtain ⟨rfl,hs⟩:=hs
  refine zb ?_
  refine wp_lt ?_
  refine z06 ?_ (by rw [hm];simp)
  refine zi hs ?_
  have hs:=hs.pick [1,1]
  refine z8 (zul (p:=p) (A:=A) (D:=D) b inferInstance hlen hok hfl hr hs) λ_ w' hs=>?_
  obtain ⟨rfl,hs⟩:=hs
  refine zb ?_
  refine wp_lt ?_
  refine wp_lt ?_
  refine wp_lt ?_
  exact ⟨rfl,rfl,hs.sub⟩
def z4c (pid epoch:Int) (commit:Bool) (time:Int) (x:Sl):BatM:=⟨0,pid,epoch,0,if commit then 2 else 3,time,x,[]⟩
theorem z01n (pid epoch:Int) (commit:Bool) (time:Int) (hs:Sat w l):Ret P F.a111 #[.int .i64 pid,.int .i64 epoch,.bool commit,.int .i64 time] w λvs w'=>vs=[.agg (zu (z4c pid epoch commit time ⟨none,0,0⟩)).toArray]/\Sat w' l :=
 zm6 _ _ _ _ <| by
  delta zyk AC AD AT Aa Ac Ah Ak Ap Az
  refine zt hs λa0 w' hs=>?_
  refine zt hs λa1 w' hs=>?_
  refine zv hs λw' hs=>?_
  refine zg (λq w'=>Sat w' (pt a1 (.cells (zu (z4c pid epoch commit time ⟨none,0,0⟩)).toArray T.a0)::pt a0 (.cells #[.int .i64 0,.int .i64 0,.int .i64 0,.int .i64 0,.int .i64 0,.int .i64 0,.slice none 0 0] T.a0)::l)) ?_ ?_
  ·cases commit with
   | true =>
    refine z0g ?_ (by simp)
    refine z07 hs λw' hs=>?_
    exact zj hs
   | false =>
    refine z06 ?_ (by simp)
    exact zj hs
  clear hs
  rintro _ w hs
  have hs:Sat w (pt a1 (.cells #[.int .i64 0,.int .i64 pid,.int .i64 epoch,.int .i64 0,.int .i64 (if commit then 2 else 3),.int .i64 time,.slice none 0 0] T.a0)::pt a0 (.cells #[.int .i64 0,.int .i64 0,.int .i64 0,.int .i64 0,.int .i64 0,.int .i64 0,.slice none 0 0] T.a0)::l):=hs
  refine zm ?_
  refine zi hs ?_
  refine zv hs λw' hs=>?_
  refine zi hs ?_
  exact ⟨rfl,rfl,hs.tail.tail⟩
theorem z018 (pid epoch:Int) (commit:Bool) (time:Int) {r1:List HP} [hf:Fo l paP p A r1] [hf2:Fo r1 dk A.L.d D r] (hlen:A.L.l.length<=100000) (hok:z0a 0 A.L.l) (hfl:∀ s ∈ A.L.l,s.file.length<=500000000) (hs:Sat w l) :
  Ret P F.a91 #[.pointer (some ⟨p,0,none⟩),.int .i64 pid,.int .i64 epoch,.bool commit,.int .i64 time] w λvs w'=>vs=[.int .i64 (z0z A D (z4c pid epoch commit time ⟨none,0,0⟩)).1.1,.bool (z0z A D (z4c pid epoch commit time ⟨none,0,0⟩)).1.2.1,.int .i64 (z0z A D (z4c pid epoch commit time ⟨none,0,0⟩)).1.2.2]/\Sat w' (paP p (z0z A D (z4c pid epoch commit time ⟨none,0,0⟩)).2.1::dk A.L.d (z0z A D (z4c pid epoch commit time ⟨none,0,0⟩)).2.2::r) :=
 zfw _ _ _ _ _ <| by
  delta zxo AG Aa Ad Ae Af Ag Ah Ak Ap
  have hs:=hs.perm (hf.perm.trans (.cons _ hf2.perm))
  clear hf hf2
  refine z06 ?_ (by simp)
  refine z8 (z01n pid epoch commit time hs) λ_ w' hs=>?_
  obtain ⟨rfl,hs⟩:=hs
  refine ⟨(0,pid,epoch,0,(if commit then 2 else 3),time,⟨none,0,0⟩,()),rfl,trivial,ziw _ _ _ _ _ _ _ ?_⟩
  have hs:Sat w' (slc T.a2 4 ⟨none,0,0⟩ (([]:List RecM).flatMap z02)::_):=hs.slc_nil
  have hb:FocR (slc T.a2 4 ⟨none,0,0⟩ (([]:List RecM).flatMap z02)::r) (z4c pid epoch commit time ⟨none,0,0⟩).x 4 ((z4c pid epoch commit time ⟨none,0,0⟩).rs.flatMap z02):=(FocR.head:FocR (slc T.a2 4 ⟨none,0,0⟩ (([]:List RecM).flatMap z02)::r) ⟨none,0,0⟩ 4 (([]:List RecM).flatMap z02))
  have hs:Sat w' (paP p A::dk A.L.d D::slc T.a2 4 ⟨none,0,0⟩ (([]:List RecM).flatMap z02)::r):=hs.sub
  refine z8 (zul (p:=p) (A:=A) (D:=D) (z4c pid epoch commit time ⟨none,0,0⟩) hb hlen hok hfl (by show 0<=_;omega) hs) λ_ w' hs=>?_
  obtain ⟨rfl,hs⟩:=hs
  refine zb ?_
  refine wp_lt ?_
  refine wp_lt ?_
  refine wp_lt ?_
  exact ⟨rfl,rfl,hs.sub⟩
end
def z2w (A:PartA) (c:Bool):Int->List BatM->List AtM × Int
 | n,[]=>([],n)
 | n,b::bs=>if c=true/\b.base>=z6q A then ([],n) else ((if c=false\/z6a A.V b=1 then z4r b else [])++(z2w A c (z1l b) bs).1,(z2w A c (z1l b) bs).2)
def z35 (A:PartA) (off most:Int) (c:Bool):(List AtM × Int) × Int:=if (z4w A.L.l off most).1≠0 then (([],0),(z4w A.L.l off most).1) else (z2w A c off (z4w A.L.l off most).2,0)
theorem zp7 (A:PartA) (c:Bool):∀ (bs:List BatM) (n:Int),z2w A c n (bs.map BatM.p)=z2w A c n bs
 | [],n=>rfl
 | b::bs,n=>by
  have ih:=zp7 A c bs (z1l b)
  show (if c=true/\b.base>=z6q A then (([]:List AtM),n) else ((if c=false\/z6a A.V b=1 then z4r b else [])++(z2w A c (z1l b) (bs.map BatM.p)).1,(z2w A c (z1l b) (bs.map BatM.p)).2))=_
  rw [ih]
  rfl
theorem zug {A:PartA} {c:Bool} {n:Int} {b:BatM} {bs:List BatM} (h:c=true/\b.base>=z6q A):z2w A c n (b::bs)=([],n):=if_pos h
theorem z01b {A:PartA} {c:Bool} {n:Int} {b:BatM} {bs:List BatM} (h:¬ (c=true/\b.base>=z6q A)):z2w A c n (b::bs)=((if c=false\/z6a A.V b=1 then z4r b else [])++(z2w A c (z1l b) bs).1,(z2w A c (z1l b) bs).2):=if_neg h
theorem zup (l:List SegA) (off most:Int):(z4w l off most).2.length<=(z05 l).length:=by
 unfold z4w
 split
 ·exact Nat.zero_le _
 split
 ·exact Nat.zero_le _
 ·simp only [List.length_take]
  exact Nat.le_trans (Nat.min_le_right _ _) (List.length_filterMap_le ..)
theorem zwq {l:List SegA} {off most:Int} {b:BatM} (hok:z0a 0 l) (h:b ∈ (z4w l off most).2):b.rs.length<=64:=by
 unfold z4w at h
 split at h
 ·cases h
 split at h
 ·cases h
 ·obtain ⟨c,hc,hf⟩:=List.mem_filterMap.1 (List.mem_of_mem_take h)
  have hv:=((zg1 (Int.le_refl 0) hok).valid c hc).1
  have h64:=(z2x hv).1
  unfold z0o at hf
  split at hf
  ·cases hf
  split at hf
  ·cases hf;exact h64
  ·cases hf
   show (c.rs.drop _).length<=64
   rw [List.length_drop];omega
section
variable {w:World} {l r:List HP} {p:Nat} {A:PartA} {D:DiskA}
set_option maxHeartbeats 1000000 in
theorem z01g (off most:Int) (c:Bool) (ho : -9223372036854775808<=off/\off<9223372036854775808) (hmo:most<9223372036854775808) {r1:List HP} [hf:Fo l paP p A r1] [hf2:Fo r1 dk A.L.d D r] (hok:z0a 0 A.L.l) (hhas:ziz A.L.pre A.L.l D) (hlen:A.L.l.length<=1000000) (hall:(z05 A.L.l).length<=1000000) (hs:Sat w l) :
  Ret P F.a93 #[.pointer (some ⟨p,0,none⟩),.int .i64 off,.int .i64 most,.bool c] w λvs w'=>∃ z:Sl,vs=[z.v,.int .i64 (z35 A off most c).1.2,.int .i64 (z35 A off most c).2]/\Sat w' (slc T.a32 5 z ((z35 A off most c).1.1.flatMap z23)::paP p A::dk A.L.d D::r) :=
 zfy _ off most c <| by
  delta zxq AB AC AD AF AI AJ AK AL AM AN AO AP AQ AR Aa Ac Ad Af Ah Aj Ak Al Am An Ap;unfold z35
  have hs:=hs.perm (hf.perm.trans (.cons _ hf2.perm))
  clear hf hf2
  obtain ⟨lg,t,v,hs⟩:=z55 hs
  refine z06 ?_ (by simp)
  refine zk ?_
  refine za hs ?_
  refine z8 (zoy (lg:=lg) (A:=A.L) (D:=D) off most ho hmo hok hhas hlen hall hs) λ_ w' hs=>?_
  obtain ⟨y,outs,rfl,hmap,hs⟩:=hs
  refine ⟨(y,(z4w A.L.l off most).1,()),rfl,trivial,z4g _ _ ?_⟩
  have hs:Sat w' (slc T.a0 7 y (outs.flatMap zu)::z1q outs::paP p A::dk A.L.d D::r):=by
   have hs:Sat w' (paP p A::slc T.a0 7 y (outs.flatMap zu)::z1q outs::dk A.L.d D::r):=z2l (lg:=lg) (t:=t) (v:=v) A hs
   exact hs.pick [1,1]
  refine wp_lt ?_
  refine ze (λh=>?_) λh=>?_
  ·rw [if_pos h]
   refine wp_lt ?_
   have hs:Sat w' (slc T.a32 5 ⟨none,0,0⟩ (([]:List AtM).flatMap z23)::_):=hs.slc_nil
   exact ⟨rfl,⟨none,0,0⟩,rfl,hs.sub⟩
  rw [if_neg h,<- hmap,zp7]
  have hol:outs.length<=1000000:=by
   have:=congrArg List.length hmap
   rw [List.length_map] at this
   rw [this]
   exact Nat.le_trans (zup _ _ _) hall
  have hov:∀ b ∈ outs,b.rs.length<=64:=λb hb=>by
   have h1:b.p ∈ (z4w A.L.l off most).2:=by rw [<- hmap];exact List.mem_map.2 ⟨b,hb,rfl⟩
   have h2:=zwq hok h1
   exact h2
  have hly:=hs.slen y (xs:=outs) (enc:=zu)
  refine wp_lt ?_
  refine zg (λq w'=>∃ z:Sl,q=(z,(z2w A c off outs).2,())/\Sat w' (slc T.a32 5 z ((z2w A c off outs).1.flatMap z23)::paP p A::dk A.L.d D::r)) ?_ ?_
  rotate_left
  ·rintro _ w2 ⟨z,rfl,hs⟩
   refine z4g _ _ ?_
   refine wp_lt ?_
   exact ⟨rfl,z,rfl,hs⟩
  have hs:Sat w' (slc T.a32 5 ⟨none,0,0⟩ (([]:List AtM).flatMap z23)::slc T.a0 7 y (outs.flatMap zu)::z1q outs::paP p A::dk A.L.d D::r):=hs.slc_nil
  refine z04 (λm q w=>∃ (i:Nat) (z:Sl) (n:Int) (done:List AtM),q=(z,n,(i:Int),())/\i<=outs.length/\outs.length-i=m/\done.length<=64*i /\
   z2w A c off outs=(done++(z2w A c n (outs.drop i)).1,(z2w A c n (outs.drop i)).2) /\
   Sat w (slc T.a32 5 z (done.flatMap z23)::slc T.a0 7 y (outs.flatMap zu)::z1q outs::paP p A::dk A.L.d D::r)) outs.length
   ⟨0,⟨none,0,0⟩,off,[],rfl,by omega,rfl,by simp,by simp,hs⟩ ?_
  clear hs
  rintro m _ w ⟨i,z,n,done,rfl,hi,hm,hdl,hq,hs⟩
  refine z7p _ _ _ ?_
  refine ze (λhc=>?_) λhc=>?_
  rotate_left
  ·have e:outs.drop i=[]:=List.drop_eq_nil_of_le (by omega)
   rw [e] at hq
   have hq:z2w A c off outs=(done++[],n):=hq
   rw [List.append_nil] at hq
   refine zh (zj ⟨z,by rw [hq],?_⟩)
   rw [hq]
   exact hs.sub
  have hil:i<outs.length:=by omega
  have hdrop:outs.drop i=outs[i]::outs.drop (i+1):=List.drop_eq_getElem_cons hil
  rw [hdrop] at hq
  have hrl:outs[i].rs.length<=64:=hov _ (List.getElem_mem hil)
  generalize hb:outs[i]=b at *
  have hbm:b ∈ outs:=by rw [<- hb];exact List.getElem_mem hil
  refine z68 hs i hil ?_
  rw [hb]
  refine zt hs λa w' hs=>?_
  refine zv hs λw' hs=>?_
  have hbr:FocR (z1q outs::paP p A::dk A.L.d D::r) b.x 4 (b.rs.flatMap z02):=zck hbm
  have hs:Sat w' (pt a (.cells #[.int .i64 b.base,.int .i64 b.pid,.int .i64 b.epoch,.int .i64 b.seq,.int .i64 b.kind,.int .i64 b.time,.slice b.x.a b.x.len b.x.cap] T.a0)::slc T.a32 5 z (done.flatMap z23)::slc T.a0 7 y (outs.flatMap zu)::z1q outs::paP p A::dk A.L.d D::r):=hs
  refine zg (λq w'=>q=(decide (c=true/\b.base>=z6q A),())/\Sat w' (pt a (.cells #[.int .i64 b.base,.int .i64 b.pid,.int .i64 b.epoch,.int .i64 b.seq,.int .i64 b.kind,.int .i64 b.time,.slice b.x.a b.x.len b.x.cap] T.a0)::slc T.a32 5 z (done.flatMap z23)::slc T.a0 7 y (outs.flatMap zu)::z1q outs::paP p A::dk A.L.d D::r)) ?_ ?_
  ·refine zy hs λw' hs=>?_
   refine z18 hs ?_
   cases c with
   | false =>
    refine z06 ?_ (by simp)
    refine zd ?_
    exact zj ⟨by simp,hs⟩
   | true =>
    refine z0g ?_ (by simp)
    refine z8 (zum (p:=p) (A:=A) (by omega) hs) λ_ w' hs=>?_
    obtain ⟨rfl,hs⟩:=hs
    refine zb ?_ (by first|trivial|(repeat (first|exact trivial|exact λ_=>z09 hs|exact λ_=>z0q hs|refine And.intro ?_ ?_)))
    refine zd ?_
    exact zj ⟨by simp,hs.pick [1,1,1,1]⟩
  clear hs
  rintro _ w ⟨rfl,hs⟩
  refine zm ?_
  by_cases hstop:c=true/\b.base>=z6q A
  ·refine z0g ?_ (by simpa using hstop)
   have hq:z2w A c off outs=(done++[],n):=by
    rw [hq,zug hstop]
   rw [List.append_nil] at hq
   refine zh (zj ⟨z,by rw [hq],?_⟩)
   rw [hq]
   exact hs.sub
  refine z06 ?_ (by simpa using hstop)
  have hq:z2w A c off outs=(done++((if c=false\/z6a A.V b=1 then z4r b else [])++(z2w A c (z1l b) (outs.drop (i+1))).1),(z2w A c (z1l b) (outs.drop (i+1))).2):=by
   rw [hq,z01b hstop]
  refine zg (λq w'=>q=(decide (c=false\/z6a A.V b=1),())/\Sat w' (pt a (.cells #[.int .i64 b.base,.int .i64 b.pid,.int .i64 b.epoch,.int .i64 b.seq,.int .i64 b.kind,.int .i64 b.time,.slice b.x.a b.x.len b.x.cap] T.a0)::slc T.a32 5 z (done.flatMap z23)::slc T.a0 7 y (outs.flatMap zu)::z1q outs::paP p A::dk A.L.d D::r)) ?_ ?_
  ·refine zy hs λw' hs=>?_
   obtain ⟨lg,t,v,hs⟩:=z55 (hs.pick [4])
   refine z0k ?_
   refine za hs ?_
   refine zi hs ?_
   cases c with
   | false =>
    refine z0g ?_ (by simp)
    refine zd ?_
    refine zj ⟨by simp,?_⟩
    have hs:Sat w' (paP p A::pt a (.cells #[.int .i64 b.base,.int .i64 b.pid,.int .i64 b.epoch,.int .i64 b.seq,.int .i64 b.kind,.int .i64 b.time,.slice b.x.a b.x.len b.x.cap] T.a0)::slc T.a32 5 z (done.flatMap z23)::slc T.a0 7 y (outs.flatMap zu)::z1q outs::dk A.L.d D::r):=z2l (lg:=lg) (t:=t) (v:=v) A hs
    exact hs.pick [1,1,1,1]
   | true =>
    refine z06 ?_ (by simp)
    refine z8 (z00t (v:=v) (A:=A.V) b hs) λ_ w' hs=>?_
    obtain ⟨rfl,hs⟩:=hs
    refine zb ?_
    refine zd ?_
    refine zj ⟨?_,?_⟩
    ·have:(z6a A.V b == 1)=decide (true=false\/z6a A.V b=1):=by rw [Bool.eq_iff_iff];simp
     rw [this]
    have hs:Sat w' (paP p A::pt a (.cells #[.int .i64 b.base,.int .i64 b.pid,.int .i64 b.epoch,.int .i64 b.seq,.int .i64 b.kind,.int .i64 b.time,.slice b.x.a b.x.len b.x.cap] T.a0)::slc T.a32 5 z (done.flatMap z23)::slc T.a0 7 y (outs.flatMap zu)::z1q outs::dk A.L.d D::r):=z2l (lg:=lg) (t:=t) (v:=v) A hs
    exact hs.pick [1,1,1,1]
  clear hs
  rintro _ w ⟨rfl,hs⟩
  refine zm ?_
  have hfl:=zhg b
  refine zg (λq w'=>∃ z':Sl,q=(z',())/\Sat w' (pt a (.cells #[.int .i64 b.base,.int .i64 b.pid,.int .i64 b.epoch,.int .i64 b.seq,.int .i64 b.kind,.int .i64 b.time,.slice b.x.a b.x.len b.x.cap] T.a0)::slc T.a32 5 z' ((done++(if c=false\/z6a A.V b=1 then z4r b else [])).flatMap z23)::slc T.a0 7 y (outs.flatMap zu)::z1q outs::paP p A::dk A.L.d D::r)) ?_ ?_
  ·by_cases hd:c=false\/z6a A.V b=1
   ·refine z0g ?_ (by simpa using hd)
    rw [if_pos hd]
    refine zi hs ?_
    refine zpt hs (enc:=zu) [b] λx1 w' hs=>?_
    refine z8 (z02k x1 [b] (λb' hb'=>by rw [List.mem_singleton.1 hb'];infer_instance) (by simp) (λb' hb'=>by rw [List.mem_singleton.1 hb'];omega) hs) λ_ w' hs=>?_
    obtain ⟨z2,rfl,hs⟩:=hs
    refine zb ?_
    have e:z4b [b]=z4r b:=by simp [z4b]
    rw [e] at hs
    refine wp_app' (xs:=done) (ys:=z4r b) (enc:=z23) hs (λz3 w' hs=>?_) (by omega)
    refine zj ⟨z3,rfl,?_⟩
    exact hs.sub
   ·refine z06 ?_ (by simpa using hd)
    rw [if_neg hd,List.append_nil]
    exact zj ⟨z,rfl,hs⟩
  clear hs
  rintro _ w ⟨z',rfl,hs⟩
  refine zm ?_
  refine zi hs ?_
  refine z8 (z8h b hs) λ_ w' hs=>?_
  obtain ⟨rfl,hs⟩:=hs
  refine zb ?_
  refine wp_lt ?_
  refine z3c (us':=[z'.v,.int .i64 (z1l b),.int .i64 ((i+1:Nat):Int)]) (by (try simp (disch:=omega) only [w64]);first|rfl|(congr;omega)) ?_
  refine z16 (outs.length-(i+1)) ⟨i+1,z',z1l b,done++(if c=false\/z6a A.V b=1 then z4r b else []),rfl,by omega,rfl,?_,?_,hs.sub⟩
  ·rw [List.length_append]
   split
   ·omega
   ·simp only [List.length_nil];omega
  ·rw [hq,List.append_assoc]
end
section
variable {w:World} {l r:List HP}
theorem z00p (x:Sl) (bs:List UInt8) [hx:FocR l x 1 (bs.flatMap zf)] (hcap:x.len<=x.cap) (hn:bs.length<=1000000000) (hs:Sat w l) :
  Ret P F.a46 #[x.v] w λvs w'=>∃ z:Sl,vs=[z.v,.bool (zin bs).isSome]/\Sat w' (slc T.a48 1 z (((zin bs).getD []).flatMap zf)::l) :=
 zsf x <| by
  delta z04s Af Ag Ak Al Ap Ca
  have hl:=hs.slen x (xs:=bs) (enc:=zf)
  refine z8 (zal x bs hcap hn hs) λ_ _ hs=>?_
  obtain ⟨z,rfl,hs⟩:=hs
  refine zb ?_
  refine wp_lt ?_
  refine wp_lt ?_
  unfold zin
  cases hf:z0v bs with
  | none =>
   refine z0g ?_ (by simp)
   exact ⟨rfl,⟨none,0,0⟩,rfl,(hs.tail).slc_nil⟩
  | some q =>
   obtain ⟨body,n⟩:=q
   rw [hf] at hs
   dsimp only
   refine ze (λh=>?_) λh=>?_
   ·rw [if_neg (by simp at h;omega)]
    exact ⟨rfl,⟨none,0,0⟩,rfl,(hs.tail).slc_nil⟩
   ·rw [if_pos (by simp at h;omega)]
    exact ⟨rfl,z,rfl,hs⟩
end
def zfg (pre:ByteArray):ByteArray:=pre++ByteArray.mk #[46,115,110,97,112]
def zfk (pre:ByteArray):ByteArray:=pre++ByteArray.mk #[46,116,109,112]
def z6c (L:LogA) (most:Int):PartA:=⟨L,most,⟨most,0,[]⟩,⟨0,[],[]⟩⟩
def zio (L:LogA) (most:Int):PartA:=(z05 L.l).foldl z50 (z6c L most)
theorem z03n (A:PartA) (b:BatM):z50 A b.p=z50 A b:=rfl
theorem zpn:∀ (bs:List BatM) (A:PartA),(bs.map BatM.p).foldl z50 A=bs.foldl z50 A
 | [],A=>rfl
 | b::bs,A=>by
  rw [List.map_cons,List.foldl_cons,List.foldl_cons,z03n]
  exact zpn bs _
section
variable {w:World} {l r:List HP} {p d lg t v:Nat} {A:PartA} {D:DiskA} {c1 c2 c3 c4 c5:Value}
theorem z01h (pre:ByteArray) (hp:pre.size<=100) [hf:FocB l p (.cells [c1,c2,.string pre,c3,c4,c5].toArray T.a31) r] (hs:Sat w l):Ret P F.a101 #[.pointer (some ⟨p,0,none⟩)] w λvs w'=>vs=[.string (zfg pre)]/\Sat w' l :=
 zlw _ <| by
  delta zy9 AI AY AZ Ap
  refine zk ?_
  refine za hs ?_
  refine wp_must (by omega) ?_
  refine wp_lt ?_
  exact ⟨rfl,rfl,hs⟩
theorem zpb (pre:ByteArray) (hp:pre.size<=100) [hf:FocB l p (.cells [c1,c2,.string pre,c3,c4,c5].toArray T.a31) r] (hs:Sat w l):Ret P F.a103 #[.pointer (some ⟨p,0,none⟩)] w λvs w'=>vs=[.string (zfk pre)]/\Sat w' l :=
 zly _ <| by
  delta zyb AI AY AZ Ap
  refine zk ?_
  refine za hs ?_
  refine wp_must (by omega) ?_
  refine wp_lt ?_
  exact ⟨rfl,rfl,hs⟩
theorem z01a (n:ByteArray) (hno:∀ f ∈ D.fs,f.name≠n) [hf:Fo l dk d D r] (hs:Sat w l):Ret P F.a104 #[.pointer (some ⟨d,0,none⟩),.string n] w λvs w'=>vs=[.bool false]/\Sat w' (dk d D::r) :=
 zlz _ n <| by
  delta zyc AK Ad Af Ag Ap
  refine z8 (zfc (d:=d) (A:=D) n hs) λ_ w' h=>?_
  rcases h with ⟨f,hf1,hf2,-⟩|⟨-,rfl,hs⟩
  ·exact absurd hf2 (hno f hf1)
  refine ⟨(⟨none,0,0⟩,3,()),rfl,trivial,z4g _ _ ?_⟩
  refine wp_lt ?_
  refine wp_lt ?_
  exact ⟨rfl,rfl,hs⟩
theorem zwh (pre:ByteArray) (most:Int) (hp:pre.size<=100) (hm:1<=most/\most<=4096) (hno:∀ f ∈ D.fs,f.name≠zfg pre) (hs:Sat w (pt p (.cells #[c1,.pointer (some ⟨d,0,none⟩),.string pre,.int .i64 most,c2,c3] T.a31)::dk d D::r)) :
  Ret P F.a99 #[.pointer (some ⟨p,0,none⟩)] w λvs w'=>vs=[.int .i64 0]/\∃ t v:Nat,Sat w' (pt p (.cells #[c1,.pointer (some ⟨d,0,none⟩),.string pre,.int .i64 most,.pointer (some ⟨t,0,none⟩),.pointer (some ⟨v,0,none⟩)] T.a31)::tb t ⟨most,0,[]⟩::vw v ⟨0,[],[]⟩::dk d D::r) :=
 zlu _ <| by
  delta zy7 AF AI AK AL AN AQ AR AT AX AZ Ad Af Ag Ah Aj Ak Am Ap Ar Aw Ay Ba Bb Bc Bd
  refine zk ?_
  refine za hs ?_
  refine z8 (z03o most hs) λ_ w' h=>?_
  rcases h with ⟨-,-,t,rfl,hs⟩|⟨h,-⟩
  rotate_left
  ·omega
  refine ⟨(some ⟨t,0,none⟩,0,()),rfl,trivial,z4g _ _ ?_⟩
  refine zk ?_
  refine z07 hs λw' hs=>?_
  refine z8 (z03r hs) λ_ w' hs=>?_
  obtain ⟨v,rfl,hs⟩:=hs
  refine zb ?_
  refine zk ?_
  refine z07 hs λw' hs=>?_
  refine zg (λq w'=>q=(⟨none,0,0⟩,())/\Sat w' (pt p (.cells #[c1,.pointer (some ⟨d,0,none⟩),.string pre,.int .i64 most,.pointer (some ⟨t,0,none⟩),.pointer (some ⟨v,0,none⟩)] T.a31)::tb t ⟨most,0,[]⟩::vw v ⟨0,[],[]⟩::dk d D::r)) ?_ ?_
  ·refine zy hs λw' hs=>?_
   refine zk ?_
   refine z18 hs ?_
   refine z8 (z01h (p:=p) pre hp hs) λ_ w' hs=>?_
   obtain ⟨rfl,hs⟩:=hs
   refine zb ?_ (by first|trivial|(repeat (first|exact trivial|exact λ_=>z09 hs|exact λ_=>z0q hs|refine And.intro ?_ ?_)))
   refine zd ?_
   refine z8 (zfc (d:=d) (A:=D) (zfg pre) hs) λ_ w' h=>?_
   rcases h with ⟨f,hf1,hf2,-⟩|⟨-,rfl,hs⟩
   ·exact absurd hf2 (hno f hf1)
   refine ⟨(⟨none,0,0⟩,3,()),rfl,trivial,z4g _ _ ?_⟩
   refine wp_lt ?_
   refine zd ?_
   refine zj ⟨rfl,?_⟩
   exact hs.sub
  clear hs
  rintro _ w ⟨rfl,hs⟩
  refine zm ?_
  have hs:Sat w (slc T.a48 1 ⟨none,0,0⟩ (([]:List UInt8).flatMap zf)::_):=hs.slc_nil
  refine z8 (z00p ⟨none,0,0⟩ [] (Nat.le_refl _) (Nat.zero_le _) hs) λ_ w' hs=>?_
  obtain ⟨z,rfl,hs⟩:=hs
  have e:(zin []).isSome=false:=by kernel_rfl
  rw [e]
  refine ⟨(z,false,()),rfl,trivial,z4g _ _ ?_⟩
  refine wp_lt ?_
  refine z0g ?_ (by simp)
  exact ⟨rfl,rfl,t,v,hs.tail.tail⟩
theorem zvn {fs:List FileA} {n:ByteArray} (hno:∀ f ∈ fs,f.name≠n):(z8b fs n).1=0:=by rw [z8b,zbv hno]
set_option maxHeartbeats 1000000 in
theorem zwi (pre:ByteArray) (seg gap most:Int) (hp:z3q pre=true) (hc:zey seg gap) (hm:1<=most/\most<=1024) (hg:D.gone=false) (S:List SegA) (D':DiskA) (ho:z41 pre D=(0,S,D')) (hno:∀ f ∈ D'.fs,f.name≠zfg pre/\f.name≠zfk pre)
  (hok:z0a 0 S) (hhas:ziz pre S D') (hlen:S.length<=1000000) (hall:(z05 S).length<=1000000) [hf:Fo l dk d D r] (hs:Sat w l) :
  Ret P F.a84 #[.pointer (some ⟨d,0,none⟩),.string pre,.agg #[.int .i64 seg,.int .i64 gap,.int .i64 most]] w λvs w'=>∃ p:Nat,vs=[.pointer (some ⟨p,0,none⟩),.int .i64 0]/\Sat w' (paP p (zio ⟨d,pre,seg,gap,S⟩ most)::dk d D'::r) :=
 zt0 _ pre seg gap most <| by
  delta z05b AA AB AC AD AE AF Aa Ab Ac Ad Af Ah Aj Ak Al Am An Ao Ap Aq Ar As Au Av Aw Ax Ay Az
  have hs:=hs.perm hf.perm
  clear hf
  have hps:pre.size<=100:=by
   unfold z3q at hp
   rw [Bool.and_eq_true,decide_eq_true_eq] at hp
   omega
  refine zn hs λa0 w' hs=>?_
  refine za hs ?_
  refine za hs ?_
  refine z06 ?_ (by simp;omega)
  refine zl5 hs (seg,gap,()) ?_
  refine z8 (z012 (d:=d) (D:=D) pre seg gap hp hc hg hs) λ_ w' hs=>?_
  rw [ho] at hs
  rcases hs with ⟨he,-,-⟩|⟨-,lg,rfl,hs⟩
  ·exact absurd rfl he
  refine ⟨(some ⟨lg,0,none⟩,0,()),rfl,trivial,z4g _ _ ?_⟩
  refine wp_lt ?_
  refine z06 ?_ (by simp)
  refine za hs ?_
  refine zn hs λa10 w' hs=>?_
  have hs:Sat w' (pt a10 (.cells #[.pointer (some ⟨lg,0,none⟩),.pointer (some ⟨d,0,none⟩),.string pre,.int .i64 most,.pointer none,.pointer none] T.a31)::dk d D'::lgP lg ⟨d,pre,seg,gap,S⟩::r):=hs.sub
  refine zg (λq w'=>q=(false,())/\Sat w' (pt a10 (.cells #[.pointer (some ⟨lg,0,none⟩),.pointer (some ⟨d,0,none⟩),.string pre,.int .i64 most,.pointer none,.pointer none] T.a31)::dk d D'::lgP lg ⟨d,pre,seg,gap,S⟩::r)) ?_ ?_
  ·refine z8 (zpb (p:=a10) pre hps hs) λ_ w' hs=>?_
   obtain ⟨rfl,hs⟩:=hs
   refine zb ?_
   refine z8 (z03k (d:=d) (A:=D') (zfk pre) hs) λ_ w' hs=>?_
   obtain ⟨rfl,hs⟩:=hs
   refine zb ?_
   rw [zvn λf hf=>(hno f hf).2]
   refine z06 ?_ (by simp)
   refine z8 (zpb (p:=a10) pre hps hs) λ_ w' hs=>?_
   obtain ⟨rfl,hs⟩:=hs
   refine zb ?_
   refine z8 (z01a (d:=d) (D:=D') (zfk pre) (λf hf=>(hno f hf).2) hs) λ_ w' hs=>?_
   obtain ⟨rfl,hs⟩:=hs
   refine zb ?_
   exact zj ⟨rfl,hs.sub⟩
  clear hs
  rintro _ w ⟨rfl,hs⟩
  refine zm ?_
  refine zg (λq w'=>Sat w' (pt a10 (.cells #[.pointer (some ⟨lg,0,none⟩),.pointer (some ⟨d,0,none⟩),.string pre,.int .i64 most,.pointer none,.pointer none] T.a31)::dk d D'::lgP lg ⟨d,pre,seg,gap,S⟩::r)) ?_ ?_
  ·refine z06 ?_ (by simp)
   exact zj hs
  clear hs
  rintro _ w hs
  refine zm ?_
  refine z8 (zwh (p:=a10) (d:=d) (D:=D') pre most hps (by omega) (λf hf=>(hno f hf).1) hs) λ_ w' hs=>?_
  obtain ⟨rfl,t,v,hs⟩:=hs
  refine zb ?_
  refine wp_lt ?_
  refine z8 (z02w (lg:=lg) (A:=⟨d,pre,seg,gap,S⟩) (D:=D') hok hhas hlen hall hs) λ_ w' hs=>?_
  obtain ⟨y,outs,rfl,hmap,hs⟩:=hs
  refine zb ?_
  have hmap:outs.map BatM.p=z05 S:=hmap
  have hs:Sat w' (paP a10 (z6c ⟨d,pre,seg,gap,S⟩ most)::slc T.a0 7 y (outs.flatMap zu)::z1q outs::dk d D'::r):=by
   have hs:Sat w' (slc T.a0 7 y (outs.flatMap zu)::z1q outs::lgP lg (z6c ⟨d,pre,seg,gap,S⟩ most).L::dk d D'::pt a10 (.cells #[.pointer (some ⟨lg,0,none⟩),.pointer (some ⟨(z6c ⟨d,pre,seg,gap,S⟩ most).L.d,0,none⟩),.string (z6c ⟨d,pre,seg,gap,S⟩ most).L.pre,.int .i64 (z6c ⟨d,pre,seg,gap,S⟩ most).most,.pointer (some ⟨t,0,none⟩),.pointer (some ⟨v,0,none⟩)] T.a31)::tb t (z6c ⟨d,pre,seg,gap,S⟩ most).T::vw v (z6c ⟨d,pre,seg,gap,S⟩ most).V::r):=hs
   exact z2l (lg:=lg) (t:=t) (v:=v) (z6c ⟨d,pre,seg,gap,S⟩ most) hs
  have hlo:=congrArg List.length hmap
  rw [List.length_map] at hlo
  have hly:=hs.slen y (xs:=outs) (enc:=zu)
  have hov:∀ b ∈ outs,0<=b.base:=λb hb=>by
   have h1:b.p ∈ z05 S:=by rw [<- hmap];exact List.mem_map.2 ⟨b,hb,rfl⟩
   have hv:z03 b=0:=((zg1 (Int.le_refl 0) hok).valid _ h1).1
   exact (z12 b hv).2.2.1.2.1.1
  have hop:zio ⟨d,pre,seg,gap,S⟩ most=outs.foldl z50 (z6c ⟨d,pre,seg,gap,S⟩ most):=by
   unfold zio
   show (z05 S).foldl z50 _=_
   rw [<- hmap,zpn]
  rw [hop]
  generalize z6c ⟨d,pre,seg,gap,S⟩ most=A0 at *
  refine zg (λq w'=>Sat w' (paP a10 (outs.foldl z50 A0)::dk d D'::r)) ?_ ?_
  rotate_left
  ·rintro _ w2 hs
   refine zm ?_
   exact ⟨rfl,a10,rfl,hs⟩
  refine z04 (λm q w=>∃ i:Nat,q=((i:Int),())/\i<=outs.length/\outs.length-i=m/\Sat w (paP a10 ((outs.take i).foldl z50 A0)::slc T.a0 7 y (outs.flatMap zu)::z1q outs::dk d D'::r)) outs.length ⟨0,rfl,by omega,rfl,hs⟩ ?_
  clear hs
  rintro m _ w ⟨i,rfl,hi,hm2,hs⟩
  refine zm ?_
  refine ze (λhc2=>?_) λhc2=>?_
  rotate_left
  ·rw [List.take_of_length_le (by omega)] at hs
   refine zh (zj ?_)
   exact hs.sub
  have hil:i<outs.length:=by omega
  have hb0:=hov _ (List.getElem_mem hil)
  have hbr:FocR (z1q outs::dk d D'::r) outs[i].x 4 (outs[i].rs.flatMap z02):=zck (List.getElem_mem hil)
  have htk:outs.take (i+1)=outs.take i++[outs[i]]:=by rw [List.take_add_one,List.getElem?_eq_getElem hil,Option.toList_some]
  refine z68 hs i hil ?_
  refine zt hs λa33 w' hs=>?_
  refine zv hs λw' hs=>?_
  refine za hs ?_
  refine zg (λq w'=>Sat w' (paP a10 ((outs.take (i+1)).foldl z50 A0)::slc T.a0 7 y (outs.flatMap zu)::z1q outs::dk d D'::r)) ?_ ?_
  ·refine z0g ?_ (by simpa using hb0)
   refine zi hs ?_
   refine z8 (zpe (p:=a10) (A:=(outs.take i).foldl z50 A0) outs[i] hs) λ_ w' hs=>?_
   obtain ⟨rfl,hs⟩:=hs
   refine zb ?_
   refine zj ?_
   rw [htk,List.foldl_append,List.foldl_cons,List.foldl_nil]
   exact hs.sub
  clear hs
  rintro _ w hs
  refine zm ?_
  refine z3c (us':=[.int .i64 ((i+1:Nat):Int)]) (by (try simp (disch:=omega) only [w64]);first|rfl|(congr;omega)) ?_
  exact z16 (outs.length-(i+1)) ⟨i+1,rfl,by omega,rfl,hs⟩
end
theorem zy1 (A:PartA) (D:DiskA) (b:BatM):(z0z A D b).2.1.L.d=A.L.d/\(z0z A D b).2.1.L.pre=A.L.pre/\(z0z A D b).2.1.L.seg=A.L.seg/\(z0z A D b).2.1.L.gap=A.L.gap/\(z0z A D b).2.1.most=A.most:=by
 unfold z0z
 split
 ·exact ⟨rfl,rfl,rfl,rfl,rfl⟩
 unfold zq1
 split
 ·exact ⟨rfl,rfl,rfl,rfl,rfl⟩
 split
 ·exact ⟨rfl,rfl,rfl,rfl,rfl⟩
 ·exact ⟨rfl,rfl,rfl,rfl,rfl⟩
theorem zpd {A:PartA} {D:DiskA} (b:BatM) (hp:z3q A.L.pre=true) (h:Cpl A.L.pre A.L.l D):Cpl A.L.pre (z0z A D b).2.1.L.l (z0z A D b).2.2:=by
 unfold z0z
 split
 ·exact h
 have h1:=(zdv A.L.seg [b.to (zq A.L.l)] hp h).1
 unfold zq1
 split
 ·exact h1
 split
 ·exact (z7u h1).1
 ·exact (z7u h1).1
section
variable {w:World} {l r:List HP} {p d:Nat} {A:PartA} {D:DiskA}
theorem zue (b:BatM) {r1:List HP} [hf:Fo l paP p A r1] [hf2:Fo r1 dk A.L.d D r] (hb:FocR r b.x 4 (b.rs.flatMap z02)) (h:Cpl A.L.pre A.L.l D) (hr:b.rs.length<=1000000) (hm:z0h b=false) (hs:Sat w l) :
  Ret P F.a85 #[.pointer (some ⟨p,0,none⟩),.agg (zu b).toArray] w λvs w'=>vs=[.int .i64 (z0z A D b).1.1,.bool (z0z A D b).1.2.1,.int .i64 (z0z A D b).1.2.2]/\Sat w' (paP p (z0z A D b).2.1::dk A.L.d (z0z A D b).2.2::r):=by
 obtain ⟨h1,h2,h3⟩:=h.len
 exact zuf b hb (by omega) h.segs (λs hs=>by have:=h3 s hs;omega) hr hm hs
theorem z01d (pid epoch:Int) (commit:Bool) (time:Int) {r1:List HP} [hf:Fo l paP p A r1] [hf2:Fo r1 dk A.L.d D r] (h:Cpl A.L.pre A.L.l D) (hs:Sat w l) :
  Ret P F.a91 #[.pointer (some ⟨p,0,none⟩),.int .i64 pid,.int .i64 epoch,.bool commit,.int .i64 time] w λvs w'=>vs=[.int .i64 (z0z A D (z4c pid epoch commit time ⟨none,0,0⟩)).1.1,.bool (z0z A D (z4c pid epoch commit time ⟨none,0,0⟩)).1.2.1,.int .i64 (z0z A D (z4c pid epoch commit time ⟨none,0,0⟩)).1.2.2]/\Sat w' (paP p (z0z A D (z4c pid epoch commit time ⟨none,0,0⟩)).2.1::dk A.L.d (z0z A D (z4c pid epoch commit time ⟨none,0,0⟩)).2.2::r):=by
 obtain ⟨h1,h2,h3⟩:=h.len
 exact z018 pid epoch commit time (by omega) h.segs (λs hs=>by have:=h3 s hs;omega) hs
theorem zgk (off most:Int) (c:Bool) (ho : -9223372036854775808<=off/\off<9223372036854775808) (hmo:most<9223372036854775808) {r1:List HP} [hf:Fo l paP p A r1] [hf2:Fo r1 dk A.L.d D r] (h:Cpl A.L.pre A.L.l D) (hs:Sat w l) :
  Ret P F.a93 #[.pointer (some ⟨p,0,none⟩),.int .i64 off,.int .i64 most,.bool c] w λvs w'=>∃ z:Sl,vs=[z.v,.int .i64 (z35 A off most c).1.2,.int .i64 (z35 A off most c).2]/\Sat w' (slc T.a32 5 z ((z35 A off most c).1.1.flatMap z23)::paP p A::dk A.L.d D::r):=by
 obtain ⟨h1,h2,h3⟩:=h.len
 exact z01g off most c ho hmo h.segs h.has (by omega) (by omega) hs
theorem z01e (pre:ByteArray) (seg gap most:Int) (hp:z3q pre=true) (hc:zey seg gap) (hm:1<=most/\most<=1024) (hg:D.gone=false) {S:List SegA} (h:Cpl pre S D) (hno:∀ f ∈ D.fs,f.name≠zfg pre/\f.name≠zfk pre) [hf:Fo l dk d D r] (hs:Sat w l) :
  Ret P F.a84 #[.pointer (some ⟨d,0,none⟩),.string pre,.agg #[.int .i64 seg,.int .i64 gap,.int .i64 most]] w λvs w'=>∃ p:Nat,vs=[.pointer (some ⟨p,0,none⟩),.int .i64 0]/\Sat w' (paP p (zio ⟨d,pre,seg,gap,S⟩ most)::dk d D::r):=by
 obtain ⟨h1,h2,h3⟩:=h.len
 exact zwi pre seg gap most hp hc hm hg S D h.opened hno h.segs h.has (by omega) (by omega) hs
end
def kR:List RecM:=[⟨ByteArray.mk #[107],ByteArray.mk #[],false,0⟩]
def kB (x:Sl):BatM:=⟨0,3,0,0,1,0,x,kR⟩
def kA (d:Nat):PartA:=z6c ⟨d,aP,100,9,[]⟩ 4
def kD:DiskA:=⟨10000,-1,false,[]⟩
def kM:BatM:=z4c 3 0 true 0 ⟨none,0,0⟩
theorem k1 (d:Nat) (x:Sl):(z0z (kA d) kD (kB x)).1=(0,false,0):=by kernel_rfl
section
variable {d:Nat} {x:Sl} {S U:PartA × DiskA}
theorem k2 (h:S=(z0z (kA d) kD (kB x)).2):z0z S.1 S.2 (kB x)=((0,true,0),S):=by subst h;kernel_rfl
theorem k3 (h:S=(z0z (kA d) kD (kB x)).2):z35 S.1 0 9 true=(([],0),0):=by subst h;kernel_rfl
theorem k4 (h:S=(z0z (kA d) kD (kB x)).2):((z35 S.1 0 9 false).1.1.length,(z35 S.1 0 9 false).1.2,(z35 S.1 0 9 false).2)=(1,1,0):=by subst h;kernel_rfl
theorem k5 (h:S=(z0z (kA d) kD (kB x)).2):(z0z S.1 S.2 kM).1=(1,false,0):=by subst h;kernel_rfl
theorem k6 (h:S=(z0z (kA d) kD (kB x)).2) (h2:U=(z0z S.1 S.2 kM).2):((z35 U.1 0 9 true).1.1.length,(z35 U.1 0 9 true).1.2,(z35 U.1 0 9 true).2)=(1,2,0):=by subst h h2;kernel_rfl
theorem k7 (h:S=(z0z (kA d) kD (kB x)).2):S.1.L.d=d/\S.1.L.pre=aP/\Cpl aP S.1.L.l S.2:=by
 have h1:=zy1 (kA d) kD (kB x)
 have h2:=zpd (A:=kA d) (D:=kD) (kB x) (by kernel_rfl) (zbo aP 10000 (by omega))
 rw [<- h] at h1 h2
 exact ⟨h1.1,h1.2.1,h2⟩
theorem k8 (h:S.1.L.d=d/\S.1.L.pre=aP/\Cpl aP S.1.L.l S.2) (h2:U=(z0z S.1 S.2 kM).2):U.1.L.d=d/\U.1.L.pre=aP/\Cpl aP U.1.L.l U.2:=by
 obtain ⟨g1,g2,g3⟩:=h
 have h1:=zy1 S.1 S.2 kM
 rw [<- g2] at g3
 have h3:=zpd (A:=S.1) (D:=S.2) kM (by rw [g2];kernel_rfl) g3
 rw [<- h2] at h1 h3
 exact ⟨h1.1.trans g1,h1.2.1.trans g2,by rw [g2] at h3;exact h3⟩
end
section
variable {w:World} {l r:List HP} {p d:Nat} {A:PartA} {D:DiskA}
theorem zxw {w:World} {d e:Nat} {D:DiskA} {X:HP} {l:List HP} (h:e=d) (hs:Sat w (X::dk d D::l)):Sat w (X::dk e D::l):=by rw [h];exact hs
theorem zud {x:List AtM × Int} {e:Int} {n:Nat} {k m:Int} (h:(x.1.length,x.2,e)=(n,k,m)):x.1.length=n/\x.2=k/\e=m:=by
 simp only [Prod.mk.injEq] at h
 exact h
set_option maxHeartbeats 1000000 in
theorem zta (hs:Sat w l):Ret P F.a218 #[] w λvs w'=>vs=[.bool true]/\Sat w' l :=
 z91 <| by
  unfold z7x
  refine z8 (z032 10000 (by omega) hs) λ_ w' hs=>?_
  obtain ⟨d,rfl,hs⟩:=hs
  refine ⟨(some ⟨d,0,none⟩,0,()),rfl,trivial,z4g _ _ ?_⟩
  refine wp_lt ?_
  have hs:Sat w' (dk d kD::l):=hs
  have hp0:z3q aP=true:=by kernel_rfl
  refine z8 (z01e (d:=d) (D:=kD) aP 100 9 4 hp0 ⟨by decide,by decide⟩ (by omega) rfl (zbo aP 10000 (by omega)) (λf hf=>by cases hf) hs) λ_ w' hs=>?_
  obtain ⟨p,rfl,hs⟩:=hs
  refine ⟨(some ⟨p,0,none⟩,0,()),rfl,trivial,z4g _ _ ?_⟩
  refine wp_lt ?_
  refine z06 ?_ (by simp)
  have hs:Sat w' (paP p (kA d)::dk d kD::l):=hs
  refine zpt hs (enc:=z02) kR λx w' hs=>?_
  refine zt hs λa w' hs=>?_
  refine zv hs λw' hs=>?_
  have hb:FocR (pt a (.cells #[.int .i64 0,.int .i64 3,.int .i64 0,.int .i64 0,.int .i64 1,.int .i64 0,.slice x.a x.len x.cap] T.a0)::slc T.a2 4 x (kR.flatMap z02)::l) (kB x).x 4 ((kB x).rs.flatMap z02) :=
   (FocR.tail (h:=FocR.head):FocR (pt a (.cells #[.int .i64 0,.int .i64 3,.int .i64 0,.int .i64 0,.int .i64 1,.int .i64 0,.slice x.a x.len x.cap] T.a0)::slc T.a2 4 x (kR.flatMap z02)::l) x 4 (kR.flatMap z02))
  have hs:Sat w' (pt a (.cells #[.int .i64 0,.int .i64 3,.int .i64 0,.int .i64 0,.int .i64 1,.int .i64 0,.slice x.a x.len x.cap] T.a0)::slc T.a2 4 x (kR.flatMap z02)::paP p (kA d)::dk d kD::l):=hs
  have c0:Cpl aP [] kD:=zbo aP 10000 (by omega)
  obtain ⟨S,hS⟩:∃ S,S=(z0z (kA d) kD (kB x)).2:=⟨_,rfl⟩
  obtain ⟨U,hU⟩:∃ U,U=(z0z S.1 S.2 kM).2:=⟨_,rfl⟩
  have e1:=k1 d x
  have e2:=k2 hS
  have e3:=k3 hS
  have e4:=k4 hS
  have e5:=k5 hS
  have e6:=k6 hS hU
  have e7:=k7 hS
  obtain ⟨g3,g4,c2⟩:=k8 e7 hU
  obtain ⟨g1,g2,c1⟩:=e7
  rw [<- g2] at c1
  rw [<- g4] at c2
  have hrl:(kB x).rs.length<=1000000:=by show 1<=_;omega
  refine zi hs ?_
  have hs:Sat w' (paP p (kA d)::dk (kA d).L.d kD::pt a (.cells #[.int .i64 0,.int .i64 3,.int .i64 0,.int .i64 0,.int .i64 1,.int .i64 0,.slice x.a x.len x.cap] T.a0)::slc T.a2 4 x (kR.flatMap z02)::l):=hs.pick [2,2]
  refine z8 (zue (p:=p) (A:=kA d) (D:=kD) (kB x) hb c0 hrl rfl hs) λ_ w' hs=>?_
  obtain ⟨hv,hs⟩:=hs
  rw [e1] at hv
  rw [<- hS] at hs
  subst hv
  refine ⟨(0,false,0,()),rfl,trivial,z7p _ _ _ ?_⟩
  refine wp_lt ?_
  refine wp_lt ?_
  refine wp_lt ?_
  have hs:Sat w' (paP p S.1::dk d S.2::pt a (.cells #[.int .i64 0,.int .i64 3,.int .i64 0,.int .i64 0,.int .i64 1,.int .i64 0,.slice x.a x.len x.cap] T.a0)::slc T.a2 4 x (kR.flatMap z02)::l):=hs
  refine zi hs ?_
  have hs:=zxw g1 hs
  refine z8 (zue (p:=p) (A:=S.1) (D:=S.2) (kB x) hb c1 hrl rfl hs) λ_ w' hs=>?_
  obtain ⟨hv,hs⟩:=hs
  rw [e2] at hv hs
  subst hv
  refine ⟨(0,true,0,()),rfl,trivial,z7p _ _ _ ?_⟩
  refine wp_lt ?_
  refine wp_lt ?_
  refine wp_lt ?_
  refine z8 (zgk (p:=p) (A:=S.1) (D:=S.2) 0 9 true (by omega) (by omega) c1 hs) λ_ w' hs=>?_
  obtain ⟨z1,hv,hs⟩:=hs
  rw [e3] at hv hs
  subst hv
  refine ⟨(z1,0,0,()),rfl,trivial,z7p _ _ _ ?_⟩
  have hz1:=hs.slen z1 (xs:=([]:List AtM)) (enc:=z23)
  have hs:=hs.tail
  refine wp_lt ?_
  refine wp_lt ?_
  refine z8 (zgk (p:=p) (A:=S.1) (D:=S.2) 0 9 false (by omega) (by omega) c1 hs) λ_ w' hs=>?_
  obtain ⟨z2,hv,hs⟩:=hs
  obtain ⟨q1,q2,q3⟩:=zud e4
  have hz2:=hs.slen z2 (xs:=(z35 S.1 0 9 false).1.1) (enc:=z23)
  rw [q1] at hz2
  rw [q2,q3] at hv
  subst hv
  refine ⟨(z2,1,0,()),rfl,trivial,z7p _ _ _ ?_⟩
  have hs:=hs.tail
  refine wp_lt ?_
  refine wp_lt ?_
  refine z8 (z01d (p:=p) (A:=S.1) (D:=S.2) 3 0 true 0 c1 hs) λ_ w' hs=>?_
  obtain ⟨hv,hs⟩:=hs
  have hs:Sat w' (paP p (z0z S.1 S.2 kM).2.1::dk S.1.L.d (z0z S.1 S.2 kM).2.2::_):=hs
  rw [<- hU] at hs
  have hv:_=[Value.int .i64 (z0z S.1 S.2 kM).1.1,Value.bool (z0z S.1 S.2 kM).1.2.1,Value.int .i64 (z0z S.1 S.2 kM).1.2.2]:=hv
  rw [e5] at hv
  subst hv
  refine ⟨(1,false,0,()),rfl,trivial,z7p _ _ _ ?_⟩
  have hs:Sat w' (paP p U.1::dk S.1.L.d U.2::pt a (.cells #[.int .i64 0,.int .i64 3,.int .i64 0,.int .i64 0,.int .i64 1,.int .i64 0,.slice x.a x.len x.cap] T.a0)::slc T.a2 4 x (kR.flatMap z02)::l):=hs
  refine wp_lt ?_
  refine wp_lt ?_
  refine wp_lt ?_
  have hs:=zxw (g3.trans g1.symm) hs
  refine z8 (zgk (p:=p) (A:=U.1) (D:=U.2) 0 9 true (by omega) (by omega) c2 hs) λ_ w' hs=>?_
  obtain ⟨z3,hv,hs⟩:=hs
  obtain ⟨q1,q2,q3⟩:=zud e6
  have hz3:=hs.slen z3 (xs:=(z35 U.1 0 9 true).1.1) (enc:=z23)
  rw [q1] at hz3
  rw [q2,q3] at hv
  subst hv
  refine ⟨(z3,2,0,()),rfl,trivial,z7p _ _ _ ?_⟩
  refine wp_lt ?_
  refine wp_lt ?_
  refine wp_lt ?_
  refine ⟨rfl,?_,hs.tail.tail.tail.tail.tail⟩
  rw [hz1,hz2,hz3]
  rfl
theorem z014 (b:BatM) (hs:Sat w l):Ret P F.a85 #[.pointer none,.agg (zu b).toArray] w λvs w'=>vs=[.int .i64 0,.bool false,.int .i64 1]/\Sat w' l :=
 zfu _ b.base b.pid b.epoch b.seq b.kind b.time b.x <| by
  delta zxm AH Aa Ab Ac Ad Ae Af Ag Ah Ao Ap
  refine zn hs λa0 w' hs=>?_
  refine wp_lt ?_
  refine z0g ?_ (by simp)
  exact ⟨rfl,rfl,hs.tail⟩
theorem zw5 (a b:Int) (c:Bool) (e:Int) (hs:Sat w l):Ret P F.a91 #[.pointer none,.int .i64 a,.int .i64 b,.bool c,.int .i64 e] w λvs w'=>vs=[.int .i64 0,.bool false,.int .i64 1]/\Sat w' l :=
 zfw _ _ _ _ _ <| by
  delta zxo AG Aa Ad Ae Af Ag Ah Ak Ap
  refine z0g ?_ (by simp)
  exact ⟨rfl,rfl,hs⟩
theorem z015 (b:BatM) (hs:Sat w l):Ret P F.a86 #[.pointer none,.agg (zu b).toArray] w λvs w'=>vs=[.bool false,.int .i64 1]/\Sat w' l :=
 zt1 _ b.base b.pid b.epoch b.seq b.kind b.time b.x <| by
  delta z05c AC AD AT AU AV AW Aa Ab Ac Ad Af Ag Ah Ak Am Ap
  refine zn hs λa0 w' hs=>?_
  refine z0g ?_ (by simp)
  exact ⟨rfl,rfl,hs.tail⟩
theorem zuj (a b:Int) (c:Bool) (hs:Sat w l):Ret P F.a93 #[.pointer none,.int .i64 a,.int .i64 b,.bool c] w λvs w'=>vs=[.slice none 0 0,.int .i64 0,.int .i64 1]/\Sat w' l :=
 zfy _ _ _ _ <| by
  delta zxq AB AC AD AF AI AJ AK AL AM AN AO AP AQ AR Aa Ac Ad Af Ah Aj Ak Al Am An Ap
  refine z0g ?_ (by simp)
  exact ⟨rfl,rfl,hs⟩
theorem zqx (a:Int) (hs:Sat w l):Ret P F.a89 #[.pointer none,.int .i64 a] w λvs w'=>vs=[.int .i64 0,.int .i64 1]/\Sat w' l :=
 zt4 _ _ <| by
  delta z05f AI AJ AT AX Ad Af Ah Ak Al Am An Ap
  refine z0g ?_ (by simp)
  exact ⟨rfl,rfl,hs⟩
theorem zlk (a:Int) (hs:Sat w l):Ret P F.a88 #[.pointer none,.int .i64 a] w λvs w'=>vs=[.int .i64 0,.int .i64 1]/\Sat w' l :=
 zt3 _ _ <| by
  delta z05e AB AC AD AF AI AJ AK AL AN AQ AR AS Aa Ac Ad Af Ah Ak Al Am An Ap Ar
  refine z0g ?_ (by simp)
  exact ⟨rfl,rfl,hs⟩
theorem zk2 (hs:Sat w l):Ret P F.a94 #[.pointer none] w λvs w'=>vs=[.int .i64 1]/\Sat w' l :=
 zt5 _ <| by
  delta z05g AI AJ Ad Af Ah Ak Am Ap
  refine z0g ?_ (by simp)
  exact ⟨rfl,rfl,hs⟩
theorem zr2 (hs:Sat w l):Ret P F.a90 #[.pointer none] w λvs w'=>vs=[.int .i64 0]/\Sat w' l :=
 zfv _ <| by
  delta zxn AI AJ Ad Af Ah Ak Am Ap
  refine z0g ?_ (by simp)
  exact ⟨rfl,rfl,hs⟩
theorem zui (hs:Sat w l):Ret P F.a92 #[.pointer none] w λvs w'=>vs=[.int .i64 0]/\Sat w' l :=
 zfx _ <| by
  delta zxp AI AJ Ad Af Ah Ak Am Ap
  refine z0g ?_ (by simp)
  exact ⟨rfl,rfl,hs⟩
theorem zln (hs:Sat w l):Ret P F.a95 #[.pointer none] w λvs w'=>vs=[.int .i64 0]/\Sat w' l :=
 zfz _ <| by
  delta zxr AI AJ Ad Af Ah Ak Al Am An Ap
  refine z0g ?_ (by simp)
  exact ⟨rfl,rfl,hs⟩
theorem zkc (hs:Sat w l):Ret P F.a87 #[.pointer none] w λvs w'=>vs=[.slice none 0 0]/\Sat w' l :=
 zt2 _ <| by
  delta z05d AI AJ Ad Ak An Ap
  refine z0g ?_ (by simp)
  exact ⟨rfl,rfl,hs⟩
theorem z06d (b:BatM) (offset most:Int) (hs:Sat w l):Ret P F.a217 #[.agg (zu b).toArray,.int .i64 offset,.int .i64 most] w λvs w'=>vs=[.bool true]/\Sat w' l :=
 znr b.base b.pid b.epoch b.seq b.kind b.time b.x offset most <| by
  delta zzs Aa Ab Ac Ad Ae Af Ag Ah Ai Aj Ak Al Am An Ao Ap
  refine zn hs λa0 w' hs=>?_
  refine zi hs ?_
  refine z8 (z014 b hs) λ_ w' hs=>?_
  obtain ⟨rfl,hs⟩:=hs
  refine ⟨(0,false,1,()),rfl,trivial,z7p _ _ _ ?_⟩
  refine wp_lt ?_
  refine wp_lt ?_
  refine wp_lt ?_
  refine z8 (zw5 _ _ _ _ hs) λ_ w' hs=>?_
  obtain ⟨rfl,hs⟩:=hs
  refine ⟨(0,false,1,()),rfl,trivial,z7p _ _ _ ?_⟩
  refine wp_lt ?_
  refine wp_lt ?_
  refine wp_lt ?_
  refine zi hs ?_
  refine z8 (z015 b hs) λ_ w' hs=>?_
  obtain ⟨rfl,hs⟩:=hs
  refine ⟨(false,1,()),rfl,trivial,z4g _ _ ?_⟩
  refine wp_lt ?_
  refine wp_lt ?_
  refine z8 (zuj _ _ _ hs) λ_ w' hs=>?_
  obtain ⟨rfl,hs⟩:=hs
  refine ⟨(⟨none,0,0⟩,0,1,()),rfl,trivial,z7p _ _ _ ?_⟩
  refine wp_lt ?_
  refine wp_lt ?_
  refine z8 (zqx _ hs) λ_ w' hs=>?_
  obtain ⟨rfl,hs⟩:=hs
  refine ⟨(0,1,()),rfl,trivial,z4g _ _ ?_⟩
  refine wp_lt ?_
  refine wp_lt ?_
  refine z8 (zlk _ hs) λ_ w' hs=>?_
  obtain ⟨rfl,hs⟩:=hs
  refine ⟨(0,1,()),rfl,trivial,z4g _ _ ?_⟩
  refine wp_lt ?_
  refine wp_lt ?_
  have hs:=hs.tail
  refine zg (λq w'=>q=(true,())/\Sat w' l) ?_ ?_
  rotate_left
  ·rintro _ w2 ⟨rfl,hs⟩
   refine zm ?_
   exact ⟨rfl,rfl,hs⟩
  refine z0g ?_ (by simp)
  refine z8 (zk2 hs) λ_ w' hs=>?_
  obtain ⟨rfl,hs⟩:=hs
  refine zb ?_
  refine z0g ?_ (by simp)
  refine z8 (zr2 hs) λ_ w' hs=>?_
  obtain ⟨rfl,hs⟩:=hs
  refine zb ?_
  refine z0g ?_ (by simp)
  refine z8 (zui hs) λ_ w' hs=>?_
  obtain ⟨rfl,hs⟩:=hs
  refine zb ?_
  refine z0g ?_ (by simp)
  refine z8 (zln hs) λ_ w' hs=>?_
  obtain ⟨rfl,hs⟩:=hs
  refine zb ?_
  refine z0g ?_ (by simp)
  refine z8 (zkc hs) λ_ w' hs=>?_
  obtain ⟨rfl,hs⟩:=hs
  refine ⟨(⟨none,0,0⟩,()),rfl,trivial,?_⟩
  refine zm ?_
  refine z0g ?_ (by simp)
  refine z8 (zta hs) λ_ w' hs=>?_
  obtain ⟨rfl,hs⟩:=hs
  refine zb ?_
  refine wp_lt ?_
  exact zj ⟨rfl,hs⟩
end
open Go.ChangeShapes Go.WideShapes Go.RowKit Go.Deep
section
variable {H:Type} {enc:TypeId × Value->H} {P:Program} {w:World} {base:Nat} {spare:Nat->Bool} {held:Bool}
theorem zfm {t e:TypeId} {fuel:Nat} {v:Value} {y:DataW H × List MemPlace} (ht:P.underlying t=some (.slice e)) (hd:DataW.trod enc P w base spare held fuel t [v]=some y):∃ x:Sl,v=.slice x.a x.len x.cap:=by
 rcases DataW.trod_slice ht hd with ⟨hcs,-⟩|⟨a,len,cap,elems,rest,n,_,hcs,-⟩
 ·exact ⟨⟨none,0,0⟩,by simpa using hcs⟩
 ·exact ⟨⟨some a,len,cap⟩,by simpa using hcs⟩
theorem z06m {r:Reach} {b0:Nat} {t e:TypeId} {f0 f1 f2 f3 f4 f5 f6:Field} {v:Value} {d:DataW H} {ps:List MemPlace} (ht:P.underlying t=some (.struct #[f0,f1,f2,f3,f4,f5,f6]))
  (hone:oneCellFields P #[f0,f1,f2,f3,f4,f5,f6]=true) (hC:P.cellsOf t=7) (k0:P.underlying f0.type=some (.int .i64)) (k1:P.underlying f1.type=some (.int .i64)) (k2:P.underlying f2.type=some (.int .i64)) (k3:P.underlying f3.type=some (.int .i64))
  (k4:P.underlying f4.type=some (.int .i64)) (k5:P.underlying f5.type=some (.int .i64)) (k6:P.underlying f6.type=some (.slice e))
  (hval:Value.okWide P w r b0 t v) (hd:DataW.Trod enc P w base spare held t v d ps):∃ b:BatM,v=.agg (zu b).toArray:=by
 obtain ⟨cs,rfl,hsz⟩:=okWide_struct ht hval
 obtain ⟨fuel,hf⟩:=hd
 obtain ⟨ys,n',hn',hy,hlen,hyl,hf⟩:=DataW.trod_struct ht hf
 have hcs:(Value.agg cs).cells.toList=cs.toList:=rfl
 rw [hcs] at hlen hf
 rw [hC] at hlen
 have one:∀ (j:Nat) (f:Field),#[f0,f1,f2,f3,f4,f5,f6][j]? = some f->∃ (u:Value) (y:DataW H × List MemPlace),cs.toList[j]? = some u/\DataW.trod enc P w base spare held n' f.type [u]=some y:=λj f hj=>by
  obtain ⟨ho,hk⟩:=hone_of hone j f hj
  have hjl:j<7:=(Array.getElem?_eq_some_iff.1 hj).1
  have h1:=hf j f hj
  rw [ho,hk] at h1
  have hone':(cs.toList.drop j).take 1=[cs.toList[j]'(by omega)]:=by
   rw [List.drop_eq_getElem_cons (by omega)];rfl
  have hyl:ys.length=7:=hyl
  rw [hone',List.getElem?_eq_getElem (by omega)] at h1
  exact ⟨_,_,List.getElem?_eq_getElem (by omega),h1⟩
 match hcl:cs.toList,hlen with
 | [v0,v1,v2,v3,v4,v5,v6],_ =>
  rw [hcl] at one
  obtain ⟨u0,y0,e0,h0⟩:=one 0 f0 rfl
  obtain ⟨u1,y1,e1,h1⟩:=one 1 f1 rfl
  obtain ⟨u2,y2,e2,h2⟩:=one 2 f2 rfl
  obtain ⟨u3,y3,e3,h3⟩:=one 3 f3 rfl
  obtain ⟨u4,y4,e4,h4⟩:=one 4 f4 rfl
  obtain ⟨u5,y5,e5,h5⟩:=one 5 f5 rfl
  obtain ⟨u6,y6,e6,h6⟩:=one 6 f6 rfl
  obtain rfl:v0=u0:=by simpa using e0
  obtain rfl:v1=u1:=by simpa using e1
  obtain rfl:v2=u2:=by simpa using e2
  obtain rfl:v3=u3:=by simpa using e3
  obtain rfl:v4=u4:=by simpa using e4
  obtain rfl:v5=u5:=by simpa using e5
  obtain rfl:v6=u6:=by simpa using e6
  obtain ⟨n0,q0,-,-⟩:=DataW.trod_int k0 h0
  obtain ⟨n1,q1,-,-⟩:=DataW.trod_int k1 h1
  obtain ⟨n2,q2,-,-⟩:=DataW.trod_int k2 h2
  obtain ⟨n3,q3,-,-⟩:=DataW.trod_int k3 h3
  obtain ⟨n4,q4,-,-⟩:=DataW.trod_int k4 h4
  obtain ⟨n5,q5,-,-⟩:=DataW.trod_int k5 h5
  obtain ⟨x,q6⟩:=zfm k6 h6
  simp only [List.cons.injEq,and_true] at q0 q1 q2 q3 q4 q5
  subst q0 q1 q2 q3 q4 q5 q6
  refine ⟨⟨n0,n1,n2,n3,n4,n5,x,[]⟩,?_⟩
  congr 1
  apply Array.ext'
  rw [hcl];rfl
end
end Go.Dec
